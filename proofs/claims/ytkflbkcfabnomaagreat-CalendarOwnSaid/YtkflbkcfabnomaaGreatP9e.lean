import Derived.Test.YtkflbkcfabnomaaGreatP9d
namespace Go.Proofs.YtkflbkcfabnomaaGreat.R
set_option linter.unusedVariables false
set_option linter.unusedSimpArgs false
section
def okB (b:Bk):Prop:=formB b=true∧∀ r∈b.list,resMayB b r=true
theorem listMay_all {b:Bk}:∀ {p:Option Int} {rs:List Rs},listMay b p rs=true→∀ r∈rs,resMayB b r=true
 |_,[],_,r,hr=>(List.not_mem_nil hr).elim
 |p,q::rs,h,r,hr=>by
  simp only [listMay,bA] at h
  rcases List.mem_cons.1 hr with rfl|hr
  ·exact h.1
  ·exact listMay_all h.2.2 r hr
theorem resMay_parts {b:Bk} {r:Rs} (h:resMayB b r=true):spanMay r.1=true∧b.now<r.1.2∧(1≤r.id∧r.id<b.next)∧(0≤r.owner∧r.owner<4)∧(1≤(r.pcs.length:Int)∧(r.pcs.length:Int)≤b.segs)∧wholeL r.1.2 r.1.1 r.pcs=true∧∀ p∈r.pcs,mayB b.1 r.src r.dst r.rate p.2=true∧spanMay p.1=true:=by
 unfold resMayB at h
 simp only [bA,dE,List.all_eq_true] at h
 obtain ⟨h1,h2,h3,h4,h5,h6,h7⟩:=h
 exact ⟨h1,h2,h3,h4,h5,h6,fun p hp=>⟨h7 p hp,wholeL_spans _ _ _ h6 p hp⟩⟩
theorem form_parts {b:Bk} (h:formB b=true):graphMay b.1=true∧(1≤b.segs∧b.segs≤8)∧(0≤b.now∧b.now≤4096)∧(1≤b.next∧b.next≤1048577)∧b.list.length≤8:=by
 unfold formB at h
 simpa only [bA,dE] using h
theorem graph_parts {g:Gr} (h:graphMay g=true):g.2.length≤16∧∀ l∈g.2,0≤l.2.2∧l.2.2≤maxRate:=by
 unfold graphMay shapeB at h
 simp only [bA,dE] at h
 refine ⟨h.1.2.1,fun l hl=>?_⟩
 obtain ⟨s,hs⟩:=Option.isSome_iff_exists.1 h.2
 exact (sumUp_lo _ _ _ hs (by omega) (by decide)).2.2 l.2.2 (List.mem_map_of_mem hl)
theorem capAt_in {b:Bk} (h:graphMay b.1=true) {i:Nat} (hi:i<b.1.2.length):capAt b i=b.1.2[i].2.2∧0≤capAt b i∧capAt b i≤maxRate:=by
 have:capAt b i=b.1.2[i].2.2:=by
  unfold capAt
  rw [rd_some (t:=tLk) (gE hi)]
 rw [this]
 exact ⟨rfl,(graph_parts h).2 _ (List.getElem_mem hi)⟩
theorem pcs_few {b:Bk} (h:okB b):∀ r∈b.list,r.pcs.length≤8:=by
 intro r hr
 have h1:=(resMay_parts (h.2 r hr)).2.2.2.2.1
 have h2:=(form_parts h.1).2.1
 omega
theorem okB_few {b:Bk} (h:okB b):fewB b=true:=by
 unfold fewB
 rw [dT (graph_parts (form_parts h.1).1).1,dT (form_parts h.1).2.2.2.2,tA,tA]
 exact List.all_eq_true.2 fun r hr=>dT (pcs_few h r hr)
theorem okB_good {b:Bk} (h:okB b):b.list.all goodR=true:=by
 refine List.all_eq_true.2 fun r hr=>?_
 unfold goodR
 rw [show decide (r.pcs.length≤8)=true from dT (pcs_few h r hr),tA]
 refine List.all_eq_true.2 fun p hp=>?_
 obtain ⟨h1,h2⟩:=goodPt_of ((resMay_parts (h.2 r hr)).2.2.2.2.2.2 p hp).1
 unfold goodPc
 rw [dT h1,h2]
 rfl
theorem wtsB_is {b:Bk} (but:Int) {i:Nat} (hi:i<b.1.2.length) (t:Int):∀ (rs:List Rs),(∀ r∈rs,resMayB b r=true∧r.pcs.length≤8) →
  sumW (wtsB b.1 but i rs) t=loadRs i t but rs∧(wtsB b.1 but i rs).all weightMay=true∧(wtsB b.1 but i rs).length≤8*rs.length∧∀ w∈wtsB b.1 but i rs,∃ r∈rs,r.id ≠ but∧∃ p∈r.pcs,w.1=p.1
 | [],_=>⟨rfl,rfl,Nat.le_refl _,fun w hw=>(List.not_mem_nil hw).elim⟩
 |r::rs,h=>by
  obtain ⟨h1,h2,h3,h4⟩:=wtsB_is but hi t rs fun q hq=>h q (List.mem_cons_of_mem _ hq)
  have hr:=h r (by simp)
  rw [loadRs_cons]
  cases hb:r.id==but with
  |true =>
   have:wtsB b.1 but i (r::rs)=wtsB b.1 but i rs:=by
    unfold wtsB
    rw [List.filter_cons,if_neg (by simp only [bne];rw [hb];simp)]
   rw [this,cond_true,Int.zero_add]
   refine ⟨h1,h2,by rw [List.length_cons];omega,fun w hw=>?_⟩
   obtain ⟨q,hq,e⟩:=h4 w hw
   exact ⟨q,List.mem_cons_of_mem _ hq,e⟩
  |false =>
   have:wtsB b.1 but i (r::rs)=wtsR b.1 i r++wtsB b.1 but i rs:=by
    unfold wtsB
    rw [List.filter_cons,if_pos (by simp only [bne];rw [hb];rfl),List.flatMap_cons]
   obtain ⟨h5,h6⟩:=wtsR_at hi t r.pcs (resMay_parts hr.1).2.2.2.2.2.2
   have hlen:∀ (ps:List Pc),(ps.flatMap (wtsP b.1 i)).length≤ps.length:=by
    intro ps
    induction ps with
    |nil=>exact Nat.le_refl _
    |cons p ps ih =>
     have:=wtsP_len b.1 p i
     rw [List.flatMap_cons,lA,List.length_cons]
     omega
   have hl:=hlen r.pcs
   rw [this,cond_false]
   refine ⟨?_,?_,?_,fun w hw=>?_⟩
   ·unfold sumW
    rw [loadsAt_append]
    show (loadsAt (r.pcs.flatMap (wtsP b.1 i)) t).sum+_=_
    rw [h5]
    congr 1
   ·rw [List.all_append,h2,Bool.and_true]
    exact List.all_eq_true.2 fun w hw=>(h6 w hw).1
   ·rw [lA,List.length_cons]
    have:(wtsR b.1 i r).length≤r.pcs.length:=hl
    omega
   ·rcases List.mem_append.1 hw with hw|hw
    ·obtain ⟨_,p,hp,e⟩:=h6 w hw
     exact ⟨r,by simp,by simpa using hb,p,hp,e⟩
    ·obtain ⟨q,hq,e⟩:=h4 w hw
     exact ⟨q,List.mem_cons_of_mem _ hq,e⟩
theorem okB_wts {b:Bk} (h:okB b) (but:Int) {i:Nat} (hi:i<b.1.2.length):(∀ t,sumW (wtsB b.1 but i b.list) t=loadB b i t but)∧(wtsB b.1 but i b.list).all weightMay=true∧(wtsB b.1 but i b.list).length≤64∧∀ w∈wtsB b.1 but i b.list,∃ r∈b.list,r.id ≠ but∧∃ p∈r.pcs,w.1=p.1:=by
 have h0:=fun t=>wtsB_is (b:=b) but hi t b.list fun r hr=>⟨h.2 r hr,pcs_few h r hr⟩
 have h1:=(form_parts h.1).2.2.2.2
 have h2:=(h0 0).2.2.1
 exact ⟨fun t=>(h0 t).1,(h0 0).2.1,by omega,(h0 0).2.2.2⟩
def linksMay (b:Bk) (i:Nat) (t:Int):Bool:=(List.range' i (b.1.2.length - i)).all fun (m:Nat)=>decide (loadB b m t 0≤capAt b m)
def bookMayB (b:Bk):Bool:=formB b&&(listMay b none b.list&&b.list.all fun r=>r.pcs.all fun p=>linksMay b 0 p.1.1)
theorem bookMay_eq (b:Bk):bookMayP b=bookMayB b:=by
 unfold bookMayP bookMayB
 cases hf:formB b with
 |false=>rfl
 |true =>
  cases hl:listMay b none b.list with
  |false=>rfl
  |true =>
   rw [tA,tA,tA,tA]
   have hok:okB b:=⟨hf,listMay_all hl⟩
   have hg:=(form_parts hf).1
   rw [Bool.eq_iff_iff,List.all_eq_true,List.all_eq_true]
   have hwl:(weightsOf b 0).length=b.1.2.length:=by unfold weightsOf;simp
   have one:∀ (i:Nat) (hi:i<b.1.2.length),fitW (wtsB b.1 0 i b.list) (capAt b i)=true↔∀ r∈b.list,∀ p∈r.pcs,loadB b i p.1.1 0≤capAt b i:=by
    intro i hi
    obtain ⟨h1,h2,h3,h4⟩:=okB_wts hok 0 hi
    rw [fitW_iff h2 h3 (capAt_in hg hi).2]
    constructor
    ·intro h r hr p hp
     rw [← h1]
     rcases sumW_from h2 p.1.1 with h0|⟨w,hw,_,hle⟩
     ·rw [h0];exact (capAt_in hg hi).2.1
     ·exact Int.le_trans hle (h w hw)
    ·intro h w hw
     obtain ⟨r,hr,_,p,hp,e⟩:=h4 w hw
     rw [e,h1]
     exact h r hr p hp
   constructor
   ·intro h r hr
    refine List.all_eq_true.2 fun p hp=>?_
    unfold linksMay
    refine List.all_eq_true.2 fun m hm=>dT ?_
    have hm':m<b.1.2.length:=by
     rw [List.mem_range'_1] at hm
     omega
    refine (one m hm').1 ?_ r hr p hp
    rw [(capAt_in hg hm').1]
    refine h (wtsB b.1 0 m b.list,b.1.2[m]) (List.mem_iff_getElem?.2 ⟨m,?_⟩)
    rw [List.getElem?_zip_eq_some]
    refine ⟨?_,gE hm'⟩
    unfold weightsOf
    rw [List.getElem?_map,List.getElem?_range hm']
    rfl
   ·rintro h ⟨ws,l⟩ hx
    obtain ⟨m,hm⟩:=List.mem_iff_getElem?.1 hx
    rw [List.getElem?_zip_eq_some] at hm
    obtain ⟨ha,hb⟩:=hm
    have hm':m<b.1.2.length:=(List.getElem?_eq_some_iff.1 hb).1
    have hws:ws=wtsB b.1 0 m b.list:=by
     unfold weightsOf at ha
     rw [List.getElem?_map,List.getElem?_range hm'] at ha
     exact (oJ ha).symm
    have hll:l.2.2=capAt b m:=by
     rw [(capAt_in hg hm').1]
     rw [gE hm'] at hb
     rw [oJ hb]
    show fitW ws l.2.2=true
    rw [hws,hll]
    refine (one m hm').2 fun r hr p hp=>?_
    have:=List.all_eq_true.1 (h r hr) p hp
    unfold linksMay at this
    exact oD (List.all_eq_true.1 this m (by rw [List.mem_range'_1];omega))
noncomputable def S82:Summ:=summ [tBk] Bool (fun b=>chk (pcsSmall b) (some (bookMayB b))) .bool
theorem ok82:SumOk Tryz.prog 82 S82 :=
 sum_k hmix f82.E (fn:=Tryz.f82) (code:=f82.code) (by kernel_rfl) (by kernel_rfl) (by kernel_rfl) (fun _=>ttOk) f82.sums f82.inl fun (b:Bk) x hx=>by
  obtain ⟨hb,hx⟩:=chk_some hx
  obtain rfl:=oJ hx
  rw [← bookMay_eq]
  exact bookP_run b hb
end
section
set_option maxRecDepth 100000
set_option linter.unusedVariables false
end
section
set_option linter.unusedVariables false
end
section
theorem book_ok {b:Bk} (h:bookMayB b=true):okB b∧∀ r∈b.list,∀ p∈r.pcs,∀ i:Nat,i<b.1.2.length→loadB b i p.1.1 0≤capAt b i:=by
 unfold bookMayB at h
 simp only [bA] at h
 refine ⟨⟨h.1,listMay_all h.2.1⟩,fun r hr p hp i hi=>?_⟩
 have:=List.all_eq_true.1 (List.all_eq_true.1 h.2.2 r hr) p hp
 unfold linksMay at this
 exact oD (List.all_eq_true.1 this i (by rw [List.mem_range'_1];omega))
theorem book_load {b:Bk} (h:bookMayB b=true) {i:Nat} (hi:i<b.1.2.length) (t but:Int):0≤loadB b i t but∧loadB b i t but≤capAt b i∧capAt b i≤maxRate:=by
 obtain ⟨hok,hl⟩:=book_ok h
 have hc:=capAt_in (form_parts hok.1).1 hi
 have hall:loadB b i t 0≤capAt b i:=by
  obtain ⟨h1,h2,h3,h4⟩:=okB_wts hok 0 hi
  rw [← h1 t]
  rcases sumW_from h2 t with h0|⟨w,hw,_,hle⟩
  ·rw [h0];exact hc.2.1
  ·obtain ⟨r,hr,_,p,hp,e⟩:=h4 w hw
   rw [e,h1 p.1.1] at hle
   exact Int.le_trans hle (hl r hr p hp i hi)
 have hle:∀ (rs:List Rs),rs.all goodR=true→(∀ r∈rs,1≤r.id)→loadRs i t but rs≤loadRs i t 0 rs:=by
  intro rs
  induction rs with
  |nil=>intro _ _;exact Int.le_refl _
  |cons r rs ih =>
   intro hg hid
   simp only [List.all_cons,bA] at hg
   have h1:=ih hg.2 fun q hq=>hid q (List.mem_cons_of_mem _ hq)
   have h2:=loadR_pos (link:=(i:Int)) (t:=t) hg.1
   have h3:=hid r (by simp)
   rw [loadRs_cons,loadRs_cons,show (r.id==(0:Int))=false by rw [beq_eq_false_iff_ne];omega,cond_false]
   cases r.id==but
   ·simp only [cond_false];omega
   ·simp only [cond_true];omega
 have h5:=hle b.list (okB_good hok) fun r hr=>(resMay_parts (hok.2 r hr)).2.2.1.1
 refine ⟨loadRs_pos (okB_good hok),?_,hc.2.2⟩
 unfold loadB at hall ⊢
 omega
def loadsV (b:Bk) (t but:Int):List Int:=(List.range b.1.2.length).map fun (i:Nat)=>loadB b i t but
def roomsV (b:Bk) (t but:Int):List Int:=(List.range b.1.2.length).map fun (i:Nat)=>capAt b i - loadB b i t but
theorem weights_sum {b:Bk} (h:bookMayB b=true) (t but:Int):(weightsOf b but).map (fun ws=>sumW ws t)=loadsV b t but:=by
 unfold weightsOf loadsV
 rw [List.map_map]
 refine List.map_congr_left fun i hi=>?_
 exact (okB_wts (book_ok h).1 but (List.mem_range.1 hi)).1 t
theorem set_take (xs:List Int) (i:Nat) (x:Int) (h:i<xs.length):(xs.set i x).take (i+1)=xs.take i++[x]:=by
 rw [List.take_add_one,List.getElem?_set,if_pos rfl,if_pos h,List.take_set_of_le (Nat.le_refl _)]
 rfl
theorem sumW_drop {ws:List Wt} {j:Nat} (h:j<ws.length) (t:Int):sumW (ws.drop j) t=(bif hasAt ws[j].1 t then ws[j].2 else 0)+sumW (ws.drop (j+1)) t:=by
 unfold sumW loadsAt
 rw [List.drop_eq_getElem_cons h,List.filter_cons]
 cases hasAt ws[j].1 t with
 |true=>rw [if_pos rfl,List.map_cons,List.sum_cons];rfl
 |false=>rw [if_neg (by simp)];simp
theorem f161.l1_is (k m0:Nat) (t:Int) (W:List (List Wt)) (i:Nat) (hiW:i<4611686018427387904) (M:Int) (ws:List Wt) (hw:ws.all weightMay=true) (hl:ws.length≤64):∀ (n j:Nat) (a:Int) (out:List Int),j≤ws.length→ws.length<n+j→out[i]? = some a→0≤a→a+sumW (ws.drop j) t≤maxRate →
  f161.l1 k n m0 t i M ws ws.length j out W=f161.l0 k m0 t M ((i+1:Nat):Int) (out.set i (a+sumW (ws.drop j) t)) W
 |0,j,a,out,hj,h',_,_,_=>by omega
 |n+1,j,a,out,hj,h',ho,h0,ha=>by
  have hwd:∀ j,(ws.drop j).all weightMay=true:=fun j=>List.all_eq_true.2 fun y hy=>List.all_eq_true.1 hw y (List.mem_of_mem_drop hy)
  have hmr:maxRate=4611686018427387904:=rfl
  rw [f161.l1_eq]
  by_cases hlt:j<ws.length
  ·have hx:=gE hlt
   rw [sumW_drop hlt] at ha ⊢
   have hpos:=sumW_pos (hwd (j+1)) (t:=t)
   have hwj:0≤ws[j].2∧ws[j].2≤maxRate:=by
    have:=List.all_eq_true.1 hw ws[j] (List.getElem_mem hlt)
    unfold weightMay at this
    rw [bA] at this
    exact oD this.2
   rw [idx_lt' hx,cT,idx_in hx,kT,rd_some (t:=tW) hx,wrap_succ (by omega)]
   cases hh:hasAt ws[j].1 t with
   |true =>
    rw [hh,cond_true] at ha
    rw [cT,idx_in ho,kT,kT,Int.toNat_natCast,rd_some (t:=tI) ho,wrap64 (n:=a+ws[j].2) (by omega),cond_true]
    have hil:i<out.length:=(List.getElem?_eq_some_iff.1 ho).1
    rw [f161.l1_is k m0 t W i hiW M ws hw hl n (j+1) (a+ws[j].2) _ (by omega) (by omega) (by rw [List.getElem?_set,if_pos rfl,if_pos hil]) (by omega) (by omega),List.set_set,Int.add_assoc]
   |false =>
    rw [hh,cond_false] at ha
    rw [cF,cond_false,Int.zero_add]
    exact f161.l1_is k m0 t W i hiW M ws hw hl n (j+1) a out (by omega) (by omega) ho h0 (by omega)
  ·obtain rfl:j=ws.length:=by omega
   rw [end_lt,cF,wrap_succ (by omega),List.drop_length,show sumW [] t=0 from rfl,Int.add_zero]
   congr 1
   obtain ⟨hil,he⟩:=List.getElem?_eq_some_iff.1 ho
   rw [← he,List.set_getElem_self]
theorem f161.l0_is (k:Nat) (hk:64<k) (t:Int) (W:List (List Wt)) (hW:W.length≤16) (hw:∀ ws∈W,ws.all weightMay=true∧ws.length≤64∧sumW ws t≤maxRate):∀ (n i:Nat) (out:List Int),i≤W.length→W.length<n+i→out.length=W.length→(∀ j,i≤j→j<W.length→out[j]? = some 0) →
  f161.l0 k n t W.length i out W=some (.own tI (out.take i++(W.drop i).map fun ws=>sumW ws t))
 |0,i,out,h,h',_,_=>by omega
 |n+1,i,out,h,h',ho,hz=>by
  rw [f161.l0_eq]
  by_cases hlt:i<W.length
  ·have hx:=gE hlt
   obtain ⟨h1,h2,h3⟩:=hw _ (List.getElem_mem hlt)
   rw [idx_lt' hx,cT,idx_in hx,kT,Int.toNat_natCast,rd_some (t:=.list tW) hx]
   have:=f161.l1_is k n t W i (by omega) W.length W[i] h1 h2 k 0 0 out (by omega) (by omega) (hz i (Nat.le_refl _) hlt) (by omega) (by rw [List.drop_zero];omega)
   rw [show ((0:Nat):Int)=0 from rfl,List.drop_zero,Int.zero_add] at this
   rw [this,f161.l0_is k hk t W hW hw n (i+1) _ (by omega) (by omega) (by rw [List.length_set,ho]) (fun j hj hjl=>by rw [List.getElem?_set,if_neg (by omega)];exact hz j (by omega) hjl),
    set_take _ _ _ (by omega),List.append_assoc,List.drop_eq_getElem_cons hlt,List.map_cons]
   rfl
  ·obtain rfl:i=W.length:=by omega
   rw [end_lt,cF,List.drop_length,List.map_nil,List.append_nil,List.take_of_length_le (by omega)]
theorem weights_fit {b:Bk} (h:bookMayB b=true) (t but:Int):∀ ws∈weightsOf b but,ws.all weightMay=true∧ws.length≤64∧sumW ws t≤maxRate:=by
 intro ws hws
 unfold weightsOf at hws
 obtain ⟨i,hi,rfl⟩:=List.mem_map.1 hws
 have hi:=List.mem_range.1 hi
 obtain ⟨h1,h2,h3,_⟩:=okB_wts (book_ok h).1 but hi
 refine ⟨h2,h3,?_⟩
 rw [h1]
 have:=book_load h hi t but
 omega
noncomputable def S161:Summ:=summ [tBk,tI,tI] (List Int) (fun (d:Bk×(Int×Int))=>chk (bookMayB d.1) (some (loadsV d.1 d.2.1 d.2.2))) (.own tI)
theorem ok161:SumOk Tryz.prog 161 S161 :=
 sumq f161.E (fn:=Tryz.f161) (code:=f161.code) f161.sums f161.inl fun (d:Bk×(Int×Int)) x hx=>by
  obtain ⟨b,t,but⟩:=d
  obtain ⟨hb,hx⟩:=chk_some hx
  obtain rfl:=oJ hx
  have hb:bookMayB b=true:=hb
  have hok:=(book_ok hb).1
  have hg:=(graph_parts (form_parts hok.1).1).1
  have hwl:(weightsOf b but).length=b.1.2.length:=by unfold weightsOf;simp
  refine ⟨65,(f161.eq _ b t but).trans ?_⟩
  rw [dT (by omega:(0:Int)≤(b.1.2.length:Int)∧(b.1.2.length:Int)≤(b.1.2.length:Int)),kT,dT (by omega:(0:Nat)<8∧(b.1.2.length:Int)*((8:Nat):Int)≤140737488355328),kT,okB_few hok,kT,bS]
  have:=f161.l0_is 65 (by omega) t (weightsOf b but) (by omega) (weights_fit hb t but) 65 0 (List.replicate (b.1.2.length:Int).toNat (dflt (.int .i64))) (by omega) (by omega) (by rw [List.length_replicate,hwl];exact Int.toNat_natCast _) (fun j _ hj=>by
   rw [List.getElem?_replicate,if_pos (by rw [Int.toNat_natCast];omega)]
   rfl)
  rw [show ((0:Nat):Int)=0 from rfl,List.take_zero,List.nil_append,List.drop_zero,weights_sum hb] at this
  exact this
end
section
set_option maxRecDepth 100000
noncomputable def f203.E (k:Nat):Env:=mkEnv tt [(161,S161)] [] [(203,3,[.kill (rg [(0,6),(8,15),(19,34)]),.tidy])] [] k
noncomputable def f203.code:Go.Code:=cd Tryz.f203
noncomputable def f203.l0 (k n:Nat) (p0:List (eL)) (p1:Int) (p2:Int) (p3:List Int):Option V :=
 atPath (f203.E k) n ⟨(.u::.u::.u::.u::.u::.u::.u::(.slw 1835024)::.u::.u::.u::.u::.u::.u::.u::.u::(.ro qL p0)::(.int .i64 p1)::(.int .i64 p2)::un 16),[],[(1835024,.row qI p3)]⟩ 9 0 203 [.c 1,.c 1,.c 0,.c 1,.c 0] [] f203.code (finK tt Tryz.f203)
theorem f203.l0_eq (k n:Nat) (p0:List (eL)) (p1:Int) (p2:Int) (p3:List Int):f203.l0 k (n+1) p0 p1 p2 p3 =
 bif decide (p2<p1) then (chk (decide ((0:Int)≤p2∧p2<(↑p0.length:Int))) (chk (decide ((0:Int)≤p2∧p2<(↑p3.length:Int))) (chk (decide ((0:Int)≤p2∧p2<(↑p3.length:Int))) (f203.l0 k n p0 p1 (Go.IntKind.i64.wrap (p2+(1:Int))) (p3.set p2.toNat (Go.IntKind.i64.wrap ((rd qL p0 p2).2.2 - rd qI p3 (↑p2.toNat:Int)))))))) else (some (.own qI p3)):=by kernel_rfl
theorem f203.eq (k:Nat) (x0:(Int×List (eL)) ×
 Int×Int×Int×List (eR)) (x1:Int) (x2:Int):evFn (f203.E k) 9 203 Tryz.f203 (encL [(.pair (.pair qI (.list qL)) (.pair qI (.pair qI (.pair qI (.list qR))))),qI,qI] (x0,x1,x2)) =
 (chk (bookMayB x0) (some (loadsV x0 x1 x2))).bind (fun y0=>f203.l0 k k x0.1.2 ((↑(x0.1.2.length):Int)) 0 y0):=by kernel_rfl
theorem f203.inl (k:Nat):InlOk Tryz.prog (f203.E k):=inl_nil
theorem f203.sums (k:Nat):SumsOk Tryz.prog (f203.E k):=(sums_cons ok161 sums_nil)
noncomputable def f99.E (k:Nat):Env:=mkEnv tt [(82,S82),(148,S148),(160,S160),(161,S161)] [] [] [] k
noncomputable def f99.code:Go.Code:=cd Tryz.f99
theorem f99.eq (k:Nat) (x0:(Int×List (eL)) ×
 Int×Int×Int×List (eR)) (x1:Int) (x2:Int):evFn (f99.E k) 9 99 Tryz.f99 (encL [(.pair (.pair qI (.list qL)) (.pair qI (.pair qI (.pair qI (.list qR))))),qI,qI] (x0,x1,x2)) =
 (chk (pcsSmall x0) (some (bookMayB x0))).bind (fun y0=>bif !y0 then (some (.tup [(.int .i64 0),(.int .i64 1900)])) else (bif !hasL x0.1 x1 then (some (.tup [(.int .i64 0),(.int .i64 1900)])) else (bif !timedB x2 then (some (.tup [(.int .i64 0),(.int .i64 1900)])) else ((chk (bookMayB x0) (some (loadsV x0 x2 (0:Int)))).bind (fun y1=>chk (decide ((0:Int)≤x1∧x1<(↑y1.length:Int))) (some (.tup [(.int .i64 (rd tI y1 (↑x1.toNat:Int))),(.int .i64 0)]))))))):=by kernel_rfl
theorem f99.inl (k:Nat):InlOk Tryz.prog (f99.E k):=inl_nil
theorem f99.sums (k:Nat):SumsOk Tryz.prog (f99.E k):=(sums_cons ok82 (sums_cons ok148 (sums_cons ok160 (sums_cons ok161 sums_nil))))
noncomputable def f108.E (k:Nat):Env:=mkEnv tt [(78,S78)] [] [(108,7,[.nil1 6 2 1572997 qP,.kill (rg [(0,2),(4,5),(7,8),(12,18),(22,42)]),.tidy]),(108,3,[.nil1 6 2 1572997 qP,.kill (rg [(0,2),(4,8),(12,42)]),.tidy]),(108,9,[.drop 63])] [] k
noncomputable def f108.code:Go.Code:=cd Tryz.f108
noncomputable def f108.l0 (k n:Nat) (p0:List (eC)) (p1:Int) (p2:Int) (p3:List (eC)):Option V :=
 atPath (f108.E k) n ⟨(.u::.u::.u::(.slw 786448)::.u::.u::.u::.u::.u::(.ro qC p0)::(.int .i64 p1)::(.int .i64 p2)::un 31),[],[(786448,.row qC p3)]⟩ 9 0 108 [.c 1,.c 1,.c 0,.c 1,.c 0] [] f108.code (finK tt Tryz.f108)
noncomputable def f108.l1 (k n m0:Nat) (p0:List (eC)) (p1:Int) (p2:Int) (p3:List (eP)) (p4:Int) (p5:Int) (p6:List (eC)) (p7:Int) (p8:Int) (p9:List (eP)):Option V :=
 atPath (f108.E k) n ⟨(.u::.u::.u::(.slw 786448)::.u::.u::(.ptr 1572880 (0) (0))::.u::.u::(.ro qC p0)::(.int .i64 p1)::(.int .i64 p2)::.u::.u::.u::.u::.u::.u::.u::(.ro qP p3)::(.int .i64 p4)::(.int .i64 p5)::un 21),[],[(786448,.row qC p6),(1572880,.box [(.int .i64 p7),(.int .i64 p8),(.slw 412321054896)]),(412321054896,.row qP p9)]⟩ 9 0 108 [.c 1,.c 1,.c 0,.c 1,.c 0,.c 0,.c 1,.c 1,.c 0,.c 0,.c 1,.c 1,.c 0,.c 1,.c 0] [m0] f108.code (finK tt Tryz.f108)
theorem f108.l0_eq (k n:Nat) (p0:List (eC)) (p1:Int) (p2:Int) (p3:List (eC)):f108.l0 k (n+1) p0 p1 p2 p3 =
 bif decide (p2<p1) then (chk (decide ((0:Int)≤p2∧p2<(↑p0.length:Int))) (f108.l1 k k n p0 p1 p2 ((rd qC p0 p2).2) ((↑(List.length (rd qC p0 p2).2):Int)) 0 p3 ((rd qC p0 p2).1.1) ((rd qC p0 p2).1.2) ([]))) else (some (.own qC p3)):=by kernel_rfl
theorem f108.l1_eq (k n m0:Nat) (p0:List (eC)) (p1:Int) (p2:Int) (p3:List (eP)) (p4:Int) (p5:Int) (p6:List (eC)) (p7:Int) (p8:Int) (p9:List (eP)):f108.l1 k (n+1) m0 p0 p1 p2 p3 p4 p5 p6 p7 p8 p9 =
 bif decide (p5<p4) then (chk (decide ((0:Int)≤p5∧p5<(↑p3.length:Int))) (both (both ((chk (decide (List.length (rd qP p3 p5).2*8≤140737488355328)) (some ((rd qP p3 p5).2))).bind (fun y0=>chk (decide ((p9++[((rd qP p3 p5).1,y0)]).length*32≤140737488355328)) (f108.l1 k n m0 p0 p1 p2 p3 p4 (Go.IntKind.i64.wrap (p5+(1:Int))) p6 p7 p8 (p9++[((rd qP p3 p5).1,y0)])))) (both ((chk (decide (List.length (rd qP p3 p5).2*8≤140737488355328)) (some ((rd qP p3 p5).2))).bind (fun y0=>chk (decide ((p9++[((rd qP p3 p5).1,y0)]).length*32≤140737488355328)) (f108.l1 k n m0 p0 p1 p2 p3 p4 (Go.IntKind.i64.wrap (p5+(1:Int))) p6 p7 p8 (p9++[((rd qP p3 p5).1,y0)])))) ((chk (decide (List.length (rd qP p3 p5).2*8≤140737488355328)) (some ((rd qP p3 p5).2))).bind (fun y0=>chk (decide ((p9++[((rd qP p3 p5).1,y0)]).length*32≤140737488355328)) (f108.l1 k n m0 p0 p1 p2 p3 p4 (Go.IntKind.i64.wrap (p5+(1:Int))) p6 p7 p8 (p9++[((rd qP p3 p5).1,y0)])))))) (both (both ((chk (decide (List.length (rd qP p3 p5).2*8≤140737488355328)) (some ((rd qP p3 p5).2))).bind (fun y0=>chk (decide ((p9++[((rd qP p3 p5).1,y0)]).length*32≤140737488355328)) (f108.l1 k n m0 p0 p1 p2 p3 p4 (Go.IntKind.i64.wrap (p5+(1:Int))) p6 p7 p8 (p9++[((rd qP p3 p5).1,y0)])))) (both ((chk (decide (List.length (rd qP p3 p5).2*8≤140737488355328)) (some ((rd qP p3 p5).2))).bind (fun y0=>chk (decide ((p9++[((rd qP p3 p5).1,y0)]).length*32≤140737488355328)) (f108.l1 k n m0 p0 p1 p2 p3 p4 (Go.IntKind.i64.wrap (p5+(1:Int))) p6 p7 p8 (p9++[((rd qP p3 p5).1,y0)])))) ((chk (decide (List.length (rd qP p3 p5).2*8≤140737488355328)) (some ((rd qP p3 p5).2))).bind (fun y0=>both (chk (decide ((p9++[((rd qP p3 p5).1,y0)]).length*32≤140737488355328)) (f108.l1 k n m0 p0 p1 p2 p3 p4 (Go.IntKind.i64.wrap (p5+(1:Int))) p6 p7 p8 (p9++[((rd qP p3 p5).1,y0)]))) (both (chk (decide ((p9++[((rd qP p3 p5).1,y0)]).length*32≤140737488355328)) (f108.l1 k n m0 p0 p1 p2 p3 p4 (Go.IntKind.i64.wrap (p5+(1:Int))) p6 p7 p8 (p9++[((rd qP p3 p5).1,y0)]))) (chk (decide ((p9++[((rd qP p3 p5).1,y0)]).length*32≤140737488355328)) (f108.l1 k n m0 p0 p1 p2 p3 p4 (Go.IntKind.i64.wrap (p5+(1:Int))) p6 p7 p8 (p9++[((rd qP p3 p5).1,y0)])))))))) (both (both ((chk (decide (List.length (rd qP p3 p5).2*8≤140737488355328)) (some ((rd qP p3 p5).2))).bind (fun y0=>chk (decide ((p9++[((rd qP p3 p5).1,y0)]).length*32≤140737488355328)) (f108.l1 k n m0 p0 p1 p2 p3 p4 (Go.IntKind.i64.wrap (p5+(1:Int))) p6 p7 p8 (p9++[((rd qP p3 p5).1,y0)])))) ((chk (decide (List.length (rd qP p3 p5).2*8≤140737488355328)) (some ((rd qP p3 p5).2))).bind (fun y0=>chk (decide ((p9++[((rd qP p3 p5).1,y0)]).length*32≤140737488355328)) (f108.l1 k n m0 p0 p1 p2 p3 p4 (Go.IntKind.i64.wrap (p5+(1:Int))) p6 p7 p8 (p9++[((rd qP p3 p5).1,y0)]))))) (both (both ((chk (decide (List.length (rd qP p3 p5).2*8≤140737488355328)) (some ((rd qP p3 p5).2))).bind (fun y0=>chk (decide ((p9++[((rd qP p3 p5).1,y0)]).length*32≤140737488355328)) (f108.l1 k n m0 p0 p1 p2 p3 p4 (Go.IntKind.i64.wrap (p5+(1:Int))) p6 p7 p8 (p9++[((rd qP p3 p5).1,y0)])))) ((chk (decide (List.length (rd qP p3 p5).2*8≤140737488355328)) (some ((rd qP p3 p5).2))).bind (fun y0=>both (chk (decide ((p9++[((rd qP p3 p5).1,y0)]).length*32≤140737488355328)) (f108.l1 k n m0 p0 p1 p2 p3 p4 (Go.IntKind.i64.wrap (p5+(1:Int))) p6 p7 p8 (p9++[((rd qP p3 p5).1,y0)]))) (both (chk (decide ((p9++[((rd qP p3 p5).1,y0)]).length*32≤140737488355328)) (f108.l1 k n m0 p0 p1 p2 p3 p4 (Go.IntKind.i64.wrap (p5+(1:Int))) p6 p7 p8 (p9++[((rd qP p3 p5).1,y0)]))) (chk (decide ((p9++[((rd qP p3 p5).1,y0)]).length*32≤140737488355328)) (f108.l1 k n m0 p0 p1 p2 p3 p4 (Go.IntKind.i64.wrap (p5+(1:Int))) p6 p7 p8 (p9++[((rd qP p3 p5).1,y0)]))))))) ((chk (decide (List.length (rd qP p3 p5).2*8≤140737488355328)) (some ((rd qP p3 p5).2))).bind (fun y0=>both (chk (decide ((p9++[((rd qP p3 p5).1,y0)]).length*32≤140737488355328)) (f108.l1 k n m0 p0 p1 p2 p3 p4 (Go.IntKind.i64.wrap (p5+(1:Int))) p6 p7 p8 (p9++[((rd qP p3 p5).1,y0)]))) (both (chk (decide ((p9++[((rd qP p3 p5).1,y0)]).length*32≤140737488355328)) (f108.l1 k n m0 p0 p1 p2 p3 p4 (Go.IntKind.i64.wrap (p5+(1:Int))) p6 p7 p8 (p9++[((rd qP p3 p5).1,y0)]))) (both (chk (decide ((p9++[((rd qP p3 p5).1,y0)]).length*32≤140737488355328)) (f108.l1 k n m0 p0 p1 p2 p3 p4 (Go.IntKind.i64.wrap (p5+(1:Int))) p6 p7 p8 (p9++[((rd qP p3 p5).1,y0)]))) (chk (decide ((p9++[((rd qP p3 p5).1,y0)]).length*32≤140737488355328)) (f108.l1 k n m0 p0 p1 p2 p3 p4 (Go.IntKind.i64.wrap (p5+(1:Int))) p6 p7 p8 (p9++[((rd qP p3 p5).1,y0)])))))))))))) else (chk (decide ((p6++[((p7,p8),p9)]).length*40≤140737488355328)) (f108.l0 k m0 p0 p1 (Go.IntKind.i64.wrap (p2+(1:Int))) (p6++[((p7,p8),p9)]))):=by kernel_rfl
theorem f108.eq (k:Nat) (x0:List (eC)):evFn (f108.E k) 9 108 Tryz.f108 (encL [(.list qC)] x0) =
 f108.l0 k k x0 ((↑x0.length:Int)) 0 ([]):=by kernel_rfl
theorem f108.inl (k:Nat):InlOk Tryz.prog (f108.E k):=inl_nil
theorem f108.sums (k:Nat):SumsOk Tryz.prog (f108.E k):=(sums_cons ok78 sums_nil)
noncomputable def f60.E (k:Nat):Env:=mkEnv tt [(119,S119)] [] [(60,3,[.kill (rg [(1,2),(5,26)]),.tidy]),(60,5,[.drop 63])] [] k
noncomputable def f60.code:Go.Code:=cd Tryz.f60
noncomputable def f60.l0 (k n:Nat) (p0:List (eC)) (p1:Int) (p2:List (eC)):Option V :=
 atPath (f60.E k) n ⟨((.ro qC p0)::.u::.u::(.slw 786448)::(.int .i64 p1)::un 22),[],[(786448,.row qC p2)]⟩ 9 0 60 [.c 1,.c 1,.c 0,.c 1,.c 0] [] f60.code (finK tt Tryz.f60)
theorem f60.l0_eq (k n:Nat) (p0:List (eC)) (p1:Int) (p2:List (eC)):f60.l0 k (n+1) p0 p1 p2 =
 bif decide (p1<(↑p0.length:Int)) then (chk (decide ((0:Int)≤p1∧p1<(↑p0.length:Int))) (chk (decide ((0:Int)≤p1∧p1<(↑p0.length:Int))) (both ((chk (decide (List.length (rd qC p0 p1).2*32≤140737488355328)) (chk (List.all (rd qC p0 p1).2 fun p=>decide (p.2.length*8≤140737488355328)) (some ((rd qC p0 p1).2)))).bind (fun y0=>chk (decide ((p2++[((rd qC p0 p1).1,y0)]).length*40≤140737488355328)) (f60.l0 k n p0 (Go.IntKind.i64.wrap (p1+(1:Int))) (p2++[((rd qC p0 p1).1,y0)])))) (both ((chk (decide (List.length (rd qC p0 p1).2*32≤140737488355328)) (chk (List.all (rd qC p0 p1).2 fun p=>decide (p.2.length*8≤140737488355328)) (some ((rd qC p0 p1).2)))).bind (fun y0=>chk (decide ((p2++[((rd qC p0 p1).1,y0)]).length*40≤140737488355328)) (f60.l0 k n p0 (Go.IntKind.i64.wrap (p1+(1:Int))) (p2++[((rd qC p0 p1).1,y0)])))) ((chk (decide (List.length (rd qC p0 p1).2*32≤140737488355328)) (chk (List.all (rd qC p0 p1).2 fun p=>decide (p.2.length*8≤140737488355328)) (some ((rd qC p0 p1).2)))).bind (fun y0=>chk (decide ((p2++[((rd qC p0 p1).1,y0)]).length*40≤140737488355328)) (f60.l0 k n p0 (Go.IntKind.i64.wrap (p1+(1:Int))) (p2++[((rd qC p0 p1).1,y0)])))))))) else (some (.own qC p2)):=by kernel_rfl
theorem f60.eq (k:Nat) (x0:List (eC)):evFn (f60.E k) 9 60 Tryz.f60 (encL [(.list qC)] x0) =
 f60.l0 k k x0 0 ([]):=by kernel_rfl
theorem f60.inl (k:Nat):InlOk Tryz.prog (f60.E k):=inl_nil
theorem f60.sums (k:Nat):SumsOk Tryz.prog (f60.E k):=(sums_cons ok119 sums_nil)
end
section
theorem loadsV_len (b:Bk) (t but:Int):(loadsV b t but).length=b.1.2.length:=by unfold loadsV;simp
theorem loadsV_get (b:Bk) (t but:Int) {i:Nat} (hi:i<b.1.2.length):(loadsV b t but)[i]? = some (loadB b i t but):=by
 unfold loadsV
 rw [List.getElem?_map,List.getElem?_range hi]
 rfl
theorem roomsV_len (b:Bk) (t but:Int):(roomsV b t but).length=b.1.2.length:=by unfold roomsV;simp
theorem roomsV_get (b:Bk) (t but:Int) {i:Nat} (hi:i<b.1.2.length):(roomsV b t but)[i]? = some (capAt b i - loadB b i t but):=by
 unfold roomsV
 rw [List.getElem?_map,List.getElem?_range hi]
 rfl
theorem f203.l0_is (k:Nat) (b:Bk) (hb:bookMayB b=true) (t but:Int):∀ (n i:Nat) (out:List Int),i≤b.1.2.length→b.1.2.length<n+i→out.length=b.1.2.length→(∀ j,i≤j→out[j]? = (loadsV b t but)[j]?) →
  f203.l0 k n b.1.2 b.1.2.length i out=some (.own tI (out.take i++(roomsV b t but).drop i))
 |0,i,out,h,h',_,_=>by omega
 |n+1,i,out,h,h',ho,hz=>by
  have hg:=(graph_parts (form_parts (book_ok hb).1.1).1).1
  have hmr:maxRate=4611686018427387904:=rfl
  rw [f203.l0_eq]
  by_cases hlt:i<b.1.2.length
  ·have hx:=gE hlt
   have hc:=(capAt_in (form_parts (book_ok hb).1.1).1 hlt).1
   have hL:=book_load hb hlt t but
   have hy:out[i]? = some (loadB b i t but):=by rw [hz i (Nat.le_refl _),loadsV_get b t but hlt]
   have hlr:i<(roomsV b t but).length:=by rw [roomsV_len];exact hlt
   have hr:(roomsV b t but)[i]=capAt b i - loadB b i t but:=by
    have:=roomsV_get b t but hlt
    rw [gE hlr] at this
    exact oJ this
   rw [idx_lt' hx,cT,idx_in hx,kT,idx_in hy,kT,kT,Int.toNat_natCast,rd_some (t:=tLk) hx,rd_some (t:=tI) hy,← hc,wrap64 (n:=capAt b i - loadB b i t but) (by omega),wrap_succ (by omega),
    f203.l0_is k b hb t but n (i+1) _ (by omega) (by omega) (by rw [List.length_set,ho]) (fun j hj=>by rw [List.getElem?_set,if_neg (by omega)];exact hz j (by omega)),
    set_take _ _ _ (by omega),List.append_assoc,List.drop_eq_getElem_cons hlr,hr]
   rfl
  ·obtain rfl:i=b.1.2.length:=by omega
   rw [end_lt,cF,List.drop_of_length_le (by rw [roomsV_len];exact Nat.le_refl _),List.append_nil,List.take_of_length_le (by omega)]
noncomputable def S203:Summ:=summ [tBk,tI,tI] (List Int) (fun (d:Bk×(Int×Int))=>chk (bookMayB d.1) (some (roomsV d.1 d.2.1 d.2.2))) (.own tI)
theorem ok203:SumOk Tryz.prog 203 S203 :=
 sumq f203.E (fn:=Tryz.f203) (code:=f203.code) f203.sums f203.inl fun (d:Bk×(Int×Int)) x hx=>by
  obtain ⟨b,t,but⟩:=d
  obtain ⟨hb,hx⟩:=chk_some hx
  obtain rfl:=oJ hx
  have hb:bookMayB b=true:=hb
  have hg:=(graph_parts (form_parts (book_ok hb).1.1).1).1
  refine ⟨17,(f203.eq _ b t but).trans ?_⟩
  rw [hb,kT,bS]
  have:=f203.l0_is 17 b hb t but 17 0 (loadsV b t but) (by omega) (by omega) (loadsV_len b t but) (fun j _=>rfl)
  rw [show ((0:Nat):Int)=0 from rfl,List.take_zero,List.nil_append,List.drop_zero] at this
  exact this
def loadQ (b:Bk) (link t:Int):Int×Int:=bif bookMayB b&&(hasL b.1 link&&timedB t) then (loadB b link t 0,0) else (0,1900)
noncomputable def S99:Summ:=summ [tBk,tI,tI] (Int×Int) (fun (d:Bk×(Int×Int))=>chk (pcsSmall d.1) (some (loadQ d.1 d.2.1 d.2.2))) (fun x=>.tup [.int .i64 x.1,.int .i64 x.2])
theorem ok99:SumOk Tryz.prog 99 S99 :=
 sumq f99.E (fn:=Tryz.f99) (code:=f99.code) f99.sums f99.inl fun (d:Bk×(Int×Int)) x hx=>by
  obtain ⟨b,link,t⟩:=d
  obtain ⟨hs,hx⟩:=chk_some hx
  obtain rfl:=oJ hx
  have hs:pcsSmall b=true:=hs
  refine ⟨0,(f99.eq _ b link t).trans ?_⟩
  rw [hs,kT,bS]
  show _=some (V.tup [.int .i64 (loadQ b link t).1,.int .i64 (loadQ b link t).2])
  unfold loadQ
  cases hb:bookMayB b with
  |false=>rfl
  |true =>
   cases hl:hasL b.1 link with
   |false=>rfl
   |true =>
    cases ht:timedB t with
    |false=>rfl
    |true =>
     have h1:0≤link∧link<(b.1.2.length:Int):=oD hl
     have hlt:link.toNat<b.1.2.length:=by omega
     have hg:=loadsV_get b t 0 hlt
     rw [Int.toNat_of_nonneg h1.1] at hg
     rw [nT,cF,cF,cF,kT,bS,loadsV_len,dT h1,kT,rd_some (t:=tI) hg]
     rfl
abbrev tPc':Ty:=.pair tSp (.list tP)
def cpPath (p:Pt):Bool:=decide (p.2.length*8≤140737488355328)
def cpPiece (p:Pc):Bool:=decide (p.2.length*32≤140737488355328)&&p.2.all cpPath
def pcsMem (ps:List Pc):Bool:=decide (ps.length*40≤140737488355328)&&ps.all cpPiece
theorem f108.l1_is (k m0:Nat) (ps:List Pc) (M:Int) (i:Nat) (hi:i<ps.length) (hl:ps.length*40≤140737488355328) (p:Pc) (hp:cpPiece p=true) (acc:List Pc) (ha:acc.length≤i):∀ (n j:Nat),j≤p.2.length→p.2.length<n+j →
  f108.l1 k n m0 ps M i p.2 p.2.length j acc p.1.1 p.1.2 (p.2.take j)=f108.l0 k m0 ps M ((i+1:Nat):Int) (acc++[p])
 |0,j,h,h'=>by omega
 |n+1,j,h,h'=>by
  unfold cpPiece at hp
  rw [bA] at hp
  have h32:p.2.length*32≤140737488355328:=oD hp.1
  by_cases hlt:j<p.2.length
  ·have hx:=gE hlt
   have hb:decide (List.length p.2[j].2*8≤140737488355328)=true:=List.all_eq_true.1 hp.2 _ (List.getElem_mem hlt)
   have e:p.2.take j++[(p.2[j].1,p.2[j].2)]=p.2.take (j+1):=by
    rw [List.take_succ_eq_append_getElem hlt]
   have hc:decide ((p.2.take (j+1)).length*32≤140737488355328)=true:=by
    rw [List.length_take]
    exact dT (by omega)
   rw [f108.l1_eq,idx_lt' hx,cT,wrap_succ (by omega),rd_some (t:=tP) hx]
   simp only [idx_in hx,kT,chk_eq hb,bS,both_self,e,chk_eq hc]
   exact f108.l1_is k m0 ps M i hi hl p (by unfold cpPiece;rw [bA];exact hp) acc ha n (j+1) (by omega) (by omega)
  ·obtain rfl:j=p.2.length:=by omega
   have e:((p.1.1,p.1.2),p.2.take p.2.length)=p:=by rw [List.take_length]
   rw [f108.l1_eq,end_lt,cF,e,wrap_succ (by omega),dT (by rw [lA,List.length_singleton];omega),kT]
theorem f108.l0_is (k:Nat) (ps:List Pc) (hl:ps.length*40≤140737488355328) (hall:ps.all cpPiece=true) (hk:∀ p∈ps,p.2.length<k):∀ (n i:Nat),i≤ps.length→ps.length<n+i→f108.l0 k n ps ps.length i (ps.take i)=some (.own tPc' ps)
 |0,i,h,h'=>by omega
 |n+1,i,h,h'=>by
  by_cases hlt:i<ps.length
  ·have hx:=gE hlt
   have hm:=List.getElem_mem hlt
   have:=f108.l1_is k n ps ps.length i hlt hl ps[i] (List.all_eq_true.1 hall _ hm) (ps.take i) (by rw [List.length_take];omega) k 0 (by omega) (by have:=hk _ hm;omega)
   rw [show ((0:Nat):Int)=0 from rfl,List.take_zero] at this
   rw [f108.l0_eq,idx_lt' hx,cT,idx_in hx,kT,rd_some (t:=tPc') hx,this,← List.take_succ_eq_append_getElem hlt]
   exact f108.l0_is k ps hl hall hk n (i+1) (by omega) (by omega)
  ·obtain rfl:i=ps.length:=by omega
   rw [f108.l0_eq,end_lt,cF,List.take_length]
theorem lens_lt {α β:Type} (ps:List (α×List β)):∃ k,∀ p∈ps,p.2.length<k:=by
 induction ps with
 |nil=>exact ⟨0,fun p hp=>(List.not_mem_nil hp).elim⟩
 |cons q ps ih =>
  obtain ⟨k,hk⟩:=ih
  refine ⟨k+q.2.length+1,fun p hp=>?_⟩
  rcases List.mem_cons.1 hp with rfl|hp
  ·omega
  ·have:=hk p hp
   omega
noncomputable def S108:Summ:=summ [.list tPc'] (List Pc) (fun (ps:List Pc)=>chk (pcsMem ps) (some ps)) (.own tPc')
theorem ok108:SumOk Tryz.prog 108 S108 :=
 sumq f108.E (fn:=Tryz.f108) (code:=f108.code) f108.sums f108.inl fun (ps:List Pc) x hx=>by
  obtain ⟨h1,hx⟩:=chk_some hx
  obtain rfl:=oJ hx
  have h1:pcsMem ps=true:=h1
  unfold pcsMem at h1
  simp only [bA,dE] at h1
  obtain ⟨k,hk⟩:=lens_lt ps
  exact ⟨k+ps.length+1,(f108.eq _ ps).trans (f108.l0_is _ ps h1.1 h1.2 (fun p hp=>by have:=hk p hp;omega) _ 0 (by omega) (by omega))⟩
theorem f60.l0_is (k:Nat) (ps:List Pc) (hl:ps.length*40≤140737488355328) (hall:ps.all cpPiece=true):∀ (n i:Nat),i≤ps.length→ps.length<n+i→f60.l0 k n ps (i:Int) (ps.take i)=some (.own tPc' ps)
 |0,i,h,h'=>by omega
 |n+1,i,h,h'=>by
  by_cases hlt:i<ps.length
  ·have hx:=gE hlt
   have hb:=List.all_eq_true.1 hall _ (List.getElem_mem hlt)
   unfold cpPiece at hb
   rw [bA] at hb
   have hb2:(List.all ps[i].2 fun p=>decide (p.snd.length*8≤140737488355328))=true:=hb.2
   have e:ps.take i++[(ps[i].1,ps[i].2)]=ps.take (i+1):=by
    rw [List.take_succ_eq_append_getElem hlt]
   have hc:decide ((ps.take (i+1)).length*40≤140737488355328)=true:=by
    rw [List.length_take]
    exact dT (by omega)
   rw [f60.l0_eq,idx_lt' hx,cT,wrap_succ (by omega),rd_some (t:=tPc') hx]
   simp only [idx_in hx,kT,chk_eq hb.1,chk_eq hb2,bS,both_self,e,chk_eq hc]
   exact f60.l0_is k ps hl hall n (i+1) (by omega) (by omega)
  ·obtain rfl:i=ps.length:=by omega
   rw [f60.l0_eq,end_lt,cF,List.take_length]
noncomputable def S60:Summ:=S108
theorem ok60:SumOk Tryz.prog 60 S60 :=
 sumq f60.E (fn:=Tryz.f60) (code:=f60.code) f60.sums f60.inl fun (ps:List Pc) x hx=>by
  obtain ⟨h1,hx⟩:=chk_some hx
  obtain rfl:=oJ hx
  have h1:pcsMem ps=true:=h1
  unfold pcsMem at h1
  simp only [bA,dE] at h1
  exact ⟨ps.length+1,(f60.eq _ ps).trans (f60.l0_is _ ps h1.1 h1.2 _ 0 (by omega) (by omega))⟩
end
section
set_option maxRecDepth 100000
noncomputable def f157.E (k:Nat):Env:=mkEnv tt [(108,S108)] [] [] [] k
noncomputable def f157.code:Go.Code:=cd Tryz.f157
theorem f157.eq (k:Nat) (x0:eR):evFn (f157.E k) 9 157 Tryz.f157 (encL [qR] x0) =
 (chk (pcsMem x0.2.2.2.2.2.2) (some x0.2.2.2.2.2.2)).bind (fun y0=>some (.agg [(.int .i64 x0.1.1),(.int .i64 x0.1.2),(.int .i64 x0.2.1),(.int .i64 x0.2.2.1),(.int .i64 x0.2.2.2.1),(.int .i64 x0.2.2.2.2.1),(.int .i64 x0.2.2.2.2.2.1),(.own qC y0)])):=by kernel_rfl
theorem f157.inl (k:Nat):InlOk Tryz.prog (f157.E k):=inl_nil
theorem f157.sums (k:Nat):SumsOk Tryz.prog (f157.E k):=(sums_cons ok108 sums_nil)
noncomputable def f164.E (k:Nat):Env:=mkEnv tt [(82,S82),(201,S201),(108,S108)] [(157,Tryz.f157)] [] [] k
noncomputable def f164.code:Go.Code:=cd Tryz.f164
theorem f164.eq (k:Nat) (x0:(Int×List (eL)) ×
 Int×Int×Int×List (eR)) (x1:Int):evFn (f164.E k) 9 164 Tryz.f164 (encL [(.pair (.pair qI (.list qL)) (.pair qI (.pair qI (.pair qI (.list qR))))),qI] (x0,x1)) =
 (chk (pcsSmall x0) (some (bookMayB x0))).bind (fun y0=>bif !y0 then (some (.tup [(.agg [(.int .i64 0),(.int .i64 0),(.int .i64 0),(.int .i64 0),(.int .i64 0),(.int .i64 0),(.int .i64 0),(.own qC ([]))]),(.bool false),(.int .i64 1900)])) else ((chk (decide ((Bk.list x0).length<4611686018427387904)) (some (placeOf x0 x1))).bind (fun y1=>bif decide (y1<(0:Int)) then (some (.tup [(.agg [(.int .i64 0),(.int .i64 0),(.int .i64 0),(.int .i64 0),(.int .i64 0),(.int .i64 0),(.int .i64 0),(.own qC ([]))]),(.bool false),(.int .i64 0)])) else (chk (decide ((0:Int)≤y1∧y1<(↑(x0.2.2.2.2.length):Int))) ((chk (pcsMem (rd qR x0.2.2.2.2 y1).2.2.2.2.2.2) (some ((rd qR x0.2.2.2.2 y1).2.2.2.2.2.2))).bind (fun y2=>some (.tup [(.agg [(.int .i64 ((rd qR x0.2.2.2.2 y1).1.1)),(.int .i64 ((rd qR x0.2.2.2.2 y1).1.2)),(.int .i64 ((rd qR x0.2.2.2.2 y1).2.1)),(.int .i64 ((rd qR x0.2.2.2.2 y1).2.2.1)),(.int .i64 ((rd qR x0.2.2.2.2 y1).2.2.2.1)),(.int .i64 ((rd qR x0.2.2.2.2 y1).2.2.2.2.1)),(.int .i64 ((rd qR x0.2.2.2.2 y1).2.2.2.2.2.1)),(.own qC y2)]),(.bool true),(.int .i64 0)]))))))):=by kernel_rfl
theorem f164.inl (k:Nat):InlOk Tryz.prog (f164.E k):=(inl_cons (by kernel_rfl) (by kernel_rfl) inl_nil)
theorem f164.sums (k:Nat):SumsOk Tryz.prog (f164.E k):=(sums_cons ok82 (sums_cons ok201 (sums_cons ok108 sums_nil)))
noncomputable def f165.E (k:Nat):Env:=mkEnv tt [(77,S77),(82,S82),(202,S202),(203,S203)] [] [(165,17,[.kill (rg [(0,1),(4,14),(16,60),(64,78)]),.tidy]),(165,8,[.kill (rg [(0,1),(5,7),(9,9),(11,26),(30,33),(37,78)]),.tidy]),(165,5,[.kill (rg [(0,1),(5,7),(9,26),(30,78)]),.tidy]),(165,19,[.drop 63])] [] k
noncomputable def f165.code:Go.Code:=cd Tryz.f165
noncomputable def f165.l0 (k n:Nat) (p0:Int) (p1:List (eR)) (p2:Int) (p3:Int) (p4:Int) (p5:List (eL)) (p6:Int) (p7:Int) (p8:Int) (p9:Int) (p10:Int) (p11:List Int):Option V :=
 atPath (f165.E k) n ⟨(.u::.u::(.int .i64 p0)::(.ptr 786448 (0) (0))::(.ptr 1048592 (0) (0))::.u::.u::.u::(.slw 2097168)::.u::.u::.u::.u::.u::.u::.u::.u::.u::.u::.u::.u::.u::.u::.u::.u::.u::.u::(.ro qR p1)::(.int .i64 p2)::(.int .i64 p3)::un 49),[],[(786448,.box [(.int .i64 p4),(.ro qL p5),(.int .i64 p6),(.int .i64 p7),(.int .i64 p8),(.ro qR p1)]),(1048592,.box [(.int .i64 p9),(.int .i64 p10)]),(2097168,.row qI p11)]⟩ 9 0 165 [.c 1,.c 1,.c 1,.c 0,.c 1,.c 0] [] f165.code (finK tt Tryz.f165)
noncomputable def f165.l1 (k n m0:Nat) (p0:Int) (p1:List (eR)) (p2:Int) (p3:Int) (p4:List (eC)) (p5:Int) (p6:Int) (p7:Int) (p8:List (eL)) (p9:Int) (p10:Int) (p11:Int) (p12:Int) (p13:Int) (p14:List Int) (p15:Int) (p16:Int) (p17:Int) (p18:Int) (p19:Int) (p20:Int) (p21:Int):Option V :=
 atPath (f165.E k) n ⟨(.u::.u::(.int .i64 p0)::(.ptr 786448 (0) (0))::(.ptr 1048592 (0) (0))::.u::.u::.u::(.slw 2097168)::.u::(.ptr 2621456 (0) (0))::.u::.u::.u::.u::.u::.u::.u::.u::.u::.u::.u::.u::.u::.u::.u::.u::(.ro qR p1)::(.int .i64 p2)::(.int .i64 p3)::.u::.u::.u::.u::(.ro qC p4)::(.int .i64 p5)::(.int .i64 p6)::un 42),[],[(786448,.box [(.int .i64 p7),(.ro qL p8),(.int .i64 p9),(.int .i64 p10),(.int .i64 p11),(.ro qR p1)]),(1048592,.box [(.int .i64 p12),(.int .i64 p13)]),(2097168,.row qI p14),(2621456,.box [(.int .i64 p15),(.int .i64 p16),(.int .i64 p17),(.int .i64 p18),(.int .i64 p19),(.int .i64 p20),(.int .i64 p21),(.ro qC p4)])]⟩ 9 0 165 [.c 1,.c 1,.c 1,.c 0,.c 1,.c 0,.c 0,.c 1,.c 1,.c 0,.c 0,.c 1,.c 1,.c 0] [m0] f165.code (finK tt Tryz.f165)
noncomputable def f165.l2 (k n:Nat) (p0:Int) (p1:Int) (p2:Int) (p3:Int) (p4:List (eL)) (p5:Int) (p6:Int) (p7:Int) (p8:List (eR)) (p9:List (eG)) (p10:List (Int×Int)):Option V :=
 atPath (f165.E k) n ⟨(.u::.u::(.int .i64 p0)::(.ptr 786448 (0) (0))::.u::.u::.u::.u::.u::.u::.u::.u::.u::.u::.u::(.slw 3932176)::.u::.u::.u::.u::.u::.u::.u::.u::.u::.u::.u::.u::.u::.u::.u::.u::.u::.u::.u::.u::.u::.u::.u::.u::.u::.u::.u::.u::.u::.u::.u::.u::.u::.u::.u::.u::.u::.u::.u::.u::.u::.u::.u::.u::.u::(.slw 15990800)::(.int .i64 p1)::(.int .i64 p2)::un 15),[],[(786448,.box [(.int .i64 p3),(.ro qL p4),(.int .i64 p5),(.int .i64 p6),(.int .i64 p7),(.ro qR p8)]),(3932176,.row qG p9),(15990800,.row qS p10)]⟩ 9 0 165 [.c 1,.c 1,.c 1,.c 1,.c 1,.c 1,.c 0,.c 1,.c 0] [] f165.code (finK tt Tryz.f165)
theorem f165.l0_eq (k n:Nat) (p0:Int) (p1:List (eR)) (p2:Int) (p3:Int) (p4:Int) (p5:List (eL)) (p6:Int) (p7:Int) (p8:Int) (p9:Int) (p10:Int) (p11:List Int):f165.l0 k (n+1) p0 p1 p2 p3 p4 p5 p6 p7 p8 p9 p10 p11 =
 bif decide (p3<p2) then (chk (decide ((0:Int)≤p3∧p3<(↑p1.length:Int))) (f165.l1 k k n p0 p1 p2 p3 ((rd qR p1 p3).2.2.2.2.2.2) ((↑(List.length (rd qR p1 p3).2.2.2.2.2.2):Int)) 0 p4 p5 p6 p7 p8 p9 p10 p11 ((rd qR p1 p3).1.1) ((rd qR p1 p3).1.2) ((rd qR p1 p3).2.1) ((rd qR p1 p3).2.2.1) ((rd qR p1 p3).2.2.2.1) ((rd qR p1 p3).2.2.2.2.1) ((rd qR p1 p3).2.2.2.2.2.1))) else ((chk (decide (p11.length≤4096)) (some (cutsOf (p9,p10) p11))).bind (fun y0=>f165.l2 k k p0 ((↑y0.1.length:Int)) 0 p4 p5 p6 p7 p8 p1 ([]) y0.1)):=by kernel_rfl
theorem f165.l1_eq (k n m0:Nat) (p0:Int) (p1:List (eR)) (p2:Int) (p3:Int) (p4:List (eC)) (p5:Int) (p6:Int) (p7:Int) (p8:List (eL)) (p9:Int) (p10:Int) (p11:Int) (p12:Int) (p13:Int) (p14:List Int) (p15:Int) (p16:Int) (p17:Int) (p18:Int) (p19:Int) (p20:Int) (p21:Int):f165.l1 k (n+1) m0 p0 p1 p2 p3 p4 p5 p6 p7 p8 p9 p10 p11 p12 p13 p14 p15 p16 p17 p18 p19 p20 p21 =
 bif decide (p6<p5) then (chk (decide ((0:Int)≤p6∧p6<(↑p4.length:Int))) (bif p17 != p0 then (chk (decide ((p14++[(rd qC p4 p6).1.1,(rd qC p4 p6).1.2]).length*8≤140737488355328)) (f165.l1 k n m0 p0 p1 p2 p3 p4 p5 (Go.IntKind.i64.wrap (p6+(1:Int))) p7 p8 p9 p10 p11 p12 p13 (p14++[(rd qC p4 p6).1.1,(rd qC p4 p6).1.2]) p15 p16 p17 p18 p19 p20 p21)) else (f165.l1 k n m0 p0 p1 p2 p3 p4 p5 (Go.IntKind.i64.wrap (p6+(1:Int))) p7 p8 p9 p10 p11 p12 p13 p14 p15 p16 p17 p18 p19 p20 p21))) else (f165.l0 k m0 p0 p1 p2 (Go.IntKind.i64.wrap (p3+(1:Int))) p7 p8 p9 p10 p11 p12 p13 p14):=by kernel_rfl
theorem f165.l2_eq (k n:Nat) (p0:Int) (p1:Int) (p2:Int) (p3:Int) (p4:List (eL)) (p5:Int) (p6:Int) (p7:Int) (p8:List (eR)) (p9:List (eG)) (p10:List (Int×Int)):f165.l2 k (n+1) p0 p1 p2 p3 p4 p5 p6 p7 p8 p9 p10 =
 bif decide (p2<p1) then (chk (decide ((0:Int)≤p2∧p2<(↑p10.length:Int))) (both (both ((chk (bookMayB ((p3,p4),p5,p6,p7,p8)) (some (roomsV ((p3,p4),p5,p6,p7,p8) (rd qS p10 (↑p2.toNat:Int)).1 p0))).bind (fun y0=>chk (decide ((p9++[(rd qS p10 (↑p2.toNat:Int),y0)]).length*40≤140737488355328)) (f165.l2 k n p0 p1 (Go.IntKind.i64.wrap (p2+(1:Int))) p3 p4 p5 p6 p7 p8 (p9++[(rd qS p10 (↑p2.toNat:Int),y0)]) p10))) ((chk (bookMayB ((p3,p4),p5,p6,p7,p8)) (some (roomsV ((p3,p4),p5,p6,p7,p8) (rd qS p10 (↑p2.toNat:Int)).1 p0))).bind (fun y0=>chk (decide ((p9++[(rd qS p10 (↑p2.toNat:Int),y0)]).length*40≤140737488355328)) (f165.l2 k n p0 p1 (Go.IntKind.i64.wrap (p2+(1:Int))) p3 p4 p5 p6 p7 p8 (p9++[(rd qS p10 (↑p2.toNat:Int),y0)]) p10)))) (both (both ((chk (bookMayB ((p3,p4),p5,p6,p7,p8)) (some (roomsV ((p3,p4),p5,p6,p7,p8) (rd qS p10 (↑p2.toNat:Int)).1 p0))).bind (fun y0=>chk (decide ((p9++[(rd qS p10 (↑p2.toNat:Int),y0)]).length*40≤140737488355328)) (f165.l2 k n p0 p1 (Go.IntKind.i64.wrap (p2+(1:Int))) p3 p4 p5 p6 p7 p8 (p9++[(rd qS p10 (↑p2.toNat:Int),y0)]) p10))) (both ((chk (bookMayB ((p3,p4),p5,p6,p7,p8)) (some (roomsV ((p3,p4),p5,p6,p7,p8) (rd qS p10 (↑p2.toNat:Int)).1 p0))).bind (fun y0=>chk (decide ((p9++[(rd qS p10 (↑p2.toNat:Int),y0)]).length*40≤140737488355328)) (f165.l2 k n p0 p1 (Go.IntKind.i64.wrap (p2+(1:Int))) p3 p4 p5 p6 p7 p8 (p9++[(rd qS p10 (↑p2.toNat:Int),y0)]) p10))) ((chk (bookMayB ((p3,p4),p5,p6,p7,p8)) (some (roomsV ((p3,p4),p5,p6,p7,p8) (rd qS p10 (↑p2.toNat:Int)).1 p0))).bind (fun y0=>chk (decide ((p9++[(rd qS p10 (↑p2.toNat:Int),y0)]).length*40≤140737488355328)) (f165.l2 k n p0 p1 (Go.IntKind.i64.wrap (p2+(1:Int))) p3 p4 p5 p6 p7 p8 (p9++[(rd qS p10 (↑p2.toNat:Int),y0)]) p10))))) (both ((chk (bookMayB ((p3,p4),p5,p6,p7,p8)) (some (roomsV ((p3,p4),p5,p6,p7,p8) (rd qS p10 (↑p2.toNat:Int)).1 p0))).bind (fun y0=>chk (decide ((p9++[(rd qS p10 (↑p2.toNat:Int),y0)]).length*40≤140737488355328)) (f165.l2 k n p0 p1 (Go.IntKind.i64.wrap (p2+(1:Int))) p3 p4 p5 p6 p7 p8 (p9++[(rd qS p10 (↑p2.toNat:Int),y0)]) p10))) (both ((chk (bookMayB ((p3,p4),p5,p6,p7,p8)) (some (roomsV ((p3,p4),p5,p6,p7,p8) (rd qS p10 (↑p2.toNat:Int)).1 p0))).bind (fun y0=>chk (decide ((p9++[(rd qS p10 (↑p2.toNat:Int),y0)]).length*40≤140737488355328)) (f165.l2 k n p0 p1 (Go.IntKind.i64.wrap (p2+(1:Int))) p3 p4 p5 p6 p7 p8 (p9++[(rd qS p10 (↑p2.toNat:Int),y0)]) p10))) ((chk (bookMayB ((p3,p4),p5,p6,p7,p8)) (some (roomsV ((p3,p4),p5,p6,p7,p8) (rd qS p10 (↑p2.toNat:Int)).1 p0))).bind (fun y0=>chk (decide ((p9++[(rd qS p10 (↑p2.toNat:Int),y0)]).length*40≤140737488355328)) (f165.l2 k n p0 p1 (Go.IntKind.i64.wrap (p2+(1:Int))) p3 p4 p5 p6 p7 p8 (p9++[(rd qS p10 (↑p2.toNat:Int),y0)]) p10)))))))) else (some (.tup [(.own qG p9),(.int .i64 0)])):=by kernel_rfl
theorem f165.eq (k:Nat) (x0:(Int×List (eL)) ×
 Int×Int×Int×List (eR)) (x1:Int×Int) (x2:Int):evFn (f165.E k) 9 165 Tryz.f165 (encL [(.pair (.pair qI (.list qL)) (.pair qI (.pair qI (.pair qI (.list qR))))),qS,qI] (x0,x1,x2)) =
 (chk (pcsSmall x0) (some (bookMayB x0))).bind (fun y0=>bif !y0 then (some (.tup [(.own qG ([])),(.int .i64 1900)])) else (bif !spanMay x1 then (some (.tup [(.own qG ([])),(.int .i64 1900)])) else (f165.l0 k k x2 x0.2.2.2.2 ((↑(x0.2.2.2.2.length):Int)) 0 x0.1.1 x0.1.2 x0.2.1 x0.2.2.1 x0.2.2.2.1 x1.1 x1.2 ([])))):=by kernel_rfl
theorem f165.inl (k:Nat):InlOk Tryz.prog (f165.E k):=inl_nil
theorem f165.sums (k:Nat):SumsOk Tryz.prog (f165.E k):=(sums_cons ok77 (sums_cons ok82 (sums_cons ok202 (sums_cons ok203 sums_nil))))
end
section
theorem okB_mem {b:Bk} (h:okB b):∀ r∈b.list,pcsMem r.pcs=true:=by
 intro r hr
 have h8:=pcs_few h r hr
 have hg:=List.all_eq_true.1 (okB_good h) r hr
 unfold goodR at hg
 rw [bA] at hg
 unfold pcsMem
 rw [dT (by omega),tA]
 refine List.all_eq_true.2 fun p hp=>?_
 have h1:=List.all_eq_true.1 hg.2 p hp
 unfold goodPc at h1
 simp only [bA,dE] at h1
 unfold cpPiece
 rw [dT (by omega),tA]
 refine List.all_eq_true.2 fun w hw=>?_
 have h2:=List.all_eq_true.1 h1.2 w hw
 unfold goodPt at h2
 simp only [bA,dE] at h2
 unfold cpPath
 exact dT (by omega)
theorem idxId_spec (id:Int):∀ (rs:List Rs) (i:Nat),(idxId id i rs=-1∧∀ r∈rs,r.id ≠ id)∨∃ j r,idxId id i rs=((i+j:Nat):Int)∧rs[j]? = some r∧r.id=id
 | [],i=>.inl ⟨rfl,fun r hr=>(List.not_mem_nil hr).elim⟩
 |r::rs,i=>by
  simp only [idxId]
  cases h:r.id==id with
  |true=>exact .inr ⟨0,r,rfl,rfl,by simpa using h⟩
  |false =>
   rw [cond_false]
   have hn:r.id ≠ id:=by simpa using h
   rcases idxId_spec id rs (i+1) with ⟨h1,h2⟩|⟨j,q,h1,h2,h3⟩
   ·refine .inl ⟨h1,fun q hq=>?_⟩
    rcases List.mem_cons.1 hq with rfl|hq
    ·exact hn
    ·exact h2 q hq
   ·exact .inr ⟨j+1,q,by rw [h1];congr 1;omega,by simpa using h2,h3⟩
theorem place_spec (b:Bk) (id:Int):(placeOf b id=-1∧∀ r∈b.list,r.id ≠ id)∨∃ (j:Nat) (r:Rs),placeOf b id=(j:Int)∧b.list[j]? = some r∧r.id=id:=by
 rcases idxId_spec id b.list 0 with h|⟨j,r,h1,h2,h3⟩
 ·exact .inl h
 ·exact .inr ⟨j,r,by unfold placeOf;rw [h1,Nat.zero_add],h2,h3⟩
abbrev Rs.none:Rs:=((0,0),0,0,0,0,0,[])
@[reducible] def resV (r:Rs):V:=.agg [.int .i64 r.1.1,.int .i64 r.1.2,.int .i64 r.2.1,.int .i64 r.2.2.1,.int .i64 r.2.2.2.1,.int .i64 r.2.2.2.2.1,.int .i64 r.2.2.2.2.2.1,.own tPc' r.2.2.2.2.2.2]
def getQ (b:Bk) (id:Int):Rs×(Bool×Int):=bif bookMayB b then (match b.list[(placeOf b id).toNat]? with
 |some r=>bif decide (placeOf b id<0) then (Rs.none,false,0) else (r,true,0)
 |none=>(Rs.none,false,0)) else (Rs.none,false,1900)
noncomputable def S157:Summ:=summ [tRs] Rs (fun (r:Rs)=>chk (pcsMem r.pcs) (some r)) resV
theorem ok157:SumOk Tryz.prog 157 S157 :=
 sumq f157.E (fn:=Tryz.f157) (code:=f157.code) f157.sums f157.inl fun (r:Rs) x hx=>by
  obtain ⟨h1,hx⟩:=chk_some hx
  obtain rfl:=oJ hx
  refine ⟨0,(f157.eq _ r).trans ?_⟩
  have h1:pcsMem r.2.2.2.2.2.2=true:=h1
  rw [h1,kT,bS]
noncomputable def S164:Summ:=summ [tBk,tI] (Rs×(Bool×Int)) (fun (d:Bk×Int)=>chk (pcsSmall d.1) (some (getQ d.1 d.2))) (fun x=>.tup [resV x.1,.bool x.2.1,.int .i64 x.2.2])
theorem ok164:SumOk Tryz.prog 164 S164 :=
 sumq f164.E (fn:=Tryz.f164) (code:=f164.code) f164.sums f164.inl fun (d:Bk×Int) x hx=>by
  obtain ⟨b,id⟩:=d
  obtain ⟨hs,hx⟩:=chk_some hx
  obtain rfl:=oJ hx
  have hs:pcsSmall b=true:=hs
  refine ⟨0,(f164.eq _ b id).trans ?_⟩
  rw [hs,kT,bS]
  show _=some (V.tup [resV (getQ b id).1,.bool (getQ b id).2.1,.int .i64 (getQ b id).2.2])
  unfold getQ
  cases hb:bookMayB b with
  |false=>rfl
  |true =>
   have hok:=(book_ok hb).1
   have hll:=(form_parts hok.1).2.2.2.2
   rw [nT,cF,dT (by omega),kT,bS,cond_true]
   rcases place_spec b id with ⟨h1,h2⟩|⟨j,r,h1,h2,h3⟩
   ·rw [h1,show decide ((-1:Int)<0)=true from rfl,cT]
    cases b.list[((-1:Int)).toNat]? <;> rfl
   ·have h2':(b.2.2.2.2)[j]? = some r:=h2
    rw [h1,dF (by omega:¬ ((j:Int)<0)),cF,idx_in h2',kT,rd_some (t:=tRs) h2',Int.toNat_natCast,h2]
    have hm:=okB_mem hok r (List.mem_of_getElem? h2)
    have hm:pcsMem r.2.2.2.2.2.2=true:=hm
    rw [hm,kT,bS]
    rfl
def endsP (ps:List Pc):List Int:=ps.flatMap fun p=>[p.1.1,p.1.2]
def ptsR (but:Int) (r:Rs):List Int:=bif r.id==but then [] else endsP r.pcs
def ptsB (but:Int) (rs:List Rs):List Int:=rs.flatMap (ptsR but)
def spansB (b:Bk) (s:Int×Int) (but:Int):List (Int×Int):=(cutsOf s (ptsB but b.list)).1
def slicesB (b:Bk) (s:Int×Int) (but:Int):List Sg:=(spansB b s but).map fun c=>(c,roomsV b c.1 but)
def slicesQ (b:Bk) (s:Int×Int) (but:Int):List Sg×Int:=bif bookMayB b&&spanMay s then (slicesB b s but,0) else ([],1900)
theorem endsP_len (ps:List Pc):(endsP ps).length=2*ps.length:=by
 induction ps with
 |nil=>rfl
 |cons p ps ih =>
  show ([p.1.1,p.1.2]++endsP ps).length=_
  rw [lA,ih]
  simp only [List.length_cons,List.length_nil]
  omega
theorem ptsR_len (but:Int) (r:Rs) (h:r.pcs.length≤8):(ptsR but r).length≤16:=by
 unfold ptsR
 cases r.id==but with
 |true=>exact Nat.zero_le _
 |false=>rw [cond_false,endsP_len];omega
theorem ptsB_len (but:Int):∀ (rs:List Rs),(∀ r∈rs,r.pcs.length≤8)→(ptsB but rs).length≤16*rs.length
 | [],_=>Nat.le_refl _
 |r::rs,h=>by
  have:=ptsB_len but rs fun q hq=>h q (List.mem_cons_of_mem _ hq)
  have:=ptsR_len but r (h r (by simp))
  show (ptsR but r++ptsB but rs).length≤_
  rw [lA,List.length_cons]
  omega
theorem spansFrom_len:∀ (ps:List Int) (f:Int),(spansFrom f ps).length=ps.length
 | [],f=>rfl
 |p::ps,f=>by
  have:=spansFrom_len ps
  simp only [spansFrom,List.length_cons,this]
theorem spansB_len {b:Bk} (h:okB b) (s:Int×Int) (but:Int):(spansB b s but).length≤129∧(ptsB but b.list).length≤128:=by
 have h1:=ptsB_len but b.list (pcs_few h)
 have h2:=(form_parts h.1).2.2.2.2
 refine ⟨?_,by omega⟩
 unfold spansB cutsOf
 cases spanMay s with
 |false=>exact Nat.zero_le _
 |true =>
  rw [cond_true,spansFrom_len]
  unfold cutPts
  have h3:=compact_le (sortI (s.2::(ptsB but b.list).filter fun p=>decide (s.1<p)&&decide (p<s.2)))
  rw [sortI_len,List.length_cons] at h3
  have h4:=List.length_filter_le (fun p=>decide (s.1<p)&&decide (p<s.2)) (ptsB but b.list)
  omega
theorem f165.l2_is (k:Nat) (b:Bk) (hb:bookMayB b=true) (but:Int) (cs:List (Int×Int)) (hc:cs.length≤129):∀ (n i:Nat),i≤cs.length→cs.length<n+i →
  f165.l2 k n but cs.length i b.1.1 b.1.2 b.2.1 b.2.2.1 b.2.2.2.1 b.list ((cs.map fun c=>(c,roomsV b c.1 but)).take i) cs=some (.tup [.own tSg (cs.map fun c=>(c,roomsV b c.1 but)),.int .i64 0])
 |0,i,h,h'=>by omega
 |n+1,i,h,h'=>by
  have hbk:((b.1.1,b.1.2),b.2.1,b.2.2.1,b.2.2.2.1,b.list)=b:=rfl
  by_cases hlt:i<cs.length
  ·have hx:=gE hlt
   have e:(cs.map fun c=>(c,roomsV b c.1 but)).take i++[(cs[i],roomsV b cs[i].1 but)]=(cs.map fun c=>(c,roomsV b c.1 but)).take (i+1):=by
    rw [List.take_add_one,List.getElem?_map,hx]
    rfl
   have hc:decide (((cs.map fun c=>(c,roomsV b c.1 but)).take (i+1)).length*40≤140737488355328)=true:=by
    rw [List.length_take]
    exact dT (by omega)
   rw [f165.l2_eq,idx_lt' hx,cT,wrap_succ (by omega),hbk,Int.toNat_natCast,rd_some (t:=tSp) hx]
   simp only [idx_in hx,kT,hb,bS,both_self,e,chk_eq hc]
   exact f165.l2_is k b hb but cs (by omega) n (i+1) (by omega) (by omega)
  ·obtain rfl:i=cs.length:=by omega
   rw [f165.l2_eq,end_lt,cF,List.take_of_length_le (by rw [List.length_map];exact Nat.le_refl _)]
theorem f165.l1_is (k m0:Nat) (b:Bk) (but M:Int) (s:Int×Int) (i:Nat) (hi:i<4611686018427387904) (r:Rs) (h8:r.pcs.length≤8):∀ (n j:Nat) (acc:List Int),j≤r.pcs.length→r.pcs.length<n+j→acc.length≤1000+2*j →
  f165.l1 k n m0 but b.list M i r.pcs r.pcs.length j b.1.1 b.1.2 b.2.1 b.2.2.1 b.2.2.2.1 s.1 s.2 acc r.1.1 r.1.2 r.2.1 r.2.2.1 r.2.2.2.1 r.2.2.2.2.1 r.2.2.2.2.2.1=f165.l0 k m0 but b.list M ((i+1:Nat):Int) b.1.1 b.1.2 b.2.1 b.2.2.1 b.2.2.2.1 s.1 s.2 (acc++(bif r.id==but then [] else endsP (r.pcs.drop j)))
 |0,j,acc,h,h',_=>by omega
 |n+1,j,acc,h,h',ha=>by
  rw [f165.l1_eq]
  by_cases hlt:j<r.pcs.length
  ·have hx:=gE hlt
   rw [idx_lt' hx,cT,idx_in hx,kT,rd_some (t:=.pair tSp (.list tP)) hx,wrap_succ (by omega)]
   cases hb:r.id==but with
   |true =>
    have hb':(r.2.1 != but)=false:=by simp only [bne];rw [show (r.2.1==but)=true from hb];rfl
    rw [hb',cF,f165.l1_is k m0 b but M s i hi r h8 n (j+1) acc (by omega) (by omega) (by omega),hb,cond_true,cond_true]
   |false =>
    have hb':(r.2.1 != but)=true:=by simp only [bne];rw [show (r.2.1==but)=false from hb];rfl
    rw [hb',cT,dT (by rw [lA,List.length_cons,List.length_singleton];omega),kT,
     f165.l1_is k m0 b but M s i hi r h8 n (j+1) _ (by omega) (by omega) (by rw [lA,List.length_cons,List.length_singleton];omega),hb,cond_false,cond_false,List.append_assoc,List.drop_eq_getElem_cons hlt]
    rfl
  ·obtain rfl:j=r.pcs.length:=by omega
   rw [end_lt,cF,wrap_succ (by omega),List.drop_length]
   cases r.id==but with
   |true=>rw [cond_true,List.append_nil]
   |false=>rw [cond_false,show endsP []=[] from rfl,List.append_nil]
theorem f165.l0_is (k:Nat) (hk:200<k) (b:Bk) (hb:bookMayB b=true) (but:Int) (s:Int×Int):∀ (n i:Nat),i≤b.list.length→b.list.length<n+i →
  f165.l0 k n but b.list b.list.length i b.1.1 b.1.2 b.2.1 b.2.2.1 b.2.2.2.1 s.1 s.2 (ptsB but (b.list.take i))=some (.tup [.own tSg (slicesB b s but),.int .i64 0])
 |0,i,h,h'=>by omega
 |n+1,i,h,h'=>by
  have hok:=(book_ok hb).1
  have hll:=(form_parts hok.1).2.2.2.2
  rw [f165.l0_eq]
  by_cases hlt:i<b.list.length
  ·have hx:=gE hlt
   have h8:=pcs_few hok _ (List.getElem_mem hlt)
   have hlen:=ptsB_len but (b.list.take i) fun r hr=>pcs_few hok r (List.mem_of_mem_take hr)
   rw [List.length_take] at hlen
   rw [idx_lt' hx,cT,idx_in hx,kT,rd_some (t:=tRs) hx]
   have:=f165.l1_is k n b but b.list.length s i (by omega) b.list[i] h8 k 0 (ptsB but (b.list.take i)) (by omega) (by omega) (by omega)
   rw [show ((0:Nat):Int)=0 from rfl,List.drop_zero] at this
   refine this.trans ?_
   have e:ptsB but (b.list.take i)++(bif b.list[i].id==but then [] else endsP b.list[i].pcs)=ptsB but (b.list.take (i+1)):=by
    rw [List.take_succ_eq_append_getElem hlt]
    unfold ptsB
    rw [List.flatMap_append]
    simp only [List.flatMap_cons,List.flatMap_nil,List.append_nil]
    rfl
   rw [e]
   exact f165.l0_is k hk b hb but s n (i+1) (by omega) (by omega)
  ·obtain rfl:i=b.list.length:=by omega
   obtain ⟨h1,h2⟩:=spansB_len hok s but
   rw [end_lt,cF,List.take_length,dT (by omega),kT,bS]
   have:=f165.l2_is k b hb but (spansB b s but) h1 k 0 (by omega) (by omega)
   rw [show ((0:Nat):Int)=0 from rfl,List.take_zero] at this
   exact this
@[reducible] def resSE (x:List Sg×Int):V:=.tup [.own tSg x.1,.int .i64 x.2]
noncomputable def S165:Summ:=summ [tBk,tSp,tI] (List Sg×Int) (fun (d:Bk×((Int×Int)×Int))=>chk (pcsSmall d.1) (some (slicesQ d.1 d.2.1 d.2.2))) resSE
theorem ok165:SumOk Tryz.prog 165 S165 :=
 sumq f165.E (fn:=Tryz.f165) (code:=f165.code) f165.sums f165.inl fun (d:Bk×((Int×Int)×Int)) x hx=>by
  obtain ⟨b,s,but⟩:=d
  obtain ⟨hs,hx⟩:=chk_some hx
  obtain rfl:=oJ hx
  have hs:pcsSmall b=true:=hs
  refine ⟨201,(f165.eq _ b s but).trans ?_⟩
  rw [hs,kT,bS]
  show _=some (resSE (slicesQ b s but))
  unfold slicesQ
  cases hb:bookMayB b with
  |false=>rfl
  |true =>
   cases hsp:spanMay s with
   |false=>rfl
   |true =>
    rw [nT,cF,cF,Bool.and_self,cond_true]
    have hll:=(form_parts (book_ok hb).1.1).2.2.2.2
    exact f165.l0_is 201 (by omega) b hb but s 201 0 (by omega) (by omega)
end
section
set_option maxRecDepth 100000
noncomputable def f83.E (k:Nat):Env:=mkEnv tt [(122,S122)] [(143,Tryz.f143)] [(83,4,[.drop 61]),(143,3,[.drop 63]),(143,5,[.drop 63]),(143,10,[.drop 63])] [] k
noncomputable def f83.code:Go.Code:=cd Tryz.f83
theorem f83.eq (k:Nat) (x0:(Int×Int)×Int×Int×eL):evFn (f83.E k) 9 83 Tryz.f83 (encL [(.pair qS (.pair qI (.pair qI qL)))] x0) =
 bif x0.2.1==(1:Int) then (bif x0.2.1==(1:Int) then (bif !rateB x0.2.2.2.1 then (some (.bool false)) else (bif !rateB x0.2.2.2.2.1 then (some (.bool false)) else (bif !rateB x0.2.2.2.2.2 then (some (.bool false)) else (bif !rateB x0.1.1 then (some (.bool false)) else (bif !rateB x0.1.2 then (some (.bool false)) else (some (.bool (x0.1.1==x0.1.1&&(x0.1.2==x0.1.2&&(x0.2.1==x0.2.1&&((0:Int)==x0.2.2.1&&(x0.2.2.2.1==x0.2.2.2.1&&(x0.2.2.2.2.1==x0.2.2.2.2.1&&(x0.2.2.2.2.2==x0.2.2.2.2.2&&true)))))))))))))) else (bif x0.2.1==(2:Int) then (bif !rateB x0.2.2.2.1 then (some (.bool false)) else (bif !rateB x0.2.2.2.2.1 then (some (.bool false)) else (bif !rateB x0.2.2.2.2.2 then (some (.bool false)) else (bif !rateB x0.1.1 then (some (.bool false)) else (some (.bool (x0.2.2.2.2.2==x0.1.1&&(x0.1.1==x0.1.2&&(x0.2.1==x0.2.1&&(x0.2.2.2.1==x0.2.2.1&&((0:Int)==x0.2.2.2.1&&((0:Int)==x0.2.2.2.2.1&&(x0.2.2.2.2.1==x0.2.2.2.2.2&&true))))))))))))) else (bif x0.2.1==(3:Int) then (bif x0.2.1==(3:Int) then (bif !rateB x0.2.2.2.1 then (some (.bool false)) else (some (.bool ((0:Int)==x0.1.1&&((0:Int)==x0.1.2&&(x0.2.1==x0.2.1&&(x0.2.2.2.1==x0.2.2.1&&((0:Int)==x0.2.2.2.1&&((0:Int)==x0.2.2.2.2.1&&((0:Int)==x0.2.2.2.2.2&&true)))))))))) else (bif x0.2.1==(5:Int) then (bif !rateB x0.2.2.2.1 then (some (.bool false)) else (bif !rateB x0.2.2.2.2.1 then (some (.bool false)) else (some (.bool (x0.2.2.2.2.1==x0.1.1&&((0:Int)==x0.1.2&&(x0.2.1==x0.2.1&&(x0.2.2.2.1==x0.2.2.1&&((0:Int)==x0.2.2.2.1&&((0:Int)==x0.2.2.2.2.1&&((0:Int)==x0.2.2.2.2.2&&true))))))))))) else (bif x0.2.1==(6:Int) then (bif !rateB x0.2.2.2.1 then (some (.bool false)) else (some (.bool (x0.2.2.2.1==x0.1.1&&((0:Int)==x0.1.2&&(x0.2.1==x0.2.1&&((0:Int)==x0.2.2.1&&((0:Int)==x0.2.2.2.1&&((0:Int)==x0.2.2.2.2.1&&((0:Int)==x0.2.2.2.2.2&&true)))))))))) else (some (.bool ((0:Int)==x0.1.1&&((0:Int)==x0.1.2&&(x0.2.1==x0.2.1&&((0:Int)==x0.2.2.1&&((0:Int)==x0.2.2.2.1&&((0:Int)==x0.2.2.2.2.1&&((0:Int)==x0.2.2.2.2.2&&true)))))))))))) else (bif x0.2.1==(4:Int) then (bif !rateB x0.2.2.2.1 then (some (.bool false)) else (some (.bool ((0:Int)==x0.1.1&&((0:Int)==x0.1.2&&(x0.2.1==x0.2.1&&(x0.2.2.2.1==x0.2.2.1&&((0:Int)==x0.2.2.2.1&&((0:Int)==x0.2.2.2.2.1&&((0:Int)==x0.2.2.2.2.2&&true)))))))))) else (bif x0.2.1==(5:Int) then (bif !rateB x0.2.2.2.1 then (some (.bool false)) else (bif !rateB x0.2.2.2.2.1 then (some (.bool false)) else (some (.bool (x0.2.2.2.2.1==x0.1.1&&((0:Int)==x0.1.2&&(x0.2.1==x0.2.1&&(x0.2.2.2.1==x0.2.2.1&&((0:Int)==x0.2.2.2.1&&((0:Int)==x0.2.2.2.2.1&&((0:Int)==x0.2.2.2.2.2&&true))))))))))) else (bif x0.2.1==(6:Int) then (bif !rateB x0.2.2.2.1 then (some (.bool false)) else (some (.bool (x0.2.2.2.1==x0.1.1&&((0:Int)==x0.1.2&&(x0.2.1==x0.2.1&&((0:Int)==x0.2.2.1&&((0:Int)==x0.2.2.2.1&&((0:Int)==x0.2.2.2.2.1&&((0:Int)==x0.2.2.2.2.2&&true)))))))))) else (some (.bool ((0:Int)==x0.1.1&&((0:Int)==x0.1.2&&(x0.2.1==x0.2.1&&((0:Int)==x0.2.2.1&&((0:Int)==x0.2.2.2.1&&((0:Int)==x0.2.2.2.2.1&&((0:Int)==x0.2.2.2.2.2&&true))))))))))))))) else (bif x0.2.1==(2:Int) then (bif x0.2.1==(1:Int) then (bif !rateB x0.2.2.1 then (some (.bool false)) else (bif !rateB x0.2.2.2.2.2 then (some (.bool false)) else (bif !rateB x0.1.1 then (some (.bool false)) else (chk (!rateB x0.1.2) (some (.bool false)))))) else (bif x0.2.1==(2:Int) then (bif !rateB x0.2.2.1 then (some (.bool false)) else (bif !rateB x0.2.2.2.2.2 then (some (.bool false)) else (bif !rateB x0.1.1 then (some (.bool false)) else (bif !rateB x0.1.2 then (some (.bool false)) else (some (.bool (x0.1.1==x0.1.1&&(x0.1.2==x0.1.2&&(x0.2.1==x0.2.1&&(x0.2.2.1==x0.2.2.1&&((0:Int)==x0.2.2.2.1&&((0:Int)==x0.2.2.2.2.1&&(x0.2.2.2.2.2==x0.2.2.2.2.2&&true))))))))))))) else (bif x0.2.1==(3:Int) then (bif x0.2.1==(3:Int) then (bif !rateB x0.2.2.1 then (some (.bool false)) else (some (.bool ((0:Int)==x0.1.1&&((0:Int)==x0.1.2&&(x0.2.1==x0.2.1&&(x0.2.2.1==x0.2.2.1&&((0:Int)==x0.2.2.2.1&&((0:Int)==x0.2.2.2.2.1&&((0:Int)==x0.2.2.2.2.2&&true)))))))))) else (bif x0.2.1==(5:Int) then (bif !rateB x0.2.2.1 then (some (.bool false)) else (bif !rateB x0.2.2.2.2.2 then (some (.bool false)) else (some (.bool (x0.2.2.2.2.2==x0.1.1&&((0:Int)==x0.1.2&&(x0.2.1==x0.2.1&&(x0.2.2.1==x0.2.2.1&&((0:Int)==x0.2.2.2.1&&((0:Int)==x0.2.2.2.2.1&&((0:Int)==x0.2.2.2.2.2&&true))))))))))) else (bif x0.2.1==(6:Int) then (bif !rateB x0.2.2.1 then (some (.bool false)) else (some (.bool (x0.2.2.1==x0.1.1&&((0:Int)==x0.1.2&&(x0.2.1==x0.2.1&&((0:Int)==x0.2.2.1&&((0:Int)==x0.2.2.2.1&&((0:Int)==x0.2.2.2.2.1&&((0:Int)==x0.2.2.2.2.2&&true)))))))))) else (some (.bool ((0:Int)==x0.1.1&&((0:Int)==x0.1.2&&(x0.2.1==x0.2.1&&((0:Int)==x0.2.2.1&&((0:Int)==x0.2.2.2.1&&((0:Int)==x0.2.2.2.2.1&&((0:Int)==x0.2.2.2.2.2&&true)))))))))))) else (bif x0.2.1==(4:Int) then (bif !rateB x0.2.2.1 then (some (.bool false)) else (some (.bool ((0:Int)==x0.1.1&&((0:Int)==x0.1.2&&(x0.2.1==x0.2.1&&(x0.2.2.1==x0.2.2.1&&((0:Int)==x0.2.2.2.1&&((0:Int)==x0.2.2.2.2.1&&((0:Int)==x0.2.2.2.2.2&&true)))))))))) else (bif x0.2.1==(5:Int) then (bif !rateB x0.2.2.1 then (some (.bool false)) else (bif !rateB x0.2.2.2.2.2 then (some (.bool false)) else (some (.bool (x0.2.2.2.2.2==x0.1.1&&((0:Int)==x0.1.2&&(x0.2.1==x0.2.1&&(x0.2.2.1==x0.2.2.1&&((0:Int)==x0.2.2.2.1&&((0:Int)==x0.2.2.2.2.1&&((0:Int)==x0.2.2.2.2.2&&true))))))))))) else (bif x0.2.1==(6:Int) then (bif !rateB x0.2.2.1 then (some (.bool false)) else (some (.bool (x0.2.2.1==x0.1.1&&((0:Int)==x0.1.2&&(x0.2.1==x0.2.1&&((0:Int)==x0.2.2.1&&((0:Int)==x0.2.2.2.1&&((0:Int)==x0.2.2.2.2.1&&((0:Int)==x0.2.2.2.2.2&&true)))))))))) else (some (.bool ((0:Int)==x0.1.1&&((0:Int)==x0.1.2&&(x0.2.1==x0.2.1&&((0:Int)==x0.2.2.1&&((0:Int)==x0.2.2.2.1&&((0:Int)==x0.2.2.2.2.1&&((0:Int)==x0.2.2.2.2.2&&true))))))))))))))) else (bif x0.2.1==(3:Int) then (bif x0.2.1==(3:Int) then (bif x0.2.1==(1:Int) then (chk (!rateB x0.2.2.1) (some (.bool false))) else (bif x0.2.1==(2:Int) then (chk (!rateB x0.2.2.1) (some (.bool false))) else (bif x0.2.1==(3:Int) then (bif x0.2.1==(3:Int) then (bif !rateB x0.2.2.1 then (some (.bool false)) else (some (.bool ((0:Int)==x0.1.1&&((0:Int)==x0.1.2&&(x0.2.1==x0.2.1&&(x0.2.2.1==x0.2.2.1&&((0:Int)==x0.2.2.2.1&&((0:Int)==x0.2.2.2.2.1&&((0:Int)==x0.2.2.2.2.2&&true)))))))))) else (bif x0.2.1==(5:Int) then (chk (!rateB x0.2.2.1) (some (.bool false))) else (bif x0.2.1==(6:Int) then (bif !rateB x0.2.2.1 then (some (.bool false)) else (some (.bool (x0.2.2.1==x0.1.1&&((0:Int)==x0.1.2&&(x0.2.1==x0.2.1&&((0:Int)==x0.2.2.1&&((0:Int)==x0.2.2.2.1&&((0:Int)==x0.2.2.2.2.1&&((0:Int)==x0.2.2.2.2.2&&true)))))))))) else (some (.bool ((0:Int)==x0.1.1&&((0:Int)==x0.1.2&&(x0.2.1==x0.2.1&&((0:Int)==x0.2.2.1&&((0:Int)==x0.2.2.2.1&&((0:Int)==x0.2.2.2.2.1&&((0:Int)==x0.2.2.2.2.2&&true)))))))))))) else (bif x0.2.1==(4:Int) then (bif !rateB x0.2.2.1 then (some (.bool false)) else (some (.bool ((0:Int)==x0.1.1&&((0:Int)==x0.1.2&&(x0.2.1==x0.2.1&&(x0.2.2.1==x0.2.2.1&&((0:Int)==x0.2.2.2.1&&((0:Int)==x0.2.2.2.2.1&&((0:Int)==x0.2.2.2.2.2&&true)))))))))) else (bif x0.2.1==(5:Int) then (chk (!rateB x0.2.2.1) (some (.bool false))) else (bif x0.2.1==(6:Int) then (bif !rateB x0.2.2.1 then (some (.bool false)) else (some (.bool (x0.2.2.1==x0.1.1&&((0:Int)==x0.1.2&&(x0.2.1==x0.2.1&&((0:Int)==x0.2.2.1&&((0:Int)==x0.2.2.2.1&&((0:Int)==x0.2.2.2.2.1&&((0:Int)==x0.2.2.2.2.2&&true)))))))))) else (some (.bool ((0:Int)==x0.1.1&&((0:Int)==x0.1.2&&(x0.2.1==x0.2.1&&((0:Int)==x0.2.2.1&&((0:Int)==x0.2.2.2.1&&((0:Int)==x0.2.2.2.2.1&&((0:Int)==x0.2.2.2.2.2&&true))))))))))))))) else (bif x0.2.1==(5:Int) then (bif x0.2.1==(1:Int) then (bif !rateB x0.2.2.1 then (some (.bool false)) else (chk (!rateB x0.1.1) (some (.bool false)))) else (bif x0.2.1==(2:Int) then (bif !rateB x0.2.2.1 then (some (.bool false)) else (chk (!rateB x0.1.1) (some (.bool false)))) else (bif x0.2.1==(3:Int) then (bif x0.2.1==(3:Int) then (bif !rateB x0.2.2.1 then (some (.bool false)) else (some (.bool ((0:Int)==x0.1.1&&((0:Int)==x0.1.2&&(x0.2.1==x0.2.1&&(x0.2.2.1==x0.2.2.1&&((0:Int)==x0.2.2.2.1&&((0:Int)==x0.2.2.2.2.1&&((0:Int)==x0.2.2.2.2.2&&true)))))))))) else (bif x0.2.1==(5:Int) then (bif !rateB x0.2.2.1 then (some (.bool false)) else (bif !rateB x0.1.1 then (some (.bool false)) else (some (.bool (x0.1.1==x0.1.1&&((0:Int)==x0.1.2&&(x0.2.1==x0.2.1&&(x0.2.2.1==x0.2.2.1&&((0:Int)==x0.2.2.2.1&&((0:Int)==x0.2.2.2.2.1&&((0:Int)==x0.2.2.2.2.2&&true))))))))))) else (bif x0.2.1==(6:Int) then (bif !rateB x0.2.2.1 then (some (.bool false)) else (some (.bool (x0.2.2.1==x0.1.1&&((0:Int)==x0.1.2&&(x0.2.1==x0.2.1&&((0:Int)==x0.2.2.1&&((0:Int)==x0.2.2.2.1&&((0:Int)==x0.2.2.2.2.1&&((0:Int)==x0.2.2.2.2.2&&true)))))))))) else (some (.bool ((0:Int)==x0.1.1&&((0:Int)==x0.1.2&&(x0.2.1==x0.2.1&&((0:Int)==x0.2.2.1&&((0:Int)==x0.2.2.2.1&&((0:Int)==x0.2.2.2.2.1&&((0:Int)==x0.2.2.2.2.2&&true)))))))))))) else (bif x0.2.1==(4:Int) then (bif !rateB x0.2.2.1 then (some (.bool false)) else (some (.bool ((0:Int)==x0.1.1&&((0:Int)==x0.1.2&&(x0.2.1==x0.2.1&&(x0.2.2.1==x0.2.2.1&&((0:Int)==x0.2.2.2.1&&((0:Int)==x0.2.2.2.2.1&&((0:Int)==x0.2.2.2.2.2&&true)))))))))) else (bif x0.2.1==(5:Int) then (bif !rateB x0.2.2.1 then (some (.bool false)) else (bif !rateB x0.1.1 then (some (.bool false)) else (some (.bool (x0.1.1==x0.1.1&&((0:Int)==x0.1.2&&(x0.2.1==x0.2.1&&(x0.2.2.1==x0.2.2.1&&((0:Int)==x0.2.2.2.1&&((0:Int)==x0.2.2.2.2.1&&((0:Int)==x0.2.2.2.2.2&&true))))))))))) else (bif x0.2.1==(6:Int) then (bif !rateB x0.2.2.1 then (some (.bool false)) else (some (.bool (x0.2.2.1==x0.1.1&&((0:Int)==x0.1.2&&(x0.2.1==x0.2.1&&((0:Int)==x0.2.2.1&&((0:Int)==x0.2.2.2.1&&((0:Int)==x0.2.2.2.2.1&&((0:Int)==x0.2.2.2.2.2&&true)))))))))) else (some (.bool ((0:Int)==x0.1.1&&((0:Int)==x0.1.2&&(x0.2.1==x0.2.1&&((0:Int)==x0.2.2.1&&((0:Int)==x0.2.2.2.1&&((0:Int)==x0.2.2.2.2.1&&((0:Int)==x0.2.2.2.2.2&&true))))))))))))))) else (bif x0.2.1==(6:Int) then (bif x0.2.1==(1:Int) then (chk (!rateB x0.1.1) (some (.bool false))) else (bif x0.2.1==(2:Int) then (chk (!rateB x0.1.1) (some (.bool false))) else (bif x0.2.1==(3:Int) then (bif x0.2.1==(3:Int) then (bif !rateB x0.1.1 then (some (.bool false)) else (some (.bool ((0:Int)==x0.1.1&&((0:Int)==x0.1.2&&(x0.2.1==x0.2.1&&(x0.1.1==x0.2.2.1&&((0:Int)==x0.2.2.2.1&&((0:Int)==x0.2.2.2.2.1&&((0:Int)==x0.2.2.2.2.2&&true)))))))))) else (bif x0.2.1==(5:Int) then (chk (!rateB x0.1.1) (some (.bool false))) else (bif x0.2.1==(6:Int) then (bif !rateB x0.1.1 then (some (.bool false)) else (some (.bool (x0.1.1==x0.1.1&&((0:Int)==x0.1.2&&(x0.2.1==x0.2.1&&((0:Int)==x0.2.2.1&&((0:Int)==x0.2.2.2.1&&((0:Int)==x0.2.2.2.2.1&&((0:Int)==x0.2.2.2.2.2&&true)))))))))) else (some (.bool ((0:Int)==x0.1.1&&((0:Int)==x0.1.2&&(x0.2.1==x0.2.1&&((0:Int)==x0.2.2.1&&((0:Int)==x0.2.2.2.1&&((0:Int)==x0.2.2.2.2.1&&((0:Int)==x0.2.2.2.2.2&&true)))))))))))) else (bif x0.2.1==(4:Int) then (bif !rateB x0.1.1 then (some (.bool false)) else (some (.bool ((0:Int)==x0.1.1&&((0:Int)==x0.1.2&&(x0.2.1==x0.2.1&&(x0.1.1==x0.2.2.1&&((0:Int)==x0.2.2.2.1&&((0:Int)==x0.2.2.2.2.1&&((0:Int)==x0.2.2.2.2.2&&true)))))))))) else (bif x0.2.1==(5:Int) then (chk (!rateB x0.1.1) (some (.bool false))) else (bif x0.2.1==(6:Int) then (bif !rateB x0.1.1 then (some (.bool false)) else (some (.bool (x0.1.1==x0.1.1&&((0:Int)==x0.1.2&&(x0.2.1==x0.2.1&&((0:Int)==x0.2.2.1&&((0:Int)==x0.2.2.2.1&&((0:Int)==x0.2.2.2.2.1&&((0:Int)==x0.2.2.2.2.2&&true)))))))))) else (some (.bool ((0:Int)==x0.1.1&&((0:Int)==x0.1.2&&(x0.2.1==x0.2.1&&((0:Int)==x0.2.2.1&&((0:Int)==x0.2.2.2.1&&((0:Int)==x0.2.2.2.2.1&&((0:Int)==x0.2.2.2.2.2&&true))))))))))))))) else (bif x0.2.1==(1:Int) then (none) else (bif x0.2.1==(2:Int) then (none) else (bif x0.2.1==(3:Int) then (bif x0.2.1==(3:Int) then (none) else (bif x0.2.1==(5:Int) then (none) else (bif x0.2.1==(6:Int) then (none) else (some (.bool false))))) else (bif x0.2.1==(4:Int) then (none) else (bif x0.2.1==(5:Int) then (none) else (bif x0.2.1==(6:Int) then (none) else (some (.bool false))))))))))) else (bif x0.2.1==(4:Int) then (bif x0.2.1==(1:Int) then (chk (!rateB x0.2.2.1) (some (.bool false))) else (bif x0.2.1==(2:Int) then (chk (!rateB x0.2.2.1) (some (.bool false))) else (bif x0.2.1==(3:Int) then (bif x0.2.1==(3:Int) then (bif !rateB x0.2.2.1 then (some (.bool false)) else (some (.bool ((0:Int)==x0.1.1&&((0:Int)==x0.1.2&&(x0.2.1==x0.2.1&&(x0.2.2.1==x0.2.2.1&&((0:Int)==x0.2.2.2.1&&((0:Int)==x0.2.2.2.2.1&&((0:Int)==x0.2.2.2.2.2&&true)))))))))) else (bif x0.2.1==(5:Int) then (chk (!rateB x0.2.2.1) (some (.bool false))) else (bif x0.2.1==(6:Int) then (bif !rateB x0.2.2.1 then (some (.bool false)) else (some (.bool (x0.2.2.1==x0.1.1&&((0:Int)==x0.1.2&&(x0.2.1==x0.2.1&&((0:Int)==x0.2.2.1&&((0:Int)==x0.2.2.2.1&&((0:Int)==x0.2.2.2.2.1&&((0:Int)==x0.2.2.2.2.2&&true)))))))))) else (some (.bool ((0:Int)==x0.1.1&&((0:Int)==x0.1.2&&(x0.2.1==x0.2.1&&((0:Int)==x0.2.2.1&&((0:Int)==x0.2.2.2.1&&((0:Int)==x0.2.2.2.2.1&&((0:Int)==x0.2.2.2.2.2&&true)))))))))))) else (bif x0.2.1==(4:Int) then (bif !rateB x0.2.2.1 then (some (.bool false)) else (some (.bool ((0:Int)==x0.1.1&&((0:Int)==x0.1.2&&(x0.2.1==x0.2.1&&(x0.2.2.1==x0.2.2.1&&((0:Int)==x0.2.2.2.1&&((0:Int)==x0.2.2.2.2.1&&((0:Int)==x0.2.2.2.2.2&&true)))))))))) else (bif x0.2.1==(5:Int) then (chk (!rateB x0.2.2.1) (some (.bool false))) else (bif x0.2.1==(6:Int) then (bif !rateB x0.2.2.1 then (some (.bool false)) else (some (.bool (x0.2.2.1==x0.1.1&&((0:Int)==x0.1.2&&(x0.2.1==x0.2.1&&((0:Int)==x0.2.2.1&&((0:Int)==x0.2.2.2.1&&((0:Int)==x0.2.2.2.2.1&&((0:Int)==x0.2.2.2.2.2&&true)))))))))) else (some (.bool ((0:Int)==x0.1.1&&((0:Int)==x0.1.2&&(x0.2.1==x0.2.1&&((0:Int)==x0.2.2.1&&((0:Int)==x0.2.2.2.1&&((0:Int)==x0.2.2.2.2.1&&((0:Int)==x0.2.2.2.2.2&&true))))))))))))))) else (bif x0.2.1==(5:Int) then (bif x0.2.1==(1:Int) then (bif !rateB x0.2.2.1 then (some (.bool false)) else (chk (!rateB x0.1.1) (some (.bool false)))) else (bif x0.2.1==(2:Int) then (bif !rateB x0.2.2.1 then (some (.bool false)) else (chk (!rateB x0.1.1) (some (.bool false)))) else (bif x0.2.1==(3:Int) then (bif x0.2.1==(3:Int) then (bif !rateB x0.2.2.1 then (some (.bool false)) else (some (.bool ((0:Int)==x0.1.1&&((0:Int)==x0.1.2&&(x0.2.1==x0.2.1&&(x0.2.2.1==x0.2.2.1&&((0:Int)==x0.2.2.2.1&&((0:Int)==x0.2.2.2.2.1&&((0:Int)==x0.2.2.2.2.2&&true)))))))))) else (bif x0.2.1==(5:Int) then (bif !rateB x0.2.2.1 then (some (.bool false)) else (bif !rateB x0.1.1 then (some (.bool false)) else (some (.bool (x0.1.1==x0.1.1&&((0:Int)==x0.1.2&&(x0.2.1==x0.2.1&&(x0.2.2.1==x0.2.2.1&&((0:Int)==x0.2.2.2.1&&((0:Int)==x0.2.2.2.2.1&&((0:Int)==x0.2.2.2.2.2&&true))))))))))) else (bif x0.2.1==(6:Int) then (bif !rateB x0.2.2.1 then (some (.bool false)) else (some (.bool (x0.2.2.1==x0.1.1&&((0:Int)==x0.1.2&&(x0.2.1==x0.2.1&&((0:Int)==x0.2.2.1&&((0:Int)==x0.2.2.2.1&&((0:Int)==x0.2.2.2.2.1&&((0:Int)==x0.2.2.2.2.2&&true)))))))))) else (some (.bool ((0:Int)==x0.1.1&&((0:Int)==x0.1.2&&(x0.2.1==x0.2.1&&((0:Int)==x0.2.2.1&&((0:Int)==x0.2.2.2.1&&((0:Int)==x0.2.2.2.2.1&&((0:Int)==x0.2.2.2.2.2&&true)))))))))))) else (bif x0.2.1==(4:Int) then (bif !rateB x0.2.2.1 then (some (.bool false)) else (some (.bool ((0:Int)==x0.1.1&&((0:Int)==x0.1.2&&(x0.2.1==x0.2.1&&(x0.2.2.1==x0.2.2.1&&((0:Int)==x0.2.2.2.1&&((0:Int)==x0.2.2.2.2.1&&((0:Int)==x0.2.2.2.2.2&&true)))))))))) else (bif x0.2.1==(5:Int) then (bif !rateB x0.2.2.1 then (some (.bool false)) else (bif !rateB x0.1.1 then (some (.bool false)) else (some (.bool (x0.1.1==x0.1.1&&((0:Int)==x0.1.2&&(x0.2.1==x0.2.1&&(x0.2.2.1==x0.2.2.1&&((0:Int)==x0.2.2.2.1&&((0:Int)==x0.2.2.2.2.1&&((0:Int)==x0.2.2.2.2.2&&true))))))))))) else (bif x0.2.1==(6:Int) then (bif !rateB x0.2.2.1 then (some (.bool false)) else (some (.bool (x0.2.2.1==x0.1.1&&((0:Int)==x0.1.2&&(x0.2.1==x0.2.1&&((0:Int)==x0.2.2.1&&((0:Int)==x0.2.2.2.1&&((0:Int)==x0.2.2.2.2.1&&((0:Int)==x0.2.2.2.2.2&&true)))))))))) else (some (.bool ((0:Int)==x0.1.1&&((0:Int)==x0.1.2&&(x0.2.1==x0.2.1&&((0:Int)==x0.2.2.1&&((0:Int)==x0.2.2.2.1&&((0:Int)==x0.2.2.2.2.1&&((0:Int)==x0.2.2.2.2.2&&true))))))))))))))) else (bif x0.2.1==(6:Int) then (bif x0.2.1==(1:Int) then (chk (!rateB x0.1.1) (some (.bool false))) else (bif x0.2.1==(2:Int) then (chk (!rateB x0.1.1) (some (.bool false))) else (bif x0.2.1==(3:Int) then (bif x0.2.1==(3:Int) then (bif !rateB x0.1.1 then (some (.bool false)) else (some (.bool ((0:Int)==x0.1.1&&((0:Int)==x0.1.2&&(x0.2.1==x0.2.1&&(x0.1.1==x0.2.2.1&&((0:Int)==x0.2.2.2.1&&((0:Int)==x0.2.2.2.2.1&&((0:Int)==x0.2.2.2.2.2&&true)))))))))) else (bif x0.2.1==(5:Int) then (chk (!rateB x0.1.1) (some (.bool false))) else (bif x0.2.1==(6:Int) then (bif !rateB x0.1.1 then (some (.bool false)) else (some (.bool (x0.1.1==x0.1.1&&((0:Int)==x0.1.2&&(x0.2.1==x0.2.1&&((0:Int)==x0.2.2.1&&((0:Int)==x0.2.2.2.1&&((0:Int)==x0.2.2.2.2.1&&((0:Int)==x0.2.2.2.2.2&&true)))))))))) else (some (.bool ((0:Int)==x0.1.1&&((0:Int)==x0.1.2&&(x0.2.1==x0.2.1&&((0:Int)==x0.2.2.1&&((0:Int)==x0.2.2.2.1&&((0:Int)==x0.2.2.2.2.1&&((0:Int)==x0.2.2.2.2.2&&true)))))))))))) else (bif x0.2.1==(4:Int) then (bif !rateB x0.1.1 then (some (.bool false)) else (some (.bool ((0:Int)==x0.1.1&&((0:Int)==x0.1.2&&(x0.2.1==x0.2.1&&(x0.1.1==x0.2.2.1&&((0:Int)==x0.2.2.2.1&&((0:Int)==x0.2.2.2.2.1&&((0:Int)==x0.2.2.2.2.2&&true)))))))))) else (bif x0.2.1==(5:Int) then (chk (!rateB x0.1.1) (some (.bool false))) else (bif x0.2.1==(6:Int) then (bif !rateB x0.1.1 then (some (.bool false)) else (some (.bool (x0.1.1==x0.1.1&&((0:Int)==x0.1.2&&(x0.2.1==x0.2.1&&((0:Int)==x0.2.2.1&&((0:Int)==x0.2.2.2.1&&((0:Int)==x0.2.2.2.2.1&&((0:Int)==x0.2.2.2.2.2&&true)))))))))) else (some (.bool ((0:Int)==x0.1.1&&((0:Int)==x0.1.2&&(x0.2.1==x0.2.1&&((0:Int)==x0.2.2.1&&((0:Int)==x0.2.2.2.1&&((0:Int)==x0.2.2.2.2.1&&((0:Int)==x0.2.2.2.2.2&&true))))))))))))))) else (bif x0.2.1==(1:Int) then (none) else (bif x0.2.1==(2:Int) then (none) else (bif x0.2.1==(3:Int) then (bif x0.2.1==(3:Int) then (none) else (bif x0.2.1==(5:Int) then (none) else (bif x0.2.1==(6:Int) then (none) else (some (.bool false))))) else (bif x0.2.1==(4:Int) then (none) else (bif x0.2.1==(5:Int) then (none) else (bif x0.2.1==(6:Int) then (none) else (some (.bool false))))))))))))):=by kernel_rfl
theorem f83.inl (k:Nat):InlOk Tryz.prog (f83.E k):=(inl_cons (by kernel_rfl) (by kernel_rfl) inl_nil)
theorem f83.sums (k:Nat):SumsOk Tryz.prog (f83.E k):=(sums_cons ok122 sums_nil)
noncomputable def f146.E (k:Nat):Env:=mkEnv tt [(165,S165)] [] [] [] k
noncomputable def f146.code:Go.Code:=cd Tryz.f146
theorem f146.eq (k:Nat) (x0:(Int×List (eL)) ×
 Int×Int×Int×List (eR)) (x1:(Int×Int)×Int×Int×eL):evFn (f146.E k) 9 146 Tryz.f146 (encL [(.pair (.pair qI (.list qL)) (.pair qI (.pair qI (.pair qI (.list qR))))),(.pair qS (.pair qI (.pair qI qL)))] (x0,x1)) =
 (chk (pcsSmall x0) (some (slicesQ x0 x1.1 x1.2.2.1))).bind (fun y0=>bif y0.2==(0:Int) then (some (.agg [(.bool (decide ((↑y0.1.length:Int)>x0.2.1))),(.int .i64 8)])) else (some (.agg [(.bool false),(.int .i64 8)]))):=by kernel_rfl
theorem f146.inl (k:Nat):InlOk Tryz.prog (f146.E k):=inl_nil
theorem f146.sums (k:Nat):SumsOk Tryz.prog (f146.E k):=(sums_cons ok165 sums_nil)
noncomputable def f147.E (k:Nat):Env:=mkEnv tt [(164,S164)] [] [] [] k
noncomputable def f147.code:Go.Code:=cd Tryz.f147
theorem f147.eq (k:Nat) (x0:(Int×List (eL)) ×
 Int×Int×Int×List (eR)) (x1:Int) (x2:(Int×Int)×Int×Int×eL):evFn (f147.E k) 9 147 Tryz.f147 (encL [(.pair (.pair qI (.list qL)) (.pair qI (.pair qI (.pair qI (.list qR))))),qI,(.pair qS (.pair qI (.pair qI qL)))] (x0,x1,x2)) =
 (chk (pcsSmall x0) (some (getQ x0 x2.2.2.1))).bind (fun y0=>some (.own (.pair .bool qI) ([(!y0.2.1,(5:Int)),(y0.1.2.2.1 != x1,(6:Int))]))):=by kernel_rfl
theorem f147.inl (k:Nat):InlOk Tryz.prog (f147.E k):=inl_nil
theorem f147.sums (k:Nat):SumsOk Tryz.prog (f147.E k):=(sums_cons ok164 sums_nil)
end
section
def Rq.id (q:Rq):Int:=q.2.2.1
def Rq.rate (q:Rq):Int:=q.2.2.2.2.2
def eqRq (q r:Rq):Bool:=q.1.1==r.1.1&&(q.1.2==r.1.2&&(q.2.1==r.2.1&&(q.2.2.1==r.2.2.1&&(q.2.2.2.1==r.2.2.2.1&&(q.2.2.2.2.1==r.2.2.2.2.1&&(q.2.2.2.2.2==r.2.2.2.2.2&&true))))))
def reqMay (q:Rq):Bool:=decide (q.2.1 ≥ 1)&&(decide (q.2.1≤6)&&(eqRq q (onlyOf q)&&(rateB q.2.2.1&&(rateB q.2.2.2.1&&(rateB q.2.2.2.2.1&&(rateB q.2.2.2.2.2&&(rateB q.1.1&&rateB q.1.2)))))))
noncomputable def S87:Summ:=summ [tRq] Bool (fun (q:Rq)=>some (reqMay q)) .bool
theorem beq_0 (a:Int):(0==a:Bool)=(a==0):=by
 rw [Bool.eq_iff_iff,beq_iff_eq,beq_iff_eq]
 exact ⟨fun h=>h.symm,fun h=>h.symm⟩
theorem zr {a:Int} (h:(a==0)=true):rateB a=true:=by
 have:=eq_of_beq h
 subst this
 rfl
theorem ite_bool (a:Bool) (x:Bool):(bif !a then some (V.bool false) else some (V.bool x))=some (.bool (a&&x)):=by cases a <;> rfl
noncomputable def S83:Summ:=S87
theorem ok83:SumOk Tryz.prog 83 S83 :=
 sumq f83.E (fn:=Tryz.f83) (code:=f83.code) f83.sums f83.inl fun (q:Rq) x hx=>by
  obtain rfl:=oJ hx
  obtain ⟨⟨a,b⟩,kd,id,s,d,r⟩:=q
  refine ⟨0,(f83.eq 0 _).trans ?_⟩
  show _=some (V.bool (reqMay ((a,b),kd,id,s,d,r)))
  unfold reqMay eqRq onlyOf
  dsimp only
  by_cases h1:kd=1
  ·subst h1
   simp only [show ((1:Int)==1)=true from rfl,show ((1:Int)==2)=false from rfl,show ((1:Int)==3)=false from rfl,show ((1:Int)==4)=false from rfl,show ((1:Int)==5)=false from rfl,show ((1:Int)==6)=false from rfl,cond_true,cond_false,ite_bool,beq_0,beq_self_eq_true,tA,Bool.and_true,show decide ((1:Int) ≥ 1)=true from rfl,show decide ((1:Int)≤6)=true from rfl,sI,V.bool.injEq]
   cases h_id:id==0 <;> first
    |(simp only [Bool.and_false,fA];done)
    |(simp only [zr h_id,tA,Bool.and_true];done)
    |(simp only [zr h_id,tA,Bool.and_true];cases rateB a <;> cases rateB b <;> cases rateB s <;> cases rateB d <;> cases rateB r <;> rfl)
  by_cases h2:kd=2
  ·subst h2
   simp only [show ((2:Int)==1)=false from rfl,show ((2:Int)==2)=true from rfl,show ((2:Int)==3)=false from rfl,show ((2:Int)==4)=false from rfl,show ((2:Int)==5)=false from rfl,show ((2:Int)==6)=false from rfl,cond_true,cond_false,ite_bool,beq_0,beq_self_eq_true,tA,Bool.and_true,show decide ((2:Int) ≥ 1)=true from rfl,show decide ((2:Int)≤6)=true from rfl,sI,V.bool.injEq]
   cases h_s:s==0 <;> cases h_d:d==0 <;> first
    |(simp only [Bool.and_false,fA];done)
    |(simp only [zr h_s,zr h_d,tA,Bool.and_true];done)
    |(simp only [zr h_s,zr h_d,tA,Bool.and_true];cases rateB a <;> cases rateB b <;> cases rateB id <;> cases rateB r <;> rfl)
  by_cases h3:kd=3
  ·subst h3
   simp only [show ((3:Int)==1)=false from rfl,show ((3:Int)==2)=false from rfl,show ((3:Int)==3)=true from rfl,show ((3:Int)==4)=false from rfl,show ((3:Int)==5)=false from rfl,show ((3:Int)==6)=false from rfl,cond_true,cond_false,ite_bool,beq_0,beq_self_eq_true,tA,Bool.and_true,show decide ((3:Int) ≥ 1)=true from rfl,show decide ((3:Int)≤6)=true from rfl,sI,V.bool.injEq]
   cases h_a:a==0 <;> cases h_b:b==0 <;> cases h_s:s==0 <;> cases h_d:d==0 <;> cases h_r:r==0 <;> first
    |(simp only [Bool.and_false,fA];done)
    |(simp only [zr h_a,zr h_b,zr h_s,zr h_d,zr h_r,tA,Bool.and_true];done)
    |(simp only [zr h_a,zr h_b,zr h_s,zr h_d,zr h_r,tA,Bool.and_true];cases rateB id <;> rfl)
  by_cases h4:kd=4
  ·subst h4
   simp only [show ((4:Int)==1)=false from rfl,show ((4:Int)==2)=false from rfl,show ((4:Int)==3)=false from rfl,show ((4:Int)==4)=true from rfl,show ((4:Int)==5)=false from rfl,show ((4:Int)==6)=false from rfl,cond_true,cond_false,ite_bool,beq_0,beq_self_eq_true,tA,Bool.and_true,show decide ((4:Int) ≥ 1)=true from rfl,show decide ((4:Int)≤6)=true from rfl,sI,V.bool.injEq]
   cases h_a:a==0 <;> cases h_b:b==0 <;> cases h_s:s==0 <;> cases h_d:d==0 <;> cases h_r:r==0 <;> first
    |(simp only [Bool.and_false,fA];done)
    |(simp only [zr h_a,zr h_b,zr h_s,zr h_d,zr h_r,tA,Bool.and_true];done)
    |(simp only [zr h_a,zr h_b,zr h_s,zr h_d,zr h_r,tA,Bool.and_true];cases rateB id <;> rfl)
  by_cases h5:kd=5
  ·subst h5
   simp only [show ((5:Int)==1)=false from rfl,show ((5:Int)==2)=false from rfl,show ((5:Int)==3)=false from rfl,show ((5:Int)==4)=false from rfl,show ((5:Int)==5)=true from rfl,show ((5:Int)==6)=false from rfl,cond_true,cond_false,ite_bool,beq_0,beq_self_eq_true,tA,Bool.and_true,show decide ((5:Int) ≥ 1)=true from rfl,show decide ((5:Int)≤6)=true from rfl,sI,V.bool.injEq]
   cases h_b:b==0 <;> cases h_s:s==0 <;> cases h_d:d==0 <;> cases h_r:r==0 <;> first
    |(simp only [Bool.and_false,fA];done)
    |(simp only [zr h_b,zr h_s,zr h_d,zr h_r,tA,Bool.and_true];done)
    |(simp only [zr h_b,zr h_s,zr h_d,zr h_r,tA,Bool.and_true];cases rateB a <;> cases rateB id <;> rfl)
  by_cases h6:kd=6
  ·subst h6
   simp only [show ((6:Int)==1)=false from rfl,show ((6:Int)==2)=false from rfl,show ((6:Int)==3)=false from rfl,show ((6:Int)==4)=false from rfl,show ((6:Int)==5)=false from rfl,show ((6:Int)==6)=true from rfl,cond_true,cond_false,ite_bool,beq_0,beq_self_eq_true,tA,Bool.and_true,show decide ((6:Int) ≥ 1)=true from rfl,show decide ((6:Int)≤6)=true from rfl,sI,V.bool.injEq]
   cases h_b:b==0 <;> cases h_id:id==0 <;> cases h_s:s==0 <;> cases h_d:d==0 <;> cases h_r:r==0 <;> first
    |(simp only [Bool.and_false,fA];done)
    |(simp only [zr h_b,zr h_id,zr h_s,zr h_d,zr h_r,tA,Bool.and_true];done)
    |(simp only [zr h_b,zr h_id,zr h_s,zr h_d,zr h_r,tA,Bool.and_true];cases rateB a <;> rfl)
  have e:∀ j:Int,kd ≠ j→(kd==j)=false:=fun j h=>beq_eq_false_iff_ne.2 h
  simp only [e 1 h1,e 2 h2,e 3 h3,e 4 h4,e 5 h5,e 6 h6,cond_false]
  by_cases h7:kd ≥ 1
  ·rw [dF (by omega:¬ kd≤6),fA,Bool.and_false]
  ·rw [dF h7,fA]
def cutsRule (b:Bk) (q:Rq):Bool:=(slicesQ b q.1 q.id).2==0&&decide (((slicesQ b q.1 q.id).1.length:Int)>b.segs)
noncomputable def S146:Summ:=summ [tBk,tRq] (Bool×Int) (fun (d:Bk×Rq)=>chk (pcsSmall d.1) (some (cutsRule d.1 d.2,8))) (fun x=>encV tRu x)
theorem ok146:SumOk Tryz.prog 146 S146 :=
 sumq f146.E (fn:=Tryz.f146) (code:=f146.code) f146.sums f146.inl fun (d:Bk×Rq) x hx=>by
  obtain ⟨b,q⟩:=d
  obtain ⟨hs,hx⟩:=chk_some hx
  obtain rfl:=oJ hx
  have hs:pcsSmall b=true:=hs
  refine ⟨0,(f146.eq 0 b q).trans ?_⟩
  rw [hs,kT,bS]
  show _=some (V.agg [.bool (cutsRule b q),.int .i64 8])
  unfold cutsRule Rq.id
  cases (slicesQ b q.1 q.2.2.1).2==0 with
  |false=>rfl
  |true=>rw [cT,tA];rfl
def fewSegs (b:Bk) (q:Rq):Bool:=decide (((slicesQ b q.1 q.id).1.length:Int)≤b.segs)
def inTime (b:Bk) (q:Rq):Bool:=spanMay q.1&&decide (q.1.1 ≥ b.now)
def ownRules (b:Bk) (owner:Int) (id:Int):List (Bool×Int):=[(!(getQ b id).2.1,5),((getQ b id).1.owner != owner,6)]
noncomputable def S147:Summ:=summ [tBk,tI,tRq] (List (Bool×Int)) (fun (d:Bk×(Int×Rq))=>chk (pcsSmall d.1) (some (ownRules d.1 d.2.1 d.2.2.id))) (.own tRu)
theorem ok147:SumOk Tryz.prog 147 S147 :=
 sumq f147.E (fn:=Tryz.f147) (code:=f147.code) f147.sums f147.inl fun (d:Bk×(Int×Rq)) x hx=>by
  obtain ⟨b,owner,q⟩:=d
  obtain ⟨hs,hx⟩:=chk_some hx
  obtain rfl:=oJ hx
  have hs:pcsSmall b=true:=hs
  refine ⟨0,(f147.eq 0 b owner q).trans ?_⟩
  rw [hs,kT,bS]
  rfl
def ownCode (b:Bk) (owner id:Int):Int:=bif decide (placeOf b id<0) then 5 else (match b.list[(placeOf b id).toNat]? with
 |some r=>bif r.owner != owner then 6 else 0
 |none=>0)
end
section
set_option maxRecDepth 100000
noncomputable def f34.E (k:Nat):Env:=mkEnv tt [(82,S82),(83,S83),(84,S84),(121,S121),(144,S144),(145,S145),(146,S146),(147,S147),(148,S148)] [(85,Tryz.f85)] [] [] k
noncomputable def f34.code:Go.Code:=cd Tryz.f34
theorem f34.eq (k:Nat) (x0:(Int×List (eL)) ×
 Int×Int×Int×List (eR)) (x1:Int) (x2:(Int×Int)×Int×Int×eL):evFn (f34.E k) 9 34 Tryz.f34 (encL [(.pair (.pair qI (.list qL)) (.pair qI (.pair qI (.pair qI (.list qR))))),qI,(.pair qS (.pair qI (.pair qI qL)))] (x0,x1,x2)) =
 (chk (pcsSmall x0) (some (bookMayB x0))).bind (fun y0=>bif !y0 then (some (.tup [(.int .i64 0),(.int .i64 2000)])) else (bif decide (x1<(0:Int)) then (some (.tup [(.int .i64 0),(.int .i64 2000)])) else (bif decide (x1 ≥ (4:Int)) then (some (.tup [(.int .i64 0),(.int .i64 2000)])) else (bif !reqMay x2 then (some (.tup [(.int .i64 0),(.int .i64 2000)])) else (bif x2.2.1==(1:Int) then (bif hasV x0.1.1 x2.2.2.2.1 then (bif hasV x0.1.1 x2.2.2.2.2.1 then (bif decide ((↑(x0.2.2.2.2.length):Int) ≥ (8:Int)) then ((chk (pcsSmall x0) (some ((cutsRule x0 x2,(8:Int))))).bind (fun y1=>some (.tup [(.int .i64 (firstOf [(!x2.2.2.2.1 != x2.2.2.2.2.1,(2:Int)),(spanRule x0 x2,(3:Int)),(x2.2.2.2.2.2==(0:Int),(4:Int)),(true,(7:Int)),y1])),(.int .i64 0)]))) else ((chk (pcsSmall x0) (some ((cutsRule x0 x2,(8:Int))))).bind (fun y1=>some (.tup [(.int .i64 (firstOf [(!x2.2.2.2.1 != x2.2.2.2.2.1,(2:Int)),(spanRule x0 x2,(3:Int)),(x2.2.2.2.2.2==(0:Int),(4:Int)),(decide (x0.2.2.2.1>(1048576:Int)),(7:Int)),y1])),(.int .i64 0)])))) else (bif decide ((↑(x0.2.2.2.2.length):Int) ≥ (8:Int)) then ((chk (pcsSmall x0) (some ((cutsRule x0 x2,(8:Int))))).bind (fun y1=>some (.tup [(.int .i64 (firstOf [(!false,(2:Int)),(spanRule x0 x2,(3:Int)),(x2.2.2.2.2.2==(0:Int),(4:Int)),(true,(7:Int)),y1])),(.int .i64 0)]))) else ((chk (pcsSmall x0) (some ((cutsRule x0 x2,(8:Int))))).bind (fun y1=>some (.tup [(.int .i64 (firstOf [(!false,(2:Int)),(spanRule x0 x2,(3:Int)),(x2.2.2.2.2.2==(0:Int),(4:Int)),(decide (x0.2.2.2.1>(1048576:Int)),(7:Int)),y1])),(.int .i64 0)]))))) else (bif decide ((↑(x0.2.2.2.2.length):Int) ≥ (8:Int)) then ((chk (pcsSmall x0) (some ((cutsRule x0 x2,(8:Int))))).bind (fun y1=>some (.tup [(.int .i64 (firstOf [(!false,(2:Int)),(spanRule x0 x2,(3:Int)),(x2.2.2.2.2.2==(0:Int),(4:Int)),(true,(7:Int)),y1])),(.int .i64 0)]))) else ((chk (pcsSmall x0) (some ((cutsRule x0 x2,(8:Int))))).bind (fun y1=>some (.tup [(.int .i64 (firstOf [(!false,(2:Int)),(spanRule x0 x2,(3:Int)),(x2.2.2.2.2.2==(0:Int),(4:Int)),(decide (x0.2.2.2.1>(1048576:Int)),(7:Int)),y1])),(.int .i64 0)]))))) else (bif x2.2.1==(2:Int) then ((chk (pcsSmall x0) (some (ownRules x0 x1 (Rq.id x2)))).bind (fun y1=>(chk (pcsSmall x0) (some ((cutsRule x0 x2,(8:Int))))).bind (fun y2=>chk (decide ((y1++[(spanRule x0 x2,(3:Int)),(x2.2.2.2.2.2==(0:Int),(4:Int)),y2]).length*16≤140737488355328)) ((chk (decide ((y1++[(spanRule x0 x2,(3:Int)),(x2.2.2.2.2.2==(0:Int),(4:Int)),y2]).length<4611686018427387904)) (some (firstOf (y1++[(spanRule x0 x2,(3:Int)),(x2.2.2.2.2.2==(0:Int),(4:Int)),y2])))).bind (fun y3=>some (.tup [(.int .i64 y3),(.int .i64 0)])))))) else (bif x2.2.1==(5:Int) then (some (.tup [(.int .i64 (firstOf [(!hasL x0.1 x2.2.2.1,(9:Int)),(decide (x2.1.1 ≥ (4096:Int)),(3:Int))])),(.int .i64 0)])) else (bif x2.2.1==(6:Int) then (bif decide (x2.1.1<x0.2.2.1) then (some (.tup [(.int .i64 (firstOf [(true,(3:Int))])),(.int .i64 0)])) else (some (.tup [(.int .i64 (firstOf [(decide (x2.1.1>(4096:Int)),(3:Int))])),(.int .i64 0)]))) else ((chk (pcsSmall x0) (some (ownRules x0 x1 (Rq.id x2)))).bind (fun y1=>(chk (decide (y1.length<4611686018427387904)) (some (firstOf y1))).bind (fun y2=>some (.tup [(.int .i64 y2),(.int .i64 0)])))))))))))):=by kernel_rfl
theorem f34.inl (k:Nat):InlOk Tryz.prog (f34.E k):=(inl_cons (by kernel_rfl) (by kernel_rfl) inl_nil)
theorem f34.sums (k:Nat):SumsOk Tryz.prog (f34.E k):=(sums_cons ok82 (sums_cons ok83 (sums_cons ok84 (sums_cons ok121 (sums_cons ok144 (sums_cons ok145 (sums_cons ok146 (sums_cons ok147 (sums_cons ok148 sums_nil)))))))))
end
section
def codeR (b:Bk) (q:Rq):Int :=
 bif !hasV b.1.1 q.2.2.2.1 then 2 else bif !hasV b.1.1 q.2.2.2.2.1 then 2 else bif q.2.2.2.1==q.2.2.2.2.1 then 2 else bif !inTime b q then 3 else bif q.2.2.2.2.2==0 then 4 else
 bif decide ((b.2.2.2.2.length:Int) ≥ 8) then 7 else bif decide (b.2.2.2.1>1048576) then 7 else bif !fewSegs b q then 8 else 0
def codeM (b:Bk) (o:Int) (q:Rq):Int :=
 bif ownCode b o q.2.2.1 != 0 then ownCode b o q.2.2.1 else bif !inTime b q then 3 else bif q.2.2.2.2.2==0 then 4 else bif !fewSegs b q then 8 else 0
def codeL (b:Bk) (q:Rq):Int:=bif decide (q.2.2.1 ≥ (b.1.2.length:Int)) then 9 else bif decide (q.1.1 ≥ 4096) then 3 else 0
def codeA (b:Bk) (q:Rq):Int:=bif decide (q.1.1<b.2.2.1) then 3 else bif decide (q.1.1>4096) then 3 else 0
def codeOf (b:Bk) (o:Int) (q:Rq):Int :=
 bif q.2.1==1 then codeR b q else bif q.2.1==2 then codeM b o q else bif q.2.1==3 then ownCode b o q.2.2.1 else bif q.2.1==4 then ownCode b o q.2.2.1 else bif q.2.1==5 then codeL b q else codeA b q
def lookQ (b:Bk) (o:Int) (q:Rq):Int×Int:=bif bookMayB b&&(!decide (o<0)&&(!decide (o ≥ 4)&&reqMay q)) then (codeOf b o q,0) else (0,2000)
theorem look_book {b:Bk} {o:Int} {q:Rq} (h:(lookQ b o q).2=0):bookMayB b=true∧(0≤o∧o<4)∧reqMay q=true:=by
 unfold lookQ at h
 cases hb:bookMayB b&&(!decide (o<0)&&(!decide (o ≥ 4)&&reqMay q)) with
 |false=>rw [hb] at h;exact absurd (show (2000:Int)=0 from h) (by decide)
 |true =>
  simp only [bA,Bool.not_eq_true',decide_eq_false_iff_not] at hb
  exact ⟨hb.1,by omega,hb.2.2.2⟩
noncomputable def S35:Summ:=summ [tBk,tI,tRq] (Int×Int) (fun (d:Bk×(Int×Rq))=>chk (pcsSmall d.1) (some (lookQ d.1 d.2.1 d.2.2))) resII
theorem span_rule (b:Bk) (q:Rq):spanRule b q=!inTime b q:=by
 unfold spanRule inTime
 rw [Bool.not_and,show decide (q.1.1<b.now)=!decide (q.1.1 ≥ b.now) by rw [← decide_not];exact decide_eq_decide.2 (by omega)]
theorem cuts_rule {b:Bk} {q:Rq} (hb:bookMayB b=true) (ht:inTime b q=true):cutsRule b q=!fewSegs b q:=by
 unfold inTime at ht
 rw [bA] at ht
 unfold cutsRule fewSegs
 rw [show (slicesQ b q.1 q.id).2=0 by unfold slicesQ;rw [hb,ht.1];rfl,show ((0:Int)==0)=true from rfl,tA,← decide_not]
 exact decide_eq_decide.2 (by omega)
theorem own_rules {b:Bk} (hb:bookMayB b=true) (o id:Int):(ownRules b o id=[(true,5),((getQ b id).1.owner != o,6)]∧ownCode b o id=5)∨∃ r,ownRules b o id=[(false,5),(r.owner != o,6)]∧ownCode b o id=(bif r.owner != o then 6 else 0)∧getQ b id=(r,true,0)∧r∈b.list∧r.id=id:=by
 unfold ownRules ownCode getQ
 rw [hb,cond_true]
 rcases place_spec b id with ⟨h1,h2⟩|⟨j,r,h1,h2,h3⟩
 ·refine .inl ⟨?_,by rw [h1];rfl⟩
  rw [h1,show decide ((-1:Int)<0)=true from rfl]
  cases b.list[((-1:Int)).toNat]? <;> rfl
 ·refine .inr ⟨r,?_⟩
  rw [h1,dF (by omega:¬ ((j:Int)<0)),Int.toNat_natCast,h2]
  exact ⟨rfl,rfl,rfl,List.mem_of_getElem? h2,h3⟩
theorem codeR_rules {b:Bk} {q:Rq} (hb:bookMayB b=true) (full:Bool) (hf:full=(decide ((b.2.2.2.2.length:Int) ≥ 8) || decide (b.2.2.2.1>1048576))) (na:Bool) (ha:na=!(hasV b.1.1 q.2.2.2.1&&(hasV b.1.1 q.2.2.2.2.1 && !(q.2.2.2.1==q.2.2.2.2.1)))) :
  firstOf [(na,2),(spanRule b q,3),(q.2.2.2.2.2==0,4),(full,7),(cutsRule b q,8)]=codeR b q:=by
 subst hf;subst ha
 rw [span_rule]
 unfold codeR
 cases ht:inTime b q with
 |false=>cases hasV b.1.1 q.2.2.2.1 <;> cases hasV b.1.1 q.2.2.2.2.1 <;> cases q.2.2.2.1==q.2.2.2.2.1 <;> rfl
 |true =>
  rw [cuts_rule hb ht]
  cases hasV b.1.1 q.2.2.2.1 <;> cases hasV b.1.1 q.2.2.2.2.1 <;> cases q.2.2.2.1==q.2.2.2.2.1 <;> cases q.2.2.2.2.2==0 <;> cases decide ((b.2.2.2.2.length:Int) ≥ 8) <;> cases decide (b.2.2.2.1>1048576) <;> cases fewSegs b q <;> rfl
theorem codeM_rules {b:Bk} {q:Rq} (hb:bookMayB b=true) (o:Int):firstOf (ownRules b o q.2.2.1++[(spanRule b q,3),(q.2.2.2.2.2==0,4),(cutsRule b q,8)])=codeM b o q:=by
 rw [span_rule]
 unfold codeM
 rcases own_rules hb o q.2.2.1 with ⟨h1,h2⟩|⟨r,h1,h2,_⟩
 ·rw [h1,h2];rfl
 ·rw [h1,h2]
  cases ht:inTime b q with
  |false=>cases r.owner != o <;> rfl
  |true =>
   rw [cuts_rule hb ht]
   cases r.owner != o <;> cases q.2.2.2.2.2==0 <;> cases fewSegs b q <;> rfl
theorem own_first {b:Bk} (hb:bookMayB b=true) (o id:Int):firstOf (ownRules b o id)=ownCode b o id:=by
 rcases own_rules hb o id with ⟨h1,h2⟩|⟨r,h1,h2,_⟩
 ·rw [h1,h2];rfl
 ·rw [h1,h2];cases r.owner != o <;> rfl
theorem own_len (b:Bk) (o id:Int):(ownRules b o id).length=2:=rfl
theorem req_parts {q:Rq} (h:reqMay q=true):(1≤q.2.1∧q.2.1≤6)∧(0≤q.2.2.1∧0≤q.2.2.2.1∧0≤q.2.2.2.2.1∧0≤q.2.2.2.2.2∧0≤q.1.1∧0≤q.1.2)∧rateB q.2.2.2.2.2=true:=by
 unfold reqMay at h
 simp only [bA,dE] at h
 obtain ⟨h1,h2,_,h3,h4,h5,h6,h7,h8⟩:=h
 have r:∀ {x:Int},rateB x=true→0≤x:=fun {x} h=>(oD (p:=0≤x∧x≤maxRate) h).1
 exact ⟨⟨h1,h2⟩,⟨r h3,r h4,r h5,r h6,r h7,r h8⟩,h6⟩
noncomputable def S34:Summ:=S35
theorem ok34:SumOk Tryz.prog 34 S34 :=
 sumq f34.E (fn:=Tryz.f34) (code:=f34.code) f34.sums f34.inl fun (d:Bk×(Int×Rq)) x hx=>by
  obtain ⟨b,o,q⟩:=d
  obtain ⟨hs,hx⟩:=chk_some hx
  obtain rfl:=oJ hx
  have hs:pcsSmall b=true:=hs
  refine ⟨0,(f34.eq 0 b o q).trans ?_⟩
  simp only [hs,kT,bS]
  show _=some (resII (lookQ b o q))
  unfold lookQ
  cases hb:bookMayB b with
  |false=>rfl
  |true =>
   cases decide (o<0) with
   |true=>rfl
   |false =>
    cases decide (o ≥ 4) with
    |true=>rfl
    |false =>
     cases hq:reqMay q with
     |false=>rfl
     |true =>
      obtain ⟨hk,hpos,_⟩:=req_parts hq
      simp only [nT,nF,cond_true,cond_false,Bool.and_self]
      have e1:decide ((ownRules b o q.id++[(spanRule b q,3),(q.2.2.2.2.2==0,4),(cutsRule b q,8)]).length*16≤140737488355328)=true:=by rw [lA,own_len];rfl
      have e2:decide ((ownRules b o q.id++[(spanRule b q,3),(q.2.2.2.2.2==0,4),(cutsRule b q,8)]).length<4611686018427387904)=true:=by rw [lA,own_len];rfl
      have e3:decide ((ownRules b o q.id).length<4611686018427387904)=true:=by rw [own_len];rfl
      rw [e1,e2,e3,kT,kT,kT,bS,bS]
      unfold Rq.id
      rw [codeM_rules hb,own_first hb]
      unfold codeOf
      cases h1:q.2.1==1 with
      |true =>
       rw [cond_true,cond_true]
       cases h2:hasV b.1.1 q.2.2.2.1 with
       |false =>
        rw [cond_false]
        cases h4:decide ((b.2.2.2.2.length:Int) ≥ 8) with
        |false=>rw [cond_false,codeR_rules hb _ (by rw [h4];rfl) true (by rw [h2];rfl)]
        |true=>rw [cond_true,codeR_rules hb true (by rw [h4];rfl) true (by rw [h2];rfl)]
       |true =>
        rw [cond_true]
        cases h3:hasV b.1.1 q.2.2.2.2.1 with
        |false =>
         rw [cond_false]
         cases h4:decide ((b.2.2.2.2.length:Int) ≥ 8) with
         |false=>rw [cond_false,codeR_rules hb _ (by rw [h4];rfl) true (by rw [h2,h3];rfl)]
         |true=>rw [cond_true,codeR_rules hb true (by rw [h4];rfl) true (by rw [h2,h3];rfl)]
        |true =>
         rw [cond_true]
         cases h4:decide ((b.2.2.2.2.length:Int) ≥ 8) with
         |false=>rw [cond_false,codeR_rules hb _ (by rw [h4];rfl) (!(q.2.2.2.1 != q.2.2.2.2.1)) (by rw [h2,h3];rfl)]
         |true=>rw [cond_true,codeR_rules hb true (by rw [h4];rfl) (!(q.2.2.2.1 != q.2.2.2.2.1)) (by rw [h2,h3];rfl)]
      |false =>
       cases h2:q.2.1==2 with
       |true=>rfl
       |false =>
        cases h5:q.2.1==5 with
        |true =>
         have e5:q.2.1=5:=by simpa using h5
         rw [e5]
         have hL:(!hasL b.1 q.2.2.1)=decide (q.2.2.1 ≥ (b.1.2.length:Int)):=by
          unfold hasL
          rw [← decide_not]
          exact decide_eq_decide.2 (by omega)
         rw [hL]
         show some (V.tup [.int .i64 (firstOf [(decide (q.2.2.1 ≥ (b.1.2.length:Int)),9),(decide (q.1.1 ≥ 4096),3)]),.int .i64 0])=some (resII (codeL b q,0))
         unfold codeL
         cases decide (q.2.2.1 ≥ (b.1.2.length:Int)) <;> cases decide (q.1.1 ≥ 4096) <;> rfl
        |false =>
         cases h6:q.2.1==6 with
         |true =>
          have e6:q.2.1=6:=by simpa using h6
          rw [e6]
          show _=some (resII (codeA b q,0))
          unfold codeA
          cases decide (q.1.1<b.2.2.1) <;> cases decide (q.1.1>4096) <;> rfl
         |false =>
          rw [beq_eq_false_iff_ne] at h1 h2 h5 h6
          cases h3:q.2.1==3 with
          |true=>rfl
          |false =>
           have e4:q.2.1=4:=by rw [beq_eq_false_iff_ne] at h3;omega
           rw [e4]
           rfl
end
section
set_option maxRecDepth 100000
set_option linter.unusedVariables false
end
section
set_option linter.unusedVariables false
end
section
set_option maxRecDepth 100000
set_option linter.unusedVariables false
end
section
set_option linter.unusedVariables false
end
section
set_option maxRecDepth 100000
noncomputable def f101.E (k:Nat):Env:=mkEnv tt [(164,S164),(165,S165)] [] [] [] k
noncomputable def f101.code:Go.Code:=cd Tryz.f101
theorem f101.eq (k:Nat) (x0:(Int×List (eL)) ×
 Int×Int×Int×List (eR)) (x1:(Int×Int)×Int×Int×eL):evFn (f101.E k) 9 101 Tryz.f101 (encL [(.pair (.pair qI (.list qL)) (.pair qI (.pair qI (.pair qI (.list qR))))),(.pair qS (.pair qI (.pair qI qL)))] (x0,x1)) =
 bif x1.2.1==(2:Int) then ((chk (pcsSmall x0) (some (getQ x0 x1.2.2.1))).bind (fun y0=>both (both ((chk (pcsSmall x0) (some (slicesQ x0 x1.1 x1.2.2.1))).bind (fun y1=>some (.agg [(.int .i64 x1.1.1),(.int .i64 x1.1.2),(.int .i64 x1.2.1),(.int .i64 x1.2.2.1),(.int .i64 y0.1.2.2.2.1),(.int .i64 y0.1.2.2.2.2.1),(.int .i64 x1.2.2.2.2.2),(.own qG y1.1)]))) ((chk (pcsSmall x0) (some (slicesQ x0 x1.1 x1.2.2.1))).bind (fun y1=>some (.agg [(.int .i64 x1.1.1),(.int .i64 x1.1.2),(.int .i64 x1.2.1),(.int .i64 x1.2.2.1),(.int .i64 y0.1.2.2.2.1),(.int .i64 y0.1.2.2.2.2.1),(.int .i64 x1.2.2.2.2.2),(.own qG y1.1)])))) ((chk (pcsSmall x0) (some (slicesQ x0 x1.1 x1.2.2.1))).bind (fun y1=>some (.agg [(.int .i64 x1.1.1),(.int .i64 x1.1.2),(.int .i64 x1.2.1),(.int .i64 x1.2.2.1),(.int .i64 y0.1.2.2.2.1),(.int .i64 y0.1.2.2.2.2.1),(.int .i64 x1.2.2.2.2.2),(.own qG y1.1)]))))) else ((chk (pcsSmall x0) (some (slicesQ x0 x1.1 x1.2.2.1))).bind (fun y0=>some (.agg [(.int .i64 x1.1.1),(.int .i64 x1.1.2),(.int .i64 x1.2.1),(.int .i64 x1.2.2.1),(.int .i64 x1.2.2.2.1),(.int .i64 x1.2.2.2.2.1),(.int .i64 x1.2.2.2.2.2),(.own qG y0.1)]))):=by kernel_rfl
theorem f101.inl (k:Nat):InlOk Tryz.prog (f101.E k):=inl_nil
theorem f101.sums (k:Nat):SumsOk Tryz.prog (f101.E k):=(sums_cons ok164 (sums_cons ok165 sums_nil))
end
section
def wishOf (b:Bk) (q:Rq):Int×(Int×List Sg):=(bif q.2.1==2 then (getQ b q.2.2.1).1.src else q.2.2.2.1,bif q.2.1==2 then (getQ b q.2.2.1).1.dst else q.2.2.2.2.1,(slicesQ b q.1 q.2.2.1).1)
abbrev Ws:=(Int×Int)×(Int×(Int×(Int×(Int×(Int×List Sg)))))
def wishW (b:Bk) (q:Rq):Ws:=(q.1,q.2.1,q.2.2.1,(wishOf b q).1,(wishOf b q).2.1,q.2.2.2.2.2,(wishOf b q).2.2)
@[reducible] def wsV (w:Ws):V:=.agg [.int .i64 w.1.1,.int .i64 w.1.2,.int .i64 w.2.1,.int .i64 w.2.2.1,.int .i64 w.2.2.2.1,.int .i64 w.2.2.2.2.1,.int .i64 w.2.2.2.2.2.1,.own tSg w.2.2.2.2.2.2]
noncomputable def S101:Summ:=summ [tBk,tRq] Ws (fun (d:Bk×Rq)=>chk (pcsSmall d.1) (some (wishW d.1 d.2))) wsV
theorem ok101:SumOk Tryz.prog 101 S101 :=
 sumq f101.E (fn:=Tryz.f101) (code:=f101.code) f101.sums f101.inl fun (d:Bk×Rq) x hx=>by
  obtain ⟨b,q⟩:=d
  obtain ⟨hs,hx⟩:=chk_some hx
  obtain rfl:=oJ hx
  have hs:pcsSmall b=true:=hs
  refine ⟨0,(f101.eq 0 b q).trans ?_⟩
  simp only [hs,kT,bS,both_self]
  show _=some (wsV (wishW b q))
  unfold wishW wishOf
  cases q.2.1==2 <;> rfl
def endsR (b:Bk) (q:Rq):Int×Int:=bif q.2.1==2 then (match b.list[(placeOf b q.2.2.1).toNat]? with
 |some r=>(r.src,r.dst)
 |none=>(0,0)) else (q.2.2.2.1,q.2.2.2.2.1)
end
section
set_option maxRecDepth 100000
noncomputable def f117.E (k:Nat):Env:=mkEnv tt [(173,S173)] [] [(117,4,[.kill (rg [(2,4),(6,41)]),.tidy])] [] k
noncomputable def f117.code:Go.Code:=cd Tryz.f117
noncomputable def f117.l0 (k n:Nat) (p0:List (eC)) (p1:List (eC)) (p2:Int):Option V :=
 atPath (f117.E k) n ⟨((.ro qC p0)::(.ro qC p1)::.u::.u::.u::(.int .i64 p2)::un 36),[],[]⟩ 9 0 117 [.c 1,.c 1,.c 0,.c 1,.c 0] [] f117.code (finK tt Tryz.f117)
theorem f117.l0_eq (k n:Nat) (p0:List (eC)) (p1:List (eC)) (p2:Int):f117.l0 k (n+1) p0 p1 p2 =
 bif decide (p2<(↑p0.length:Int)) then (chk (decide ((0:Int)≤p2∧p2<(↑p0.length:Int))) (chk (decide ((0:Int)≤p2∧p2<(↑p1.length:Int))) (bif !((rd qC p0 p2).1.1==(rd qC p1 p2).1.1&&((rd qC p0 p2).1.2==(rd qC p1 p2).1.2&&true)) then (some (.bool false)) else (chk (decide ((0:Int)≤p2∧p2<(↑p0.length:Int))) (chk (decide ((0:Int)≤p2∧p2<(↑p1.length:Int))) ((chk (smallP (rd qC p0 p2).2) (some (sameB (rd qC p0 p2).2 (rd qC p1 p2).2))).bind (fun y0=>bif !y0 then (some (.bool false)) else (f117.l0 k n p0 p1 (Go.IntKind.i64.wrap (p2+(1:Int))))))))))) else (some (.bool true)):=by kernel_rfl
theorem f117.eq (k:Nat) (x0:List (eC)) (x1:List (eC)):evFn (f117.E k) 9 117 Tryz.f117 (encL [(.list qC),(.list qC)] (x0,x1)) =
 bif (↑x0.length:Int) != (↑x1.length:Int) then (some (.bool false)) else (f117.l0 k k x0 x1 0):=by kernel_rfl
theorem f117.inl (k:Nat):InlOk Tryz.prog (f117.E k):=inl_nil
theorem f117.sums (k:Nat):SumsOk Tryz.prog (f117.E k):=(sums_cons ok173 sums_nil)
end
section
theorem any_notq {α:Type} (q:α→Bool) (xs:List α):(xs.any fun x=>!q x)=!(xs.all q):=by
 induction xs with
 |nil=>rfl
 |cons x xs ih=>rw [List.any_cons,List.all_cons,ih,Bool.not_and]
def eqSp (a b:Int×Int):Bool:=a.1==b.1&&(a.2==b.2&&true)
theorem eqSp_self (a:Int×Int):eqSp a a=true:=by unfold eqSp;simp
def eqPc (p q:Pc):Bool:=eqSp p.1 q.1&&sameB p.2 q.2
def samePcs (a b:List Pc):Bool:=a.length==b.length&&(a.zip b).all fun x=>eqPc x.1 x.2
theorem sameB_self {α:Type} [BEq α] [LawfulBEq α] (a:List α):sameB a a=true:=by unfold sameB;simp
theorem zip_self {α:Type} {q:α→α→Bool} (h:∀ x,q x x=true):∀ (a:List α),((a.zip a).all fun x=>q x.1 x.2)=true
 | []=>rfl
 |x::a=>by rw [List.zip_cons_cons,List.all_cons,zip_self h a,h x];rfl
theorem eqPc_self (p:Pc):eqPc p p=true:=by unfold eqPc;rw [eqSp_self,sameB_self];rfl
theorem samePcs_self (a:List Pc):samePcs a a=true:=by unfold samePcs;rw [zip_self eqPc_self];simp
def smallPcs (ps:List Pc):Bool:=decide (ps.length<4611686018427387904)&&ps.all fun p=>smallP p.2
theorem f117.same (a b:List Pc) (h:a.length=b.length) (hl:a.length<4611686018427387904) (hs:(a.all fun p=>smallP p.2)=true) (k:Nat):f117.l0 k (a.length+1) a b 0=some (.bool ((a.zip b).all fun x=>eqPc x.1 x.2)):=by
 have hz:(a.zip b).length=a.length:=by simp [h]
 have:=loop_any0 (fun n i=>f117.l0 k n a b (i:Nat)) (a.zip b) (fun x=>!eqPc x.1 x.2) (some (.bool false)) (some (.bool true)) (fun n i x hx=>by
  obtain ⟨ha,hb⟩:=zip_get hx
  have:=idx_lt ha
  have hsm:smallP x.1.2=true:=List.all_eq_true.1 hs x.1 (List.mem_of_getElem? ha)
  rw [f117.l0_eq,idx_lt' ha,cT,idx_in ha,kT,idx_in hb,kT,kT,kT,rd_some (t:=.pair tSp (.list tP)) ha,rd_some (t:=.pair tSp (.list tP)) hb,hsm,kT,bS,wrap_succ (by omega)]
  unfold eqPc eqSp
  cases (x.1.1.1==x.2.1.1&&(x.1.1.2==x.2.1.2&&true)) with
  |false=>rw [nF,cT,fA,nF,cT]
  |true=>rw [nT,cF,tA]) (fun n=>by rw [hz,f117.l0_eq,end_lt,cF]) (n:=a.length+1) (by omega)
 refine this.trans ?_
 rw [any_notq fun x:Pc×Pc=>eqPc x.1 x.2]
 cases (a.zip b).all fun x=>eqPc x.1 x.2 <;> rfl
noncomputable def S117:Summ:=summ [.list tPc',.list tPc'] Bool (fun (d:List Pc×List Pc)=>chk (smallPcs d.1) (some (samePcs d.1 d.2))) .bool
theorem ok117:SumOk Tryz.prog 117 S117 :=
 sumq f117.E (fn:=Tryz.f117) (code:=f117.code) f117.sums f117.inl fun (d:List Pc×List Pc) x hx=>by
  obtain ⟨a,b⟩:=d
  obtain ⟨hs,hx⟩:=chk_some hx
  obtain rfl:=oJ hx
  have hs:smallPcs a=true:=hs
  unfold smallPcs at hs
  simp only [bA,dE] at hs
  refine ⟨a.length+1,(f117.eq _ a b).trans ?_⟩
  show _=some (V.bool (samePcs a b))
  unfold samePcs
  by_cases h:a.length=b.length
  ·rw [show ((a.length:Int) != (b.length:Int))=false by simp [h],cF,f117.same a b h hs.1 hs.2,show (a.length==b.length)=true by simp [h],tA]
  ·rw [show ((a.length:Int) != (b.length:Int))=true from bne_iff_ne.2 (by omega),cT,show (a.length==b.length)=false by simp [h],fA]
end
section
set_option maxRecDepth 100000
set_option linter.unusedVariables false
end
section
set_option maxRecDepth 100000
noncomputable def f239.E (k:Nat):Env:=mkEnv tt [] [] [] [] k
noncomputable def f239.code:Go.Code:=cd Tryz.f239
theorem f239.eq (k:Nat) (x0:Int×List (eL)) (x1:Int):evFn (f239.E k) 9 239 Tryz.f239 (encL [(.pair qI (.list qL)),qI] (x0,x1)) =
 chk (decide ((0:Int)≤Go.IntKind.i64.wrap (x1.tdiv (2:Int))∧Go.IntKind.i64.wrap (x1.tdiv (2:Int))<(↑(x0.2.length):Int))) (bif x1.tmod (2:Int)==(1:Int) then (some (.tup [(.int .i64 ((rd qL x0.2 (Go.IntKind.i64.wrap (x1.tdiv (2:Int)))).2.1)),(.int .i64 ((rd qL x0.2 (Go.IntKind.i64.wrap (x1.tdiv (2:Int)))).1))])) else (some (.tup [(.int .i64 ((rd qL x0.2 (Go.IntKind.i64.wrap (x1.tdiv (2:Int)))).1)),(.int .i64 ((rd qL x0.2 (Go.IntKind.i64.wrap (x1.tdiv (2:Int)))).2.1))]))):=by kernel_rfl
theorem f239.inl (k:Nat):InlOk Tryz.prog (f239.E k):=inl_nil
theorem f239.sums (k:Nat):SumsOk Tryz.prog (f239.E k):=sums_nil
noncomputable def f217.E (k:Nat):Env:=mkEnv tt [] [] [] [] k
noncomputable def f217.code:Go.Code:=cd Tryz.f217
theorem f217.eq (k:Nat) (x0:List Int) (x1:List Int) (x2:Int):evFn (f217.E k) 9 217 Tryz.f217 (encL [(.list qI),(.list qI),qI] (x0,x1,x2)) =
 bif x2.tmod (2:Int)==(1:Int) then (chk (decide ((0:Int)≤Go.IntKind.i64.wrap (x2.tdiv (2:Int))∧Go.IntKind.i64.wrap (x2.tdiv (2:Int))<(↑x1.length:Int))) (some (.int .i64 (rd qI x1 (Go.IntKind.i64.wrap (x2.tdiv (2:Int))))))) else (chk (decide ((0:Int)≤Go.IntKind.i64.wrap (x2.tdiv (2:Int))∧Go.IntKind.i64.wrap (x2.tdiv (2:Int))<(↑x0.length:Int))) (chk (decide ((0:Int)≤Go.IntKind.i64.wrap (x2.tdiv (2:Int))∧Go.IntKind.i64.wrap (x2.tdiv (2:Int))<(↑x1.length:Int))) (some (.int .i64 (Go.IntKind.i64.wrap (rd qI x0 (Go.IntKind.i64.wrap (x2.tdiv (2:Int))) - rd qI x1 (Go.IntKind.i64.wrap (x2.tdiv (2:Int))))))))):=by kernel_rfl
theorem f217.inl (k:Nat):InlOk Tryz.prog (f217.E k):=inl_nil
theorem f217.sums (k:Nat):SumsOk Tryz.prog (f217.E k):=sums_nil
noncomputable def f212.E (k:Nat):Env:=mkEnv tt [] [] [(212,2,[.kill (rg [(1,6),(10,17)]),.tidy])] [] k
noncomputable def f212.code:Go.Code:=cd Tryz.f212
noncomputable def f212.l0 (k n:Nat) (p0:Int) (p1:List Int) (p2:Int) (p3:Int):Option V :=
 atPath (f212.E k) n ⟨((.int .i64 p0)::.u::.u::.u::.u::.u::.u::(.ro qI p1)::(.int .i64 p2)::(.int .i64 p3)::un 8),[],[]⟩ 9 0 212 [.c 1,.c 0,.c 1,.c 0] [] f212.code (finK tt Tryz.f212)
theorem f212.l0_eq (k n:Nat) (p0:Int) (p1:List Int) (p2:Int) (p3:Int):f212.l0 k (n+1) p0 p1 p2 p3 =
 bif decide (p3<p2) then (chk (decide ((0:Int)≤p3∧p3<(↑p1.length:Int))) (f212.l0 k n (List.foldl min2I p0 [rd qI p1 p3]) p1 p2 (Go.IntKind.i64.wrap (p3+(1:Int))))) else (some (.int .i64 p0)):=by kernel_rfl
theorem f212.eq (k:Nat) (x0:Int) (x1:List Int):evFn (f212.E k) 9 212 Tryz.f212 (encL [qI,(.list qI)] (x0,x1)) =
 f212.l0 k k x0 x1 ((↑x1.length:Int)) 0:=by kernel_rfl
theorem f212.inl (k:Nat):InlOk Tryz.prog (f212.E k):=inl_nil
theorem f212.sums (k:Nat):SumsOk Tryz.prog (f212.E k):=sums_nil
end
section
set_option maxRecDepth 100000
def arcL (a:Int):Int:=a / 2
def backB (a:Int):Bool:=a % 2==1
def arcIn (n:Nat) (a:Int):Bool:=decide (0≤a∧a<2*(n:Int))
def arcFrom (gl:List Lk) (a:Int):Int:=bif backB a then (lk gl (arcL a)).2.1 else (lk gl (arcL a)).1
def arcTo (gl:List Lk) (a:Int):Int:=bif backB a then (lk gl (arcL a)).1 else (lk gl (arcL a)).2.1
def roomA (cs f:List Int) (a:Int):Int:=bif backB a then rdI f (arcL a) else rdI cs (arcL a) - rdI f (arcL a)
theorem arc_tdiv {a:Int} (h:0≤a∧a≤9223372036854775807):Go.IntKind.i64.wrap (a.tdiv 2)=arcL a:=by
 rw [Int.tdiv_eq_ediv_of_nonneg h.1,wrap64 (by omega)]
 rfl
theorem arc_tmod {a:Int} (h:0≤a):(a.tmod 2==1)=backB a:=by
 rw [Int.tmod_eq_emod_of_nonneg h]
 rfl
theorem arcL_in {n:Nat} {a:Int} (h:arcIn n a=true):decide ((0:Int)≤arcL a∧arcL a<(n:Int))=true:=by
 have h:=oD h
 exact dT (by unfold arcL;omega)
noncomputable def S239:Summ:=summ [tG,tI] (Int×Int) (fun (d:Gr×Int)=>chk (decide (d.1.2.length≤16)&&arcIn d.1.2.length d.2) (some (arcFrom d.1.2 d.2,arcTo d.1.2 d.2))) resII
theorem ok239:SumOk Tryz.prog 239 S239 :=
 sumq f239.E (fn:=Tryz.f239) (code:=f239.code) f239.sums f239.inl fun (d:Gr×Int) x hx=>by
  obtain ⟨hb,hx⟩:=chk_some hx
  obtain rfl:=oJ hx
  rw [bA] at hb
  have hl:=oD hb.1
  have ha:=oD hb.2
  refine ⟨0,(f239.eq 0 d.1 d.2).trans ?_⟩
  rw [arc_tdiv (by omega),arc_tmod (by omega),chk_eq (arcL_in hb.2)]
  unfold arcFrom arcTo
  cases backB d.2 <;> rfl
theorem wrap_room {c e:Int} (h:0≤c - e) (h':c - e≤maxRate):Go.IntKind.i64.wrap (c - e)=c - e:=by
 have hM:maxRate=4611686018427387904:=rfl
 exact wrap64 (by omega)
noncomputable def S217:Summ:=summ [tL,tL,tI] Int (fun (d:List Int×(List Int×Int)) =>
 chk (decide (d.1.length≤16∧d.2.1.length=d.1.length)&&(arcIn d.1.length d.2.2&&rateB (roomA d.1 d.2.1 d.2.2))) (some (roomA d.1 d.2.1 d.2.2))) (.int .i64)
theorem ok217:SumOk Tryz.prog 217 S217 :=
 sumq f217.E (fn:=Tryz.f217) (code:=f217.code) f217.sums f217.inl fun (d:List Int×(List Int×Int)) x hx=>by
  obtain ⟨hb,hx⟩:=chk_some hx
  obtain rfl:=oJ hx
  rw [bA,bA] at hb
  have hl:=oD hb.1
  have ha:=oD hb.2.1
  have hr:=oD hb.2.2
  have hM:maxRate=4611686018427387904:=rfl
  refine ⟨0,(f217.eq 0 d.1 d.2.1 d.2.2).trans ?_⟩
  rw [arc_tdiv (by omega),arc_tmod (by omega),hl.2,chk_eq (arcL_in hb.2.1),chk_eq (arcL_in hb.2.1),chk_eq (arcL_in hb.2.1)]
  unfold roomA at hr ⊢
  cases hk:backB d.2.2 with
  |true=>rw [cT,cT];rfl
  |false =>
   rw [hk,cF] at hr
   rw [cF,cF]
   exact congrArg (fun x=>some (V.int .i64 x)) (wrap_room hr.1 hr.2)
theorem min2I_min (x y:Int):min2I x y=min x y:=by
 unfold min2I
 by_cases h:y<x
 ·rw [dT h,cT];omega
 ·rw [dF h,cF];omega
noncomputable def S212:Summ:=summ [tI,tL] Int (fun (d:Int×List Int)=>chk (decide (d.2.length<4611686018427387904)) (some (d.2.foldl min d.1))) (.int .i64)
theorem f212.l0_is (k:Nat) (xs:List Int) (hl:xs.length<4611686018427387904):∀ (n i:Nat) (x:Int),i≤xs.length→xs.length<n+i→f212.l0 k n x xs (xs.length:Int) (i:Int)=some (.int .i64 ((xs.drop i).foldl min x))
 |0,i,x,h,h'=>by omega
 |n+1,i,x,h,h'=>by
  by_cases hlt:i<xs.length
  ·have hx:=gE hlt
   rw [f212.l0_eq,idx_lt' hx,idx_in hx,rd_some (t:=tI) hx,wrap_succ (by omega),cT,kT,List.drop_eq_getElem_cons hlt,f212.l0_is k xs hl n (i+1) _ (by omega) (by omega),List.foldl_cons,List.foldl_cons,List.foldl_nil,min2I_min]
  ·obtain rfl:i=xs.length:=by omega
   rw [f212.l0_eq,end_lt,cF,List.drop_length]
   rfl
theorem ok212:SumOk Tryz.prog 212 S212 :=
 sumq f212.E (fn:=Tryz.f212) (code:=f212.code) f212.sums f212.inl fun (d:Int×List Int) x hx=>by
  obtain ⟨hb,hx⟩:=chk_some hx
  obtain rfl:=oJ hx
  exact ⟨d.2.length+1,(f212.eq _ d.1 d.2).trans (f212.l0_is _ d.2 (oD hb) _ 0 d.1 (by omega) (by omega))⟩
noncomputable def f216.E (k:Nat):Env:=mkEnv tt [] [(243,Tryz.f243),(261,Tryz.f261),(262,Tryz.f262)] [(216,8,[.kill (rg [(0,6),(9,47)]),.tidy]),(216,9,[.drop 62])] [] k
noncomputable def f216.code:Go.Code:=(Go.Func.body Tryz.f216).getD .skip
theorem f216.inl (k:Nat):InlOk Tryz.prog (f216.E k):=(inl_cons (by kernel_rfl) (by kernel_rfl) (inl_cons (by kernel_rfl) (by kernel_rfl) (inl_cons (by kernel_rfl) (by kernel_rfl) inl_nil)))
theorem f216.sums (k:Nat):SumsOk Tryz.prog (f216.E k):=sums_nil
theorem f216.at1:evFn (f216.E 40) 9 216 Tryz.f216 (encL [.list tI,tI] (([-1],1):List Int×Int))=some (.own tI [-1]):=by kernel_rfl
theorem f216.at2:evFn (f216.E 40) 9 216 Tryz.f216 (encL [.list tI,tI] (([-1],2):List Int×Int))=some (.own tI [-1,-1]):=by kernel_rfl
theorem f216.at3:evFn (f216.E 40) 9 216 Tryz.f216 (encL [.list tI,tI] (([-1],3):List Int×Int))=some (.own tI [-1,-1,-1]):=by kernel_rfl
theorem f216.at4:evFn (f216.E 40) 9 216 Tryz.f216 (encL [.list tI,tI] (([-1],4):List Int×Int))=some (.own tI [-1,-1,-1,-1]):=by kernel_rfl
theorem f216.at5:evFn (f216.E 40) 9 216 Tryz.f216 (encL [.list tI,tI] (([-1],5):List Int×Int))=some (.own tI [-1,-1,-1,-1,-1]):=by kernel_rfl
theorem f216.at6:evFn (f216.E 40) 9 216 Tryz.f216 (encL [.list tI,tI] (([-1],6):List Int×Int))=some (.own tI [-1,-1,-1,-1,-1,-1]):=by kernel_rfl
theorem f216.at7:evFn (f216.E 40) 9 216 Tryz.f216 (encL [.list tI,tI] (([-1],7):List Int×Int))=some (.own tI [-1,-1,-1,-1,-1,-1,-1]):=by kernel_rfl
theorem f216.at8:evFn (f216.E 40) 9 216 Tryz.f216 (encL [.list tI,tI] (([-1],8):List Int×Int))=some (.own tI [-1,-1,-1,-1,-1,-1,-1,-1]):=by kernel_rfl
noncomputable def S216:Summ:=summ [.list tI,tI] (List Int) (fun (d:List Int×Int)=>chk (d.1==[-1]&&decide (1≤d.2∧d.2≤8)) (some (List.replicate d.2.toNat (-1)))) (.own tI)
theorem ok216:SumOk Tryz.prog 216 S216 :=
 sumq f216.E (fn:=Tryz.f216) (code:=f216.code) f216.sums f216.inl fun (d:List Int×Int) x hx=>by
  obtain ⟨ys,n⟩:=d
  obtain ⟨hb,hx⟩:=chk_some hx
  obtain rfl:=oJ hx
  rw [bA] at hb
  obtain rfl:ys=[-1]:=eq_of_beq hb.1
  have hn:1≤n∧n≤8:=oD hb.2
  refine ⟨40,?_⟩
  obtain rfl|rfl|rfl|rfl|rfl|rfl|rfl|rfl:n=1∨n=2∨n=3∨n=4∨n=5∨n=6∨n=7∨n=8:=by omega
  ·exact f216.at1
  ·exact f216.at2
  ·exact f216.at3
  ·exact f216.at4
  ·exact f216.at5
  ·exact f216.at6
  ·exact f216.at7
  ·exact f216.at8
noncomputable def f263.E (k:Nat):Env:=mkEnv tt [] [(243,Tryz.f243),(261,Tryz.f261),(262,Tryz.f262)] [(263,8,[.kill (rg [(0,6),(9,47)]),.tidy]),(263,9,[.drop 62])] [] k
noncomputable def f263.code:Go.Code:=(Go.Func.body Tryz.f263).getD .skip
theorem f263.inl (k:Nat):InlOk Tryz.prog (f263.E k):=(inl_cons (by kernel_rfl) (by kernel_rfl) (inl_cons (by kernel_rfl) (by kernel_rfl) (inl_cons (by kernel_rfl) (by kernel_rfl) inl_nil)))
theorem f263.sums (k:Nat):SumsOk Tryz.prog (f263.E k):=sums_nil
theorem f263.at1:evFn (f263.E 40) 9 263 Tryz.f263 (encL [.list .bool,tI] (([true],1):List Bool×Int))=some (.own .bool [true]):=by kernel_rfl
theorem f263.at2:evFn (f263.E 40) 9 263 Tryz.f263 (encL [.list .bool,tI] (([true],2):List Bool×Int))=some (.own .bool [true,true]):=by kernel_rfl
theorem f263.at3:evFn (f263.E 40) 9 263 Tryz.f263 (encL [.list .bool,tI] (([true],3):List Bool×Int))=some (.own .bool [true,true,true]):=by kernel_rfl
theorem f263.at4:evFn (f263.E 40) 9 263 Tryz.f263 (encL [.list .bool,tI] (([true],4):List Bool×Int))=some (.own .bool [true,true,true,true]):=by kernel_rfl
theorem f263.at5:evFn (f263.E 40) 9 263 Tryz.f263 (encL [.list .bool,tI] (([true],5):List Bool×Int))=some (.own .bool [true,true,true,true,true]):=by kernel_rfl
theorem f263.at6:evFn (f263.E 40) 9 263 Tryz.f263 (encL [.list .bool,tI] (([true],6):List Bool×Int))=some (.own .bool [true,true,true,true,true,true]):=by kernel_rfl
theorem f263.at7:evFn (f263.E 40) 9 263 Tryz.f263 (encL [.list .bool,tI] (([true],7):List Bool×Int))=some (.own .bool [true,true,true,true,true,true,true]):=by kernel_rfl
theorem f263.at8:evFn (f263.E 40) 9 263 Tryz.f263 (encL [.list .bool,tI] (([true],8):List Bool×Int))=some (.own .bool [true,true,true,true,true,true,true,true]):=by kernel_rfl
noncomputable def S263:Summ:=summ [.list .bool,tI] (List Bool) (fun (d:List Bool×Int)=>chk (d.1==[true]&&decide (1≤d.2∧d.2≤8)) (some (List.replicate d.2.toNat (true)))) (.own .bool)
theorem ok263:SumOk Tryz.prog 263 S263 :=
 sumq f263.E (fn:=Tryz.f263) (code:=f263.code) f263.sums f263.inl fun (d:List Bool×Int) x hx=>by
  obtain ⟨ys,n⟩:=d
  obtain ⟨hb,hx⟩:=chk_some hx
  obtain rfl:=oJ hx
  rw [bA] at hb
  obtain rfl:ys=[true]:=eq_of_beq hb.1
  have hn:1≤n∧n≤8:=oD hb.2
  refine ⟨40,?_⟩
  obtain rfl|rfl|rfl|rfl|rfl|rfl|rfl|rfl:n=1∨n=2∨n=3∨n=4∨n=5∨n=6∨n=7∨n=8:=by omega
  ·exact f263.at1
  ·exact f263.at2
  ·exact f263.at3
  ·exact f263.at4
  ·exact f263.at5
  ·exact f263.at6
  ·exact f263.at7
  ·exact f263.at8
end
section
def upto (n:Nat):List Int:=(List.range n).map fun (i:Nat)=>(i:Int)
def rowA (gl:List Lk) (v:Int):List Int:=(upto (2*gl.length)).filter fun a=>arcFrom gl a==v
def headsA (gl:List Lk):List Int:=(upto (2*gl.length)).map (arcTo gl)
def orderA (gl:List Lk) (n:Nat):List Int:=(upto n).flatMap (rowA gl)
def startsA (gl:List Lk) (n:Nat):List Int:=(List.range (n+1)).map fun v=>((orderA gl v).length:Int)
def withinF (f cs:List Int):Bool:=(f.length==cs.length)&&(f.zip cs).all fun x=>decide (0≤x.1∧x.1≤x.2)
def liesB (g:Gr) (cs f:List Int):Bool:=capsMay g cs&&withinF f cs
def gainV:List Lk→List Int→Int→Int
 |l::ls,x::xs,v=>((bif l.1==v then x else 0) - (bif l.2.1==v then x else 0))+gainV ls xs v
 |_,_,_=>0
def gainsOf (g:Gr) (f:List Int):List Int:=(upto g.1.toNat).map (gainV g.2 f)
def stillB (g:Gr) (f:List Int) (src dst:Int) (v:Int):Bool:=!((v==src&&decide (gainV g.2 f v<0)) || (v != src&&(v != dst&&gainV g.2 f v != 0)))
def mayF (g:Gr) (cs f:List Int) (src dst:Int):Bool :=
 liesB g cs f&&(hasV g.1 src&&(hasV g.1 dst&&(!(src==dst)&&(upto g.1.toNat).all (stillB g f src dst))))
def moveA (f:List Int) (by_ a:Int):List Int:=f.set (arcL a).toNat (rdI f (arcL a)+bif backB a then -by_ else by_)
def moveL (cs:List Int) (by_:Int):List Int→List Int→Option (List Int)
 |f,[]=>some f
 |f,a::ws=>bif decide (roomA cs f a<by_) then none else moveL cs by_ (moveA f by_ a) ws
def moveForm (g:Gr) (cs f:List Int) (by_:Int) (ws:List Int):Bool:=liesB g cs f&&(rateB by_&&(decide (ws.length≤64)&&ws.all (arcIn f.length)))
def moveOf (g:Gr) (cs f:List Int) (by_:Int) (ws:List Int):List Int×Int :=
 bif moveForm g cs f by_ ws then (match moveL cs by_ f ws with
  |some o=>(o,0)
  |none=>([],901)) else ([],900)
theorem upto_length (n:Nat):(upto n).length=n:=by simp [upto]
theorem upto_get {n i:Nat} (h:i<n):(upto n)[i]? = some (i:Int):=by simp [upto,h]
theorem upto_mem {n:Nat} {a:Int}:a∈upto n↔0≤a∧a<(n:Int):=by
 simp only [upto,List.mem_map,List.mem_range]
 constructor
 ·rintro ⟨i,hi,rfl⟩
  omega
 ·rintro ⟨h0,h1⟩
  exact ⟨a.toNat,by omega,by omega⟩
theorem upto_succ (n:Nat):upto (n+1)=upto n++[(n:Int)]:=by simp [upto,List.range_succ]
theorem withinF_len {f cs:List Int} (h:withinF f cs=true):f.length=cs.length:=by
 simp only [withinF,bA,beq_iff_eq] at h
 exact h.1
theorem withinF_get {f cs:List Int} (h:withinF f cs=true) {i:Nat} {x c:Int} (hx:f[i]? = some x) (hc:cs[i]? = some c):0≤x∧x≤c:=by
 simp only [withinF,bA,beq_iff_eq] at h
 have:=List.all_eq_true.1 h.2 (x,c) (List.mem_of_getElem? (i:=i) (by rw [List.getElem?_zip_eq_some];exact ⟨hx,hc⟩))
 exact oD this
theorem withinF_of {f cs:List Int} (hl:f.length=cs.length) (h:∀ (i:Nat) (x c:Int),f[i]? = some x→cs[i]? = some c→0≤x∧x≤c):withinF f cs=true:=by
 simp only [withinF,bA,beq_iff_eq]
 refine ⟨hl,List.all_eq_true.2 fun y hy=>?_⟩
 obtain ⟨i,hi⟩:=List.mem_iff_getElem?.1 hy
 rw [List.getElem?_zip_eq_some] at hi
 exact dT (h i y.1 y.2 hi.1 hi.2)
theorem withinL_of {cs:List Int}:∀ {ls:List Lk},cs.length=ls.length→(∀ (i:Nat) (c:Int) (l:Lk),cs[i]? = some c→ls[i]? = some l→0≤c∧c≤l.2.2)→withinL cs ls=true:=by
 induction cs with
 |nil=>intro ls hl _;cases ls with|nil=>rfl|cons _ _=>simp at hl
 |cons c cs ih =>
  intro ls hl h
  cases ls with
  |nil=>simp at hl
  |cons l ls =>
   simp only [withinL,bA]
   refine ⟨dT (h 0 c l rfl rfl),ih (by simpa using hl) fun i c' l' hc' hl'=>h (i+1) c' l' (by simpa using hc') (by simpa using hl')⟩
theorem withinL_at:∀ {cs:List Int} {ls:List Lk},withinL cs ls=true→∀ {i:Nat} {c:Int} {l:Lk},cs[i]? = some c→ls[i]? = some l→0≤c∧c≤l.2.2
 |c::cs,l::ls,h,0,c',l',hc,hl=>by
  simp only [withinL,bA] at h
  simp only [List.getElem?_cons_zero,sI] at hc hl
  subst hc hl
  exact oD h.1
 |c::cs,l::ls,h,i+1,c',l',hc,hl=>by
  simp only [withinL,bA] at h
  exact withinL_at h.2 (by simpa using hc) (by simpa using hl)
 | [],[],_,_,_,_,hc,_=>by simp at hc
 | [],_::_,h,_,_,_,_,_=>by simp [withinL] at h
 |_::_,[],h,_,_,_,_,_=>by simp [withinL] at h
theorem capsMay_len {g:Gr} {cs:List Int} (h:capsMay g cs=true):cs.length=g.2.length:=by
 simp only [capsMay,bA] at h
 exact withinL_len h.2
theorem lies_caps {g:Gr} {cs f:List Int} (h:liesB g cs f=true):capsMay g f=true:=by
 simp only [liesB,capsMay,bA] at h ⊢
 refine ⟨h.1.1,withinL_of ((withinF_len h.2).trans (withinL_len h.1.2)) fun i x l hx hl=>?_⟩
 have hi:i<cs.length:=by rw [← withinF_len h.2];exact idx_lt hx
 have hc:=gE hi
 have h1:=withinF_get h.2 hx hc
 have h2:=withinL_at h.1.2 hc hl
 omega
theorem graphMay_parts {g:Gr} (h:graphMay g=true):2≤g.1∧g.1≤8∧g.2.length≤16∧g.2.all (linkOk g.1)=true:=by
 simp only [graphMay,shapeB,bA] at h
 have h1:=oD h.1.1
 exact ⟨h1.1,h1.2,oD h.1.2.1,h.1.2.2⟩
theorem link_at {g:Gr} (h:graphMay g=true) {i:Nat} {l:Lk} (hl:g.2[i]? = some l):(0≤l.1∧l.1<g.1)∧(0≤l.2.1∧l.2.1<g.1)∧l.1 ≠ l.2.1:=by
 have:=List.all_eq_true.1 (graphMay_parts h).2.2.2 l (List.mem_of_getElem? hl)
 simp only [linkOk,hasV,bA,Bool.not_eq_true',beq_eq_false_iff_ne] at this
 exact ⟨oD this.1,oD this.2.1,this.2.2⟩
theorem caps_sum {g:Gr} {f:List Int} (h:capsMay g f=true):f.sum≤maxRate∧∀ x∈f,0≤x:=by
 simp only [capsMay,graphMay,bA] at h
 obtain ⟨⟨_,h1⟩,h2⟩:=h
 obtain ⟨t,ht⟩:=Option.isSome_iff_exists.1 h1
 have a:=sumUp_lo _ _ _ ht (by omega) (by decide)
 have hs:=sumUp_sum _ _ _ ht
 have e:(capsOf g).sum=(g.2.map fun l=>l.2.2).sum:=rfl
 have:f.sum≤(g.2.map fun l=>l.2.2).sum:=by
  clear ht hs a e h1
  generalize g.2=ls at h2
  induction f generalizing ls with
  |nil=>cases ls with|nil=>simp|cons _ _=>simp [withinL] at h2
  |cons c cs ih =>
   cases ls with
   |nil=>simp [withinL] at h2
   |cons l ls =>
    simp only [withinL,bA] at h2
    have:=oD h2.1
    have:=ih ls h2.2
    simp only [List.sum_cons,List.map_cons]
    omega
 exact ⟨by omega,fun x hx=>withinL_get h2 x hx⟩
end
section
set_option maxRecDepth 100000
noncomputable def f240.E (k:Nat):Env:=mkEnv tt [(239,S239)] [] [(240,3,[.kill (rg [(0,0),(3,4),(6,11),(14,30)]),.tidy])] [] k
noncomputable def f240.code:Go.Code:=cd Tryz.f240
noncomputable def f240.l0 (k n:Nat) (p0:Int) (p1:Int) (p2:Int) (p3:Int) (p4:List (eL)) (p5:List Int):Option V :=
 atPath (f240.E k) n ⟨(.u::(.int .i64 p0)::(.ptr 524304 (0) (0))::.u::.u::(.slw 1310736)::.u::.u::.u::.u::.u::.u::(.int .i64 p1)::(.int .i64 p2)::un 17),[],[(524304,.box [(.int .i64 p3),(.ro qL p4)]),(1310736,.row qI p5)]⟩ 9 0 240 [.c 1,.c 1,.c 0,.c 1,.c 0] [] f240.code (finK tt Tryz.f240)
theorem f240.l0_eq (k n:Nat) (p0:Int) (p1:Int) (p2:Int) (p3:Int) (p4:List (eL)) (p5:List Int):f240.l0 k (n+1) p0 p1 p2 p3 p4 p5 =
 bif decide (p2<p1) then ((chk (decide (p4.length≤16)&&arcIn p4.length p2) (some ((arcFrom p4 p2,arcTo p4 p2)))).bind (fun y0=>bif y0.1==p0 then (chk (decide ((p5++[p2]).length*8≤140737488355328)) (f240.l0 k n p0 p1 (Go.IntKind.i64.wrap (p2+(1:Int))) p3 p4 (p5++[p2]))) else (f240.l0 k n p0 p1 (Go.IntKind.i64.wrap (p2+(1:Int))) p3 p4 p5))) else (some (.own qI p5)):=by kernel_rfl
theorem f240.eq (k:Nat) (x0:Int×List (eL)) (x1:Int):evFn (f240.E k) 9 240 Tryz.f240 (encL [(.pair qI (.list qL)),qI] (x0,x1)) =
 f240.l0 k k x1 (Go.IntKind.i64.wrap ((2:Int)*(↑(x0.2.length):Int))) 0 x0.1 x0.2 ([]):=by kernel_rfl
theorem f240.inl (k:Nat):InlOk Tryz.prog (f240.E k):=inl_nil
theorem f240.sums (k:Nat):SumsOk Tryz.prog (f240.E k):=(sums_cons ok239 sums_nil)
noncomputable def f215.E (k:Nat):Env:=mkEnv tt [(125,S125)] [] [(215,4,[.kill (rg [(0,0),(2,19),(23,37)]),.tidy])] [] k
noncomputable def f215.code:Go.Code:=cd Tryz.f215
noncomputable def f215.l0 (k n:Nat) (p0:List Int) (p1:List Int) (p2:Int) (p3:Int):Option V :=
 atPath (f215.E k) n ⟨(.u::(.ro qI p0)::.u::.u::.u::.u::.u::.u::.u::.u::.u::.u::.u::.u::.u::.u::.u::.u::.u::.u::(.ro qI p1)::(.int .i64 p2)::(.int .i64 p3)::un 15),[],[]⟩ 9 0 215 [.c 1,.c 1,.c 0,.c 1,.c 0] [] f215.code (finK tt Tryz.f215)
theorem f215.l0_eq (k n:Nat) (p0:List Int) (p1:List Int) (p2:Int) (p3:Int):f215.l0 k (n+1) p0 p1 p2 p3 =
 bif decide (p3<p2) then (chk (decide ((0:Int)≤p3∧p3<(↑p1.length:Int))) (bif decide (rd qI p1 p3<(0:Int)) then (some (.bool false)) else (chk (decide ((0:Int)≤p3∧p3<(↑p0.length:Int))) (bif decide (rd qI p1 p3>rd qI p0 p3) then (some (.bool false)) else (f215.l0 k n p0 p1 p2 (Go.IntKind.i64.wrap (p3+(1:Int)))))))) else (some (.bool true)):=by kernel_rfl
theorem f215.eq (k:Nat) (x0:Int×List (eL)) (x1:List Int) (x2:List Int):evFn (f215.E k) 9 215 Tryz.f215 (encL [(.pair qI (.list qL)),(.list qI),(.list qI)] (x0,x1,x2)) =
 bif !capsMay x0 x1 then (some (.bool false)) else (bif (↑x2.length:Int) != (↑x1.length:Int) then (some (.bool false)) else (f215.l0 k k x1 x2 ((↑x2.length:Int)) 0)):=by kernel_rfl
theorem f215.inl (k:Nat):InlOk Tryz.prog (f215.E k):=inl_nil
theorem f215.sums (k:Nat):SumsOk Tryz.prog (f215.E k):=(sums_cons ok125 sums_nil)
noncomputable def f218.E (k:Nat):Env:=mkEnv tt [] [] [(218,3,[.kill (rg [(0,0),(2,4),(6,11),(15,42)]),.tidy])] [] k
noncomputable def f218.code:Go.Code:=cd Tryz.f218
noncomputable def f218.l0 (k n:Nat) (p0:List Int) (p1:List (eL)) (p2:Int) (p3:Int) (p4:List Int):Option V :=
 atPath (f218.E k) n ⟨(.u::(.ro qI p0)::.u::.u::.u::(.slw 1310736)::.u::.u::.u::.u::.u::.u::(.ro qL p1)::(.int .i64 p2)::(.int .i64 p3)::un 28),[],[(1310736,.row qI p4)]⟩ 9 0 218 [.c 1,.c 1,.c 0,.c 1,.c 0] [] f218.code (finK tt Tryz.f218)
theorem f218.l0_eq (k n:Nat) (p0:List Int) (p1:List (eL)) (p2:Int) (p3:Int) (p4:List Int):f218.l0 k (n+1) p0 p1 p2 p3 p4 =
 bif decide (p3<p2) then (chk (decide ((0:Int)≤p3∧p3<(↑p1.length:Int))) (chk (decide ((0:Int)≤(rd qL p1 p3).1∧(rd qL p1 p3).1<(↑p4.length:Int))) (chk (decide ((0:Int)≤p3∧p3<(↑p0.length:Int))) (chk (decide ((0:Int)≤(rd qL p1 p3).1∧(rd qL p1 p3).1<(↑p4.length:Int))) (chk (decide ((0:Int)≤(rd qL p1 p3).2.1∧(rd qL p1 p3).2.1<(↑(p4.set (Int.toNat (rd qL p1 p3).1) (Go.IntKind.i64.wrap (rd qI p4 (↑(Int.toNat (rd qL p1 p3).1):Int)+rd qI p0 p3))).length:Int))) (chk (decide ((0:Int)≤p3∧p3<(↑p0.length:Int))) (chk (decide ((0:Int)≤(rd qL p1 p3).2.1∧(rd qL p1 p3).2.1<(↑(p4.set (Int.toNat (rd qL p1 p3).1) (Go.IntKind.i64.wrap (rd qI p4 (↑(Int.toNat (rd qL p1 p3).1):Int)+rd qI p0 p3))).length:Int))) (f218.l0 k n p0 p1 p2 (Go.IntKind.i64.wrap (p3+(1:Int))) ((p4.set (Int.toNat (rd qL p1 p3).1) (Go.IntKind.i64.wrap (rd qI p4 (↑(Int.toNat (rd qL p1 p3).1):Int)+rd qI p0 p3))).set (Int.toNat (rd qL p1 p3).2.1) (Go.IntKind.i64.wrap (rd qI (p4.set (Int.toNat (rd qL p1 p3).1) (Go.IntKind.i64.wrap (rd qI p4 (↑(Int.toNat (rd qL p1 p3).1):Int)+rd qI p0 p3))) (↑(Int.toNat (rd qL p1 p3).2.1):Int) - rd qI p0 p3))))))))))) else (some (.own qI p4)):=by kernel_rfl
theorem f218.eq (k:Nat) (x0:Int×List (eL)) (x1:List Int):evFn (f218.E k) 9 218 Tryz.f218 (encL [(.pair qI (.list qL)),(.list qI)] (x0,x1)) =
 chk (decide ((0:Int)≤x0.1∧x0.1≤x0.1)) (chk (decide (0<8∧x0.1*(↑(8:Nat):Int)≤(140737488355328:Int))) (f218.l0 k k x1 x0.2 ((↑(x0.2.length):Int)) 0 (List.replicate (Int.toNat x0.1) (dflt qI)))):=by kernel_rfl
theorem f218.inl (k:Nat):InlOk Tryz.prog (f218.E k):=inl_nil
theorem f218.sums (k:Nat):SumsOk Tryz.prog (f218.E k):=sums_nil
end
section
theorem drop_filter {α:Type} (p:α→Bool) {l:List α} {i:Nat} (h:i<l.length):(l.drop i).filter p=bif p l[i] then l[i]::(l.drop (i+1)).filter p else (l.drop (i+1)).filter p:=by
 rw [List.drop_eq_getElem_cons h,List.filter_cons]
 cases p l[i] <;> rfl
noncomputable def S240:Summ:=summ [tG,tI] (List Int) (fun (d:Gr×Int)=>chk (decide (d.1.2.length≤16)) (some (rowA d.1.2 d.2))) (.own tI)
theorem f240.l0_is (k:Nat) (v g0:Int) (gl:List Lk) (hl:gl.length≤16):∀ (n i:Nat) (o:List Int),i≤2*gl.length→2*gl.length<n+i→o.length≤i →
  f240.l0 k n v ((2*gl.length:Nat):Int) (i:Int) g0 gl o=some (.own tI (o++((upto (2*gl.length)).drop i).filter fun a=>arcFrom gl a==v))
 |0,i,o,h,h',_=>by omega
 |n+1,i,o,h,h',ho=>by
  by_cases hlt:i<2*gl.length
  ·have hu:i<(upto (2*gl.length)).length:=by rw [upto_length];exact hlt
   have hg:(upto (2*gl.length))[i]=(i:Int):=(List.getElem?_eq_some_iff.1 (upto_get hlt)).2
   rw [f240.l0_eq,show decide ((i:Int)<((2*gl.length:Nat):Int))=true from dT (by omega),cT,dT hl,tA,
    show arcIn gl.length (i:Int)=true from dT (by omega),kT,bS,wrap_succ (by omega),drop_filter _ hu,hg]
   simp only
   cases arcFrom gl (i:Int)==v with
   |true =>
    rw [cT,cT,chk_eq (dT (by rw [lA,List.length_singleton];omega)),f240.l0_is k v g0 gl hl n (i+1) _ (by omega) (by omega) (by rw [lA,List.length_singleton];omega),List.append_assoc]
    rfl
   |false=>rw [cF,cF,f240.l0_is k v g0 gl hl n (i+1) _ (by omega) (by omega) (by omega)]
  ·obtain rfl:i=2*gl.length:=by omega
   rw [f240.l0_eq,show decide (((2*gl.length:Nat):Int)<((2*gl.length:Nat):Int))=false from dF (by omega),cF,List.drop_eq_nil_of_le (by rw [upto_length];omega),List.filter_nil,List.append_nil]
theorem ok240:SumOk Tryz.prog 240 S240 :=
 sumq f240.E (fn:=Tryz.f240) (code:=f240.code) f240.sums f240.inl fun (d:Gr×Int) x hx=>by
  obtain ⟨hb,hx⟩:=chk_some hx
  obtain rfl:=oJ hx
  have hb:=oD hb
  refine ⟨33,(f240.eq _ d.1 d.2).trans ?_⟩
  rw [wrap64 (by omega),show (2:Int)*(d.1.2.length:Int)=((2*d.1.2.length:Nat):Int) by omega]
  exact f240.l0_is _ d.2 d.1.1 d.1.2 hb _ 0 [] (by omega) (by omega) (by simp)
def outB (x:Int×Int):Bool:=!decide (0≤x.1∧x.1≤x.2)
noncomputable def S215:Summ:=summ [tG,tL,tL] Bool (fun (d:Gr×(List Int×List Int))=>some (liesB d.1 d.2.1 d.2.2)) .bool
theorem f215.l0_is (k:Nat) (cs f:List Int) (hl:f.length=cs.length) (hc:cs.length≤16):f215.l0 (k+17) (k+17) cs f (f.length:Int) 0=some (.bool (withinF f cs)):=by
 have hz:(f.zip cs).length=f.length:=by simp [hl]
 refine (loop_any0 (fun n i=>f215.l0 (k+17) n cs f (f.length:Int) (i:Nat)) (f.zip cs) outB (some (.bool false)) (some (.bool true)) (fun n i x hx=>by
  obtain ⟨ha,hb⟩:=zip_get hx
  have:=idx_lt ha
  rw [f215.l0_eq,idx_lt' ha,idx_in ha,idx_in hb,rd_some (t:=tI) ha,rd_some (t:=tI) hb,wrap_succ (by omega),cT,kT,kT]
  unfold outB
  by_cases h1:x.1<0
  ·rw [show decide (x.1<0)=true from dT h1,cT,show decide (0≤x.1∧x.1≤x.2)=false from dF (by omega),nF,cT]
  ·by_cases h2:x.1>x.2
   ·rw [show decide (x.1<0)=false from dF h1,cF,show decide (x.1>x.2)=true from dT h2,cT,show decide (0≤x.1∧x.1≤x.2)=false from dF (by omega),nF,cT]
   ·rw [show decide (x.1<0)=false from dF h1,cF,show decide (x.1>x.2)=false from dF h2,cF,show decide (0≤x.1∧x.1≤x.2)=true from dT (by omega),nT,cF]) (fun n=>by
  rw [hz,f215.l0_eq,end_lt,cF]) (n:=k+17) (by omega)).trans ?_
 unfold withinF
 rw [show (f.length==cs.length)=true by simpa using hl,tA]
 have:(f.zip cs).any outB=!(f.zip cs).all fun x=>decide (0≤x.1∧x.1≤x.2):=by
  generalize f.zip cs=z
  induction z with
  |nil=>rfl
  |cons y z ih=>rw [List.any_cons,List.all_cons,ih,Bool.not_and];rfl
 rw [this]
 cases (f.zip cs).all fun x=>decide (0≤x.1∧x.1≤x.2) <;> rfl
theorem ok215:SumOk Tryz.prog 215 S215 :=
 sumq f215.E (fn:=Tryz.f215) (code:=f215.code) f215.sums f215.inl fun (d:Gr×(List Int×List Int)) x hx=>by
  obtain rfl:=oJ hx
  refine ⟨17,(f215.eq _ d.1 d.2.1 d.2.2).trans ?_⟩
  unfold liesB
  cases hc:capsMay d.1 d.2.1 with
  |false=>rw [nF,cT,fA]
  |true =>
   rw [nT,cF,tA]
   by_cases hl:d.2.2.length=d.2.1.length
   ·have:=capsMay_len hc
    have:=(graphMay_parts (caps_graph hc)).2.2.1
    rw [show ((d.2.2.length:Int) != (d.2.1.length:Int))=false by simp [hl],cF]
    exact f215.l0_is 0 d.2.1 d.2.2 hl (by omega)
   ·rw [show ((d.2.2.length:Int) != (d.2.1.length:Int))=true by simp;omega,cT]
    unfold withinF
    rw [show (d.2.2.length==d.2.1.length)=false by simpa using hl,fA]
def gStep (o:List Int) (l:Lk) (x:Int):List Int:=(o.set l.1.toNat (rdI o l.1+x)).set l.2.1.toNat (rdI (o.set l.1.toNat (rdI o l.1+x)) l.2.1 - x)
theorem rdI_nat (o:List Int) (k:Int):rdI o (k.toNat:Int)=rdI o k:=by unfold rdI rd;rw [Int.toNat_natCast]
theorem rdI_set {o:List Int} {i j:Int} {x:Int} (hi:0≤i∧i<(o.length:Int)) (hj:0≤j∧j<(o.length:Int)):rdI (o.set i.toNat x) j=bif i==j then x else rdI o j:=by
 unfold rdI rd
 rw [List.getD_eq_getElem?_getD,List.getD_eq_getElem?_getD,List.getElem?_set]
 by_cases h:i=j
 ·subst h
  rw [if_pos rfl,if_pos (by omega),show (i==i)=true by simp,cT]
  rfl
 ·rw [if_neg (by omega),show (i==j)=false by simpa using h,cF]
theorem gStep_len (o:List Int) (l:Lk) (x:Int):(gStep o l x).length=o.length:=by simp [gStep]
theorem gStep_at {o:List Int} {l:Lk} {x v:Int} (h1:0≤l.1∧l.1<(o.length:Int)) (h2:0≤l.2.1∧l.2.1<(o.length:Int)) (hv:0≤v∧v<(o.length:Int)) (hne:l.1 ≠ l.2.1) :
  rdI (gStep o l x) v=rdI o v+((bif l.1==v then x else 0) - (bif l.2.1==v then x else 0)):=by
 unfold gStep
 rw [rdI_set (by simpa using h2) (by simpa using hv),rdI_set h1 h2,rdI_set h1 hv,show (l.1==l.2.1)=false by simpa using hne,cF]
 by_cases e2:l.2.1=v
 ·subst e2
  rw [show (l.2.1==l.2.1)=true by simp,cT,cT,show (l.1==l.2.1)=false by simpa using hne,cF]
  omega
 ·rw [show (l.2.1==v)=false by simpa using e2,cF,cF]
  by_cases e1:l.1=v
  ·subst e1
   rw [show (l.1==l.1)=true by simp,cT,cT]
   omega
  ·rw [show (l.1==v)=false by simpa using e1,cF,cF]
   omega
theorem upto_map_rdI (o:List Int):(upto o.length).map (fun v=>rdI o v)=o:=by
 apply List.ext_getElem?
 intro i
 rw [List.getElem?_map]
 by_cases h:i<o.length
 ·rw [upto_get h,gE h,Option.map_some,rdI_some (gE h)]
 ·rw [List.getElem?_eq_none (by rw [upto_length];omega),List.getElem?_eq_none (by omega)]
  rfl
theorem f218.step (k n:Nat) {f:List Int} {gl:List Lk} {i:Nat} {o:List Int} {l:Lk} {x:Int} (hg:gl[i]? = some l) (hx:f[i]? = some x) (hi:i<4611686018427387904) (h1:0≤l.1∧l.1<(o.length:Int)) (h2:0≤l.2.1∧l.2.1<(o.length:Int)) (hne:l.1 ≠ l.2.1)
  (hb1:-maxRate≤rdI o l.1+x∧rdI o l.1+x≤maxRate) (hb2:-maxRate≤rdI o l.2.1 - x∧rdI o l.2.1 - x≤maxRate) :
  f218.l0 k (n+1) f gl (gl.length:Int) (i:Int) o=f218.l0 k n f gl (gl.length:Int) ((i+1:Nat):Int) (gStep o l x):=by
 have hM:maxRate=4611686018427387904:=rfl
 have e1:Go.IntKind.i64.wrap (rd (Ty.int Go.IntKind.i64) o ((l.1.toNat:Nat):Int)+x)=rdI o l.1+x:=by rw [rdI_eq,rdI_nat];exact wrap64 (by omega)
 have e2:Go.IntKind.i64.wrap (rd (Ty.int Go.IntKind.i64) (o.set l.1.toNat (rdI o l.1+x)) ((l.2.1.toNat:Nat):Int) - x)=rdI (o.set l.1.toNat (rdI o l.1+x)) l.2.1 - x:=by
  rw [rdI_eq,rdI_nat]
  rw [rdI_set h1 h2,show (l.1==l.2.1)=false by simpa using hne,cF]
  exact wrap64 (by omega)
 rw [f218.l0_eq,idx_lt' hg,idx_in hg,idx_in hx,rd_some (t:=tLk) hg,rd_some (t:=tI) hx,wrap_succ hi,cT,kT,kT]
 rw [e1]
 rw [e2]
 rw [List.length_set,show decide (0≤l.1∧l.1<(o.length:Int))=true from dT h1,show decide (0≤l.2.1∧l.2.1<(o.length:Int))=true from dT h2,kT,kT,kT,kT,kT]
 rfl
theorem f218.l0_is (k:Nat) (f:List Int) (gl:List Lk) (m:Nat) (hl:f.length=gl.length) (h16:gl.length≤16) (h0:∀ x∈f,0≤x)
  (hok:∀ (i:Nat) (l:Lk),gl[i]? = some l→(0≤l.1∧l.1<(m:Int))∧(0≤l.2.1∧l.2.1<(m:Int))∧l.1 ≠ l.2.1):∀ (n i:Nat) (o:List Int),i≤gl.length→gl.length<n+i→o.length=m →
  (∀ v,0≤v∧v<(m:Int)→-maxRate≤rdI o v - (f.drop i).sum∧rdI o v+(f.drop i).sum≤maxRate) →
  f218.l0 k n f gl (gl.length:Int) (i:Int) o=some (.own tI ((upto m).map fun v=>rdI o v+gainV (gl.drop i) (f.drop i) v))
 |0,i,o,h,h',_,_=>by omega
 |n+1,i,o,h,h',ho,hb=>by
  by_cases hlt:i<gl.length
  ·have hg:=gE hlt
   have hif:i<f.length:=by omega
   have hx:=gE hif
   obtain ⟨a1,a2,a3⟩:=hok i _ hg
   have hd:(f.drop i).sum=f[i]+(f.drop (i+1)).sum:=by rw [List.drop_eq_getElem_cons hif,List.sum_cons]
   have hp:0≤f[i]:=h0 _ (List.getElem_mem hif)
   have hs:0≤(f.drop (i+1)).sum:=sum_nonneg' _ fun y hy=>h0 y (List.mem_of_mem_drop hy)
   have b1:=hb _ a1
   have b2:=hb _ a2
   rw [f218.step k n hg hx (by omega) (by omega) (by omega) a3 (by omega) (by omega)]
   rw [f218.l0_is k f gl m hl h16 h0 hok n (i+1) _ (by omega) (by omega) (by rw [gStep_len];exact ho) (fun v hv=>by
    have b:=hb v hv
    rw [gStep_at (by omega) (by omega) (by omega) a3]
    cases e1:gl[i].1==v <;> cases e2:gl[i].2.1==v <;> simp only [cT,cF] <;> first|omega|exact absurd ((eq_of_beq e1).trans (eq_of_beq e2).symm) a3)]
   refine congrArg (fun z=>some (V.own tI z)) (List.map_congr_left fun v hv=>?_)
   have hv:=upto_mem.1 hv
   rw [gStep_at (by omega) (by omega) (by omega) a3,List.drop_eq_getElem_cons hlt,List.drop_eq_getElem_cons hif]
   exact Int.add_assoc _ _ _
  ·obtain rfl:i=gl.length:=by omega
   rw [f218.l0_eq,end_lt,cF,List.drop_length]
   refine congrArg (fun z=>some (V.own tI z)) ?_
   refine (upto_map_rdI o).symm.trans ?_
   rw [ho]
   exact List.map_congr_left fun v _=>by simp only [gainV];omega
noncomputable def S218:Summ:=summ [tG,tL] (List Int) (fun (d:Gr×List Int)=>chk (capsMay d.1 d.2) (some (gainsOf d.1 d.2))) (.own tI)
theorem ok218:SumOk Tryz.prog 218 S218 :=
 sumq f218.E (fn:=Tryz.f218) (code:=f218.code) f218.sums f218.inl fun (d:Gr×List Int) x hx=>by
  obtain ⟨hb,hx⟩:=chk_some hx
  obtain rfl:=oJ hx
  have hg:=caps_graph hb
  have hp:=graphMay_parts hg
  obtain ⟨hs,h0⟩:=caps_sum hb
  have hn:=sum_nonneg' _ h0
  refine ⟨17,(f218.eq _ d.1 d.2).trans ?_⟩
  rw [chk_eq (dT (by omega)),chk_eq (dT (by omega))]
  have hz:∀ v:Int,rdI (List.replicate d.1.1.toNat 0) v=0:=fun v=>by
   unfold rdI rd
   rw [List.getD_eq_getElem?_getD,List.getElem?_replicate]
   split <;> rfl
  refine (f218.l0_is _ d.2 d.1.2 d.1.1.toNat (capsMay_len hb) hp.2.2.1 h0 (fun i l hl=>?_) 17 0 (List.replicate d.1.1.toNat 0) (by omega) (by omega) (by simp) (fun v hv=>?_)).trans ?_
  ·have:=link_at hg hl
   omega
  ·rw [hz,List.drop_zero]
   omega
  ·refine congrArg (fun z=>some (V.own tI z)) (List.map_congr_left fun v _=>?_)
   rw [hz,List.drop_zero,List.drop_zero,Int.zero_add]
end
section
theorem rdI_get {f:List Int} {i:Int} (h:0≤i∧i<(f.length:Int)):f[i.toNat]? = some (rdI f i):=by
 have hl:i.toNat<f.length:=by omega
 rw [gE hl]
 have:=rdI_some (gE hl)
 rw [show ((i.toNat:Nat):Int)=i by omega] at this
 rw [this]
theorem arcL_lt {n:Nat} {a:Int} (h:arcIn n a=true):0≤arcL a∧arcL a<(n:Int):=oD (arcL_in h)
theorem mem_le_sum:∀ {xs:List Int},(∀ x∈xs,0≤x)→∀ {x:Int},x∈xs→x≤xs.sum
 |y::ys,h,x,hx=>by
  have h0:=sum_nonneg' ys fun z hz=>h z (by simp [hz])
  have hy:=h y (by simp)
  rw [List.sum_cons]
  rcases List.mem_cons.1 hx with rfl|hx
  ·omega
  ·have:=mem_le_sum (fun z hz=>h z (by simp [hz])) hx
   omega
theorem caps_le {g:Gr} {cs:List Int} (h:capsMay g cs=true) {c:Int} (hc:c∈cs):0≤c∧c≤maxRate:=by
 obtain ⟨h1,h2⟩:=caps_sum h
 have:=mem_le_sum h2 hc
 exact ⟨h2 c hc,by omega⟩
theorem within_at {f cs:List Int} (h:withinF f cs=true) {i:Int} (hi:0≤i∧i<(cs.length:Int)):0≤rdI f i∧rdI f i≤rdI cs i:=by
 have hl:=withinF_len h
 exact withinF_get h (rdI_get (by omega)) (rdI_get hi)
theorem room_rate {g:Gr} {cs f:List Int} (hc:capsMay g cs=true) (h:withinF f cs=true) {a:Int} (ha:arcIn cs.length a=true):rateB (roomA cs f a)=true:=by
 have hl:=arcL_lt ha
 have h1:=within_at h hl
 have h2:=caps_le hc (List.mem_of_getElem? (rdI_get hl))
 unfold roomA
 cases backB a with
 |true=>rw [cT];exact dT ⟨by omega,by omega⟩
 |false=>rw [cF];exact dT ⟨by omega,by omega⟩
theorem moveA_len (f:List Int) (b a:Int):(moveA f b a).length=f.length:=by simp [moveA]
theorem moveA_at {f:List Int} {b a i:Int} (ha:0≤arcL a∧arcL a<(f.length:Int)) (hi:0≤i∧i<(f.length:Int)) :
  rdI (moveA f b a) i=bif arcL a==i then rdI f (arcL a)+(bif backB a then -b else b) else rdI f i:=rdI_set ha hi
theorem withinF_by {f cs:List Int} (hl:f.length=cs.length) (h:∀ i:Int,0≤i∧i<(cs.length:Int)→0≤rdI f i∧rdI f i≤rdI cs i):withinF f cs=true :=
 withinF_of hl fun i x c hx hc=>by
  have:=h i ⟨by omega,by have:=idx_lt hc;omega⟩
  rw [rdI_some hx,rdI_some hc] at this
  exact this
theorem moveA_within {f cs:List Int} {b a:Int} (h:withinF f cs=true) (ha:arcIn cs.length a=true) (hb:0≤b) (hr:b≤roomA cs f a):withinF (moveA f b a) cs=true:=by
 have hl:=withinF_len h
 have hL:=arcL_lt ha
 refine withinF_by (by rw [moveA_len];exact hl) fun i hi=>?_
 rw [moveA_at (by omega) (by omega)]
 have h1:=within_at h hi
 by_cases he:arcL a=i
 ·subst he
  rw [show (arcL a==arcL a)=true by simp,cT]
  unfold roomA at hr
  cases hk:backB a with
  |true=>rw [hk,cT] at hr;rw [cT];omega
  |false=>rw [hk,cF] at hr;rw [cF];omega
 ·rw [show (arcL a==i)=false by simpa using he,cF]
  exact h1
theorem moveL_within {cs:List Int} {b:Int} (hb:0≤b):∀ {ws:List Int} {f o:List Int},withinF f cs=true→ws.all (arcIn cs.length)=true→moveL cs b f ws=some o→withinF o cs=true
 | [],f,o,h,_,hm=>by
  simp only [moveL,sI] at hm
  exact hm▸h
 |a::ws,f,o,h,hw,hm=>by
  simp only [moveL] at hm
  rw [List.all_cons,bA] at hw
  cases hd:decide (roomA cs f a<b) with
  |true=>rw [hd,cT] at hm;cases hm
  |false =>
   rw [hd,cF] at hm
   have hd:=of_decide_eq_false hd
   exact moveL_within hb (moveA_within h hw.1 hb (by omega)) hw.2 hm
theorem orderA_succ (gl:List Lk) (n:Nat):orderA gl (n+1)=orderA gl n++rowA gl n:=by
 unfold orderA
 rw [upto_succ,List.flatMap_append]
 simp
theorem rowA_len (gl:List Lk) (v:Int):(rowA gl v).length≤2*gl.length:=by
 unfold rowA
 refine Nat.le_trans (List.length_filter_le _ _) ?_
 rw [upto_length]
 exact Nat.le_refl _
theorem orderA_len (gl:List Lk):∀ n:Nat,(orderA gl n).length≤n*(2*gl.length)
 |0=>by simp [orderA,upto]
 |n+1=>by
  have:=orderA_len gl n
  have:=rowA_len gl n
  rw [orderA_succ,lA,Nat.add_mul]
  omega
end
section
set_option maxRecDepth 100000
noncomputable def f210.E (k:Nat):Env:=mkEnv tt [(120,S120),(239,S239),(240,S240)] [] [(210,11,[.nil1 4 0 1048581 qI,.nil1 4 1 1048645 qI,.nil1 4 2 1048709 qI,.kill (rg [(0,0),(3,3),(5,33),(36,62)]),.tidy]),(210,5,[.nil1 4 0 1048581 qI,.nil1 4 1 1048645 qI,.nil1 4 2 1048709 qI,.kill (rg [(0,0),(3,3),(5,15),(18,62)]),.tidy])] [] k
noncomputable def f210.code:Go.Code:=cd Tryz.f210
noncomputable def f210.l0 (k n:Nat) (p0:Int) (p1:Int) (p2:Int) (p3:List (eL)) (p4:List Int) (p5:List Int):Option V :=
 atPath (f210.E k) n ⟨(.u::(.ptr 262160 (0) (0))::(.ptr 524304 (0) (0))::.u::(.ptr 1048592 (0) (0))::.u::.u::.u::.u::.u::.u::.u::.u::.u::.u::.u::(.int .i64 p0)::(.int .i64 p1)::un 45),[],[(262160,.box [(.int .i64 p2),(.ro qL p3)]),(524304,.box [.nil,.nil,.nil]),(1048592,.box [(.slw 274882101296),(.slw 274882101360),(.slw 274882101424)]),(274882101296,.row qI p4),(274882101360,.row qI p4),(274882101424,.row qI p5)]⟩ 9 0 210 [.c 1,.c 1,.c 1,.c 0,.c 1,.c 0] [] f210.code (finK tt Tryz.f210)
noncomputable def f210.l1 (k n:Nat) (p0:Int) (p1:Int) (p2:List (eL)) (p3:List Int) (p4:List Int) (p5:List Int):Option V :=
 atPath (f210.E k) n ⟨(.u::(.ptr 262160 (0) (0))::(.ptr 524304 (0) (0))::.u::(.ptr 1048592 (0) (0))::.u::.u::.u::.u::.u::.u::.u::.u::.u::.u::.u::.u::.u::.u::.u::.u::.u::.u::.u::.u::.u::.u::.u::.u::.u::.u::.u::.u::.u::(.int .i64 p0)::(.int .i64 p1)::un 27),[],[(262160,.box [(.int .i64 p0),(.ro qL p2)]),(524304,.box [.nil,.nil,.nil]),(1048592,.box [(.slw 274882101296),(.slw 274882101360),(.slw 274882101424)]),(274882101296,.row qI p3),(274882101360,.row qI p4),(274882101424,.row qI p5)]⟩ 9 0 210 [.c 1,.c 1,.c 1,.c 1,.c 0,.c 1,.c 0] [] f210.code (finK tt Tryz.f210)
theorem f210.l0_eq (k n:Nat) (p0:Int) (p1:Int) (p2:Int) (p3:List (eL)) (p4:List Int) (p5:List Int):f210.l0 k (n+1) p0 p1 p2 p3 p4 p5 =
 bif decide (p1<p0) then ((chk (decide (p3.length≤16)&&arcIn p3.length p1) (some ((arcFrom p3 p1,arcTo p3 p1)))).bind (fun y0=>chk (decide ((p5++[y0.2]).length*8≤140737488355328)) (f210.l0 k n p0 (Go.IntKind.i64.wrap (p1+(1:Int))) p2 p3 p4 (p5++[y0.2])))) else (f210.l1 k k p2 0 p3 p4 p4 p5):=by kernel_rfl
theorem f210.l1_eq (k n:Nat) (p0:Int) (p1:Int) (p2:List (eL)) (p3:List Int) (p4:List Int) (p5:List Int):f210.l1 k (n+1) p0 p1 p2 p3 p4 p5 =
 bif decide (p1<p0) then (chk (decide ((p3++[(↑p4.length:Int)]).length*8≤140737488355328)) ((chk (decide (p2.length≤16)) (some (rowA p2 p1))).bind (fun y0=>chk (decide ((p4++y0).length*8≤140737488355328)) (f210.l1 k n p0 (Go.IntKind.i64.wrap (p1+(1:Int))) p2 (p3++[(↑p4.length:Int)]) (p4++y0) p5)))) else (chk (decide ((p3++[(↑p4.length:Int)]).length*8≤140737488355328)) (some (.tup [(.agg [(.own qI (p3++[(↑p4.length:Int)])),(.own qI p4),(.own qI p5)]),(.int .i64 0)]))):=by kernel_rfl
theorem f210.eq (k:Nat) (x0:Int×List (eL)):evFn (f210.E k) 9 210 Tryz.f210 (encL [(.pair qI (.list qL))] x0) =
 bif !graphMay x0 then (some (.tup [(.agg [(.own qI ([])),(.own qI ([])),(.own qI ([]))]),(.int .i64 500)])) else (f210.l0 k k (Go.IntKind.i64.wrap ((2:Int)*(↑(x0.2.length):Int))) 0 x0.1 x0.2 ([]) ([])):=by kernel_rfl
theorem f210.inl (k:Nat):InlOk Tryz.prog (f210.E k):=inl_nil
theorem f210.sums (k:Nat):SumsOk Tryz.prog (f210.E k):=(sums_cons ok120 (sums_cons ok239 (sums_cons ok240 sums_nil)))
noncomputable def f179.E (k:Nat):Env:=mkEnv tt [(121,S121),(215,S215),(218,S218)] [] [(179,4,[.kill (rg [(0,2),(5,36),(40,65)]),.tidy])] [] k
noncomputable def f179.code:Go.Code:=cd Tryz.f179
noncomputable def f179.l0 (k n:Nat) (p0:Int) (p1:Int) (p2:Int) (p3:Int) (p4:List Int):Option V :=
 atPath (f179.E k) n ⟨(.u::.u::.u::(.int .i64 p0)::(.int .i64 p1)::.u::.u::.u::.u::.u::.u::.u::.u::.u::.u::.u::.u::.u::.u::.u::.u::.u::.u::.u::.u::.u::.u::.u::.u::.u::.u::.u::.u::.u::.u::.u::.u::(.slw 9699344)::(.int .i64 p2)::(.int .i64 p3)::un 26),[],[(9699344,.row qI p4)]⟩ 9 0 179 [.c 1,.c 1,.c 0,.c 1,.c 0] [] f179.code (finK tt Tryz.f179)
theorem f179.l0_eq (k n:Nat) (p0:Int) (p1:Int) (p2:Int) (p3:Int) (p4:List Int):f179.l0 k (n+1) p0 p1 p2 p3 p4 =
 bif decide (p3<p2) then (chk (decide ((0:Int)≤p3∧p3<(↑p4.length:Int))) (bif p3==p0 then (bif decide (rd qI p4 (↑p3.toNat:Int)<(0:Int)) then (some (.bool false)) else (bif p3 != p0 then (bif p3 != p1 then (bif rd qI p4 (↑p3.toNat:Int) != (0:Int) then (some (.bool false)) else (f179.l0 k n p0 p1 p2 (Go.IntKind.i64.wrap (p3+(1:Int))) p4)) else (f179.l0 k n p0 p1 p2 (Go.IntKind.i64.wrap (p3+(1:Int))) p4)) else (f179.l0 k n p0 p1 p2 (Go.IntKind.i64.wrap (p3+(1:Int))) p4))) else (bif p3 != p0 then (bif p3 != p1 then (bif rd qI p4 (↑p3.toNat:Int) != (0:Int) then (some (.bool false)) else (f179.l0 k n p0 p1 p2 (Go.IntKind.i64.wrap (p3+(1:Int))) p4)) else (f179.l0 k n p0 p1 p2 (Go.IntKind.i64.wrap (p3+(1:Int))) p4)) else (f179.l0 k n p0 p1 p2 (Go.IntKind.i64.wrap (p3+(1:Int))) p4)))) else (some (.bool true)):=by kernel_rfl
theorem f179.eq (k:Nat) (x0:Int×List (eL)) (x1:List Int) (x2:List Int) (x3:Int) (x4:Int):evFn (f179.E k) 9 179 Tryz.f179 (encL [(.pair qI (.list qL)),(.list qI),(.list qI),qI,qI] (x0,x1,x2,x3,x4)) =
 bif !liesB x0 x1 x2 then (some (.bool false)) else (bif !hasV x0.1 x3 then (some (.bool false)) else (bif !hasV x0.1 x4 then (some (.bool false)) else (bif x3==x4 then (some (.bool false)) else ((chk (capsMay x0 x2) (some (gainsOf x0 x2))).bind (fun y0=>f179.l0 k k x3 x4 ((↑y0.length:Int)) 0 y0))))):=by kernel_rfl
theorem f179.inl (k:Nat):InlOk Tryz.prog (f179.E k):=inl_nil
theorem f179.sums (k:Nat):SumsOk Tryz.prog (f179.E k):=(sums_cons ok121 (sums_cons ok215 (sums_cons ok218 sums_nil)))
noncomputable def f214.E (k:Nat):Env:=mkEnv tt [(78,S78),(122,S122),(215,S215),(217,S217)] [(242,Tryz.f242)] [(214,11,[.kill (rg [(0,0),(2,2),(4,13),(15,49),(53,67)]),.tidy]),(214,4,[.kill (rg [(0,0),(5,31),(35,67)]),.tidy])] [] k
noncomputable def f214.code:Go.Code:=cd Tryz.f214
noncomputable def f214.l0 (k n:Nat) (p0:List Int) (p1:List Int) (p2:Int) (p3:List Int) (p4:Int) (p5:Int):Option V :=
 atPath (f214.E k) n ⟨(.u::(.ro qI p0)::(.ro qI p1)::(.int .i64 p2)::(.ro qI p3)::.u::.u::.u::.u::.u::.u::.u::.u::.u::.u::.u::.u::.u::.u::.u::.u::.u::.u::.u::.u::.u::.u::.u::.u::.u::.u::.u::(.ro qI p3)::(.int .i64 p4)::(.int .i64 p5)::un 33),[],[]⟩ 9 0 214 [.c 1,.c 1,.c 0,.c 1,.c 0] [] f214.code (finK tt Tryz.f214)
noncomputable def f214.l1 (k n:Nat) (p0:List Int) (p1:Int) (p2:List Int) (p3:Int) (p4:Int) (p5:List Int):Option V :=
 atPath (f214.E k) n ⟨(.u::(.ro qI p0)::.u::(.int .i64 p1)::.u::.u::.u::.u::.u::.u::.u::.u::.u::.u::(.slw 3670032)::.u::.u::.u::.u::.u::.u::.u::.u::.u::.u::.u::.u::.u::.u::.u::.u::.u::.u::.u::.u::.u::.u::.u::.u::.u::.u::.u::.u::.u::.u::.u::.u::.u::.u::.u::(.ro qI p2)::(.int .i64 p3)::(.int .i64 p4)::un 15),[],[(3670032,.row qI p5)]⟩ 9 0 214 [.c 1,.c 1,.c 1,.c 1,.c 0,.c 1,.c 0] [] f214.code (finK tt Tryz.f214)
theorem f214.l0_eq (k n:Nat) (p0:List Int) (p1:List Int) (p2:Int) (p3:List Int) (p4:Int) (p5:Int):f214.l0 k (n+1) p0 p1 p2 p3 p4 p5 =
 bif decide (p5<p4) then (chk (decide ((0:Int)≤p5∧p5<(↑p3.length:Int))) (bif decide (rd qI p3 p5<(0:Int)) then (some (.tup [(.own qI ([])),(.int .i64 900)])) else (bif decide (rd qI p3 p5 ≥ Go.IntKind.i64.wrap ((2:Int)*(↑p1.length:Int))) then (some (.tup [(.own qI ([])),(.int .i64 900)])) else (f214.l0 k n p0 p1 p2 p3 p4 (Go.IntKind.i64.wrap (p5+(1:Int))))))) else ((chk (decide (p1.length*8≤140737488355328)) (some p1)).bind (fun y0=>f214.l1 k k p0 p2 p3 ((↑p3.length:Int)) 0 y0)):=by kernel_rfl
theorem f214.l1_eq (k n:Nat) (p0:List Int) (p1:Int) (p2:List Int) (p3:Int) (p4:Int) (p5:List Int):f214.l1 k (n+1) p0 p1 p2 p3 p4 p5 =
 bif decide (p4<p3) then (chk (decide ((0:Int)≤p4∧p4<(↑p2.length:Int))) ((chk (decide (p0.length≤16∧p5.length=p0.length)&&(arcIn p0.length (rd qI p2 p4)&&rateB (roomA p0 p5 (rd qI p2 p4)))) (some (roomA p0 p5 (rd qI p2 p4)))).bind (fun y0=>bif decide (y0<p1) then (some (.tup [(.own qI ([])),(.int .i64 901)])) else (bif Int.tmod (rd qI p2 p4) (2:Int)==(1:Int) then (chk (decide ((0:Int)≤Go.IntKind.i64.wrap (Int.tdiv (rd qI p2 p4) (2:Int))∧Go.IntKind.i64.wrap (Int.tdiv (rd qI p2 p4) (2:Int))<(↑p5.length:Int))) (chk (decide ((0:Int)≤Go.IntKind.i64.wrap (Int.tdiv (rd qI p2 p4) (2:Int))∧Go.IntKind.i64.wrap (Int.tdiv (rd qI p2 p4) (2:Int))<(↑p5.length:Int))) (f214.l1 k n p0 p1 p2 p3 (Go.IntKind.i64.wrap (p4+(1:Int))) (p5.set (Go.IntKind.i64.wrap (Int.tdiv (rd qI p2 p4) (2:Int))).toNat (Go.IntKind.i64.wrap (rd qI p5 (↑(Go.IntKind.i64.wrap (Int.tdiv (rd qI p2 p4) (2:Int))).toNat:Int)+Go.IntKind.i64.wrap ((0:Int) - p1))))))) else (chk (decide ((0:Int)≤Go.IntKind.i64.wrap (Int.tdiv (rd qI p2 p4) (2:Int))∧Go.IntKind.i64.wrap (Int.tdiv (rd qI p2 p4) (2:Int))<(↑p5.length:Int))) (chk (decide ((0:Int)≤Go.IntKind.i64.wrap (Int.tdiv (rd qI p2 p4) (2:Int))∧Go.IntKind.i64.wrap (Int.tdiv (rd qI p2 p4) (2:Int))<(↑p5.length:Int))) (f214.l1 k n p0 p1 p2 p3 (Go.IntKind.i64.wrap (p4+(1:Int))) (p5.set (Go.IntKind.i64.wrap (Int.tdiv (rd qI p2 p4) (2:Int))).toNat (Go.IntKind.i64.wrap (rd qI p5 (↑(Go.IntKind.i64.wrap (Int.tdiv (rd qI p2 p4) (2:Int))).toNat:Int)+p1)))))))))) else (some (.tup [(.own qI p5),(.int .i64 0)])):=by kernel_rfl
theorem f214.eq (k:Nat) (x0:Int×List (eL)) (x1:List Int) (x2:List Int) (x3:Int) (x4:List Int):evFn (f214.E k) 9 214 Tryz.f214 (encL [(.pair qI (.list qL)),(.list qI),(.list qI),qI,(.list qI)] (x0,x1,x2,x3,x4)) =
 bif !liesB x0 x1 x2 then (some (.tup [(.own qI ([])),(.int .i64 900)])) else (bif !rateB x3 then (some (.tup [(.own qI ([])),(.int .i64 900)])) else (bif decide ((↑x4.length:Int)>(64:Int)) then (some (.tup [(.own qI ([])),(.int .i64 900)])) else (f214.l0 k k x1 x2 x3 x4 ((↑x4.length:Int)) 0))):=by kernel_rfl
theorem f214.inl (k:Nat):InlOk Tryz.prog (f214.E k):=(inl_cons (by kernel_rfl) (by kernel_rfl) inl_nil)
theorem f214.sums (k:Nat):SumsOk Tryz.prog (f214.E k):=(sums_cons ok78 (sums_cons ok122 (sums_cons ok215 (sums_cons ok217 sums_nil))))
end
section
theorem any_not {α:Type} (p:α→Bool):∀ l:List α,(l.any fun a=>!p a)=!l.all p
 | []=>rfl
 |y::z=>by rw [List.any_cons,List.all_cons,any_not p z,Bool.not_and]
@[reducible] def resArcs (x:List Int×(List Int×List Int)):V:=.tup [.agg [.own tI x.1,.own tI x.2.1,.own tI x.2.2],.int .i64 0]
noncomputable def S210:Summ:=summ [tG] (List Int×(List Int×List Int)) (fun (g:Gr)=>chk (graphMay g) (some (startsA g.2 g.1.toNat,(orderA g.2 g.1.toNat,headsA g.2)))) resArcs
theorem startsA_front (gl:List Lk) (n:Nat):startsA gl n=(List.range n).map (fun v=>((orderA gl v).length:Int))++[((orderA gl n).length:Int)]:=by
 unfold startsA
 rw [List.range_succ,List.map_append]
 rfl
theorem f210.l1_is (k:Nat) (gl:List Lk) (hs:List Int) (m:Nat) (hm:m≤8) (hl:gl.length≤16):∀ (n i:Nat),i≤m→m<n+i →
  f210.l1 k n (m:Int) (i:Int) gl ((List.range i).map fun v=>((orderA gl v).length:Int)) (orderA gl i) hs=some (resArcs (startsA gl m,(orderA gl m,hs)))
 |0,i,h,h'=>by omega
 |n+1,i,h,h'=>by
  have h1:=orderA_len gl i
  have h2:i*(2*gl.length)≤8*32:=Nat.mul_le_mul (by omega) (by omega)
  have h3:=rowA_len gl i
  have e:(List.range (i+1)).map (fun v=>((orderA gl v).length:Int))=(List.range i).map (fun v=>((orderA gl v).length:Int))++[((orderA gl i).length:Int)]:=by
   rw [List.range_succ,List.map_append]
   rfl
  rw [f210.l1_eq]
  by_cases hlt:i<m
  ·rw [show decide ((i:Int)<(m:Int))=true from dT (by omega),cT,chk_eq (dT (by rw [lA,List.length_map,List.length_range,List.length_singleton];omega)),dT hl,kT,bS,
    chk_eq (dT (by rw [lA];omega)),wrap_succ (by omega),← e,← orderA_succ]
   exact f210.l1_is k gl hs m hm hl n (i+1) (by omega) (by omega)
  ·obtain rfl:i=m:=by omega
   rw [show decide ((i:Int)<(i:Int))=false from dF (by omega),cF,chk_eq (dT (by rw [lA,List.length_map,List.length_range,List.length_singleton];omega)),← startsA_front]
theorem f210.l0_is (k:Nat) (gl:List Lk) (m:Int) (hl:gl.length≤16) (R0:Option V) (hR:f210.l1 k k m 0 gl [] [] (headsA gl)=R0):∀ (n i:Nat),i≤2*gl.length→2*gl.length<n+i →
  f210.l0 k n ((2*gl.length:Nat):Int) (i:Int) m gl [] (((upto (2*gl.length)).take i).map (arcTo gl))=R0
 |0,i,h,h'=>by omega
 |n+1,i,h,h'=>by
  rw [f210.l0_eq]
  by_cases hlt:i<2*gl.length
  ·have hu:i<(upto (2*gl.length)).length:=by rw [upto_length];exact hlt
   have hg:(upto (2*gl.length))[i]=(i:Int):=(List.getElem?_eq_some_iff.1 (upto_get hlt)).2
   rw [show decide ((i:Int)<((2*gl.length:Nat):Int))=true from dT (by omega),cT,dT hl,tA,
    show arcIn gl.length (i:Int)=true from dT (by omega),kT,bS,wrap_succ (by omega),chk_eq (dT (by
     rw [lA,List.length_map,List.length_take,upto_length,List.length_singleton]
     omega))]
   have:=f210.l0_is k gl m hl R0 hR n (i+1) (by omega) (by omega)
   rw [List.take_succ_eq_append_getElem hu,hg,List.map_append] at this
   exact this
  ·obtain rfl:i=2*gl.length:=by omega
   rw [show decide (((2*gl.length:Nat):Int)<((2*gl.length:Nat):Int))=false from dF (by omega),cF,List.take_of_length_le (by rw [upto_length];omega)]
   exact hR
theorem ok210:SumOk Tryz.prog 210 S210 :=
 sumq f210.E (fn:=Tryz.f210) (code:=f210.code) f210.sums f210.inl fun (g:Gr) x hx=>by
  obtain ⟨hb,hx⟩:=chk_some hx
  obtain rfl:=oJ hx
  have hp:=graphMay_parts hb
  refine ⟨33,(f210.eq _ g).trans ?_⟩
  rw [hb,nT,cF,wrap64 (by omega),show (2:Int)*(g.2.length:Int)=((2*g.2.length:Nat):Int) by omega]
  refine f210.l0_is 33 g.2 g.1 hp.2.2.1 _ ?_ 33 0 (by omega) (by omega)
  have:=f210.l1_is 33 g.2 (headsA g.2) g.1.toNat (by omega) hp.2.2.1 33 0 (by omega) (by omega)
  rw [show ((g.1.toNat:Nat):Int)=g.1 by omega] at this
  exact this
noncomputable def S179:Summ:=summ [tG,tL,tL,tI,tI] Bool (fun (d:Gr×(List Int×(List Int×(Int×Int))))=>some (mayF d.1 d.2.1 d.2.2.1 d.2.2.2.1 d.2.2.2.2)) .bool
theorem f179.l0_is (k:Nat) (g:Gr) (f:List Int) (src dst:Int) (hg:2≤g.1∧g.1≤8):f179.l0 (k+9) (k+9) src dst ((gainsOf g f).length:Int) 0 (gainsOf g f)=some (.bool ((upto g.1.toNat).all (stillB g f src dst))):=by
 have hlen:(gainsOf g f).length=(upto g.1.toNat).length:=by simp [gainsOf]
 refine (loop_any0 (fun n i=>f179.l0 (k+9) n src dst ((gainsOf g f).length:Int) (i:Nat) (gainsOf g f)) (upto g.1.toNat) (fun v=>!stillB g f src dst v) (some (.bool false)) (some (.bool true)) (fun n i v hv=>by
  have hi:=idx_lt hv
  have hi':=hi
  rw [upto_length] at hi'
  obtain rfl:(i:Int)=v:=oJ ((upto_get hi').symm.trans hv)
  have hx:(gainsOf g f)[i]? = some (gainV g.2 f i):=by simp only [gainsOf];rw [List.getElem?_map,hv];rfl
  rw [f179.l0_eq,hlen,show decide ((i:Int)<((upto g.1.toNat).length:Int))=true from dT (by omega),cT,show ((i:Int).toNat:Int)=(i:Int) by omega,idx_in hv,kT,rd_some (t:=tI) hx,wrap_succ (by omega)]
  unfold stillB
  simp only [bne]
  by_cases h1:(i:Int)=src
  ·subst h1
   rw [show ((i:Int)==(i:Int))=true by simp,cT,tA,nT,cF,fA,Bool.or_false,Bool.not_not]
  ·rw [show ((i:Int)==src)=false by simpa using h1,cF,fA,Bool.false_or,nF,cT,tA]
   by_cases h2:(i:Int)=dst
   ·rw [show ((i:Int)==dst)=true by simpa using h2,nT,cF,fA,Bool.not_not,cF]
   ·rw [show ((i:Int)==dst)=false by simpa using h2,nF,cT,tA,Bool.not_not]) (fun n=>by
  rw [f179.l0_eq,hlen,end_lt,cF]) (n:=k+9) (by rw [upto_length];omega)).trans ?_
 have:=any_not (stillB g f src dst) (upto g.1.toNat)
 rw [this]
 cases (upto g.1.toNat).all (stillB g f src dst) <;> rfl
theorem ok179:SumOk Tryz.prog 179 S179 :=
 sumq f179.E (fn:=Tryz.f179) (code:=f179.code) f179.sums f179.inl fun (d:Gr×(List Int×(List Int×(Int×Int)))) x hx=>by
  obtain rfl:=oJ hx
  refine ⟨9,(f179.eq _ d.1 d.2.1 d.2.2.1 d.2.2.2.1 d.2.2.2.2).trans ?_⟩
  unfold mayF
  cases h1:liesB d.1 d.2.1 d.2.2.1 with
  |false=>rw [nF,cT,fA]
  |true =>
   rw [nT,cF,tA]
   cases h2:hasV d.1.1 d.2.2.2.1 with
   |false=>rw [nF,cT,fA]
   |true =>
    rw [nT,cF,tA]
    cases h3:hasV d.1.1 d.2.2.2.2 with
    |false=>rw [nF,cT,fA]
    |true =>
     rw [nT,cF,tA]
     cases h4:d.2.2.2.1==d.2.2.2.2 with
     |true=>rw [cT,nT,fA]
     |false =>
      have hc:=lies_caps h1
      have hp:=graphMay_parts (caps_graph hc)
      rw [cF,nF,tA,hc,kT,bS]
      exact f179.l0_is 0 d.1 d.2.2.1 _ _ ⟨hp.1,hp.2.1⟩
noncomputable def S214:Summ:=summ [tG,tL,tL,tI,tL] (List Int×Int) (fun (d:Gr×(List Int×(List Int×(Int×List Int))))=>some (moveOf d.1 d.2.1 d.2.2.1 d.2.2.2.1 d.2.2.2.2)) resLE
def moveRes (r:Option (List Int)):Option V:=match r with
 |some o=>some (resLE (o,0))
 |none=>some (resLE ([],901))
theorem f214.l1_is (k:Nat) {g:Gr} {cs:List Int} (hc:capsMay g cs=true) (b:Int) (hb:rateB b=true) (ws:List Int) (hw:ws.all (arcIn cs.length)=true) (h64:ws.length≤64):∀ (n i:Nat) (o:List Int),i≤ws.length→ws.length<n+i→withinF o cs=true →
  f214.l1 k n cs b ws (ws.length:Int) (i:Int) o=moveRes (moveL cs b o (ws.drop i))
 |0,i,o,h,h',_=>by omega
 |n+1,i,o,h,h',ho=>by
  have hb':=oD hb
  by_cases hlt:i<ws.length
  ·have hx:=gE hlt
   have ha:arcIn cs.length ws[i]=true:=List.all_eq_true.1 hw _ (List.getElem_mem hlt)
   have ha':=oD ha
   have hl:=withinF_len ho
   have h16:cs.length≤16:=by rw [capsMay_len hc];exact (graphMay_parts (caps_graph hc)).2.2.1
   have hr:=room_rate hc ho ha
   have hr':=oD hr
   have hL:=arcL_lt ha
   have hin:decide ((0:Int)≤arcL ws[i]∧arcL ws[i]<(o.length:Int))=true:=dT (by omega)
   have hM:maxRate=4611686018427387904:=rfl
   have hv:=within_at ho hL
   have hcl:=caps_le hc (List.mem_of_getElem? (rdI_get hL))
   rw [f214.l1_eq,idx_lt' hx,idx_in hx,cT,kT,rd_some (t:=tI) hx,show decide (cs.length≤16∧o.length=cs.length)=true from dT ⟨h16,hl⟩,tA,ha,tA,hr,kT,bS,
    wrap_succ (by omega),List.drop_eq_getElem_cons hlt]
   simp only [moveL]
   cases hd:decide (roomA cs o ws[i]<b) with
   |true=>rw [cT,cT];rfl
   |false =>
    have hd':=of_decide_eq_false hd
    rw [cF,cF,arc_tdiv (by omega),arc_tmod (by omega),chk_eq hin,chk_eq hin,chk_eq hin,chk_eq hin]
    have hmw:=moveA_within ho ha hb'.1 (b:=b) (by omega)
    unfold roomA at hd'
    have hm:(bif backB ws[i] then o.set (arcL ws[i]).toNat (Go.IntKind.i64.wrap (rd (Ty.int Go.IntKind.i64) o ((arcL ws[i]).toNat:Int)+Go.IntKind.i64.wrap (0 - b))) else o.set (arcL ws[i]).toNat (Go.IntKind.i64.wrap (rd (Ty.int Go.IntKind.i64) o ((arcL ws[i]).toNat:Int)+b)))=moveA o b ws[i]:=by
     unfold moveA
     cases hk:backB ws[i] with
     |true =>
      rw [hk,cT] at hd'
      rw [cT,cT,rdI_eq,rdI_nat,wrap64 (n:=0 - b) (by omega),wrap64 (by omega),show (0:Int) - b=-b by omega]
     |false =>
      rw [hk,cF] at hd'
      rw [cF,cF,rdI_eq,rdI_nat,wrap64 (by omega)]
    have ih:=f214.l1_is k hc b hb ws hw h64 n (i+1) (moveA o b ws[i]) (by omega) (by omega) hmw
    rw [← ih,← hm]
    cases backB ws[i] with
    |true=>rw [cT,cT]
    |false=>rw [cF,cF]
  ·obtain rfl:i=ws.length:=by omega
   rw [f214.l1_eq,end_lt,cF,List.drop_length]
   rfl
theorem f214.l0_is (k:Nat) {g:Gr} {cs f:List Int} (hc:capsMay g cs=true) (b:Int) (hb:rateB b=true) (hf:withinF f cs=true) (ws:List Int) (h64:ws.length≤64) :
  f214.l0 (k+65) (k+65) cs f b ws (ws.length:Int) 0=bif ws.any (fun a=>!arcIn cs.length a) then some (resLE ([],900)) else f214.l1 (k+65) (k+65) cs b ws (ws.length:Int) 0 f:=by
 have hl:=withinF_len hf
 have h16:cs.length≤16:=by rw [capsMay_len hc];exact (graphMay_parts (caps_graph hc)).2.2.1
 refine loop_any0 (fun n i=>f214.l0 (k+65) n cs f b ws (ws.length:Int) (i:Nat)) ws (fun a=>!arcIn cs.length a) (some (resLE ([],900))) _ (fun n i x hx=>?_) (fun n=>?_) (by omega)
 ·have:=idx_lt hx
  rw [f214.l0_eq,idx_lt' hx,idx_in hx,rd_some (t:=tI) hx,wrap_succ (by omega),cT,kT,wrap64 (n:=2*(f.length:Int)) (by omega)]
  unfold arcIn
  by_cases h1:x<0
  ·rw [show decide (x<0)=true from dT h1,cT,show decide (0≤x∧x<2*(cs.length:Int))=false from dF (by omega),nF,cT]
  ·by_cases h2:x ≥ 2*(f.length:Int)
   ·rw [show decide (x<0)=false from dF h1,cF,show decide (x ≥ 2*(f.length:Int))=true from dT h2,cT,show decide (0≤x∧x<2*(cs.length:Int))=false from dF (by omega),nF,cT]
   ·rw [show decide (x<0)=false from dF h1,cF,show decide (x ≥ 2*(f.length:Int))=false from dF h2,cF,show decide (0≤x∧x<2*(cs.length:Int))=true from dT (by omega),nT,cF]
 ·rw [f214.l0_eq,end_lt,cF,chk_eq (dT (by omega)),bS]
theorem ok214:SumOk Tryz.prog 214 S214 :=
 sumq f214.E (fn:=Tryz.f214) (code:=f214.code) f214.sums f214.inl fun (d:Gr×(List Int×(List Int×(Int×List Int)))) x hx=>by
  obtain ⟨g,cs,f,b,ws⟩:=d
  obtain rfl:=oJ hx
  refine ⟨65,(f214.eq _ g cs f b ws).trans ?_⟩
  show _=some (resLE (moveOf g cs f b ws))
  unfold moveOf moveForm
  cases h1:liesB g cs f with
  |false=>rw [nF,cT,fA,cF]
  |true =>
   rw [nT,cF,tA]
   cases h2:rateB b with
   |false=>rw [nF,cT,fA,cF]
   |true =>
    rw [nT,cF,tA]
    by_cases h3:ws.length≤64
    ·have h1':=h1
     simp only [liesB,bA] at h1'
     have e:=any_not (arcIn cs.length) ws
     rw [show decide ((ws.length:Int)>64)=false from dF (by omega),cF,dT h3,tA,withinF_len h1'.2,f214.l0_is 0 h1'.1 b h2 h1'.2 ws h3,e]
     cases h4:ws.all (arcIn cs.length) with
     |false=>rw [nF,cT,cF]
     |true =>
      rw [nT,cF,cT]
      refine (f214.l1_is _ h1'.1 b h2 ws h4 h3 _ 0 f (by omega) (by omega) h1'.2).trans ?_
      rw [List.drop_zero]
      cases moveL cs b f ws <;> rfl
    ·rw [show decide ((ws.length:Int)>64)=true from dT (by omega),cT,dF h3,fA,cF]
end
section
def scanS (gl:List Lk) (cs f:List Int) (v:Int) (s:List Int×List Int) (a:Int):List Int×List Int :=
 bif decide (rdI s.1 (arcTo gl a)<0)&&decide (roomA cs f a>0) then (s.1.set (arcTo gl a).toNat (rdI s.1 v+1),s.2++[arcTo gl a]) else s
def bfs (gl:List Lk) (cs f:List Int):Nat→List Int→List Int→List Int
 |0,o,_=>o
 |_+1,o,[]=>o
 |n+1,o,v::q=>bfs gl cs f n ((rowA gl v).foldl (scanS gl cs f v) (o,q)).1 ((rowA gl v).foldl (scanS gl cs f v) (o,q)).2
def negs (o:List Int):Nat:=o.countP fun x=>decide (x<0)
def levels0 (m:Nat) (src:Int):List Int:=(List.replicate m (-1)).set src.toNat 0
def levelsOf (g:Gr) (cs f:List Int) (src:Int):List Int:=bfs g.2 cs f 9 (levels0 g.1.toNat src) [src]
structure Lv (m:Nat) (o:List Int):Prop where
 len:o.length=m
 lo:∀ i:Int,0≤i∧i<(m:Int)→-1≤rdI o i∧rdI o i+(negs o:Int)+1≤(m:Int)
theorem countP_set_neg:∀ {o:List Int} {i:Nat} {x y:Int},o[i]? = some x→x<0→0≤y→negs (o.set i y)+1=negs o
 |z::o,0,x,y,h,hx,hy=>by
  simp only [List.getElem?_cons_zero,sI] at h
  subst h
  simp [negs,hx,Int.not_lt.2 hy]
 |z::o,i+1,x,y,h,hx,hy=>by
  have ih:=countP_set_neg (o:=o) (i:=i) (by simpa using h) hx hy
  simp only [negs,List.set_cons_succ,List.countP_cons] at ih ⊢
  omega
 | [],_,_,_,h,_,_=>by simp at h
theorem Lv.step {m:Nat} {o:List Int} (h:Lv m o) {v w:Int} (hv:0≤v∧v<(m:Int)) (hw:0≤w∧w<(m:Int)) (h0:0≤rdI o v) (hn:rdI o w<0) :
  Lv m (o.set w.toNat (rdI o v+1))∧negs (o.set w.toNat (rdI o v+1))+1=negs o:=by
 have hl:=h.len
 have hc:=countP_set_neg (rdI_get (f:=o) (i:=w) (by omega)) hn (by omega:0≤rdI o v+1)
 refine ⟨⟨by simpa using h.len,fun i hi=>?_⟩,hc⟩
 rw [rdI_set (by omega) (by omega)]
 have h1:=h.lo i hi
 have h2:=h.lo v hv
 cases hd:w==i with
 |true=>rw [cT];omega
 |false=>rw [cF];omega
theorem fold_inv {α β:Type} (f:β→α→β) (I:List α→β→Prop):∀ (l:List α) (s:β),(∀ a t s,I (a::t) s→I t (f s a))→I l s→I [] (l.foldl f s)
 | [],s,_,h=>h
 |a::l,s,hs,h=>fold_inv f I l (f s a) hs (hs a l s h)
theorem arcTo_in {g:Gr} (hg:graphMay g=true) {a:Int} (ha:arcIn g.2.length a=true):0≤arcTo g.2 a∧arcTo g.2 a<g.1:=by
 have hL:=arcL_lt ha
 have hi:(arcL a).toNat<g.2.length:=by omega
 have hx:=gE hi
 have:=link_at hg hx
 have e:lk g.2 (arcL a)=g.2[(arcL a).toNat]:=by
  have:=rd_some (t:=tLk) hx
  rw [show (((arcL a).toNat:Nat):Int)=arcL a by omega] at this
  exact this
 unfold arcTo
 rw [e]
 cases backB a with
 |true=>rw [cT];exact this.1
 |false=>rw [cF];exact this.2.1
theorem rowA_mem {gl:List Lk} {v a:Int}:a∈rowA gl v↔arcIn gl.length a=true∧arcFrom gl a=v:=by
 unfold rowA
 rw [List.mem_filter,upto_mem]
 constructor
 ·rintro ⟨h1,h2⟩
  exact ⟨dT (by omega),eq_of_beq h2⟩
 ·rintro ⟨h1,h2⟩
  have:=oD h1
  exact ⟨by omega,by rw [h2];simp⟩
structure Bf (g:Gr) (cs f:List Int) (src:Int) (o q:List Int):Prop where
 lv:Lv g.1.toNat o
 src0:rdI o src=0
 qIn:∀ v∈q,(0≤v∧v<g.1)∧0≤rdI o v
 back:∀ w,0≤w∧w<g.1→0≤rdI o w→w ≠ src→∃ v a,(0≤v∧v<g.1)∧a∈rowA g.2 v∧arcTo g.2 a=w∧roomA cs f a>0∧0≤rdI o v∧rdI o w=rdI o v+1
structure Bs (g:Gr) (cs f:List Int) (src v:Int) (t:List Int) (s:List Int×List Int):Prop where
 b:Bf g cs f src s.1 s.2
 vIn:(0≤v∧v<g.1)∧0≤rdI s.1 v
 sub:∀ a∈t,a∈rowA g.2 v
 done:∀ a∈rowA g.2 v,a ∉ t→roomA cs f a>0→0≤rdI s.1 (arcTo g.2 a)
 old:∀ u,0≤u∧u<g.1→0≤rdI s.1 u→u ∉ s.2→u ≠ v→∀ a∈rowA g.2 u,roomA cs f a>0→0≤rdI s.1 (arcTo g.2 a)
theorem Bs.step {g:Gr} (hg:graphMay g=true) {cs f:List Int} {src v a:Int} {t:List Int} {s:List Int×List Int} (hsrc:0≤src∧src<g.1) (h:Bs g cs f src v (a::t) s):Bs g cs f src v t (scanS g.2 cs f v s a):=by
 obtain ⟨o,q⟩:=s
 have ha:=h.sub a (by simp)
 have hto:=arcTo_in hg (rowA_mem.1 ha).1
 have hl:o.length=g.1.toNat:=h.b.lv.len
 unfold scanS
 cases hd:decide (rdI o (arcTo g.2 a)<0)&&decide (roomA cs f a>0) with
 |false =>
  rw [cF]
  refine ⟨h.b,h.vIn,fun b hb=>h.sub b (by simp [hb]),fun b hb hn hr=>?_,h.old⟩
  by_cases hba:b=a
  ·subst hba
   by_cases hx:rdI o (arcTo g.2 b)<0
   ·rw [dT hx,dT hr] at hd
    cases hd
   ·exact Int.not_lt.1 hx
  ·exact h.done b hb (by simp [hba,hn]) hr
 |true =>
  rw [cT]
  rw [bA] at hd
  have hn:=oD hd.1
  have hr:=oD hd.2
  have hv0:0≤rdI o v:=h.vIn.2
  obtain ⟨h1,h2⟩:=h.b.lv.step (v:=v) (w:=arcTo g.2 a) (by have:=h.vIn.1;omega) (by omega) hv0 hn
  have at_:∀ i,0≤i∧i<g.1→rdI (o.set (arcTo g.2 a).toNat (rdI o v+1)) i=bif arcTo g.2 a==i then rdI o v+1 else rdI o i:=fun i hi=>rdI_set (by omega) (by omega)
  have keep:∀ i,0≤i∧i<g.1→0≤rdI o i→rdI (o.set (arcTo g.2 a).toNat (rdI o v+1)) i=rdI o i:=fun i hi h0=>by
   rw [at_ i hi,show (arcTo g.2 a==i)=false from beq_eq_false_iff_ne.2 (fun e=>by rw [e] at hn;omega),cF]
  have new:rdI (o.set (arcTo g.2 a).toNat (rdI o v+1)) (arcTo g.2 a)=rdI o v+1:=by
   rw [at_ _ hto,show (arcTo g.2 a==arcTo g.2 a)=true by simp,cT]
  have mono:∀ i,0≤i∧i<g.1→0≤rdI o i→0≤rdI (o.set (arcTo g.2 a).toNat (rdI o v+1)) i:=fun i hi h0=>by rw [keep i hi h0];exact h0
  have was:∀ i,0≤i∧i<g.1→0≤rdI (o.set (arcTo g.2 a).toNat (rdI o v+1)) i→i ≠ arcTo g.2 a→0≤rdI o i:=fun i hi h0 hne=>by
   rw [at_ i hi,show (arcTo g.2 a==i)=false from beq_eq_false_iff_ne.2 (Ne.symm hne),cF] at h0
   exact h0
  refine ⟨⟨h1,?_,fun u hu=>?_,fun w hw h0 hws=>?_⟩,⟨h.vIn.1,mono _ h.vIn.1 hv0⟩,fun b hb=>h.sub b (by simp [hb]),fun b hb hnb hrb=>?_,fun u hu h0 hq hne b hb hrb=>?_⟩
  ·rw [keep _ hsrc (by rw [h.b.src0];exact Int.le_refl _)]
   exact h.b.src0
  ·rcases List.mem_append.1 hu with hu|hu
   ·obtain ⟨u1,u2⟩:=h.b.qIn u hu
    exact ⟨u1,mono _ u1 u2⟩
   ·obtain rfl:u=arcTo g.2 a:=by simpa using hu
    exact ⟨hto,by dsimp only;rw [new];omega⟩
  ·by_cases he:w=arcTo g.2 a
   ·subst he
    refine ⟨v,a,h.vIn.1,ha,rfl,hr,mono _ h.vIn.1 hv0,?_⟩
    dsimp only
    rw [new,keep _ h.vIn.1 hv0]
   ·have hw0:=was w hw h0 he
    obtain ⟨u,b,u1,u2,u3,u4,u5,u6⟩:=h.b.back w hw hw0 hws
    exact ⟨u,b,u1,u2,u3,u4,mono _ u1 u5,by dsimp only;rw [keep _ hw hw0,keep _ u1 u5];exact u6⟩
  ·have hbt:=arcTo_in hg (rowA_mem.1 hb).1
   by_cases hba:b=a
   ·subst hba
    dsimp only
    rw [new]
    omega
   ·exact mono _ hbt (h.done b hb (by simp [hba,hnb]) hrb)
  ·have hbt:=arcTo_in hg (rowA_mem.1 hb).1
   by_cases hua:u=arcTo g.2 a
   ·exact absurd (List.mem_append.2 (.inr (by simp [hua]))) hq
   ·exact mono _ hbt (h.old u hu (was u hu h0 hua) (fun hm=>hq (List.mem_append.2 (.inl hm))) hne b hb hrb)
theorem scan_count {g:Gr} (hg:graphMay g=true) {cs f:List Int} {src v:Int} (hsrc:0≤src∧src<g.1) {l:List Int} {s:List Int×List Int} (h:Bs g cs f src v l s) :
  negs (l.foldl (scanS g.2 cs f v) s).1+(l.foldl (scanS g.2 cs f v) s).2.length=negs s.1+s.2.length:=by
 induction l generalizing s with
 |nil=>rfl
 |cons a l ih =>
  rw [List.foldl_cons,ih (h.step hg hsrc)]
  obtain ⟨o,q⟩:=s
  unfold scanS
  cases hd:decide (rdI o (arcTo g.2 a)<0)&&decide (roomA cs f a>0) with
  |false=>rw [cF]
  |true =>
   rw [cT]
   rw [bA] at hd
   have ha:=h.sub a (by simp)
   have hto:=arcTo_in hg (rowA_mem.1 ha).1
   obtain ⟨_,h2⟩:=h.b.lv.step (v:=v) (w:=arcTo g.2 a) (by have:=h.vIn.1;omega) (by omega) h.vIn.2 (oD hd.1)
   simp only [lA,List.length_singleton] at h2 ⊢
   omega
structure LevelsOk (g:Gr) (cs f:List Int) (src:Int) (o:List Int):Prop where
 lv:Lv g.1.toNat o
 src0:rdI o src=0
 back:∀ w,0≤w∧w<g.1→0≤rdI o w→w ≠ src→∃ v a,(0≤v∧v<g.1)∧a∈rowA g.2 v∧arcTo g.2 a=w∧roomA cs f a>0∧0≤rdI o v∧rdI o w=rdI o v+1
 on:∀ u,0≤u∧u<g.1→0≤rdI o u→∀ a∈rowA g.2 u,roomA cs f a>0→0≤rdI o (arcTo g.2 a)
theorem Bs.start {g:Gr} {cs f:List Int} {src v:Int} {o q:List Int} (h:Bf g cs f src o (v::q))
  (hold:∀ u,0≤u∧u<g.1→0≤rdI o u→u ∉ v::q→∀ a∈rowA g.2 u,roomA cs f a>0→0≤rdI o (arcTo g.2 a)):Bs g cs f src v (rowA g.2 v) (o,q) :=
 ⟨⟨h.lv,h.src0,fun u hu=>h.qIn u (by simp [hu]),h.back⟩,h.qIn v (by simp),fun a ha=>ha,fun a ha hn=>absurd ha hn,fun u hu h0 hq hne=>hold u hu h0 (by simp [hne];exact hq)⟩
theorem bfs_ok {g:Gr} (hg:graphMay g=true) {cs f:List Int} {src:Int} (hsrc:0≤src∧src<g.1):∀ (n:Nat) (o q:List Int),Bf g cs f src o q →
  (∀ u,0≤u∧u<g.1→0≤rdI o u→u ∉ q→∀ a∈rowA g.2 u,roomA cs f a>0→0≤rdI o (arcTo g.2 a))→negs o+q.length<n→LevelsOk g cs f src (bfs g.2 cs f n o q)
 |0,o,q,_,_,h=>by omega
 |n+1,o,[],hb,hold,h=>⟨hb.lv,hb.src0,hb.back,fun u hu h0=>hold u hu h0 (by simp)⟩
 |n+1,o,v::q,hb,hold,h=>by
  have hs:=Bs.start hb hold
  have hc:=scan_count hg hsrc hs
  have he:=fold_inv (scanS g.2 cs f v) (Bs g cs f src v) (rowA g.2 v) (o,q) (fun a t s hst=>hst.step hg hsrc) hs
  simp only [bfs]
  refine bfs_ok hg hsrc n _ _ he.b (fun u hu h0 hq a ha hr=>?_) (by simp only [List.length_cons] at h;dsimp only at hc;omega)
  by_cases huv:u=v
  ·subst huv
   exact he.done a ha (by simp) hr
  ·exact he.old u hu h0 hq huv a ha hr
theorem negs_replicate (m:Nat):negs (List.replicate m (-1))=m:=by simp [negs,List.countP_replicate]
theorem rdI_replicate {m:Nat} {x i:Int} (h:0≤i∧i<(m:Int)):rdI (List.replicate m x) i=x:=by
 have:=rdI_get (f:=List.replicate m x) (i:=i) (by simpa using h)
 rw [List.getElem?_replicate,if_pos (by omega)] at this
 exact (oJ this).symm
theorem levels0_ok {g:Gr} {cs f:List Int} {src:Int} (hsrc:0≤src∧src<g.1):Bf g cs f src (levels0 g.1.toNat src) [src]∧negs (levels0 g.1.toNat src)+1=g.1.toNat:=by
 have at_:∀ i,0≤i∧i<g.1→rdI (levels0 g.1.toNat src) i=bif src==i then 0 else -1:=fun i hi=>by
  unfold levels0
  rw [rdI_set (by simp;omega) (by simp;omega),rdI_replicate (by omega)]
 have hc:negs (levels0 g.1.toNat src)+1=g.1.toNat:=by
  have:=countP_set_neg (o:=List.replicate g.1.toNat (-1)) (i:=src.toNat) (x:=-1) (y:=0) (by rw [List.getElem?_replicate,if_pos (by omega)]) (by omega) (by omega)
  rw [negs_replicate] at this
  exact this
 refine ⟨⟨⟨by simp [levels0],fun i hi=>?_⟩,?_,fun v hv=>?_,fun w hw h0 hne=>?_⟩,hc⟩
 ·rw [at_ i (by omega)]
  cases src==i <;> simp only [cT,cF] <;> omega
 ·rw [at_ _ hsrc,show (src==src)=true by simp,cT]
 ·obtain rfl:v=src:=by simpa using hv
  exact ⟨hsrc,by rw [at_ _ hsrc,show (v==v)=true by simp,cT];exact Int.le_refl _⟩
 ·rw [at_ w hw,show (src==w)=false from beq_eq_false_iff_ne.2 (Ne.symm hne),cF] at h0
  omega
theorem levels_ok {g:Gr} (hg:graphMay g=true) {cs f:List Int} {src:Int} (hsrc:0≤src∧src<g.1):LevelsOk g cs f src (levelsOf g cs f src):=by
 obtain ⟨h1,h2⟩:=levels0_ok (g:=g) (cs:=cs) (f:=f) hsrc
 have hp:=graphMay_parts hg
 refine bfs_ok hg hsrc 9 _ _ h1 (fun u hu h0 hq=>?_) (by simp only [List.length_singleton];omega)
 have hne:src ≠ u:=fun e=>hq (by simp [e])
 have:rdI (levels0 g.1.toNat src) u=-1:=by
  unfold levels0
  rw [rdI_set (by simp;omega) (by simp;omega),rdI_replicate (by omega),show (src==u)=false from beq_eq_false_iff_ne.2 hne,cF]
 omega
end
section
set_option maxRecDepth 100000
noncomputable def f178.E (k:Nat):Env:=mkEnv tt [(121,S121),(210,S210),(215,S215),(216,S216),(217,S217)] [] [(178,11,[.kill (rg [(0,0),(3,9),(11,11),(15,67),(71,104)]),.tidy]),(178,7,[.kill (rg [(0,0),(3,9),(11,11),(14,104)]),.reb 1,.reb 2,.reb 10,.reb 12,.reb 13,.tidy])] [] k
noncomputable def f178.code:Go.Code:=cd Tryz.f178
noncomputable def f178.l0 (k n:Nat) (p0:List Int) (p1:List Int) (p2:List Int) (p3:List Int) (p4:List Int) (p5:List Int) (p6:List Int):Option V :=
 atPath (f178.E k) n ⟨(.u::(.ro qI p0)::(.ro qI p1)::.u::.u::.u::.u::.u::.u::.u::(.ptr 2621456 (0) (0))::.u::(.slw 3145744)::(.slw 3407888)::un 91),[],[(2621456,.box [(.slw 687198961712),(.slw 687198961776),(.slw 687198961840)]),(3145744,.row qI p2),(3407888,.row qI p3),(687198961712,.row qI p4),(687198961776,.row qI p5),(687198961840,.row qI p6)]⟩ 9 0 178 [.c 1,.c 1,.c 1,.c 1,.c 1,.c 0,.c 1,.c 0] [] f178.code (finK tt Tryz.f178)
noncomputable def f178.l1 (k n m0:Nat) (p0:List Int) (p1:List Int) (p2:Int) (p3:Nat) (p4:Nat) (p5:Int) (p6:Int) (p7:List Int) (p8:List Int) (p9:List Int) (p10:List Int) (p11:List Int):Option V :=
 atPath (f178.E k) n ⟨(.u::(.ro qI p0)::(.ro qI p1)::.u::.u::.u::.u::.u::.u::.u::(.ptr 2621456 (0) (0))::.u::(.slw 3145744)::(.slw 3407888)::(.int .i64 p2)::.u::.u::.u::.u::.u::.u::.u::.u::.u::.u::.u::.u::.u::.u::.u::.u::.u::.u::.u::.u::.u::.u::.u::.u::.u::.u::.u::.u::.u::.u::.u::.u::.u::.u::.u::.u::.u::.u::.u::.u::.u::.u::.u::.u::.u::.u::.u::.u::.u::.u::.u::.u::.u::(.sl 687198961776 p3 p4)::(.int .i64 p5)::(.int .i64 p6)::un 34),[],[(2621456,.box [(.slw 687198961712),(.slw 687198961776),(.slw 687198961840)]),(3145744,.row qI p7),(3407888,.row qI p8),(687198961712,.row qI p9),(687198961776,.row qI p10),(687198961840,.row qI p11)]⟩ 9 0 178 [.c 1,.c 1,.c 1,.c 1,.c 1,.c 0,.c 1,.c 0,.c 0,.c 1,.c 0,.c 0,.c 1,.c 1,.c 0] [m0] f178.code (finK tt Tryz.f178)
theorem f178.l0_eq (k n:Nat) (p0:List Int) (p1:List Int) (p2:List Int) (p3:List Int) (p4:List Int) (p5:List Int) (p6:List Int):f178.l0 k (n+1) p0 p1 p2 p3 p4 p5 p6 =
 bif decide ((↑p3.length:Int)>(0:Int)) then (chk (decide ((0:Int)≤(0:Int)∧(0:Int)<(↑p3.length:Int))) (chk (decide ((0:Int)≤rd qI p3 (↑(0:Nat):Int)∧rd qI p3 (↑(0:Nat):Int)<(↑p4.length:Int))) (chk (decide ((0:Int)≤Go.IntKind.i64.wrap (rd qI p3 (↑(0:Nat):Int)+(1:Int))∧Go.IntKind.i64.wrap (rd qI p3 (↑(0:Nat):Int)+(1:Int))<(↑p4.length:Int))) (chk (decide ((0:Int)≤rd qI p4 (↑(Int.toNat (rd qI p3 (↑(0:Nat):Int))):Int)∧rd qI p4 (↑(Int.toNat (rd qI p3 (↑(0:Nat):Int))):Int)≤rd qI p4 (↑(Go.IntKind.i64.wrap (rd qI p3 (↑(0:Nat):Int)+(1:Int))).toNat:Int))) (chk (decide (rd qI p4 (↑(Go.IntKind.i64.wrap (rd qI p3 (↑(0:Nat):Int)+(1:Int))).toNat:Int)≤(↑p5.length:Int))) (f178.l1 k k n p0 p1 (rd qI p3 (↑(0:Nat):Int)) (Int.toNat (rd qI p4 (↑(Int.toNat (rd qI p3 (↑(0:Nat):Int))):Int))) (Int.toNat (rd qI p4 (↑(Go.IntKind.i64.wrap (rd qI p3 (↑(0:Nat):Int)+(1:Int))).toNat:Int)) - Int.toNat (rd qI p4 (↑(Int.toNat (rd qI p3 (↑(0:Nat):Int))):Int))) ((↑(Int.toNat (rd qI p4 (↑(Go.IntKind.i64.wrap (rd qI p3 (↑(0:Nat):Int)+(1:Int))).toNat:Int)) - Int.toNat (rd qI p4 (↑(Int.toNat (rd qI p3 (↑(0:Nat):Int))):Int))):Int)) 0 p2 p3 p4 p5 p6)))))) else (some (.tup [(.own qI p2),(.int .i64 0)])):=by kernel_rfl
theorem f178.l1_eq (k n m0:Nat) (p0:List Int) (p1:List Int) (p2:Int) (p3:Nat) (p4:Nat) (p5:Int) (p6:Int) (p7:List Int) (p8:List Int) (p9:List Int) (p10:List Int) (p11:List Int):f178.l1 k (n+1) m0 p0 p1 p2 p3 p4 p5 p6 p7 p8 p9 p10 p11 =
 bif decide (p6<p5) then (chk (decide ((0:Int)≤p6∧p6<(↑p4:Int))) (chk (decide ((0:Int)≤rd qI p10 (↑(p3+p6.toNat):Int)∧rd qI p10 (↑(p3+p6.toNat):Int)<(↑p11.length:Int))) (chk (decide ((0:Int)≤rd qI p11 (↑(Int.toNat (rd qI p10 (↑(p3+p6.toNat):Int))):Int)∧rd qI p11 (↑(Int.toNat (rd qI p10 (↑(p3+p6.toNat):Int))):Int)<(↑p7.length:Int))) (bif decide (rd qI p7 (↑(Int.toNat (rd qI p11 (↑(Int.toNat (rd qI p10 (↑(p3+p6.toNat):Int))):Int))):Int)<(0:Int)) then ((chk (decide (p0.length≤16∧p1.length=p0.length)&&(arcIn p0.length (rd qI p10 (↑(p3+p6.toNat):Int))&&rateB (roomA p0 p1 (rd qI p10 (↑(p3+p6.toNat):Int))))) (some (roomA p0 p1 (rd qI p10 (↑(p3+p6.toNat):Int))))).bind (fun y0=>bif decide (y0>(0:Int)) then (chk (decide ((0:Int)≤p2∧p2<(↑p7.length:Int))) (chk (decide ((0:Int)≤rd qI p11 (↑(Int.toNat (rd qI p10 (↑(p3+p6.toNat):Int))):Int)∧rd qI p11 (↑(Int.toNat (rd qI p10 (↑(p3+p6.toNat):Int))):Int)<(↑p7.length:Int))) (chk (decide ((p8++[rd qI p11 (↑(Int.toNat (rd qI p10 (↑(p3+p6.toNat):Int))):Int)]).length*8≤140737488355328)) (f178.l1 k n m0 p0 p1 p2 p3 p4 p5 (Go.IntKind.i64.wrap (p6+(1:Int))) (p7.set (Int.toNat (rd qI p11 (↑(Int.toNat (rd qI p10 (↑(p3+p6.toNat):Int))):Int))) (Go.IntKind.i64.wrap (rd qI p7 (↑p2.toNat:Int)+(1:Int)))) (p8++[rd qI p11 (↑(Int.toNat (rd qI p10 (↑(p3+p6.toNat):Int))):Int)]) p9 p10 p11)))) else (f178.l1 k n m0 p0 p1 p2 p3 p4 p5 (Go.IntKind.i64.wrap (p6+(1:Int))) p7 p8 p9 p10 p11))) else (f178.l1 k n m0 p0 p1 p2 p3 p4 p5 (Go.IntKind.i64.wrap (p6+(1:Int))) p7 p8 p9 p10 p11))))) else (chk (decide ((0:Int)≤(1:Int)∧(1:Int)≤(↑p8.length:Int))) (chk (decide ((↑p8.length:Int)≤(↑p8.length:Int))) (f178.l0 k m0 p0 p1 p7 (List.take ((↑p8.length:Int).toNat - 1) (List.drop 1 p8)) p9 p10 p11))):=by kernel_rfl
theorem f178.eq (k:Nat) (x0:Int×List (eL)) (x1:List Int) (x2:List Int) (x3:Int):evFn (f178.E k) 9 178 Tryz.f178 (encL [(.pair qI (.list qL)),(.list qI),(.list qI),qI] (x0,x1,x2,x3)) =
 (chk (graphMay x0) (some ((startsA x0.2 (Int.toNat x0.1),orderA x0.2 (Int.toNat x0.1),headsA x0.2)))).bind (fun y0=>bif !liesB x0 x1 x2 then (some (.tup [(.own qI ([])),(.int .i64 1000)])) else (bif !hasV x0.1 x3 then (some (.tup [(.own qI ([])),(.int .i64 1000)])) else ((chk ([(-1:Int)]==[(-1:Int)]&&decide ((1:Int)≤x0.1∧x0.1≤(8:Int))) (some (List.replicate (Int.toNat x0.1) (-1:Int)))).bind (fun y1=>chk (decide ((0:Int)≤x3∧x3<(↑y1.length:Int))) (f178.l0 k k x1 x2 (y1.set x3.toNat (0:Int)) ([x3]) y0.1 y0.2.1 y0.2.2))))):=by kernel_rfl
theorem f178.inl (k:Nat):InlOk Tryz.prog (f178.E k):=inl_nil
theorem f178.sums (k:Nat):SumsOk Tryz.prog (f178.E k):=(sums_cons ok121 (sums_cons ok210 (sums_cons ok215 (sums_cons ok216 (sums_cons ok217 sums_nil)))))
end
section
theorem orderA_front (gl:List Lk) {n m:Nat} (h:n≤m):∃ t,orderA gl m=orderA gl n++t:=by
 induction m with
 |zero =>
      obtain rfl:n=0:=by omega
      exact ⟨[],by simp⟩
 |succ m ih =>
  by_cases he:n=m+1
  ·subst he;exact ⟨[],by simp⟩
  ·obtain ⟨t,ht⟩:=ih (by omega)
   exact ⟨t++rowA gl m,by rw [orderA_succ,ht,List.append_assoc]⟩
theorem startsA_get (gl:List Lk) {n i:Nat} (h:i≤n):(startsA gl n)[i]? = some ((orderA gl i).length:Int):=by
 unfold startsA
 rw [List.getElem?_map,List.getElem?_range (by omega)]
 rfl
theorem startsA_len (gl:List Lk) (n:Nat):(startsA gl n).length=n+1:=by simp [startsA]
theorem orderA_get (gl:List Lk) {m v j:Nat} {a:Int} (hv:v<m) (h:(rowA gl v)[j]? = some a):(orderA gl m)[(orderA gl v).length+j]? = some a:=by
 obtain ⟨t,ht⟩:=orderA_front gl (n:=v+1) (m:=m) (by omega)
 have:=idx_lt h
 rw [ht,orderA_succ,List.append_assoc,List.getElem?_append_right (by omega),List.getElem?_append_left (by omega)]
 rw [show (orderA gl v).length+j - (orderA gl v).length=j by omega]
 exact h
theorem headsA_get {gl:List Lk} {a:Int} (h:arcIn gl.length a=true):(headsA gl)[a.toNat]? = some (arcTo gl a):=by
 have h:=oD h
 unfold headsA
 rw [List.getElem?_map,upto_get (by omega),show ((a.toNat:Nat):Int)=a by omega]
 rfl
theorem headsA_len (gl:List Lk):(headsA gl).length=2*gl.length:=by simp [headsA,upto_length]
theorem f178.l1_is (k m0:Nat) {g:Gr} (hg:graphMay g=true) {cs f:List Int} (hc:capsMay g cs=true) (hf:withinF f cs=true) {src:Int} (hsrc:0≤src∧src<g.1) (v:Nat) (hv:(v:Int)<g.1) (u:Int) :
  ∀ (n j:Nat) (o q:List Int),j≤(rowA g.2 v).length→(rowA g.2 v).length<n+j→q.length≤300+j→Bs g cs f src v ((rowA g.2 v).drop j) (o,q) →
   f178.l1 k n m0 cs f (v:Int) (orderA g.2 v).length (rowA g.2 v).length ((rowA g.2 v).length:Int) (j:Int) o (u::q) (startsA g.2 g.1.toNat) (orderA g.2 g.1.toNat) (headsA g.2) =
   f178.l0 k m0 cs f (((rowA g.2 v).drop j).foldl (scanS g.2 cs f v) (o,q)).1 (((rowA g.2 v).drop j).foldl (scanS g.2 cs f v) (o,q)).2 (startsA g.2 g.1.toNat) (orderA g.2 g.1.toNat) (headsA g.2)
 |0,j,o,q,h,h',_,_=>by omega
 |n+1,j,o,q,h,h',hq,hb=>by
  have hp:=graphMay_parts hg
  have hcl:=capsMay_len hc
  have hrl:=rowA_len g.2 v
  have hol:o.length=g.1.toNat:=hb.b.lv.len
  by_cases hlt:j<(rowA g.2 v).length
  ·have hx:=gE hlt
   have ha:=rowA_mem.1 (List.getElem_mem hlt)
   have ho:=orderA_get g.2 (m:=g.1.toNat) (by omega) hx
   have hd:=List.drop_eq_getElem_cons hlt
   generalize (rowA g.2 v)[j]=a at hx ha ho hd
   have ha1:0≤a∧a<2*(g.2.length:Int):=oD ha.1
   have hh:=headsA_get ha.1
   have hto:=arcTo_in hg ha.1
   rw [hd] at hb
   have hs:=hb.step hg hsrc
   have hx1:rd (Ty.int Go.IntKind.i64) (orderA g.2 g.1.toNat) (((orderA g.2 v).length+(j:Int).toNat:Nat):Int)=a:=by
    rw [show (orderA g.2 v).length+(j:Int).toNat=(orderA g.2 v).length+j by omega]
    exact rd_some (t:=tI) ho
   have hx2:rd (Ty.int Go.IntKind.i64) (headsA g.2) ((a.toNat:Nat):Int)=arcTo g.2 a:=rd_some (t:=tI) hh
   have hx3:rd (Ty.int Go.IntKind.i64) o (((arcTo g.2 a).toNat:Nat):Int)=rdI o (arcTo g.2 a):=rdI_nat _ _
   have hx4:rd (Ty.int Go.IntKind.i64) o (((v:Int).toNat:Nat):Int)=rdI o v:=rdI_nat _ _
   have hlv:=hb.b.lv.lo v (by omega)
   have hlv:-1≤rdI o v∧rdI o v+(negs o:Int)+1≤(g.1.toNat:Int):=hlv
   have hf16:f.length=cs.length:=withinF_len hf
   have hr:=room_rate hc hf (by rw [hcl];exact ha.1)
   rw [f178.l1_eq,show decide ((j:Int)<((rowA g.2 v).length:Int))=true from dT (by omega),cT,
    show decide ((0:Int)≤(j:Int)∧(j:Int)<((rowA g.2 v).length:Int))=true from dT (by omega),kT,hx1,hx2,hx3,hx4,
    show decide ((0:Int)≤a∧a<((headsA g.2).length:Int))=true from dT (by rw [headsA_len];omega),kT,
    show decide ((0:Int)≤arcTo g.2 a∧arcTo g.2 a<(o.length:Int))=true from dT (by omega),kT,kT,
    show decide (cs.length≤16∧f.length=cs.length)=true from dT ⟨by omega,hf16⟩,tA,show arcIn cs.length a=true by rw [hcl];exact ha.1,tA,hr,kT,bS,
    show decide ((0:Int)≤(v:Int)∧(v:Int)<(o.length:Int))=true from dT (by omega),kT,wrap_succ (by omega),wrap64 (n:=rdI o v+1) (by omega),hd,List.foldl_cons,
    lA,List.length_singleton,show decide (((u::q).length+1)*8≤140737488355328)=true from dT (by rw [List.length_cons];omega),kT,List.cons_append]
   have ih1:=f178.l1_is k m0 hg hc hf hsrc v hv u n (j+1)
   have hdd:(rowA g.2 v).drop (j+1)=(rowA g.2 v).drop (j+1):=rfl
   unfold scanS at hs ⊢
   simp only at hs ⊢
   cases h1:decide (rdI o (arcTo g.2 a)<0) with
   |false =>
    rw [h1,fA,cF] at hs
    rw [cF,fA,cF]
    exact ih1 o q (by omega) (by omega) (by omega) hs
   |true =>
    cases h2:decide (roomA cs f a>0) with
    |false =>
     rw [h1,h2,Bool.and_false,cF] at hs
     rw [cT,cF,Bool.and_false,cF]
     exact ih1 o q (by omega) (by omega) (by omega) hs
    |true =>
     rw [h1,h2,Bool.and_true,cT] at hs
     rw [cT,cT,Bool.and_true,cT]
     exact ih1 _ _ (by omega) (by omega) (by rw [lA,List.length_singleton];omega) hs
  ·obtain rfl:j=(rowA g.2 v).length:=by omega
   rw [f178.l1_eq,show decide (((rowA g.2 v).length:Int)<((rowA g.2 v).length:Int))=false from dF (by omega),cF,List.drop_length,
    show decide ((0:Int)≤(1:Int)∧(1:Int)≤((u::q).length:Int))=true from dT (by rw [List.length_cons];omega),kT,
    show decide (((u::q).length:Int)≤((u::q).length:Int))=true from dT (by omega),kT,List.foldl_nil]
   have:List.take ((↑(u::q).length:Int).toNat - (1:Nat)) (List.drop (1:Nat) (u::q))=q:=by simp
   rw [this]
theorem f178.l0_is (k:Nat) {g:Gr} (hg:graphMay g=true) {cs f:List Int} (hc:capsMay g cs=true) (hf:withinF f cs=true) {src:Int} (hsrc:0≤src∧src<g.1) (hk:33≤k):∀ (n:Nat) (o q:List Int),n≤k→Bf g cs f src o q →
  (∀ u,0≤u∧u<g.1→0≤rdI o u→u ∉ q→∀ a∈rowA g.2 u,roomA cs f a>0→0≤rdI o (arcTo g.2 a))→negs o+q.length<n→negs o+q.length≤8 →
  f178.l0 k n cs f o q (startsA g.2 g.1.toNat) (orderA g.2 g.1.toNat) (headsA g.2)=some (resLE (bfs g.2 cs f n o q,0))
 |0,o,q,_,_,_,h,_=>by omega
 |n+1,o,[],_,hb,hold,h,_=>by
  rw [f178.l0_eq,show decide ((([]:List Int).length:Int)>0)=false from dF (by simp),cF]
  rfl
 |n+1,o,v::q,hn,hb,hold,h,h8=>by
  have hp:=graphMay_parts hg
  have hs:=Bs.start hb hold
  have hcnt:negs ((rowA g.2 v).foldl (scanS g.2 cs f v) (o,q)).1+((rowA g.2 v).foldl (scanS g.2 cs f v) (o,q)).2.length=negs o+q.length:=scan_count hg hsrc hs
  have he:=fold_inv (scanS g.2 cs f v) (Bs g cs f src v) (rowA g.2 v) (o,q) (fun a t s hst=>hst.step hg hsrc) hs
  obtain ⟨hv1,hv2⟩:=hb.qIn v (by simp)
  have hrl:=rowA_len g.2 v
  have e0:rd (Ty.int Go.IntKind.i64) (v::q) ((0:Nat):Int)=v:=rfl
  have hvn:((v.toNat:Nat):Int)=v:=by omega
  have s1:rd (Ty.int Go.IntKind.i64) (startsA g.2 g.1.toNat) ((v.toNat:Nat):Int)=((orderA g.2 v.toNat).length:Int):=rd_some (t:=tI) (startsA_get g.2 (by omega))
  have s2:rd (Ty.int Go.IntKind.i64) (startsA g.2 g.1.toNat) (((v+1).toNat:Nat):Int)=((orderA g.2 (v.toNat+1)).length:Int):=by
   rw [show (v+1).toNat=v.toNat+1 by omega]
   exact rd_some (t:=tI) (startsA_get g.2 (by omega))
  have s3:(orderA g.2 (v.toNat+1)).length=(orderA g.2 v.toNat).length+(rowA g.2 v).length:=by rw [orderA_succ,lA,hvn]
  have s4:(orderA g.2 (v.toNat+1)).length≤(orderA g.2 g.1.toNat).length:=by
   obtain ⟨t,ht⟩:=orderA_front g.2 (n:=v.toNat+1) (m:=g.1.toNat) (by omega)
   rw [ht,lA]
   omega
  have c1:(0:Int)≤((orderA g.2 v.toNat).length:Int)∧((orderA g.2 v.toNat).length:Int)≤(((orderA g.2 v.toNat).length+(rowA g.2 v).length:Nat):Int):=by omega
  have c2:(((orderA g.2 v.toNat).length+(rowA g.2 v).length:Nat):Int)≤((orderA g.2 g.1.toNat).length:Int):=by omega
  rw [f178.l0_eq,show decide (((v::q).length:Int)>0)=true from dT (by rw [List.length_cons];omega),cT,e0,wrap64 (n:=v+1) (by omega),s1,s2,s3,Int.toNat_natCast,Int.toNat_natCast,
   show decide ((0:Int)≤(0:Int)∧(0:Int)<((v::q).length:Int))=true from dT (by rw [List.length_cons];omega),kT,
   show decide ((0:Int)≤v∧v<((startsA g.2 g.1.toNat).length:Int))=true from dT (by rw [startsA_len];omega),kT,
   show decide ((0:Int)≤v+1∧v+1<((startsA g.2 g.1.toNat).length:Int))=true from dT (by rw [startsA_len];omega),kT,
   chk_eq (dT c1),chk_eq (dT c2),show (orderA g.2 v.toNat).length+(rowA g.2 v).length - (orderA g.2 v.toNat).length=(rowA g.2 v).length by omega]
  have:=f178.l1_is k n hg hc hf hsrc v.toNat (by omega) v k 0 o q (by omega) (by rw [hvn];omega) (by simp only [List.length_cons] at h8;omega) (by rw [hvn];exact hs)
  rw [hvn] at this
  refine this.trans ?_
  rw [List.drop_zero]
  simp only [bfs]
  simp only [List.length_cons] at h h8
  refine f178.l0_is k hg hc hf hsrc hk n _ _ (by omega) he.b (fun u hu h0 hq a ha hr=>?_) (by omega) (by omega)
  by_cases huv:u=v
  ·subst huv
   exact he.done a ha (by simp) hr
  ·exact he.old u hu h0 hq huv a ha hr
theorem bfs_more {g:Gr} (hg:graphMay g=true) {cs f:List Int} {src:Int} (hsrc:0≤src∧src<g.1):∀ (n m:Nat) (o q:List Int),Bf g cs f src o q →
  (∀ u,0≤u∧u<g.1→0≤rdI o u→u ∉ q→∀ a∈rowA g.2 u,roomA cs f a>0→0≤rdI o (arcTo g.2 a))→negs o+q.length<n→n≤m→bfs g.2 cs f m o q=bfs g.2 cs f n o q
 |0,m,o,q,_,_,h,_=>by omega
 |n+1,0,o,q,_,_,h,h'=>by omega
 |n+1,m+1,o,[],hb,hold,h,_=>rfl
 |n+1,m+1,o,v::q,hb,hold,h,h'=>by
  have hs:=Bs.start hb hold
  have hc:=scan_count hg hsrc hs
  have he:=fold_inv (scanS g.2 cs f v) (Bs g cs f src v) (rowA g.2 v) (o,q) (fun a t s hst=>hst.step hg hsrc) hs
  simp only [bfs]
  refine bfs_more hg hsrc n m _ _ he.b (fun u hu h0 hq a ha hr=>?_) (by simp only [List.length_cons] at h;dsimp only at hc;omega) (by omega)
  by_cases huv:u=v
  ·subst huv
   exact he.done a ha (by simp) hr
  ·exact he.old u hu h0 hq huv a ha hr
def levelsRes (g:Gr) (cs f:List Int) (src:Int):List Int×Int:=bif liesB g cs f&&hasV g.1 src then (levelsOf g cs f src,0) else ([],1000)
noncomputable def S178:Summ:=summ [tG,tL,tL,tI] (List Int×Int) (fun (d:Gr×(List Int×(List Int×Int)))=>chk (graphMay d.1) (some (levelsRes d.1 d.2.1 d.2.2.1 d.2.2.2))) resLE
theorem ok178:SumOk Tryz.prog 178 S178 :=
 sumq f178.E (fn:=Tryz.f178) (code:=f178.code) f178.sums f178.inl fun (d:Gr×(List Int×(List Int×Int))) x hx=>by
  obtain ⟨g,cs,f,src⟩:=d
  obtain ⟨hg,hx⟩:=chk_some hx
  have hg:graphMay g=true:=hg
  obtain rfl:=oJ hx
  have hp:=graphMay_parts hg
  refine ⟨33,(f178.eq _ g cs f src).trans ?_⟩
  show _=some (resLE (levelsRes g cs f src))
  unfold levelsRes
  rw [hg,kT,bS]
  cases h1:liesB g cs f with
  |false=>rw [nF,cT,fA,cF]
  |true =>
   rw [nT,cF,tA]
   cases h2:hasV g.1 src with
   |false=>rw [nF,cT,cF]
   |true =>
    have hsrc:=oD h2
    have h1':=h1
    simp only [liesB,bA] at h1'
    rw [nT,cF,cT,show ([(-1:Int)]==[(-1:Int)])=true by rfl,tA,show decide ((1:Int)≤g.1∧g.1≤8)=true from dT (by omega),kT,bS,List.length_replicate,
     show decide ((0:Int)≤src∧src<((g.1.toNat:Nat):Int))=true from dT (by omega),kT]
    obtain ⟨b1,b2⟩:=levels0_ok (g:=g) (cs:=cs) (f:=f) hsrc
    have hold:∀ u,0≤u∧u<g.1→0≤rdI (levels0 g.1.toNat src) u→u ∉ [src]→∀ a∈rowA g.2 u,roomA cs f a>0→0≤rdI (levels0 g.1.toNat src) (arcTo g.2 a):=fun u hu h0 hq=>by
     have hne:src ≠ u:=fun e=>hq (by simp [e])
     have:rdI (levels0 g.1.toNat src) u=-1:=by
      unfold levels0
      rw [rdI_set (by simp;omega) (by simp;omega),rdI_replicate (by omega),show (src==u)=false from beq_eq_false_iff_ne.2 hne,cF]
     omega
    refine (f178.l0_is 33 hg h1'.1 h1'.2 hsrc (by omega) 33 _ [src] (by omega) b1 hold (by simp only [List.length_singleton];omega) (by simp only [List.length_singleton];omega)).trans ?_
    unfold levelsOf
    rw [bfs_more hg hsrc 9 33 _ _ b1 hold (by simp only [List.length_singleton];omega) (by omega)]
end
section
set_option maxRecDepth 100000
noncomputable def f128.E (k:Nat):Env:=mkEnv tt [(178,S178)] [] [(128,6,[.kill (rg [(0,11),(13,24),(28,39)]),.tidy])] [] k
noncomputable def f128.code:Go.Code:=cd Tryz.f128
noncomputable def f128.l0 (k n:Nat) (p0:Int) (p1:Int) (p2:List Int) (p3:List Int):Option V :=
 atPath (f128.E k) n ⟨(.u::.u::.u::.u::.u::.u::.u::.u::.u::.u::.u::.u::(.slw 3145744)::.u::.u::.u::.u::.u::.u::.u::.u::.u::.u::.u::.u::(.slw 6553616)::(.int .i64 p0)::(.int .i64 p1)::un 12),[],[(3145744,.row qI p2),(6553616,.row qI p3)]⟩ 9 0 128 [.c 1,.c 1,.c 1,.c 1,.c 0,.c 1,.c 0] [] f128.code (finK tt Tryz.f128)
theorem f128.l0_eq (k n:Nat) (p0:Int) (p1:Int) (p2:List Int) (p3:List Int):f128.l0 k (n+1) p0 p1 p2 p3 =
 bif decide (p1<p0) then (chk (decide ((0:Int)≤p1∧p1<(↑p3.length:Int))) (bif decide (rd qI p3 (↑p1.toNat:Int) ≥ (0:Int)) then (chk (decide ((p2++[p1]).length*8≤140737488355328)) (f128.l0 k n p0 (Go.IntKind.i64.wrap (p1+(1:Int))) (p2++[p1]) p3)) else (f128.l0 k n p0 (Go.IntKind.i64.wrap (p1+(1:Int))) p2 p3))) else (some (.tup [(.own qI p2),(.int .i64 0)])):=by kernel_rfl
theorem f128.eq (k:Nat) (x0:Int×List (eL)) (x1:List Int) (x2:List Int) (x3:Int):evFn (f128.E k) 9 128 Tryz.f128 (encL [(.pair qI (.list qL)),(.list qI),(.list qI),qI] (x0,x1,x2,x3)) =
 (chk (graphMay x0) (some (levelsRes x0 x1 x2 x3))).bind (fun y0=>bif y0.2 != (0:Int) then (some (.tup [(.own qI ([])),(.int .i64 1300)])) else (f128.l0 k k ((↑y0.1.length:Int)) 0 ([]) y0.1)):=by kernel_rfl
theorem f128.inl (k:Nat):InlOk Tryz.prog (f128.E k):=inl_nil
theorem f128.sums (k:Nat):SumsOk Tryz.prog (f128.E k):=(sums_cons ok178 sums_nil)
end
section
def reachL (o:List Int):List Int:=(upto o.length).filter fun v=>decide (rdI o v ≥ 0)
def reachRes (g:Gr) (cs f:List Int) (src:Int):List Int×Int:=bif (levelsRes g cs f src).2 != 0 then ([],1300) else (reachL (levelsRes g cs f src).1,0)
theorem f128.l0_is (k:Nat) (o:List Int) (ho:o.length≤8):∀ (n i:Nat) (out:List Int),i≤o.length→o.length<n+i→out.length≤i →
  f128.l0 k n (o.length:Int) (i:Int) out o=some (resLE (out++((upto o.length).drop i).filter (fun v=>decide (rdI o v ≥ 0)),0))
 |0,i,out,h,h',_=>by omega
 |n+1,i,out,h,h',hl=>by
  by_cases hlt:i<o.length
  ·have hu:i<(upto o.length).length:=by rw [upto_length];exact hlt
   have hg:(upto o.length)[i]=(i:Int):=(List.getElem?_eq_some_iff.1 (upto_get hlt)).2
   have hx:=gE hlt
   have e:rd (Ty.int Go.IntKind.i64) o (((i:Int).toNat:Nat):Int)=rdI o (i:Int):=rdI_nat _ _
   rw [f128.l0_eq,idx_lt' hx,cT,idx_in hx,kT,e,drop_filter _ hu,hg,wrap_succ (by omega)]
   cases hd:decide (rdI o (i:Int) ≥ 0) with
   |true =>
    rw [cT,cT,chk_eq (dT (by rw [lA,List.length_singleton];omega)),f128.l0_is k o ho n (i+1) _ (by omega) (by omega) (by rw [lA,List.length_singleton];omega),List.append_assoc]
    rfl
   |false=>rw [cF,cF,f128.l0_is k o ho n (i+1) _ (by omega) (by omega) (by omega)]
  ·obtain rfl:i=o.length:=by omega
   rw [f128.l0_eq,end_lt,cF,List.drop_eq_nil_of_le (by rw [upto_length];omega),List.filter_nil,List.append_nil]
theorem levels_len {g:Gr} (hg:graphMay g=true) {cs f:List Int} {src:Int} (h:(levelsRes g cs f src).2=0):levelsRes g cs f src=(levelsOf g cs f src,0)∧(0≤src∧src<g.1)∧liesB g cs f=true∧(levelsOf g cs f src).length=g.1.toNat:=by
 unfold levelsRes at h ⊢
 cases hc:liesB g cs f&&hasV g.1 src with
 |false=>rw [hc,cF] at h;cases h
 |true =>
  rw [cT]
  rw [bA] at hc
  have hs:=oD hc.2
  exact ⟨rfl,hs,hc.1,(levels_ok hg hs).lv.len⟩
noncomputable def S128:Summ:=summ [tG,tL,tL,tI] (List Int×Int) (fun (d:Gr×(List Int×(List Int×Int)))=>chk (graphMay d.1) (some (reachRes d.1 d.2.1 d.2.2.1 d.2.2.2))) resLE
theorem ok128:SumOk Tryz.prog 128 S128 :=
 sumq f128.E (fn:=Tryz.f128) (code:=f128.code) f128.sums f128.inl fun (d:Gr×(List Int×(List Int×Int))) x hx=>by
  obtain ⟨g,cs,f,src⟩:=d
  obtain ⟨hg,hx⟩:=chk_some hx
  have hg:graphMay g=true:=hg
  obtain rfl:=oJ hx
  have hp:=graphMay_parts hg
  refine ⟨9,(f128.eq _ g cs f src).trans ?_⟩
  show _=some (resLE (reachRes g cs f src))
  unfold reachRes
  rw [hg,kT,bS]
  cases h:(levelsRes g cs f src).2 != 0 with
  |true=>rw [cT,cT]
  |false =>
   obtain ⟨e,_,_,hl⟩:=levels_len hg (by simpa using h:(levelsRes g cs f src).2=0)
   rw [cF,cF,e]
   have:=f128.l0_is 9 (levelsOf g cs f src) (by omega) 9 0 [] (by omega) (by omega) (by simp)
   refine this.trans ?_
   rw [List.nil_append,List.drop_zero]
   rfl
end
section
def stepsB (gl:List Lk) (cs f lv:List Int) (v a:Int):Bool:=(rdI lv (arcTo gl a)==rdI lv v+1)&&decide (roomA cs f a>0)
def WayOk (gl:List Lk) (cs f lv:List Int):Int→List Int→Prop
 |_,[]=>True
 |v,a::ws=>a∈rowA gl v∧stepsB gl cs f lv v a=true∧WayOk gl cs f lv (arcTo gl a) ws
def endA (gl:List Lk):Int→List Int→Int
 |v,[]=>v
 |_,a::ws=>endA gl (arcTo gl a) ws
theorem endA_snoc (gl:List Lk):∀ (ws:List Int) (v a:Int),endA gl v (ws++[a])=arcTo gl a
 | [],v,a=>rfl
 |b::ws,v,a=>endA_snoc gl ws (arcTo gl b) a
theorem WayOk.snoc {gl:List Lk} {cs f lv:List Int}:∀ {ws:List Int} {v a:Int},WayOk gl cs f lv v ws→a∈rowA gl (endA gl v ws)→stepsB gl cs f lv (endA gl v ws) a=true→WayOk gl cs f lv v (ws++[a])
 | [],v,a,_,h1,h2=>⟨h1,h2,trivial⟩
 |b::ws,v,a,h,h1,h2=>⟨h.1,h.2.1,WayOk.snoc h.2.2 h1 h2⟩
theorem WayOk.front {gl:List Lk} {cs f lv:List Int}:∀ {ws:List Int} {v a:Int},WayOk gl cs f lv v (ws++[a])→WayOk gl cs f lv v ws∧a∈rowA gl (endA gl v ws)∧stepsB gl cs f lv (endA gl v ws) a=true
 | [],v,a,h=>⟨trivial,h.1,h.2.1⟩
 |b::ws,v,a,h=>by
  obtain ⟨h1,h2,h3⟩:=WayOk.front h.2.2
  exact ⟨⟨h.1,h.2.1,h1⟩,h2,h3⟩
theorem stepsB_lv {gl:List Lk} {cs f lv:List Int} {v a:Int} (h:stepsB gl cs f lv v a=true):rdI lv (arcTo gl a)=rdI lv v+1∧roomA cs f a>0:=by
 unfold stepsB at h
 rw [bA] at h
 exact ⟨eq_of_beq h.1,oD h.2⟩
theorem WayOk.lv {gl:List Lk} {cs f lv:List Int}:∀ {ws:List Int} {v:Int},WayOk gl cs f lv v ws→rdI lv (endA gl v ws)=rdI lv v+ws.length
 | [],v,_=>by simp [endA]
 |a::ws,v,h=>by
  have h1:=stepsB_lv h.2.1
  have h2:=WayOk.lv h.2.2
  simp only [endA,List.length_cons]
  omega
theorem WayOk.below {gl:List Lk} {cs f lv:List Int}:∀ {ws:List Int} {v:Int},WayOk gl cs f lv v ws→∀ a∈ws,arcIn gl.length a=true∧rdI lv v≤rdI lv (arcFrom gl a)∧rdI lv (arcFrom gl a)<rdI lv (endA gl v ws)∧rdI lv (arcTo gl a)=rdI lv (arcFrom gl a)+1∧roomA cs f a>0
 | [],v,_,a,ha=>by simp at ha
 |b::ws,v,h,a,ha=>by
  have h1:=stepsB_lv h.2.1
  have h0:=WayOk.lv h.2.2
  have hm:=rowA_mem.1 h.1
  rcases List.mem_cons.1 ha with rfl|ha
  ·simp only [endA]
   rw [hm.2]
   exact ⟨hm.1,Int.le_refl _,by omega,h1.1,h1.2⟩
  ·obtain ⟨c1,c2,c3,c4,c5⟩:=WayOk.below h.2.2 a ha
   exact ⟨c1,by omega,c3,c4,c5⟩
theorem WayOk.verts {g:Gr} (hg:graphMay g=true) {cs f lv:List Int}:∀ {ws:List Int} {v:Int},(0≤v∧v<g.1)→WayOk g.2 cs f lv v ws→0≤endA g.2 v ws∧endA g.2 v ws<g.1
 | [],v,hv,_=>hv
 |a::ws,v,hv,h=>WayOk.verts (ws:=ws) (v:=arcTo g.2 a) hg (arcTo_in hg (rowA_mem.1 h.1).1) h.2.2
theorem arc_same {gl:List Lk} {a b:Int} (h:arcL a=arcL b):(arcFrom gl a=arcFrom gl b∧arcTo gl a=arcTo gl b)∨(arcFrom gl a=arcTo gl b∧arcTo gl a=arcFrom gl b):=by
 unfold arcFrom arcTo
 rw [h]
 cases backB a <;> cases backB b <;> simp only [cT,cF,and_self,true_or,or_true]
theorem WayOk.links {gl:List Lk} {cs f lv:List Int}:∀ {ws:List Int} {v:Int},WayOk gl cs f lv v ws→ws.Pairwise fun a b=>arcL a ≠ arcL b
 | [],v,_=>.nil
 |a::ws,v,h=>by
  refine List.Pairwise.cons (fun b hb he=>?_) (WayOk.links h.2.2)
  have h1:=stepsB_lv h.2.1
  have hm:=(rowA_mem.1 h.1).2
  obtain ⟨_,c2,_,c4,_⟩:=WayOk.below h.2.2 b hb
  rw [hm.symm] at h1
  rcases arc_same (gl:=gl) he with ⟨e1,e2⟩|⟨e1,e2⟩
  ·rw [e2] at c2;omega
  ·rw [e1,e2] at h1;omega
theorem gain_set:∀ {gl:List Lk} {f:List Int} {i:Nat} {l:Lk} {x:Int} (d v:Int),gl[i]? = some l→f[i]? = some x →
  gainV gl (f.set i (x+d)) v=gainV gl f v+((bif l.1==v then d else 0) - (bif l.2.1==v then d else 0))
 |l::gl,x::f,0,l',x',d,v,h1,h2=>by
  simp only [List.getElem?_cons_zero,sI] at h1 h2
  subst h1 h2
  simp only [List.set_cons_zero,gainV]
  cases l.1==v <;> cases l.2.1==v <;> simp only [cT,cF] <;> omega
 |l::gl,x::f,i+1,l',x',d,v,h1,h2=>by
  have ih:=gain_set (gl:=gl) (f:=f) (i:=i) d v (by simpa using h1) (by simpa using h2)
  simp only [List.set_cons_succ,gainV]
  rw [ih]
  omega
 | [],_,_,_,_,_,_,h1,_=>by simp at h1
 |_::_,[],_,_,_,_,_,_,h2=>by simp at h2
theorem lk_get {gl:List Lk} {a:Int} (ha:arcIn gl.length a=true):gl[(arcL a).toNat]? = some (lk gl (arcL a)):=by
 have hL:=arcL_lt ha
 have hi:(arcL a).toNat<gl.length:=by omega
 rw [gE hi]
 have:=rd_some (t:=tLk) (gE hi)
 rw [show (((arcL a).toNat:Nat):Int)=arcL a by omega] at this
 exact congrArg some this.symm
theorem gain_move {gl:List Lk} {f:List Int} (hl:f.length=gl.length) {a:Int} (ha:arcIn gl.length a=true) (b v:Int) :
  gainV gl (moveA f b a) v=gainV gl f v+((bif arcFrom gl a==v then b else 0) - (bif arcTo gl a==v then b else 0)):=by
 have hL:=arcL_lt ha
 have h1:=lk_get ha
 have h2:=rdI_get (f:=f) (i:=arcL a) (by omega)
 unfold moveA
 rw [gain_set _ v h1 h2]
 unfold arcFrom arcTo
 cases backB a <;> simp only [cT,cF] <;> cases (lk gl (arcL a)).1==v <;> cases (lk gl (arcL a)).2.1==v <;> simp only [cT,cF] <;> omega
def moves (b:Int) (f:List Int) (ws:List Int):List Int:=ws.foldl (fun f a=>moveA f b a) f
theorem room_other {cs f:List Int} {b a c:Int} (hl:f.length=cs.length) (ha:arcIn cs.length a=true) (hc:arcIn cs.length c=true) (hne:arcL a ≠ arcL c):roomA cs (moveA f b a) c=roomA cs f c:=by
 have h1:=arcL_lt ha
 have h2:=arcL_lt hc
 unfold roomA
 rw [moveA_at (by omega) (by omega),show (arcL a==arcL c)=false by simpa using hne,cF]
theorem moveL_moves {cs:List Int} {b:Int}:∀ {ws f:List Int},f.length=cs.length→(∀ a∈ws,arcIn cs.length a=true∧b≤roomA cs f a)→(ws.Pairwise fun a c=>arcL a ≠ arcL c)→moveL cs b f ws=some (moves b f ws)
 | [],f,_,_,_=>rfl
 |a::ws,f,hl,hw,hp=>by
  obtain ⟨h1,h2⟩:=hw a (by simp)
  cases hp with
  |cons hp1 hp2 =>
   simp only [moveL]
   rw [show decide (roomA cs f a<b)=false from dF (by omega),cF]
   refine moveL_moves (by rw [moveA_len];exact hl) (fun c hc=>?_) hp2
   obtain ⟨c1,c2⟩:=hw c (by simp [hc])
   exact ⟨c1,by rw [room_other hl h1 c1 (hp1 c hc)];exact c2⟩
theorem gain_moves {gl:List Lk} {cs f0 lv:List Int} {b v:Int}:∀ {ws f:List Int} {u:Int},f.length=gl.length→WayOk gl cs f0 lv u ws →
  gainV gl (moves b f ws) v=gainV gl f v+((bif u==v then b else 0) - (bif endA gl u ws==v then b else 0))
 | [],f,u,_,_=>by simp only [moves,List.foldl_nil,endA];omega
 |a::ws,f,u,hl,h=>by
  have hm:=rowA_mem.1 h.1
  have:=gain_moves (b:=b) (v:=v) (f:=moveA f b a) (by rw [moveA_len];exact hl) h.2.2
  have e:moves b f (a::ws)=moves b (moveA f b a) ws:=rfl
  rw [e,this,gain_move hl hm.1,hm.2]
  simp only [endA]
  omega
theorem moves_other {b:Int} {n:Nat}:∀ {ws f:List Int} {i:Int},f.length=n→(∀ a∈ws,arcIn n a=true)→(0≤i∧i<(n:Int))→(∀ a∈ws,arcL a ≠ i)→rdI (moves b f ws) i=rdI f i
 | [],f,i,_,_,_,_=>rfl
 |a::ws,f,i,hl,hw,hi,hn=>by
  have e:moves b f (a::ws)=moves b (moveA f b a) ws:=rfl
  have h1:=arcL_lt (hw a (by simp))
  rw [e,moves_other (by rw [moveA_len];exact hl) (fun c hc=>hw c (by simp [hc])) hi (fun c hc=>hn c (by simp [hc])),moveA_at (by omega) (by omega),
   show (arcL a==i)=false from beq_eq_false_iff_ne.2 (hn a (by simp)),cF]
inductive LReach (gl:List Lk) (cs f lv:List Int) (dst:Int):Int→Prop
 |here:LReach gl cs f lv dst dst
 |step {v a:Int}:a∈rowA gl v→stepsB gl cs f lv v a=true→LReach gl cs f lv dst (arcTo gl a)→LReach gl cs f lv dst v
theorem LReach.append {gl:List Lk} {cs f lv:List Int} {dst v a:Int} (h:LReach gl cs f lv (arcFrom gl a) v) (ha:arcIn gl.length a=true) (hs:stepsB gl cs f lv (arcFrom gl a) a=true) (hd:arcTo gl a=dst):LReach gl cs f lv dst v:=by
 induction h with
 |here=>exact .step (rowA_mem.2 ⟨ha,rfl⟩) hs (hd▸.here)
 |step h1 h2 _ ih=>exact .step h1 h2 ih
theorem levels_reach {g:Gr} {cs f:List Int} {src:Int} {lv:List Int} (h:LevelsOk g cs f src lv) (hsrc:0≤src∧src<g.1):∀ (n:Nat) (w:Int),(0≤w∧w<g.1)→rdI lv w=(n:Int)→LReach g.2 cs f lv w src
 |0,w,hw,hn=>by
  by_cases he:w=src
  ·subst he;exact .here
  ·obtain ⟨v,a,_,_,_,_,h5,h6⟩:=h.back w hw (by omega) he
   omega
 |n+1,w,hw,hn=>by
  have he:w ≠ src:=by
   rintro rfl
   have:=h.src0
   omega
  obtain ⟨v,a,h1,h2,h3,h4,h5,h6⟩:=h.back w hw (by omega) he
  have ih:=levels_reach h hsrc n v h1 (by omega)
  have hm:=rowA_mem.1 h2
  rw [← hm.2] at ih h6
  refine ih.append hm.1 ?_ h3
  unfold stepsB
  rw [h3,h6,dT h4]
  simp
theorem unreached {g:Gr} {cs f:List Int} {src dst:Int} {lv:List Int} (h:LevelsOk g cs f src lv) (hsrc:0≤src∧src<g.1) (hdst:0≤dst∧dst<g.1) (hd:¬ LReach g.2 cs f lv dst src):rdI lv dst<0:=by
 by_cases h0:rdI lv dst<0
 ·exact h0
 ·exact absurd (levels_reach h hsrc (rdI lv dst).toNat dst hdst (by omega)) hd
theorem foldl_min_le:∀ (xs:List Int) (x:Int),xs.foldl min x≤x∧(∀ y∈xs,xs.foldl min x≤y)
 | [],x=>⟨Int.le_refl _,by simp⟩
 |y::xs,x=>by
  obtain ⟨h1,h2⟩:=foldl_min_le xs (min x y)
  rw [List.foldl_cons]
  refine ⟨by omega,fun z hz=>?_⟩
  rcases List.mem_cons.1 hz with rfl|hz
  ·omega
  ·exact h2 z hz
theorem foldl_min_ge {m:Int}:∀ (xs:List Int) (x:Int),m≤x→(∀ y∈xs,m≤y)→m≤xs.foldl min x
 | [],x,h,_=>h
 |y::xs,x,h,h'=>by
  rw [List.foldl_cons]
  have:=h' y (by simp)
  exact foldl_min_ge xs _ (by omega) fun z hz=>h' z (by simp [hz])
end
section
set_option maxRecDepth 100000
noncomputable def f177.E (k:Nat):Env:=mkEnv tt [(78,S78),(122,S122),(178,S178),(179,S179),(210,S210),(212,S212),(214,S214),(217,S217)] [(211,Tryz.f211),(213,Tryz.f213),(241,Tryz.f241),(260,Tryz.f260)] [(177,7,[.kill (rg [(0,0),(2,2),(7,18),(21,97)]),.tidy,.tidy]),(211,3,[.kill (rg [(1,1),(3,6),(9,72)]),.reb 0,.reb 2,.reb 7,.reb 8,.tidy]),(213,3,[.kill (rg [(1,4),(6,7),(11,28)]),.tidy]),(241,1,[.kill (rg [(2,51)]),.tidy])] [(211,4096,(rg [(0,0),(2,2),(7,18),(21,63),(65,97)])),(241,263872,(rg [(1,1),(3,6),(9,26),(28,72)])),(213,4672,(rg [(0,0),(2,2),(7,18),(22,69),(71,72),(74,97)]))] k
noncomputable def f177.code:Go.Code:=cd Tryz.f177
noncomputable def f177.l0 (k n:Nat) (p0:List Int) (p1:Int) (p2:Int) (p3:Int) (p4:Int) (p5:Int) (p6:List (eL)) (p7:List Int) (p8:List Int) (p9:List Int) (p10:List Int) (p11:List Int) (p12:List Int):Option V :=
 atPath (f177.E k) n ⟨(.u::(.ro qI p0)::.u::(.int .i64 p1)::(.int .i64 p2)::(.int .i64 p3)::(.ptr 1572880 (0) (0))::.u::.u::.u::.u::.u::.u::.u::.u::.u::.u::.u::.u::(.ptr 4980752 (0) (0))::(.int .i64 p4)::un 77),[],[(1572880,.box [(.int .i64 p5),(.ro qL p6)]),(4980752,.box [(.slw 1305674252336),(.slw 1305674252400),(.slw 1305674252464),(.slw 1305674252528),(.ro qI p0),(.slw 1305674252656),(.slw 1305674252720)]),(1305674252336,.row qI p7),(1305674252400,.row qI p8),(1305674252464,.row qI p9),(1305674252528,.row qI p10),(1305674252656,.row qI p11),(1305674252720,.row qI p12)]⟩ 9 0 177 [.c 1,.c 1,.c 1,.c 1,.c 1,.c 1,.c 0,.c 0] [] f177.code (finK tt Tryz.f177)
noncomputable def f177.l1 (k n m0:Nat) (p0:Int) (p1:List Int) (p2:Int) (p3:Int) (p4:Int) (p5:List Int) (p6:List Int) (p7:List Int) (p8:List Int) (p9:List Int) (p10:List Int) (p11:List Int) (p12:List Int) (p13:Int) (p14:List (eL)):Option V :=
 atPath (f177.E k) n ⟨((.ptr 16 (0) (0))::.u::(.int .i64 p0)::.u::.u::.u::.u::(.slw 1835024)::(.slw 2097168)::un 64),[(.u::(.ro qI p1)::.u::(.int .i64 p2)::(.int .i64 p0)::(.int .i64 p3)::(.ptr 1075314704 (0) (0))::.u::.u::.u::.u::.u::.u::.u::.u::.u::.u::.u::.u::(.ptr 16 (0) (0))::(.int .i64 p4)::un 77)],[(16,.box [(.slw 4194352),(.slw 4194416),(.slw 4194480),(.slw 4194544),(.ro qI p1),(.slw 4194672),(.slw 4194736)]),(1835024,.row qI p5),(2097168,.row qI p6),(4194352,.row qI p7),(4194416,.row qI p8),(4194480,.row qI p9),(4194544,.row qI p10),(4194672,.row qI p11),(4194736,.row qI p12),(1075314704,.box [(.int .i64 p13),(.ro qL p14)])]⟩ 9 0 177 [.c 1,.c 1,.c 1,.c 1,.c 1,.c 1,.c 0,.c 0,.c 0,.c 1,.c 0,.c 0,.call 3 211,.c 1,.c 1,.c 1,.c 0] [m0] f177.code (finK tt Tryz.f177)
noncomputable def f177.l2 (k n m0:Nat) (p0:Int) (p1:Int) (p2:List Int) (p3:Int) (p4:Int) (p5:Int) (p6:Int) (p7:Int) (p8:List Int) (p9:List Int) (p10:List Int) (p11:List Int) (p12:List Int) (p13:List Int) (p14:List Int) (p15:List Int) (p16:Int) (p17:List (eL)):Option V :=
 atPath (f177.E k) n ⟨((.ptr 16 (0) (0))::.u::.u::.u::.u::(.slw 1310736)::.u::.u::(.slw 2097168)::(.int .i64 p0)::(.int .i64 p1)::un 18),[(.u::(.ro qI p2)::.u::(.int .i64 p3)::(.int .i64 p4)::(.int .i64 p5)::(.ptr 1075314704 (0) (0))::.u::.u::.u::.u::.u::.u::.u::.u::.u::.u::.u::.u::(.ptr 16 (0) (0))::(.int .i64 p6)::(.slw 2097168)::.u::.u::.u::.u::.u::.u::.u::.u::.u::.u::.u::.u::.u::.u::.u::.u::.u::.u::.u::.u::.u::.u::.u::.u::.u::.u::.u::.u::.u::.u::.u::.u::.u::.u::.u::.u::.u::.u::.u::.u::.u::.u::.u::.u::.u::.u::.u::.u::(.int .i64 p7)::un 27)],[(16,.box [(.slw 4194352),(.slw 4194416),(.slw 4194480),(.slw 4194544),(.ro qI p2),(.slw 4194672),(.slw 4194736)]),(1310736,.row qI p8),(2097168,.row qI p9),(4194352,.row qI p10),(4194416,.row qI p11),(4194480,.row qI p12),(4194544,.row qI p13),(4194672,.row qI p14),(4194736,.row qI p15),(1075314704,.box [(.int .i64 p16),(.ro qL p17)])]⟩ 9 0 177 [.c 1,.c 1,.c 1,.c 1,.c 1,.c 1,.c 0,.c 0,.c 0,.c 1,.c 0,.c 1,.c 1,.c 0,.call 5 213,.c 1,.c 1,.c 0,.c 1,.c 0] [m0] f177.code (finK tt Tryz.f177)
noncomputable def f177.l3 (k n m0 m1:Nat) (p0:Int) (p1:Int) (p2:List Int) (p3:Int) (p4:Int) (p5:Int) (p6:List Int) (p7:List Int) (p8:List Int) (p9:List Int) (p10:List Int) (p11:List Int) (p12:List Int) (p13:List Int) (p14:Int) (p15:List (eL)):Option V :=
 atPath (f177.E k) n ⟨((.ptr 16 (0) (0))::(.int .i64 p0)::un 50),[((.ptr 16 (0) (0))::.u::(.int .i64 p1)::.u::.u::.u::.u::(.slw 1075576848)::(.slw 1075838992)::un 64),(.u::(.ro qI p2)::.u::(.int .i64 p3)::(.int .i64 p1)::(.int .i64 p4)::(.ptr 2149056528 (0) (0))::.u::.u::.u::.u::.u::.u::.u::.u::.u::.u::.u::.u::(.ptr 16 (0) (0))::(.int .i64 p5)::un 77)],[(16,.box [(.slw 4194352),(.slw 4194416),(.slw 4194480),(.slw 4194544),(.ro qI p2),(.slw 4194672),(.slw 4194736)]),(4194352,.row qI p6),(4194416,.row qI p7),(4194480,.row qI p8),(4194544,.row qI p9),(4194672,.row qI p10),(4194736,.row qI p11),(1075576848,.row qI p12),(1075838992,.row qI p13),(2149056528,.box [(.int .i64 p14),(.ro qL p15)])]⟩ 9 0 177 [.c 1,.c 1,.c 1,.c 1,.c 1,.c 1,.c 0,.c 0,.c 0,.c 1,.c 0,.c 0,.call 3 211,.c 1,.c 1,.c 1,.c 0,.c 0,.c 0,.c 1,.c 1,.c 0,.c 0,.call 2 241,.c 1,.c 0,.c 0] [m0,m1] f177.code (finK tt Tryz.f177)
theorem f177.l0_eq (k n:Nat) (p0:List Int) (p1:Int) (p2:Int) (p3:Int) (p4:Int) (p5:Int) (p6:List (eL)) (p7:List Int) (p8:List Int) (p9:List Int) (p10:List Int) (p11:List Int) (p12:List Int):f177.l0 k (n+1) p0 p1 p2 p3 p4 p5 p6 p7 p8 p9 p10 p11 p12 =
 bif decide (p4<p3) then (f177.l1 k k n p2 p0 p1 p3 p4 ([]) ([p1]) p7 p8 p9 p10 p11 p12 p5 p6) else (some (.tup [(.own qI p11),(.int .i64 p4),(.int .i64 0)])):=by kernel_rfl
theorem f177.l1_eq (k n m0:Nat) (p0:Int) (p1:List Int) (p2:Int) (p3:Int) (p4:Int) (p5:List Int) (p6:List Int) (p7:List Int) (p8:List Int) (p9:List Int) (p10:List Int) (p11:List Int) (p12:List Int) (p13:Int) (p14:List (eL)):f177.l1 k (n+1) m0 p0 p1 p2 p3 p4 p5 p6 p7 p8 p9 p10 p11 p12 p13 p14 =
 chk (decide ((0:Int)≤Go.IntKind.i64.wrap ((↑p6.length:Int) - (1:Int))∧Go.IntKind.i64.wrap ((↑p6.length:Int) - (1:Int))<(↑p6.length:Int))) (bif rd qI p6 (↑(Go.IntKind.i64.wrap ((↑p6.length:Int) - (1:Int))).toNat:Int)==p0 then (bif (↑p5.length:Int)==(0:Int) then (some (.tup [(.own qI p11),(.int .i64 p4),(.int .i64 0)])) else (f177.l2 k k m0 ((↑p5.length:Int)) 0 p1 p2 p0 p3 p4 (Go.IntKind.i64.wrap (p3 - p4)) ([]) p5 p7 p8 p9 p10 p11 p12 p13 p14)) else (f177.l3 k k m0 n (rd qI p6 (↑(Go.IntKind.i64.wrap ((↑p6.length:Int) - (1:Int))).toNat:Int)) p0 p1 p2 p3 p4 p7 p8 p9 p10 p11 p12 p5 p6 p13 p14)):=by kernel_rfl
theorem f177.l2_eq (k n m0:Nat) (p0:Int) (p1:Int) (p2:List Int) (p3:Int) (p4:Int) (p5:Int) (p6:Int) (p7:Int) (p8:List Int) (p9:List Int) (p10:List Int) (p11:List Int) (p12:List Int) (p13:List Int) (p14:List Int) (p15:List Int) (p16:Int) (p17:List (eL)):f177.l2 k (n+1) m0 p0 p1 p2 p3 p4 p5 p6 p7 p8 p9 p10 p11 p12 p13 p14 p15 p16 p17 =
 bif decide (p1<p0) then (chk (decide ((0:Int)≤p1∧p1<(↑p9.length:Int))) ((chk (decide (p2.length≤16∧p14.length=p2.length)&&(arcIn p2.length (rd qI p9 (↑p1.toNat:Int))&&rateB (roomA p2 p14 (rd qI p9 (↑p1.toNat:Int))))) (some (roomA p2 p14 (rd qI p9 (↑p1.toNat:Int))))).bind (fun y0=>chk (decide ((p8++[y0]).length*8≤140737488355328)) (f177.l2 k n m0 p0 (Go.IntKind.i64.wrap (p1+(1:Int))) p2 p3 p4 p5 p6 p7 (p8++[y0]) p9 p10 p11 p12 p13 p14 p15 p16 p17)))) else ((chk (decide (p8.length<4611686018427387904)) (some (List.foldl min p7 p8))).bind (fun y0=>both (f177.l0 k m0 p2 p3 p4 p5 (Go.IntKind.i64.wrap (p6+y0)) p16 p17 p10 p11 p12 p13 ((moveOf (p16,p17) p2 p14 y0 p9).1) p15) (f177.l0 k m0 p2 p3 p4 p5 (Go.IntKind.i64.wrap (p6+y0)) p16 p17 p10 p11 p12 p13 ((moveOf (p16,p17) p2 p14 y0 p9).1) p15))):=by kernel_rfl
theorem f177.l3_eq (k n m0 m1:Nat) (p0:Int) (p1:Int) (p2:List Int) (p3:Int) (p4:Int) (p5:Int) (p6:List Int) (p7:List Int) (p8:List Int) (p9:List Int) (p10:List Int) (p11:List Int) (p12:List Int) (p13:List Int) (p14:Int) (p15:List (eL)):f177.l3 k (n+1) m0 m1 p0 p1 p2 p3 p4 p5 p6 p7 p8 p9 p10 p11 p12 p13 p14 p15 =
 chk (decide ((0:Int)≤p0∧p0<(↑p11.length:Int))) (chk (decide ((0:Int)≤Go.IntKind.i64.wrap (p0+(1:Int))∧Go.IntKind.i64.wrap (p0+(1:Int))<(↑p6.length:Int))) (bif decide (rd qI p11 (↑p0.toNat:Int)<rd qI p6 (↑(Go.IntKind.i64.wrap (p0+(1:Int))).toNat:Int)) then (chk (decide ((0:Int)≤p0∧p0<(↑p11.length:Int))) (chk (decide ((0:Int)≤rd qI p11 (↑p0.toNat:Int)∧rd qI p11 (↑p0.toNat:Int)<(↑p7.length:Int))) (chk (decide ((0:Int)≤rd qI p7 (↑(Int.toNat (rd qI p11 (↑p0.toNat:Int))):Int)∧rd qI p7 (↑(Int.toNat (rd qI p11 (↑p0.toNat:Int))):Int)<(↑p8.length:Int))) (chk (decide ((0:Int)≤rd qI p8 (↑(Int.toNat (rd qI p7 (↑(Int.toNat (rd qI p11 (↑p0.toNat:Int))):Int))):Int)∧rd qI p8 (↑(Int.toNat (rd qI p7 (↑(Int.toNat (rd qI p11 (↑p0.toNat:Int))):Int))):Int)<(↑p9.length:Int))) (chk (decide ((0:Int)≤p0∧p0<(↑p9.length:Int))) (bif rd qI p9 (↑(Int.toNat (rd qI p8 (↑(Int.toNat (rd qI p7 (↑(Int.toNat (rd qI p11 (↑p0.toNat:Int))):Int))):Int))):Int)==Go.IntKind.i64.wrap (rd qI p9 (↑p0.toNat:Int)+(1:Int)) then ((chk (decide (p2.length≤16∧p10.length=p2.length)&&(arcIn p2.length (rd qI p7 (↑(Int.toNat (rd qI p11 (↑p0.toNat:Int))):Int))&&rateB (roomA p2 p10 (rd qI p7 (↑(Int.toNat (rd qI p11 (↑p0.toNat:Int))):Int))))) (some (roomA p2 p10 (rd qI p7 (↑(Int.toNat (rd qI p11 (↑p0.toNat:Int))):Int))))).bind (fun y0=>bif decide (y0>(0:Int)) then (both (both (chk (decide ((p12++[rd qI p7 (↑(Int.toNat (rd qI p11 (↑p0.toNat:Int))):Int)]).length*8≤140737488355328)) (chk (decide ((0:Int)≤rd qI p7 (↑(Int.toNat (rd qI p11 (↑p0.toNat:Int))):Int)∧rd qI p7 (↑(Int.toNat (rd qI p11 (↑p0.toNat:Int))):Int)<(↑p8.length:Int))) (chk (decide ((p13++[rd qI p8 (↑(Int.toNat (rd qI p7 (↑(Int.toNat (rd qI p11 (↑p0.toNat:Int))):Int))):Int)]).length*8≤140737488355328)) (f177.l1 k m1 m0 p1 p2 p3 p4 p5 (p12++[rd qI p7 (↑(Int.toNat (rd qI p11 (↑p0.toNat:Int))):Int)]) (p13++[rd qI p8 (↑(Int.toNat (rd qI p7 (↑(Int.toNat (rd qI p11 (↑p0.toNat:Int))):Int))):Int)]) p6 p7 p8 p9 p10 p11 p14 p15)))) (chk (decide ((0:Int)≤rd qI p7 (↑(Int.toNat (rd qI p11 (↑p0.toNat:Int))):Int)∧rd qI p7 (↑(Int.toNat (rd qI p11 (↑p0.toNat:Int))):Int)<(↑p8.length:Int))) (both (chk (decide ((p12++[rd qI p7 (↑(Int.toNat (rd qI p11 (↑p0.toNat:Int))):Int)]).length*8≤140737488355328)) (chk (decide ((p13++[rd qI p8 (↑(Int.toNat (rd qI p7 (↑(Int.toNat (rd qI p11 (↑p0.toNat:Int))):Int))):Int)]).length*8≤140737488355328)) (f177.l1 k m1 m0 p1 p2 p3 p4 p5 (p12++[rd qI p7 (↑(Int.toNat (rd qI p11 (↑p0.toNat:Int))):Int)]) (p13++[rd qI p8 (↑(Int.toNat (rd qI p7 (↑(Int.toNat (rd qI p11 (↑p0.toNat:Int))):Int))):Int)]) p6 p7 p8 p9 p10 p11 p14 p15))) (both (chk (decide ((p12++[rd qI p7 (↑(Int.toNat (rd qI p11 (↑p0.toNat:Int))):Int)]).length*8≤140737488355328)) (chk (decide ((p13++[rd qI p8 (↑(Int.toNat (rd qI p7 (↑(Int.toNat (rd qI p11 (↑p0.toNat:Int))):Int))):Int)]).length*8≤140737488355328)) (f177.l1 k m1 m0 p1 p2 p3 p4 p5 (p12++[rd qI p7 (↑(Int.toNat (rd qI p11 (↑p0.toNat:Int))):Int)]) (p13++[rd qI p8 (↑(Int.toNat (rd qI p7 (↑(Int.toNat (rd qI p11 (↑p0.toNat:Int))):Int))):Int)]) p6 p7 p8 p9 p10 p11 p14 p15))) (chk (decide ((p12++[rd qI p7 (↑(Int.toNat (rd qI p11 (↑p0.toNat:Int))):Int)]).length*8≤140737488355328)) (chk (decide ((p13++[rd qI p8 (↑(Int.toNat (rd qI p7 (↑(Int.toNat (rd qI p11 (↑p0.toNat:Int))):Int))):Int)]).length*8≤140737488355328)) (f177.l1 k m1 m0 p1 p2 p3 p4 p5 (p12++[rd qI p7 (↑(Int.toNat (rd qI p11 (↑p0.toNat:Int))):Int)]) (p13++[rd qI p8 (↑(Int.toNat (rd qI p7 (↑(Int.toNat (rd qI p11 (↑p0.toNat:Int))):Int))):Int)]) p6 p7 p8 p9 p10 p11 p14 p15))))))) (chk (decide ((0:Int)≤rd qI p7 (↑(Int.toNat (rd qI p11 (↑p0.toNat:Int))):Int)∧rd qI p7 (↑(Int.toNat (rd qI p11 (↑p0.toNat:Int))):Int)<(↑p8.length:Int))) (both (both (chk (decide ((p12++[rd qI p7 (↑(Int.toNat (rd qI p11 (↑p0.toNat:Int))):Int)]).length*8≤140737488355328)) (chk (decide ((p13++[rd qI p8 (↑(Int.toNat (rd qI p7 (↑(Int.toNat (rd qI p11 (↑p0.toNat:Int))):Int))):Int)]).length*8≤140737488355328)) (f177.l1 k m1 m0 p1 p2 p3 p4 p5 (p12++[rd qI p7 (↑(Int.toNat (rd qI p11 (↑p0.toNat:Int))):Int)]) (p13++[rd qI p8 (↑(Int.toNat (rd qI p7 (↑(Int.toNat (rd qI p11 (↑p0.toNat:Int))):Int))):Int)]) p6 p7 p8 p9 p10 p11 p14 p15))) (both (chk (decide ((p12++[rd qI p7 (↑(Int.toNat (rd qI p11 (↑p0.toNat:Int))):Int)]).length*8≤140737488355328)) (chk (decide ((p13++[rd qI p8 (↑(Int.toNat (rd qI p7 (↑(Int.toNat (rd qI p11 (↑p0.toNat:Int))):Int))):Int)]).length*8≤140737488355328)) (f177.l1 k m1 m0 p1 p2 p3 p4 p5 (p12++[rd qI p7 (↑(Int.toNat (rd qI p11 (↑p0.toNat:Int))):Int)]) (p13++[rd qI p8 (↑(Int.toNat (rd qI p7 (↑(Int.toNat (rd qI p11 (↑p0.toNat:Int))):Int))):Int)]) p6 p7 p8 p9 p10 p11 p14 p15))) (chk (decide ((p12++[rd qI p7 (↑(Int.toNat (rd qI p11 (↑p0.toNat:Int))):Int)]).length*8≤140737488355328)) (chk (decide ((p13++[rd qI p8 (↑(Int.toNat (rd qI p7 (↑(Int.toNat (rd qI p11 (↑p0.toNat:Int))):Int))):Int)]).length*8≤140737488355328)) (f177.l1 k m1 m0 p1 p2 p3 p4 p5 (p12++[rd qI p7 (↑(Int.toNat (rd qI p11 (↑p0.toNat:Int))):Int)]) (p13++[rd qI p8 (↑(Int.toNat (rd qI p7 (↑(Int.toNat (rd qI p11 (↑p0.toNat:Int))):Int))):Int)]) p6 p7 p8 p9 p10 p11 p14 p15))))) (both (both (chk (decide ((p12++[rd qI p7 (↑(Int.toNat (rd qI p11 (↑p0.toNat:Int))):Int)]).length*8≤140737488355328)) (chk (decide ((p13++[rd qI p8 (↑(Int.toNat (rd qI p7 (↑(Int.toNat (rd qI p11 (↑p0.toNat:Int))):Int))):Int)]).length*8≤140737488355328)) (f177.l1 k m1 m0 p1 p2 p3 p4 p5 (p12++[rd qI p7 (↑(Int.toNat (rd qI p11 (↑p0.toNat:Int))):Int)]) (p13++[rd qI p8 (↑(Int.toNat (rd qI p7 (↑(Int.toNat (rd qI p11 (↑p0.toNat:Int))):Int))):Int)]) p6 p7 p8 p9 p10 p11 p14 p15))) (chk (decide ((p12++[rd qI p7 (↑(Int.toNat (rd qI p11 (↑p0.toNat:Int))):Int)]).length*8≤140737488355328)) (chk (decide ((p13++[rd qI p8 (↑(Int.toNat (rd qI p7 (↑(Int.toNat (rd qI p11 (↑p0.toNat:Int))):Int))):Int)]).length*8≤140737488355328)) (f177.l1 k m1 m0 p1 p2 p3 p4 p5 (p12++[rd qI p7 (↑(Int.toNat (rd qI p11 (↑p0.toNat:Int))):Int)]) (p13++[rd qI p8 (↑(Int.toNat (rd qI p7 (↑(Int.toNat (rd qI p11 (↑p0.toNat:Int))):Int))):Int)]) p6 p7 p8 p9 p10 p11 p14 p15)))) (chk (decide ((p12++[rd qI p7 (↑(Int.toNat (rd qI p11 (↑p0.toNat:Int))):Int)]).length*8≤140737488355328)) (chk (decide ((p13++[rd qI p8 (↑(Int.toNat (rd qI p7 (↑(Int.toNat (rd qI p11 (↑p0.toNat:Int))):Int))):Int)]).length*8≤140737488355328)) (f177.l1 k m1 m0 p1 p2 p3 p4 p5 (p12++[rd qI p7 (↑(Int.toNat (rd qI p11 (↑p0.toNat:Int))):Int)]) (p13++[rd qI p8 (↑(Int.toNat (rd qI p7 (↑(Int.toNat (rd qI p11 (↑p0.toNat:Int))):Int))):Int)]) p6 p7 p8 p9 p10 p11 p14 p15))))))) else (chk (decide ((0:Int)≤p0∧p0<(↑p11.length:Int))) (chk (decide ((0:Int)≤p0∧p0<(↑p11.length:Int))) (f177.l3 k n m0 m1 p0 p1 p2 p3 p4 p5 p6 p7 p8 p9 p10 (p11.set p0.toNat (Go.IntKind.i64.wrap (rd qI p11 (↑p0.toNat:Int)+(1:Int)))) p12 p13 p14 p15))))) else (chk (decide ((0:Int)≤p0∧p0<(↑p11.length:Int))) (chk (decide ((0:Int)≤p0∧p0<(↑p11.length:Int))) (f177.l3 k n m0 m1 p0 p1 p2 p3 p4 p5 p6 p7 p8 p9 p10 (p11.set p0.toNat (Go.IntKind.i64.wrap (rd qI p11 (↑p0.toNat:Int)+(1:Int)))) p12 p13 p14 p15))))))))) else (bif (↑p12.length:Int)==(0:Int) then (some (.tup [(.own qI p10),(.int .i64 p5),(.int .i64 0)])) else (chk (decide ((0:Int)≤(0:Int)∧(0:Int)≤Go.IntKind.i64.wrap ((↑p12.length:Int) - (1:Int)))) (chk (decide (Go.IntKind.i64.wrap ((↑p12.length:Int) - (1:Int))≤(↑p12.length:Int))) (chk (decide ((0:Int)≤(0:Int)∧(0:Int)≤Go.IntKind.i64.wrap ((↑p13.length:Int) - (1:Int)))) (chk (decide (Go.IntKind.i64.wrap ((↑p13.length:Int) - (1:Int))≤(↑p13.length:Int))) (chk (decide ((0:Int)≤Go.IntKind.i64.wrap ((↑((Go.IntKind.i64.wrap ((↑p13.length:Int) - (1:Int))).toNat - 0):Int) - (1:Int))∧Go.IntKind.i64.wrap ((↑((Go.IntKind.i64.wrap ((↑p13.length:Int) - (1:Int))).toNat - 0):Int) - (1:Int))<(↑((Go.IntKind.i64.wrap ((↑p13.length:Int) - (1:Int))).toNat - 0):Int))) (chk (decide ((0:Int)≤rd qI p13 (↑(0+(Go.IntKind.i64.wrap ((↑((Go.IntKind.i64.wrap ((↑p13.length:Int) - (1:Int))).toNat - 0):Int) - (1:Int))).toNat):Int)∧rd qI p13 (↑(0+(Go.IntKind.i64.wrap ((↑((Go.IntKind.i64.wrap ((↑p13.length:Int) - (1:Int))).toNat - 0):Int) - (1:Int))).toNat):Int)<(↑p11.length:Int))) (chk (decide ((0:Int)≤rd qI p13 (↑(0+(Go.IntKind.i64.wrap ((↑((Go.IntKind.i64.wrap ((↑p13.length:Int) - (1:Int))).toNat - 0):Int) - (1:Int))).toNat):Int)∧rd qI p13 (↑(0+(Go.IntKind.i64.wrap ((↑((Go.IntKind.i64.wrap ((↑p13.length:Int) - (1:Int))).toNat - 0):Int) - (1:Int))).toNat):Int)<(↑p11.length:Int))) (f177.l1 k m1 m0 p1 p2 p3 p4 p5 (List.take ((Go.IntKind.i64.wrap ((↑p12.length:Int) - (1:Int))).toNat - 0) (List.drop 0 p12)) (List.take ((Go.IntKind.i64.wrap ((↑p13.length:Int) - (1:Int))).toNat - 0) (List.drop 0 p13)) p6 p7 p8 p9 p10 (p11.set (Int.toNat (rd qI p13 (↑(0+(Go.IntKind.i64.wrap ((↑((Go.IntKind.i64.wrap ((↑p13.length:Int) - (1:Int))).toNat - 0):Int) - (1:Int))).toNat):Int))) (Go.IntKind.i64.wrap (rd qI p11 (↑(Int.toNat (rd qI p13 (↑(0+(Go.IntKind.i64.wrap ((↑((Go.IntKind.i64.wrap ((↑p13.length:Int) - (1:Int))).toNat - 0):Int) - (1:Int))).toNat):Int))):Int)+(1:Int)))) p14 p15))))))))))):=by kernel_rfl
theorem f177.eq (k:Nat) (x0:Int×List (eL)) (x1:List Int) (x2:List Int) (x3:Int) (x4:Int) (x5:Int):evFn (f177.E k) 9 177 Tryz.f177 (encL [(.pair qI (.list qL)),(.list qI),(.list qI),qI,qI,qI] (x0,x1,x2,x3,x4,x5)) =
 bif !mayF x0 x1 x2 x3 x4 then (some (.tup [(.own qI ([])),(.int .i64 0),(.int .i64 1100)])) else (bif !rateB x5 then (some (.tup [(.own qI ([])),(.int .i64 0),(.int .i64 1100)])) else ((chk (graphMay x0) (some ((startsA x0.2 (Int.toNat x0.1),orderA x0.2 (Int.toNat x0.1),headsA x0.2)))).bind (fun y0=>(chk (graphMay x0) (some (levelsRes x0 x1 x2 x3))).bind (fun y1=>(chk (decide (x2.length*8≤140737488355328)) (some x2)).bind (fun y2=>(chk (decide (y0.1.length*8≤140737488355328)) (some y0.1)).bind (fun y3=>f177.l0 k k x1 x3 x4 x5 0 x0.1 x0.2 y0.1 y0.2.1 y0.2.2 y1.1 y2 y3)))))):=by kernel_rfl
theorem f177.inl (k:Nat):InlOk Tryz.prog (f177.E k):=(inl_cons (by kernel_rfl) (by kernel_rfl) (inl_cons (by kernel_rfl) (by kernel_rfl) (inl_cons (by kernel_rfl) (by kernel_rfl) (inl_cons (by kernel_rfl) (by kernel_rfl) inl_nil))))
theorem f177.sums (k:Nat):SumsOk Tryz.prog (f177.E k):=(sums_cons ok78 (sums_cons ok122 (sums_cons ok178 (sums_cons ok179 (sums_cons ok210 (sums_cons ok212 (sums_cons ok214 (sums_cons ok217 sums_nil))))))))
end
section
set_option maxRecDepth 100000
structure Nx (gl:List Lk) (m:Nat) (nx:List Int):Prop where
 len:nx.length=m+1
 at_:∀ v:Nat,v<m→((orderA gl v).length:Int)≤rdI nx v∧rdI nx v≤((orderA gl (v+1)).length:Int)
 all:∀ x∈nx,0≤x∧x≤256
def beenA (gl:List Lk) (src:Int) (out:List Int):List Int:=src::out.map (arcTo gl)
@[reducible] def resB (f:List Int) (n:Int):V:=.tup [.own tI f,.int .i64 n,.int .i64 0]
theorem been_last (gl:List Lk):∀ (ws:List Int) (v:Int),(beenA gl v ws)[ws.length]? = some (endA gl v ws)
 | [],v=>rfl
 |a::ws,v=>been_last gl ws (arcTo gl a)
theorem been_len (gl:List Lk) (ws:List Int) (v:Int):(beenA gl v ws).length=ws.length+1:=by simp [beenA]
theorem been_snoc (gl:List Lk) (ws:List Int) (v a:Int):beenA gl v (ws++[a])=beenA gl v ws++[arcTo gl a]:=by simp [beenA]
noncomputable def L1 (k n m0:Nat) (g:Gr) (cs f lv:List Int) (src dst most n0:Int) (out nx:List Int):Option V :=
 f177.l1 k n m0 dst cs src most n0 out (beenA g.2 src out) (startsA g.2 g.1.toNat) (orderA g.2 g.1.toNat) (headsA g.2) lv f nx g.1 g.2
noncomputable def L3 (k n m0 m1:Nat) (g:Gr) (cs f lv:List Int) (src dst most n0:Int) (v:Int) (out nx:List Int):Option V :=
 f177.l3 k n m0 m1 v dst cs src most n0 (startsA g.2 g.1.toNat) (orderA g.2 g.1.toNat) (headsA g.2) lv f nx out (beenA g.2 src out) g.1 g.2
noncomputable def L2 (k n m0:Nat) (g:Gr) (cs f lv:List Int) (src dst most n0:Int) (j:Int) (rs out nx:List Int):Option V :=
 f177.l2 k n m0 (out.length:Int) j cs src dst most n0 (Go.IntKind.i64.wrap (most - n0)) rs out (startsA g.2 g.1.toNat) (orderA g.2 g.1.toNat) (headsA g.2) lv f nx g.1 g.2
theorem L1_eq (k n m0:Nat) (g:Gr) (cs f lv:List Int) (src dst most n0:Int) (out nx:List Int) (ho:out.length≤300):L1 k (n+1) m0 g cs f lv src dst most n0 out nx =
  bif endA g.2 src out==dst then (bif (out.length:Int)==0 then some (resB f n0) else L2 k k m0 g cs f lv src dst most n0 0 [] out nx) else L3 k k m0 n g cs f lv src dst most n0 (endA g.2 src out) out nx:=by
 unfold L1 L2 L3
 have e:rd (Ty.int Go.IntKind.i64) (beenA g.2 src out) ((out.length:Nat):Int)=endA g.2 src out:=rd_some (t:=tI) (been_last g.2 out src)
 rw [f177.l1_eq,been_len,wrap64 (n:=((out.length+1:Nat):Int) - 1) (by omega),show ((out.length+1:Nat):Int) - 1=(out.length:Int) by omega,
  show decide ((0:Int)≤(out.length:Int)∧(out.length:Int)<((out.length+1:Nat):Int))=true from dT (by omega),kT,show (((out.length:Int).toNat:Nat):Int)=(out.length:Int) by omega,e]
section
variable {g:Gr} {cs f lv:List Int} (hc:capsMay g cs=true) (hf:withinF f cs=true) (hlv:Lv g.1.toNat lv)
theorem lv_bound {m:Nat} {lv:List Int} (h:Lv m lv) {v:Int} (hv:0≤v∧v<(m:Int)):-1≤rdI lv v∧rdI lv v<(m:Int):=by
 have:=h.lo v hv
 omega
include hc hf hlv in
theorem L3_arc (k n m0 m1:Nat) (src dst most n0:Int) {v:Int} (hv:0≤v∧v<g.1) {out nx:List Int} (ho:out.length≤300) (hn:Nx g.2 g.1.toNat nx) (hlt:rdI nx v<((orderA g.2 (v.toNat+1)).length:Int)) :
  ∃ a,a∈rowA g.2 v∧(orderA g.2 g.1.toNat)[(rdI nx v).toNat]? = some a ∧
   L3 k (n+1) m0 m1 g cs f lv src dst most n0 v out nx=bif stepsB g.2 cs f lv v a then L1 k m1 m0 g cs f lv src dst most n0 (out++[a]) nx else L3 k n m0 m1 g cs f lv src dst most n0 v out (nx.set v.toNat (rdI nx v+1)):=by
 have hg:=caps_graph hc
 have hp:=graphMay_parts hg
 have hcl:=capsMay_len hc
 have hfl:f.length=cs.length:=withinF_len hf
 have hvn:((v.toNat:Nat):Int)=v:=by omega
 obtain ⟨n1,n2⟩:=hn.at_ v.toNat (by omega)
 rw [hvn] at n1 n2
 have s3:(orderA g.2 (v.toNat+1)).length=(orderA g.2 v.toNat).length+(rowA g.2 v).length:=by rw [orderA_succ,lA,hvn]
 have hj:(rdI nx v).toNat - (orderA g.2 v.toNat).length<(rowA g.2 v).length:=by omega
 have hx:=gE hj
 have ha:=List.getElem_mem hj
 have hO:=orderA_get g.2 (m:=g.1.toNat) (v:=v.toNat) (by omega) (by rw [hvn];exact hx)
 rw [show (orderA g.2 v.toNat).length+((rdI nx v).toNat - (orderA g.2 v.toNat).length)=(rdI nx v).toNat by omega] at hO
 generalize (rowA g.2 v)[(rdI nx v).toNat - (orderA g.2 v.toNat).length]=a at hx ha hO
 refine ⟨a,ha,hO,?_⟩
 have hm:=rowA_mem.1 ha
 have ha1:0≤a∧a<2*(g.2.length:Int):=oD hm.1
 have hto:=arcTo_in hg hm.1
 have hr:=room_rate hc hf (by rw [hcl];exact hm.1)
 have hl1:=lv_bound hlv (v:=v) (by omega)
 have hl2:=lv_bound hlv (v:=arcTo g.2 a) (by omega)
 have hll:=hlv.len
 have hOl:=idx_lt hO
 have hO4:=orderA_len g.2 (v.toNat+1)
 have hO5:(v.toNat+1)*(2*g.2.length)≤8*32:=Nat.mul_le_mul (by omega) (by omega)
 have e1:rd (Ty.int Go.IntKind.i64) nx ((v.toNat:Nat):Int)=rdI nx v:=rdI_nat _ _
 have e2:rd (Ty.int Go.IntKind.i64) (startsA g.2 g.1.toNat) (((v+1).toNat:Nat):Int)=((orderA g.2 (v.toNat+1)).length:Int):=by
  rw [show (v+1).toNat=v.toNat+1 by omega]
  exact rd_some (t:=tI) (startsA_get g.2 (by omega))
 have e3:rd (Ty.int Go.IntKind.i64) (orderA g.2 g.1.toNat) (((rdI nx v).toNat:Nat):Int)=a:=rd_some (t:=tI) hO
 have e4:rd (Ty.int Go.IntKind.i64) (headsA g.2) ((a.toNat:Nat):Int)=arcTo g.2 a:=rd_some (t:=tI) (headsA_get hm.1)
 have e5:rd (Ty.int Go.IntKind.i64) lv (((arcTo g.2 a).toNat:Nat):Int)=rdI lv (arcTo g.2 a):=rdI_nat _ _
 have e6:rd (Ty.int Go.IntKind.i64) lv ((v.toNat:Nat):Int)=rdI lv v:=rdI_nat _ _
 have w1:Go.IntKind.i64.wrap (v+1)=v+1:=wrap64 (by omega)
 have w2:Go.IntKind.i64.wrap (rdI lv v+1)=rdI lv v+1:=wrap64 (by omega)
 have w3:Go.IntKind.i64.wrap (rdI nx v+1)=rdI nx v+1:=wrap64 (by omega)
 have hnl:=hn.len
 have c1:decide ((0:Int)≤v∧v<(nx.length:Int))=true:=dT (by omega)
 have c2:decide ((0:Int)≤v+1∧v+1<((startsA g.2 g.1.toNat).length:Int))=true:=dT (by rw [startsA_len];omega)
 have c3:decide (rdI nx v<((orderA g.2 (v.toNat+1)).length:Int))=true:=dT hlt
 have c4:decide ((0:Int)≤rdI nx v∧rdI nx v<((orderA g.2 g.1.toNat).length:Int))=true:=dT (by omega)
 have c5:decide ((0:Int)≤a∧a<((headsA g.2).length:Int))=true:=dT (by rw [headsA_len];omega)
 have c6:decide ((0:Int)≤arcTo g.2 a∧arcTo g.2 a<(lv.length:Int))=true:=dT (by omega)
 have c7:decide ((0:Int)≤v∧v<(lv.length:Int))=true:=dT (by omega)
 have c8:decide (cs.length≤16∧f.length=cs.length)=true:=dT ⟨by omega,hfl⟩
 have c9:arcIn cs.length a=true:=by rw [hcl];exact hm.1
 have c10:decide ((out++[a]).length*8≤140737488355328)=true:=dT (by rw [lA,List.length_singleton];omega)
 have c11:decide ((beenA g.2 src out++[arcTo g.2 a]).length*8≤140737488355328)=true:=dT (by rw [lA,List.length_singleton,been_len];omega)
 unfold L3 L1
 rw [f177.l3_eq]
 simp only [w1,e1,e2,e3,e4,e5,e6,w2,w3,c1,c2,c3,c4,c5,c6,c7,c8,c9,c10,c11,hr,kT,cT,tA,bS,both_self]
 unfold stepsB
 rw [been_snoc]
 cases h1:rdI lv (arcTo g.2 a)==rdI lv v+1 with
 |false=>rw [cF,fA,cF]
 |true =>
  rw [cT,tA]
omit hf hlv in
include hc in
theorem L3_end (k n m0 m1:Nat) (src dst most n0:Int) {v:Int} (hv:0≤v∧v<g.1) {out nx:List Int} (ho:out.length≤300) (hn:Nx g.2 g.1.toNat nx) (he:rdI nx v=((orderA g.2 (v.toNat+1)).length:Int)) :
  (out=[]→L3 k (n+1) m0 m1 g cs f lv src dst most n0 v out nx=some (resB f n0)) ∧
  ∀ ws b,out=ws++[b]→(0≤endA g.2 src ws∧endA g.2 src ws<g.1)→L3 k (n+1) m0 m1 g cs f lv src dst most n0 v out nx=L1 k m1 m0 g cs f lv src dst most n0 ws (nx.set (endA g.2 src ws).toNat (rdI nx (endA g.2 src ws)+1)):=by
 have hg:=caps_graph hc
 have hp:=graphMay_parts hg
 have hnl:=hn.len
 have e1:rd (Ty.int Go.IntKind.i64) nx ((v.toNat:Nat):Int)=rdI nx v:=rdI_nat _ _
 have e2:rd (Ty.int Go.IntKind.i64) (startsA g.2 g.1.toNat) (((v+1).toNat:Nat):Int)=((orderA g.2 (v.toNat+1)).length:Int):=by
  rw [show (v+1).toNat=v.toNat+1 by omega]
  exact rd_some (t:=tI) (startsA_get g.2 (by omega))
 have w1:Go.IntKind.i64.wrap (v+1)=v+1:=wrap64 (by omega)
 have c1:decide ((0:Int)≤v∧v<(nx.length:Int))=true:=dT (by omega)
 have c2:decide ((0:Int)≤v+1∧v+1<((startsA g.2 g.1.toNat).length:Int))=true:=dT (by rw [startsA_len];omega)
 have c3:decide (((orderA g.2 (v.toNat+1)).length:Int)<((orderA g.2 (v.toNat+1)).length:Int))=false:=dF (by omega)
 constructor
 ·rintro rfl
  unfold L3
  rw [f177.l3_eq]
  simp only [w1,e1,e2,he,c1,c2,c3,kT,cF]
  rw [show (((([]:List Int).length:Nat):Int)==0)=true by rfl,cT]
 ·rintro ws b rfl hu
  have hl:(ws++[b]).length=ws.length+1:=by simp
  rw [hl] at ho
  have hbl:(beenA g.2 src (ws++[b])).length=ws.length+2:=by rw [been_len,hl]
  have f1:Go.IntKind.i64.wrap (((ws.length+1:Nat):Int) - 1)=(ws.length:Int):=by rw [wrap64 (by omega)];omega
  have f2:Go.IntKind.i64.wrap (((ws.length+2:Nat):Int) - 1)=((ws.length+1:Nat):Int):=by rw [wrap64 (by omega)];omega
  have f3:Go.IntKind.i64.wrap ((((((ws.length+1:Nat):Int)).toNat - 0:Nat):Int) - 1)=(ws.length:Int):=by rw [wrap64 (by omega)];omega
  have f4:((0+((ws.length:Int)).toNat:Nat):Int)=((ws.length:Nat):Int):=by omega
  have f5:rd (Ty.int Go.IntKind.i64) (beenA g.2 src (ws++[b])) ((ws.length:Nat):Int)=endA g.2 src ws:=by
   refine rd_some (t:=tI) ?_
   rw [been_snoc,List.getElem?_append_left (by rw [been_len];omega)]
   exact been_last g.2 ws src
  have f6:rd (Ty.int Go.IntKind.i64) nx (((endA g.2 src ws).toNat:Nat):Int)=rdI nx (endA g.2 src ws):=rdI_nat _ _
  have h6:=hn.all (rdI nx (endA g.2 src ws)) (List.mem_of_getElem? (rdI_get (by omega)))
  have f7:Go.IntKind.i64.wrap (rdI nx (endA g.2 src ws)+1)=rdI nx (endA g.2 src ws)+1:=wrap64 (by omega)
  have f8:List.take (((ws.length:Int)).toNat - 0) (List.drop 0 (ws++[b]))=ws:=by
   rw [List.drop_zero,Int.toNat_natCast,Nat.sub_zero,List.take_left']
   rfl
  have f9:List.take ((((ws.length+1:Nat):Int)).toNat - 0) (List.drop 0 (beenA g.2 src (ws++[b])))=beenA g.2 src ws:=by
   rw [List.drop_zero,Int.toNat_natCast,Nat.sub_zero,been_snoc,List.take_left']
   exact been_len g.2 ws src
  have d1:decide ((0:Int)≤0∧0≤(ws.length:Int))=true:=dT (by omega)
  have d2:decide ((ws.length:Int)≤((ws.length+1:Nat):Int))=true:=dT (by omega)
  have d3:decide ((0:Int)≤0∧0≤((ws.length+1:Nat):Int))=true:=dT (by omega)
  have d4:decide (((ws.length+1:Nat):Int)≤((ws.length+2:Nat):Int))=true:=dT (by omega)
  have d5:decide ((0:Int)≤(ws.length:Int)∧(ws.length:Int)<(((((ws.length+1:Nat):Int)).toNat - 0:Nat):Int))=true:=dT (by omega)
  have d6:decide ((0:Int)≤endA g.2 src ws∧endA g.2 src ws<(nx.length:Int))=true:=dT (by omega)
  have d7:(((ws.length+1:Nat):Int)==0)=false:=by simp;omega
  unfold L3 L1
  rw [f177.l3_eq,hl,hbl]
  simp only [w1,e1,e2,he,c1,c2,c3,kT,cF]
  rw [d7,cF,f1,f2,f3,f4,f5,f6,f7,f8,f9,d1,d2,d3,d4,d5,d6,kT,kT,kT,kT,kT,kT,kT]
end
end
section
structure WSt (g:Gr) (cs f lv:List Int) (src dst:Int) (D:Prop) (out nx:List Int):Prop where
 nxOk:Nx g.2 g.1.toNat nx
 way:WayOk g.2 cs f lv src out
 ptr:∀ a∈out,(orderA g.2 g.1.toNat)[(rdI nx (arcFrom g.2 a)).toNat]? = some a∧rdI nx (arcFrom g.2 a)<((orderA g.2 ((arcFrom g.2 a).toNat+1)).length:Int)
 dead:D→∀ v,0≤v∧v<g.1→∀ j:Nat,(orderA g.2 v.toNat).length≤j→(j:Int)<rdI nx v→∀ a,(orderA g.2 g.1.toNat)[j]? = some a→stepsB g.2 cs f lv v a=true→¬ LReach g.2 cs f lv dst (arcTo g.2 a)
theorem sum_set:∀ {l:List Int} {i:Nat} {x:Int},l[i]? = some x→(l.set i (x+1)).sum=l.sum+1
 |y::l,0,x,h=>by
  simp only [List.getElem?_cons_zero,sI] at h
  subst h
  simp only [List.set_cons_zero,List.sum_cons]
  omega
 |y::l,i+1,x,h=>by
  have:=sum_set (l:=l) (i:=i) (by simpa using h)
  simp only [List.set_cons_succ,List.sum_cons,this]
  omega
 | [],_,_,h=>by simp at h
theorem sum_le_len {c:Int}:∀ {l:List Int},(∀ x∈l,x≤c)→l.sum≤l.length*c
 | [],_=>by simp
 |y::l,h=>by
  have h1:=h y (by simp)
  have h2:=sum_le_len (l:=l) fun x hx=>h x (by simp [hx])
  rw [List.sum_cons,List.length_cons,show ((l.length+1:Nat):Int)*c=(l.length:Int)*c+c by rw [Int.natCast_add,Int.add_mul];simp]
  omega
section
variable {g:Gr} {cs f lv:List Int} {src dst:Int} {D:Prop} (hc:capsMay g cs=true) (hf:withinF f cs=true) (hlv:Lv g.1.toNat lv) (hsrc:0≤src∧src<g.1) (hlv0:rdI lv src=0)
theorem Nx.bound {gl:List Lk} {m:Nat} {nx:List Int} (h:Nx gl m nx) (hm:m≤8):nx.sum≤2304:=by
 have:=sum_le_len (c:=256) fun x hx=>(h.all x hx).2
 have hl:=h.len
 rw [hl] at this
 have:((m+1:Nat):Int)*256≤9*256:=Int.mul_le_mul_of_nonneg_right (by omega) (by omega)
 omega
include hc in
theorem Nx.pass {nx:List Int} (h:Nx g.2 g.1.toNat nx) {v:Int} (hv:0≤v∧v<g.1) (hlt:rdI nx v<((orderA g.2 (v.toNat+1)).length:Int)) :
  Nx g.2 g.1.toNat (nx.set v.toNat (rdI nx v+1))∧(nx.set v.toNat (rdI nx v+1)).sum=nx.sum+1∧∀ u,0≤u∧u<g.1→rdI (nx.set v.toNat (rdI nx v+1)) u=bif v==u then rdI nx v+1 else rdI nx u:=by
 have hl:=h.len
 have hp:=graphMay_parts (caps_graph hc)
 have at_:∀ u,0≤u∧u<g.1→rdI (nx.set v.toNat (rdI nx v+1)) u=bif v==u then rdI nx v+1 else rdI nx u:=fun u hu=>rdI_set (by omega) (by omega)
 have hO4:=orderA_len g.2 (v.toNat+1)
 have hO5:(v.toNat+1)*(2*g.2.length)≤8*32:=Nat.mul_le_mul (by omega) (by omega)
 have h0:=(h.all _ (List.mem_of_getElem? (rdI_get (f:=nx) (i:=v) (by omega)))).1
 refine ⟨⟨by simpa using hl,fun u hu=>?_,fun x hx=>?_⟩,sum_set (rdI_get (by omega)),at_⟩
 ·rw [at_ u (by omega)]
  have:=h.at_ u hu
  by_cases he:v=(u:Int)
  ·subst he
   rw [show ((u:Int)==(u:Int))=true by simp,cT]
   simp only [Int.toNat_natCast] at hlt
   omega
  ·rw [show (v==(u:Int))=false by simpa using he,cF]
   exact this
 ·obtain hx|rfl:=List.mem_or_eq_of_mem_set hx
  ·exact h.all x hx
  ·omega
include hc in
theorem WSt.pass {out nx:List Int} (h:WSt g cs f lv src dst D out nx) {v a:Int} (hv:0≤v∧v<g.1) (hlt:rdI nx v<((orderA g.2 (v.toNat+1)).length:Int))
  (ha:(orderA g.2 g.1.toNat)[(rdI nx v).toNat]? = some a) (hdead:D→stepsB g.2 cs f lv v a=true→¬ LReach g.2 cs f lv dst (arcTo g.2 a)) {ws:List Int} (hw:WayOk g.2 cs f lv src ws) (hws:∀ c∈ws,c∈out)
  (hb:∀ c∈ws,(0≤arcFrom g.2 c∧arcFrom g.2 c<g.1)∧arcFrom g.2 c ≠ v):WSt g cs f lv src dst D ws (nx.set v.toNat (rdI nx v+1))∧(nx.set v.toNat (rdI nx v+1)).sum=nx.sum+1:=by
 obtain ⟨h1,h2,h3⟩:=h.nxOk.pass hc hv hlt
 refine ⟨⟨h1,hw,fun c hc'=>?_,fun hD u hu j hj hju b hbj hst=>?_⟩,h2⟩
 ·obtain ⟨c1,c2⟩:=hb c hc'
  rw [h3 _ c1,show (v==arcFrom g.2 c)=false from beq_eq_false_iff_ne.2 (Ne.symm c2),cF]
  exact h.ptr c (hws c hc')
 ·rw [h3 u hu] at hju
  by_cases he:v=u
  ·subst he
   rw [show (v==v)=true by simp,cT] at hju
   by_cases hl:(j:Int)<rdI nx v
   ·exact h.dead hD v hu j hj hl b hbj hst
   ·obtain rfl:j=(rdI nx v).toNat:=by omega
    obtain rfl:=oJ (ha.symm.trans hbj)
    exact hdead hD hst
  ·rw [show (v==u)=false by simpa using he,cF] at hju
   exact h.dead hD u hu j hj hju b hbj hst
theorem arcFrom_in {g:Gr} (hg:graphMay g=true) {a:Int} (ha:arcIn g.2.length a=true):0≤arcFrom g.2 a∧arcFrom g.2 a<g.1:=by
 have:=link_at hg (lk_get ha)
 unfold arcFrom
 cases backB a with
 |true=>rw [cT];exact this.2.1
 |false=>rw [cF];exact this.1
include hc hf hlv in
theorem L3_is (Q:Option V→Prop) (k m0 m1:Nat) (most n0:Int) {v:Int} (hv:0≤v∧v<g.1) {out:List Int} (ho:out.length≤8) (hev:endA g.2 src out=v):∀ (n:Nat) (nx:List Int),WSt g cs f lv src dst D out nx→((orderA g.2 (v.toNat+1)).length:Int) - rdI nx v<n →
  (∀ nx' a,WSt g cs f lv src dst D out nx'→nx.sum≤nx'.sum→a∈rowA g.2 v→stepsB g.2 cs f lv v a=true→(orderA g.2 g.1.toNat)[(rdI nx' v).toNat]? = some a→rdI nx' v<((orderA g.2 (v.toNat+1)).length:Int)→Q (L1 k m1 m0 g cs f lv src dst most n0 (out++[a]) nx')) →
  (∀ nx',WSt g cs f lv src dst D out nx'→rdI nx' v=((orderA g.2 (v.toNat+1)).length:Int)→out=[]→Q (some (resB f n0))) →
  (∀ nx' ws b,WSt g cs f lv src dst D out nx'→nx.sum≤nx'.sum→rdI nx' v=((orderA g.2 (v.toNat+1)).length:Int)→out=ws++[b]→Q (L1 k m1 m0 g cs f lv src dst most n0 ws (nx'.set (endA g.2 src ws).toNat (rdI nx' (endA g.2 src ws)+1)))) →
  (0≤src∧src<g.1)→Q (L3 k n m0 m1 g cs f lv src dst most n0 v out nx)
 |0,nx,h,hn,_,_,_,_=>by
  have:=(h.nxOk.at_ v.toNat (by omega)).2
  rw [show ((v.toNat:Nat):Int)=v by omega] at this
  omega
 |n+1,nx,h,hn,h1,h2,h3,hs=>by
  have hg:=caps_graph hc
  have hb:=h.nxOk.at_ v.toNat (by omega)
  rw [show ((v.toNat:Nat):Int)=v by omega] at hb
  by_cases hlt:rdI nx v<((orderA g.2 (v.toNat+1)).length:Int)
  ·obtain ⟨a,ha,hO,he⟩:=L3_arc hc hf hlv k n m0 m1 src dst most n0 hv (out:=out) (by omega) h.nxOk hlt
   rw [he]
   cases hst:stepsB g.2 cs f lv v a with
   |true =>
    rw [cT]
    exact h1 nx a h (Int.le_refl _) ha hst hO hlt
   |false =>
    rw [cF]
    obtain ⟨p1,p2⟩:=h.pass hc hv hlt hO (fun _ h'=>by rw [hst] at h';cases h') h.way (fun c hc=>hc) (fun c hc'=>by
     obtain ⟨c1,_,c3,_,_⟩:=h.way.below c hc'
     refine ⟨arcFrom_in hg c1,fun e=>?_⟩
     rw [hev,e] at c3
     omega)
    have p3:rdI (nx.set v.toNat (rdI nx v+1)) v=rdI nx v+1:=by
     rw [(h.nxOk.pass hc hv hlt).2.2 v hv,show (v==v)=true by simp,cT]
    exact L3_is Q k m0 m1 most n0 hv ho hev n _ p1 (by rw [p3];omega) (fun nx' a w1 w2=>h1 nx' a w1 (by omega)) h2 (fun nx' ws b w1 w2=>h3 nx' ws b w1 (by omega)) hs
  ·have he:rdI nx v=((orderA g.2 (v.toNat+1)).length:Int):=by omega
   obtain ⟨e1,e2⟩:=L3_end hc (f:=f) (lv:=lv) k n m0 m1 src dst most n0 hv (out:=out) (by omega) h.nxOk he
   rcases List.eq_nil_or_concat out with h0|⟨ws,b,h0⟩
   ·rw [e1 h0]
    exact h2 nx h he h0
   ·rw [List.concat_eq_append] at h0
    have hw:=h.way
    rw [h0] at hw
    rw [e2 ws b h0 (hw.front.1.verts hg hs)]
    exact h3 nx ws b h (Int.le_refl _) he h0
theorem WSt.deadEnd {out nx:List Int} (h:WSt g cs f lv src dst D out nx) {v:Int} (hv:0≤v∧v<g.1) (he:rdI nx v=((orderA g.2 (v.toNat+1)).length:Int)) (hne:v ≠ dst) (hD:D):¬ LReach g.2 cs f lv dst v:=by
 intro hr
 cases hr with
 |here=>exact hne rfl
 |step ha hs hr =>
  obtain ⟨j,hj⟩:=List.mem_iff_getElem?.1 ha
  have hvn:((v.toNat:Nat):Int)=v:=by omega
  have hO:=orderA_get g.2 (m:=g.1.toNat) (v:=v.toNat) (by omega) (by rw [hvn];exact hj)
  have s3:(orderA g.2 (v.toNat+1)).length=(orderA g.2 v.toNat).length+(rowA g.2 v).length:=by rw [orderA_succ,lA,hvn]
  have:=idx_lt hj
  exact h.dead hD v hv _ (by omega) (by omega) _ hO hs hr
include hc hf hlv hsrc hlv0 in
theorem L1_is (Q:Option V→Prop) (k m0:Nat) (hk:300≤k) (most n0:Int) (hne:src ≠ dst)
  (hres:∀ out nx,WSt g cs f lv src dst D out nx→endA g.2 src out=dst→out ≠ []→out.length≤8→Q (L2 k k m0 g cs f lv src dst most n0 0 [] out nx))
  (hnone:(D→¬ LReach g.2 cs f lv dst src)→Q (some (resB f n0))):∀ (n:Nat) (out nx:List Int),WSt g cs f lv src dst D out nx→2*(2304 - nx.sum)+8 - out.length<n→Q (L1 k n m0 g cs f lv src dst most n0 out nx)
 |0,out,nx,h,hn=>by
  have hg:=caps_graph hc
  have hp:=graphMay_parts hg
  have:=h.nxOk.bound (by omega)
  have hl:=h.way.lv
  have hv:=h.way.verts hg hsrc
  have:=lv_bound hlv (v:=endA g.2 src out) (by omega)
  omega
 |n+1,out,nx,h,hn=>by
  have hg:=caps_graph hc
  have hp:=graphMay_parts hg
  have hB:=h.nxOk.bound (by omega)
  have hl:=h.way.lv
  have hv:=h.way.verts hg hsrc
  have hlb:=lv_bound hlv (v:=endA g.2 src out) (by omega)
  have ho:out.length≤7:=by omega
  have hO4:=orderA_len g.2 ((endA g.2 src out).toNat+1)
  have hO5:((endA g.2 src out).toNat+1)*(2*g.2.length)≤8*32:=Nat.mul_le_mul (by omega) (by omega)
  have h0:=(h.nxOk.all _ (List.mem_of_getElem? (rdI_get (f:=nx) (i:=endA g.2 src out) (by have:=h.nxOk.len;omega)))).1
  rw [L1_eq k n m0 g cs f lv src dst most n0 out nx (by omega)]
  cases hd:endA g.2 src out==dst with
  |true =>
   have hd:=eq_of_beq hd
   have hne':out ≠ []:=by
    rintro rfl
    exact hne hd
   rw [cT,show ((out.length:Int)==0)=false by have:=List.length_pos_iff.2 hne';simp;omega,cF]
   exact hres out nx h hd hne' (by omega)
  |false =>
   have hd:=ne_of_beq_false hd
   rw [cF]
   refine L3_is hc hf hlv Q k m0 n most n0 hv (by omega) rfl k nx h (by omega) (fun nx' a w1 w2 w3 w4 w5 w6=>?_) (fun nx' w1 w2 w3=>?_) (fun nx' ws b w1 w2 w3 w4=>?_) hsrc
   ·refine L1_is Q k m0 hk most n0 hne hres hnone n (out++[a]) nx' ⟨w1.nxOk,h.way.snoc w3 w4,fun c hc'=>?_,w1.dead⟩ (by rw [lA,List.length_singleton];omega)
    rcases List.mem_append.1 hc' with hc'|hc'
    ·exact w1.ptr c hc'
    ·obtain rfl:c=a:=by simpa using hc'
     rw [(rowA_mem.1 w3).2]
     exact ⟨w5,w6⟩
   ·subst w3
    exact hnone fun hD=>w1.deadEnd hsrc w2 hne hD
   ·have hw:=h.way
    rw [w4] at hw
    obtain ⟨q1,q2,q3⟩:=hw.front
    have hu:=q1.verts hg hsrc
    obtain ⟨r1,r2⟩:=w1.ptr b (by simp [w4])
    have hbm:=rowA_mem.1 q2
    rw [hbm.2] at r1 r2
    have hend:endA g.2 src out=arcTo g.2 b:=by rw [w4,endA_snoc]
    obtain ⟨p1,p2⟩:=w1.pass hc hu r2 r1 (fun hD _=>by
     rw [← hend]
     exact w1.deadEnd hv w3 hd hD) q1 (fun c hc'=>by simp [w4,hc']) (fun c hc'=>by
     obtain ⟨c1,_,c3,_,_⟩:=q1.below c hc'
     refine ⟨arcFrom_in hg c1,fun e=>?_⟩
     rw [e] at c3
     omega)
    exact L1_is Q k m0 hk most n0 hne hres hnone n ws _ p1 (by
                                  rw [p2];have:out.length=ws.length+1:=by simp [w4]
                                  omega)
end
end
section
set_option maxRecDepth 100000
structure FlowOk (g:Gr) (cs f:List Int) (src dst:Int):Prop where
 within:withinF f cs=true
 still:∀ v,0≤v∧v<g.1→v ≠ src→v ≠ dst→gainV g.2 f v=0
 noIn:∀ i:Int,0≤i∧i<(g.2.length:Int)→(lk g.2 i).2.1=src→rdI f i=0
theorem gain_nonneg {src:Int}:∀ {gl:List Lk} {f:List Int},f.length=gl.length→(∀ i:Int,0≤i∧i<(gl.length:Int)→0≤rdI f i)→(∀ i:Int,0≤i∧i<(gl.length:Int)→(lk gl i).2.1=src→rdI f i=0)→0≤gainV gl f src
 | [],_,_,_,_=>by simp [gainV]
 |l::gl,[],h,_,_=>by simp at h
 |l::gl,x::f,h,h1,h2=>by
  have s:∀ i:Int,0≤i→rdI (x::f) (i+1)=rdI f i∧lk (l::gl) (i+1)=lk gl i:=fun i hi=>by
   unfold rdI lk rd
   rw [show (i+1).toNat=i.toNat+1 by omega]
   exact ⟨rfl,rfl⟩
  have c1:0≤x:=h1 0 (by simp only [List.length_cons];omega)
  have c2:l.2.1=src→x=0:=h2 0 (by simp only [List.length_cons];omega)
  have ih:=gain_nonneg (src:=src) (gl:=gl) (f:=f) (by simpa using h) (fun i hi=>by
   have:=h1 (i+1) (by simp only [List.length_cons];omega)
   rwa [(s i hi.1).1] at this) (fun i hi he=>by
   have:=h2 (i+1) (by simp only [List.length_cons];omega)
   rw [(s i hi.1).1,(s i hi.1).2] at this
   exact this he)
  simp only [gainV]
  cases e1:l.1==src <;> cases e2:l.2.1==src <;> simp only [cT,cF] <;> first|omega|(have:=c2 (eq_of_beq e2);omega)
theorem FlowOk.may {g:Gr} {cs f:List Int} {src dst:Int} (hc:capsMay g cs=true) (h:FlowOk g cs f src dst) (hs:hasV g.1 src=true) (hd:hasV g.1 dst=true) (hne:src ≠ dst):mayF g cs f src dst=true:=by
 have hl:=withinF_len h.within
 have hcl:=capsMay_len hc
 have h0:0≤gainV g.2 f src:=gain_nonneg (by omega) (fun i hi=>(within_at h.within (by omega)).1) h.noIn
 unfold mayF liesB
 rw [hc,h.within,hs,hd,show (src==dst)=false by simpa using hne]
 simp only [tA,nF,List.all_eq_true]
 intro v hv
 rw [upto_mem] at hv
 have hp:=graphMay_parts (caps_graph hc)
 unfold stillB
 by_cases e1:v=src
 ·subst e1
  rw [show (v==v)=true by simp,show (v != v)=false by simp,dF (by omega:¬ gainV g.2 f v<0)]
  rfl
 ·rw [show (v==src)=false by simpa using e1]
  by_cases e2:v=dst
  ·rw [show (v != dst)=false by simpa using e2]
   simp
  ·rw [show (gainV g.2 f v != 0)=false by simpa using h.still v (by omega) e1 e2]
   simp
theorem lk_arc {gl:List Lk} {a i:Int} (h:arcL a=i):(backB a=true∧arcFrom gl a=(lk gl i).2.1)∨(backB a=false∧arcTo gl a=(lk gl i).2.1):=by
 unfold arcFrom arcTo
 rw [h]
 cases backB a
 ·exact .inr ⟨rfl,cF⟩
 ·exact .inl ⟨rfl,cT⟩
section
variable {g:Gr} {cs f lv:List Int} {src dst:Int} (hc:capsMay g cs=true) (hlv:Lv g.1.toNat lv) (hsrc:0≤src∧src<g.1) (hlv0:rdI lv src=0)
include hc hlv0 in
theorem FlowOk.moves (h:FlowOk g cs f src dst) {ws:List Int} (hw:WayOk g.2 cs f lv src ws) (hend:endA g.2 src ws=dst) (hne:src ≠ dst) {b:Int} (hb:0≤b) (hr:∀ a∈ws,b≤roomA cs f a) :
  FlowOk g cs (R.moves b f ws) src dst∧gainV g.2 (R.moves b f ws) src=gainV g.2 f src+b∧moveL cs b f ws=some (R.moves b f ws):=by
 have hl:=withinF_len h.within
 have hcl:=capsMay_len hc
 have hin:∀ a∈ws,arcIn g.2.length a=true:=fun a ha=>(hw.below a ha).1
 have hm:moveL cs b f ws=some (R.moves b f ws):=moveL_moves hl (fun a ha=>⟨by rw [hcl];exact hin a ha,hr a ha⟩) hw.links
 have hg:=fun v=>gain_moves (b:=b) (v:=v) (f:=f) (by omega) hw
 refine ⟨⟨moveL_within hb h.within (List.all_eq_true.2 fun a ha=>by rw [hcl];exact hin a ha) hm,fun v hv h1 h2=>?_,fun i hi he=>?_⟩,?_,hm⟩
 ·rw [hg v,h.still v hv h1 h2,hend,show (src==v)=false by simpa using Ne.symm h1,show (dst==v)=false by simpa using Ne.symm h2,cF]
  rfl
 ·rw [moves_other (n:=g.2.length) (by omega) hin hi (fun a ha e=>?_)]
  ·exact h.noIn i hi he
  ·obtain ⟨_,c2,_,c4,c5⟩:=hw.below a ha
   rcases lk_arc (gl:=g.2) e with ⟨e1,e2⟩|⟨e1,e2⟩
   ·unfold roomA at c5
    rw [e1,cT,e,h.noIn i hi he] at c5
    omega
   ·rw [e2,he,hlv0] at c4
    rw [hlv0] at c2
    omega
 ·rw [hg src,hend,show (src==src)=true by simp,show (dst==src)=false by simpa using Ne.symm hne,cT,cF]
  omega
noncomputable def L0 (k n:Nat) (g:Gr) (cs f lv:List Int) (src dst most n0:Int) (nx:List Int):Option V :=
 f177.l0 k n cs src dst most n0 g.1 g.2 (startsA g.2 g.1.toNat) (orderA g.2 g.1.toNat) (headsA g.2) lv f nx
include hc in
theorem L2_is (hf:withinF f cs=true) (k m0:Nat) (most n0:Int) {out nx:List Int} (ho:out.length≤8) (hin:∀ a∈out,arcIn g.2.length a=true):∀ (n i:Nat),i≤out.length→out.length<n+i →
  L2 k n m0 g cs f lv src dst most n0 (i:Int) ((out.take i).map (roomA cs f)) out nx =
   L0 k m0 g cs (moveOf g cs f ((out.map (roomA cs f)).foldl min (Go.IntKind.i64.wrap (most - n0))) out).1 lv src dst most (Go.IntKind.i64.wrap (n0+(out.map (roomA cs f)).foldl min (Go.IntKind.i64.wrap (most - n0)))) nx
 |0,i,h,h'=>by omega
 |n+1,i,h,h'=>by
  have hfl:f.length=cs.length:=withinF_len hf
  have hcl:=capsMay_len hc
  have hp:=graphMay_parts (caps_graph hc)
  unfold L2 L0
  rw [f177.l2_eq]
  by_cases hlt:i<out.length
  ·have hx:=gE hlt
   have ha:=hin _ (List.getElem_mem hlt)
   have e1:rd (Ty.int Go.IntKind.i64) out (((i:Int).toNat:Nat):Int)=out[i]:=rd_some (t:=tI) (by rw [Int.toNat_natCast];exact hx)
   have c1:decide ((i:Int)<(out.length:Int))=true:=dT (by omega)
   have c2:decide ((0:Int)≤(i:Int)∧(i:Int)<(out.length:Int))=true:=dT (by omega)
   have c8:decide (cs.length≤16∧f.length=cs.length)=true:=dT ⟨by omega,hfl⟩
   have c9:arcIn cs.length out[i]=true:=by rw [hcl];exact ha
   have hr:=room_rate hc hf c9
   have c10:decide (((out.take i).map (roomA cs f)++[roomA cs f out[i]]).length*8≤140737488355328)=true:=dT (by rw [lA,List.length_map,List.length_take,List.length_singleton];omega)
   have w1:Go.IntKind.i64.wrap ((i:Int)+1)=((i+1:Nat):Int):=wrap_succ (by omega)
   rw [c1,cT,c2,kT,e1,c8,c9,hr,tA,tA,kT,bS,c10,kT,w1]
   have:=L2_is hf k m0 most n0 (nx:=nx) ho hin n (i+1) (by omega) (by omega)
   unfold L2 L0 at this
   rw [← this,List.take_add_one,hx,List.map_append]
   rfl
  ·obtain rfl:i=out.length:=by omega
   have c1:decide ((out.length:Int)<(out.length:Int))=false:=dF (by omega)
   have c2:decide (((out.take out.length).map (roomA cs f)).length<4611686018427387904)=true:=dT (by rw [List.length_map,List.length_take];omega)
   rw [c1,cF,c2,kT,bS,both_self,List.take_length]
structure BlockOk (g:Gr) (cs f:List Int) (src dst most:Int) (x:List Int×Int):Prop where
 flow:FlowOk g cs x.1 src dst
 gain:gainV g.2 x.1 src=gainV g.2 f src+x.2
 le:0≤x.2∧x.2≤most
 none:x.2=0→0<most→x.1=f∧rdI (levelsOf g cs f src) dst<0
theorem Nx.start {g:Gr} (hg:graphMay g=true):Nx g.2 g.1.toNat (startsA g.2 g.1.toNat):=by
 have hp:=graphMay_parts hg
 have at_:∀ i:Nat,i≤g.1.toNat→rdI (startsA g.2 g.1.toNat) (i:Int)=((orderA g.2 i).length:Int):=fun i hi=>rd_some (t:=tI) (startsA_get g.2 hi)
 refine ⟨startsA_len _ _,fun v hv=>?_,fun x hx=>?_⟩
 ·rw [at_ v (by omega)]
  rw [orderA_succ,lA]
  omega
 ·unfold startsA at hx
  obtain ⟨i,hi,rfl⟩:=List.mem_map.1 hx
  have h1:=orderA_len g.2 i
  have h2:=List.mem_range.1 hi
  have h3:i*(2*g.2.length)≤8*32:=Nat.mul_le_mul (by omega) (by omega)
  omega
include hc hsrc in
theorem L0_is (k:Nat) (hk:6000≤k) (most:Int) (hm:0≤most∧most≤maxRate) (hne:src ≠ dst) (hdst:0≤dst∧dst<g.1) (f0:List Int):∀ (n:Nat) (n0:Int) (f nx:List Int),most - n0<n→(0≤n0∧n0≤most)→FlowOk g cs f src dst→gainV g.2 f src=gainV g.2 f0 src+n0→Nx g.2 g.1.toNat nx →
  (n0=0→f=f0∧nx=startsA g.2 g.1.toNat)→∃ x,L0 k n g cs f (levelsOf g cs f0 src) src dst most n0 nx=some (resB x.1 x.2)∧BlockOk g cs f0 src dst most x
 |0,n0,f,nx,h,h',_,_,_,_=>by omega
 |n+1,n0,f,nx,h,h',hF,hG,hN,h0=>by
  have hM:maxRate=4611686018427387904:=rfl
  have hg:=caps_graph hc
  have hL:=levels_ok (cs:=cs) (f:=f0) hg hsrc
  unfold L0
  rw [f177.l0_eq]
  by_cases hlt:n0<most
  ·rw [dT hlt,cT]
   have:=L1_is (lv:=levelsOf g cs f0 src) (dst:=dst) (D:=n0=0) hc hF.within hL.lv hsrc hL.src0 (fun r=>∃ x:List Int×Int,r=some (resB x.1 x.2)∧BlockOk g cs f0 src dst most x) k n (by omega) most n0 hne (fun out nx' hW hE hO hl=>?_) (fun hD=>?_) k [] nx
    ⟨hN,trivial,fun a ha=>by simp at ha,fun hD v hv j hj hju=>by
     rw [(h0 hD).2] at hju
     have:rdI (startsA g.2 g.1.toNat) v=((orderA g.2 v.toNat).length:Int):=by
      have:=rd_some (t:=tI) (startsA_get g.2 (n:=g.1.toNat) (i:=v.toNat) (by omega))
      rw [show ((v.toNat:Nat):Int)=v by omega] at this
      exact this
     omega⟩ (by
     have:0≤nx.sum:=sum_nonneg' _ fun x hx=>(hN.all x hx).1
     simp only [List.length_nil]
     omega)
   ·unfold L1 at this
    exact this
   ·rw [show (0:Int)=((0:Nat):Int) by rfl,show ([]:List Int)=(out.take 0).map (roomA cs f) by rfl]
    have hb:=hW.way.below
    rw [L2_is hc hF.within k n most n0 hl (fun a ha=>(hb a ha).1) k 0 (by omega) (by omega)]
    have hw1:Go.IntKind.i64.wrap (most - n0)=most - n0:=wrap64 (by omega)
    rw [hw1]
    obtain ⟨y1,y2⟩:=foldl_min_le (out.map (roomA cs f)) (most - n0)
    have y3:1≤(out.map (roomA cs f)).foldl min (most - n0):=foldl_min_ge _ _ (by omega) (fun y hy=>by
     obtain ⟨a,ha,rfl⟩:=List.mem_map.1 hy
     have:=(hb a ha).2.2.2.2
     omega)
    generalize (out.map (roomA cs f)).foldl min (most - n0)=b at y1 y2 y3
    have hr:∀ a∈out,b≤roomA cs f a:=fun a ha=>y2 _ (List.mem_map_of_mem ha)
    obtain ⟨f1,f2,f3⟩:=hF.moves hc hL.src0 hW.way hE hne (by omega) hr
    have hform:moveForm g cs f b out=true:=by
     unfold moveForm liesB
     rw [hc,hF.within,dT (by omega:out.length≤64)]
     rw [show rateB b=true from dT (by omega),List.all_eq_true.2 (fun a ha=>by
      rw [withinF_len hF.within,capsMay_len hc]
      exact (hb a ha).1)]
     rfl
    have hmv:(moveOf g cs f b out).1=moves b f out:=by
     unfold moveOf
     rw [hform,cT,f3]
    rw [hmv,wrap64 (n:=n0+b) (by omega)]
    exact L0_is k hk most hm hne hdst f0 n (n0+b) _ nx' (by omega) (by omega) f1 (by omega) hW.nxOk (fun e=>by omega)
   ·refine ⟨(f,n0),rfl,hF,hG,h',fun e _=>?_⟩
    obtain ⟨e1,e2⟩:=h0 e
    dsimp only at e
    have:=hD e
    rw [e1] at this ⊢
    exact ⟨rfl,unreached hL hsrc hdst this⟩
  ·rw [dF hlt,cF]
   refine ⟨(f,n0),rfl,hF,hG,h',fun e h1=>?_⟩
   dsimp only at e
   omega
end
theorem f177_is {g:Gr} {cs f:List Int} {src dst most:Int} (hc:capsMay g cs=true) (hs:hasV g.1 src=true) (hd:hasV g.1 dst=true) (hne:src ≠ dst) (hm:rateB most=true) (hF:FlowOk g cs f src dst) :
  ∃ x:List Int×Int,BlockOk g cs f src dst most x∧∃ k,evFn (f177.E k) 9 177 Tryz.f177 (encL [tG,tL,tL,tI,tI,tI] ((g,(cs,(f,(src,(dst,most))))):Gr×(List Int×(List Int×(Int×(Int×Int))))))=some (resB x.1 x.2):=by
 have hg:=caps_graph hc
 have hM:maxRate=4611686018427387904:=rfl
 have h1:0≤src∧src<g.1:=oD hs
 have h2:0≤dst∧dst<g.1:=oD hd
 have h3:0≤most∧most≤maxRate:=oD hm
 have hfl:=withinF_len hF.within
 have hcl:=capsMay_len hc
 have hp:=graphMay_parts hg
 have hL:levelsRes g cs f src=(levelsOf g cs f src,0):=by
  unfold levelsRes liesB
  rw [hc,hF.within,hs]
  rfl
 obtain ⟨x,e1,e2⟩:=L0_is (g:=g) (cs:=cs) (src:=src) (dst:=dst) hc h1 (6000+(most.toNat+1)) (by omega) most h3 hne h2 f (6000+(most.toNat+1)) 0 f (startsA g.2 g.1.toNat) (by omega) ⟨by omega,h3.1⟩ hF (by omega) (Nx.start hg) (fun _=>⟨rfl,rfl⟩)
 refine ⟨x,e2,6000+(most.toNat+1),(f177.eq _ g cs f src dst most).trans ?_⟩
 rw [hF.may hc hs hd hne,nT,cF,hm,nT,cF,hg,kT,bS,kT,bS,hL,dT (by omega:f.length*8≤140737488355328),kT,bS,startsA_len,dT (by omega:(g.1.toNat+1)*8≤140737488355328),kT,bS]
 exact e1
open Classical in
noncomputable def relC {α β:Type} (P:β→α→Prop) (x:β):Option α:=if h:∃ y,P x y then some (Classical.choose h) else none
theorem relC_is {α β:Type} {P:β→α→Prop} {x:β} (h:∃ y,P x y):∃ y,relC P x=some y∧P x y:=⟨Classical.choose h,dif_pos h,Classical.choose_spec h⟩
theorem relC_some {α β:Type} {P:β→α→Prop} {x:β} {y:α} (h:relC P x=some y):P x y:=by
 unfold relC at h
 split at h
 ·rename_i h'
  obtain rfl:=oJ h
  exact Classical.choose_spec h'
 ·cases h
def blockP (d:Gr×(List Int×(List Int×(Int×(Int×Int))))) (x:List Int×Int):Prop :=
 BlockOk d.1 d.2.1 d.2.2.1 d.2.2.2.1 d.2.2.2.2.1 d.2.2.2.2.2 x∧∃ k,evFn (f177.E k) 9 177 Tryz.f177 (encL [tG,tL,tL,tI,tI,tI] d)=some (resB x.1 x.2)
noncomputable def blockC (d:Gr×(List Int×(List Int×(Int×(Int×Int))))):Option (List Int×Int):=relC blockP d
theorem blockC_is {g:Gr} {cs f:List Int} {src dst most:Int} (hc:capsMay g cs=true) (hs:hasV g.1 src=true) (hd:hasV g.1 dst=true) (hne:src ≠ dst) (hm:rateB most=true) (hF:FlowOk g cs f src dst) :
  ∃ x:List Int×Int,blockC (g,(cs,(f,(src,(dst,most)))))=some x∧BlockOk g cs f src dst most x:=by
 obtain ⟨y,e1,e2⟩:=relC_is (P:=blockP) (x:=(g,(cs,(f,(src,(dst,most)))))) (f177_is hc hs hd hne hm hF)
 exact ⟨y,e1,e2.1⟩
noncomputable def S177:Summ:=summ [tG,tL,tL,tI,tI,tI] (List Int×Int) blockC (fun x=>resB x.1 x.2)
theorem ok177:SumOk Tryz.prog 177 S177 :=
 sumq f177.E (fn:=Tryz.f177) (code:=f177.code) f177.sums f177.inl fun d x hx=>by
  exact (relC_some (P:=blockP) hx).2
end
section
set_option maxRecDepth 100000
noncomputable def f127.E (k:Nat):Env:=mkEnv tt [(121,S121),(125,S125),(122,S122),(177,S177)] [] [(127,4,[.kill (rg [(0,0),(6,12),(15,74)]),.tidy])] [] k
noncomputable def f127.code:Go.Code:=cd Tryz.f127
noncomputable def f127.l0 (k n:Nat) (p0:List Int) (p1:Int) (p2:Int) (p3:Int) (p4:Int) (p5:Int) (p6:List (eL)) (p7:List Int):Option V :=
 atPath (f127.E k) n ⟨(.u::(.ro qI p0)::(.int .i64 p1)::(.int .i64 p2)::(.int .i64 p3)::(.ptr 1310736 (0) (0))::.u::.u::.u::.u::.u::.u::.u::(.slw 3407888)::(.int .i64 p4)::un 60),[],[(1310736,.box [(.int .i64 p5),(.ro qL p6)]),(3407888,.row qI p7)]⟩ 9 0 127 [.c 1,.c 1,.c 1,.c 0,.c 0] [] f127.code (finK tt Tryz.f127)
theorem f127.l0_eq (k n:Nat) (p0:List Int) (p1:Int) (p2:Int) (p3:Int) (p4:Int) (p5:Int) (p6:List (eL)) (p7:List Int):f127.l0 k (n+1) p0 p1 p2 p3 p4 p5 p6 p7 =
 bif decide (p4<p3) then ((blockC (((p5,p6),p0,p7,p1,p2,Go.IntKind.i64.wrap (p3 - p4)))).bind (fun y0=>bif y0.2==(0:Int) then (some (.tup [(.own qI p7),(.int .i64 p4),(.int .i64 0)])) else (f127.l0 k n p0 p1 p2 p3 (Go.IntKind.i64.wrap (p4+y0.2)) p5 p6 y0.1))) else (some (.tup [(.own qI p7),(.int .i64 p4),(.int .i64 0)])):=by kernel_rfl
theorem f127.eq (k:Nat) (x0:Int×List (eL)) (x1:List Int) (x2:Int) (x3:Int) (x4:Int):evFn (f127.E k) 9 127 Tryz.f127 (encL [(.pair qI (.list qL)),(.list qI),qI,qI,qI] (x0,x1,x2,x3,x4)) =
 bif !capsMay x0 x1 then (some (.tup [(.own qI ([])),(.int .i64 0),(.int .i64 1200)])) else (bif !hasV x0.1 x2 then (some (.tup [(.own qI ([])),(.int .i64 0),(.int .i64 1200)])) else (bif !hasV x0.1 x3 then (some (.tup [(.own qI ([])),(.int .i64 0),(.int .i64 1200)])) else (bif x2==x3 then (some (.tup [(.own qI ([])),(.int .i64 0),(.int .i64 1200)])) else (bif !rateB x4 then (some (.tup [(.own qI ([])),(.int .i64 0),(.int .i64 1200)])) else (chk (decide ((0:Int)≤(↑x1.length:Int)∧(↑x1.length:Int)≤(↑x1.length:Int))) (chk (decide (0<8∧(↑x1.length:Int)*(↑(8:Nat):Int)≤(140737488355328:Int))) (f127.l0 k k x1 x2 x3 x4 0 x0.1 x0.2 (List.replicate (↑x1.length:Int).toNat (dflt qI))))))))):=by kernel_rfl
theorem f127.inl (k:Nat):InlOk Tryz.prog (f127.E k):=inl_nil
theorem f127.sums (k:Nat):SumsOk Tryz.prog (f127.E k):=(sums_cons ok121 (sums_cons ok125 (sums_cons ok122 (sums_cons ok177 sums_nil))))
end
section
set_option maxRecDepth 100000
structure PushOk (g:Gr) (cs:List Int) (src dst want:Int) (f:List Int) (value:Int):Prop where
 flow:FlowOk g cs f src dst
 gain:gainV g.2 f src=value
 le:0≤value∧value≤want
 less:value<want→rdI (levelsOf g cs f src) dst<0
def pushForm (g:Gr) (cs:List Int) (src dst want:Int):Bool:=capsMay g cs&&(hasV g.1 src&&(hasV g.1 dst&&(!(src==dst)&&rateB want)))
@[reducible] def resB3 (x:List Int×(Int×Int)):V:=.tup [.own tI x.1,.int .i64 x.2.1,.int .i64 x.2.2]
theorem gain_zero (v:Int):∀ (gl:List Lk) (n:Nat),gainV gl (List.replicate n 0) v=0
 | [],n=>by simp [gainV]
 |l::gl,0=>by simp [gainV]
 |l::gl,n+1=>by
  rw [List.replicate_succ]
  simp only [gainV,gain_zero v gl n]
  cases l.1==v <;> cases l.2.1==v <;> simp only [cT,cF] <;> rfl
theorem flow_zero {g:Gr} {cs:List Int} (hc:capsMay g cs=true) (src dst:Int):FlowOk g cs (List.replicate cs.length 0) src dst:=by
 have hcl:=capsMay_len hc
 refine ⟨withinF_by (by simp) fun i hi=>?_,fun v _ _ _=>gain_zero _ _ _,fun i hi _=>rdI_replicate (by omega)⟩
 rw [rdI_replicate (by omega)]
 exact ⟨Int.le_refl _,(caps_le hc (List.mem_of_getElem? (rdI_get hi))).1⟩
theorem f127.l0_is (k:Nat) {g:Gr} {cs:List Int} {src dst want:Int} (hc:capsMay g cs=true) (hs:hasV g.1 src=true) (hd:hasV g.1 dst=true) (hne:src ≠ dst) (hm:0≤want∧want≤maxRate):∀ (n:Nat) (f:List Int) (v:Int),want - v<n→(0≤v∧v≤want)→FlowOk g cs f src dst→gainV g.2 f src=v →
  ∃ x:List Int×(Int×Int),f127.l0 k n cs src dst want v g.1 g.2 f=some (resB3 x)∧x.2.2=0∧PushOk g cs src dst want x.1 x.2.1
 |0,f,v,h,h',_,_=>by omega
 |n+1,f,v,h,h',hF,hG=>by
  have hM:maxRate=4611686018427387904:=rfl
  rw [f127.l0_eq]
  by_cases hlt:v<want
  ·have hw:Go.IntKind.i64.wrap (want - v)=want - v:=wrap64 (by omega)
   obtain ⟨x,e1,e2⟩:=blockC_is hc hs hd hne (show rateB (want - v)=true from dT (by omega)) hF
   rw [dT hlt,cT,hw,e1,bS]
   have h2:=e2.le
   cases h0:x.2==0 with
   |true =>
    have h0:=eq_of_beq h0
    rw [cT]
    exact ⟨(f,(v,0)),rfl,rfl,hF,hG,h',fun _=>(e2.none h0 (by omega)).2⟩
   |false =>
    have h0:=ne_of_beq_false h0
    rw [cF,wrap64 (n:=v+x.2) (by omega)]
    exact f127.l0_is k hc hs hd hne hm n x.1 (v+x.2) (by omega) (by omega) e2.flow (by rw [e2.gain,hG])
  ·rw [dF hlt,cF]
   exact ⟨(f,(v,0)),rfl,rfl,hF,hG,h',fun h3=>absurd h3 hlt⟩
def pushQ (d:Gr×(List Int×(Int×(Int×Int)))) (x:List Int×(Int×Int)):Prop :=
 bif pushForm d.1 d.2.1 d.2.2.1 d.2.2.2.1 d.2.2.2.2 then x.2.2=0∧PushOk d.1 d.2.1 d.2.2.1 d.2.2.2.1 d.2.2.2.2 x.1 x.2.1 else x=([],(0,1200))
def pushP (d:Gr×(List Int×(Int×(Int×Int)))) (x:List Int×(Int×Int)):Prop :=
 pushQ d x∧∃ k,evFn (f127.E k) 9 127 Tryz.f127 (encL [tG,tL,tI,tI,tI] d)=some (resB3 x)
noncomputable def pushC (d:Gr×(List Int×(Int×(Int×Int)))):Option (List Int×(Int×Int)):=relC pushP d
theorem f127_is (d:Gr×(List Int×(Int×(Int×Int)))):∃ x,pushP d x:=by
 obtain ⟨g,cs,src,dst,want⟩:=d
 cases hf:pushForm g cs src dst want with
 |true =>
  have hf':=hf
  unfold pushForm at hf'
  simp only [bA,Bool.not_eq_true'] at hf'
  obtain ⟨hc,hs,hd,hne,hm⟩:=hf'
  have hm':0≤want∧want≤maxRate:=oD hm
  have hcl:=capsMay_len hc
  have hp:=graphMay_parts (caps_graph hc)
  obtain ⟨x,e1,e2⟩:=f127.l0_is (want.toNat+1) hc hs hd (ne_of_beq_false hne) hm' (want.toNat+1) (List.replicate cs.length 0) 0 (by omega) (by omega) (flow_zero hc src dst) (gain_zero _ _ _)
  refine ⟨x,?_,want.toNat+1,(f127.eq _ g cs src dst want).trans ?_⟩
  ·unfold pushQ
   dsimp only
   rw [hf,cT]
   exact e2
  ·rw [hc,hs,hd,hne,hm,nT,cF,cF,cF,cF,cF,dT (by omega:(0:Int)≤(cs.length:Int)∧(cs.length:Int)≤(cs.length:Int)),kT,dT (by omega:0<8∧(cs.length:Int)*((8:Nat):Int)≤140737488355328),kT,Int.toNat_natCast]
   exact e1
 |false =>
  refine ⟨([],(0,1200)),?_,1,(f127.eq _ g cs src dst want).trans ?_⟩
  ·unfold pushQ
   dsimp only
   rw [hf,cF]
  ·unfold pushForm at hf
   revert hf
   cases capsMay g cs <;> cases hasV g.1 src <;> cases hasV g.1 dst <;> cases src==dst <;> cases rateB want <;> intro hf <;> simp only [nT,nF,cT,cF] <;> cases hf
theorem pushC_is {g:Gr} {cs:List Int} {src dst want:Int}:∃ x,pushC (g,(cs,(src,(dst,want))))=some x∧pushQ (g,(cs,(src,(dst,want)))) x:=by
 obtain ⟨y,e1,e2⟩:=relC_is (f127_is (g,(cs,(src,(dst,want)))))
 exact ⟨y,e1,e2.1⟩
noncomputable def S127:Summ:=summ [tG,tL,tI,tI,tI] (List Int×(Int×Int)) pushC resB3
theorem ok127:SumOk Tryz.prog 127 S127 :=
 sumq f127.E (fn:=Tryz.f127) (code:=f127.code) f127.sums f127.inl fun d x hx=>(relC_some (P:=pushP) hx).2
end
section
set_option maxRecDepth 100000
noncomputable def f246.E (k:Nat):Env:=mkEnv tt [] [] [(246,2,[.kill (rg [(0,0),(4,11),(15,38)]),.tidy])] [] k
noncomputable def f246.code:Go.Code:=cd Tryz.f246
noncomputable def f246.l0 (k n:Nat) (p0:List Int) (p1:List Bool) (p2:Int) (p3:List (eL)) (p4:Int) (p5:Int):Option V :=
 atPath (f246.E k) n ⟨(.u::(.ro qI p0)::(.ro .bool p1)::(.int .i64 p2)::.u::.u::.u::.u::.u::.u::.u::.u::(.ro qL p3)::(.int .i64 p4)::(.int .i64 p5)::un 24),[],[]⟩ 9 0 246 [.c 1,.c 0,.c 1,.c 0] [] f246.code (finK tt Tryz.f246)
theorem f246.l0_eq (k n:Nat) (p0:List Int) (p1:List Bool) (p2:Int) (p3:List (eL)) (p4:Int) (p5:Int):f246.l0 k (n+1) p0 p1 p2 p3 p4 p5 =
 bif decide (p5<p4) then (chk (decide ((0:Int)≤p5∧p5<(↑p3.length:Int))) (bif (rd qL p3 p5).1==p2 then (chk (decide ((0:Int)≤(rd qL p3 p5).2.1∧(rd qL p3 p5).2.1<(↑p1.length:Int))) (bif rd Ty.bool p1 (rd qL p3 p5).2.1 then (chk (decide ((0:Int)≤p5∧p5<(↑p0.length:Int))) (bif decide (rd qI p0 p5>(0:Int)) then (some (.int .i64 p5)) else (f246.l0 k n p0 p1 p2 p3 p4 (Go.IntKind.i64.wrap (p5+(1:Int)))))) else (f246.l0 k n p0 p1 p2 p3 p4 (Go.IntKind.i64.wrap (p5+(1:Int)))))) else (f246.l0 k n p0 p1 p2 p3 p4 (Go.IntKind.i64.wrap (p5+(1:Int)))))) else (some (.int .i64 ((-1:Int)))):=by kernel_rfl
theorem f246.eq (k:Nat) (x0:Int×List (eL)) (x1:List Int) (x2:List Bool) (x3:Int):evFn (f246.E k) 9 246 Tryz.f246 (encL [(.pair qI (.list qL)),(.list qI),(.list .bool),qI] (x0,x1,x2,x3)) =
 f246.l0 k k x1 x2 x3 x0.2 ((↑(x0.2.length):Int)) 0:=by kernel_rfl
theorem f246.inl (k:Nat):InlOk Tryz.prog (f246.E k):=inl_nil
theorem f246.sums (k:Nat):SumsOk Tryz.prog (f246.E k):=sums_nil
noncomputable def f247.E (k:Nat):Env:=mkEnv tt [] [] [(247,2,[.kill (rg [(2,6),(9,18)]),.tidy])] [] k
noncomputable def f247.code:Go.Code:=cd Tryz.f247
noncomputable def f247.l0 (k n:Nat) (p0:List Int) (p1:Int) (p2:Int) (p3:Int):Option V :=
 atPath (f247.E k) n ⟨((.ro qI p0)::(.int .i64 p1)::.u::.u::.u::.u::.u::(.int .i64 p2)::(.int .i64 p3)::un 10),[],[]⟩ 9 0 247 [.c 1,.c 0,.c 1,.c 0] [] f247.code (finK tt Tryz.f247)
theorem f247.l0_eq (k n:Nat) (p0:List Int) (p1:Int) (p2:Int) (p3:Int):f247.l0 k (n+1) p0 p1 p2 p3 =
 bif decide (p3<p2) then (chk (decide ((0:Int)≤p3∧p3<(↑p0.length:Int))) (bif p1==rd qI p0 p3 then (some (.int .i64 p3)) else (f247.l0 k n p0 p1 p2 (Go.IntKind.i64.wrap (p3+(1:Int)))))) else (some (.int .i64 ((-1:Int)))):=by kernel_rfl
theorem f247.eq (k:Nat) (x0:List Int) (x1:Int):evFn (f247.E k) 9 247 Tryz.f247 (encL [(.list qI),qI] (x0,x1)) =
 f247.l0 k k x0 x1 ((↑x0.length:Int)) 0:=by kernel_rfl
theorem f247.inl (k:Nat):InlOk Tryz.prog (f247.E k):=inl_nil
theorem f247.sums (k:Nat):SumsOk Tryz.prog (f247.E k):=sums_nil
noncomputable def f245.E (k:Nat):Env:=mkEnv tt [] [] [(245,2,[.kill (rg [(2,6),(9,18)]),.tidy])] [] k
noncomputable def f245.code:Go.Code:=cd Tryz.f245
noncomputable def f245.l0 (k n:Nat) (p0:List Bool) (p1:Bool) (p2:Int) (p3:Int):Option V :=
 atPath (f245.E k) n ⟨((.ro .bool p0)::(.bool p1)::.u::.u::.u::.u::.u::(.int .i64 p2)::(.int .i64 p3)::un 10),[],[]⟩ 9 0 245 [.c 1,.c 0,.c 1,.c 0] [] f245.code (finK tt Tryz.f245)
theorem f245.l0_eq (k n:Nat) (p0:List Bool) (p1:Bool) (p2:Int) (p3:Int):f245.l0 k (n+1) p0 p1 p2 p3 =
 bif decide (p3<p2) then (chk (decide ((0:Int)≤p3∧p3<(↑p0.length:Int))) (bif p1==rd Ty.bool p0 p3 then (some (.int .i64 p3)) else (f245.l0 k n p0 p1 p2 (Go.IntKind.i64.wrap (p3+(1:Int)))))) else (some (.int .i64 ((-1:Int)))):=by kernel_rfl
theorem f245.eq (k:Nat) (x0:List Bool) (x1:Bool):evFn (f245.E k) 9 245 Tryz.f245 (encL [(.list .bool),.bool] (x0,x1)) =
 f245.l0 k k x0 x1 ((↑x0.length:Int)) 0:=by kernel_rfl
theorem f245.inl (k:Nat):InlOk Tryz.prog (f245.E k):=inl_nil
theorem f245.sums (k:Nat):SumsOk Tryz.prog (f245.E k):=sums_nil
noncomputable def f221.E (k:Nat):Env:=mkEnv tt [] [] [(221,3,[.kill (rg [(1,4),(6,7),(11,22)]),.tidy])] [] k
noncomputable def f221.code:Go.Code:=cd Tryz.f221
noncomputable def f221.l0 (k n:Nat) (p0:List Int) (p1:List Int) (p2:Int) (p3:Int) (p4:List Int):Option V :=
 atPath (f221.E k) n ⟨((.ro qI p0)::.u::.u::.u::.u::(.slw 1310736)::.u::.u::(.ro qI p1)::(.int .i64 p2)::(.int .i64 p3)::un 12),[],[(1310736,.row qI p4)]⟩ 9 0 221 [.c 1,.c 1,.c 0,.c 1,.c 0] [] f221.code (finK tt Tryz.f221)
theorem f221.l0_eq (k n:Nat) (p0:List Int) (p1:List Int) (p2:Int) (p3:Int) (p4:List Int):f221.l0 k (n+1) p0 p1 p2 p3 p4 =
 bif decide (p3<p2) then (chk (decide ((0:Int)≤p3∧p3<(↑p1.length:Int))) (chk (decide ((0:Int)≤rd qI p1 p3∧rd qI p1 p3<(↑p0.length:Int))) (chk (decide ((p4++[rd qI p0 (rd qI p1 p3)]).length*8≤140737488355328)) (f221.l0 k n p0 p1 p2 (Go.IntKind.i64.wrap (p3+(1:Int))) (p4++[rd qI p0 (rd qI p1 p3)]))))) else (some (.own qI p4)):=by kernel_rfl
theorem f221.eq (k:Nat) (x0:List Int) (x1:List Int):evFn (f221.E k) 9 221 Tryz.f221 (encL [(.list qI),(.list qI)] (x0,x1)) =
 f221.l0 k k x0 x1 ((↑x1.length:Int)) 0 ([]):=by kernel_rfl
theorem f221.inl (k:Nat):InlOk Tryz.prog (f221.E k):=inl_nil
theorem f221.sums (k:Nat):SumsOk Tryz.prog (f221.E k):=sums_nil
noncomputable def f219.E (k:Nat):Env:=mkEnv tt [(175,S175),(215,S215)] [] [] [] k
noncomputable def f219.code:Go.Code:=cd Tryz.f219
theorem f219.eq (k:Nat) (x0:Int×List (eL)) (x1:List Int):evFn (f219.E k) 9 219 Tryz.f219 (encL [(.pair qI (.list qL)),(.list qI)] (x0,x1)) =
 (chk (decide (x0.2.length≤16777216)) (some (capsOf x0))).bind (fun y0=>some (.bool (liesB x0 y0 x1))):=by kernel_rfl
theorem f219.inl (k:Nat):InlOk Tryz.prog (f219.E k):=inl_nil
theorem f219.sums (k:Nat):SumsOk Tryz.prog (f219.E k):=(sums_cons ok175 (sums_cons ok215 sums_nil))
noncomputable def f222.E (k:Nat):Env:=mkEnv tt [] [] [(222,2,[.kill (rg [(0,0),(3,9),(13,29)]),.tidy])] [] k
noncomputable def f222.code:Go.Code:=cd Tryz.f222
noncomputable def f222.l0 (k n:Nat) (p0:List Int) (p1:Int) (p2:List (eL)) (p3:Int) (p4:Int):Option V :=
 atPath (f222.E k) n ⟨(.u::(.ro qI p0)::(.int .i64 p1)::.u::.u::.u::.u::.u::.u::.u::(.ro qL p2)::(.int .i64 p3)::(.int .i64 p4)::un 17),[],[]⟩ 9 0 222 [.c 1,.c 0,.c 1,.c 0] [] f222.code (finK tt Tryz.f222)
theorem f222.l0_eq (k n:Nat) (p0:List Int) (p1:Int) (p2:List (eL)) (p3:Int) (p4:Int):f222.l0 k (n+1) p0 p1 p2 p3 p4 =
 bif decide (p4<p3) then (chk (decide ((0:Int)≤p4∧p4<(↑p2.length:Int))) (bif (rd qL p2 p4).1==p1 then (chk (decide ((0:Int)≤p4∧p4<(↑p0.length:Int))) (bif decide (rd qI p0 p4>(0:Int)) then (some (.int .i64 p4)) else (f222.l0 k n p0 p1 p2 p3 (Go.IntKind.i64.wrap (p4+(1:Int)))))) else (f222.l0 k n p0 p1 p2 p3 (Go.IntKind.i64.wrap (p4+(1:Int)))))) else (some (.int .i64 ((-1:Int)))):=by kernel_rfl
theorem f222.eq (k:Nat) (x0:Int×List (eL)) (x1:List Int) (x2:Int):evFn (f222.E k) 9 222 Tryz.f222 (encL [(.pair qI (.list qL)),(.list qI),qI] (x0,x1,x2)) =
 f222.l0 k k x1 x2 x0.2 ((↑(x0.2.length):Int)) 0:=by kernel_rfl
theorem f222.inl (k:Nat):InlOk Tryz.prog (f222.E k):=inl_nil
theorem f222.sums (k:Nat):SumsOk Tryz.prog (f222.E k):=sums_nil
end
section
set_option maxRecDepth 100000
def searchI (n:Nat) (p:Int→Bool):Int:=((upto n).find? p).getD (-1)
theorem searchI_cases (n:Nat) (p:Int→Bool):(searchI n p=-1∧∀ i,0≤i∧i<(n:Int)→p i=false)∨((0≤searchI n p∧searchI n p<(n:Int))∧p (searchI n p)=true):=by
 unfold searchI
 cases h:(upto n).find? p with
 |none =>
  refine .inl ⟨rfl,fun i hi=>?_⟩
  have:=List.find?_eq_none.1 h i (upto_mem.2 hi)
  simpa using this
 |some a =>
  refine .inr ⟨upto_mem.1 (List.mem_of_find?_eq_some h),List.find?_some h⟩
theorem search_loop (F:Nat→Int→Option V) (len:Nat) (p:Int→Bool) (hstep:∀ (n i:Nat),i<len→F (n+1) (i:Int)=bif p (i:Int) then some (.int .i64 (i:Int)) else F n ((i+1:Nat):Int)) (hend:∀ n,F (n+1) (len:Int)=some (.int .i64 (-1))) :
  ∀ (n i:Nat),i≤len→len<n+i→F n (i:Int)=some (.int .i64 ((((upto len).drop i).find? p).getD (-1)))
 |0,i,h,h'=>by omega
 |n+1,i,h,h'=>by
  by_cases hlt:i<len
  ·have hu:i<(upto len).length:=by rw [upto_length];exact hlt
   have hg:(upto len)[i]=(i:Int):=(List.getElem?_eq_some_iff.1 (upto_get hlt)).2
   rw [hstep n i hlt,List.drop_eq_getElem_cons hu,hg,List.find?_cons]
   cases p (i:Int) with
   |true=>rw [cT];rfl
   |false=>rw [cF,search_loop F len p hstep hend n (i+1) (by omega) (by omega)]
  ·obtain rfl:i=len:=by omega
   rw [hend,List.drop_eq_nil_of_le (by rw [upto_length];omega)]
   rfl
def rdB (st:List Bool) (i:Int):Bool:=rd .bool st i
def onB (gl:List Lk) (f:List Int) (st:List Bool) (v i:Int):Bool:=((lk gl i).1==v)&&(rdB st (lk gl i).2.1&&decide (rdI f i>0))
def onA (gl:List Lk) (f:List Int) (st:List Bool) (v:Int):Int:=searchI gl.length (onB gl f st v)
def nextB (gl:List Lk) (f:List Int) (v i:Int):Bool:=((lk gl i).1==v)&&decide (rdI f i>0)
def nextA (gl:List Lk) (f:List Int) (v:Int):Int:=searchI gl.length (nextB gl f v)
theorem lk_at {g:Gr} (hg:graphMay g=true) {i:Int} (hi:0≤i∧i<(g.2.length:Int)):(0≤(lk g.2 i).1∧(lk g.2 i).1<g.1)∧(0≤(lk g.2 i).2.1∧(lk g.2 i).2.1<g.1)∧(lk g.2 i).1 ≠ (lk g.2 i).2.1:=by
 have hlt:i.toNat<g.2.length:=by omega
 have hx:=gE hlt
 have e:lk g.2 i=g.2[i.toNat]:=by
  have:=rd_some (t:=tLk) hx
  rw [show ((i.toNat:Nat):Int)=i by omega] at this
  exact this
 rw [e]
 exact link_at hg hx
@[reducible] def tBL:Ty:=.list .bool
def onForm (d:Gr×(List Int×(List Bool×Int))):Bool:=graphMay d.1&&(d.2.1.length==d.1.2.length&&((d.2.2.1.length:Int)==d.1.1))
noncomputable def S246:Summ:=summ [tG,tL,tBL,tI] Int (fun (d:Gr×(List Int×(List Bool×Int)))=>chk (onForm d) (some (onA d.1.2 d.2.1 d.2.2.1 d.2.2.2))) (.int .i64)
theorem ok246:SumOk Tryz.prog 246 S246 :=
 sumq f246.E (fn:=Tryz.f246) (code:=f246.code) f246.sums f246.inl fun (d:Gr×(List Int×(List Bool×Int))) x hx=>by
  obtain ⟨g,f,st,v⟩:=d
  obtain ⟨hg,hx⟩:=chk_some hx
  obtain rfl:=oJ hx
  unfold onForm at hg
  simp only [bA] at hg
  obtain ⟨hg,hl,hs⟩:=hg
  have hl:=eq_of_beq hl
  have hs:=eq_of_beq hs
  have hp:=graphMay_parts hg
  refine ⟨g.2.length+1,(f246.eq _ g f st v).trans ?_⟩
  have:=search_loop (fun n i=>f246.l0 (g.2.length+1) n f st v g.2 (g.2.length:Int) i) g.2.length (onB g.2 f st v) (fun n i hi=>?_) (fun n=>?_) (g.2.length+1) 0 (by omega) (by omega)
  ·exact this
  ·have hk:=lk_at hg (i:=(i:Int)) (by omega)
   rw [f246.l0_eq,dT (by omega:(i:Int)<(g.2.length:Int)),cT,dT (by omega:(0:Int)≤(i:Int)∧(i:Int)<(g.2.length:Int)),kT,wrap_succ (by omega)]
   have c1:decide ((0:Int)≤(lk g.2 i).2.1∧(lk g.2 i).2.1<(st.length:Int))=true:=dT (by omega)
   have c2:decide ((0:Int)≤(i:Int)∧(i:Int)<(f.length:Int))=true:=dT (by omega)
   unfold onB
   show (bif (lk g.2 i).1==v then chk (decide ((0:Int)≤(lk g.2 i).2.1∧(lk g.2 i).2.1<(st.length:Int))) (bif rdB st (lk g.2 i).2.1 then chk (decide ((0:Int)≤(i:Int)∧(i:Int)<(f.length:Int))) (bif decide (rdI f i>0) then _ else _) else _) else _)=_
   rw [c1,c2,kT,kT]
   cases (lk g.2 i).1==v <;> cases rdB st (lk g.2 i).2.1 <;> cases decide (rdI f i>0) <;> simp only [cT,cF,tA,fA,Bool.and_false]
  ·rw [f246.l0_eq,dF (by omega:¬ (g.2.length:Int)<(g.2.length:Int)),cF]
def nextForm (d:Gr×(List Int×Int)):Bool:=graphMay d.1&&(d.2.1.length==d.1.2.length)
noncomputable def S222:Summ:=summ [tG,tL,tI] Int (fun (d:Gr×(List Int×Int))=>chk (nextForm d) (some (nextA d.1.2 d.2.1 d.2.2))) (.int .i64)
theorem ok222:SumOk Tryz.prog 222 S222 :=
 sumq f222.E (fn:=Tryz.f222) (code:=f222.code) f222.sums f222.inl fun (d:Gr×(List Int×Int)) x hx=>by
  obtain ⟨g,f,v⟩:=d
  obtain ⟨hg,hx⟩:=chk_some hx
  obtain rfl:=oJ hx
  unfold nextForm at hg
  simp only [bA] at hg
  obtain ⟨hg,hl⟩:=hg
  have hl:=eq_of_beq hl
  have hp:=graphMay_parts hg
  refine ⟨g.2.length+1,(f222.eq _ g f v).trans ?_⟩
  have:=search_loop (fun n i=>f222.l0 (g.2.length+1) n f v g.2 (g.2.length:Int) i) g.2.length (nextB g.2 f v) (fun n i hi=>?_) (fun n=>?_) (g.2.length+1) 0 (by omega) (by omega)
  ·exact this
  ·rw [f222.l0_eq,dT (by omega:(i:Int)<(g.2.length:Int)),cT,dT (by omega:(0:Int)≤(i:Int)∧(i:Int)<(g.2.length:Int)),kT,wrap_succ (by omega)]
   have c2:decide ((0:Int)≤(i:Int)∧(i:Int)<(f.length:Int))=true:=dT (by omega)
   unfold nextB
   show (bif (lk g.2 i).1==v then chk (decide ((0:Int)≤(i:Int)∧(i:Int)<(f.length:Int))) (bif decide (rdI f i>0) then _ else _) else _)=_
   rw [c2,kT]
   cases (lk g.2 i).1==v <;> cases decide (rdI f i>0) <;> simp only [cT,cF,tA,fA]
  ·rw [f222.l0_eq,dF (by omega:¬ (g.2.length:Int)<(g.2.length:Int)),cF]
noncomputable def S247:Summ:=summ [tL,tI] Int (fun (d:List Int×Int)=>chk (decide (d.1.length<4611686018427387904)) (some (searchI d.1.length fun i=>d.2==rdI d.1 i))) (.int .i64)
theorem ok247:SumOk Tryz.prog 247 S247 :=
 sumq f247.E (fn:=Tryz.f247) (code:=f247.code) f247.sums f247.inl fun (d:List Int×Int) x hx=>by
  obtain ⟨xs,v⟩:=d
  obtain ⟨hl,hx⟩:=chk_some hx
  obtain rfl:=oJ hx
  have hl:xs.length<4611686018427387904:=oD hl
  refine ⟨xs.length+1,(f247.eq _ xs v).trans ?_⟩
  have:=search_loop (fun n i=>f247.l0 (xs.length+1) n xs v (xs.length:Int) i) xs.length (fun i=>v==rdI xs i) (fun n i hi=>?_) (fun n=>?_) (xs.length+1) 0 (by omega) (by omega)
  ·exact this
  ·rw [f247.l0_eq,dT (by omega:(i:Int)<(xs.length:Int)),cT,dT (by omega:(0:Int)≤(i:Int)∧(i:Int)<(xs.length:Int)),kT,wrap_succ (by omega)]
   rfl
  ·rw [f247.l0_eq,dF (by omega:¬ (xs.length:Int)<(xs.length:Int)),cF]
noncomputable def S245:Summ:=summ [tBL,.bool] Int (fun (d:List Bool×Bool)=>chk (decide (d.1.length<4611686018427387904)) (some (searchI d.1.length fun i=>d.2==rdB d.1 i))) (.int .i64)
theorem ok245:SumOk Tryz.prog 245 S245 :=
 sumq f245.E (fn:=Tryz.f245) (code:=f245.code) f245.sums f245.inl fun (d:List Bool×Bool) x hx=>by
  obtain ⟨xs,v⟩:=d
  obtain ⟨hl,hx⟩:=chk_some hx
  obtain rfl:=oJ hx
  have hl:xs.length<4611686018427387904:=oD hl
  refine ⟨xs.length+1,(f245.eq _ xs v).trans ?_⟩
  have:=search_loop (fun n i=>f245.l0 (xs.length+1) n xs v (xs.length:Int) i) xs.length (fun i=>v==rdB xs i) (fun n i hi=>?_) (fun n=>?_) (xs.length+1) 0 (by omega) (by omega)
  ·exact this
  ·rw [f245.l0_eq,dT (by omega:(i:Int)<(xs.length:Int)),cT,dT (by omega:(0:Int)≤(i:Int)∧(i:Int)<(xs.length:Int)),kT,wrap_succ (by omega)]
   rfl
  ·rw [f245.l0_eq,dF (by omega:¬ (xs.length:Int)<(xs.length:Int)),cF]
def inL (n:Nat) (ws:List Int):Bool:=ws.all fun l=>decide (0≤l∧l<(n:Int))
noncomputable def S221:Summ:=summ [tL,tL] (List Int) (fun (d:List Int×List Int)=>chk (decide (d.2.length≤64)&&inL d.1.length d.2) (some (d.2.map (rdI d.1)))) (.own tI)
theorem f221.l0_is (k:Nat) (f ws:List Int) (hl:ws.length≤64) (hw:inL f.length ws=true):∀ (n i:Nat),i≤ws.length→ws.length<n+i→f221.l0 k n f ws (ws.length:Int) (i:Int) ((ws.take i).map (rdI f))=some (.own tI (ws.map (rdI f)))
 |0,i,h,h'=>by omega
 |n+1,i,h,h'=>by
  rw [f221.l0_eq]
  by_cases hlt:i<ws.length
  ·have hx:=gE hlt
   have h1:=oD (List.all_eq_true.1 hw _ (List.getElem_mem hlt))
   have e1:rd (Ty.int Go.IntKind.i64) ws (i:Int)=ws[i]:=rd_some (t:=tI) hx
   have e2:rd (Ty.int Go.IntKind.i64) f ws[i]=rdI f ws[i]:=rfl
   rw [e1,e2,dT (by omega:(i:Int)<(ws.length:Int)),cT,dT (by omega:(0:Int)≤(i:Int)∧(i:Int)<(ws.length:Int)),kT,dT h1,kT,
    dT (by rw [lA,List.length_map,List.length_take,List.length_singleton];omega:((ws.take i).map (rdI f)++[rdI f ws[i]]).length*8≤140737488355328),kT,wrap_succ (by omega),
    ← f221.l0_is k f ws hl hw n (i+1) (by omega) (by omega),List.take_add_one,hx,List.map_append]
   rfl
  ·obtain rfl:i=ws.length:=by omega
   rw [dF (by omega:¬ (ws.length:Int)<(ws.length:Int)),cF,List.take_length]
theorem ok221:SumOk Tryz.prog 221 S221 :=
 sumq f221.E (fn:=Tryz.f221) (code:=f221.code) f221.sums f221.inl fun (d:List Int×List Int) x hx=>by
  obtain ⟨f,ws⟩:=d
  obtain ⟨h,hx⟩:=chk_some hx
  obtain rfl:=oJ hx
  rw [bA] at h
  exact ⟨ws.length+1,(f221.eq _ f ws).trans (f221.l0_is _ f ws (oD h.1) h.2 (ws.length+1) 0 (by omega) (by omega))⟩
theorem capsMay_own {g:Gr} (h:graphMay g=true):capsMay g (capsOf g)=true:=by
 have h':=h
 unfold graphMay at h'
 rw [bA] at h'
 obtain ⟨t,ht⟩:=Option.isSome_iff_exists.1 h'.2
 have a:=(sumUp_lo _ _ _ ht (by omega) (by decide)).2.2
 unfold capsMay
 rw [h,tA]
 refine withinL_of (by simp [capsOf]) fun i c l hc hl=>?_
 have:(capsOf g)[i]? = some l.2.2:=by simp [capsOf,hl]
 rw [this] at hc
 obtain rfl:=oJ hc
 exact ⟨(a _ (List.mem_of_getElem? this)).1,Int.le_refl _⟩
theorem lies_own {g:Gr} (h:graphMay g=true) (f:List Int):liesB g (capsOf g) f=capsMay g f:=by
 cases hf:capsMay g f with
 |true =>
  have hl:=capsMay_len hf
  have hf':=hf
  unfold capsMay at hf'
  rw [bA] at hf'
  unfold liesB
  rw [capsMay_own h,tA]
  refine withinF_of (by simp [capsOf,hl]) fun i x c hx hc=>?_
  have hi:i<g.2.length:=by rw [← hl];exact idx_lt hx
  have hl':=gE hi
  have:(capsOf g)[i]? = some g.2[i].2.2:=by simp [capsOf,hi]
  rw [this] at hc
  obtain rfl:=oJ hc
  exact withinL_at hf'.2 hx hl'
 |false =>
  cases hb:liesB g (capsOf g) f with
  |true=>rw [lies_caps hb] at hf;cases hf
  |false=>rfl
noncomputable def S219:Summ:=summ [tG,tL] Bool (fun (d:Gr×List Int)=>chk (graphMay d.1) (some (capsMay d.1 d.2))) .bool
theorem ok219:SumOk Tryz.prog 219 S219 :=
 sumq f219.E (fn:=Tryz.f219) (code:=f219.code) f219.sums f219.inl fun (d:Gr×List Int) x hx=>by
  obtain ⟨g,f⟩:=d
  obtain ⟨h,hx⟩:=chk_some hx
  obtain rfl:=oJ hx
  have h:graphMay g=true:=h
  have hp:=graphMay_parts h
  refine ⟨1,(f219.eq _ g f).trans ?_⟩
  rw [dT (by omega:g.2.length≤16777216),kT,bS,lies_own h]
end
section
set_option maxRecDepth 100000
noncomputable def f244.E (k:Nat):Env:=mkEnv tt [(246,S246),(263,S263)] [] [(244,5,[.kill (rg [(0,0),(3,4),(6,11),(14,15),(18,37)]),.tidy]),(244,3,[.kill (rg [(0,0),(3,4),(6,11),(14,37)]),.tidy])] [] k
noncomputable def f244.code:Go.Code:=cd Tryz.f244
noncomputable def f244.l0 (k n:Nat) (p0:List Int) (p1:Int) (p2:Int) (p3:List (eL)) (p4:List Bool):Option V :=
 atPath (f244.E k) n ⟨(.u::(.ro qI p0)::(.ptr 524304 (0) (0))::.u::.u::(.slw 1310736)::.u::.u::.u::.u::.u::.u::(.int .i64 p1)::(.int .i64 p2)::un 24),[],[(524304,.box [(.int .i64 p1),(.ro qL p3)]),(1310736,.row .bool p4)]⟩ 9 0 244 [.c 1,.c 1,.c 0,.c 1,.c 0] [] f244.code (finK tt Tryz.f244)
noncomputable def f244.l1 (k n m0:Nat) (p0:List Int) (p1:Int) (p2:Int) (p3:Int) (p4:Int) (p5:List (eL)) (p6:List Bool):Option V :=
 atPath (f244.E k) n ⟨(.u::(.ro qI p0)::(.ptr 524304 (0) (0))::.u::.u::(.slw 1310736)::.u::.u::.u::.u::.u::.u::(.int .i64 p1)::(.int .i64 p2)::.u::.u::(.int .i64 p3)::(.int .i64 p4)::un 20),[],[(524304,.box [(.int .i64 p1),(.ro qL p5)]),(1310736,.row .bool p6)]⟩ 9 0 244 [.c 1,.c 1,.c 0,.c 1,.c 0,.c 0,.c 1,.c 1,.c 0,.c 0,.c 1,.c 0] [m0] f244.code (finK tt Tryz.f244)
theorem f244.l0_eq (k n:Nat) (p0:List Int) (p1:Int) (p2:Int) (p3:List (eL)) (p4:List Bool):f244.l0 k (n+1) p0 p1 p2 p3 p4 =
 bif decide (p2<p1) then (f244.l1 k k n p0 p1 p2 ((↑p4.length:Int)) 0 p3 p4) else (some (.own .bool p4)):=by kernel_rfl
theorem f244.l1_eq (k n m0:Nat) (p0:List Int) (p1:Int) (p2:Int) (p3:Int) (p4:Int) (p5:List (eL)) (p6:List Bool):f244.l1 k (n+1) m0 p0 p1 p2 p3 p4 p5 p6 =
 bif decide (p4<p3) then (chk (decide ((0:Int)≤p4∧p4<(↑p6.length:Int))) (bif rd Ty.bool p6 (↑p4.toNat:Int) then ((chk (onForm ((p1,p5),p0,p6,p4)) (some (onA p5 p0 p6 p4))).bind (fun y0=>chk (decide ((0:Int)≤p4∧p4<(↑p6.length:Int))) (f244.l1 k n m0 p0 p1 p2 p3 (Go.IntKind.i64.wrap (p4+(1:Int))) p5 (p6.set p4.toNat (decide (y0 ≥ (0:Int))))))) else (chk (decide ((0:Int)≤p4∧p4<(↑p6.length:Int))) (f244.l1 k n m0 p0 p1 p2 p3 (Go.IntKind.i64.wrap (p4+(1:Int))) p5 (p6.set p4.toNat false))))) else (f244.l0 k m0 p0 p1 (Go.IntKind.i64.wrap (p2+(1:Int))) p5 p6):=by kernel_rfl
theorem f244.eq (k:Nat) (x0:Int×List (eL)) (x1:List Int):evFn (f244.E k) 9 244 Tryz.f244 (encL [(.pair qI (.list qL)),(.list qI)] (x0,x1)) =
 (chk ([true]==[true]&&decide ((1:Int)≤x0.1∧x0.1≤(8:Int))) (some (List.replicate (Int.toNat x0.1) true))).bind (fun y0=>f244.l0 k k x1 x0.1 0 x0.2 y0):=by kernel_rfl
theorem f244.inl (k:Nat):InlOk Tryz.prog (f244.E k):=inl_nil
theorem f244.sums (k:Nat):SumsOk Tryz.prog (f244.E k):=(sums_cons ok246 (sums_cons ok263 sums_nil))
end
end Go.Proofs.YtkflbkcfabnomaaGreat.R
