import Derived.Test.YtkflbkcfabnomaaGreatP8f
import Derived.Test.YtkflbkcfabnomaaGreatRows
import Derived.WalkKit
import Derived.ProofKit
namespace Go.Proofs.YtkflbkcfabnomaaGreat.R
set_option linter.unusedVariables false
set_option linter.unusedSimpArgs false
section
theorem rising_lenq {n:Int}:∀ {vs:List Int} {q:Int},q<n→risingB n (some q) vs=true→(vs.length:Int)≤n - 1 - q
 | [],q,h,_=>by simp only [List.length_nil];omega
 |v::vs,q,h,hr=>by
  simp only [risingB,hasV,bA,dE] at hr
  have:=rising_lenq (vs:=vs) hr.1.2 hr.2.2
  simp only [List.length_cons]
  omega
theorem cut_len {g:Gr} {src dst:Int} {vs:List Int} (h:cutMay g src dst vs=true):vs.length≤8:=by
 have h1:=(cutMay_parts h).1
 have hg:graphMay g=true:=by
  unfold cutMay at h
  simp only [bA] at h
  exact h.1.2
 unfold graphMay shapeB at hg
 simp only [bA,dE] at hg
 cases vs with
 |nil=>simp
 |cons v vs =>
  simp only [risingB,hasV,bA,dE] at h1
  have:=rising_lenq (vs:=vs) h1.1.2 h1.2.2
  simp only [List.length_cons]
  omega
theorem route_verts (d:Gr×(List Int×(Int×(Int×Int)))):(routeV d).2.1.length≤8:=by
 have h:=(routeV_is d).2
 unfold routeQ at h
 cases hf:routeForm d.1 d.2.1 d.2.2.1 d.2.2.2.1 d.2.2.2.2 with
 |false=>rw [hf,cF] at h;rw [h];simp
 |true =>
  rw [hf,cT] at h
  rcases h.2.either with ⟨h2,_⟩|⟨_,h2,_⟩
  ·rw [h2];simp
  ·exact cut_len h2
theorem planFrom_cut (g:Gr) (src dst want:Int):∀ (ss:List Sg) (out:List Pc),(planFrom g src dst want ss out).2.2.length≤8
 | [],out=>by simp [planFrom]
 |s::ss,out=>by
  unfold planFrom
  cases ((routeV (g,s.2,src,dst,want)).1.length:Int)==0 with
  |true=>rw [cT];exact route_verts _
  |false=>rw [cF];exact planFrom_cut g src dst want ss _
theorem mem_small {ps:List Pc} (h:pcsMem ps=true):smallPcs ps=true:=by
 unfold pcsMem at h
 simp only [bA,dE] at h
 unfold smallPcs
 rw [dT (by omega),tA]
 refine List.all_eq_true.2 fun p hp=>?_
 have:=List.all_eq_true.1 h.2 p hp
 unfold cpPiece at this
 simp only [bA,dE] at this
 unfold smallP
 rw [dT (by omega),tA]
 refine List.all_eq_true.2 fun w hw=>?_
 have:=List.all_eq_true.1 this.2 w hw
 unfold cpPath at this
 exact dT (by have:=oD this;omega)
theorem mem_smallR {r:Rp} (h:rpMem r=true):rpSmall r=true:=by
 unfold rpMem at h
 simp only [bA,dE] at h
 unfold rpSmall
 rw [dT (by omega),mem_small h.2]
 rfl
theorem grant_mem {r:Rs} (h:pcsMem r.pcs=true):rpMem (grantR r)=true:=by
 unfold rpMem
 show (decide (([]:List Int).length*8≤140737488355328)&&pcsMem r.pcs)=true
 rw [h]
 rfl
theorem put_mem {b:Bk} {o:Int} {q:Rq} {ps:List Pc} (h:pcsMem ps=true):rpMem (putQ b o q ps).2.1=true:=by
 unfold putQ
 cases asksB q with
 |false=>rfl
 |true =>
  cases passB b o q with
  |false=>rfl
  |true =>
   cases mayW b.1 (wishQ b q) ps with
   |false=>rfl
   |true =>
    cases fitsW b.1 (wishQ b q) ps with
    |false=>rfl
    |true =>
     cases q.2.1==1 with
     |true=>exact grant_mem (r:=putRes b o q ps b.2.2.2.1) h
     |false=>exact grant_mem (r:=putRes b o q ps q.2.2.1) h
theorem ask_kinds {b:Bk} {o:Int} {q:Rq} (hl:(lookQ b o q).2=0) (k3:(q.2.1==3)=false) (k4:(q.2.1==4)=false) (k5:(q.2.1==5)=false) (k6:(q.2.1==6)=false):q.2.1=1∨q.2.1=2:=by
 have:=req_kind (look_book hl).2.2
 simp only [beq_eq_false_iff_ne,ne_eq] at k3 k4 k5 k6
 omega
theorem wish_few {b:Bk} {o:Int} {q:Rq} (hl:(lookQ b o q).2=0) (hc:(lookQ b o q).1=0) (hk:q.2.1=1∨q.2.1=2):(wishQ b q).2.length≤8:=by
 have h1:=ask_few hl hc hk
 have hf:=form_parts (book_ok (look_book hl).1).1.1
 have hf2:1≤b.2.1∧b.2.1≤8:=hf.2.1
 show (slicesQ b q.1 q.2.2.1).1.length≤8
 omega
theorem do_mem {b:Bk} {o:Int} {q:Rq} (h2:bookMem b=true):rpMem (doQ b o q).2.1=true:=by
 unfold doQ
 cases hl:(lookQ b o q).2 != 0 with
 |true=>rfl
 |false =>
  cases hc:(lookQ b o q).1 != 0 with
  |true=>rfl
  |false =>
   have hl0:(lookQ b o q).2=0:=by simpa using hl
   have hc0:(lookQ b o q).1=0:=by simpa using hc
   cases k3:q.2.1==3 with
   |true=>rfl
   |false =>
    cases k4:q.2.1==4 with
    |true =>
     have hp:=look_ids hl0 hc0 (.inr (by simpa using k4))
     have hp2:=place_lt hp
     have hx:b.2.2.2.2[(placeOf b q.2.2.1).toNat]? = some b.2.2.2.2[(placeOf b q.2.2.1).toNat]:=gE (by omega)
     have hm:pcsMem (Rs.pcs (rd tRs b.2.2.2.2 (placeOf b q.2.2.1)))=true:=by
      have:=rd_some (t:=tRs) hx
      rw [Int.toNat_of_nonneg hp] at this
      rw [this]
      unfold bookMem at h2
      simp only [bA] at h2
      exact List.all_eq_true.1 h2.2.2 _ (List.mem_of_getElem? hx)
     exact grant_mem hm
    |false =>
     cases k5:q.2.1==5 with
     |true=>rfl
     |false =>
      cases k6:q.2.1==6 with
      |true=>rfl
      |false =>
       have h8:=wish_few hl0 hc0 (ask_kinds hl0 k3 k4 k5 k6)
       simp only [cF]
       cases decide (((planW b.1 (wishQ b q)).2.2.length:Int)>0) with
       |true =>
        rw [cT]
        have:(planW b.1 (wishQ b q)).2.2.length≤8:=planFrom_cut _ _ _ _ _ _
        unfold rpMem cutR'
        show (decide ((planW b.1 (wishQ b q)).2.2.length*8≤140737488355328)&&pcsMem [])=true
        rw [dT (by omega)]
        rfl
       |false =>
        rw [cF]
        exact put_mem (planW_mem h8).1
noncomputable def okAllow (b:Bk) (o:Int) (q:Rq) (r:Rp):Bool :=
 bif asksB q&&(doQ b o q).2.1.2.2.1 != 1 then
  (
   bif r.2.2.1==2 then (putQ b o q r.2.2.2.2.2.2.2).2.2==0&&sameRp (putQ b o q r.2.2.2.2.2.2.2).2.1 r else
   bif r.2.2.1==3 then sameRp r (cutR' r.2.1)&&provenW b.1 (wishQ b q) r.2.1 else sameRp (doQ b o q).2.1 r) else sameRp (doQ b o q).2.1 r
noncomputable def allowQ (b:Bk) (o:Int) (q:Rq) (r:Rp):Bk×(Bool×Int) :=
 bif (doQ b o q).2.2 != 0 then (Bk.zero,false,(doQ b o q).2.2) else bif !okAllow b o q r then (Bk.zero,false,0) else
 (bif asksB q&&((doQ b o q).2.1.2.2.1 != 1&&r.2.2.1==2) then (putQ b o q r.2.2.2.2.2.2.2).1 else (doQ b o q).1,true,0)
theorem do_ok {b:Bk} {o:Int} {q:Rq} (h:(doQ b o q).2.2=0):(lookQ b o q).2=0:=by
 cases hl:(lookQ b o q).2 != 0 with
 |true =>
  unfold doQ at h
  rw [hl,cT] at h
  exact h
 |false=>simpa using hl
theorem do_code {b:Bk} {o:Int} {q:Rq} (h:(doQ b o q).2.2=0) (h1:((doQ b o q).2.1.2.2.1 != 1)=true):(lookQ b o q).1=0:=by
 have h2:=do_ok h
 cases hc:(lookQ b o q).1 != 0 with
 |true =>
  unfold doQ at h1
  rw [show ((lookQ b o q).2 != 0)=false by rw [h2];rfl,hc,cF,cT] at h1
  simp [codedOf] at h1
 |false=>simpa using hc
theorem asks_kinds {q:Rq} (h:asksB q=true):q.2.1=1∨q.2.1=2:=by
 unfold asksB at h
 simpa using h
noncomputable def S38:Summ:=summ [tBk,tI,tRq,tRp] (Bk×(Bool×Int)) (fun (d:Bk×(Int×(Rq×Rp)))=>chk (pcsSmall d.1&&(bookMem d.1&&(!relB d.1 d.2.1 d.2.2.1&&rpMem d.2.2.2))) (some (allowQ d.1 d.2.1 d.2.2.1 d.2.2.2))) (fun x=>.tup [bookV x.1,.bool x.2.1,.int .i64 x.2.2])
theorem ok38:SumOk Tryz.prog 38 S38 :=
 sumq f38.E (fn:=Tryz.f38) (code:=f38.code) f38.sums f38.inl fun (d:Bk×(Int×(Rq×Rp))) x hx=>by
  obtain ⟨b,o,q,r⟩:=d
  obtain ⟨hs,hx⟩:=chk_some hx
  obtain rfl:=oJ hx
  have hs:(pcsSmall b&&(bookMem b&&(!relB b o q&&rpMem r)))=true:=hs
  simp only [bA] at hs
  obtain ⟨h1,h2,h3,h4⟩:=hs
  have h5:=mem_smallR h4
  have h6:r.2.1.2.length<4611686018427387904∧smallPcs r.2.2.2.2.2.2.2=true:=by
   unfold rpSmall at h5
   simpa only [bA,dE] using h5
  have h7:pcsMem r.2.2.2.2.2.2.2=true:=by
   unfold rpMem at h4
   simp only [bA] at h4
   exact h4.2
  have h8:r.2.2.2.2.2.2.2.length<4611686018427387904:=by
   have:=h6.2
   unfold smallPcs at this
   simp only [bA,dE] at this
   exact this.1
  have hd:=mem_smallR (do_mem (o:=o) (q:=q) h2)
  have hp:=mem_smallR (put_mem (b:=b) (o:=o) (q:=q) h7)
  refine ⟨0,(f38.eq _ b o q r).trans ?_⟩
  show _=some (V.tup [bookV (allowQ b o q r).1,.bool (allowQ b o q r).2.1,.int .i64 (allowQ b o q r).2.2])
  rw [h1,h2,h3,Bool.and_self,Bool.and_self,kT,bS,hd,kT,h7,dT h8,Bool.and_self,Bool.and_self,h5,kT,dT h6.1]
  unfold allowQ okAllow
  cases he:(doQ b o q).2.2 != 0 with
  |true=>rfl
  |false =>
   rw [cF,cF,bS]
   cases ha:asksB q with
   |false =>
    simp only [cF,fA]
    cases sameRp (doQ b o q).2.1 r <;> rfl
   |true =>
    simp only [cT,tA]
    cases hk:(doQ b o q).2.1.2.2.1 != 1 with
    |false =>
     simp only [cF,fA]
     cases sameRp (doQ b o q).2.1 r <;> rfl
    |true =>
     simp only [cT,tA]
     cases k2:r.2.2.1==2 with
     |true =>
      simp only [cT,kT,bS,hp]
      cases (putQ b o q r.2.2.2.2.2.2.2).2.2==0 with
      |false=>rfl
      |true=>cases sameRp (putQ b o q r.2.2.2.2.2.2.2).2.1 r <;> rfl
     |false =>
      simp only [cF]
      cases k3:r.2.2.1==3 with
      |false =>
       simp only [cF]
       cases sameRp (doQ b o q).2.1 r <;> rfl
      |true =>
       simp only [cT,bS]
       show (bif sameRp r (cutR' r.2.1) then _ else _)=_
       cases sameRp r (cutR' r.2.1) with
       |false=>rfl
       |true =>
        have he0:(doQ b o q).2.2=0:=by simpa using he
        have h9:=wish_few (do_ok he0) (do_code he0 hk) (asks_kinds ha)
        have hw:(((wishW b q).1,(wishW b q).2.1,(wishW b q).2.2.1,(wishW b q).2.2.2.1,(wishW b q).2.2.2.2.1,(wishW b q).2.2.2.2.2.1),(wishW b q).2.2.2.2.2.2)=wishQ b q:=rfl
        rw [cT,kT,bS,hw,dT (show (wishW b q).2.2.2.2.2.2.length<4611686018427387904 from by have:(wishW b q).2.2.2.2.2.2.length≤8:=h9;omega),kT,bS]
        cases provenW b.1 (wishQ b q) r.2.1 <;> rfl
end
section
set_option maxRecDepth 100000
noncomputable def f58.E (k:Nat):Env:=mkEnv tt [(117,S117)] [] [(58,9,[.kill (rg [(0,1),(4,5),(7,142)]),.tidy]),(58,4,[.kill (rg [(0,1),(4,4),(6,142)]),.tidy])] [] k
noncomputable def f58.code:Go.Code:=cd Tryz.f58
noncomputable def f58.l0 (k n:Nat) (p0:Int) (p1:Int) (p2:List (eL)) (p3:Int) (p4:Int) (p5:Int) (p6:List (eR)) (p7:Int) (p8:List (eL)) (p9:Int) (p10:Int) (p11:Int) (p12:List (eR)):Option V :=
 atPath (f58.E k) n ⟨(.u::.u::(.ptr 524304 (0) (0))::(.ptr 786448 (0) (0))::.u::(.int .i64 p0)::un 137),[],[(524304,.box [(.int .i64 p1),(.ro qL p2),(.int .i64 p3),(.int .i64 p4),(.int .i64 p5),(.ro qR p6)]),(786448,.box [(.int .i64 p7),(.ro qL p8),(.int .i64 p9),(.int .i64 p10),(.int .i64 p11),(.ro qR p12)])]⟩ 9 0 58 [.c 1,.c 1,.c 0,.c 1,.c 0] [] f58.code (finK tt Tryz.f58)
noncomputable def f58.l1 (k n:Nat) (p0:Int) (p1:Int) (p2:List (eL)) (p3:Int) (p4:Int) (p5:Int) (p6:List (eR)) (p7:Int) (p8:List (eL)) (p9:Int) (p10:Int) (p11:Int) (p12:List (eR)):Option V :=
 atPath (f58.E k) n ⟨(.u::.u::(.ptr 524304 (0) (0))::(.ptr 786448 (0) (0))::.u::.u::(.int .i64 p0)::un 136),[],[(524304,.box [(.int .i64 p1),(.ro qL p2),(.int .i64 p3),(.int .i64 p4),(.int .i64 p5),(.ro qR p6)]),(786448,.box [(.int .i64 p7),(.ro qL p8),(.int .i64 p9),(.int .i64 p10),(.int .i64 p11),(.ro qR p12)])]⟩ 9 0 58 [.c 1,.c 1,.c 1,.c 0,.c 1,.c 0] [] f58.code (finK tt Tryz.f58)
def ca:List Nat→Go.Code→Go.Code
 | [],c=>c
 |0::p,.seq a _=>ca p a
 |_::p,.seq _ b=>ca p b
 |_::p,.block _ x=>ca p x
 |_::p,.loop b=>ca p b
 |_,c=>c
noncomputable def f58.b2:Go.Code:=ca [1,1,1,0,1,0,0] f58.code
noncomputable def f58.mid:Go.Code:=ca [1,0] f58.b2
noncomputable def f58.ops:Array Go.Oper:=match ca [0,0] f58.mid with
 |.region _ o _=>o
 |_=>#[]
theorem f58.l0_eq (k n:Nat) (p0:Int) (p1:Int) (p2:List (eL)) (p3:Int) (p4:Int) (p5:Int) (p6:List (eR)) (p7:Int) (p8:List (eL)) (p9:Int) (p10:Int) (p11:Int) (p12:List (eR)):f58.l0 k (n+1) p0 p1 p2 p3 p4 p5 p6 p7 p8 p9 p10 p11 p12 =
 bif decide (p0<(↑p2.length:Int)) then (chk (decide ((0:Int)≤p0∧p0<(↑p2.length:Int))) (chk (decide ((0:Int)≤p0∧p0<(↑p8.length:Int))) (bif !((rd qL p2 p0).1==(rd qL p8 p0).1&&((rd qL p2 p0).2.1==(rd qL p8 p0).2.1&&((rd qL p2 p0).2.2==(rd qL p8 p0).2.2&&true))) then (some (.bool false)) else (f58.l0 k n (Go.IntKind.i64.wrap (p0+(1:Int))) p1 p2 p3 p4 p5 p6 p7 p8 p9 p10 p11 p12)))) else (f58.l1 k k 0 p1 p2 p3 p4 p5 p6 p7 p8 p9 p10 p11 p12):=by kernel_rfl
theorem f58.eq (k:Nat) (x0:(Int×List (eL)) ×
 Int×Int×Int×List (eR)) (x1:(Int×List (eL)) ×
 Int×Int×Int×List (eR)):evFn (f58.E k) 9 58 Tryz.f58 (encL [(.pair (.pair qI (.list qL)) (.pair qI (.pair qI (.pair qI (.list qR))))),(.pair (.pair qI (.list qL)) (.pair qI (.pair qI (.pair qI (.list qR)))))] (x0,x1)) =
 bif x0.1.1 != x1.1.1 then (some (.bool false)) else (bif (↑(x0.1.2.length):Int) != (↑(x1.1.2.length):Int) then (some (.bool false)) else (bif x0.2.1 != x1.2.1 then (some (.bool false)) else (bif x0.2.2.1 != x1.2.2.1 then (some (.bool false)) else (bif x0.2.2.2.1 != x1.2.2.2.1 then (some (.bool false)) else (bif (↑(x0.2.2.2.2.length):Int) != (↑(x1.2.2.2.2.length):Int) then (some (.bool false)) else (f58.l0 k k 0 x0.1.1 x0.1.2 x0.2.1 x0.2.2.1 x0.2.2.2.1 x0.2.2.2.2 x1.1.1 x1.1.2 x1.2.1 x1.2.2.1 x1.2.2.2.1 x1.2.2.2.2)))))):=by kernel_rfl
theorem f58.inl (k:Nat):InlOk Tryz.prog (f58.E k):=inl_nil
theorem f58.sums (k:Nat):SumsOk Tryz.prog (f58.E k):=(sums_cons ok117 sums_nil)
noncomputable def f93.E (k:Nat):Env:=mkEnv tt [(155,S155)] [] [] [] k
noncomputable def f93.code:Go.Code:=cd Tryz.f93
theorem f93.eq (k:Nat) (x0:(Int×Int)×(eP)×Int×Int×Int×Int×Int×List (eC)) (x1:(Int×Int)×(eP)×Int×Int×Int×Int×Int×List (eC)):evFn (f93.E k) 9 93 Tryz.f93 (encL [(.pair qS (.pair qP (.pair qI (.pair qI (.pair qI (.pair qI (.pair qI (.list qC)))))))),(.pair qS (.pair qP (.pair qI (.pair qI (.pair qI (.pair qI (.pair qI (.list qC))))))))] (x0,x1)) =
 (chk (rpSmall x0) (some (sameRp x0 x1))).bind (fun y0=>some (.bool y0)):=by kernel_rfl
theorem f93.inl (k:Nat):InlOk Tryz.prog (f93.E k):=inl_nil
theorem f93.sums (k:Nat):SumsOk Tryz.prog (f93.E k):=(sums_cons ok155 sums_nil)
end
section
set_option maxRecDepth 100000
@[reducible] noncomputable def f58.hd (p0:Int) (p1:Int) (p2:List (eL)) (p3:Int) (p4:Int) (p5:Int) (p6:List (eR)) (p7:Int) (p8:List (eL)) (p9:Int) (p10:Int) (p11:Int) (p12:List (eR)):St:=⟨(.u::.u::(.ptr 524304 (0) (0))::(.ptr 786448 (0) (0))::.u::.u::(.int .i64 p0)::un 136),[],[(524304,.box [(.int .i64 p1),(.ro qL p2),(.int .i64 p3),(.int .i64 p4),(.int .i64 p5),(.ro qR p6)]),(786448,.box [(.int .i64 p7),(.ro qL p8),(.int .i64 p9),(.int .i64 p10),(.int .i64 p11),(.ro qR p12)])]⟩
@[reducible] noncomputable def f58.s9 (p0:Int) (p1:Int) (p2:List (eL)) (p3:Int) (p4:Int) (p5:Int) (p6:List (eR)) (p7:Int) (p8:List (eL)) (p9:Int) (p10:Int) (p11:Int) (p12:List (eR)):St:=⟨(.u::.u::(.ptr 524304 (0) (0))::(.ptr 786448 (0) (0))::.u::.u::(.int .i64 p0)::.u::.u::.u::.u::.u::.u::.u::.u::.u::.u::.u::.u::.u::.u::.u::.u::.u::.u::.u::.u::.u::.u::.u::.u::.u::.u::.u::.u::.u::.u::.u::.u::.u::.u::.u::.u::.u::.u::.u::.u::.u::.u::.u::.u::.u::.u::.u::.u::.u::.u::.u::.u::.u::.u::.u::.u::.u::.u::.u::.u::.u::.u::.u::.u::.u::.u::.u::.u::.u::.u::.u::(.int .i64 p0)::(.ptr 524304 (0) (5))::(.ro qR p6)::(.int .i64 ((↑p6.length:Int)))::(.bool (decide (p0<(↑p6.length:Int))))::un 60),[],[(524304,.box [(.int .i64 p1),(.ro qL p2),(.int .i64 p3),(.int .i64 p4),(.int .i64 p5),(.ro qR p6)]),(786448,.box [(.int .i64 p7),(.ro qL p8),(.int .i64 p9),(.int .i64 p10),(.int .i64 p11),(.ro qR p12)])]⟩
@[reducible] noncomputable def f58.sa (p0:Int) (p1:Int) (p2:List (eL)) (p3:Int) (p4:Int) (p5:Int) (p6:List (eR)) (p7:Int) (p8:List (eL)) (p9:Int) (p10:Int) (p11:Int) (p12:List (eR)):St:=⟨(.u::.u::(.ptr 524304 (0) (0))::(.ptr 786448 (0) (0))::.u::.u::(.int .i64 p0)::(.ptr 448 (0) (0))::(.ptr 512 (0) (0))::.u::.u::.u::.u::.u::.u::.u::.u::.u::.u::.u::.u::.u::.u::.u::.u::.u::.u::.u::.u::.u::.u::.u::.u::.u::.u::.u::.u::.u::.u::.u::.u::.u::.u::.u::.u::.u::.u::.u::.u::.u::.u::.u::.u::.u::.u::.u::.u::.u::.u::.u::.u::.u::.u::.u::.u::.u::.u::.u::.u::.u::.u::.u::.u::.u::.u::.u::.u::.u::(.int .i64 p0)::(.ptr 524304 (0) (5))::(.ro qR p6)::(.int .i64 ((↑p6.length:Int)))::(.bool (decide (p0<(↑p6.length:Int))))::.u::.u::(.ptr 524304 (0) (5))::(.ro qR p6)::(.int .i64 p0)::(.rop [(.int .i64 ((rd qR p6 p0).1.1)),(.int .i64 ((rd qR p6 p0).1.2)),(.int .i64 ((rd qR p6 p0).2.1)),(.int .i64 ((rd qR p6 p0).2.2.1)),(.int .i64 ((rd qR p6 p0).2.2.2.1)),(.int .i64 ((rd qR p6 p0).2.2.2.2.1)),(.int .i64 ((rd qR p6 p0).2.2.2.2.2.1)),(.ro qC ((rd qR p6 p0).2.2.2.2.2.2))])::(.agg [(.int .i64 ((rd qR p6 p0).1.1)),(.int .i64 ((rd qR p6 p0).1.2)),(.int .i64 ((rd qR p6 p0).2.1)),(.int .i64 ((rd qR p6 p0).2.2.1)),(.int .i64 ((rd qR p6 p0).2.2.2.1)),(.int .i64 ((rd qR p6 p0).2.2.2.2.1)),(.int .i64 ((rd qR p6 p0).2.2.2.2.2.1)),(.ro qC ((rd qR p6 p0).2.2.2.2.2.2))])::(.ptr 786448 (0) (5))::(.ro qR p12)::(.int .i64 p0)::(.rop [(.int .i64 ((rd qR p12 p0).1.1)),(.int .i64 ((rd qR p12 p0).1.2)),(.int .i64 ((rd qR p12 p0).2.1)),(.int .i64 ((rd qR p12 p0).2.2.1)),(.int .i64 ((rd qR p12 p0).2.2.2.1)),(.int .i64 ((rd qR p12 p0).2.2.2.2.1)),(.int .i64 ((rd qR p12 p0).2.2.2.2.2.1)),(.ro qC ((rd qR p12 p0).2.2.2.2.2.2))])::(.agg [(.int .i64 ((rd qR p12 p0).1.1)),(.int .i64 ((rd qR p12 p0).1.2)),(.int .i64 ((rd qR p12 p0).2.1)),(.int .i64 ((rd qR p12 p0).2.2.1)),(.int .i64 ((rd qR p12 p0).2.2.2.1)),(.int .i64 ((rd qR p12 p0).2.2.2.2.1)),(.int .i64 ((rd qR p12 p0).2.2.2.2.2.1)),(.ro qC ((rd qR p12 p0).2.2.2.2.2.2))])::un 48),[],[(512,.box [(.int .i64 ((rd qR p12 p0).1.1)),(.int .i64 ((rd qR p12 p0).1.2)),(.int .i64 ((rd qR p12 p0).2.1)),(.int .i64 ((rd qR p12 p0).2.2.1)),(.int .i64 ((rd qR p12 p0).2.2.2.1)),(.int .i64 ((rd qR p12 p0).2.2.2.2.1)),(.int .i64 ((rd qR p12 p0).2.2.2.2.2.1)),(.ro qC ((rd qR p12 p0).2.2.2.2.2.2))]),(448,.box [(.int .i64 ((rd qR p6 p0).1.1)),(.int .i64 ((rd qR p6 p0).1.2)),(.int .i64 ((rd qR p6 p0).2.1)),(.int .i64 ((rd qR p6 p0).2.2.1)),(.int .i64 ((rd qR p6 p0).2.2.2.1)),(.int .i64 ((rd qR p6 p0).2.2.2.2.1)),(.int .i64 ((rd qR p6 p0).2.2.2.2.2.1)),(.ro qC ((rd qR p6 p0).2.2.2.2.2.2))]),(524304,.box [(.int .i64 p1),(.ro qL p2),(.int .i64 p3),(.int .i64 p4),(.int .i64 p5),(.ro qR p6)]),(786448,.box [(.int .i64 p7),(.ro qL p8),(.int .i64 p9),(.int .i64 p10),(.int .i64 p11),(.ro qR p12)])]⟩
@[reducible] noncomputable def f58.sb (p0:Int) (p1:Int) (p2:List (eL)) (p3:Int) (p4:Int) (p5:Int) (p6:List (eR)) (p7:Int) (p8:List (eL)) (p9:Int) (p10:Int) (p11:Int) (p12:List (eR)):St:=⟨(.u::.u::(.ptr 524304 (0) (0))::(.ptr 786448 (0) (0))::.u::.u::(.int .i64 p0)::(.ptr 448 (0) (0))::(.ptr 512 (0) (0))::.u::.u::.u::.u::.u::.u::.u::.u::.u::.u::.u::.u::.u::.u::.u::.u::.u::.u::.u::.u::.u::.u::.u::.u::.u::.u::.u::.u::.u::.u::.u::.u::.u::.u::.u::.u::.u::.u::.u::.u::.u::.u::.u::.u::.u::.u::.u::.u::.u::.u::.u::.u::.u::.u::.u::.u::.u::.u::.u::.u::.u::.u::.u::.u::.u::.u::.u::.u::.u::(.int .i64 p0)::(.ptr 524304 (0) (5))::(.ro qR p6)::(.int .i64 ((↑p6.length:Int)))::(.bool (decide (p0<(↑p6.length:Int))))::.u::.u::(.ptr 524304 (0) (5))::(.ro qR p6)::(.int .i64 p0)::(.rop [(.int .i64 ((rd qR p6 p0).1.1)),(.int .i64 ((rd qR p6 p0).1.2)),(.int .i64 ((rd qR p6 p0).2.1)),(.int .i64 ((rd qR p6 p0).2.2.1)),(.int .i64 ((rd qR p6 p0).2.2.2.1)),(.int .i64 ((rd qR p6 p0).2.2.2.2.1)),(.int .i64 ((rd qR p6 p0).2.2.2.2.2.1)),(.ro qC ((rd qR p6 p0).2.2.2.2.2.2))])::(.agg [(.int .i64 ((rd qR p6 p0).1.1)),(.int .i64 ((rd qR p6 p0).1.2)),(.int .i64 ((rd qR p6 p0).2.1)),(.int .i64 ((rd qR p6 p0).2.2.1)),(.int .i64 ((rd qR p6 p0).2.2.2.1)),(.int .i64 ((rd qR p6 p0).2.2.2.2.1)),(.int .i64 ((rd qR p6 p0).2.2.2.2.2.1)),(.ro qC ((rd qR p6 p0).2.2.2.2.2.2))])::(.ptr 786448 (0) (5))::(.ro qR p12)::(.int .i64 p0)::(.rop [(.int .i64 ((rd qR p12 p0).1.1)),(.int .i64 ((rd qR p12 p0).1.2)),(.int .i64 ((rd qR p12 p0).2.1)),(.int .i64 ((rd qR p12 p0).2.2.1)),(.int .i64 ((rd qR p12 p0).2.2.2.1)),(.int .i64 ((rd qR p12 p0).2.2.2.2.1)),(.int .i64 ((rd qR p12 p0).2.2.2.2.2.1)),(.ro qC ((rd qR p12 p0).2.2.2.2.2.2))])::(.agg [(.int .i64 ((rd qR p12 p0).1.1)),(.int .i64 ((rd qR p12 p0).1.2)),(.int .i64 ((rd qR p12 p0).2.1)),(.int .i64 ((rd qR p12 p0).2.2.1)),(.int .i64 ((rd qR p12 p0).2.2.2.1)),(.int .i64 ((rd qR p12 p0).2.2.2.2.1)),(.int .i64 ((rd qR p12 p0).2.2.2.2.2.1)),(.ro qC ((rd qR p12 p0).2.2.2.2.2.2))])::un 48),[],[(448,.box [(.int .i64 ((rd qR p6 p0).1.1)),(.int .i64 ((rd qR p6 p0).1.2)),(.int .i64 ((rd qR p6 p0).2.1)),(.int .i64 ((rd qR p6 p0).2.2.1)),(.int .i64 ((rd qR p6 p0).2.2.2.1)),(.int .i64 ((rd qR p6 p0).2.2.2.2.1)),(.int .i64 ((rd qR p6 p0).2.2.2.2.2.1)),(.ro qC ((rd qR p6 p0).2.2.2.2.2.2))]),(512,.box [(.int .i64 ((rd qR p12 p0).1.1)),(.int .i64 ((rd qR p12 p0).1.2)),(.int .i64 ((rd qR p12 p0).2.1)),(.int .i64 ((rd qR p12 p0).2.2.1)),(.int .i64 ((rd qR p12 p0).2.2.2.1)),(.int .i64 ((rd qR p12 p0).2.2.2.2.1)),(.int .i64 ((rd qR p12 p0).2.2.2.2.2.1)),(.ro qC ((rd qR p12 p0).2.2.2.2.2.2))]),(524304,.box [(.int .i64 p1),(.ro qL p2),(.int .i64 p3),(.int .i64 p4),(.int .i64 p5),(.ro qR p6)]),(786448,.box [(.int .i64 p7),(.ro qL p8),(.int .i64 p9),(.int .i64 p10),(.int .i64 p11),(.ro qR p12)])]⟩
noncomputable def f58.H (k:Nat):Handler V:=callD (f58.E k) 9 0
noncomputable def f58.Ko (k:Nat):Kl V:=blockK 2 (seqK (fun σ=>evCode (f58.E k) (f58.H k) 0 58 (ca [1,1,1,1] f58.code) σ (finK tt Tryz.f58)) (finK tt Tryz.f58))
noncomputable def f58.K1 (k n:Nat):Kl V:=seqK (fun σ=>atPath (f58.E k) n (doGhosts σ ((f58.E k).dirs 58 9)) 9 0 58 [.c 1,.c 1,.c 1,.c 0,.c 1,.c 0] [] f58.code (finK tt Tryz.f58)) (f58.Ko k)
theorem f58.l1_open (k n:Nat) (σ:St):atPath (f58.E k) (n+1) σ 9 0 58 [.c 1,.c 1,.c 1,.c 0,.c 1,.c 0] [] f58.code (finK tt Tryz.f58)=evCode (f58.E k) (f58.H k) 0 58 f58.b2 σ (f58.K1 k n):=by kernel_rfl
theorem f58.pre (k:Nat) (p0:Int) (p1:Int) (p2:List (eL)) (p3:Int) (p4:Int) (p5:Int) (p6:List (eR)) (p7:Int) (p8:List (eL)) (p9:Int) (p10:Int) (p11:Int) (p12:List (eR)) (H:Handler V) (K:Kl V):evCode (f58.E k) H 0 58 (ca [0] f58.b2) (f58.hd p0 p1 p2 p3 p4 p5 p6 p7 p8 p9 p10 p11 p12) K =
 bif decide (p0<(↑p6.length:Int)) then (K .normal (f58.s9 p0 p1 p2 p3 p4 p5 p6 p7 p8 p9 p10 p11 p12)) else (K (.exit 2) (f58.s9 p0 p1 p2 p3 p4 p5 p6 p7 p8 p9 p10 p11 p12)):=by kernel_rfl
noncomputable def f58.sk (c1 c2:Bool) (A B:Option V):Option V:=both (chk c1 (both (both (chk c2 (both (both A B) (both (both A (both A A)) (both B (both B B))))) (both (both (chk c2 (both A (both A A))) (both (chk c2 (both A A)) (chk c2 A))) (both (chk c2 (both B (both B B))) (both (chk c2 (both B B)) (chk c2 B))))) (both (chk c2 (both (both (both A B) (both (both A (both A A)) (both B (both B B)))) (both (both (both A B) (both (both A A) (both B B))) (both (both (both A (both A A)) (both (both A A) (both (both A A) A))) (both (both B (both B B)) (both (both B B) (both (both B B) B))))))) (both (both (both (chk c2 (both A (both A A))) (both (chk c2 (both A A)) (chk c2 A))) (both (chk c2 (both (both A (both A A)) (both (both A A) (both (both A A) A)))) (both (both (chk c2 (both A A)) (chk c2 A)) (chk c2 (both (both A A) A))))) (both (both (chk c2 (both B (both B B))) (both (chk c2 (both B B)) (chk c2 B))) (both (chk c2 (both (both B (both B B)) (both (both B B) (both (both B B) B)))) (both (both (chk c2 (both B B)) (chk c2 B)) (chk c2 (both (both B B) B))))))))) (both (chk c2 (both (chk c1 (both (both (both A B) (both (both A (both A A)) (both B (both B B)))) (both (both (both A B) (both (both A A) (both B B))) (both (both (both A (both A A)) (both (both A A) (both (both A A) A))) (both (both B (both B B)) (both (both B B) (both (both B B) B))))))) (both (both (chk c1 (both (both A B) (both (both A A) (both B B)))) (both (both (chk c1 (both A A)) (chk c1 A)) (both (chk c1 (both B B)) (chk c1 B)))) (both (both (chk c1 (both (both A (both A A)) (both (both A A) (both (both A A) A)))) (both (both (chk c1 (both A A)) (chk c1 A)) (both (chk c1 (both (both A A) A)) (chk c1 A)))) (both (chk c1 (both (both B (both B B)) (both (both B B) (both (both B B) B)))) (both (both (chk c1 (both B B)) (chk c1 B)) (both (chk c1 (both (both B B) B)) (chk c1 B)))))))) (both (both (chk c1 (both (both (chk c2 (both A (both A A))) (both (chk c2 (both A A)) (chk c2 A))) (both (chk c2 (both (both A (both A A)) (both (both A A) (both (both A A) A)))) (both (both (chk c2 (both A A)) (chk c2 A)) (chk c2 (both (both A A) A)))))) (both (chk c2 (both (chk c1 (both (both A (both A A)) (both (both A A) (both (both A A) A)))) (both (both (chk c1 (both A A)) (chk c1 A)) (both (chk c1 (both (both A A) A)) (chk c1 A))))) (both (chk c1 (both (both (chk c2 (both A A)) (chk c2 A)) (chk c2 (both (both A A) A)))) (chk c2 (both (chk c1 (both (both A A) A)) (chk c1 A)))))) (both (chk c1 (both (both (chk c2 (both B (both B B))) (both (chk c2 (both B B)) (chk c2 B))) (both (chk c2 (both (both B (both B B)) (both (both B B) (both (both B B) B)))) (both (both (chk c2 (both B B)) (chk c2 B)) (chk c2 (both (both B B) B)))))) (both (chk c2 (both (chk c1 (both (both B (both B B)) (both (both B B) (both (both B B) B)))) (both (both (chk c1 (both B B)) (chk c1 B)) (both (chk c1 (both (both B B) B)) (chk c1 B))))) (both (chk c1 (both (both (chk c2 (both B B)) (chk c2 B)) (chk c2 (both (both B B) B)))) (chk c2 (both (chk c1 (both (both B B) B)) (chk c1 B))))))))
theorem f58.sk_eq (c1 c2:Bool) (A:Option V):f58.sk c1 c2 A A=chk c1 (chk c2 A):=by
 unfold f58.sk
 cases c1 <;> cases c2 <;> simp only [both_self,chk,cond_true,cond_false]
theorem f58.r11 (k:Nat) (p0:Int) (p1:Int) (p2:List (eL)) (p3:Int) (p4:Int) (p5:Int) (p6:List (eR)) (p7:Int) (p8:List (eL)) (p9:Int) (p10:Int) (p11:Int) (p12:List (eR)) (H:Handler V) (K:St→Option V):evDraw (f58.E k) H 0 58 11 f58.ops (f58.s9 p0 p1 p2 p3 p4 p5 p6 p7 p8 p9 p10 p11 p12) K =
 f58.sk (decide ((0:Int)≤p0∧p0<(↑p6.length:Int))) (decide ((0:Int)≤p0∧p0<(↑p12.length:Int))) (K (f58.sa p0 p1 p2 p3 p4 p5 p6 p7 p8 p9 p10 p11 p12)) (K (f58.sb p0 p1 p2 p3 p4 p5 p6 p7 p8 p9 p10 p11 p12)):=by kernel_rfl
noncomputable def f58.K3 (k n:Nat):Kl V:=blockK 3 (seqK (fun σ=>evCode (f58.E k) (f58.H k) 0 58 (ca [1,1] f58.b2) σ (f58.K1 k n)) (f58.K1 k n))
theorem f58.body (k n:Nat) (σ:St):evCode (f58.E k) (f58.H k) 0 58 f58.b2 σ (f58.K1 k n)=evCode (f58.E k) (f58.H k) 0 58 (ca [0] f58.b2) σ (seqK (fun σ=>evDraw (f58.E k) (f58.H k) 0 58 11 f58.ops σ fun σ=>evCode (f58.E k) (f58.H k) 0 58 (ca [0,1] f58.mid) σ (f58.K3 k n)) (f58.K1 k n)):=by kernel_rfl
@[reducible] noncomputable def f58.leaf (k n:Nat) (p0:Int) (p1:Int) (p2:List (eL)) (p3:Int) (p4:Int) (p5:Int) (p6:List (eR)) (p7:Int) (p8:List (eL)) (p9:Int) (p10:Int) (p11:Int) (p12:List (eR)):Option V:=(bif !((rd qR p6 p0).1.1==(rd qR p12 p0).1.1&&((rd qR p6 p0).1.2==(rd qR p12 p0).1.2&&true)) then (some (.bool false)) else (bif (rd qR p6 p0).2.1 != (rd qR p12 p0).2.1 then (some (.bool false)) else (bif (rd qR p6 p0).2.2.1 != (rd qR p12 p0).2.2.1 then (some (.bool false)) else (bif (rd qR p6 p0).2.2.2.1 != (rd qR p12 p0).2.2.2.1 then (some (.bool false)) else (bif (rd qR p6 p0).2.2.2.2.1 != (rd qR p12 p0).2.2.2.2.1 then (some (.bool false)) else (bif (rd qR p6 p0).2.2.2.2.2.1 != (rd qR p12 p0).2.2.2.2.2.1 then (some (.bool false)) else ((chk (smallPcs (rd qR p6 p0).2.2.2.2.2.2) (some (samePcs (rd qR p6 p0).2.2.2.2.2.2 (rd qR p12 p0).2.2.2.2.2.2))).bind (fun y0=>bif !y0 then (some (.bool false)) else (f58.l1 k n (Go.IntKind.i64.wrap (p0+(1:Int))) p1 p2 p3 p4 p5 p6 p7 p8 p9 p10 p11 p12)))))))))
theorem f58.la (k n:Nat) (p0:Int) (p1:Int) (p2:List (eL)) (p3:Int) (p4:Int) (p5:Int) (p6:List (eR)) (p7:Int) (p8:List (eL)) (p9:Int) (p10:Int) (p11:Int) (p12:List (eR)):evCode (f58.E k) (f58.H k) 0 58 (ca [0,1] f58.mid) (f58.sa p0 p1 p2 p3 p4 p5 p6 p7 p8 p9 p10 p11 p12) (f58.K3 k n)=f58.leaf k n p0 p1 p2 p3 p4 p5 p6 p7 p8 p9 p10 p11 p12:=by kernel_rfl
theorem f58.lb (k n:Nat) (p0:Int) (p1:Int) (p2:List (eL)) (p3:Int) (p4:Int) (p5:Int) (p6:List (eR)) (p7:Int) (p8:List (eL)) (p9:Int) (p10:Int) (p11:Int) (p12:List (eR)):evCode (f58.E k) (f58.H k) 0 58 (ca [0,1] f58.mid) (f58.sb p0 p1 p2 p3 p4 p5 p6 p7 p8 p9 p10 p11 p12) (f58.K3 k n)=f58.leaf k n p0 p1 p2 p3 p4 p5 p6 p7 p8 p9 p10 p11 p12:=by kernel_rfl
theorem f58.out (k n:Nat) (p0:Int) (p1:Int) (p2:List (eL)) (p3:Int) (p4:Int) (p5:Int) (p6:List (eR)) (p7:Int) (p8:List (eL)) (p9:Int) (p10:Int) (p11:Int) (p12:List (eR)):f58.K1 k n (.exit 2) (f58.s9 p0 p1 p2 p3 p4 p5 p6 p7 p8 p9 p10 p11 p12)=some (.bool true):=by kernel_rfl
theorem f58.l1_eq (k n:Nat) (p0:Int) (p1:Int) (p2:List (eL)) (p3:Int) (p4:Int) (p5:Int) (p6:List (eR)) (p7:Int) (p8:List (eL)) (p9:Int) (p10:Int) (p11:Int) (p12:List (eR)):f58.l1 k (n+1) p0 p1 p2 p3 p4 p5 p6 p7 p8 p9 p10 p11 p12 =
 bif decide (p0<(↑p6.length:Int)) then (chk (decide ((0:Int)≤p0∧p0<(↑p6.length:Int))) (chk (decide ((0:Int)≤p0∧p0<(↑p12.length:Int))) (f58.leaf k n p0 p1 p2 p3 p4 p5 p6 p7 p8 p9 p10 p11 p12))) else (some (.bool true)):=by
 refine (f58.l1_open k n (f58.hd p0 p1 p2 p3 p4 p5 p6 p7 p8 p9 p10 p11 p12)).trans ?_
 rw [f58.body,f58.pre,← f58.sk_eq,← f58.out k n p0 p1 p2 p3 p4 p5 p6 p7 p8 p9 p10 p11 p12,← f58.la k n p0 p1 p2 p3 p4 p5 p6 p7 p8 p9 p10 p11 p12]
 have e:(seqK (fun σ=>evDraw (f58.E k) (f58.H k) 0 58 11 f58.ops σ fun σ=>evCode (f58.E k) (f58.H k) 0 58 (ca [0,1] f58.mid) σ (f58.K3 k n)) (f58.K1 k n)) .normal (f58.s9 p0 p1 p2 p3 p4 p5 p6 p7 p8 p9 p10 p11 p12)=f58.sk (decide ((0:Int)≤p0∧p0<(↑p6.length:Int))) (decide ((0:Int)≤p0∧p0<(↑p12.length:Int))) (evCode (f58.E k) (f58.H k) 0 58 (ca [0,1] f58.mid) (f58.sa p0 p1 p2 p3 p4 p5 p6 p7 p8 p9 p10 p11 p12) (f58.K3 k n)) (evCode (f58.E k) (f58.H k) 0 58 (ca [0,1] f58.mid) (f58.sa p0 p1 p2 p3 p4 p5 p6 p7 p8 p9 p10 p11 p12) (f58.K3 k n)):=by
  refine (f58.r11 k p0 p1 p2 p3 p4 p5 p6 p7 p8 p9 p10 p11 p12 (f58.H k) _).trans ?_
  rw [f58.la,f58.lb]
 rw [e]
 rfl
end
section
def eqRs (x y:Rs):Bool:=eqSp x.1 y.1&&(x.2.1==y.2.1&&(x.2.2.1==y.2.2.1&&(x.2.2.2.1==y.2.2.2.1&&(x.2.2.2.2.1==y.2.2.2.2.1&&(x.2.2.2.2.2.1==y.2.2.2.2.2.1&&samePcs x.2.2.2.2.2.2 y.2.2.2.2.2.2)))))
def sameBk (a b:Bk):Bool:=a.1.1==b.1.1&&(sameB a.1.2 b.1.2&&(a.2.1==b.2.1&&(a.2.2.1==b.2.2.1&&(a.2.2.2.1==b.2.2.2.1&&(a.2.2.2.2.length==b.2.2.2.2.length&&(a.2.2.2.2.zip b.2.2.2.2).all fun x=>eqRs x.1 x.2)))))
def smallBk (b:Bk):Bool:=decide (b.1.2.length<4611686018427387904)&&(decide (b.2.2.2.2.length<4611686018427387904)&&b.2.2.2.2.all fun r=>smallPcs r.2.2.2.2.2.2)
theorem f58.l1_is (k n:Nat) (a b:Bk) (hl:a.2.2.2.2.length=b.2.2.2.2.length) (hb:a.2.2.2.2.length<4611686018427387904) (hs:(a.2.2.2.2.all fun r=>smallPcs r.2.2.2.2.2.2)=true) (hn:a.2.2.2.2.length<n) :
  f58.l1 k n 0 a.1.1 a.1.2 a.2.1 a.2.2.1 a.2.2.2.1 a.2.2.2.2 b.1.1 b.1.2 b.2.1 b.2.2.1 b.2.2.2.1 b.2.2.2.2=some (.bool ((a.2.2.2.2.zip b.2.2.2.2).all fun x=>eqRs x.1 x.2)):=by
 have hz:(a.2.2.2.2.zip b.2.2.2.2).length=a.2.2.2.2.length:=by simp [hl]
 have:=loop_any0 (fun n i=>f58.l1 k n (i:Nat) a.1.1 a.1.2 a.2.1 a.2.2.1 a.2.2.2.1 a.2.2.2.2 b.1.1 b.1.2 b.2.1 b.2.2.1 b.2.2.2.1 b.2.2.2.2) (a.2.2.2.2.zip b.2.2.2.2) (fun x=>!eqRs x.1 x.2) (some (.bool false)) (some (.bool true)) (fun n i x hx=>by
  obtain ⟨h1,h2⟩:=zip_get hx
  have:=idx_lt h1
  have h3:=List.all_eq_true.1 hs x.1 (List.mem_of_getElem? h1)
  rw [f58.l1_eq]
  unfold f58.leaf
  rw [idx_lt' h1,idx_in h1,idx_in h2,cT,kT,kT,rd_some (t:=tRs) h1,rd_some (t:=tRs) h2,wrap_succ (by omega),h3,kT,bS]
  show (bif !eqSp x.1.1 x.2.1 then _ else _)=_
  unfold eqRs
  simp only [bne]
  cases eqSp x.1.1 x.2.1 <;> cases x.1.2.1==x.2.2.1 <;> cases x.1.2.2.1==x.2.2.2.1 <;> cases x.1.2.2.2.1==x.2.2.2.2.1 <;> cases x.1.2.2.2.2.1==x.2.2.2.2.2.1 <;> cases x.1.2.2.2.2.2.1==x.2.2.2.2.2.2.1 <;> simp only [nT,nF,cT,cF,tA,fA]) (fun n=>by rw [hz,f58.l1_eq,end_lt,cF]) (n:=n) (by omega)
 refine this.trans ?_
 rw [any_notq fun x:Rs×Rs=>eqRs x.1 x.2]
 cases (a.2.2.2.2.zip b.2.2.2.2).all _ <;> rfl
noncomputable def S58:Summ:=summ [tBk,tBk] Bool (fun (d:Bk×Bk)=>chk (smallBk d.1) (some (sameBk d.1 d.2))) .bool
theorem ok58:SumOk Tryz.prog 58 S58 :=
 sumq f58.E (fn:=Tryz.f58) (code:=f58.code) f58.sums f58.inl fun (d:Bk×Bk) x hx=>by
  obtain ⟨a,b⟩:=d
  obtain ⟨hs,hx⟩:=chk_some hx
  obtain rfl:=oJ hx
  have hs:smallBk a=true:=hs
  unfold smallBk at hs
  simp only [bA,dE] at hs
  obtain ⟨h1,h2,h3⟩:=hs
  refine ⟨a.1.2.length+a.2.2.2.2.length+1,(f58.eq _ a b).trans ?_⟩
  show _=some (V.bool (sameBk a b))
  unfold sameBk
  simp only [bne]
  cases a.1.1==b.1.1 with
  |false=>rfl
  |true =>
   by_cases hl:a.1.2.length=b.1.2.length
   ·rw [show ((↑(List.length a.1.2):Int)==(↑(List.length b.1.2):Int))=true by simp [hl]]
    cases a.2.1==b.2.1 with
    |false=>simp only [nT,nF,cT,cF,tA,fA,Bool.and_false]
    |true =>
     cases a.2.2.1==b.2.2.1 with
     |false=>simp only [nT,nF,cT,cF,tA,fA,Bool.and_false]
     |true =>
      cases a.2.2.2.1==b.2.2.2.1 with
      |false=>simp only [nT,nF,cT,cF,tA,fA,Bool.and_false]
      |true =>
       by_cases hl2:a.2.2.2.2.length=b.2.2.2.2.length
       ·rw [show ((↑(List.length a.2.2.2.2):Int)==(↑(List.length b.2.2.2.2):Int))=true by simp [hl2],show (a.2.2.2.2.length==b.2.2.2.2.length)=true by simp [hl2]]
        simp only [nT,cF,tA]
        have hz:(a.1.2.zip b.1.2).length=a.1.2.length:=by simp [hl]
        have:=loop_any0 (fun n i=>f58.l0 (a.1.2.length+a.2.2.2.2.length+1) n (i:Nat) a.1.1 a.1.2 a.2.1 a.2.2.1 a.2.2.2.1 a.2.2.2.2 b.1.1 b.1.2 b.2.1 b.2.2.1 b.2.2.2.1 b.2.2.2.2) (a.1.2.zip b.1.2) (fun x=>x.1 != x.2) (some (.bool false))
         (some (.bool ((a.2.2.2.2.zip b.2.2.2.2).all fun x=>eqRs x.1 x.2))) (fun n i x hx=>by
          obtain ⟨ha,hb⟩:=zip_get hx
          have:=idx_lt ha
          rw [f58.l0_eq,idx_lt' ha,cT,idx_in ha,kT,idx_in hb,kT,rd_some (t:=tLk) ha,rd_some (t:=tLk) hb,wrap_succ (by omega),Bool.and_true]
          rfl) (fun n=>by
          rw [hz,f58.l0_eq,end_lt,cF]
          exact f58.l1_is _ _ a b hl2 h2 h3 (by omega)) (n:=a.1.2.length+a.2.2.2.2.length+1) (by omega)
        refine this.trans ?_
        rw [any_zip_ne hl]
        unfold sameB
        cases a.1.2==b.1.2 <;> rfl
       ·rw [show ((↑(List.length a.2.2.2.2):Int)==(↑(List.length b.2.2.2.2):Int))=false from beq_eq_false_iff_ne.2 (by omega),show (a.2.2.2.2.length==b.2.2.2.2.length)=false by simp [hl2]]
        simp only [nT,nF,cT,cF,tA,fA,Bool.and_false]
   ·rw [show ((↑(List.length a.1.2):Int)==(↑(List.length b.1.2):Int))=false from beq_eq_false_iff_ne.2 (by omega),sameB_ne fun hh=>hl (by rw [hh])]
    simp only [nT,nF,cT,cF,tA,fA,Bool.and_false]
noncomputable def S93:Summ:=S155
theorem ok93:SumOk Tryz.prog 93 S93 :=
 sumq f93.E (fn:=Tryz.f93) (code:=f93.code) f93.sums f93.inl fun (d:Rp×Rp) x hx=>by
  obtain ⟨a,b⟩:=d
  obtain ⟨hs,hx⟩:=chk_some hx
  obtain rfl:=oJ hx
  have hs:rpSmall a=true:=hs
  exact ⟨0,(f93.eq 0 a b).trans (by rw [hs,kT,bS])⟩
noncomputable def S91r:Summ:=summ [] Bk (fun _=>some townB) bookR
theorem ok91r:SumOk Tryz.prog 91 S91r:=SumOk.ro (fun _=>rfl) ok91
@[reducible] def rpR (r:Rp):V:=.agg [.int .i64 r.1.1,.int .i64 r.1.2,.int .i64 r.2.1.1,.ro tI r.2.1.2,.int .i64 r.2.2.1,.int .i64 r.2.2.2.1,.int .i64 r.2.2.2.2.1,.int .i64 r.2.2.2.2.2.1,.int .i64 r.2.2.2.2.2.2.1,.ro tPc r.2.2.2.2.2.2.2]
noncomputable def S37r:Summ:=summ [tBk,tI,tRq] (Bk×(Rp×Int)) (fun (d:Bk×(Int×Rq))=>chk (pcsSmall d.1&&(bookMem d.1 && !relB d.1 d.2.1 d.2.2)) (some (doQ d.1 d.2.1 d.2.2))) (fun x=>.tup [bookR x.1,rpR x.2.1,.int .i64 x.2.2])
theorem ok37r:SumOk Tryz.prog 37 S37r:=SumOk.ro (fun _=>rfl) ok37
noncomputable def S38r:Summ:=summ [tBk,tI,tRq,tRp] (Bk×(Bool×Int)) (fun (d:Bk×(Int×(Rq×Rp)))=>chk (pcsSmall d.1&&(bookMem d.1&&(!relB d.1 d.2.1 d.2.2.1&&rpMem d.2.2.2))) (some (allowQ d.1 d.2.1 d.2.2.1 d.2.2.2))) (fun x=>.tup [bookR x.1,.bool x.2.1,.int .i64 x.2.2])
theorem ok38r:SumOk Tryz.prog 38 S38r:=SumOk.ro (fun _=>rfl) ok38
noncomputable def S41r:Summ:=summ [tBk,tI,tRq,.list tPc] (Bk×(Rp×Int)) (fun (d:Bk×(Int×(Rq×List Pc)))=>chk (pcsSmall d.1&&(bookMem d.1&&(decide (d.2.2.2.length<4611686018427387904)&&pcsMem d.2.2.2))) (some (putQ d.1 d.2.1 d.2.2.1 d.2.2.2))) (fun x=>.tup [bookR x.1,rpR x.2.1,.int .i64 x.2.2])
theorem ok41r:SumOk Tryz.prog 41 S41r:=SumOk.ro (fun _=>rfl) ok41
end
section
set_option maxRecDepth 100000
noncomputable def f19.E (k:Nat):Env:=mkEnv tt [(58,S58)] [] [] [] k
noncomputable def f19.code:Go.Code:=cd Tryz.f19
theorem f19.eq (k:Nat) (x0:(Int×List (eL)) ×
 Int×Int×Int×List (eR)) (x1:(Int×List (eL)) ×
 Int×Int×Int×List (eR)):evFn (f19.E k) 9 19 Tryz.f19 (encL [(.pair (.pair qI (.list qL)) (.pair qI (.pair qI (.pair qI (.list qR))))),(.pair (.pair qI (.list qL)) (.pair qI (.pair qI (.pair qI (.list qR)))))] (x0,x1)) =
 (chk (smallBk x0) (some (sameBk x0 x1))).bind (fun y0=>some (.bool y0)):=by kernel_rfl
theorem f19.inl (k:Nat):InlOk Tryz.prog (f19.E k):=inl_nil
theorem f19.sums (k:Nat):SumsOk Tryz.prog (f19.E k):=(sums_cons ok58 sums_nil)
end
section
noncomputable def S19:Summ:=S58
theorem ok19:SumOk Tryz.prog 19 S19 :=
 sumq f19.E (fn:=Tryz.f19) (code:=f19.code) f19.sums f19.inl fun (d:Bk×Bk) x hx=>by
  obtain ⟨a,b⟩:=d
  obtain ⟨hs,hx⟩:=chk_some hx
  obtain rfl:=oJ hx
  have hs:smallBk a=true:=hs
  exact ⟨0,(f19.eq 0 a b).trans (by rw [hs,kT,bS])⟩
end
section
set_option maxRecDepth 100000
set_option linter.unusedVariables false
end
section
set_option linter.unusedVariables false
end
section
set_option maxRecDepth 100000
set_option linter.unusedVariables false
end
section
theorem sz_pcs {ps:List Pc} (h:SzD (.list tPc') ps):pcsMem ps=true∧smallPcs ps=true:=by
 obtain ⟨h1,h2⟩:=h
 have h1:ps.length*40≤reachBytes:=h1
 simp only [reachBytes] at h1
 have h3:∀ p∈ps,p.2.length*32≤140737488351232∧∀ w∈p.2,w.2.length*8≤140737488351232:=by
  intro p hp
  obtain ⟨_,h4,h5⟩:=h2 p hp
  exact ⟨h4,fun w hw=>(h5 w hw).2.1⟩
 unfold pcsMem smallPcs
 rw [dT (by omega),dT (by omega),tA,tA]
 constructor
 ·refine List.all_eq_true.2 fun p hp=>?_
  obtain ⟨h4,h5⟩:=h3 p hp
  unfold cpPiece
  rw [dT (by omega),tA]
  refine List.all_eq_true.2 fun w hw=>?_
  have:=h5 w hw
  unfold cpPath
  exact dT (by omega)
 ·refine List.all_eq_true.2 fun p hp=>?_
  obtain ⟨h4,h5⟩:=h3 p hp
  unfold smallP
  rw [dT (by omega),tA]
  refine List.all_eq_true.2 fun w hw=>?_
  have:=h5 w hw
  exact dT (by omega)
end
section
theorem sz_book {b:Bk} (h:SzD tBk b):pcsSmall b=true:=by
 obtain ⟨_,_,_,_,_,h2⟩:=h
 refine List.all_eq_true.2 fun r hr=>?_
 obtain ⟨_,_,_,_,_,_,h3,_⟩:=h2 r hr
 have h3:r.2.2.2.2.2.2.length*40≤reachBytes:=h3
 simp only [reachBytes] at h3
 exact dT (by unfold Rs.pcs;omega)
end
section
theorem sameRp_self (a:Rp):sameRp a a=true:=by
 unfold sameRp
 rw [eqSp_self,sameB_self,samePcs_self]
 simp only [beq_self_eq_true,Bool.and_self]
theorem eqRs_self (a:Rs):eqRs a a=true:=by
 unfold eqRs
 rw [eqSp_self,samePcs_self]
 simp only [beq_self_eq_true,Bool.and_self]
theorem sameBk_self (a:Bk):sameBk a a=true:=by
 unfold sameBk
 rw [sameB_self,zip_self eqRs_self]
 simp only [beq_self_eq_true,Bool.and_self]
theorem do_asks {b:Bk} {o:Int} {q:Rq} (hl:(lookQ b o q).2=0) (hc:(lookQ b o q).1=0) (ha:asksB q=true) :
  doQ b o q=bif decide (((planW b.1 (wishQ b q)).2.2.length:Int)>0) then (b,cutR' (planW b.1 (wishQ b q)).2,0) else putQ b o q (planW b.1 (wishQ b q)).1:=by
 unfold doQ
 have hk:=asks_kinds ha
 rw [hl,hc,show (q.2.1==3)=false from beq_eq_false_iff_ne.2 (by omega),show (q.2.1==4)=false from beq_eq_false_iff_ne.2 (by omega),show (q.2.1==5)=false from beq_eq_false_iff_ne.2 (by omega),show (q.2.1==6)=false from beq_eq_false_iff_ne.2 (by omega)]
 rfl
theorem cut_end {b:Bk} {o:Int} {q:Rq} {c:Ct} (hl:(lookQ b o q).2=0) (hc:(lookQ b o q).1=0) (ha:asksB q=true) (hp:(planW b.1 (wishQ b q)).2=c) (hv:0<c.2.length) (hpr:provenW b.1 (wishQ b q) c=true) :
  allowQ b o q ((0,0),c,3,0,0,0,0,[])=(b,true,0):=by
 have hd:=do_asks hl hc ha
 rw [hp,dT (show ((c.2.length:Int)>0) by omega),cT] at hd
 unfold allowQ okAllow
 rw [hd,ha]
 simp only [hpr,cutR',sameRp_self]
 rfl
theorem sz_bookMem {b:Bk} (h:SzD tBk b):bookMem b=true:=by
 obtain ⟨⟨_,h1,_⟩,_,_,_,h3,h2⟩:=h
 have h1:b.1.2.length*24≤reachBytes:=h1
 have h3:b.2.2.2.2.length*80≤reachBytes:=h3
 simp only [reachBytes] at h1 h3
 unfold bookMem
 rw [dT (by omega),dT (by omega),tA,tA]
 refine List.all_eq_true.2 fun r hr=>?_
 obtain ⟨_,_,_,_,_,_,h4⟩:=h2 r hr
 exact (sz_pcs h4).1
end
section
theorem town_mem:bookMem townB=true:=by kernel_rfl
def segs3:List Sg:=[((15,20),[3,2,0]),((20,25),[5,4,3])]
theorem town_slices3:slicesQ townB (15,25) 0=(segs3,0):=by
 unfold slicesQ slicesB
 rw [town_may,town_spans 15 25 10 rfl (by decide) (by decide)]
 kernel_rfl
theorem town_look1:lookQ townB 1 (askB 2 5 15)=(0,0):=town_look 2 5 15 segs1 town_slices1 (by decide) (by kernel_rfl) (by kernel_rfl) rfl
theorem town_look2:lookQ townB 1 (askB 3 5 15)=(0,0):=town_look 3 5 15 segs1 town_slices1 (by decide) (by kernel_rfl) (by kernel_rfl) rfl
theorem town_look3:lookQ townB 1 (askB 2 15 25)=(0,0):=town_look 2 15 25 segs3 town_slices3 (by decide) (by kernel_rfl) (by kernel_rfl) rfl
theorem wish3:wishQ townB (askB 3 5 15)=(((5,15),1,0,0,2,3),segs1):=by
 unfold wishQ wishOf
 rw [show slicesQ townB (askB 3 5 15).1 (askB 3 5 15).2.2.1=(segs1,0) from town_slices1]
 kernel_rfl
theorem wish2:wishQ townB (askB 2 15 25)=(((15,25),1,0,0,2,2),segs3):=by
 unfold wishQ wishOf
 rw [show slicesQ townB (askB 2 15 25).1 (askB 2 15 25).2.2.1=(segs3,0) from town_slices3]
 kernel_rfl
theorem route_ok {cs:List Int} {r:Int} (hf:routeForm townB.1 cs 0 2 r=true):RouteOk townB.1 cs 0 2 r (routeV (townB.1,cs,0,2,r)).1 (routeV (townB.1,cs,0,2,r)).2.1:=by
 have h:=(routeV_is (townB.1,cs,0,2,r)).2
 unfold routeQ at h
 dsimp only at h
 rw [hf,cT] at h
 exact h.2
theorem may_some {g:Gr} {src dst want:Int} {ps:List Pt} (h:mayB g src dst want ps=true):((ps.length:Int)==0)=false∧decide ((ps.length:Int)>0)=true:=by
 have:ps ≠ []:=by
  intro e
  rw [e] at h
  unfold mayB at h
  simp only [bA,dE,beq_iff_eq] at h
  obtain ⟨_,w1,_,_,w2⟩:=h
  simp only [ratesOf,List.map_nil,sumUp,sI] at w2
  omega
 have:=List.length_pos_iff.2 this
 exact ⟨beq_eq_false_iff_ne.2 (by omega),dT (by omega)⟩
theorem town_p1:mayB townB.1 0 2 3 (routeV (townB.1,[5,4,3],0,2,3)).1=true:=by
 rcases (route_ok (cs:=[5,4,3]) (r:=3) (by kernel_rfl)).either with ⟨_,h2,_⟩|⟨_,h2,h3⟩
 ·exact h2
 ·obtain ⟨_,h4,h5⟩:=cutMay_parts h2
  have h3:worthL (routeV (townB.1,[5,4,3],0,2,3)).2.1 smallG.2 [5,4,3]<3:=h3
  rw [small_worth h4 h5] at h3
  cases h6:amongB (routeV (townB.1,[5,4,3],0,2,3)).2.1 1 <;> rw [h6] at h3 <;> simp only [cT,cF] at h3 <;> omega
theorem town_p2:mayB townB.1 0 2 2 (routeV (townB.1,[5,4,3],0,2,2)).1=true∧fitsOf townB.1 [5,4,3] (routeV (townB.1,[5,4,3],0,2,2)).1=(true,0):=by
 rcases (route_ok (cs:=[5,4,3]) (r:=2) (by kernel_rfl)).either with ⟨_,h2,h3,_⟩|⟨_,h2,h3⟩
 ·exact ⟨h2,h3⟩
 ·obtain ⟨_,h4,h5⟩:=cutMay_parts h2
  have h3:worthL (routeV (townB.1,[5,4,3],0,2,2)).2.1 smallG.2 [5,4,3]<2:=h3
  rw [small_worth h4 h5] at h3
  cases h6:amongB (routeV (townB.1,[5,4,3],0,2,2)).2.1 1 <;> rw [h6] at h3 <;> simp only [cT,cF] at h3 <;> omega
theorem town_p3:mayB townB.1 0 2 2 (routeV (townB.1,[3,2,0],0,2,2)).1=true∧fitsOf townB.1 [3,2,0] (routeV (townB.1,[3,2,0],0,2,2)).1=(true,0):=by
 rcases (route_ok (cs:=[3,2,0]) (r:=2) (by kernel_rfl)).either with ⟨_,h2,h3,_⟩|⟨_,h2,h3⟩
 ·exact ⟨h2,h3⟩
 ·obtain ⟨_,h4,h5⟩:=cutMay_parts h2
  rw [town_worth h4 h5] at h3
  cases h6:amongB (routeV (townB.1,[3,2,0],0,2,2)).2.1 1 <;> rw [h6] at h3 <;> simp only [cT,cF] at h3 <;> omega
theorem town_p4:(routeV (townB.1,[3,2,0],0,2,3)).1=[]∧0<(routeV (townB.1,[3,2,0],0,2,3)).2.1.length∧(proves townB.1 [3,2,0] 0 2 3 (routeV (townB.1,[3,2,0],0,2,3)).2.1).1=true:=by
 rcases (route_ok (cs:=[3,2,0]) (r:=3) (by kernel_rfl)).either with ⟨_,_,_,h4⟩|⟨h1,h2,h3⟩
 ·have:=h4 [0,1] rfl rfl
  rw [town_worth rfl rfl,show amongB [0,1] 1=true by rfl,cT] at this
  omega
 ·obtain ⟨_,h4,h5⟩:=cutMay_parts h2
  refine ⟨h1,?_,?_⟩
  ·cases hv:(routeV (townB.1,[3,2,0],0,2,3)).2.1 with
   |nil=>rw [hv] at h4;cases h4
   |cons v vs=>exact Nat.zero_lt_succ _
  ·unfold proves
   rw [show capsMay townB.1 [3,2,0]=true by kernel_rfl,cT,h2,dT h3]
   rfl
theorem town_cut3:∃ vs:List Int,0<vs.length∧vs.length≤8∧doQ townB 1 (askB 3 5 15)=(townB,((0,0),(10,vs),3,0,0,0,0,[]),0)∧allowQ townB 1 (askB 3 5 15) ((0,0),(10,vs),3,0,0,0,0,[])=(townB,true,0):=by
 obtain ⟨a1,a2⟩:=may_some town_p1
 obtain ⟨b1,b2,b3⟩:=town_p4
 have hl:(lookQ townB 1 (askB 3 5 15)).2=0:=by rw [town_look2]
 have hc:(lookQ townB 1 (askB 3 5 15)).1=0:=by rw [town_look2]
 have hp:planW townB.1 (wishQ townB (askB 3 5 15))=([],(10,(routeV (townB.1,[3,2,0],0,2,3)).2.1)):=by
  rw [wish3]
  unfold planW segs1
  simp only [planFrom]
  rw [a1,cF,show ((((routeV (townB.1,[3,2,0],0,2,3)).1.length:Nat):Int)==0)=true by rw [b1];rfl,cT]
 have hpr:provenW townB.1 (wishQ townB (askB 3 5 15)) (10,(routeV (townB.1,[3,2,0],0,2,3)).2.1)=true:=by
  rw [wish3]
  unfold provenW segs1
  simp only [provenFrom]
  rw [a2,cT,dF (show ¬ (((routeV (townB.1,[3,2,0],0,2,3)).1.length:Nat):Int)>0 by rw [b1];simp),cF,b3]
  rfl
 refine ⟨_,b2,route_verts _,?_,cut_end hl hc rfl (by rw [hp]) b2 hpr⟩
 rw [do_asks hl hc rfl,hp,dT (show (((routeV (townB.1,[3,2,0],0,2,3)).2.1.length:Nat):Int)>0 by omega),cT]
 rfl
theorem town_put2:∃ ps qs:List Pt,doQ townB 1 (askB 2 15 25)=((townB.1,4,0,3,townB.2.2.2.2++[((15,25),2,1,0,2,2,[((15,20),ps),((20,25),qs)])]),((15,25),(0,[]),2,0,2,2,0,[((15,20),ps),((20,25),qs)]),0):=by
 obtain ⟨a1,a2⟩:=may_some town_p2.1
 obtain ⟨b1,b2⟩:=may_some town_p3.1
 have hl:(lookQ townB 1 (askB 2 15 25)).2=0:=by rw [town_look3]
 have hc:(lookQ townB 1 (askB 2 15 25)).1=0:=by rw [town_look3]
 have hp:planW townB.1 (wishQ townB (askB 2 15 25))=([((15,20),(routeV (townB.1,[3,2,0],0,2,2)).1),((20,25),(routeV (townB.1,[5,4,3],0,2,2)).1)],(0,[])):=by
  rw [wish2]
  unfold planW segs3
  simp only [planFrom]
  rw [b1,cF,a1,cF]
  rfl
 refine ⟨(routeV (townB.1,[3,2,0],0,2,2)).1,(routeV (townB.1,[5,4,3],0,2,2)).1,?_⟩
 rw [do_asks hl hc rfl,hp]
 show putQ townB 1 (askB 2 15 25) _=_
 unfold putQ
 rw [show passB townB 1 (askB 2 15 25)=true by unfold passB;rw [town_look3];rfl]
 rw [show mayW townB.1 (wishQ townB (askB 2 15 25)) [((15,20),(routeV (townB.1,[3,2,0],0,2,2)).1),((20,25),(routeV (townB.1,[5,4,3],0,2,2)).1)]=true by
  rw [wish2]
  show (true&&((true&&mayB townB.1 0 2 2 (routeV (townB.1,[3,2,0],0,2,2)).1)&&((true&&mayB townB.1 0 2 2 (routeV (townB.1,[5,4,3],0,2,2)).1)&&true)))=true
  rw [town_p2.1,town_p3.1]
  rfl]
 rw [show fitsW townB.1 (wishQ townB (askB 2 15 25)) [((15,20),(routeV (townB.1,[3,2,0],0,2,2)).1),((20,25),(routeV (townB.1,[5,4,3],0,2,2)).1)]=true by
  rw [wish2]
  show ((((fitsOf townB.1 [3,2,0] (routeV (townB.1,[3,2,0],0,2,2)).1).2==0&&(fitsOf townB.1 [3,2,0] (routeV (townB.1,[3,2,0],0,2,2)).1).1))&&(((fitsOf townB.1 [5,4,3] (routeV (townB.1,[5,4,3],0,2,2)).1).2==0&&(fitsOf townB.1 [5,4,3] (routeV (townB.1,[5,4,3],0,2,2)).1).1)&&true))=true
  rw [town_p2.2,town_p3.2]
  rfl]
 unfold putRes wishOf
 rfl
theorem town_none:putQ townB 1 (askB 2 15 25) []=(Bk.zero,Rp.zero,2000):=by
 unfold putQ
 rw [show passB townB 1 (askB 2 15 25)=true by unfold passB;rw [town_look3];rfl,show mayW townB.1 (wishQ townB (askB 2 15 25)) []=false by rw [wish2];rfl]
 rfl
end
section
set_option maxRecDepth 100000
noncomputable def f36.E (k:Nat):Env:=mkEnv tt [(16,S16),(19,S19),(34,S34),(37,S37r),(38,S38r),(41,S41r),(91,S91r),(92,S92),(93,S93),(94,S94)] [] [(36,6,[.drop 59]),(36,8,[.drop 59])] [] k
noncomputable def f36.code:Go.Code:=cd Tryz.f36
theorem f36.eq (k:Nat):evFn (f36.E k) 9 36 Tryz.f36 [] =
 (chk (pcsSmall townB&&(bookMem townB && !relB townB (1:Int) (askB (3:Int) (5:Int) (15:Int)))) (some (doQ townB (1:Int) (askB (3:Int) (5:Int) (15:Int))))).bind (fun y0=>(chk (pcsSmall townB&&(bookMem townB && !relB townB (1:Int) (askB (2:Int) (15:Int) (25:Int)))) (some (doQ townB (1:Int) (askB (2:Int) (15:Int) (25:Int))))).bind (fun y1=>(chk (pcsSmall townB&&(bookMem townB&&(!relB townB (1:Int) (askB (3:Int) (5:Int) (15:Int))&&rpMem y0.2.1))) (some (allowQ townB (1:Int) (askB (3:Int) (5:Int) (15:Int)) y0.2.1))).bind (fun y2=>bif (lookQ townB (1:Int) (askB (2:Int) (5:Int) (15:Int))).1==(0:Int) then ((chk (smallBk y0.1) (some (sameBk y0.1 townB))).bind (fun y3=>bif y3 then (bif y0.2.1.2.2.1==(3:Int) then (bif y0.2.1.2.1.1==(10:Int) then (bif decide ((↑y0.2.1.2.1.2.length:Int)>(0:Int)) then (bif y0.2.2==(0:Int) then (bif y1.1.2.2.2.1==(3:Int) then (bif (↑y1.1.2.2.2.2.length:Int)==(2:Int) then (bif y1.2.1.2.2.1==(2:Int) then (bif y1.2.1.2.2.2.2.1==(2:Int) then (bif (↑y1.2.1.2.2.2.2.2.2.2.length:Int)==(2:Int) then (bif y1.2.2==(0:Int) then (bif y2.2.1 then ((chk (smallBk y2.1) (some (sameBk y2.1 townB))).bind (fun y4=>bif y4 then (bif y2.2.2==(0:Int) then (some (.bool ((putQ townB (1:Int) (askB (2:Int) (15:Int) (25:Int)) []).2.2==(2000:Int)))) else (some (.bool false))) else (some (.bool false)))) else (some (.bool false))) else (some (.bool false))) else (some (.bool false))) else (some (.bool false))) else (some (.bool false))) else (some (.bool false))) else (some (.bool false))) else (some (.bool false))) else (some (.bool false))) else (some (.bool false))) else (some (.bool false))) else (some (.bool false)))) else (some (.bool false))))):=by kernel_rfl
theorem f36.inl (k:Nat):InlOk Tryz.prog (f36.E k):=inl_nil
theorem f36.sums (k:Nat):SumsOk Tryz.prog (f36.E k):=(sums_cons ok16 (sums_cons ok19 (sums_cons ok34 (sums_cons ok37r (sums_cons ok38r (sums_cons ok41r (sums_cons ok91r (sums_cons ok92 (sums_cons ok93 (sums_cons ok94 sums_nil))))))))))
end
section
noncomputable def S36:Summ:=summ [] Bool (fun _=>some true) .bool
theorem ok36:SumOk Tryz.prog 36 S36 :=
 sumq f36.E (fn:=Tryz.f36) (code:=f36.code) f36.sums f36.inl fun d x hx=>by
  obtain rfl:=oJ hx
  refine ⟨0,(f36.eq 0).trans ?_⟩
  obtain ⟨vs,v1,v2,v3,v4⟩:=town_cut3
  obtain ⟨ps,qs,w⟩:=town_put2
  have r1:relB townB 1 (askB 3 5 15)=false:=by unfold relB;rw [town_look2];rfl
  have r2:relB townB 1 (askB 2 15 25)=false:=by unfold relB;rw [town_look3];rfl
  have rm:rpMem ((0,0),(10,vs),3,0,0,0,0,[])=true:=by
   unfold rpMem
   show (decide (vs.length*8≤140737488355328)&&pcsMem [])=true
   rw [dT (by omega)]
   rfl
  have sb:smallBk townB=true:=by kernel_rfl
  have dv:decide ((vs.length:Int)>0)=true:=dT (by omega)
  rw [town_small,town_mem,r1,r2,v3,w]
  simp only [nF,Bool.and_self,kT,bS,rm,v4,sb,sameBk_self,town_look1,town_none,dv]
  rfl
end
section
set_option maxRecDepth 100000
noncomputable def f8.E (k:Nat):Env:=mkEnv tt [(11,S11),(16,S16),(19,S19),(34,S34),(35,S35),(36,S36)] [] [] [] k
noncomputable def f8.code:Go.Code:=cd Tryz.f8
theorem f8.eq (k:Nat) (x0:(Int×List (eL)) ×
 Int×Int×Int×List (eR)) (x1:Int) (x2:(Int×Int)×Int×Int×eL):evFn (f8.E k) 9 8 Tryz.f8 (encL [(.pair (.pair qI (.list qL)) (.pair qI (.pair qI (.pair qI (.list qR))))),qI,(.pair qS (.pair qI (.pair qI qL)))] (x0,x1,x2)) =
 (chk (bookMem x0) (some x0)).bind (fun y0=>(chk (pcsSmall y0) (some (lookQ y0 x1 x2))).bind (fun y1=>(chk (pcsSmall x0) (some (lookQ x0 x1 x2))).bind (fun y2=>bif y1.1==y2.1 then (bif y1.2==y2.2 then ((chk (smallBk y0) (some (sameBk y0 x0))).bind (fun y3=>some (.bool y3))) else (some (.bool false))) else (some (.bool false))))):=by kernel_rfl
theorem f8.inl (k:Nat):InlOk Tryz.prog (f8.E k):=inl_nil
theorem f8.sums (k:Nat):SumsOk Tryz.prog (f8.E k):=(sums_cons ok11 (sums_cons ok16 (sums_cons ok19 (sums_cons ok34 (sums_cons ok35 (sums_cons ok36 sums_nil))))))
end
section
theorem mem_smallBk {b:Bk} (h:bookMem b=true):smallBk b=true:=by
 unfold bookMem at h
 simp only [bA,dE] at h
 unfold smallBk
 rw [dT (by omega),dT (by omega),tA,tA]
 exact List.all_eq_true.2 fun r hr=>mem_small (List.all_eq_true.1 h.2.2 r hr)
theorem law8_ev (d:Bk×(Int×Rq)) (hs:SzL [tBk,tI,tRq] d) :
  ∃ E c,TtOk Tryz.prog E.tt∧SumsOk Tryz.prog E∧InlOk Tryz.prog E∧evFn E c 8 Tryz.f8 (encL [tBk,tI,tRq] d)=some (.bool true):=by
 obtain ⟨b,o,q⟩:=d
 obtain ⟨hb,_⟩:=hs
 have hps:=sz_book hb
 have hbm:=sz_bookMem hb
 refine ⟨f8.E 0,9,ttOk,f8.sums _,f8.inl _,(f8.eq _ b o q).trans ?_⟩
 rw [hbm,kT,bS,hps,kT,bS,bS,beq_self_eq_true,cT,beq_self_eq_true,cT,mem_smallBk hbm,kT,bS,sameBk_self]
end
section
theorem own:ownKnob Tryz.prog.godebug=none:=by kernel_rfl
theorem laidOut:laidOutB Tryz.prog=true:=by kernel_rfl
theorem rowed:mapsRowed Tryz.prog=true:=by kernel_rfl
theorem heard:Tryz.prog.stopsHeard=true:=by kernel_rfl
theorem enters:Tryz.prog.mayEnter=true:=by kernel_rfl
theorem lifts:Tryz.prog.liftsFinal=false:=by kernel_rfl
theorem makes:Tryz.prog.make=some .cut:=by kernel_rfl
theorem andT {a b:Bool} (h1:a=true) (h2:b=true):(a&&b)=true:=by rw [h1,h2];rfl
end
end Go.Proofs.YtkflbkcfabnomaaGreat.R
