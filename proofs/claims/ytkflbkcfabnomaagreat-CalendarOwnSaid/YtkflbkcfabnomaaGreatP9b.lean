import Derived.Test.YtkflbkcfabnomaaGreatP9a
import Derived.Laws.Strings
import Derived.Laws.Concat
import Derived.Laws.Pointers
import Derived.Laws.Small
namespace Go.Proofs.YtkflbkcfabnomaaGreat.R
set_option linter.unusedVariables false
set_option linter.unusedSimpArgs false
section
open Go.RowKit
theorem V.mapC_of {g:V→V} {v:V} (h:v.isFn=false):v.mapC g=g v:=by cases v <;> first|rfl|simp [V.isFn] at h
theorem V.mapC_mapC {g1 g2:V→V} (hf:∀ v,v.isFn=false→(g1 v).isFn=false) (v:V):(v.mapC g1).mapC g2=v.mapC (g2 ∘ g1):=by
 by_cases hv:v.isFn=true
 ·cases v <;> simp only [V.isFn,Bool.false_eq_true] at hv
  simp [V.mapC,List.map_map]
 ·have hv:v.isFn=false:=by simpa using hv
  rw [V.mapC_of hv,V.mapC_of (hf v hv),V.mapC_of hv]
  rfl
theorem V.map1_map1 {g1 g2:V→V} (hf:∀ v,v.isFn=false→(g1 v).isFn=false) (ha:∀ v,v.isAgg=false→(g1 v).isAgg=false) (ht:∀ v,v.isTup=false→(g1 v).isTup=false) (v:V) :
  (v.map1 g1).map1 g2=v.map1 (g2 ∘ g1):=by
 have hC:∀ v:V,(v.mapC g1).mapC g2=v.mapC (g2 ∘ g1):=V.mapC_mapC hf
 have hAC:∀ v:V,v.isAgg=false→(v.mapC g1).isAgg=false:=by
  intro v hv
  cases v <;> first|exact ha _ hv|rfl
 have hA:∀ v:V,(v.mapA g1).mapA g2=v.mapA (g2 ∘ g1):=by
  intro v
  by_cases hv:v.isAgg=true
  ·cases v <;> simp only [V.isAgg,Bool.false_eq_true] at hv
   simp only [V.mapA,List.map_map]
   congr 1
   refine List.map_congr_left fun v _=>hC v
  ·have hv:v.isAgg=false:=by simpa using hv
   have h1:∀ g:V→V,v.mapA g=v.mapC g:=by intro g;cases v <;> first|rfl|simp [V.isAgg] at hv
   have h2:∀ u:V,u.isAgg=false→u.mapA g2=u.mapC g2:=by intro u hu;cases u <;> first|rfl|simp [V.isAgg] at hu
   rw [h1,h1,h2 _ (hAC v hv),hC]
 have hAT:∀ v:V,v.isTup=false→(v.mapA g1).isTup=false:=by
  intro v hv
  cases v <;> first|exact ht _ hv|rfl
 by_cases hv:v.isTup=true
 ·cases v <;> simp only [V.isTup,Bool.false_eq_true] at hv
  simp only [V.map1,List.map_map]
  congr 1
  refine List.map_congr_left fun v _=>hA v
 ·have hv:v.isTup=false:=by simpa using hv
  have h1:∀ g:V→V,v.map1 g=v.mapA g:=by intro g;cases v <;> first|rfl|simp [V.isTup] at hv
  have h2:∀ u:V,u.isTup=false→u.map1 g2=u.mapA g2:=by intro u hu;cases u <;> first|rfl|simp [V.isTup] at hu
  rw [h1,h1,h2 _ (hAT v hv),hA]
theorem killV_isFn (e:Nat) (v:V) (h:v.isFn=false):(killV e v).isFn=false:=by
 cases v <;> first|exact h|rfl|(simp only [killV];split <;> rfl)|(simp only [killV];cases (_==e) <;> rfl)
theorem killV_isAgg (e:Nat) (v:V) (h:v.isAgg=false):(killV e v).isAgg=false:=by
 cases v <;> first|exact h|rfl|(simp only [killV];cases (_==e) <;> rfl)
theorem killV_isTup (e:Nat) (v:V) (h:v.isTup=false):(killV e v).isTup=false:=by
 cases v <;> first|exact h|rfl|(simp only [killV];cases (_==e) <;> rfl)
theorem killV_kill (e nm:Nat) (v:V):(v.map1 (killV e)).map1 (killV nm)=v.map1 (killV nm ∘ killV e) :=
 V.map1_map1 (killV_isFn e) (killV_isAgg e) (killV_isTup e) v
theorem killV_killC (e nm:Nat) (v:V):(v.mapC (killV e)).mapC (killV nm)=v.mapC (killV nm ∘ killV e):=V.mapC_mapC (killV_isFn e) v
def kill2 (e nm:Nat):V→V:=bif e==nm then killV nm else killV nm ∘ killV e
theorem kill2_undef (e nm:Nat):kill2 e nm .undef=.undef:=by unfold kill2;cases e==nm <;> rfl
theorem kill2_other {e nm:Nat} {v:V} (h:refOf v ≠ some e) (h2:refOf v ≠ some nm):kill2 e nm v=v:=by
 unfold kill2
 cases e==nm
 ·simp only [cond_false,Function.comp,killV_other h,killV_other h2]
 ·simp only [cond_true,killV_other h2]
theorem killV_self {e:Nat} {v:V} (h:refOf v=some e):killV e v=.undef:=by
 cases v <;> simp only [refOf,sI,reduceCtorEq] at h <;> subst h <;> simp [killV]
theorem kill2_self {e nm:Nat} {v:V} (h:refOf v=some e∨refOf v=some nm):kill2 e nm v=.undef:=by
 unfold kill2
 by_cases hee:e=nm
 ·subst hee
  simp only [beq_self_eq_true,cond_true]
  rcases h with h|h <;> exact killV_self h
 ·have:(e==nm)=false:=by simpa using hee
  simp only [this,cond_false,Function.comp]
  by_cases h1:refOf v=some e
  ·rw [killV_self h1];rfl
  ·rcases h with h|h
   ·exact absurd h h1
   ·rw [killV_other h1];exact killV_self h
theorem repl_fr (σ:St) (e nm:Nat) (x:Entry):σ.repl e nm x={ fr:=σ.fr.map (V.map1 (kill2 e nm)),outs:=σ.outs.map (List.map (V.map1 (kill2 e nm))),mem:=(σ.repl e nm x).mem }:=by
 unfold St.repl kill2
 cases e==nm
 ·simp only [cond_false,St.kill,St.map1,List.map_map]
  congr 1
  ·refine List.map_congr_left fun v _=>killV_kill e nm v
  ·refine List.map_congr_left fun fr _=>?_
   simp only [List.map_map,Function.comp]
   refine List.map_congr_left fun v _=>killV_kill e nm v
 ·rfl
theorem repl_look (σ:St) (e nm:Nat) (x:Entry) (e':Nat):look (σ.repl e nm x).mem e'=if e'=nm then some x else if e'=e then none else (look σ.mem e').map (Entry.map1 (kill2 e nm)):=by
 unfold St.repl kill2
 by_cases hee:e=nm
 ·subst hee
  simp only [beq_self_eq_true,cond_true]
  show look ((e,x)::(σ.kill e).mem) e'=_
  rw [look_cons]
  by_cases h:e'=e
  ·subst h;simp
  ·rw [if_neg (Ne.symm h),if_neg h,if_neg h,look_kill,if_neg h]
 ·have hb:(e==nm)=false:=by simpa using hee
  simp only [hb,cond_false]
  show look ((nm,x)::((σ.kill e).kill nm).mem) e'=_
  rw [look_cons]
  by_cases h:e'=nm
  ·subst h;simp
  ·rw [if_neg (Ne.symm h),if_neg h,look_kill,if_neg h,look_kill]
   by_cases h2:e'=e
   ·simp [h2]
   ·simp only [h2,if_false,Option.map_map]
    congr 1
    funext E
    cases E with
    |row t l=>rfl
    |nest t ll k=>rfl
    |box cs =>
     simp only [Function.comp,Entry.map1,List.map_map]
     congr 1
     refine List.map_congr_left fun v _=>killV_killC e nm v
section
variable {P:Program} {E:Env} {C:Frm} {β:Nat→Option Loc} {σ σ':St} {a:Act} {as:List (Array Value)} {w:World} {o:Oper} {nm:Nat} {ty:TypeId} {bs:List Bool} {v:V}
theorem Sim.inPlace (h:Sim C β σ as w) {en:Nat} {t:Ty} {l0:List t.den} {L:Loc} {off n:Nat} {cs:Array Value} {el:TypeId} {xs:List t.den} {news:List Value} (hl:look σ.mem en=some (.row t l0)) (ho:off+n≤l0.length) (hL:β en=some L)
  (hblk:w.heap[L.g]? = some (.cells cs el (0,0))) (hsz:cs.size=L.cells) (hel:∀ (i:Nat) x,l0[i]? = some x→∃ zs,DRel (Free C σ.mem β w) w t x zs∧∀ (j:Nat) z,zs[j]? = some z→cs[L.base+i*t.size+j]? = some z)
  (hfit:L.base+(off+(n+xs.length))*t.size≤L.cells) (hnl:news.length=xs.length*t.size)
  (hnew:∀ (i:Nat) x,xs[i]? = some x→∃ zs,DRel (Free C σ.mem β w) w t x zs∧∀ (j:Nat) z,zs[j]? = some z→news[i*t.size+j]? = some z) :
  Sim C (setβ β nm (some ⟨L.g,L.base+off*t.size,L.cells,noI⟩)) (σ.repl en nm (.row t ((l0.drop off).take n++xs))) as
   (w.setRow L.g (cs.toList.take (L.base+off*t.size+n*t.size)++news++cs.toList.drop (L.base+off*t.size+n*t.size+news.length)).toArray):=by
 have hlen:((l0.drop off).take n).length=n:=by simp;omega
 have hpos:L.base+off*t.size+n*t.size+news.length≤cs.size:=by
  rw [hsz,hnl]
  rw [Nat.add_mul,Nat.add_mul] at hfit
  omega
 have hes:(look σ.mem en).isSome=true:=by rw [hl];rfl
 have hhp:∀ g,g ≠ L.g→(w.setRow L.g (cs.toList.take (L.base+off*t.size+n*t.size)++news++cs.toList.drop (L.base+off*t.size+n*t.size+news.length)).toArray).heap[g]? = w.heap[g]? := fun g hg=>setRow_other w L.g g _ hg
 have hne:∀ g,Free C σ.mem β w g→g.2 ≠ L.g:=by
  intro g hf hg
  exact hf.2 (.inl ⟨en,L,hes,hL,.inl hg.symm⟩)
 have hs:∀ e',(look (σ.repl en nm (.row t ((l0.drop off).take n++xs))).mem e').isSome=true→e'=nm∨(e' ≠ nm∧e' ≠ en∧(look σ.mem e').isSome=true):=by
  intro e' h1
  rw [repl_look] at h1
  by_cases h2:e'=nm
  ·exact .inl h2
  ·rw [if_neg h2] at h1
   by_cases h3:e'=en
   ·simp [h3] at h1
   ·rw [if_neg h3] at h1
    exact .inr ⟨h2,h3,by simpa using h1⟩
 rw [repl_fr]
 have key:(∀ gg,Free C σ.mem β w gg→Free C (σ.repl en nm (.row t ((l0.drop off).take n++xs))).mem (setβ β nm (some ⟨L.g,L.base+off*t.size,L.cells,noI⟩)) (w.setRow L.g (cs.toList.take (L.base+off*t.size+n*t.size)++news++cs.toList.drop (L.base+off*t.size+n*t.size+news.length)).toArray) gg) →
   ∀ v x,V0 (cx C β σ w) v x→V0 ⟨(σ.repl en nm (.row t ((l0.drop off).take n++xs))).mem,setβ β nm (some ⟨L.g,L.base+off*t.size,L.cells,noI⟩),Free C (σ.repl en nm (.row t ((l0.drop off).take n++xs))).mem (setβ β nm (some ⟨L.g,L.base+off*t.size,L.cells,noI⟩)) (w.setRow L.g (cs.toList.take (L.base+off*t.size+n*t.size)++news++cs.toList.drop (L.base+off*t.size+n*t.size+news.length)).toArray),w.setRow L.g (cs.toList.take (L.base+off*t.size+n*t.size)++news++cs.toList.drop (L.base+off*t.size+n*t.size+news.length)).toArray⟩ (kill2 en nm v) x:=by
  intro hF v x hv
  by_cases hr:refOf v=some en∨refOf v=some nm
  ·rw [kill2_self hr];exact trivial
  ·have hr1:refOf v ≠ some en:=fun hh=>hr (.inl hh)
   have hr2:refOf v ≠ some nm:=fun hh=>hr (.inr hh)
   rw [kill2_other hr1 hr2]
   refine V0.other (S:=cx C β σ w) (g:=kill2 en nm) hF (fun g hg=>hhp g.2 (hne g hg)) hv fun e' he'=>⟨?_,?_⟩
   ·show look (σ.repl en nm _).mem e'=_
    rw [repl_look,if_neg (fun he=>hr2 (by rw [he',he])),if_neg (fun he=>hr1 (by rw [he',he]))]
   ·show setβ β nm _ e'=β e'
    simp only [setβ]
    rw [if_neg (fun he=>hr2 (by rw [he',he]))]
 refine h.mapW (kill2 en nm) _ _ (fun e'=>if e'=nm then en else e') ?_ (by simp) (fun g hg=>hhp g.2 (hne g hg)) (kill2_undef en nm) ?_ ?_ key ?_
 ·refine ⟨h.frm.os,h.frm.tape,h.frm.output,by simpa using h.frm.size,fun g h1 h2=>?_⟩
  rw [hhp g ?_]
  ·exact h.frm.block g h1 h2
  ·rintro rfl
   rcases (h.own en L _ hes hL L.has_g).2 with h3|h3
   ·omega
   ·exact h2 h3
 ·intro e' h1
  rcases hs e' h1 with rfl|⟨h2,h3,h4⟩
  ·simp only [if_true]
   refine ⟨hes,fun L' hL'=>⟨L,hL,?_⟩⟩
   simp only [setβ,if_true,sI] at hL'
   subst hL'
   intro g hg
   exact .inl (Loc.has_noI hg)
  ·simp only [h2,if_false]
   exact ⟨h4,fun L' hL'=>⟨L',by simpa [setβ,h2] using hL',fun _ hg=>hg⟩⟩
 ·intro e1 e2 h1 h2 h3
  rcases hs e1 h1 with rfl|⟨h4,h5,h6⟩ <;> rcases hs e2 h2 with h7|⟨h7,h8,h9⟩
  ·exact h7.symm
  ·simp only [if_true,h7,if_false] at h3;exact absurd h3.symm h8
  ·subst h7;simp only [if_true,h4,if_false] at h3;exact absurd h3 h5
  ·simpa [h4,h7] using h3
 ·intro hF e' E' hE
  rw [repl_look] at hE
  by_cases h2:e'=nm
  ·subst h2
   rw [if_pos rfl] at hE
   injection hE with hE
   subst hE
   refine .inr ⟨⟨L.g,L.base+off*t.size,L.cells,noI⟩,_,el,by simp [setβ],setRow_heap w L.g cs _ el (0,0) hblk,?_,?_,fun i x hx=>?_⟩
   ·rw [← hsz]
    simp only [List.size_toArray,lA,List.length_take,List.length_drop,Array.length_toList]
    omega
   ·show L.base+off*t.size+((l0.drop off).take n++xs).length*t.size≤L.cells
    rw [lA,hlen]
    rw [Nat.add_mul] at hfit ⊢
    rw [Nat.add_mul] at hfit
    omega
   ·show ∃ zs,DRel _ _ t x zs∧∀ (j:Nat) z,zs[j]? = some z→(List.toArray _)[L.base+off*t.size+i*t.size+j]? = some z
    by_cases hi:i<n
    ·rw [List.getElem?_append_left (by omega),List.getElem?_take_of_lt hi,List.getElem?_drop] at hx
     obtain ⟨zs,hz,hcell⟩:=hel (off+i) x hx
     refine ⟨zs,hz.mono hF (fun g hg=>hhp g.2 (hne g hg)),fun j z hj=>?_⟩
     have hjl:j<t.size:=by
      have:=(List.getElem?_eq_some_iff.1 hj).1
      rw [hz.length] at this;exact this
     rw [List.getElem?_toArray,splice_get cs.toList news (L.base+off*t.size+n*t.size) (by simpa using hpos)]
     have:=Nat.mul_le_mul_right t.size (show i+1≤n from hi)
     rw [Nat.add_mul] at this
     rw [if_pos (by omega)]
     have hc:=hcell j z hj
     rw [← hc]
     simp only [Array.getElem?_toList]
     congr 1
     rw [Nat.add_mul];omega
    ·rw [List.getElem?_append_right (by omega),hlen] at hx
     obtain ⟨zs,hz,hcell⟩:=hnew (i - n) x hx
     refine ⟨zs,hz.mono hF (fun g hg=>hhp g.2 (hne g hg)),fun j z hj=>?_⟩
     have hjl:j<t.size:=by
      have:=(List.getElem?_eq_some_iff.1 hj).1
      rw [hz.length] at this;exact this
     have hxl:i - n<xs.length:=(List.getElem?_eq_some_iff.1 hx).1
     rw [List.getElem?_toArray,splice_get cs.toList news (L.base+off*t.size+n*t.size) (by simpa using hpos)]
     have h3:i*t.size=n*t.size+(i - n)*t.size:=by rw [← Nat.add_mul];congr 1;omega
     have h4:=Nat.mul_le_mul_right t.size (show i - n+1≤xs.length from hxl)
     rw [Nat.add_mul] at h4
     rw [if_neg (by omega),if_pos (by omega)]
     rw [← hcell j z hj]
     congr 1
     omega
  ·rw [if_neg h2] at hE
   by_cases h3:e'=en
   ·simp [h3] at hE
   ·rw [if_neg h3] at hE
    cases hl':look σ.mem e' with
    |none=>simp [hl'] at hE
    |some E1 =>
     simp only [hl',Option.map_some,sI] at hE
     subst hE
     refine (h.ent e' E1 hl').map (S:=cx C β σ w) (e:=e') (key hF) hF (fun g hg=>hhp g.2 (hne g hg)) (fun L' g hL' hh=>hhp _ fun hg=>h3 ?_) (by simp [setβ,h2])
     exact h.inj e' en L' L g (by rw [hl'];rfl) hes hL' hL hh (.inl hg.symm)
theorem kill_free (h:Sim C β σ as w) (e:Nat) {g:Ty×Nat} (hg:Free C σ.mem β w g):Free C (σ.kill e).mem β w g:=by
 obtain ⟨h1,h2⟩:=hg
 refine ⟨h1,?_⟩
 refine fun hoh=>h2 (hoh.imp_left ?_)
 rintro ⟨e',L,h3,h4,h5⟩
 rw [look_kill] at h3
 by_cases he:e'=e
 ·simp [he] at h3
 ·simp only [he,if_false,Option.isSome_map] at h3
  exact ⟨e',L,h3,h4,h5⟩
theorem killSl_other {e:Nat} {v:V} (h:refOf v ≠ some e):killSl e v=v:=by
 cases v <;> first|rfl|(simp only [refOf,ne_eq,sI] at h;rw [← Ne,← beq_eq_false_iff_ne] at h;simp [killSl,h])
theorem SlAt.loc {L L':Loc} {sz off n:Nat} {x:Value} (h:SlAt (some L) sz off n x) (h1:L'.g=L.g) (h2:L'.base=L.base) (h3:L'.cells=L.cells):SlAt (some L') sz off n x:=by
 obtain ⟨A,c,e1,e2,e3⟩:=h
 refine ⟨A,c,e1,e2,e3.imp id ?_⟩
 rintro ⟨L1,e4,e5,e6⟩
 injection e4 with e4
 subst e4
 exact ⟨L',rfl,by rw [h1,h2];exact e5,by rw [h2,h3];exact e6⟩
def Loc.out (L:Loc) (o:Nat):Loc:={ L with inn:=fun i=>if i=o then none else L.inn i }
def Loc.into (L:Loc) (o:Nat) (p:Option (Nat×Nat×Nat)):Loc:={ L with inn:=fun i=>if i=o then p else L.inn i }
theorem Loc.out_has {L:Loc} {o g:Nat} (h:(L.out o).has g):L.has g:=by
 rcases h with h|⟨i,p,h1,h2⟩
 ·exact .inl h
 ·simp only [Loc.out] at h1
  by_cases hi:i=o
  ·simp [hi] at h1
  ·rw [if_neg hi] at h1
   exact .inr ⟨i,p,h1,h2⟩
theorem Loc.out_inner {L:Loc} {o i:Nat} (h:i ≠ o):(L.out o).inner i=L.inner i:=by simp [Loc.inner,Loc.out,h]
theorem Loc.into_inner {L:Loc} {o i:Nat} {p:Option (Nat×Nat×Nat)} (h:i ≠ o):(L.into o p).inner i=L.inner i:=by simp [Loc.inner,Loc.into,h]
theorem Loc.inner_has {L:Loc} {o g:Nat} {L1:Loc} (h:L.inner o=some L1) (hg:L1.has g):∃ p,L.inn o=some p∧p.1=g:=by
 unfold Loc.inner at h
 cases hp:L.inn o with
 |none=>rw [hp] at h;cases h
 |some p =>
  rw [hp] at h
  have h:=oJ h
  subst h
  exact ⟨p,rfl,Loc.has_noI hg⟩
theorem Sim.take1 (h:Sim C β σ as w) {e nm o:Nat} {t:Ty} {ll:List (List t.den)} {L:Loc} {l:List t.den} (hn:look σ.mem nm=none) (hl:look σ.mem e=some (.nest t ll none)) (hL:β e=some L) (ho:ll[o]? = some l) {m':List (Nat×Entry)} {β':Nat→Option Loc}
  (hm:m'=(nm,.row t l)::updE (σ.map1 (killSl e)).mem e (.nest t ll (some o))) (hβ:β'=setβ (setβ β e (some (L.out o))) nm (L.inner o)) :
  Sim C β' { σ.map1 (killSl e) with mem:=m' } as w∧∀ v y,V3 (cx C β σ w) v y→V3 ⟨m',β',Free C m' β' w,w⟩ (v.map1 (killSl e)) y:=by
 have hne:nm ≠ e:=by rintro rfl;rw [hl] at hn;cases hn
 have lk:∀ e',look m' e'=if e'=nm then some (.row t l) else if e'=e then some (.nest t ll (some o)) else (look σ.mem e').map (Entry.map1 (killSl e)):=by
  intro e'
  subst hm
  rw [look_cons,look_updE]
  show (if nm=e' then _ else if e=e'∧(look (σ.mem.map fun p=>(p.1,p.2.map1 (killSl e))) e).isSome=true then _ else look (σ.mem.map fun p=>(p.1,p.2.map1 (killSl e))) e')=_
  rw [look_map,look_map,hl]
  by_cases h1:e'=nm
  ·subst h1;simp
  ·by_cases h2:e'=e
   ·subst h2;simp [hne,h1]
   ·simp [h1,h2,Ne.symm h1,Ne.symm h2]
 have b1:β' nm=L.inner o:=by subst hβ;simp [setβ]
 have b2:β' e=some (L.out o):=by subst hβ;simp [setβ,hne.symm]
 have b3:∀ e',e' ≠ nm→e' ≠ e→β' e'=β e':=fun e' h1 h2=>by subst hβ;simp [setβ,h1,h2]
 have hent:=h.ent e _ hl
 obtain ⟨L',cs,el,h1,h2,h3,h4,h5,h6,h7⟩:=hent
 have h1:=hL.symm.trans h1
 injection h1 with h1
 subst h1
 have hold:∀ e' L',(look m' e').isSome=true→β' e'=some L'→∃ e1 L1,e1=(if e'=nm then e else e')∧(look σ.mem e1).isSome=true∧β e1=some L1∧∀ g,L'.has g→L1.has g:=by
  intro e' L1 k1 k2
  by_cases hq:e'=nm
  ·subst hq
   rw [b1] at k2
   exact ⟨e,L,by simp,by rw [hl];rfl,hL,fun g hg=>L.has_inner k2 hg⟩
  ·by_cases hq2:e'=e
   ·subst hq2
    rw [b2] at k2
    injection k2 with k2
    subst k2
    exact ⟨e',L,by simp [hq],by rw [hl];rfl,hL,fun g hg=>Loc.out_has hg⟩
   ·rw [b3 e' hq hq2] at k2
    rw [lk,if_neg hq,if_neg hq2] at k1
    exact ⟨e',L1,by simp [hq],by simpa using k1,k2,fun _ hg=>hg⟩
 have hF:∀ gg,Free C σ.mem β w gg→Free C m' β' w gg:=by
  rintro gg ⟨k1,k2⟩
  refine ⟨k1,fun hoh=>k2 (hoh.imp_left ?_)⟩
  rintro ⟨e',L1,k3,k4,k5⟩
  obtain ⟨e1,L2,_,k6,k7,k8⟩:=hold e' L1 k3 k4
  exact ⟨e1,L2,k6,k7,k8 _ k5⟩
 have key:∀ v x,V0 (cx C β σ w) v x→V0 ⟨m',β',Free C m' β' w,w⟩ (killSl e v) x:=by
  intro v x hv
  by_cases hr:refOf v=some e
  ·cases v <;> simp only [refOf,sI,reduceCtorEq] at hr <;> subst hr
   ·rename_i e'
    rcases hv with ⟨t',l',hl',_⟩|⟨E',n,hl',hw,hs⟩
    ·have hl':=hl.symm.trans hl';cases hl'
    ·have hl':=hl.symm.trans hl'
     injection hl' with hl'
     subst hl'
     refine .inr ⟨.nest t ll (some o),n,by rw [lk,if_neg hne.symm,if_pos rfl],hw,?_⟩
     have hs:SlAt (β e') 1 0 n x:=hs
     rw [hL] at hs
     show SlAt (β' e') 1 0 n x
     rw [b2]
     exact hs.loc rfl rfl rfl
   ·rename_i e' oo n
    simp only [killSl,beq_self_eq_true,cond_true]
    exact trivial
   ·rename_i e' i oo
    obtain ⟨E',L1,hl',hL',hx⟩:=hv
    have hl':=hl.symm.trans hl'
    injection hl' with hl'
    subst hl'
    have hL':=hL.symm.trans hL'
    injection hL' with hL'
    subst hL'
    exact ⟨.nest t ll (some o),L.out o,by rw [lk,if_neg hne.symm,if_pos rfl],b2,hx⟩
  ·rw [killSl_other hr]
   refine V0.other (S:=cx C β σ w) (S':=⟨m',β',Free C m' β' w,w⟩) (g:=killSl e) hF (fun _ _=>rfl) hv fun e' he'=>?_
   have q1:e' ≠ e:=fun hh=>hr (by rw [he',hh])
   have q2:e' ≠ nm:=by
    rintro rfl
    cases v <;> simp only [refOf,sI,reduceCtorEq] at he' <;> subst he'
    ·rcases hv with ⟨_,_,k,_⟩|⟨_,_,k,_⟩ <;> (have k:=hn.symm.trans k;cases k)
    ·rcases hv with ⟨_,_,k,_⟩|⟨_,_,_,_,_,k,_⟩ <;> (have k:=hn.symm.trans k;cases k)
    ·obtain ⟨_,_,k,_⟩:=hv
     have k:=hn.symm.trans k;cases k
   exact ⟨by rw [lk,if_neg q2,if_neg q1],b3 e' q2 q1⟩
 refine ⟨⟨h.frm,?_,?_,?_,?_⟩,fun v y hv=>hv.map key⟩
 ·have:=h.fr.map (List.map (V.map1 (killSl e))) (Q:=FrRel ⟨m',β',Free C m' β' w,w⟩) fun fr tmps hr=>hr.map key rfl
  simpa [St.map1] using this
 ·intro e' E' hE
  have hE:look m' e'=some E':=hE
  rw [lk] at hE
  by_cases q1:e'=nm
  ·subst q1
   rw [if_pos rfl] at hE
   injection hE with hE
   subst hE
   obtain ⟨h8,_⟩:=h7 o l ho (by simp)
   have h8:=h8.mono (S:=cx C β σ w) (S':=⟨m',β',Free C m' β' w,w⟩) hF (fun _ _=>rfl) (fun _ _ _ _=>rfl)
   show EntOk ⟨m',β',Free C m' β' w,w⟩ e' (.row t l)
   unfold EntOk
   show (l=[]∧β' e'=none)∨∃ L cs el,β' e'=some L∧_
   rw [b1]
   exact h8
  ·rw [if_neg q1] at hE
   by_cases q2:e'=e
   ·subst q2
    rw [if_pos rfl] at hE
    injection hE with hE
    subst hE
    refine ⟨L.out o,cs,el,b2,h2,h3,h4,fun i p hp=>?_,fun i i' p p' hp hp' hq=>?_,fun i l' hi hk=>?_⟩
    ·simp only [Loc.out] at hp
     by_cases hi:i=o
     ·simp [hi] at hp
     ·rw [if_neg hi] at hp
      obtain ⟨k1,_,k3⟩:=h5 i p hp
      exact ⟨k1,by simpa using fun hh=>hi hh.symm,k3⟩
    ·simp only [Loc.out] at hp hp'
     by_cases hi:i=o
     ·simp [hi] at hp
     ·by_cases hi':i'=o
      ·simp [hi'] at hp'
      ·rw [if_neg hi] at hp
       rw [if_neg hi'] at hp'
       exact h6 i i' p p' hp hp' hq
    ·have hio:i ≠ o:=fun hh=>hk (by rw [hh])
     obtain ⟨k1,k2⟩:=h7 i l' hi (by simp)
     rw [Loc.out_inner hio]
     exact ⟨k1.mono (S:=cx C β σ w) (S':=⟨m',β',Free C m' β' w,w⟩) hF (fun _ _=>rfl) (fun _ _ _ _=>rfl),k2⟩
   ·rw [if_neg q2] at hE
    cases hl':look σ.mem e' with
    |none=>simp [hl'] at hE
    |some E1 =>
     simp only [hl',Option.map_some,sI] at hE
     subst hE
     exact (h.ent e' E1 hl').map (S:=cx C β σ w) (e:=e') key hF (fun _ _=>rfl) (fun _ _ _ _=>rfl) (b3 e' q1 q2)
 ·intro e1 e2 L1 L2 g k1 k2 k3 k4 k5 k6
  obtain ⟨o1,M1,r1,r2,r3,r4⟩:=hold e1 L1 k1 k3
  obtain ⟨o2,M2,s1,s2,s3,s4⟩:=hold e2 L2 k2 k4
  have hoo:=h.inj o1 o2 M1 M2 g r2 s2 r3 s3 (r4 g k5) (s4 g k6)
  have both:∀ La Lb,β' nm=some La→β' e=some Lb→La.has g→Lb.has g→False:=by
   intro La Lb c1 c2 c3 c4
   rw [b1] at c1
   rw [b2] at c2
   injection c2 with c2
   subst c2
   obtain ⟨p,hp,hpg⟩:=Loc.inner_has c1 c3
   rcases c4 with c4|⟨i,p',c4,c5⟩
   ·exact (h5 o p hp).1 (by rw [hpg];exact c4.symm)
   ·simp only [Loc.out] at c4
    by_cases hi:i=o
    ·simp [hi] at c4
    ·rw [if_neg hi] at c4
     exact hi (h6 i o p' p c4 hp (by rw [c5,hpg]))
  by_cases q1:e1=nm <;> by_cases q2:e2=nm
  ·rw [q1,q2]
  ·rw [if_pos q1] at r1
   rw [if_neg q2] at s1
   have:e2=e:=by rw [← s1,← hoo,r1]
   exact (both L1 L2 (by rw [← q1];exact k3) (by rw [← this];exact k4) k5 k6).elim
  ·rw [if_neg q1] at r1
   rw [if_pos q2] at s1
   have:e1=e:=by rw [← r1,hoo,s1]
   exact (both L2 L1 (by rw [← q2];exact k4) (by rw [← this];exact k3) k6 k5).elim
  ·rw [if_neg q1] at r1
   rw [if_neg q2] at s1
   rw [← r1,← s1,hoo]
 ·intro e1 L1 g k1 k2 k3
  obtain ⟨o1,M1,r1,r2,r3,r4⟩:=hold e1 L1 k1 k2
  exact h.own o1 M1 g r2 r3 (r4 g k3)
theorem Sim.takeN (h:Sim C β σ as w) {nm:Nat} {sv:V} {x:Value} {σ':St} (hk:takeN σ nm sv=some σ') (hv:V3 (cx C β σ w) sv x) :
  ∃ β' e o n,sv=.sl e o n∧Sim C β' σ' as w∧V3 (cx C β' σ' w) (.slw nm) x∧∀ v y,V3 (cx C β σ w) v y→V3 (cx C β' σ' w) ((v.map1 (killV nm)).map1 (killSl e)) y:=by
 unfold R.takeN at hk
 split at hk
 rotate_left
 ·cases hk
 rename_i e o n
 split at hk
 rotate_left
 ·cases hk
 rename_i t ll hl
 cases hb:(e==nm) with
 |true=>rw [hb] at hk;cases hk
 |false =>
 rw [hb] at hk
 simp only [cond_false,sI] at hk
 have hne:e ≠ nm:=by simpa using hb
 rcases hv with ⟨t',l',hl',_⟩|⟨t',ll',k',l,L,hl',hk',hL,hll,hn,hs⟩
 ·have hl':=hl.symm.trans hl';cases hl'
 have hl':=hl.symm.trans hl'
 injection hl' with hl'
 injection hl' with q1 q2 q3
 subst q1
 have q2:=eq_of_heq q2
 subst q2
 subst q3
 have hget:ll.getD o []=l:=by rw [List.getD_eq_getElem?_getD,hll];rfl
 have hc:=h.clear nm
 have hlc:look (σ.clear nm).mem e=some (.nest t ll none):=by
  unfold St.clear
  cases (look σ.mem nm).isSome with
  |false=>exact hl
  |true=>simp only [cond_true];rw [look_kill,if_neg hne,hl];rfl
 obtain ⟨k1,k2⟩:=hc.take1 (nm:=nm) (look_clear_self σ nm) hlc hL hll rfl rfl
 subst hk
 simp only [hget]
 refine ⟨_,e,o,n,rfl,k1,?_,fun v y hv=>?_⟩
 ·refine V3.of0 (.inl ⟨t,l,?_,?_⟩)
  ·show look ((nm,_)::_) nm=_
   rw [look_cons,if_pos rfl]
  ·show SlAt (setβ _ nm (L.inner o) nm) _ _ _ _
   simp only [setβ,if_true]
   rw [hn]
   exact hs
 ·refine k2 _ y ?_
  unfold St.clear
  cases hi:(look σ.mem nm).isSome with
  |true =>
   refine hv.map fun v x hv=>?_
   by_cases hr:refOf v=some nm
   ·rw [killV_self hr];exact trivial
   ·rw [killV_other hr]
    refine V0.other (S:=cx C β σ w) (S':=cx C β (σ.kill nm) w) (g:=killV nm) (fun gg hg=>kill_free h nm hg) (fun _ _=>rfl) hv fun e' he'=>⟨?_,rfl⟩
    show look (σ.kill nm).mem e'=_
    rw [look_kill,if_neg fun hh=>hr (by rw [he',hh])]
  |false =>
   refine hv.map fun v x hv=>?_
   by_cases hr:refOf v=some nm
   ·rw [killV_self hr];exact trivial
   ·rw [killV_other hr]
    exact hv
end
open Go.RowKit
section
variable {P:Program} {E:Env} {C:Frm} {β:Nat→Option Loc} {σ σ':St} {a:Act} {as:List (Array Value)} {w:World} {o:Oper} {nm:Nat} {ty:TypeId} {bs:List Bool} {v:V}
theorem Elems.mono {B B':Ty×Nat→Prop} {t:Ty} {xs:List t.den} {news:List Value} (hB:∀ g,B g→B' g)
  (h:∀ (i:Nat) x,xs[i]? = some x→∃ zs,DRel B w t x zs∧∀ (j:Nat) z,zs[j]? = some z→news[i*t.size+j]? = some z) :
  ∀ (i:Nat) x,xs[i]? = some x→∃ zs,DRel B' w t x zs∧∀ (j:Nat) z,zs[j]? = some z→news[i*t.size+j]? = some z:=by
 intro i x hx
 obtain ⟨zs,h1,h2⟩:=h i x hx
 exact ⟨zs,h1.mono hB (fun _ _=>rfl),h2⟩
theorem run_call_append {c:Call} {t t2:TypeId} {s x:Operand} (hop:o.op=.call c) (hc:c.callee=.builtin .append) (ht:c.argTypes.toList=[t,t2]) (hargs:c.args.toList=[s,x]) {r:Value} {w':World}
  (hr:(Builtin.append_ #[t,t2] o.type #[a.eval s,a.eval x]).run P w=.ok r w'):(execOp a.eval o).run P w=.ok (.value r) w':=by
 have h1:c.argTypes=#[t,t2]:=by rw [← Array.toList_inj,ht]
 have h2:c.args=#[s,x]:=by rw [← Array.toList_inj,hargs]
 simp only [execOp,hop,resolve,hc,h1,h2,Sem.run_bind,Sem.run_pure,Result.andThen_ok,invoke,builtin]
 have:(Array.map a.eval #[s,x])=#[a.eval s,a.eval x]:=by simp
 rw [this,hr]
 rfl
theorem join_elems {B:Ty×Nat→Prop} {t:Ty} {l xs:List t.den} {olds news:List Value} {z:Array Value} (ho:olds.length=l.length*t.size)
  (h1:∀ (i:Nat) x,l[i]? = some x→∃ zs,DRel B w t x zs∧∀ (j:Nat) z,zs[j]? = some z→olds[i*t.size+j]? = some z)
  (hn:news.length=xs.length*t.size)
  (h2:∀ (i:Nat) x,xs[i]? = some x→∃ zs,DRel B w t x zs∧∀ (j:Nat) z,zs[j]? = some z→news[i*t.size+j]? = some z) :
  ∀ (i:Nat) x,(l++xs)[i]? = some x→∃ zs,DRel B w t x zs∧∀ (j:Nat) y,zs[j]? = some y→(olds.toArray++news.toArray++z)[i*t.size+j]? = some y:=by
 intro i x hx
 have key:∀ (q:Nat) (y:Value),(olds++news)[q]? = some y→(olds.toArray++news.toArray++z)[q]? = some y:=by
  intro q y hq
  have hlt:=(List.getElem?_eq_some_iff.1 hq).1
  rw [Array.getElem?_append_left (by simpa using hlt),← Array.getElem?_toList]
  simpa using hq
 by_cases hi:i<l.length
 ·rw [List.getElem?_append_left hi] at hx
  obtain ⟨zs,hz,hc⟩:=h1 i x hx
  refine ⟨zs,hz,fun j y hj=>key _ _ ?_⟩
  have:=hc j y hj
  rw [List.getElem?_append_left (List.getElem?_eq_some_iff.1 this).1]
  exact this
 ·rw [List.getElem?_append_right (by omega)] at hx
  obtain ⟨zs,hz,hc⟩:=h2 _ x hx
  refine ⟨zs,hz,fun j y hj=>key _ _ ?_⟩
  have h3:i*t.size=l.length*t.size+(i - l.length)*t.size:=by rw [← Nat.add_mul];congr 1;omega
  rw [List.getElem?_append_right (by omega),← hc j y hj]
  congr 1
  omega
theorem done_append_out (hT:TtOk P E.tt) (h:Sim C β σ (a.tmps::as) w) {c:Call} {t t2 e e2:TypeId} {s x:Operand} {te:Ty} {l xs:List te.den} {A B:Option Addr} {cA cB:Nat} {olds news:List Value} (hop:o.op=.call c) (hc:c.callee=.builtin .append) (ht:c.argTypes.toList=[t,t2]) (hargs:c.args.toList=[s,x])
  (hk:(E.tt t).kind=.slice e) (hk2:(E.tt t2).kind=.slice e2) (hty:(E.tt e).ty=some te) (hs:a.eval s=.slice B l.length cB) (hx:a.eval x=.slice A xs.length cA)
  (hlo:olds.length=l.length*te.size) (hco:∀ (j:Nat) y,olds[j]? = some y→∃ p,B=some p∧w.cell? (p.add j)=some y)
  (hel:∀ (i:Nat) x,l[i]? = some x→∃ zs,DRel (Free C σ.mem β w) w te x zs∧∀ (j:Nat) z,zs[j]? = some z→olds[i*te.size+j]? = some z)
  (hln:news.length=xs.length*te.size) (hcn:∀ (j:Nat) y,news[j]? = some y→∃ p,A=some p∧w.cell? (p.add j)=some y)
  (hne:∀ (i:Nat) x,xs[i]? = some x→∃ zs,DRel (Free C σ.mem β w) w te x zs∧∀ (j:Nat) z,zs[j]? = some z→news[i*te.size+j]? = some z)
  (hfull:cB<l.length+xs.length) (hb:0<(E.tt e).bytes) (hbytes:(l.length+xs.length)*(E.tt e).bytes≤140737488355328) :
  Done P C o a as w (.slw nm) (σ.new nm (.row te (l++xs))):=by
 have hu:=hT.slice t e hk
 have hu2:=hT.slice t2 e2 hk2
 obtain ⟨hsz,hts,_,hdf⟩:=hT.ty e te hty
 obtain ⟨i,z,hi,his,hib,hz,hzz⟩:=hT.info e hsz
 have hz1:=(hdf i z hi hz (fun _=>True) w).length
 have hisz:i.size=te.size:=by rw [his,hts]
 have hr:=run_append_out (P:=P) (w:=w) (tr:=o.type) (A:=A) (B:=B) (c:=cA) (sCap:=cB) hu hu2 hi hz (by rw [hisz];exact hlo) hco (by rw [hisz];exact hln) hcn hfull (by rw [hib];exact hbytes) (by omega)
 rw [← hs,← hx] at hr
 refine done_row h (w1:=w.drew) (el:=e) (n:=l.length+xs.length) (c:=grownCap w (l.length+xs.length) cB e) (Grows.drew w) (run_call_append hop hc ht hargs hr) (by simp) ?_ ?_ (join_elems hlo hel hln hne)
 ·exact grownCap_ge w _ cB e
 ·have hg:=grownCap_ge w (l.length+xs.length) cB e
  have hzc:(Builtin.zeroCells z.cells (grownCap w (l.length+xs.length) cB e - (l.length+xs.length))).size=(grownCap w (l.length+xs.length) cB e - (l.length+xs.length))*te.size:=by
   simp only [Array.length_toList] at hz1
   simp [Builtin.zeroCells,hz1]
  simp only [Array.size_append,List.size_toArray,hlo,hln,hzc]
  rw [← Nat.add_mul,← Nat.add_mul]
  congr 1
  omega
theorem done_append_own (hT:TtOk P E.tt) (h:Sim C β σ (a.tmps::as) w) {c:Call} {t t2 e e2:TypeId} {s x:Operand} {te:Ty} {l0 xs:List te.den} {en off n:Nat} (hop:o.op=.call c) (hc:c.callee=.builtin .append) (ht:c.argTypes.toList=[t,t2]) (hargs:c.args.toList=[s,x])
  (hk:(E.tt t).kind=.slice e) (hk2:(E.tt t2).kind=.slice e2) (hty:(E.tt e).ty=some te) (hl:look σ.mem en=some (.row te l0)) (ho:off+n≤l0.length) (hs:SlAt (β en) te.size off n (a.eval s)) {xv:V} (hxv:V3 (cx C β σ w) xv (a.eval x)) (hx:rowOf σ te xv=some xs)
  (hb:0<(E.tt e).bytes) (hbytes:((l0.drop off).take n++xs).length*(E.tt e).bytes≤140737488355328) :
  Done P C o a as w (.slw nm) (σ.repl en nm (.row te ((l0.drop off).take n++xs))):=by
 have hlen:((l0.drop off).take n).length=n:=by simp;omega
 have hu:=hT.slice t e hk
 have hu2:=hT.slice t2 e2 hk2
 obtain ⟨hsz,hts,_,hdf⟩:=hT.ty e te hty
 obtain ⟨i,z,hi,his,hib,hz,hzz⟩:=hT.info e hsz
 have hisz:i.size=te.size:=by rw [his,hts]
 obtain ⟨A,cA,hxe,hcA,hxel⟩:=rowOf_elems h hxv hx
 obtain ⟨news,hnl,hn1,hnc,hnel⟩:=elems_cells hxel
 have hrow:=h.ent en _ hl
 obtain ⟨B,cB,hse,hcB,hsel⟩:=own_elems (S:=cx C β σ w) hrow ho hs
 obtain ⟨olds,hol,ho1,hoc,hoel⟩:=elems_cells hsel
 rw [hlen] at hol
 have hbytes':(n+xs.length)*(E.tt e).bytes≤140737488355328:=by
  rw [lA,hlen] at hbytes;exact hbytes
 have h0:Sim C β (bif en==nm then σ else σ.kill en) (a.tmps::as) w:=by
  cases en==nm
  ·exact h.kill en
  ·exact h
 have h1:Sim C β ((bif en==nm then σ else σ.kill en).kill nm) (a.tmps::as) w:=h0.kill nm
 have hF:∀ g,Free C σ.mem β w g→Free C ((bif en==nm then σ else σ.kill en).kill nm).mem β w g:=by
  intro g hg
  refine kill_free h0 nm ?_
  cases en==nm
  ·exact kill_free h en hg
  ·exact hg
 have hnew:∀ X,((bif en==nm then σ else σ.kill en).kill nm).new nm X=σ.repl en nm X:=by
  intro X
  unfold St.new St.clear
  rw [look_kill_self]
  rfl
 by_cases hfull:cB<n+xs.length
 ·rw [← hnew]
  obtain ⟨x',w',β',hr,hsim,hv⟩:=done_append_out (nm:=nm) hT h1 hop hc ht hargs hk hk2 hty (by rw [hlen];exact hse) hxe (by rw [hlen];exact hol) hoc (Elems.mono hF hoel) hnl hnc (Elems.mono hF hnel) (by rw [hlen];exact hfull) hb (by rw [hlen];exact hbytes')
  exact ⟨x',w',β',hr,hsim,hv⟩
 ·have hroom:n+xs.length≤cB:=by omega
  obtain ⟨B',cB',hse',_,hcase⟩:=hs
  have heq:=hse.symm.trans hse'
  injection heq with heB _ hec
  subst heB;subst hec
  rcases hcase with h0|⟨L,hL,hB,hfit⟩
  ·
   have hn0:n=0:=by omega
   have hx0:xs.length=0:=by omega
   have hxs:xs=[]:=List.eq_nil_of_length_eq_zero hx0
   subst hxs
   subst hn0
   subst h0
   obtain ⟨h2,_⟩:=h1.newNil nm te
   have hr:=run_append_nothing (P:=P) (w:=w) (tr:=o.type) (sLen:=0) (sCap:=0) (c:=cA) (B:=B) (A:=A) hu hu2 hi (Nat.le_refl _)
   have hr2:=run_call_append (a:=a) hop hc ht hargs (P:=P) (w:=w) (r:=.slice B 0 0) (w':=w) (by rw [hse,hxe];exact hr)
   refine ⟨_,w,setβ β nm none,.inl hr2,?_,V3.of0 (.inl ⟨te,[],?_,B,0,rfl,Nat.le_refl _,.inl rfl⟩)⟩
   ·have:(l0.drop off).take 0++([]:List te.den)=[]:=by simp
    rw [this,← hnew]
    exact h2
   ·show look (σ.repl en nm _).mem nm=_
    rw [repl_look,if_pos rfl]
    simp
  ·rcases hrow with ⟨h0,h3⟩|⟨L',cs,el,h3,h4,h5,h6,h7⟩
   ·have h3:=hL.symm.trans h3;cases h3
   ·have h3:=hL.symm.trans h3
    injection h3 with h3
    subst h3
    have hfit2:L.base+(off+(n+xs.length))*te.size≤L.cells:=by
     have:=Nat.mul_le_mul_right te.size (show off+(n+xs.length)≤off+cB from by omega)
     omega
    have h8:=h.inPlace (nm:=nm) hl ho hL h4 h5 h7 hfit2 hnl hnel
    subst hB
    have hr:=run_append_in (P:=P) (w:=w) (tr:=o.type) (m:=xs.length) (c:=cA) (A:=A) hu hu2 hi h4 (oo:=L.base+off*te.size) (sLen:=n) (sCap:=cB) (news:=news) (by rw [hisz];exact hnl) hnc hn1 hroom (by
     rw [h5,hisz,hnl]
     rw [Nat.add_mul,Nat.add_mul] at hfit2
     omega)
    rw [← hse,← hxe,hisz] at hr
    have hr2:=run_call_append (a:=a) hop hc ht hargs hr
    refine ⟨_,_,_,.inl hr2,h8,V3.of0 (.inl ⟨te,_,by show look (σ.repl en nm _).mem nm=_;rw [repl_look,if_pos rfl],?_⟩)⟩
    refine ⟨_,cB,by rw [lA,hlen],by rw [lA,hlen];exact hroom,.inr ⟨⟨L.g,L.base+off*te.size,L.cells,noI⟩,by simp [setβ],by simp,?_⟩⟩
    show L.base+off*te.size+(0+cB)*te.size≤L.cells
    rw [Nat.add_mul] at hfit
    rw [Nat.zero_add]
    omega
theorem done_appendB (hT:TtOk P E.tt) (h:Sim C β σ (a.tmps::as) w) {c:Call} {t t2 e2:TypeId} {s x:Operand} (hop:o.op=.call c) (hc:c.callee=.builtin .append) (ht:c.argTypes.toList=[t,t2]) (hargs:c.args.toList=[s,x])
  (hk2:(E.tt t2).kind=.slice e2) {sv xv:V} (hse:V3 (cx C β σ w) sv (a.eval s)) (hxv:V3 (cx C β σ w) xv (a.eval x)) (hA:appendB E nm t sv xv σ=some (bs,v,σ')) (hbs:∀ b∈bs,b=true):Done P C o a as w v σ':=by
 unfold appendB at hA
 split at hA
 rotate_left
 ·cases hA
 rename_i e hk
 split at hA
 rotate_left
 ·cases hA
 rename_i te hty
 split at hA
 rotate_left
 ·cases hA
 rename_i l e? xs hown hrow
 simp only [sI,Prod.mk.injEq] at hA
 obtain ⟨rfl,rfl,rfl⟩:=hA
 have hb:0<(E.tt e).bytes:=by
  have:=hbs _ (List.mem_cons_self ..)
  simpa using this
 have hbytes:(l++xs).length*(E.tt e).bytes≤140737488355328:=by
  have:=hbs _ (List.mem_cons_of_mem _ (List.mem_cons_self ..))
  simpa using this
 unfold ownRow at hown
 split at hown
 ·simp only [sI,Prod.mk.injEq] at hown
  obtain ⟨rfl,rfl⟩:=hown
  have hse:a.eval s=.slice none 0 0:=hse
  have hu:=hT.slice t e hk
  have hu2:=hT.slice t2 e2 hk2
  obtain ⟨hsz,hts,_,hdf⟩:=hT.ty e te hty
  obtain ⟨i,z,hi,his,hib,hz,hzz⟩:=hT.info e hsz
  obtain ⟨A,cA,hxe,hcA,hxel⟩:=rowOf_elems h hxv hrow
  obtain ⟨news,hnl,hn1,hnc,hnel⟩:=elems_cells hxel
  simp only [List.nil_append] at hbytes ⊢
  by_cases hx0:xs.length=0
  ·have hxs:xs=[]:=List.eq_nil_of_length_eq_zero hx0
   subst hxs
   obtain ⟨h2,_⟩:=h.newNil nm te
   have hr:=run_append_nothing (P:=P) (w:=w) (tr:=o.type) (sLen:=0) (sCap:=0) (c:=cA) (B:=none) (A:=A) hu hu2 hi (Nat.le_refl _)
   have hr2:=run_call_append (a:=a) hop hc ht hargs (P:=P) (w:=w) (r:=.slice none 0 0) (w':=w) (by rw [hse,hxe];exact hr)
   exact ⟨_,w,_,.inl hr2,h2,V3.of0 (.inl ⟨te,[],by simp [St.new,look_cons],none,0,rfl,Nat.le_refl _,.inl rfl⟩)⟩
  ·have:=done_append_out (nm:=nm) (l:=([]:List te.den)) (olds:=[]) hT h hop hc ht hargs hk hk2 hty hse hxe (by simp) (by simp) (by simp) hnl hnc hnel (by simp;omega) hb (by simpa using hbytes)
   simpa using this
 ·rename_i en
  split at hown
  rotate_left
  ·cases hown
  rename_i t' l' hl
  split at hown
  rotate_left
  ·cases hown
  rename_i htt
  subst htt
  simp only [sI,Prod.mk.injEq] at hown
  obtain ⟨rfl,rfl⟩:=hown
  obtain ⟨t1,l1,hl1,hs⟩:=V0.row hse hl
  have:=hl.symm.trans hl1
  injection this with this
  injection this with h1 h2
  subst h1
  have h2:=eq_of_heq h2
  subst h2
  have e1:(l'.drop 0).take l'.length=l':=by simp
  have:=done_append_own (nm:=nm) hT h hop hc ht hargs hk hk2 hty hl (by omega:0+l'.length≤l'.length) hs hxv hrow hb (by rw [e1];exact hbytes)
  rw [e1] at this
  exact this
 ·rename_i en off n
  split at hown
  rotate_left
  ·cases hown
  rename_i t' l' hl
  split at hown
  rotate_left
  ·cases hown
  rename_i htt
  subst htt
  simp only [sI,Prod.mk.injEq] at hown
  obtain ⟨rfl,rfl⟩:=hown
  obtain ⟨t1,l1,hl1,ho,hs,_⟩:=V0.part hse hl
  have:=hl.symm.trans hl1
  injection this with this
  injection this with h1 h2
  subst h1
  have h2:=eq_of_heq h2
  subst h2
  exact done_append_own (nm:=nm) hT h hop hc ht hargs hk hk2 hty hl ho hs hxv hrow hb hbytes
 ·cases hown
theorem splice_at {α:Type} (l m:List α) (p q:Nat) (h:p+m.length≤l.length):(l.take p++m++l.drop (p+m.length))[q]? = if q<p then l[q]? else if q<p+m.length then m[q - p]? else l[q]? := by
 have hp:(l.take p).length=p:=by rw [List.length_take];omega
 by_cases h1:q<p
 ·rw [if_pos h1,List.append_assoc,List.getElem?_append_left (by omega),List.getElem?_take_of_lt h1]
 ·rw [if_neg h1]
  by_cases h2:q<p+m.length
  ·rw [if_pos h2,List.getElem?_append_left (by rw [lA];omega),List.getElem?_append_right (by omega),hp]
  ·rw [if_neg h2,List.getElem?_append_right (by rw [lA];omega),lA,hp,List.getElem?_drop]
   congr 1
   omega
theorem Sim.lay (h:Sim C β σ as w) {en:Nat} {t:Ty} {l xs:List t.den} {off:Nat} {L:Loc} {cs:Array Value} {el:TypeId} {news:List Value} (hl:look σ.mem en=some (.row t l)) (hL:β en=some L) (hb:w.heap[L.g]? = some (.cells cs el (0,0))) (hsz:cs.size=L.cells) (hfit0:L.base+l.length*t.size≤L.cells)
  (hel:∀ (i:Nat) x,l[i]? = some x→∃ zs,DRel (Free C σ.mem β w) w t x zs∧∀ (j:Nat) z,zs[j]? = some z→cs[L.base+i*t.size+j]? = some z)
  (ho:off+xs.length≤l.length) (hnl:news.length=xs.length*t.size)
  (hnew:∀ (i:Nat) x,xs[i]? = some x→∃ zs,DRel (Free C σ.mem β w) w t x zs∧∀ (j:Nat) z,zs[j]? = some z→news[i*t.size+j]? = some z) :
  Sim C β { σ with mem:=updE σ.mem en (.row t (l.take off++xs++l.drop (off+xs.length))) } as (w.setRow L.g (cs.toList.take (L.base+off*t.size)++news++cs.toList.drop (L.base+off*t.size+news.length)).toArray):=by
 have hlen:(l.take off++xs++l.drop (off+xs.length)).length=l.length:=by
  rw [lA,lA,List.length_take,List.length_drop]
  omega
 have hmul:(off+xs.length)*t.size≤l.length*t.size:=Nat.mul_le_mul_right _ ho
 rw [Nat.add_mul] at hmul
 have hcl:cs.toList.length=cs.size:=rfl
 have hfit:L.base+off*t.size+news.length≤cs.toList.length:=by omega
 refine h.upd (E':=.row t (l.take off++xs++l.drop (off+xs.length))) hl ⟨rfl,hlen.symm,rfl⟩ hL rfl rfl rfl (by simp) (fun g hg=>setRow_other w L.g g _ hg) fun hkeep=>.inr ⟨L,_,el,hL,setRow_heap w L.g cs _ el (0,0) hb,?_,?_,fun q y hq=>?_⟩
 ·rw [← hsz]
  simp only [List.size_toArray,lA,List.length_take,List.length_drop,Array.length_toList] at hfit ⊢
  omega
 ·rw [hlen];exact hfit0
 ·rw [splice_at _ _ _ _ ho] at hq
  have hsp:=t.size_pos
  have old:∀ q',q'=q→l[q']? = some y→¬ (off≤q∧q<off+xs.length)→∃ zs,DRel (Free C σ.mem β w) w t y zs∧∀ (j:Nat) z,zs[j]? = some z→(cs.toList.take (L.base+off*t.size)++news++cs.toList.drop (L.base+off*t.size+news.length)).toArray[L.base+q*t.size+j]? = some z:=by
   rintro q' rfl hy hout
   obtain ⟨zs,hz,hc⟩:=hel q' y hy
   refine ⟨zs,hz,fun j z hj=>?_⟩
   have hjl:j<t.size:=by
    have:=(List.getElem?_eq_some_iff.1 hj).1
    rw [hz.length] at this;exact this
   have h8:=hc j z hj
   rw [List.getElem?_toArray,splice_at _ _ _ _ hfit]
   by_cases h9:q'<off
   ·have:=Nat.mul_le_mul_right t.size (show q'+1≤off from h9)
    rw [Nat.add_mul] at this
    rw [if_pos (by omega)];simpa using h8
   ·have h10:off+xs.length≤q':=by
     rcases Nat.lt_or_ge q' (off+xs.length) with h11|h11
     ·exact absurd ⟨by omega,h11⟩ hout
     ·exact h11
    have:=Nat.mul_le_mul_right t.size h10
    rw [Nat.add_mul] at this
    rw [if_neg (by omega),if_neg (by omega)];simpa using h8
  have key:∃ zs,DRel (Free C σ.mem β w) w t y zs∧∀ (j:Nat) z,zs[j]? = some z→(cs.toList.take (L.base+off*t.size)++news++cs.toList.drop (L.base+off*t.size+news.length)).toArray[L.base+q*t.size+j]? = some z:=by
   by_cases h1:q<off
   ·rw [if_pos h1] at hq;exact old q rfl hq (by omega)
   ·rw [if_neg h1] at hq
    by_cases h2:q<off+xs.length
    ·rw [if_pos h2] at hq
     obtain ⟨zs,hz,hc⟩:=hnew _ y hq
     refine ⟨zs,hz,fun j z hj=>?_⟩
     have hjl:j<t.size:=by
      have:=(List.getElem?_eq_some_iff.1 hj).1
      rw [hz.length] at this;exact this
     have h8:=hc j z hj
     have h9:=(List.getElem?_eq_some_iff.1 h8).1
     have h10:q*t.size=off*t.size+(q - off)*t.size:=by rw [← Nat.add_mul];congr 1;omega
     rw [List.getElem?_toArray,splice_at _ _ _ _ hfit,if_neg (by omega),if_pos (by omega),← h8]
     congr 1
     omega
    ·rw [if_neg h2] at hq;exact old q rfl hq (by omega)
  obtain ⟨zs,hz,hc⟩:=key
  exact ⟨zs,hz.mono hkeep.B hkeep.w,hc⟩
theorem done_appendIn (hT:TtOk P E.tt) (h:Sim C β σ (a.tmps::as) w) {c:Call} {t t2 e2:TypeId} {s x:Operand} (hop:o.op=.call c) (hc:c.callee=.builtin .append) (ht:c.argTypes.toList=[t,t2]) (hargs:c.args.toList=[s,x])
  (hk2:(E.tt t2).kind=.slice e2) (hA:appendIn E t (σ.eval s) (σ.eval x) σ=some (bs,v,σ')) (hbs:∀ b∈bs,b=true):Done P C o a as w v σ':=by
 unfold appendIn at hA
 split at hA
 rotate_left
 ·cases hA
 rename_i e en off n hk hsv
 split at hA
 rotate_left
 ·cases hA
 rename_i te t' l hty hl
 split at hA
 rotate_left
 ·cases hA
 rename_i htt
 subst htt
 split at hA
 rotate_left
 ·cases hA
 rename_i xs hrow
 simp only [sI,Prod.mk.injEq] at hA
 obtain ⟨rfl,rfl,rfl⟩:=hA
 have hroom:off+n+xs.length≤l.length:=by
  have:=hbs _ (List.mem_cons_of_mem _ (List.mem_cons_self ..))
  simpa using this
 have hu:=hT.slice t e hk
 have hu2:=hT.slice t2 e2 hk2
 obtain ⟨hsz,hts,_,hdf⟩:=hT.ty e t' hty
 obtain ⟨i,z,hi,his,hib,hz,hzz⟩:=hT.info e hsz
 have hisz:i.size=t'.size:=by rw [his,hts]
 have hse:=h.eval s
 rw [hsv] at hse
 obtain ⟨t1,l1,hl1,ho,hs,hcap⟩:=V0.part hse hl
 have hl1:=hl.symm.trans hl1
 injection hl1 with hl1
 injection hl1 with q1 q2
 subst q1
 have q2:=eq_of_heq q2
 subst q2
 have hs:SlAt (β en) t'.size off n (a.eval s):=hs
 obtain ⟨A,cA,hxe,hcA,hxel⟩:=rowOf_elems h (h.eval x) hrow
 obtain ⟨news,hnl,hn1,hnc,hnel⟩:=elems_cells hxel
 obtain ⟨B,cB,hsee,hcB,hcase⟩:=hs
 obtain ⟨_,_,_,hcx,hcap⟩:=hcap
 have hcx:=hsee.symm.trans hcx
 injection hcx with _ _ hcx
 subst hcx
 rcases hcase with h0|⟨L,hL,hB,hfit⟩
 ·
  have hx0:xs.length=0:=by omega
  have hn0:n=0:=by omega
  have hl0:l.length=off:=by omega
  have hxs:xs=[]:=List.eq_nil_of_length_eq_zero hx0
  subst hxs
  have hr:=run_append_nothing (P:=P) (w:=w) (tr:=o.type) (sLen:=n) (sCap:=cB) (c:=cA) (B:=B) (A:=A) hu hu2 hi hcB
  have hr2:=run_call_append (a:=a) hop hc ht hargs (P:=P) (w:=w) (r:=.slice B n cB) (w':=w) (by rw [hsee,hxe];exact hr)
  have e1:l.take (off+n)++([]:List t'.den)++l.drop (off+n+([]:List t'.den).length)=l:=by simp
  have e2:updE σ.mem en (.row t' (l.take (off+n)++([]:List t'.den)++l.drop (off+n+([]:List t'.den).length)))=σ.mem:=by rw [e1];exact updE_self hl
  rw [e2]
  refine ⟨_,w,β,.inl hr2,h,V3.of0 (.inl ⟨t',l,hl,by simpa using ho,?_,_,_,_,rfl,hcap⟩)⟩
  exact ⟨B,cB,rfl,hcB,.inl h0⟩
 ·rcases h.ent en _ hl with ⟨h0,h3⟩|⟨L',cs,el,h3,h4,h5,h6,h7⟩
  ·have h3:=hL.symm.trans h3;cases h3
  have h3:=hL.symm.trans h3
  injection h3 with h3
  subst h3
  have hL:β en=some L:=hL
  have h4:w.heap[L.g]? = some (.cells cs el (0,0)):=h4
  subst hB
  have hmul:=Nat.mul_le_mul_right t'.size (show off+n+xs.length≤l.length from hroom)
  rw [Nat.add_mul,Nat.add_mul] at hmul
  have hr:=run_append_in (P:=P) (w:=w) (tr:=o.type) (m:=xs.length) (c:=cA) (A:=A) hu hu2 hi h4 (oo:=L.base+off*t'.size) (sLen:=n) (sCap:=cB) (news:=news) (by rw [hisz];exact hnl) hnc hn1 (by omega) (by
   rw [h5,hisz,hnl]
   omega)
  rw [← hsee,← hxe,hisz] at hr
  have hr2:=run_call_append (a:=a) hop hc ht hargs hr
  have hlay:=h.lay hl hL h4 h5 h6 h7 hroom hnl hnel
  have e0:L.base+off*t'.size+n*t'.size=L.base+(off+n)*t'.size:=by rw [Nat.add_mul];omega
  rw [e0] at hr2
  have hlen:(l.take (off+n)++xs++l.drop (off+n+xs.length)).length=l.length:=by
   rw [lA,lA,List.length_take,List.length_drop]
   omega
  refine ⟨_,_,β,.inl hr2,hlay,V3.of0 (.inl ⟨t',l.take (off+n)++xs++l.drop (off+n+xs.length),?_,by rw [hlen];omega,?_,_,_,_,rfl,by rw [hlen];exact hcap⟩)⟩
  ·show look (updE σ.mem en _) en=_
   rw [look_updE,hl]
   simp
  ·exact ⟨_,cB,rfl,by omega,.inr ⟨L,hL,rfl,hfit⟩⟩
theorem done_append (hT:TtOk P E.tt) (h:Sim C β σ (a.tmps::as) w) {c:Call} {t t2 e2:TypeId} {s x:Operand} (hop:o.op=.call c) (hc:c.callee=.builtin .append) (ht:c.argTypes.toList=[t,t2]) (hargs:c.args.toList=[s,x])
  (hk2:(E.tt t2).kind=.slice e2) (hA:appendA E nm t (σ.eval s) (σ.eval x) σ=some (bs,v,σ')) (hbs:∀ b∈bs,b=true):Done P C o a as w v σ':=by
 unfold appendA at hA
 cases hdir:(E.dirs 0 nm).isEmpty with
 |false=>rw [hdir] at hA;exact done_appendIn hT h hop hc ht hargs hk2 hA hbs
 |true =>
 rw [hdir] at hA
 simp only [nT,cond_false] at hA
 cases hk:takeN σ (nm+9) (σ.eval s) with
 |none=>rw [hk] at hA;exact done_appendB hT h hop hc ht hargs hk2 (h.eval s) (h.eval x) hA hbs
 |some σ1 =>
  rw [hk] at hA
  obtain ⟨β1,e,oo,n,hsv,h1,h2,h3⟩:=h.takeN hk (h.eval s)
  rw [hsv] at hA
  exact done_appendB hT h1 hop hc ht hargs hk2 h2 (h3 _ _ (h.eval x)) hA hbs
theorem partRow_rel {S:Cx} {τ:St} {t:Ty} {u:V} {x:Value} {l:List t.den} {en off n:Nat} (hm:S.m=τ.mem) (hp:partRow τ t u=some (l,en,off,n)) (hv:V3 S u x):look τ.mem en=some (.row t l)∧off+n≤l.length∧SlAt (S.β en) t.size off n x:=by
 cases u <;> simp only [partRow,reduceCtorEq] at hp
 ·rename_i e
  rcases hv with ⟨t',l',h1,h2⟩|⟨E',n',h1,h2,_⟩
  rotate_left
  ·rw [hm] at h1
   rw [h1] at hp
   cases E' with
   |row _ _=>cases h2
   |box _=>cases hp
   |nest _ _ _=>cases hp
  rw [hm] at h1
  rw [h1] at hp
  simp only [] at hp
  by_cases ht:t'=t
  ·subst ht
   rw [dif_pos rfl] at hp
   simp only [sI,Prod.mk.injEq] at hp
   obtain ⟨rfl,rfl,rfl,rfl⟩:=hp
   exact ⟨h1,by simp,h2⟩
  ·rw [dif_neg ht] at hp;cases hp
 ·rename_i e o m
  rcases hv with ⟨t',l',h1,h2,h3,_⟩|⟨t',ll,k,l',L,h1,_⟩
  rotate_left
  ·rw [hm] at h1
   rw [h1] at hp
   cases hp
  rw [hm] at h1
  rw [h1] at hp
  simp only [] at hp
  by_cases ht:t'=t
  ·subst ht
   rw [dif_pos rfl] at hp
   simp only [sI,Prod.mk.injEq] at hp
   obtain ⟨rfl,rfl,rfl,rfl⟩:=hp
   exact ⟨h1,h2,h3⟩
  ·rw [dif_neg ht] at hp;cases hp
theorem done_copy (hT:TtOk P E.tt) (h:Sim C β σ (a.tmps::as) w) {c:Call} {t t2:TypeId} {d x:Operand} (hop:o.op=.call c) (hc:c.callee=.builtin .copy) (ht:c.argTypes.toList=[t,t2]) (hargs:c.args.toList=[d,x])
  (hA:copyA E t (σ.eval d) (σ.eval x) σ=some (bs,v,σ')) (hbs:∀ b∈bs,b=true):Done P C o a as w v σ':=by
 unfold copyA at hA
 split at hA
 rotate_left
 ·cases hA
 rename_i e hk
 split at hA
 rotate_left
 ·cases hA
 rename_i te hty
 cases hfl:(te.flat&&te.size==1) with
 |false=>rw [hfl] at hA;cases hA
 |true =>
 rw [hfl,cond_true] at hA
 simp only [bA,beq_iff_eq] at hfl
 obtain ⟨hflat,hone⟩:=hfl
 split at hA
 rotate_left
 ·cases hA
 rename_i l en off n xs hpart hrow
 simp only [sI,Prod.mk.injEq] at hA
 obtain ⟨rfl,rfl,rfl⟩:=hA
 have hpos:0<min xs.length n:=by simpa using hbs _ (List.mem_cons_self ..)
 have hu:=hT.slice t e hk
 obtain ⟨hsz,hts,_,hdf⟩:=hT.ty e te hty
 obtain ⟨i,z,hi,his,hib,hz,hzz⟩:=hT.info e hsz
 have hisz:(P.info? e).map (·.size)=some 1:=by rw [hi,Option.map_some,his,← hts,hone]
 obtain ⟨hl,hon,hs⟩:=partRow_rel (S:=cx C β σ w) rfl hpart (h.eval d)
 obtain ⟨A,cA,hxe,hcA,hxel⟩:=rowOf_elems h (h.eval x) hrow
 obtain ⟨news,hnl,hn1,hnc,hnel⟩:=elems_cells hxel
 rw [hone] at hs hnl hnel
 obtain ⟨B,cB,hde,hcB,hcase⟩:=hs
 rcases hcase with h0|⟨L,hL,hB,hfit⟩
 ·omega
 have hL:β en=some L:=hL
 rcases h.ent en _ hl with ⟨h0,_⟩|⟨L',cs,el,h3,h4,h5,h6,h7⟩
 ·subst h0
  simp only [List.length_nil] at hon
  omega
 have h3:β en=some L':=h3
 have h3:=hL.symm.trans h3
 injection h3 with h3
 subst h3
 have h4:w.heap[L.g]? = some (.cells cs el (0,0)):=h4
 rw [hone] at h6 h7
 have hm1:(xs.take (min xs.length n)).length=min xs.length n:=by rw [List.length_take];omega
 have hm2:(news.take (min xs.length n)).length=min xs.length n:=by rw [List.length_take,hnl];omega
 obtain ⟨p,hp,_⟩:∃ p,A=some p∧True:=by
  obtain ⟨p,hp,_⟩:=hnc 0 news[0] (gE (by omega))
  exact ⟨p,hp,trivial⟩
 subst hp
 have hoff:L.base+off*1=L.base+off:=by omega
 have h1:c.argTypes=#[t,t2]:=by rw [← Array.toList_inj,ht]
 have h2:c.args=#[d,x]:=by rw [← Array.toList_inj,hargs]
 have hfit2:L.base+off+(news.take (min xs.length n)).length≤cs.size:=by
  rw [hm2,h5]
  omega
 have hr:=run_copy_row (P:=P) w t t2 o.type e L.g (L.base+off) n cB p xs.length cA cs el (news.take (min xs.length n)) hu hisz h4 (by rw [hm2]) (fun j u hj=>by
  have hj2:news[j]? = some u:=by
   have hjl:=(List.getElem?_eq_some_iff.1 hj).1
   rw [List.getElem?_take_of_lt (by omega)] at hj
   exact hj
  obtain ⟨p',hp',hcell⟩:=hnc j u hj2
  injection hp' with hp'
  subst hp'
  exact hcell) hfit2 (fun u hu=>hn1 u (List.mem_of_mem_take hu))
 have hrun:(execOp a.eval o).run P w=.ok (.value (.int .i64 ((min xs.length n:Nat):Int))) (w.setRow L.g (cs.toList.take (L.base+off)++news.take (min xs.length n)++cs.toList.drop (L.base+off+(news.take (min xs.length n)).length)).toArray):=by
  simp only [execOp,hop,resolve,hc,h1,h2,Sem.run_bind,Sem.run_pure,Result.andThen_ok,invoke,builtin]
  have e1:(Array.map a.eval #[d,x])=#[a.eval d,a.eval x]:=by simp
  rw [e1,hde,hB,hxe,hoff,hr,hm2]
  rfl
 refine ⟨_,_,β,.inl hrun,?_,V3.of0 rfl⟩
 have hcl:(copyL l xs off n).length=l.length:=by
  unfold copyL
  rw [lA,lA,List.length_take,List.length_drop,hm1]
  omega
 refine h.upd (E':=.row te (copyL l xs off n)) hl ⟨rfl,hcl.symm,rfl⟩ hL rfl rfl rfl (by simp) (fun g hg=>setRow_other w L.g g _ hg) fun hkeep=>.inr ⟨L,_,el,hL,setRow_heap w L.g cs _ el (0,0) h4,?_,?_,?_⟩
 ·rw [← h5]
  simp only [List.size_toArray,lA,List.length_take,List.length_drop,Array.length_toList]
  omega
 ·rw [hcl,hone];exact h6
 ·intro q y hq
  rw [hone]
  unfold copyL at hq
  rw [splice_at _ _ _ _ (by rw [hm1];omega),hm1] at hq
  have cell:∀ (zs:List Value),DRel (fun _=>False) w te y zs→(∀ (j:Nat) u,zs[j]? = some u→(cs.toList.take (L.base+off)++news.take (min xs.length n)++cs.toList.drop (L.base+off+(news.take (min xs.length n)).length))[L.base+q*1+j]? = some u) →
    ∃ zs,DRel (Free C (updE σ.mem en (.row te (copyL l xs off n))) β (w.setRow L.g (cs.toList.take (L.base+off)++news.take (min xs.length n)++cs.toList.drop (L.base+off+(news.take (min xs.length n)).length)).toArray)) (w.setRow L.g (cs.toList.take (L.base+off)++news.take (min xs.length n)++cs.toList.drop (L.base+off+(news.take (min xs.length n)).length)).toArray) te y zs∧∀ (j:Nat) u,zs[j]? = some u→(cs.toList.take (L.base+off)++news.take (min xs.length n)++cs.toList.drop (L.base+off+(news.take (min xs.length n)).length)).toArray[L.base+q*1+j]? = some u :=
   fun zs hz hj=>⟨zs,hz.flat hflat,fun j u hu=>by rw [List.getElem?_toArray];exact hj j u hu⟩
  have jz:∀ (zs:List Value),DRel (fun _=>False) w te y zs→∀ (j:Nat) u,zs[j]? = some u→j=0:=by
   intro zs hz j u hu
   have h8:=hz.length
   have h9:=(List.getElem?_eq_some_iff.1 hu).1
   omega
  have old:l[q]? = some y→¬ (off≤q∧q<off+min xs.length n)→∃ zs,DRel (fun _=>False) w te y zs∧∀ (j:Nat) u,zs[j]? = some u→(cs.toList.take (L.base+off)++news.take (min xs.length n)++cs.toList.drop (L.base+off+(news.take (min xs.length n)).length))[L.base+q*1+j]? = some u:=by
   intro hy hout
   obtain ⟨zs,hz,hcell⟩:=h7 q y hy
   refine ⟨zs,hz.flat hflat,fun j u hu=>?_⟩
   obtain rfl:=jz zs (hz.flat hflat) j u hu
   have h8:=hcell 0 u hu
   rw [splice_at _ _ _ _ (by rw [Array.length_toList];exact hfit2),hm2]
   by_cases h9:L.base+q*1+0<L.base+off
   ·rw [if_pos h9];simpa using h8
   ·rw [if_neg h9,if_neg (by omega)];simpa using h8
  by_cases hq1:q<off
  ·rw [if_pos hq1] at hq
   obtain ⟨zs,g1,g2⟩:=old hq (by omega)
   exact cell zs g1 g2
  ·rw [if_neg hq1] at hq
   by_cases hq2:q<off+min xs.length n
   ·rw [if_pos hq2,List.getElem?_take_of_lt (by omega)] at hq
    obtain ⟨zs,hz,hcell⟩:=hnel (q - off) y hq
    refine cell zs (hz.flat hflat) fun j u hu=>?_
    obtain rfl:=jz zs (hz.flat hflat) j u hu
    have h8:=hcell 0 u hu
    rw [splice_at _ _ _ _ (by rw [Array.length_toList];exact hfit2),hm2,if_neg (by omega),if_pos (by omega),List.getElem?_take_of_lt (by omega)]
    rw [← h8]
    congr 1
    omega
   ·rw [if_neg hq2] at hq
    obtain ⟨zs,g1,g2⟩:=old hq (by omega)
    exact cell zs g1 g2
theorem done_clear (hT:TtOk P E.tt) (h:Sim C β σ (a.tmps::as) w) {c:Call} {t:TypeId} {x:Operand} (hop:o.op=.call c) (hc:c.callee=.builtin .clear) (ht:c.argTypes.toList=[t]) (hargs:c.args.toList=[x])
  (hA:clearA E t (σ.eval x) σ=some (bs,v,σ')):Done P C o a as w v σ':=by
 unfold clearA at hA
 split at hA
 rotate_left
 ·cases hA
 rename_i e hk
 split at hA
 rotate_left
 ·cases hA
 rename_i te hty
 split at hA
 rotate_left
 ·cases hA
 rename_i l en off n hpart
 simp only [sI,Prod.mk.injEq] at hA
 obtain ⟨rfl,rfl,rfl⟩:=hA
 have hu:=hT.slice t e hk
 obtain ⟨hsz,hts,_,hdf⟩:=hT.ty e te hty
 obtain ⟨i,z,hi,his,hib,hz,hzz⟩:=hT.info e hsz
 obtain ⟨hl,hon,hs⟩:=partRow_rel (S:=cx C β σ w) rfl hpart (h.eval x)
 obtain ⟨B,cB,hde,hcB,hcase⟩:=hs
 have h1:c.argTypes=#[t]:=by rw [← Array.toList_inj,ht]
 have h2:c.args=#[x]:=by rw [← Array.toList_inj,hargs]
 have run:∀ {w':World},(Builtin.clear_ #[t] o.type #[a.eval x]).run P w=.ok (.tuple #[]) w'→(execOp a.eval o).run P w=.ok (.value (.tuple #[])) w':=by
  intro w' hr
  simp only [execOp,hop,resolve,hc,h1,h2,Sem.run_bind,Sem.run_pure,Result.andThen_ok,invoke,builtin]
  have e1:(Array.map a.eval #[x])=#[a.eval x]:=by simp
  rw [e1,hr]
  rfl
 rcases Nat.eq_zero_or_pos n with hn|hn
 ·subst hn
  have e1:l.take off++List.replicate 0 (dflt te)++l.drop (off+0)=l:=by simp
  rw [e1,updE_self hl]
  refine ⟨_,w,β,.inl (run ?_),h,⟨#[],rfl,trivial⟩⟩
  rw [hde]
  cases B <;> simp [Builtin.clear_,run_underlying hu]
 ·rcases hcase with h0|⟨L,hL,hB,hfit⟩
  ·omega
  have hL:β en=some L:=hL
  rcases h.ent en _ hl with ⟨h0,h3⟩|⟨L',cs,el,h3,h4,h5,h6,h7⟩
  ·have h3:=hL.symm.trans h3;cases h3
  have h3:=hL.symm.trans h3
  injection h3 with h3
  subst h3
  have h4:w.heap[L.g]? = some (.cells cs el (0,0)):=h4
  have hdz:=hdf i z hi hz (Free C σ.mem β w) w
  have hzl:=hdz.length
  have hzs:z.cells.size=te.size:=by simpa using hzl
  have hnl:(Builtin.zeroCells z.cells n).toList.length=(List.replicate n (dflt te)).length*te.size:=by
   simp [Builtin.zeroCells,hzs]
  have hget:∀ (q j:Nat) u,q<n→z.cells.toList[j]? = some u→(Builtin.zeroCells z.cells n).toList[q*te.size+j]? = some u:=by
   intro q j u hq hj
   have hjl:j<te.size:=by
    have:=(List.getElem?_eq_some_iff.1 hj).1
    omega
   have hlt:q*te.size+j<n*z.cells.size:=by
    rw [hzs]
    have:=Nat.mul_le_mul_right te.size (show q+1≤n from hq)
    rw [Nat.add_mul] at this
    omega
   simp only [Array.getElem?_toList] at hj
   rw [Array.getElem?_toList,Builtin.zeroCells,Array.getElem?_map,Array.getElem?_range,if_pos hlt]
   rw [Option.map_some,hzs,show (q*te.size+j) % te.size=j from by rw [Nat.mul_comm,Nat.mul_add_mod,Nat.mod_eq_of_lt hjl]]
   simp [getElem!_def,hj]
  have hlay:=h.lay (off:=off) (xs:=List.replicate n (dflt te)) hl hL h4 h5 h6 h7 (by simpa using hon) hnl (fun q y hq=>by
   have hqn:q<n:=by
    have:=(List.getElem?_eq_some_iff.1 hq).1
    simpa using this
   have hy:y=dflt te:=by
    rw [List.getElem?_replicate,if_pos hqn] at hq
    injection hq with hq
    exact hq.symm
   subst hy
   exact ⟨_,hdz,fun j u hj=>hget q j u hqn hj⟩)
  have hmul:=Nat.mul_le_mul_right te.size hon
  rw [Nat.add_mul] at hmul
  have hr:=run_storeCells_at P L.g (L.base+off*te.size) el (Builtin.zeroCells z.cells n).toList 0 cs w h4 (by rw [hnl,h5];simp only [List.length_replicate];omega) (fun u hu=>by
   obtain ⟨j,hj,hju⟩:=List.mem_iff_getElem.1 hu
   have hj2:j<n*z.cells.size:=by simpa [Builtin.zeroCells] using hj
   have hmod:j % z.cells.size<z.cells.size:=Nat.mod_lt _ (by rw [hzs];exact te.size_pos)
   have hju2:u=z.cells[j % z.cells.size]:=by
    rw [← hju]
    simp [Builtin.zeroCells,getElem!_def,hmod]
   subst hju2
   exact hdz.one _ (by simp))
  simp only [Nat.add_zero] at hr
  rw [List.length_replicate] at hlay
  refine ⟨_,_,β,.inl (run ?_),hlay,⟨#[],rfl,trivial⟩⟩
  rw [hde,hB]
  obtain ⟨m,rfl⟩:∃ m,n=m+1:=⟨n - 1,by omega⟩
  have hzv:∀ w,(zeroValue e).run P w=.ok z w:=fun w=>run_zeroValue hi hz w
  simp [Builtin.clear_,run_underlying hu,hzv,hr]
end
open Go.RowKit
section
variable {P:Program} {E:Env} {C:Frm} {β:Nat→Option Loc} {σ σ':St} {a:Act} {as:List (Array Value)} {w:World} {o:Oper} {nm:Nat} {ty:TypeId} {bs:List Bool} {v:V}
def Still (P:Program) (C:Frm) (o:Oper) (a:Act) (β:Nat→Option Loc) (σ:St) (w:World) (v:V):Prop :=
 ∃ y,(∀ w',(execOp a.eval o).run P w'=.ok (.value y) w')∧V3 (cx C β σ w) v y
theorem Still.done (h:Sim C β σ (a.tmps::as) w) (hs:Still P C o a β σ w v):Done P C o a as w v σ:=by
 obtain ⟨y,h1,h2⟩:=hs
 exact .same (x:=y) h (h1 w) h2
theorem still_nilCheck (h:Sim C β σ (a.tmps::as) w) {x:Operand} (hop:o.op=.nilCheck x) (hk:(∃ e i oo,σ.eval x=.ptr e i oo)∨(∃ cs,σ.eval x=.rop cs)∨∃ f cs,σ.eval x=.fn f cs):Still P C o a β σ w (σ.eval x):=by
 have h1:=h.eval x
 refine ⟨a.eval x,fun w'=>?_,h1⟩
 rcases hk with ⟨e,i,oo,hx⟩|⟨cs,hx⟩|⟨f,cs,hx⟩ <;> rw [hx] at h1
 ·obtain ⟨E1,L,_,_,h2⟩:=h1
  cases E1 with
  |row t l=>obtain ⟨_,_,h2⟩:=h2;simp only [execOp,hop,h2,Sem.run_pure]
  |box cs=>obtain ⟨_,h2⟩:=h2;simp only [execOp,hop,h2,Sem.run_pure]
  |nest t ll k=>obtain ⟨_,_,h2⟩:=h2;simp only [execOp,hop,h2,Sem.run_pure]
 ·obtain ⟨ad,_,h2,_⟩:=h1;simp only [execOp,hop,h2,Sem.run_pure]
 ·obtain ⟨ys,h2,_⟩:=h1;simp only [execOp,hop,h2,Sem.run_pure]
theorem str_beq (a b:ByteArray):(a.toList==b.toList)=(a==b):=by
 rw [ByteArray.toList_eq,ByteArray.toList_eq]
 show _=(a.data==b.data)
 rw [Bool.eq_iff_iff];simp
theorem Done.bin (h:Sim C β σ (a.tmps::as) w) {op:BinOp} {t:TypeId} {x y:Operand} {c:TypeId} {z:Value} (hop:o.op=.binOp op t x y c)
  (hg:(eqGuard op t x y (a.eval x) (a.eval y)).run P w=.ok () w) (hr:(binOp op t (a.eval x) (a.eval y)).run P w=.ok z w) (hv:V3 (cx C β σ w) v z):Done P C o a as w v σ :=
 .same (x:=z) h (by simp only [execOp,hop,Sem.run_bind,hg,hr,Result.andThen_ok,Sem.run_pure]) hv
theorem eqGuard_other {op:BinOp} {t:TypeId} {x y:Operand} {u v:Value} (h:∀ xs,u ≠ .agg xs) (h':u ≠ .nilIface):(eqGuard op t x y u v).run P w=.ok () w:=by
 unfold eqGuard
 cases op <;> simp only [] <;> (try rfl) <;> (cases u <;> first|rfl|exact absurd rfl h'|exact absurd rfl (h _))
theorem run_binI {op:BinOp} {t:TypeId} {k:IntKind} {n m:Int} (hA:binI op k n m σ=some (bs,v,σ')) (hbs:∀ b∈bs,b=true):σ'=σ∧∃ z,(binOp op t (.int k n) (.int k m)).run P w=.ok z w∧∀ S,V3 S v z:=by
 cases op <;> simp only [binI,pureA,sI,Prod.mk.injEq,reduceCtorEq] at hA <;> obtain ⟨rfl,rfl,rfl⟩:=hA <;> refine ⟨rfl,_,?_,fun S=>rfl⟩
 all_goals first
  |(simp only [binOp,ne_eq,not_true_eq_false,if_false,Op.intArith,Op.intBits,Op.intCmp,bitsI,Sem.run_pure];done)
  |(
    have hm:¬ (m=0):=by simpa using hbs _ (List.mem_cons_self ..)
    simp only [binOp,ne_eq,not_true_eq_false,if_false,Op.intDiv,hm,Sem.run_pure])
  |skip
theorem run_equal_ptr {t e:TypeId} {p q:Option Addr} (hu:P.underlying t=some (.pointer e)) (hpq:p=none∨q=none):(Op.equal t (.pointer p) (.pointer q)).run P w=.ok (p.isNone&&q.isNone) w:=by
 have key:∀ d,(Op.equalIn (d+1) t (.pointer p) (.pointer q)).run P w=.ok (p.isNone&&q.isNone) w:=by
  intro d
  rcases hpq with rfl|rfl
  ·simp [Op.equalIn,run_underlying hu]
  ·cases p <;> simp [Op.equalIn,run_underlying hu]
 exact key 9999
theorem done_ptr (h:Sim C β σ (a.tmps::as) w) {op:BinOp} {t c e:TypeId} {x y:Operand} {p q:Option Addr} (hop:o.op=.binOp op t x y c) (hu:P.underlying t=some (.pointer e)) (hx:a.eval x=.pointer p) (hy:a.eval y=.pointer q) (hpq:p=none∨q=none) :
  (op=.eql→Done P C o a as w (.bool (p.isNone&&q.isNone)) σ)∧(op=.neq→Done P C o a as w (.bool (!(p.isNone&&q.isNone))) σ):=by
 have hg:(eqGuard op t x y (a.eval x) (a.eval y)).run P w=.ok () w:=by rw [hx];exact eqGuard_other (by simp) (by simp)
 constructor <;> rintro rfl
 ·refine Done.bin h hop hg (z:=.bool (p.isNone&&q.isNone)) ?_ rfl
  rw [hx,hy]
  simp only [binOp,Sem.run_bind,run_equal_ptr (w:=w) hu hpq,Result.andThen_ok,Sem.run_pure]
 ·refine Done.bin h hop hg (z:=.bool (!(p.isNone&&q.isNone))) ?_ rfl
  rw [hx,hy]
  simp only [binOp,Sem.run_bind,run_equal_ptr (w:=w) hu hpq,Result.andThen_ok,Sem.run_pure]
theorem V0.ptr_some {S:Cx} {e i oo:Nat} {x:Value} (h:V0 S (.ptr e i oo) x):∃ ad,x=.pointer (some ad):=by
 obtain ⟨E1,L,_,_,h2⟩:=h
 cases E1 with
 |row t l=>exact ⟨_,h2.2.2⟩
 |box cs=>exact ⟨_,h2.2⟩
 |nest t ll k=>exact ⟨_,h2.2.2⟩
theorem done_binOp (hT:TtOk P E.tt) (h:Sim C β σ (a.tmps::as) w) {op:BinOp} {t:TypeId} {x y:Operand} {c:TypeId} (hop:o.op=.binOp op t x y c) (hA:binA E op t (σ.eval x) (σ.eval y) σ=some (bs,v,σ')) (hbs:∀ b∈bs,b=true):Done P C o a as w v σ':=by
 have hx:=h.eval x
 have hy:=h.eval y
 unfold binA at hA
 split at hA
 ·rename_i k n yk m ex ey
  rw [ex] at hx
  rw [ey] at hy
  have hx:a.eval x=.int k n:=hx
  have hy:a.eval y=.int yk m:=hy
  have hg:(eqGuard op t x y (a.eval x) (a.eval y)).run P w=.ok () w:=by rw [hx];exact eqGuard_other (by simp) (by simp)
  split at hA
  ·simp only [sI,Prod.mk.injEq] at hA
   obtain ⟨rfl,rfl,rfl⟩:=hA
   have h0:¬ (m<0):=by
    have:=hbs _ (List.mem_cons_self ..)
    simpa using this
   refine Done.bin h hop hg (z:=.int k (k.wrap (n*2 ^ (min m.toNat k.bits)))) ?_ rfl
   rw [hx,hy]
   simp only [binOp,Op.shift,h0,if_false,Sem.run_pure]
  ·simp only [sI,Prod.mk.injEq] at hA
   obtain ⟨rfl,rfl,rfl⟩:=hA
   have h0:¬ (m<0):=by
    have:=hbs _ (List.mem_cons_self ..)
    simpa using this
   refine Done.bin h hop hg (z:=.int k (n.fdiv (2 ^ (min m.toNat k.bits)))) ?_ rfl
   rw [hx,hy]
   simp only [binOp,Op.shift,h0,if_false,Sem.run_pure]
  ·split at hA
   ·rename_i hk
    subst hk
    obtain ⟨rfl,z,hr,hz⟩:=run_binI (P:=P) (w:=w) (t:=t) hA hbs
    exact Done.bin h hop hg (by rw [hx,hy];exact hr) (hz _)
   ·cases hA
 ·rename_i p q ex ey
  rw [ex] at hx
  rw [ey] at hy
  have hx:a.eval x=.bool p:=hx
  have hy:a.eval y=.bool q:=hy
  have hg:(eqGuard op t x y (a.eval x) (a.eval y)).run P w=.ok () w:=by rw [hx];exact eqGuard_other (by simp) (by simp)
  split at hA
  ·rename_i hk
   simp only [pureA,sI,Prod.mk.injEq] at hA
   obtain ⟨rfl,rfl,rfl⟩:=hA
   refine Done.bin h hop hg (z:=.bool (p==q)) ?_ rfl
   rw [hx,hy]
   simp only [binOp,Sem.run_bind,run_equal_bool w t p q (hT.bool t hk),Result.andThen_ok,Sem.run_pure]
  ·rename_i hk
   simp only [pureA,sI,Prod.mk.injEq] at hA
   obtain ⟨rfl,rfl,rfl⟩:=hA
   refine Done.bin h hop hg (z:=.bool (!(p==q))) ?_ rfl
   rw [hx,hy]
   simp only [binOp,Sem.run_bind,run_equal_bool w t p q (hT.bool t hk),Result.andThen_ok,Sem.run_pure]
  ·cases hA
 ·rename_i p q ex ey
  rw [ex] at hx
  rw [ey] at hy
  have hx:a.eval x=.string p:=hx
  have hy:a.eval y=.string q:=hy
  have hg:(eqGuard op t x y (a.eval x) (a.eval y)).run P w=.ok () w:=by rw [hx];exact eqGuard_other (by simp) (by simp)
  split at hA
  ·simp only [sI,Prod.mk.injEq] at hA
   obtain ⟨rfl,rfl,rfl⟩:=hA
   have h0:p.size+q.size≤9223372036854775807:=by
    have:=hbs _ (List.mem_cons_self ..)
    simpa using this
   refine Done.bin h hop hg (z:=.string (p++q)) ?_ rfl
   rw [hx,hy,binOp_string_add]
   exact run_string_add_sum w p q h0
  ·simp only [pureA,sI,Prod.mk.injEq] at hA
   obtain ⟨rfl,rfl,rfl⟩:=hA
   refine Done.bin h hop hg (z:=.bool (p==q)) ?_ rfl
   rw [hx,hy,binOp_string_eql,str_beq];rfl
  ·simp only [pureA,sI,Prod.mk.injEq] at hA
   obtain ⟨rfl,rfl,rfl⟩:=hA
   refine Done.bin h hop hg (z:=.bool (!(p==q))) ?_ rfl
   rw [hx,hy,binOp_string_neq,str_beq];rfl
  ·cases hA
 ·rename_i xs ys ex ey
  rw [ex] at hx
  rw [ey] at hy
  obtain ⟨us,hxs,hux⟩:=hx
  obtain ⟨vs,hys,hvy⟩:=hy
  split at hA
  ·rename_i r hq hr
   simp only [pureA,sI,Prod.mk.injEq] at hA
   obtain ⟨rfl,rfl,rfl⟩:=hA
   have:=(hT.eqs t hq (cx C β σ w) xs ys us vs r w hr hux hvy x y).1
   refine .same (x:=.bool r) h ?_ rfl
   simp only [execOp,hop,hxs,hys]
   simp only [Sem.run_bind] at this ⊢
   rw [this];rfl
  ·rename_i r hq hr
   simp only [pureA,sI,Prod.mk.injEq] at hA
   obtain ⟨rfl,rfl,rfl⟩:=hA
   have:=(hT.eqs t hq (cx C β σ w) xs ys us vs r w hr hux hvy x y).2
   refine .same (x:=.bool (!r)) h ?_ rfl
   simp only [execOp,hop,hxs,hys]
   simp only [Sem.run_bind] at this ⊢
   rw [this];rfl
  ·cases hA
 ·rename_i e i oo ex ey
  rw [ex] at hx
  rw [ey] at hy
  obtain ⟨ad,hx⟩:=V0.ptr_some hx
  have hy:a.eval y=.pointer none:=hy
  split at hA
  ·rename_i e' hk
   simp only [pureA,sI,Prod.mk.injEq] at hA
   obtain ⟨rfl,rfl,rfl⟩:=hA
   exact (done_ptr h hop (hT.ptr t _ hk) hx hy (.inr rfl)).1 rfl
  ·rename_i e' hk
   simp only [pureA,sI,Prod.mk.injEq] at hA
   obtain ⟨rfl,rfl,rfl⟩:=hA
   exact (done_ptr h hop (hT.ptr t _ hk) hx hy (.inr rfl)).2 rfl
  ·cases hA
 ·rename_i e i oo ex ey
  rw [ex] at hx
  rw [ey] at hy
  obtain ⟨ad,hy⟩:=V0.ptr_some hy
  have hx:a.eval x=.pointer none:=hx
  split at hA
  ·rename_i e' hk
   simp only [pureA,sI,Prod.mk.injEq] at hA
   obtain ⟨rfl,rfl,rfl⟩:=hA
   exact (done_ptr h hop (hT.ptr t _ hk) hx hy (.inl rfl)).1 rfl
  ·rename_i e' hk
   simp only [pureA,sI,Prod.mk.injEq] at hA
   obtain ⟨rfl,rfl,rfl⟩:=hA
   exact (done_ptr h hop (hT.ptr t _ hk) hx hy (.inl rfl)).2 rfl
  ·cases hA
 ·rename_i ex ey
  rw [ex] at hx
  rw [ey] at hy
  have hx:a.eval x=.pointer none:=hx
  have hy:a.eval y=.pointer none:=hy
  split at hA
  ·rename_i e' hk
   simp only [pureA,sI,Prod.mk.injEq] at hA
   obtain ⟨rfl,rfl,rfl⟩:=hA
   exact (done_ptr h hop (hT.ptr t _ hk) hx hy (.inl rfl)).1 rfl
  ·rename_i e' hk
   simp only [pureA,sI,Prod.mk.injEq] at hA
   obtain ⟨rfl,rfl,rfl⟩:=hA
   exact (done_ptr h hop (hT.ptr t _ hk) hx hy (.inl rfl)).2 rfl
  ·cases hA
 ·cases hA
theorem done_unOp (h:Sim C β σ (a.tmps::as) w) {op:UnOp} {t:TypeId} {x:Operand} (hop:o.op=.unOp op t x):(∀ b,op=.not→σ.eval x=.bool b→Done P C o a as w (.bool (!b)) σ)∧(∀ k n,op=.neg→σ.eval x=.int k n→Done P C o a as w (.int k (k.wrap (0 - n))) σ):=by
 have hx:=h.eval x
 refine ⟨fun b ho hv=>?_,fun k n ho hv=>?_⟩ <;> rw [hv] at hx <;> subst ho
 ·have hx:a.eval x=.bool b:=hx
  refine .same (x:=.bool (!b)) h ?_ rfl
  simp only [execOp,hop,hx,Op.unary,Sem.run_bind,Sem.run_pure,Result.andThen_ok]
 ·have hx:a.eval x=.int k n:=hx
  refine .same (x:=.int k (k.wrap (0 - n))) h ?_ rfl
  simp only [execOp,hop,hx,Op.unary,Op.intArith,Sem.run_bind,Sem.run_pure,Result.andThen_ok]
theorem done_convert (hT:TtOk P E.tt) (h:Sim C β σ (a.tmps::as) w) {s d:TypeId} {x:Operand} {k k':IntKind} {n:Int} (hop:o.op=.convert s d x) (hk:(E.tt d).kind=.int k) (hs:∃ u,P.underlying s=some u) (hv:σ.eval x=.int k' n):Done P C o a as w (.int k (k.wrap n)) σ:=by
 have hx:=h.eval x
 rw [hv] at hx
 have hx:a.eval x=.int k' n:=hx
 obtain ⟨u,hu⟩:=hs
 refine .same (x:=.int k (k.wrap n)) h ?_ rfl
 simp only [execOp,hop,hx,convert,Sem.run_bind,run_underlying hu,run_underlying (hT.int d k hk),Result.andThen_ok,Conv.intToInt,Sem.run_pure]
theorem done_extract (h:Sim C β σ (a.tmps::as) w) {x:Operand} {i:Nat} {vs:List V} (hop:o.op=.extract x i) (hv:σ.eval x=.tup vs) (hi:vs[i]? = some v):Done P C o a as w v σ:=by
 have hx:=h.eval x
 rw [hv] at hx
 obtain ⟨ys,hx,ha⟩:=hx
 obtain ⟨y,hy,h2⟩:=ha.get hi
 refine .same (x:=y) h ?_ (V3.of2 h2)
 simp only [Array.getElem?_toList] at hy
 simp only [execOp,hop,hx,Instr.extract,hy,Sem.run_bind,Sem.run_pure,Result.andThen_ok]
theorem done_len (hT:TtOk P E.tt) (h:Sim C β σ (a.tmps::as) w) {c:Call} {t:TypeId} {x:Operand} {n:Int} (hop:o.op=.call c) (hc:c.callee=.builtin .len) (ht:c.argTypes.toList=[t]) (hargs:c.args.toList=[x])
  (hl:lenV σ (σ.eval x)=some n) (hk:(∃ e,(E.tt t).kind=.slice e∧∀ s,σ.eval x ≠ .str s)∨((E.tt t).kind=.str∧∃ s,σ.eval x=.str s)):Done P C o a as w (.int .i64 n) σ:=by
 have hx:=h.eval x
 have h1:c.argTypes=#[t]:=by rw [← Array.toList_inj,ht]
 have h2:c.args=#[x]:=by rw [← Array.toList_inj,hargs]
 have key:(Builtin.len_ #[t] o.type #[a.eval x]).run P w=.ok (.int .i64 n) w:=by
  rcases hk with ⟨e,hk,hns⟩|⟨hk,s,hs⟩
  ·have hu:=hT.slice t e hk
   have hsl:∃ A m c,a.eval x=.slice A m c∧(m:Int)=n:=by
    unfold lenV at hl
    split at hl
    ·rename_i hv;rw [hv] at hx
     obtain ⟨A,c,hx,_⟩:=hx
     injection hx with hx
     injection hl with hl
     exact ⟨A,_,c,hx,hl⟩
    ·rename_i hv;rw [hv] at hx
     injection hl with hl
     exact ⟨none,0,0,hx,hl⟩
    ·rename_i s hv;exact absurd hv (hns s)
    ·rename_i en hv;rw [hv] at hx
     rcases hx with ⟨t',l',hl',A,c,hx,_⟩|⟨E',n',hl',hw,A,c,hx,_⟩
     ·have hl':look σ.mem en=_:=hl'
      simp only [hl',sI] at hl
      exact ⟨A,_,c,hx,hl⟩
     ·have hl':look σ.mem en=_:=hl'
      rw [hl'] at hl
      cases E' with
      |row _ _=>cases hw
      |box cs =>
       simp only [sI] at hl
       injection hw with hw
       exact ⟨A,_,c,hx,by rw [← hw];exact hl⟩
      |nest t ll k =>
       simp only [sI] at hl
       injection hw with hw
       exact ⟨A,_,c,hx,by rw [← hw];exact hl⟩
    ·rename_i en oo m hv;rw [hv] at hx
     injection hl with hl
     rcases hx with ⟨t',l',_,_,⟨A,c,hx,_⟩,_⟩|⟨_,_,_,_,_,_,_,_,_,_,⟨A,c,hx,_⟩⟩
     ·exact ⟨A,_,c,hx,hl⟩
     ·exact ⟨A,_,c,hx,hl⟩
    ·cases hl
   obtain ⟨A,m,c',hx',hm⟩:=hsl
   rw [hx',← hm]
   simp [Builtin.len_,run_underlying hu,goInt]
  ·have hu:=hT.str t hk
   rw [hs] at hx hl
   have hx:a.eval x=.string s:=hx
   simp only [lenV,sI] at hl
   rw [hx,← hl]
   simp [Builtin.len_,run_underlying hu,goInt]
 refine .same (x:=.int .i64 n) h ?_ rfl
 simp only [execOp,hop,resolve,hc,h1,h2,Sem.run_bind,Sem.run_pure,Result.andThen_ok,invoke,builtin]
 have:(Array.map a.eval #[x])=#[a.eval x]:=by simp
 rw [this,key]
 rfl
theorem done_makeFunc (h:Sim C β σ (a.tmps::as) w) {f:FuncId} {fst caps:Array Operand} (hop:o.op=.makeFunc (.func f) fst caps) (hf:fst.toList=[]) (hc:∀ x∈caps.toList,V0 (cx C β σ w) (σ.eval x) (a.eval x)):Done P C o a as w (.fn f (caps.toList.map σ.eval)) σ:=by
 have h1:fst=#[]:=by rw [← Array.toList_inj,hf]
 refine .same (x:=.func (.func f) #[] (caps.map a.eval)) h ?_ (V3.of1 ⟨_,rfl,?_⟩)
 ·simp [execOp,hop,h1,Instr.makeFunc]
 ·rw [Array.toList_map]
  revert hc
  generalize caps.toList=l
  intro hc
  induction l with
  |nil=>exact trivial
  |cons x l ih=>exact ⟨hc x (by simp),ih fun y hy=>hc y (by simp [hy])⟩
end
open Go.RowKit
theorem Addr.add_add (a:Addr) (n m:Nat):(a.add n).add m=a.add (n+m):=by
 unfold Addr.add
 by_cases hn:n=0
 ·subst hn;simp
 ·by_cases hm:m=0
  ·subst hm;simp [hn]
  ·simp [hn,hm];omega
theorem Addr.add_block (a:Addr) (n:Nat):(a.add n).block=a.block:=by unfold Addr.add;split <;> rfl
section
variable {P:Program} {E:Env} {C:Frm} {β:Nat→Option Loc} {σ σ':St} {a:Act} {as:List (Array Value)} {w:World} {o:Oper} {nm:Nat} {ty:TypeId} {bs:List Bool} {v:V}
theorem done_makeSlice (hT:TtOk P E.tt) (h:Sim C β σ (a.tmps::as) w) {t e:TypeId} {x y:Operand} {te:Ty} {n m:Int} (hop:o.op=.makeSlice t x y) (hk:(E.tt t).kind=.slice e) (hty:(E.tt e).ty=some te) (hx:σ.eval x=.int .i64 n) (hy:σ.eval y=.int .i64 m)
  (h0:0≤n∧n≤m) (h1:0<(E.tt e).bytes∧m*(E.tt e).bytes≤140737488355328):Done P C o a as w (.slw nm) (σ.new nm (.row te (List.replicate n.toNat (dflt te)))):=by
 have hex:=h.eval x
 have hey:=h.eval y
 rw [hx] at hex
 rw [hy] at hey
 have hex:a.eval x=.int .i64 n:=hex
 have hey:a.eval y=.int .i64 m:=hey
 have hu:=hT.slice t e hk
 obtain ⟨hsz,hts,_,hdf⟩:=hT.ty e te hty
 obtain ⟨i,z,hi,his,hib,hz,hzz⟩:=hT.info e hsz
 have hz1:=(hdf i z hi hz (fun _=>True) w).length
 have hisz:i.size=te.size:=by rw [his,hts]
 obtain ⟨hbp,hbb⟩:=h1
 have hm47:m≤140737488355328:=by
  have:m*1≤m*((E.tt e).bytes:Int):=Int.mul_le_mul_of_nonneg_left (by omega) (by omega)
  omega
 have hr:=run_make (P:=P) w t e i z hu hi hz .i64 .i64 n m h0.1 h0.2 (by rw [hib,Int.mul_comm];omega) (by omega)
 refine done_row h (w1:=w) (el:=e) (n:=n.toNat) (c:=m.toNat) (Grows.refl w) (ys:=madeCells z.cells (m.toNat*i.size)) ?_ (by simp) (by omega) (by rw [size_madeCells,hisz]) ?_
 ·simp only [execOp,hop,hex,hey,Sem.run_bind,hr,Result.andThen_ok,Sem.run_pure]
 ·intro j x hx
  have hj:j<n.toNat∧x=dflt te:=by
   rw [List.getElem?_replicate] at hx
   split at hx
   ·rename_i hj;injection hx with hx;exact ⟨hj,hx.symm⟩
   ·cases hx
  obtain ⟨hj,rfl⟩:=hj
  refine ⟨z.cells.toList,hdf i z hi hz _ _,fun q y hq=>?_⟩
  have hqs:q<te.size:=by
   have:=(List.getElem?_eq_some_iff.1 hq).1
   rw [hz1] at this;exact this
  have hzs:z.cells.size=te.size:=by simpa using hz1
  have hlt:j*te.size+q<m.toNat*i.size:=by
   rw [hisz]
   have:=Nat.mul_le_mul_right te.size (show j+1≤m.toNat by omega)
   rw [Nat.add_mul] at this
   omega
  simp only [madeCells,Array.getElem?_map,Array.getElem?_range,hlt,if_true,Option.map_some]
  rw [hzs,show (j*te.size+q) % te.size=q from by rw [Nat.mul_comm,Nat.mul_add_mod,Nat.mod_eq_of_lt hqs]]
  simp only [Array.getElem?_toList] at hq
  simp [getElem!_def,hq]
theorem run_sliceBound {k:IntKind} {i:Int} {y:Nat} {code:BoundsCode} (h:0≤i∧i≤y):(Instr.sliceBound (.int k i) y code).run P w=.ok i.toNat w:=by
 simp [Instr.sliceBound,asIntOf,h]
theorem bound_rel (h:Sim C β σ (a.tmps::as) w) {x:Option Operand} {b:Option Int} (hb:bound σ x=some b):(b=none∧x.map a.eval=none)∨∃ k n,b=some n∧x.map a.eval=some (.int k n):=by
 cases x with
 |none=>simp only [bound,sI] at hb;exact .inl ⟨hb.symm,rfl⟩
 |some x =>
  simp only [bound] at hb
  split at hb
  ·rename_i k n hv
   injection hb with hb
   have:=h.eval x
   rw [hv] at this
   have this:a.eval x=.int k n:=this
   exact .inr ⟨k,n,hb.symm,by simp [this]⟩
  ·cases hb
theorem run_bounds (h:Sim C β σ (a.tmps::as) w) {x y:Option Operand} {lo hi:Option Int} {isSlice:Bool} {len cap:Nat} (hx:bound σ x=some lo) (hy:bound σ y=some hi) (hlc:len≤cap)
  (h1:0≤lo.getD 0∧lo.getD 0≤hi.getD len) (h2:hi.getD (len:Int)≤cap):(Instr.sliceBounds isSlice len cap (x.map a.eval) (y.map a.eval) none).run P w=.ok ((lo.getD 0).toNat,(hi.getD (len:Int)).toNat,cap) w:=by
 rcases bound_rel h hx with ⟨rfl,ex⟩|⟨k,n,rfl,ex⟩ <;> rcases bound_rel h hy with ⟨rfl,ey⟩|⟨k',m,rfl,ey⟩ <;> rw [ex,ey] <;> simp only [Option.getD_some,Option.getD_none] at h1 h2 ⊢
 ·simp [Instr.sliceBounds]
 ·simp [Instr.sliceBounds,run_sliceBound (P:=P) (w:=w) (k:=k') (i:=m) (y:=cap) (by omega)]
 ·simp [Instr.sliceBounds,run_sliceBound (P:=P) (w:=w) (k:=k) (i:=n) (y:=len) (by omega)]
 ·have hm:((m.toNat:Nat):Int)=m:=by omega
  simp [Instr.sliceBounds,run_sliceBound (P:=P) (w:=w) (k:=k') (i:=m) (y:=cap) (by omega),run_sliceBound (P:=P) (w:=w) (k:=k) (i:=n) (y:=m.toNat) (by omega)]
theorem run_sliceStr (h:Sim C β σ (a.tmps::as) w) {t:TypeId} {x y:Option Operand} {lo hi:Option Int} {s:ByteArray} (hu:P.underlying t=some .string) (hx:bound σ x=some lo) (hy:bound σ y=some hi)
  (h1:0≤lo.getD 0∧lo.getD 0≤hi.getD (s.size:Int)) (h2:hi.getD (s.size:Int)≤s.size) :
  (Instr.sliceAt t (.string s) (x.map a.eval) (y.map a.eval) none).run P w=.ok (.string (s.extract (lo.getD 0).toNat (hi.getD (s.size:Int)).toNat)) w:=by
 have:=run_bounds (P:=P) (isSlice:=false) (len:=s.size) (cap:=s.size) h hx hy (Nat.le_refl _) h1 h2
 simp [Instr.sliceAt,Instr.slice,run_underlying hu,this]
theorem run_sliceSl (h:Sim C β σ (a.tmps::as) w) {t e:TypeId} {x y:Option Operand} {lo hi:Option Int} {A:Option Addr} {n c:Nat} {i:TypeInfo} (hu:P.underlying t=some (.slice e)) (hi':P.info? e=some i) (hx:bound σ x=some lo) (hy:bound σ y=some hi) (hnc:n≤c)
  (h1:0≤lo.getD 0∧lo.getD 0≤hi.getD (n:Int)) (h2:hi.getD (n:Int)≤c) :
  (Instr.sliceAt t (.slice A n c) (x.map a.eval) (y.map a.eval) none).run P w=.ok (.slice (if c=(lo.getD 0).toNat then A else A.map (·.add ((lo.getD 0).toNat*i.size))) ((hi.getD (n:Int)).toNat - (lo.getD 0).toNat) (c - (lo.getD 0).toNat)) w:=by
 have:=run_bounds (P:=P) (isSlice:=true) (len:=n) (cap:=c) h hx hy hnc h1 h2
 simp [Instr.sliceAt,Instr.slice,run_underlying hu,this,sizeOf,typeInfo,hi']
theorem SlAt.cut {lo:Option Loc} {sz off n o' n' c:Nat} {A:Option Addr} (hs:SlAt lo sz off n (.slice A n c)) (ho:o'+n'≤c):SlAt lo sz (off+o') n' (.slice (if c=o' then A else A.map (·.add (o'*sz))) n' (c - o')):=by
 obtain ⟨A',c',e,hc,h⟩:=hs
 injection e with e1 _ e2
 subst e1
 subst e2
 refine ⟨_,_,rfl,by omega,?_⟩
 by_cases hco:c=o'
 ·exact .inl (by omega)
 ·rw [if_neg hco]
  rcases h with h0|⟨L,hL,hA,hfit⟩
  ·exact .inl (by omega)
  ·subst hA
   refine .inr ⟨L,hL,?_,?_⟩
   ·simp only [Option.map_some,sI]
    unfold Addr.add
    split
    ·rename_i hz;simp only [Addr.mk.injEq,true_and,and_true];rw [Nat.add_mul,hz];omega
    ·simp only [Addr.mk.injEq,true_and,and_true];rw [Nat.add_mul];omega
   ·rw [show off+o'+(c - o')=off+c from by omega]
    exact hfit
theorem DRel.cut {B:Ty×Nat→Prop} {t:Ty} {l:List t.den} {A:Option Addr} {c o' n':Nat} (hs:DRel B w (.list t) l [.slice A l.length c]) (hc:l.length≤c) (ho:o'+n'≤l.length):DRel B w (.list t) ((l.drop o').take n') [.slice (if c=o' then A else A.map (·.add (o'*t.size))) n' (c - o')]:=by
 obtain ⟨A',c',e,_,h⟩:=hs
 injection e with e
 injection e with e1 _ e2
 subst e1
 subst e2
 have hlen:((l.drop o').take n').length=n':=by simp;omega
 refine ⟨_,_,by rw [hlen],by omega,fun i x hx=>?_⟩
 have hi:i<n':=by
  have:=(List.getElem?_eq_some_iff.1 hx).1
  omega
 rw [List.getElem?_take_of_lt hi,List.getElem?_drop] at hx
 obtain ⟨ad,zs,rfl,hb,hz,hcell⟩:=h _ x hx
 rw [if_neg (by omega)]
 refine ⟨_,zs,rfl,by rw [Addr.add_block];exact hb,hz,fun j z hj=>?_⟩
 rw [Addr.add_add,← hcell j z hj]
 congr 2
 rw [Nat.add_mul];omega
theorem done_slice (hT:TtOk P E.tt) (h:Sim C β σ (a.tmps::as) w) {t e:TypeId} {x:Operand} {y z:Option Operand} {lo hi:Option Int} (hop:o.op=.slice t x y z none) (hk:(E.tt t).kind=.slice e) (hy:bound σ y=some lo) (hz:bound σ z=some hi)
  (hA:sliceA (E.tt e).size (σ.eval x) lo hi σ=some (bs,v,σ')) (hbs:∀ b∈bs,b=true):Done P C o a as w v σ':=by
 have hx:=h.eval x
 have hu:=hT.slice t e hk
 have fin:∀ {A:Option Addr} {n m c:Nat} {mk:Nat→Nat→V} {te:Ty},te.size=(E.tt e).size→a.eval x=.slice A n c→n≤c→m≤c→cutA lo hi n m mk σ=some (bs,v,σ') →
   (∀ o' n',o'+n'≤m→V3 (cx C β σ w) (mk o' n') (.slice (if c=o' then A else A.map (·.add (o'*te.size))) n' (c - o')))→Done P C o a as w v σ':=by
  intro A n m c mk te hts hxe hnc hmc hcut hmk
  simp only [cutA,sI,Prod.mk.injEq] at hcut
  obtain ⟨rfl,rfl,rfl⟩:=hcut
  have h1:0≤lo.getD 0∧lo.getD 0≤hi.getD (n:Int):=by
   have:=hbs _ (List.mem_cons_self ..)
   simpa using this
  have h2:hi.getD (n:Int)≤m:=by
   have:=hbs _ (List.mem_cons_of_mem _ (List.mem_cons_self ..))
   simpa using this
  obtain ⟨i,z',hi',his,_⟩:=hT.info e (by rw [← hts];have:=te.size_pos;omega)
  have hr:=run_sliceSl (P:=P) (A:=A) (c:=c) h hu hi' hy hz hnc h1 (by omega)
  rw [his,← hts] at hr
  refine .same h ?_ (hmk _ _ (by omega))
  simp only [execOp,hop,hxe,Option.map_none,Sem.run_bind,hr,Result.andThen_ok,Sem.run_pure]
 unfold sliceA at hA
 split at hA
 ·rename_i te l hv
  cases hs:te.size==(E.tt e).size with
  |false=>rw [hs] at hA;cases hA
  |true =>
   rw [hs,cond_true] at hA
   rw [hv] at hx
   have hx':DRel (Free C σ.mem β w) w (.list te) l [a.eval x]:=hx
   obtain ⟨A,c,hxe,hc,_⟩:=hx'
   injection hxe with hxe
   have hx':DRel (Free C σ.mem β w) w (.list te) l [a.eval x]:=hx
   rw [hxe] at hx'
   exact fin (te:=te) (by simpa using hs) hxe hc hc hA fun o' n' ho=>V3.of0 (hx'.cut hc ho)
 ·rename_i en hv
  split at hA
  ·rename_i te l hl
   cases hs:te.size==(E.tt e).size with
   |false=>rw [hs] at hA;cases hA
   |true =>
    rw [hs,cond_true] at hA
    rw [hv] at hx
    obtain ⟨t1,l1,hl1,hsl⟩:=V0.row hx hl
    have:=hl.symm.trans hl1
    injection this with this
    injection this with h1 h2
    subst h1
    have h2:=eq_of_heq h2
    subst h2
    have hsl':=hsl
    obtain ⟨A,c,hxe,hc,_⟩:=hsl'
    rw [hxe] at hsl
    refine fin (by simpa using hs) hxe hc hc hA fun o' n' ho=>V3.of0 (.inl ⟨te,l,hl,by omega,?_,_,_,_,rfl,by omega⟩)
    have:=hsl.cut (o':=o') (n':=n') (by omega)
    rw [Nat.zero_add] at this
    exact this
  ·cases hA
 ·rename_i en oo n hv
  split at hA
  ·rename_i te l hl
   cases hs:te.size==(E.tt e).size with
   |false=>rw [hs] at hA;cases hA
   |true =>
    rw [hs,cond_true] at hA
    rw [hv] at hx
    obtain ⟨t1,l1,hl1,ho1,hsl,hcap⟩:=V0.part hx hl
    have:=hl.symm.trans hl1
    injection this with this
    injection this with h1 h2
    subst h1
    have h2:=eq_of_heq h2
    subst h2
    have hsl':=hsl
    obtain ⟨A,c,hxe,hc,_⟩:=hsl'
    rw [hxe] at hsl
    rw [hxe] at hcap
    obtain ⟨_,_,_,hcx,hcap⟩:=hcap
    injection hcx with _ _ hcx
    subst hcx
    exact fin (by simpa using hs) hxe hc hcap hA fun o' n' ho=>V3.of0 (.inl ⟨te,l,hl,by omega,hsl.cut (by omega),_,_,_,rfl,by omega⟩)
  ·cases hA
 ·cases hA
theorem done_sliceStr (hT:TtOk P E.tt) (h:Sim C β σ (a.tmps::as) w) {t:TypeId} {x:Operand} {y z:Option Operand} {lo hi:Option Int} {s:ByteArray} (hop:o.op=.slice t x y z none) (hk:(E.tt t).kind=.str) (hy:bound σ y=some lo) (hz:bound σ z=some hi) (hv:σ.eval x=.str s)
  (hA:sliceStr s lo hi σ=some (bs,v,σ')) (hbs:∀ b∈bs,b=true):Done P C o a as w v σ':=by
 have hx:=h.eval x
 rw [hv] at hx
 have hx:a.eval x=.string s:=hx
 simp only [sliceStr,sI,Prod.mk.injEq] at hA
 obtain ⟨rfl,rfl,rfl⟩:=hA
 have h1:0≤lo.getD 0∧lo.getD 0≤hi.getD (s.size:Int):=by
  have:=hbs _ (List.mem_cons_self ..)
  simpa using this
 have h2:hi.getD (s.size:Int)≤s.size:=by
  have:=hbs _ (List.mem_cons_of_mem _ (List.mem_cons_self ..))
  simpa using this
 have hr:=run_sliceStr (P:=P) h (hT.str t hk) hy hz h1 h2
 refine .same (x:=.string (s.extract (lo.getD 0).toNat (hi.getD (s.size:Int)).toNat)) h ?_ rfl
 simp only [execOp,hop,hx,Option.map_none,Sem.run_bind,hr,Result.andThen_ok,Sem.run_pure]
theorem done_slice0 (hT:TtOk P E.tt) (h:Sim C β σ (a.tmps::as) w) {t e:TypeId} {te:Ty} {x m:Operand} {y z:Option Operand} {lo:Option Int} (hop:o.op=.slice t x y z (some m)) (hk:(E.tt t).kind=.slice e) (hty:(E.tt e).ty=some te) (hy:bound σ y=some lo) (hz:bound σ z=some (some 0)) (hm:bound σ (some m)=some (some 0))
  (hx:isSl (σ.eval x)=true) (hlo:lo.getD 0=0):Done P C o a as w (.slw nm) (σ.new nm (.row te [])):=by
 have hxe:=h.eval x
 have hu:=hT.slice t e hk
 obtain ⟨hsz,_⟩:=hT.ty e te hty
 obtain ⟨i,z',hi',_⟩:=hT.info e hsz
 have hsl:∃ A n c,a.eval x=.slice A n c∧n≤c:=by
  cases hv:σ.eval x <;> rw [hv] at hx hxe <;> simp only [isSl,Bool.false_eq_true] at hx
  ·obtain ⟨A,c,e1,hc,_⟩:=hxe;injection e1 with e1;exact ⟨A,_,c,e1,hc⟩
  ·exact ⟨none,0,0,hxe,Nat.le_refl _⟩
  ·rcases hxe with ⟨t1,l,_,A,c,e1,hc,_⟩|⟨_,_,_,_,A,c,e1,hc,_⟩ <;> exact ⟨A,_,c,e1,hc⟩
  ·rcases hxe with ⟨t1,l,_,_,⟨A,c,e1,hc,_⟩,_⟩|⟨_,_,_,_,_,_,_,_,_,_,⟨A,c,e1,hc,_⟩⟩ <;> exact ⟨A,_,c,e1,hc⟩
 obtain ⟨A,n,c,hxv,hnc⟩:=hsl
 obtain ⟨h2,_⟩:=h.newNil nm te
 have hr:(Instr.sliceAt t (.slice A n c) (y.map a.eval) (z.map a.eval) (some (a.eval m))).run P w=.ok (.slice A 0 0) w:=by
  rcases bound_rel h hz with ⟨hh,_⟩|⟨k,q,hh,ez⟩
  ·cases hh
  ·injection hh with hh
   subst hh
   rcases bound_rel h hm with ⟨hh,_⟩|⟨k2,q2,hh,em⟩
   ·cases hh
   ·injection hh with hh
    subst hh
    simp only [Option.map_some,sI] at em
    rw [ez,em]
    have b0:∀ (k:IntKind) (cap:Nat) (code:BoundsCode),(Instr.sliceBound (.int k 0) cap code).run P w=.ok 0 w:=fun k cap code=>run_sliceBound (P:=P) (w:=w) (by omega)
    rcases bound_rel h hy with ⟨rfl,ey⟩|⟨k3,q3,rfl,ey⟩
    ·rw [ey]
     simp [Instr.sliceAt,Instr.slice,run_underlying hu,Instr.sliceBounds,b0,sizeOf,typeInfo,hi']
    ·rw [ey]
     simp only [Option.getD_some] at hlo
     subst hlo
     simp [Instr.sliceAt,Instr.slice,run_underlying hu,Instr.sliceBounds,b0,sizeOf,typeInfo,hi']
 refine ⟨.slice A 0 0,w,_,.inl ?_,h2,V3.of0 (.inl ⟨te,[],by simp [St.new,look_cons],A,0,rfl,Nat.le_refl _,.inl rfl⟩)⟩
 simp only [execOp,hop,hxv,Option.map_some,Sem.run_bind,hr,Result.andThen_ok,Sem.run_pure]
theorem run_clip (h:Sim C β σ (a.tmps::as) w) {t e:TypeId} {m:Operand} {y z:Option Operand} {lo:Option Int} {b c':Int} {A:Option Addr} {n c:Nat} {i:TypeInfo} (hu:P.underlying t=some (.slice e)) (hi':P.info? e=some i) (hy:bound σ y=some lo) (hz:bound σ z=some (some b)) (hm:bound σ (some m)=some (some c'))
  (hlo:lo.getD 0=0) (hb:b=n) (hc:c'=n) (hnc:n≤c) :
  (Instr.sliceAt t (.slice A n c) (y.map a.eval) (z.map a.eval) (some (a.eval m))).run P w=.ok (.slice (if n=0 then A else A.map (·.add 0)) n n) w:=by
 rcases bound_rel h hz with ⟨hh,_⟩|⟨k,q,hh,ez⟩
 ·cases hh
 injection hh with hh
 subst hh
 rcases bound_rel h hm with ⟨hh,_⟩|⟨k2,q2,hh,em⟩
 ·cases hh
 injection hh with hh
 subst hh
 simp only [Option.map_some,sI] at em
 rw [ez,em]
 have hq:b.toNat=n:=by omega
 have hq2:c'.toNat=n:=by omega
 have b1:=fun (code:BoundsCode)=>run_sliceBound (P:=P) (w:=w) (k:=k2) (i:=c') (y:=c) (code:=code) (by omega)
 have b2:=fun (code:BoundsCode)=>run_sliceBound (P:=P) (w:=w) (k:=k) (i:=b) (y:=n) (code:=code) (by omega)
 rcases bound_rel h hy with ⟨rfl,ey⟩|⟨k3,q3,rfl,ey⟩
 ·rw [ey]
  simp [Instr.sliceAt,Instr.slice,run_underlying hu,Instr.sliceBounds,b1,b2,hq,hq2,sizeOf,typeInfo,hi']
 ·rw [ey]
  simp only [Option.getD_some] at hlo
  subst hlo
  have b0:∀ (k:IntKind) (cap:Nat) (code:BoundsCode),(Instr.sliceBound (.int k 0) cap code).run P w=.ok 0 w:=fun k cap code=>run_sliceBound (P:=P) (w:=w) (by omega)
  simp [Instr.sliceAt,Instr.slice,run_underlying hu,Instr.sliceBounds,b0,b1,b2,hq,hq2,sizeOf,typeInfo,hi']
theorem SlAt.clip {lo:Option Loc} {sz off n c:Nat} {A:Option Addr} (hs:SlAt lo sz off n (.slice A n c)):SlAt lo sz off n (.slice (if n=0 then A else A.map (·.add 0)) n n):=by
 have:=hs.cut (o':=0) (n':=n) (by obtain ⟨A',c',e,hc,h⟩:=hs;injection e with e1 _ e2;omega)
 obtain ⟨A',c',e,hc,h⟩:=hs
 injection e with e1 _ e2
 subst e1
 subst e2
 refine ⟨_,_,rfl,Nat.le_refl _,?_⟩
 by_cases hn:n=0
 ·exact .inl hn
 ·rw [if_neg hn]
  rcases h with h0|⟨L,hL,hA,hfit⟩
  ·exact .inl (by omega)
  ·subst hA
   refine .inr ⟨L,hL,?_,?_⟩
   ·simp [Addr.add]
   ·exact Nat.le_trans (Nat.add_le_add_left (Nat.mul_le_mul_right _ (by omega)) _) hfit
theorem run_bounds3 (h:Sim C β σ (a.tmps::as) w) {t e:TypeId} {m:Operand} {y z:Option Operand} {lo:Option Int} {b c':Int} {A:Option Addr} {n c:Nat} {i:TypeInfo} (hu:P.underlying t=some (.slice e)) (hi':P.info? e=some i) (hy:bound σ y=some lo) (hz:bound σ z=some (some b)) (hm:bound σ (some m)=some (some c'))
  (hlo:0≤lo.getD 0∧lo.getD 0≤b) (hb:b≤c') (hc:c'≤n) (hnc:n≤c) :
  ∃ v,(Instr.sliceAt t (.slice A n c) (y.map a.eval) (z.map a.eval) (some (a.eval m))).run P w=.ok v w:=by
 rcases bound_rel h hz with ⟨hh,_⟩|⟨k,q,hh,ez⟩
 ·cases hh
 injection hh with hh
 subst hh
 rcases bound_rel h hm with ⟨hh,_⟩|⟨k2,q2,hh,em⟩
 ·cases hh
 injection hh with hh
 subst hh
 simp only [Option.map_some,sI] at em
 rw [ez,em]
 have b1:=fun (code:BoundsCode)=>run_sliceBound (P:=P) (w:=w) (k:=k2) (i:=c') (y:=c) (code:=code) (by omega)
 have b2:=fun (code:BoundsCode)=>run_sliceBound (P:=P) (w:=w) (k:=k) (i:=b) (y:=c'.toNat) (code:=code) (by omega)
 rcases bound_rel h hy with ⟨rfl,ey⟩|⟨k3,q3,rfl,ey⟩
 ·rw [ey]
  simp [Instr.sliceAt,Instr.slice,run_underlying hu,Instr.sliceBounds,b1,b2,sizeOf,typeInfo,hi']
 ·rw [ey]
  simp only [Option.getD_some] at hlo
  have b0:=fun (code:BoundsCode)=>run_sliceBound (P:=P) (w:=w) (k:=k3) (i:=q3) (y:=b.toNat) (code:=code) (by omega)
  simp [Instr.sliceAt,Instr.slice,run_underlying hu,Instr.sliceBounds,b0,b1,b2,sizeOf,typeInfo,hi']
theorem done_bounds (hT:TtOk P E.tt) (h:Sim C β σ (a.tmps::as) w) {t e:TypeId} {x m:Operand} {y z:Option Operand} {lo:Option Int} {b c':Int} (hop:o.op=.slice t x y z (some m)) (hk:(E.tt t).kind=.slice e) (hy:bound σ y=some lo) (hz:bound σ z=some (some b)) (hm:bound σ (some m)=some (some c'))
  (hA:boundsA (E.tt e).size (σ.eval x) lo b c' σ=some (bs,v,σ')) (hbs:∀ b∈bs,b=true):Done P C o a as w v σ':=by
 have hx:=h.eval x
 have hu:=hT.slice t e hk
 unfold boundsA at hA
 split at hA
 ·rename_i en hv
  split at hA
  ·rename_i te l hl
   cases hs:te.size==(E.tt e).size with
   |false=>rw [hs] at hA;cases hA
   |true =>
   rw [hs,cond_true] at hA
   have hs:te.size=(E.tt e).size:=by simpa using hs
   simp only [sI,Prod.mk.injEq] at hA
   obtain ⟨rfl,rfl,rfl⟩:=hA
   simp only [List.mem_cons,List.not_mem_nil,or_false,forall_eq_or_imp,forall_eq,dE] at hbs
   obtain ⟨h1,h2,h3⟩:=hbs
   rw [hv] at hx
   obtain ⟨t1,l1,hl1,hsl⟩:=V0.row hx hl
   have:=hl.symm.trans hl1
   injection this with this
   injection this with h4 h5
   subst h4
   have h5:=eq_of_heq h5
   subst h5
   obtain ⟨A,c,hxe,hc,_⟩:=hsl
   obtain ⟨i,z',hi',his,_⟩:=hT.info e (by rw [← hs];have:=te.size_pos;omega)
   obtain ⟨y',hr⟩:=run_bounds3 (P:=P) (A:=A) h hu hi' hy hz hm h1 h2 h3 hc
   refine .same (x:=y') h ?_ V3.undef
   simp only [execOp,hop,hxe,Option.map_some,Sem.run_bind,hr,Result.andThen_ok,Sem.run_pure]
  ·cases hA
 ·cases hA
theorem done_clip (hT:TtOk P E.tt) (h:Sim C β σ (a.tmps::as) w) {t e:TypeId} {x m:Operand} {y z:Option Operand} {lo:Option Int} {b c':Int} (hop:o.op=.slice t x y z (some m)) (hk:(E.tt t).kind=.slice e) (hy:bound σ y=some lo) (hz:bound σ z=some (some b)) (hm:bound σ (some m)=some (some c'))
  (hA:clipA (E.tt e).size (σ.eval x) lo b c' σ=some (bs,v,σ')) (hbs:∀ b∈bs,b=true):Done P C o a as w v σ':=by
 have hx:=h.eval x
 have hu:=hT.slice t e hk
 unfold clipA at hA
 split at hA
 ·rename_i hv
  rw [hv] at hx
  have hx:a.eval x=.slice none 0 0:=hx
  simp only [sI,Prod.mk.injEq] at hA
  obtain ⟨rfl,rfl,rfl⟩:=hA
  simp only [List.mem_cons,List.not_mem_nil,or_false,forall_eq_or_imp,forall_eq,dE] at hbs
  obtain ⟨h0,h1,h2,h3⟩:=hbs
  obtain ⟨i,z',hi,_⟩:=hT.info e (by
                      have h0:0<(E.tt e).size:=by simpa using h0
                      omega)
  rcases bound_rel h hz with ⟨hh,_⟩|⟨k,q,hh,ez⟩
  ·cases hh
  injection hh with hh
  subst hh
  rcases bound_rel h hm with ⟨hh,_⟩|⟨k2,q2,hh,em⟩
  ·cases hh
  injection hh with hh
  subst hh
  subst h2
  subst h3
  simp only [Option.map_some,sI] at em
  have b0:∀ (k:IntKind) (cap:Nat) (code:BoundsCode),(Instr.sliceBound (.int k 0) cap code).run P w=.ok 0 w:=fun k cap code=>run_sliceBound (P:=P) (w:=w) (by omega)
  have hr:(Instr.sliceAt t (.slice none 0 0) (y.map a.eval) (z.map a.eval) (some (a.eval m))).run P w=.ok (.slice none 0 0) w:=by
   rw [ez,em]
   rcases bound_rel h hy with ⟨rfl,ey⟩|⟨k3,q3,rfl,ey⟩
   ·rw [ey]
    simp [Instr.sliceAt,Instr.slice,run_underlying hu,Instr.sliceBounds,b0,sizeOf,typeInfo,hi]
   ·rw [ey]
    simp only [Option.getD_some] at h1
    subst h1
    simp [Instr.sliceAt,Instr.slice,run_underlying hu,Instr.sliceBounds,b0,sizeOf,typeInfo,hi]
  refine .same (x:=.slice none 0 0) h ?_ rfl
  simp only [execOp,hop,hx,Option.map_some,Sem.run_bind,hr,Result.andThen_ok,Sem.run_pure]
 ·rename_i en hv
  split at hA
  ·rename_i te l hl
   cases hs:te.size==(E.tt e).size with
   |false=>rw [hs] at hA;cases hA
   |true =>
   rw [hs,cond_true] at hA
   have hs:te.size=(E.tt e).size:=by simpa using hs
   simp only [sI,Prod.mk.injEq] at hA
   obtain ⟨rfl,rfl,rfl⟩:=hA
   simp only [List.mem_cons,List.not_mem_nil,or_false,forall_eq_or_imp,forall_eq,dE] at hbs
   obtain ⟨h1,h2,h3⟩:=hbs
   rw [hv] at hx
   obtain ⟨t1,l1,hl1,hsl⟩:=V0.row hx hl
   have:=hl.symm.trans hl1
   injection this with this
   injection this with h4 h5
   subst h4
   have h5:=eq_of_heq h5
   subst h5
   have hsl':=hsl
   obtain ⟨A,c,hxe,hc,_⟩:=hsl'
   rw [hxe] at hsl
   obtain ⟨i,z',hi',his,_⟩:=hT.info e (by rw [← hs];have:=te.size_pos;omega)
   have hr:=run_clip (P:=P) (A:=A) h hu hi' hy hz hm h1 h2 h3 hc
   refine .same h ?_ (V3.of0 (v:=.slw en) (.inl ⟨te,l,hl,hsl.clip⟩))
   simp only [execOp,hop,hxe,Option.map_some,Sem.run_bind,hr,Result.andThen_ok,Sem.run_pure]
  ·cases hA
 ·rename_i en oo n hv
  split at hA
  ·rename_i te l hl
   cases hs:te.size==(E.tt e).size with
   |false=>rw [hs] at hA;cases hA
   |true =>
   rw [hs,cond_true] at hA
   have hs:te.size=(E.tt e).size:=by simpa using hs
   simp only [sI,Prod.mk.injEq] at hA
   obtain ⟨rfl,rfl,rfl⟩:=hA
   simp only [List.mem_cons,List.not_mem_nil,or_false,forall_eq_or_imp,forall_eq,dE] at hbs
   obtain ⟨h1,h2,h3⟩:=hbs
   rw [hv] at hx
   have hx0:=hx
   obtain ⟨t1,l1,hl1,ho1,hsl,_⟩:=V0.part hx hl
   have:=hl.symm.trans hl1
   injection this with this
   injection this with h4 h5
   subst h4
   have h5:=eq_of_heq h5
   subst h5
   have hsl':=hsl
   obtain ⟨A,c,hxe,hc,_⟩:=hsl'
   obtain ⟨i,z',hi',his,_⟩:=hT.info e (by rw [← hs];have:=te.size_pos;omega)
   have hr:=run_clip (P:=P) (A:=A) h hu hi' hy hz hm h1 h2 h3 hc
   have hsim:Sim C β { fr:=[.sl en oo n],outs:=σ.fr::σ.outs,mem:=σ.mem } (#[a.eval x]::a.tmps::as) w:=by
    refine ⟨h.frm,⟨⟨by simp,fun q=>?_⟩,h.fr⟩,h.ent,h.inj,h.own⟩
    cases q with
    |zero=>exact hx0
    |succ q=>simp [List.getD_eq_getElem?_getD];exact V3.undef
   obtain ⟨β',hs'⟩:=hsim.reb hl ho1
   have hv':=hs'.fr.1.2 0
   have hv':V3 _ (rebV en oo n (.sl en oo n)) (a.eval x):=hv'
   simp only [rebV,beq_self_eq_true,Bool.and_true,cond_true] at hv'
   have lkr:look (updE (σ.map1 (rebV en oo n)).mem en (.row te ((l.drop oo).take n))) en=some (.row te ((l.drop oo).take n)):=by
    rw [look_updE]
    show (if en=en∧(look (σ.mem.map fun p=>(p.1,p.2.map1 (rebV en oo n))) en).isSome=true then _ else _)=_
    rw [look_map,hl]
    simp
   obtain ⟨t2,l2,hl2,hsl2⟩:=V0.row hv' lkr
   rw [hxe] at hsl2
   have hlen:l2.length=n:=by
    obtain ⟨A2,c2,e2,_⟩:=hsl2
    injection e2 with _ e2
    exact e2.symm
   rw [hlen] at hsl2
   have h2':Sim C β' (let σ:=σ.map1 (rebV en oo n);{ σ with mem:=updE σ.mem en (.row te ((l.drop oo).take n)) }) (a.tmps::as) w:=⟨hs'.frm,hs'.fr.2,hs'.ent,hs'.inj,hs'.own⟩
   refine ⟨_,w,β',.inl ?_,h2',V3.of0 (v:=.slw en) (.inl ⟨t2,l2,hl2,by rw [hlen];exact hsl2.clip⟩)⟩
   simp only [execOp,hop,hxe,Option.map_some,Sem.run_bind,hr,Result.andThen_ok,Sem.run_pure]
  ·cases hA
 ·cases hA
end
open Go.RowKit
section
variable {P:Program} {E:Env} {C:Frm} {β:Nat→Option Loc} {σ σ':St} {a:Act} {as:List (Array Value)} {w:World} {o:Oper} {nm:Nat} {ty:TypeId} {bs:List Bool} {v:V}
theorem field_of (hT:TtOk P E.tt) {s:TypeId} {fs:List (Nat×TypeId)} {f off:Nat} {ft:TypeId} (hk:(E.tt s).kind=.struct fs) (hf:fs[f]? = some (off,ft)) :
  ∃ (F:Array Field) (g:Field) (i:TypeInfo),P.underlying s=some (.struct F)∧F[f]? = some g∧g.offset=off∧g.type=ft∧P.info? ft=some i∧i.size=(E.tt ft).size:=by
 obtain ⟨F,hu,hF,hFi⟩:=hT.struct s fs hk
 rw [← hF,List.getElem?_map,Option.map_eq_some_iff] at hf
 obtain ⟨g,hg,hgg⟩:=hf
 simp only [Prod.mk.injEq] at hgg
 obtain ⟨rfl,rfl⟩:=hgg
 obtain ⟨i,hi,his⟩:=hFi g (List.mem_of_getElem? hg)
 exact ⟨F,g,i,hu,by simpa using hg,rfl,rfl,hi,his⟩
theorem run_fieldAt (hT:TtOk P E.tt) {s:TypeId} {fs:List (Nat×TypeId)} {f off:Nat} {ft:TypeId} (hk:(E.tt s).kind=.struct fs) (hf:fs[f]? = some (off,ft)) (hs:0<(E.tt ft).size) (ad:Addr) :
  (Instr.fieldAt s (.pointer (some ad)) f).run P w=.ok (.pointer (some (ad.add off))) w:=by
 obtain ⟨F,g,i,hu,hg,rfl,rfl,hi,his⟩:=field_of hT hk hf
 have:¬ (i.size=0):=by omega
 simp [Instr.fieldAt,run_underlying hu,hg,Instr.sureAddr,fieldPlace,sizeOf,typeInfo,hi,this]
theorem still_fieldAddr_ptr (hT:TtOk P E.tt) (h:Sim C β σ (a.tmps::as) w) {s:TypeId} {x:Operand} {fs:List (Nat×TypeId)} {f off:Nat} {ft:TypeId} {e i oo:Nat} {E1:Entry} (hop:o.op=.fieldAddr s x f) (hk:(E.tt s).kind=.struct fs) (hf:fs[f]? = some (off,ft)) (hs:0<(E.tt ft).size)
  (hv:σ.eval x=.ptr e i oo) (hl:look σ.mem e=some E1) (hfit:∀ t l,E1=.row t l→oo+off≤t.size) (hnn:∀ t ll k,E1 ≠ .nest t ll k):Still P C o a β σ w (.ptr e i (oo+off)):=by
 have hx:=h.eval x
 rw [hv] at hx
 obtain ⟨E2,L,hl2,hL,hx⟩:=hx
 have:=hl.symm.trans hl2
 injection this with this
 subst this
 have hadd:∀ b,(⟨L.g,b,none⟩:Addr).add off=⟨L.g,b+off,none⟩:=by
  intro b
  unfold Addr.add
  split
  ·rename_i h0;subst h0;rfl
  ·rfl
 cases E1 with
 |nest t ll k=>exact (hnn t ll k rfl).elim
 |row t l =>
  obtain ⟨h1,h2,hx⟩:=hx
  have hr:=fun w=>run_fieldAt (w:=w) hT hk hf hs ⟨L.g,L.base+i*t.size+oo,none⟩
  refine ⟨.pointer (some ((⟨L.g,L.base+i*t.size+oo,none⟩:Addr).add off)),fun w'=>(by simp only [execOp,hop,hx,Sem.run_bind,hr,Result.andThen_ok,Sem.run_pure]),(V3.of0 ⟨_,L,hl,hL,h1,hfit t l rfl,?_⟩)⟩
  rw [hadd,Nat.add_assoc]
 |box cs =>
  obtain ⟨h1,hx⟩:=hx
  have hr:=fun w=>run_fieldAt (w:=w) hT hk hf hs ⟨L.g,L.base+oo,none⟩
  refine ⟨.pointer (some ((⟨L.g,L.base+oo,none⟩:Addr).add off)),fun w'=>(by simp only [execOp,hop,hx,Sem.run_bind,hr,Result.andThen_ok,Sem.run_pure]),(V3.of0 ⟨_,L,hl,hL,h1,?_⟩)⟩
  rw [hadd,Nat.add_assoc]
theorem still_fieldAddr_rop (hT:TtOk P E.tt) (h:Sim C β σ (a.tmps::as) w) {s:TypeId} {x:Operand} {fs:List (Nat×TypeId)} {f off:Nat} {ft:TypeId} {cs:List V} (hop:o.op=.fieldAddr s x f) (hk:(E.tt s).kind=.struct fs) (hf:fs[f]? = some (off,ft)) (hs:0<(E.tt ft).size)
  (hv:σ.eval x=.rop cs):Still P C o a β σ w (.rop (cs.drop off)):=by
 have hx:=h.eval x
 rw [hv] at hx
 obtain ⟨ad,kd,hx,hb,hc⟩:=hx
 have hr:=fun w=>run_fieldAt (w:=w) hT hk hf hs ad
 refine ⟨.pointer (some (ad.add off)),fun w'=>(by simp only [execOp,hop,hx,Sem.run_bind,hr,Result.andThen_ok,Sem.run_pure]),(V3.of0 ⟨_,_,rfl,by rw [Addr.add_block];exact hb,fun j v hj=>?_⟩)⟩
 rw [List.getElem?_drop] at hj
 rw [Addr.add_add]
 exact hc _ v hj
theorem run_isAgg (hT:TtOk P E.tt) {t:TypeId} (hs:(E.tt t).size ≠ 0):(isAgg t).run P w=.ok (E.tt t).agg w:=by
 obtain ⟨d,hu,hd⟩:=hT.agg t hs
 simp only [isAgg,Sem.run_bind,run_underlying hu,Result.andThen_ok,hd]
 cases d <;> rfl
theorem done_field (hT:TtOk P E.tt) (h:Sim C β σ (a.tmps::as) w) {t:TypeId} {x:Operand} {fs:List (Nat×TypeId)} {f off:Nat} {ft:TypeId} {cs:List V} (hop:o.op=.field t x f) (hk:(E.tt t).kind=.struct fs) (hf:fs[f]? = some (off,ft)) (hs:0<(E.tt ft).size)
  (hv:σ.eval x=.agg cs) (hfit:off+(E.tt ft).size≤cs.length):Done P C o a as w (asV (E.tt ft).agg ((cs.drop off).take (E.tt ft).size)) σ:=by
 have hx:=h.eval x
 rw [hv] at hx
 obtain ⟨ys,hx,ha⟩:=hx
 obtain ⟨F,g,i,hu,hg,rfl,rfl,hi,his⟩:=field_of hT hk hf
 have hl:=ha.length
 simp only [Array.length_toList] at hl
 have hall:All2 (V1 (cx C β σ w)) ((cs.drop g.offset).take (E.tt g.type).size) (ys.extract g.offset (g.offset+(E.tt g.type).size)).toList:=by
  have:=(ha.drop g.offset).take (E.tt g.type).size
  rw [Array.toList_extract,List.extract_eq_take_drop]
  rw [show g.offset+(E.tt g.type).size - g.offset=(E.tt g.type).size from by omega]
  exact this
 have hag:=run_isAgg (w:=w) hT (t:=g.type) (by omega)
 have h3:=V3_asV (g:=(E.tt g.type).agg) hall fun hg1=>by
  have:=hT.one g.type (by omega) hg1
  simp;omega
 refine .same h ?_ h3
 cases hga:(E.tt g.type).agg with
 |true =>
  rw [hga] at hag
  simp [execOp,hop,hx,Instr.field,run_underlying hu,hg,asAgg,part,hag,sizeOf,typeInfo,hi,his]
 |false =>
  rw [hga] at hag
  have h1:=hT.one g.type (by omega) hga
  rw [h1] at hfit ⊢
  have hlt:g.offset<ys.size:=by omega
  have e1:ys[g.offset]? = some ys[g.offset]:=Array.getElem?_eq_getElem hlt
  have e2:(ys.extract g.offset (g.offset+1)).toList.headD undef=ys[g.offset]:=by
   rw [Array.toList_extract,List.extract_eq_take_drop,Nat.add_sub_cancel_left]
   have:ys.toList.drop g.offset=ys[g.offset]::ys.toList.drop (g.offset+1):=by
    rw [List.drop_eq_getElem_cons (by simpa using hlt)]
    simp
   rw [this];rfl
  simp only [Bool.false_eq_true,if_false,e2]
  simp [execOp,hop,hx,Instr.field,run_underlying hu,hg,asAgg,part,hag,e1]
theorem run_indexSl (hT:TtOk P E.tt) {t e:TypeId} {ad:Addr} {len c:Nat} {k:IntKind} {n:Int} (hk:(E.tt t).kind=.slice e) (hs:(E.tt e).size ≠ 0) (hn:0≤n∧n<len) :
  (Instr.indexAt t (.slice (some ad) len c) (.int k n)).run P w=.ok (.pointer (some (ad.add (n.toNat*(E.tt e).size)))) w:=by
 have hu:=hT.slice t e hk
 obtain ⟨i,z,hi,his,_⟩:=hT.info e hs
 simp [Instr.indexAt,asIntOf,run_underlying hu,hn,sizeOf,typeInfo,hi,his]
theorem run_indexArr (hT:TtOk P E.tt) {t e:TypeId} {ad:Addr} {len:Nat} {k:IntKind} {n:Int} (hk:(E.tt t).kind=.array len e) (hs:(E.tt e).size ≠ 0) (hn:0≤n∧n<len) :
  (Instr.indexAt t (.pointer (some ad)) (.int k n)).run P w=.ok (.pointer (some (ad.add (n.toNat*(E.tt e).size)))) w:=by
 have hu:=hT.array t len e hk
 obtain ⟨i,z,hi,his,_⟩:=hT.info e hs
 simp [Instr.indexAt,asIntOf,run_underlying hu,Instr.sureAddr,hn,sizeOf,typeInfo,hi,his]
theorem rd_get {t:Ty} {l:List t.den} {n:Int} (hn:0≤n∧n<l.length):l[n.toNat]? = some (rd t l n):=by
 have hlt:n.toNat<l.length:=by omega
 rw [gE hlt]
 simp [rd,List.getD_eq_getElem?_getD,hlt]
theorem still_indexAddr_ro (hT:TtOk P E.tt) (h:Sim C β σ (a.tmps::as) w) {t e:TypeId} {x ix:Operand} {te:Ty} {l:List te.den} {k:IntKind} {n:Int} (hop:o.op=.indexAddr t x ix) (hk:(E.tt t).kind=.slice e) (hv:σ.eval x=.ro te l) (hi:σ.eval ix=.int k n) (hs:te.size=(E.tt e).size) (hn:0≤n∧n<l.length) :
  Still P C o a β σ w (.rop (enc te (rd te l n))):=by
 have hx:=h.eval x
 rw [hv] at hx
 have hix:=h.eval ix
 rw [hi] at hix
 have hix:a.eval ix=.int k n:=hix
 obtain ⟨A,c,hxe,hc,hel⟩:=(show DRel (Free C σ.mem β w) w (.list te) l [a.eval x] from hx)
 injection hxe with hxe
 obtain ⟨ad,zs,rfl,hb,hz,hcell⟩:=hel n.toNat _ (rd_get hn)
 have hr:=fun w=>run_indexSl (P:=P) (w:=w) (c:=c) (ad:=ad) (k:=k) hT hk (by have:=te.size_pos;omega) hn
 refine ⟨.pointer (some (ad.add (n.toNat*(E.tt e).size))),fun w'=>(by simp only [execOp,hop,hxe,hix,Sem.run_bind,hr,Result.andThen_ok,Sem.run_pure]),(V3.of0 ⟨_,_,rfl,by rw [Addr.add_block];exact hb,fun j v hj=>?_⟩)⟩
 obtain ⟨y,hy,h0⟩:=(DRel.enc (S:=cx C β σ w) hz).get hj
 exact ⟨y,by rw [Addr.add_add,← hs];exact hcell j y hy,h0⟩
theorem still_indexAddr_own (hT:TtOk P E.tt) (h:Sim C β σ (a.tmps::as) w) {t e:TypeId} {x ix:Operand} {te:Ty} {l:List te.den} {k:IntKind} {n:Int} {en off len:Nat} (hop:o.op=.indexAddr t x ix) (hk:(E.tt t).kind=.slice e) (hl:look σ.mem en=some (.row te l)) (ho:off+len≤l.length) (hsl:SlAt (β en) te.size off len (a.eval x)) (hi:σ.eval ix=.int k n) (hs:te.size=(E.tt e).size) (hn:0≤n∧n<len) :
  Still P C o a β σ w (.ptr en (off+n.toNat) 0):=by
 have hix:=h.eval ix
 rw [hi] at hix
 have hix:a.eval ix=.int k n:=hix
 obtain ⟨A,c,hxe,hc,hcase⟩:=hsl
 rcases hcase with h0|⟨L,hL,rfl,hfit⟩
 ·omega
 have hr:=fun w=>run_indexSl (P:=P) (w:=w) (c:=c) (ad:=⟨L.g,L.base+off*te.size,none⟩) (k:=k) hT hk (by have:=te.size_pos;omega) hn
 refine ⟨.pointer (some ((⟨L.g,L.base+off*te.size,none⟩:Addr).add (n.toNat*(E.tt e).size))),fun w'=>(by simp only [execOp,hop,hxe,hix,Sem.run_bind,hr,Result.andThen_ok,Sem.run_pure]),(V3.of0 ⟨_,L,hl,hL,by omega,Nat.zero_le _,?_⟩)⟩
 rw [← hs]
 unfold Addr.add
 split
 ·rename_i hz;simp only [Value.pointer.injEq,sI,Addr.mk.injEq,true_and,and_true];rw [Nat.add_mul,hz];omega
 ·simp only [Value.pointer.injEq,sI,Addr.mk.injEq,true_and,and_true];rw [Nat.add_mul];omega
theorem still_indexAddr_arr (hT:TtOk P E.tt) (h:Sim C β σ (a.tmps::as) w) {t e:TypeId} {x ix:Operand} {k:IntKind} {n:Int} {en i oo len:Nat} {E1:Entry} (hop:o.op=.indexAddr t x ix) (hk:(E.tt t).kind=.array len e) (hs:0<(E.tt e).size) (hv:σ.eval x=.ptr en i oo) (hl:look σ.mem en=some E1) (hi:σ.eval ix=.int k n) (hn:0≤n∧n<len)
  (hfit:∀ t l,E1=.row t l→oo+len*(E.tt e).size≤t.size) (hnn:∀ t ll k,E1 ≠ .nest t ll k):Still P C o a β σ w (.ptr en i (oo+n.toNat*(E.tt e).size)):=by
 have hix:=h.eval ix
 rw [hi] at hix
 have hix:a.eval ix=.int k n:=hix
 have hx:=h.eval x
 rw [hv] at hx
 obtain ⟨E2,L,hl2,hL,hx⟩:=hx
 have:=hl.symm.trans hl2
 injection this with this
 subst this
 have hadd:∀ b m,(⟨L.g,b,none⟩:Addr).add m=⟨L.g,b+m,none⟩:=by
  intro b m
  unfold Addr.add
  split
  ·rename_i h0;subst h0;rfl
  ·rfl
 cases E1 with
 |nest t ll k=>exact (hnn t ll k rfl).elim
 |row t0 l0 =>
  obtain ⟨h1,h2,hx⟩:=hx
  have hr:=fun w=>run_indexArr (P:=P) (w:=w) (ad:=⟨L.g,L.base+i*t0.size+oo,none⟩) (k:=k) hT hk (by omega) hn
  refine ⟨.pointer (some ((⟨L.g,L.base+i*t0.size+oo,none⟩:Addr).add (n.toNat*(E.tt e).size))),fun w'=>(by simp only [execOp,hop,hx,hix,Sem.run_bind,hr,Result.andThen_ok,Sem.run_pure]),(V3.of0 ⟨_,L,hl,hL,h1,?_,?_⟩)⟩
  ·have:=hfit t0 l0 rfl
   have h3:=Nat.mul_le_mul_right (E.tt e).size (show n.toNat≤len by omega)
   omega
  ·rw [hadd,Nat.add_assoc]
 |box cs =>
  obtain ⟨h1,hx⟩:=hx
  have hr:=fun w=>run_indexArr (P:=P) (w:=w) (ad:=⟨L.g,L.base+oo,none⟩) (k:=k) hT hk (by omega) hn
  refine ⟨.pointer (some ((⟨L.g,L.base+oo,none⟩:Addr).add (n.toNat*(E.tt e).size))),fun w'=>(by simp only [execOp,hop,hx,hix,Sem.run_bind,hr,Result.andThen_ok,Sem.run_pure]),(V3.of0 ⟨_,L,hl,hL,h1,?_⟩)⟩
  rw [hadd,Nat.add_assoc]
theorem done_index (hT:TtOk P E.tt) (h:Sim C β σ (a.tmps::as) w) {t:TypeId} {x ix:Operand} {s:ByteArray} {k:IntKind} {n:Int} (hop:o.op=.index t x ix) (hk:(E.tt t).kind=.str) (hv:σ.eval x=.str s) (hi:σ.eval ix=.int k n) (hn:0≤n∧n<s.size) :
  Done P C o a as w (.int .u8 (byteAt s n)) σ:=by
 have hx:=h.eval x
 rw [hv] at hx
 have hx:a.eval x=.string s:=hx
 have hix:=h.eval ix
 rw [hi] at hix
 have hix:a.eval ix=.int k n:=hix
 have hu:=hT.str t hk
 refine .same (x:=.int .u8 (byteAt s n)) h ?_ rfl
 have hlt:n.toNat<s.size:=by omega
 have hlt':n.toNat<s.data.size:=hlt
 have hb:s[n.toNat]? = some s[n.toNat]:=by simp [hlt]
 have hb2:byteAt s n=((s[n.toNat]).toNat:Int):=by
  show ((s.data.toList.getD n.toNat 0).toNat:Int)=((s.data[n.toNat]).toNat:Int)
  rw [List.getD_eq_getElem?_getD,Array.getElem?_toList,Array.getElem?_eq_getElem hlt'];rfl
 simp [execOp,hop,hx,hix,Instr.index,asIntOf,run_underlying hu,hn.1,hb,hb2]
theorem intsOf_rel (h:Sim C β σ (a.tmps::as) w):∀ {os:List Operand} {k:IntKind} {ns:List Int},intsOf σ os=some (k,ns)→os.map a.eval=ns.map fun n=>.int k n
 | [],k,ns,hi=>by simp [intsOf] at hi
 | [x],k,ns,hi=>by
  have hx:=h.eval x
  simp only [intsOf] at hi
  split at hi
  ·rename_i k' n hv
   rw [hv] at hx
   have hx:a.eval x=.int k' n:=hx
   simp only [sI,Prod.mk.injEq] at hi
   obtain ⟨rfl,rfl⟩:=hi
   simp [hx]
  ·cases hi
 |x::y::os,k,ns,hi=>by
  have hx:=h.eval x
  simp only [intsOf] at hi
  split at hi
  ·rename_i k1 n k2 ns' hv hrest
   rw [hv] at hx
   have hx:a.eval x=.int k1 n:=hx
   have ih:=intsOf_rel h hrest
   split at hi
   ·rename_i hkk
    subst hkk
    simp only [sI,Prod.mk.injEq] at hi
    obtain ⟨rfl,rfl⟩:=hi
    simp only [List.map_cons,hx] at ih ⊢
    rw [ih]
   ·cases hi
  ·cases hi
theorem run_mins (k:IntKind):∀ (ns:List Int) (n:Int),((ns.map fun n=>Value.int k n).foldlM Builtin.min2 (.int k n)).run P w=.ok (.int k (ns.foldl min2I n)) w
 | [],n=>by simp
 |m::ns,n=>by
  have:(if m<n then m else n)=min2I n m:=by unfold min2I;by_cases h:m<n <;> simp [h]
  simp only [List.map_cons,List.foldlM_cons,Builtin.min2,Sem.run_bind,Sem.run_pure,Result.andThen_ok,List.foldl_cons,this,run_mins k ns]
theorem run_maxs (k:IntKind):∀ (ns:List Int) (n:Int),((ns.map fun n=>Value.int k n).foldlM Builtin.max2 (.int k n)).run P w=.ok (.int k (ns.foldl max2I n)) w
 | [],n=>by simp
 |m::ns,n=>by
  have:(if m>n then m else n)=max2I n m:=by unfold max2I;by_cases h:m>n <;> simp [h]
  simp only [List.map_cons,List.foldlM_cons,Builtin.max2,Sem.run_bind,Sem.run_pure,Result.andThen_ok,List.foldl_cons,this,run_maxs k ns]
theorem done_min (h:Sim C β σ (a.tmps::as) w) {c:Call} {k:IntKind} {n:Int} {ns:List Int} (hop:o.op=.call c) (hc:c.callee=.builtin .min) (hi:intsOf σ c.args.toList=some (k,n::ns)):Done P C o a as w (.int k (ns.foldl min2I n)) σ:=by
 have h1:=intsOf_rel h hi
 refine .same (x:=.int k (ns.foldl min2I n)) h ?_ rfl
 have h2:(c.args.map a.eval).toList=(n::ns).map fun n=>.int k n:=by rw [Array.toList_map];exact h1
 simp only [execOp,hop,resolve,hc,Sem.run_bind,Sem.run_pure,Result.andThen_ok,invoke,builtin,Builtin.min_,h2,List.map_cons,run_mins]
theorem done_max (h:Sim C β σ (a.tmps::as) w) {c:Call} {k:IntKind} {n:Int} {ns:List Int} (hop:o.op=.call c) (hc:c.callee=.builtin .max) (hi:intsOf σ c.args.toList=some (k,n::ns)):Done P C o a as w (.int k (ns.foldl max2I n)) σ:=by
 have h1:=intsOf_rel h hi
 refine .same (x:=.int k (ns.foldl max2I n)) h ?_ rfl
 have h2:(c.args.map a.eval).toList=(n::ns).map fun n=>.int k n:=by rw [Array.toList_map];exact h1
 simp only [execOp,hop,resolve,hc,Sem.run_bind,Sem.run_pure,Result.andThen_ok,invoke,builtin,Builtin.max_,h2,List.map_cons,run_maxs]
def wideAt (E1:Entry) (en i:Nat):V:=match E1 with
 |.nest _ _ _=>.ptr en i 0
 |_=>.ptr en 0 i
theorem still_indexAddr_wide (hT:TtOk P E.tt) (h:Sim C β σ (a.tmps::as) w) {t e:TypeId} {x ix:Operand} {E1:Entry} {m:Nat} {k:IntKind} {n:Int} {en:Nat} (hop:o.op=.indexAddr t x ix) (hk:(E.tt t).kind=.slice e) (hl:look σ.mem en=some E1) (hw:E1.wide=some m) (hv:σ.eval x=.slw en) (hi:σ.eval ix=.int k n) (hs:(E.tt e).size=1) (hn:0≤n∧n<m) :
  Still P C o a β σ w (wideAt E1 en n.toNat):=by
 have hix:=h.eval ix
 rw [hi] at hix
 have hix:a.eval ix=.int k n:=hix
 have hx:=h.eval x
 rw [hv] at hx
 rcases hx with ⟨t',l',hl',_⟩|⟨E2,m2,hl',hw2,A,c,hxe,hc,hcase⟩
 ·have hl':=hl.symm.trans hl'
  injection hl' with hl'
  subst hl'
  cases hw
 have hl':=hl.symm.trans hl'
 injection hl' with hl'
 subst hl'
 rw [hw] at hw2
 injection hw2 with hw2
 subst hw2
 rcases hcase with h0|⟨L,hL,rfl,hfit⟩
 ·omega
 have hr:=fun w=>run_indexSl (P:=P) (w:=w) (c:=c) (ad:=⟨L.g,L.base+0*1,none⟩) (k:=k) hT hk (by omega) hn
 have hadd:(⟨L.g,L.base+0*1,none⟩:Addr).add (n.toNat*(E.tt e).size)=⟨L.g,L.base+n.toNat,none⟩:=by
  rw [hs]
  unfold Addr.add
  split
  ·rename_i hz;simp only [Addr.mk.injEq,true_and,and_true];omega
  ·simp only [Addr.mk.injEq,true_and,and_true];omega
 rw [hadd] at hr
 refine ⟨.pointer (some ⟨L.g,L.base+n.toNat,none⟩),fun w'=>(by simp only [execOp,hop,hxe,hix,Sem.run_bind,hr,Result.andThen_ok,Sem.run_pure]),?_⟩
 cases E1 with
 |row _ _=>cases hw
 |box cs=>exact V3.of0 ⟨_,L,hl,hL,rfl,rfl⟩
 |nest t ll k =>
  injection hw with hw
  exact V3.of0 ⟨_,L,hl,hL,by omega,rfl,rfl⟩
theorem done_buildPtrs (hT:TtOk P E.tt) (h:Sim C β σ (a.tmps::as) w) {t e:TypeId} {len:Nat} {ps:Array (Nat×Operand)} {cs:List V} (hop:o.op=.buildSlice t len ps) (hk:(E.tt t).kind=.slice e)
  (hc:fillC (fun i=>some (i*(E.tt e).size,(E.tt e).size)) (ps.toList.map fun p=>(p.1,σ.eval p.2)) (zerosL (E.tt e).zero (len*(E.tt e).size))=some cs)
  (hs1:(E.tt e).size=1) (hlen:cs.length=len) (hkn:known cs=true) (hn:len*(E.tt e).size≤16777216) (h0:0<len) (hz0:0<(E.tt e).zero.length):Done P C o a as w (.slw nm) (σ.new nm (.box (cs.map (V.mapC (killV nm))))):=by
 have hu:=hT.slice t e hk
 obtain ⟨i,z,hi,his,_,hz,hzz⟩:=hT.info e (by omega)
 have hzl:=hzz.length
 have hzs:0<z.cells.size:=by
  rw [hzl] at hz0
  simpa using hz0
 have hzr:=zeros_rel (S:=cx C β σ w) hzz (len*(E.tt e).size) hzs
 obtain ⟨ys,h1,h2⟩:=fill_rel (S:=cx C β σ w) _ _ _ _ _ (parts_rel h ps.toList) hzr hc
 have hyl:ys.size=len:=by
  have:=h2.length
  rw [hlen] at this
  simpa using this.symm
 have hq:(ps.map fun p=>(p.1,a.eval p.2)).toList=ps.toList.map fun p=>(p.1,a.eval p.2):=Array.toList_map
 have hn':¬ (len*i.size>2 ^ 24):=by rw [his];omega
 have hr:(execOp a.eval o).run P w=.ok (.value (.slice (some ⟨w.heap.size,0,none⟩) len len)) (w.alloc (.cells ys e)):=by
  simp only [execOp,hop,Instr.buildSlice,Sem.run_bind,run_underlying hu,Result.andThen_ok,run_sizeOf' hi]
  rw [if_neg hn',if_neg (by rw [his,hs1];omega)]
  simp only [Sem.run_bind,run_zeroValue hi hz,Sem.run_pure,Result.andThen_ok]
  have h6:Instr.fill (fun i_1=>some (i_1*i.size,i.size)) ((Array.range (len*i.size)).map (fun x=>z.cells[x % z.cells.size]!)) (ps.map fun p=>(p.1,a.eval p.2)).toList=some ys:=by
   rw [hq,his];exact h1
  rw [h6]
  simp only [newRow,Sem.run_bind,run_newObj,Result.andThen_ok,Sem.run_pure,World.alloc_eq]
 have h3:All2 (fun v y=>V1 (cx C β (σ.clear nm) w) v y∧One y) (cs.map (V.mapC (killV nm))) ys.toList:=h2.map _ fun v y hv=>⟨V1.clear nm hv.1,hv.2⟩
 obtain ⟨h4,hk4⟩:=h.new nm (.box (cs.map (V.mapC (killV nm)))) ys e (fun S' hS hw hβ=>by
  refine ⟨_,ys,e,hβ,by rw [hw];exact heap_alloc_new w _,rfl,fun j v hj=>?_⟩
  obtain ⟨y,hy,hv,ho⟩:=h3.get hj
  exact ⟨y,by simpa using hy,hv.keeps hS,ho⟩)
 refine ⟨_,_,_,.inl hr,h4,V3.of0 (.inr ⟨.box (cs.map (V.mapC (killV nm))),len,by simp [St.new,look_cons],by simp [Entry.wide,hlen],_,len,rfl,Nat.le_refl _,.inr ⟨⟨w.heap.size,0,ys.size,noI⟩,by simp [setβ],by simp,?_⟩⟩)⟩
 show 0+(0+len)*1≤ys.size
 omega
theorem done_makeNest (hT:TtOk P E.tt) (h:Sim C β σ (a.tmps::as) w) {t e:TypeId} {x y:Operand} {te:Ty} {n m:Int} (hop:o.op=.makeSlice t x y) (hk:(E.tt t).kind=.slice e) (hty:(E.tt e).ty=some (.list te)) (hnz:isNilZ (E.tt e).zero=true) (hx:σ.eval x=.int .i64 n) (hy:σ.eval y=.int .i64 m)
  (h0:0≤n∧n≤m) (h1:0<(E.tt e).bytes∧m*(E.tt e).bytes≤140737488355328):Done P C o a as w (.slw nm) (σ.new nm (.nest te (List.replicate n.toNat []) none)):=by
 have hex:=h.eval x
 have hey:=h.eval y
 rw [hx] at hex
 rw [hy] at hey
 have hex:a.eval x=.int .i64 n:=hex
 have hey:a.eval y=.int .i64 m:=hey
 have hu:=hT.slice t e hk
 obtain ⟨hsz,hts,_,hdf⟩:=hT.ty e _ hty
 obtain ⟨i,z,hi,his,hib,hz,hzz⟩:=hT.info e hsz
 have hisz:i.size=1:=by rw [his,← hts];rfl
 obtain ⟨hbp,hbb⟩:=h1
 have hm47:m≤140737488355328:=by
  have:m*1≤m*((E.tt e).bytes:Int):=Int.mul_le_mul_of_nonneg_left (by omega) (by omega)
  omega
 have hzn:z.cells=#[.slice none 0 0]:=by
  cases hZ:(E.tt e).zero with
  |nil=>rw [hZ] at hnz;cases hnz
  |cons v vs =>
   rw [hZ] at hnz hzz
   cases vs with
   |cons _ _=>simp [isNilZ] at hnz
   |nil =>
    cases v <;> simp only [isNilZ,Bool.false_eq_true] at hnz
    cases hc:z.cells.toList with
    |nil=>rw [hc] at hzz;exact hzz.elim
    |cons y ys =>
     rw [hc] at hzz
     cases ys with
     |cons _ _=>exact hzz.2.elim
     |nil =>
      have:=hzz.1.1 (cx C β σ w)
      have:y=.slice none 0 0:=this
      rw [← Array.toList_inj,hc,this]
 have hr:=run_make (P:=P) w t e i z hu hi hz .i64 .i64 n m h0.1 h0.2 (by rw [hib,Int.mul_comm];omega) (by omega)
 have hr':(execOp a.eval o).run P w=.ok (.value (.slice (some ⟨w.heap.size,0,none⟩) n.toNat m.toNat)) (w.alloc (.cells (madeCells z.cells (m.toNat*i.size)) e)):=by
  simp only [execOp,hop,hex,hey,Sem.run_bind,hr,Result.andThen_ok,Sem.run_pure]
 have hms:(madeCells z.cells (m.toNat*i.size)).size=m.toNat:=by rw [size_madeCells,hisz,Nat.mul_one]
 obtain ⟨h4,_⟩:=h.new nm (.nest te (List.replicate n.toNat []) none) (madeCells z.cells (m.toNat*i.size)) e (fun S' hS hw hβ=>by
  refine ⟨_,_,e,hβ,by rw [hw];exact heap_alloc_new w _,rfl,?_,fun i p hp=>by simp [noI] at hp,fun i i' p p' hp=>by simp [noI] at hp,fun j l hj _=>?_⟩
  ·show 0+(List.replicate n.toNat ([]:List te.den)).length≤(madeCells z.cells (m.toNat*i.size)).size
   rw [hms,List.length_replicate]
   omega
  ·have hjl:j<n.toNat:=by
    have:=(List.getElem?_eq_some_iff.1 hj).1
    simpa using this
   have hl:l=[]:=by
    rw [List.getElem?_replicate,if_pos hjl] at hj
    injection hj with hj
    exact hj.symm
   subst hl
   refine ⟨.inl ⟨rfl,rfl⟩,.slice none 0 0,?_,none,0,rfl,Nat.le_refl _,.inl rfl⟩
   show (madeCells z.cells (m.toNat*i.size))[0+j]? = _
   have hlt:j<m.toNat*i.size:=by rw [hisz];omega
   rw [Nat.zero_add,madeCells,Array.getElem?_map,Array.getElem?_range,if_pos hlt,hzn]
   simp [Nat.mod_one])
 refine ⟨_,_,_,.inl hr',h4,V3.of0 (.inr ⟨.nest te (List.replicate n.toNat []) none,n.toNat,by simp [St.new,look_cons],by simp [Entry.wide],_,m.toNat,rfl,by omega,.inr ⟨⟨w.heap.size,0,_,noI⟩,by simp [setβ];rfl,by simp,?_⟩⟩)⟩
 show 0+(0+m.toNat)*1≤(madeCells z.cells (m.toNat*i.size)).size
 omega
theorem cond_some' {α:Type} {b:Bool} {x:Option α} {y:α} (h:(bif b then x else none)=some y):b=true∧x=some y:=by
 cases b
 ·cases h
 ·exact ⟨rfl,h⟩
theorem done_give (hT:TtOk P E.tt) (h:Sim C β σ (a.tmps::as) w) {t:TypeId} {x y:Operand} {b:Bool} (hop:o.op=.store t x y) (hg:giveN σ (σ.eval x) (E.tt t).size (σ.eval y)=some (b,σ')) (hb:b=true):Done P C o a as w .undef σ':=by
 have hxv:=h.eval x
 have hyv:=h.eval y
 unfold giveN at hg
 split at hg
 rotate_left
 ·cases hg
 rename_i e i oo hx
 split at hg
 rotate_left
 ·cases hg
 rename_i te ll j hl
 split at hg
 rotate_left
 ·cases hg
 rename_i en hy
 split at hg
 rotate_left
 ·cases hg
 rename_i t' l' hln
 split at hg
 rotate_left
 ·cases hg
 rename_i htt
 subst htt
 obtain ⟨hs,hg⟩:=cond_some' hg
 simp only [sI,Prod.mk.injEq] at hg
 obtain ⟨rfl,rfl⟩:=hg
 have hji:j=i:=by simpa using hb
 subst hji
 have hs:(E.tt t).size=1:=by simpa using hs
 rw [hx] at hxv
 rw [hy] at hyv
 obtain ⟨E1,L,hl1,hL,hxx⟩:=hxv
 have hl1:=hl.symm.trans hl1
 injection hl1 with hl1
 subst hl1
 obtain ⟨hi,rfl,hxx⟩:=hxx
 have hL:β e=some L:=hL
 have hee:en ≠ e:=by rintro rfl;rw [hl] at hln;cases hln
 obtain ⟨t1,l1,hl1,hsl⟩:=V0.row hyv hln
 have hl1:=hln.symm.trans hl1
 injection hl1 with hl1
 injection hl1 with q1 q2
 subst q1
 have q2:=eq_of_heq q2
 subst q2
 have hsl:SlAt (β en) t'.size 0 l'.length (a.eval y):=hsl
 obtain ⟨L',cs,el,h1,h2,h3,h4,h5,h6,h7⟩:=h.ent e _ hl
 have h1:=hL.symm.trans h1
 injection h1 with h1
 subst h1
 have h2:w.heap[L.g]? = some (.cells cs el (0,0)):=h2
 have hyc:(a.eval y).cells=#[a.eval y]∧One (a.eval y):=by
  obtain ⟨A,c,hye,_⟩:=hsl
  rw [hye]
  exact ⟨rfl,rfl⟩
 have hfit:L.base+j+(a.eval y).cells.size≤cs.size:=by rw [hyc.1,h3];simp;omega
 have hr:=run_storeAt' (P:=P) (t:=t) hT (by omega) (by rw [hyc.1,hs];rfl) h2 hfit (by rw [hyc.1];intro z hz;simp at hz;subst hz;exact hyc.2)
 refine ⟨undef,w.setRow L.g (cs.toList.take (L.base+j)++(a.eval y).cells.toList++cs.toList.drop (L.base+j+(a.eval y).cells.toList.length)).toArray,setβ β e (some (L.into j ((β en).map fun Ln=>(Ln.g,Ln.base,Ln.cells)))),.inr ⟨?_,rfl⟩,?_,V3.undef⟩
 ·simp only [execOp,hop,hxx,Sem.run_bind,hr,Result.andThen_ok,Sem.run_pure]
 have hnew:∀ q,q ≠ j→∀ z,cs[L.base+q]? = some z→(cs.toList.take (L.base+j)++(a.eval y).cells.toList++cs.toList.drop (L.base+j+(a.eval y).cells.toList.length)).toArray[L.base+q]? = some z:=by
  intro q hq z hz
  rw [List.getElem?_toArray,splice_get cs.toList (a.eval y).cells.toList (L.base+j) (by simpa using hfit)]
  rw [hyc.1]
  simp only [List.length_cons,List.length_nil]
  by_cases h8:L.base+q<L.base+j
  ·rw [if_pos h8];simpa using hz
  ·rw [if_neg h8,if_neg (by omega)];simpa using hz
 have hnew2:(cs.toList.take (L.base+j)++(a.eval y).cells.toList++cs.toList.drop (L.base+j+(a.eval y).cells.toList.length)).toArray[L.base+j]? = some (a.eval y):=by
  rw [List.getElem?_toArray,splice_get cs.toList (a.eval y).cells.toList (L.base+j) (by simpa using hfit)]
  rw [hyc.1]
  simp
 have hsize:(cs.toList.take (L.base+j)++(a.eval y).cells.toList++cs.toList.drop (L.base+j+(a.eval y).cells.toList.length)).toArray.size=cs.size:=by
  rw [hyc.1] at hfit ⊢
  simp only [List.size_toArray,lA,List.length_take,List.length_drop,Array.length_toList,List.length_cons,List.length_nil]
  simp at hfit
  omega
 generalize (cs.toList.take (L.base+j)++(a.eval y).cells.toList++cs.toList.drop (L.base+j+(a.eval y).cells.toList.length)).toArray=cs' at hnew hnew2 hsize ⊢
 have hblk:∀ g,g ≠ L.g→(w.setRow L.g cs').heap[g]? = w.heap[g]? := fun g hg=>setRow_other w L.g g _ hg
 have hown:Own σ.mem β L.g:=⟨e,L,by rw [hl];rfl,hL,L.has_g⟩
 have hne:∀ g,Free C σ.mem β w g→g.2 ≠ L.g:=by
  intro g hf hg
  exact hf.2 (.inl (by rw [hg];exact hown))
 generalize hm':(St.kill { σ with mem:=updE σ.mem e (.nest t' (ll.set j l') none) } en).mem=m'
 generalize hβ':setβ β e (some (L.into j ((β en).map fun Ln=>(Ln.g,Ln.base,Ln.cells))))=β'
 have hst:St.kill { σ with mem:=updE σ.mem e (.nest t' (ll.set j l') none) } en={ fr:=σ.fr.map (V.map1 (killV en)),outs:=σ.outs.map (List.map (V.map1 (killV en))),mem:=m' }:=by rw [← hm'];rfl
 rw [hst]
 have lk:∀ e',look m' e'=if e'=en then none else if e'=e then some (.nest t' (ll.set j l') none) else (look σ.mem e').map (Entry.map1 (killV en)):=by
  intro e'
  rw [← hm',look_kill]
  by_cases k1:e'=en
  ·simp [k1]
  ·rw [if_neg k1,if_neg k1]
   show (look (updE σ.mem e _) e').map _=_
   rw [look_updE,hl]
   by_cases k2:e'=e
   ·subst k2;simp [Entry.map1]
   ·simp [k2,Ne.symm k2]
 have b1:β' e=some (L.into j ((β en).map fun Ln=>(Ln.g,Ln.base,Ln.cells))):=by rw [← hβ'];simp [setβ]
 have b2:∀ e',e' ≠ e→β' e'=β e':=fun e' hh=>by rw [← hβ'];simp [setβ,hh]
 have hLinto:∀ g,(L.into j ((β en).map fun Ln=>(Ln.g,Ln.base,Ln.cells))).has g→L.has g∨∃ Ln,β en=some Ln∧Ln.g=g:=by
  rintro g (k1|⟨i,p,k1,k2⟩)
  ·exact .inl (.inl k1)
  ·simp only [Loc.into] at k1
   by_cases hij:i=j
   ·rw [if_pos hij] at k1
    cases hbn:β en with
    |none=>rw [hbn] at k1;cases k1
    |some Ln =>
     rw [hbn] at k1
     simp only [Option.map_some,sI] at k1
     subst k1
     exact .inr ⟨Ln,rfl,k2⟩
   ·rw [if_neg hij] at k1
    exact .inl (.inr ⟨i,p,k1,k2⟩)
 have hold:∀ e' L1 g,(look m' e').isSome=true→β' e'=some L1→L1.has g→∃ e1 L2,(look σ.mem e1).isSome=true∧β e1=some L2∧L2.has g∧(e1=e'∨e'=e∧e1=en):=by
  intro e' L1 g k1 k2 k3
  by_cases q2:e'=e
  ·subst q2
   rw [b1] at k2
   injection k2 with k2
   subst k2
   rcases hLinto g k3 with k3|⟨Ln,k4,k5⟩
   ·exact ⟨e',L,by rw [hl];rfl,hL,k3,.inl rfl⟩
   ·exact ⟨en,Ln,by rw [hln];rfl,k4,.inl k5,.inr ⟨rfl,rfl⟩⟩
  ·rw [b2 e' q2] at k2
   rw [lk] at k1
   by_cases q1:e'=en
   ·simp [q1] at k1
   ·rw [if_neg q1,if_neg q2] at k1
    exact ⟨e',L1,by simpa using k1,k2,k3,.inl rfl⟩
 have hF:∀ gg,Free C σ.mem β w gg→Free C m' β' (w.setRow L.g cs') gg:=by
  rintro gg hgg
  refine ⟨by simpa using hgg.1,fun hoh=>hgg.2 ?_⟩
  rcases hoh with ⟨e',L1,k3,k4,k5⟩|k
  ·obtain ⟨e1,L2,k6,k7,k8,_⟩:=hold e' L1 _ k3 k4 k5
   exact .inl ⟨e1,L2,k6,k7,k8⟩
  ·exact .inr (k.imp id (Frzd.same (hblk _ (hne gg hgg))))
 have key:∀ v x,V0 (cx C β σ w) v x→V0 ⟨m',β',Free C m' β' (w.setRow L.g cs'),w.setRow L.g cs'⟩ (killV en v) x:=by
  intro v x hv
  by_cases hr:refOf v=some en
  ·rw [killV_self hr];exact trivial
  rw [killV_other hr]
  by_cases hr2:refOf v=some e
  ·cases v <;> simp only [refOf,sI,reduceCtorEq] at hr2 <;> rw [hr2] at hv ⊢
   ·rcases hv with ⟨t',l',hl',_⟩|⟨E',n,hl',hw,hs⟩
    ·have hl':=hl.symm.trans hl';cases hl'
    ·have hl':=hl.symm.trans hl'
     injection hl' with hl'
     subst hl'
     refine .inr ⟨.nest t' (ll.set j l') none,n,by rw [lk,if_neg hee.symm,if_pos rfl],?_,?_⟩
     ·injection hw with hw
      show some (ll.set j l').length=_
      rw [List.length_set,hw]
     have hs:SlAt (β e) 1 0 n x:=hs
     rw [hL] at hs
     show SlAt (β' e) 1 0 n x
     rw [b1]
     exact hs.loc rfl rfl rfl
   ·rcases hv with ⟨t',l',hl',_⟩|⟨t2,ll2,k2,l2,L2,hl',hk',hL',hll,hn,hs⟩
    ·have hl':=hl.symm.trans hl';cases hl'
    have hl':=hl.symm.trans hl'
    injection hl' with hl'
    injection hl' with q1 q2 q3
    subst q1
    have q2:=eq_of_heq q2
    subst q2
    subst q3
    have hL':=hL.symm.trans hL'
    injection hL' with hL'
    subst hL'
    have hoj:¬ _=j:=fun hh=>hk' (congrArg some hh).symm
    refine .inr ⟨t',ll.set j l',none,l2,_,by rw [lk,if_neg hee.symm,if_pos rfl],by simp,b1,?_,hn,?_⟩
    ·rw [List.getElem?_set_ne (Ne.symm hoj)];exact hll
    ·rw [Loc.into_inner hoj];exact hs
   ·obtain ⟨E',L1,hl',hL',hx⟩:=hv
    have hl':=hl.symm.trans hl'
    injection hl' with hl'
    subst hl'
    have hL':=hL.symm.trans hL'
    injection hL' with hL'
    subst hL'
    obtain ⟨k1,k2,k3⟩:=hx
    exact ⟨.nest t' (ll.set j l') none,_,by rw [lk,if_neg hee.symm,if_pos rfl],b1,by rw [List.length_set];exact k1,k2,k3⟩
  ·refine V0.other (S:=cx C β σ w) (S':=⟨m',β',Free C m' β' (w.setRow L.g cs'),w.setRow L.g cs'⟩) (g:=killV en) hF (fun g hg=>hblk _ (hne g hg)) hv fun e' he'=>?_
   have q1:e' ≠ e:=fun hh=>hr2 (by rw [he',hh])
   have q2:e' ≠ en:=fun hh=>hr (by rw [he',hh])
   exact ⟨by rw [lk,if_neg q2,if_neg q1],b2 e' q1⟩
 have hinn:∀ i p,i ≠ j→(L.into j ((β en).map fun Ln=>(Ln.g,Ln.base,Ln.cells))).inn i=some p→L.inn i=some p:=by
  intro i p hij hp
  simp only [Loc.into] at hp
  rwa [if_neg hij] at hp
 have hinj2:∀ p,(L.into j ((β en).map fun Ln=>(Ln.g,Ln.base,Ln.cells))).inn j=some p→∃ Ln,β en=some Ln∧p=(Ln.g,Ln.base,Ln.cells):=by
  intro p hp
  simp only [Loc.into,if_true] at hp
  cases hbn:β en with
  |none=>rw [hbn] at hp;cases hp
  |some Ln =>
   rw [hbn] at hp
   injection hp with hp
   exact ⟨Ln,rfl,hp.symm⟩
 have hen:∀ Ln,β en=some Ln→∀ g,L.has g→Ln.g ≠ g:=by
  intro Ln k1 g k2 k3
  exact hee (h.inj en e Ln L g (by rw [hln];rfl) (by rw [hl];rfl) k1 hL (.inl k3) k2)
 refine ⟨?_,?_,?_,?_,?_⟩
 ·refine ⟨h.frm.os,h.frm.tape,h.frm.output,by simpa using h.frm.size,fun g k1 k2=>?_⟩
  rw [hblk g ?_]
  ·exact h.frm.block g k1 k2
  ·rintro rfl
   rcases (h.own e L _ (by rw [hl];rfl) hL L.has_g).2 with k3|k3
   ·omega
   ·exact k2 k3
 ·have:=h.fr.map (List.map (V.map1 (killV en))) (Q:=FrRel ⟨m',β',Free C m' β' (w.setRow L.g cs'),w.setRow L.g cs'⟩) fun fr tmps hr=>hr.map key rfl
  simpa using this
 ·intro e' E' hE
  have hE:look m' e'=some E':=hE
  rw [lk] at hE
  by_cases q1:e'=en
  ·simp [q1] at hE
  rw [if_neg q1] at hE
  by_cases q2:e'=e
  ·subst q2
   rw [if_pos rfl] at hE
   injection hE with hE
   subst hE
   refine ⟨_,cs',el,b1,setRow_heap w L.g cs _ el (0,0) h2,by rw [hsize];exact h3,by rw [List.length_set];exact h4,fun i p hp=>?_,fun i i' p p' hp hp' hq=>?_,fun i l2 hi2 _=>?_⟩
   ·by_cases hij:i=j
    ·subst hij
     obtain ⟨Ln,k1,rfl⟩:=hinj2 p hp
     exact ⟨hen Ln k1 _ L.has_g,by simp,by rw [List.length_set];exact hi⟩
    ·obtain ⟨k1,_,k3⟩:=h5 i p (hinn i p hij hp)
     exact ⟨k1,by simp,by rw [List.length_set];exact k3⟩
   ·by_cases hij:i=j
    ·by_cases hij':i'=j
     ·rw [hij,hij']
     ·subst hij
      obtain ⟨Ln,k1,rfl⟩:=hinj2 p hp
      exact (hen Ln k1 p'.1 (.inr ⟨i',p',hinn i' p' hij' hp',rfl⟩) hq).elim
    ·by_cases hij':i'=j
     ·subst hij'
      obtain ⟨Ln,k1,rfl⟩:=hinj2 p' hp'
      exact (hen Ln k1 p.1 (.inr ⟨i,p,hinn i p hij hp,rfl⟩) hq.symm).elim
     ·exact h6 i i' p p' (hinn i p hij hp) (hinn i' p' hij' hp') hq
   ·by_cases hij:i=j
    ·subst hij
     rw [List.getElem?_set_self hi] at hi2
     injection hi2 with hi2
     subst hi2
     have hin:(L.into i ((β en).map fun Ln=>(Ln.g,Ln.base,Ln.cells))).inner i=(β en).map fun Ln=>⟨Ln.g,Ln.base,Ln.cells,noI⟩:=by
      simp only [Loc.inner,Loc.into,if_true]
      cases β en <;> rfl
     rw [hin]
     refine ⟨?_,a.eval y,hnew2,?_⟩
     ·rcases h.ent en _ hln with ⟨k1,k2⟩|⟨Ln,cs2,el2,k1,k2,k3,k4,k5⟩
      ·have k2:β en=none:=k2
       exact .inl ⟨k1,by rw [k2];rfl⟩
      ·have k1:β en=some Ln:=k1
       have k2:w.heap[Ln.g]? = _:=k2
       refine .inr ⟨⟨Ln.g,Ln.base,Ln.cells,noI⟩,cs2,el2,by rw [k1];rfl,?_,k3,k4,fun q x hx=>?_⟩
       ·show (w.setRow L.g cs').heap[Ln.g]? = _
        rw [hblk _ (hen Ln k1 _ L.has_g)];exact k2
       ·obtain ⟨zs,k6,k7⟩:=k5 q x hx
        exact ⟨zs,k6.mono hF (fun g hg=>hblk _ (hne g hg)),k7⟩
     ·cases hbn:β en with
      |none=>rw [hbn] at hsl;exact hsl
      |some Ln =>
       rw [hbn] at hsl
       exact hsl.loc rfl rfl rfl
    ·rw [List.getElem?_set_ne (Ne.symm hij)] at hi2
     obtain ⟨k1,z,k2,k3⟩:=h7 i l2 hi2 (by simpa using fun hh=>hij hh.symm)
     rw [Loc.into_inner hij]
     refine ⟨k1.mono (S:=cx C β σ w) (S':=⟨m',β',Free C m' β' (w.setRow L.g cs'),w.setRow L.g cs'⟩) hF (fun g hg=>hblk _ (hne g hg)) (fun L2 g hL2 hg=>hblk g ?_),z,hnew i hij z k2,k3⟩
     obtain ⟨p,k4,k5⟩:=Loc.inner_has hL2 hg
     rw [← k5]
     exact (h5 i p k4).1
  ·rw [if_neg q2] at hE
   cases hl':look σ.mem e' with
   |none=>simp [hl'] at hE
   |some E1 =>
    simp only [hl',Option.map_some,sI] at hE
    subst hE
    refine (h.ent e' E1 hl').map (S:=cx C β σ w) (S':=⟨m',β',Free C m' β' (w.setRow L.g cs'),w.setRow L.g cs'⟩) (e:=e') key hF (fun g hg=>hblk _ (hne g hg)) (fun L2 g hL2 hg=>hblk g fun hh=>q2 ?_) (b2 e' q2)
    exact h.inj e' e L2 L g (by rw [hl'];rfl) (by rw [hl];rfl) hL2 hL hg (.inl hh.symm)
 ·intro e1 e2 L1 L2 g k1 k2 k3 k4 k5 k6
  obtain ⟨o1,M1,r1,r2,r3,r4⟩:=hold e1 L1 g k1 k3 k5
  obtain ⟨o2,M2,s1,s2,s3,s4⟩:=hold e2 L2 g k2 k4 k6
  have hoo:=h.inj o1 o2 M1 M2 g r1 s1 r2 s2 r3 s3
  have no:∀ e',(look m' e').isSome=true→e' ≠ en:=by
   rintro e' k rfl
   rw [lk,if_pos rfl] at k
   cases k
  rcases r4 with r4|⟨r4,r5⟩ <;> rcases s4 with s4|⟨s4,s5⟩
  ·rw [← r4,← s4,hoo]
  ·exact (no e1 k1 (by rw [← r4,hoo,s5])).elim
  ·exact (no e2 k2 (by rw [← s4,← hoo,r5])).elim
  ·rw [r4,s4]
 ·intro e1 L1 g k1 k2 k3
  obtain ⟨o1,M1,r1,r2,r3,r4⟩:=hold e1 L1 g k1 k2 k3
  have:=h.own o1 M1 g r1 r2 r3
  exact ⟨by simpa using this.1,this.2⟩
end
open Go.RowKit
section
variable {P:Program} {E:Env} {C:Frm} {β:Nat→Option Loc} {σ σ':St} {a:Act} {as:List (Array Value)} {w:World} {o:Oper} {nm:Nat} {ty:TypeId} {bs:List Bool} {v:V}
theorem V3.plain0 {S:Cx} {v:V} {x:Value} (h:V3 S v x) (hp:plain v=true):V0 S v x:=by
 cases v <;> simp only [plain,Bool.false_eq_true] at hp <;> exact h
theorem cond_some {α:Type} {b:Bool} {x:Option α} {y:α} (h:(bif b then x else none)=some y):b=true∧x=some y:=by
 cases b
 ·cases h
 ·exact ⟨rfl,h⟩
def isStill:Op→Bool
 |.nilCheck _|.fieldAddr _ _ _|.indexAddr _ _ _=>true
 |_=>false
theorem op1_still (hT:TtOk P E.tt) (h:Sim C β σ (a.tmps::as) w) (hA:op1 E nm o.type o.op σ=some (bs,v,σ')) (hbs:∀ b∈bs,b=true) (hs:isStill o.op=true):σ'=σ∧Still P C o a β σ w v:=by
 cases hop:o.op <;> rw [hop] at hA hs <;> simp only [isStill,Bool.false_eq_true] at hs
 all_goals simp only [op1] at hA
 case nilCheck x =>
  split at hA <;> simp only [pureA,sI,Prod.mk.injEq,reduceCtorEq] at hA
  ·rename_i hx
   obtain ⟨rfl,rfl,rfl⟩:=hA
   rw [← hx]
   refine ⟨rfl,?_⟩;exact still_nilCheck h hop (.inl ⟨_,_,_,hx⟩)
  ·rename_i hx
   obtain ⟨rfl,rfl,rfl⟩:=hA
   rw [← hx]
   refine ⟨rfl,?_⟩;exact still_nilCheck h hop (.inr (.inl ⟨_,hx⟩))
  ·rename_i hx
   obtain ⟨rfl,rfl,rfl⟩:=hA
   rw [← hx]
   refine ⟨rfl,?_⟩;exact still_nilCheck h hop (.inr (.inr ⟨_,_,hx⟩))
 case fieldAddr s x f =>
  split at hA
  ·rename_i hk hx
   split at hA
   rotate_left
   ·cases hA
   rename_i off ft hf
   obtain ⟨hs,hA⟩:=cond_some hA
   split at hA
   ·rename_i t l hl
    obtain ⟨hs2,hA⟩:=cond_some hA
    simp only [pureA,sI,Prod.mk.injEq] at hA
    obtain ⟨rfl,rfl,rfl⟩:=hA
    refine ⟨rfl,?_⟩;refine still_fieldAddr_ptr hT h hop hk hf (by simpa using hs) hx hl (fun t' l' he=>?_) (fun _ _ _ he=>by cases he)
    injection he with h1 h2
    subst h1
    simpa using hs2
   ·rename_i cs hl
    simp only [pureA,sI,Prod.mk.injEq] at hA
    obtain ⟨rfl,rfl,rfl⟩:=hA
    refine ⟨rfl,?_⟩;exact still_fieldAddr_ptr hT h hop hk hf (by simpa using hs) hx hl (fun t' l' he=>by cases he) (fun _ _ _ he=>by cases he)
   ·cases hA
  ·rename_i hk hx
   split at hA
   rotate_left
   ·cases hA
   rename_i off ft hf
   obtain ⟨hs,hA⟩:=cond_some hA
   simp only [pureA,sI,Prod.mk.injEq] at hA
   obtain ⟨rfl,rfl,rfl⟩:=hA
   refine ⟨rfl,?_⟩;exact still_fieldAddr_rop hT h hop hk hf (by simpa using hs) hx
  ·cases hA
 case indexAddr t x ix =>
  split at hA
  ·rename_i e k n hk hi
   split at hA
   ·rename_i te l hx
    obtain ⟨hs,hA⟩:=cond_some hA
    simp only [sI,Prod.mk.injEq] at hA
    obtain ⟨rfl,rfl,rfl⟩:=hA
    refine ⟨rfl,?_⟩;refine still_indexAddr_ro hT h hop hk hx hi (by simpa using hs) ?_
    have:=hbs _ (List.mem_cons_self ..)
    simpa using this
   ·rename_i en hx
    split at hA
    ·rename_i te l hl
     obtain ⟨hs,hA⟩:=cond_some hA
     simp only [sI,Prod.mk.injEq] at hA
     obtain ⟨rfl,rfl,rfl⟩:=hA
     have hex:=h.eval x
     rw [hx] at hex
     obtain ⟨t1,l1,hl1,hsl⟩:=V0.row hex hl
     have:=hl.symm.trans hl1
     injection this with this
     injection this with h1 h2
     subst h1
     have h2:=eq_of_heq h2
     subst h2
     have:=still_indexAddr_own (off:=0) (len:=l.length) (n:=n) hT h hop hk hl (by omega) hsl hi (by simpa using hs) (by
      have:=hbs _ (List.mem_cons_self ..)
      simpa using this)
     rw [Nat.zero_add] at this
     exact ⟨rfl,this⟩
    ·rename_i cs hl
     obtain ⟨hs,hA⟩:=cond_some hA
     simp only [sI,Prod.mk.injEq] at hA
     obtain ⟨rfl,rfl,rfl⟩:=hA
     refine ⟨rfl,?_⟩;exact still_indexAddr_wide hT h hop hk hl rfl hx hi (by simpa using hs) (by
      have:=hbs _ (List.mem_cons_self ..)
      simpa using this)
    ·rename_i t' ll k' hl
     obtain ⟨hs,hA⟩:=cond_some hA
     simp only [sI,Prod.mk.injEq] at hA
     obtain ⟨rfl,rfl,rfl⟩:=hA
     refine ⟨rfl,?_⟩;exact still_indexAddr_wide hT h hop hk hl rfl hx hi (by simpa using hs) (by
      have:=hbs _ (List.mem_cons_self ..)
      simpa using this)
    ·cases hA
   ·rename_i en oo len hx
    split at hA
    ·rename_i te l hl
     obtain ⟨hs,hA⟩:=cond_some hA
     simp only [sI,Prod.mk.injEq] at hA
     obtain ⟨rfl,rfl,rfl⟩:=hA
     have hex:=h.eval x
     rw [hx] at hex
     obtain ⟨t1,l1,hl1,ho,hsl⟩:=V0.part hex hl
     have:=hl.symm.trans hl1
     injection this with this
     injection this with h1 h2
     subst h1
     have h2:=eq_of_heq h2
     subst h2
     refine ⟨rfl,?_⟩;exact still_indexAddr_own hT h hop hk hl ho hsl.1 hi (by simpa using hs) (by
      have:=hbs _ (List.mem_cons_self ..)
      simpa using this)
    ·cases hA
   ·cases hA
  ·rename_i len e k n hk hi
   split at hA
   rotate_left
   ·cases hA
   rename_i en i oo hx
   obtain ⟨hs,hA⟩:=cond_some hA
   split at hA
   ·rename_i te l hl
    obtain ⟨hs2,hA⟩:=cond_some hA
    simp only [sI,Prod.mk.injEq] at hA
    obtain ⟨rfl,rfl,rfl⟩:=hA
    refine ⟨rfl,?_⟩;refine still_indexAddr_arr hT h hop hk (by simpa using hs) hx hl hi ?_ (fun t' l' he=>?_) (fun _ _ _ he=>by cases he)
    ·have:=hbs _ (List.mem_cons_self ..)
     simpa using this
    ·injection he with h1 h2
     subst h1
     simpa using hs2
   ·rename_i cs hl
    simp only [sI,Prod.mk.injEq] at hA
    obtain ⟨rfl,rfl,rfl⟩:=hA
    refine ⟨rfl,?_⟩;refine still_indexAddr_arr hT h hop hk (by simpa using hs) hx hl hi ?_ (fun t' l' he=>by cases he) (fun _ _ _ he=>by cases he)
    have:=hbs _ (List.mem_cons_self ..)
    simpa using this
   ·cases hA
  ·cases hA
theorem op1_sound (hT:TtOk P E.tt) (h:Sim C β σ (a.tmps::as) w) (hA:op1 E nm o.type o.op σ=some (bs,v,σ')) (hbs:∀ b∈bs,b=true):Done P C o a as w v σ':=by
 cases hop:o.op <;> rw [hop] at hA
 case makeFunc f fst caps =>
  cases f with
  |func f =>
   simp only [op1] at hA
   split at hA
   rotate_left
   ·cases hA
   rename_i hf
   obtain ⟨hs,hA⟩:=cond_some hA
   simp only [pureA,sI,Prod.mk.injEq] at hA
   obtain ⟨rfl,rfl,rfl⟩:=hA
   refine done_makeFunc h hop hf fun x hx=>?_
   refine (h.eval x).plain0 ?_
   rw [List.all_eq_true] at hs
   exact hs _ (List.mem_map_of_mem hx)
  |_=>simp only [op1,reduceCtorEq] at hA
 all_goals simp only [op1,reduceCtorEq] at hA
 case move x =>
  simp only [pureA,sI,Prod.mk.injEq] at hA
  obtain ⟨rfl,rfl,rfl⟩:=hA
  exact done_move h (.inl hop)
 case assign x =>
  split at hA
  ·rename_i hx
   split at hA
   ·split at hA
    ·simp only [pureA,sI,Prod.mk.injEq] at hA
     obtain ⟨rfl,rfl,rfl⟩:=hA
     exact done_nil h hop hx _
    ·simp only [pureA,sI,Prod.mk.injEq] at hA
     obtain ⟨rfl,rfl,rfl⟩:=hA
     rw [← hx]
     exact done_move h (.inr hop)
   ·simp only [pureA,sI,Prod.mk.injEq] at hA
    obtain ⟨rfl,rfl,rfl⟩:=hA
    rw [← hx]
    exact done_move h (.inr hop)
  ·simp only [pureA,sI,Prod.mk.injEq] at hA
   obtain ⟨rfl,rfl,rfl⟩:=hA
   exact done_move h (.inr hop)
 case pick c x y =>
  split at hA
  ·rename_i b hc
   simp only [pureA,sI,Prod.mk.injEq] at hA
   obtain ⟨rfl,rfl,rfl⟩:=hA
   exact done_pick h hop hc
  ·cases hA
 case alloc t =>
  obtain ⟨hs,hA⟩:=cond_some hA
  simp only [pureA,sI,Prod.mk.injEq] at hA
  obtain ⟨rfl,rfl,rfl⟩:=hA
  exact done_alloc hT h hop (by
                 have:0<(E.tt t).size:=by simpa using hs
                 omega)
 case box t x =>
  obtain ⟨hs,hA⟩:=cond_some hA
  simp only [pureA,sI,Prod.mk.injEq] at hA
  obtain ⟨rfl,rfl,rfl⟩:=hA
  exact done_opBox h hop hs
 case build t ps =>
  split at hA
  ·rename_i fs hk
   obtain ⟨hs,hA⟩:=cond_some hA
   split at hA
   ·rename_i cs hc
    simp only [pureA,sI,Prod.mk.injEq] at hA
    obtain ⟨rfl,rfl,rfl⟩:=hA
    exact done_build hT h hop hk (by
                     have:0<(E.tt t).size:=by simpa using hs
                     omega) hc
   ·cases hA
  ·cases hA
 case buildSlice t len ps =>
  split at hA
  ·rename_i e hk
   split at hA
   ·rename_i te hty
    split at hA
    ·rename_i cs hc
     split at hA
     ·rename_i l hd
      obtain ⟨hs,hA⟩:=cond_some hA
      simp only [pureA,sI,Prod.mk.injEq] at hA
      obtain ⟨rfl,rfl,rfl⟩:=hA
      exact done_buildSlice hT h hop hk hty hc hd (by simpa using hs)
     ·cases hA
    ·cases hA
   ·split at hA
    ·rename_i cs hc
     obtain ⟨hs,hA⟩:=cond_some hA
     simp only [pureA,sI,Prod.mk.injEq] at hA
     obtain ⟨rfl,rfl,rfl⟩:=hA
     simp only [bA,beq_iff_eq,Nat.ble_eq,Nat.blt_eq] at hs
     obtain ⟨s1,s2,s3,s4,s5,s6⟩:=hs
     exact done_buildPtrs hT h hop hk hc s1 s2 s3 s4 s5 s6
    ·cases hA
  ·cases hA
 case load t x =>
  split at hA
  ·rename_i cs hc
   simp only [pureA,sI,Prod.mk.injEq] at hA
   obtain ⟨rfl,rfl,rfl⟩:=hA
   exact done_load hT h hop hc
  ·cases hA
 case store t x y =>
  split at hA
  ·rename_i cs hc
   simp only [pureA,sI,Prod.mk.injEq] at hA
   obtain ⟨rfl,rfl,rfl⟩:=hA
   exact done_store hT h hop hc
  ·split at hA
   ·rename_i b σ1 hg
    simp only [sI,Prod.mk.injEq] at hA
    obtain ⟨rfl,rfl,rfl⟩:=hA
    exact done_give hT h hop hg (hbs _ (List.mem_cons_self ..))
   ·cases hA
 case nilCheck x =>
  have hA:op1 E nm o.type o.op σ=some (bs,v,σ'):=by rw [hop];simpa only [op1] using hA
  obtain ⟨rfl,hs⟩:=op1_still hT h hA hbs (by rw [hop];rfl)
  exact hs.done h
 case binOp=>exact done_binOp hT h hop hA hbs
 case unOp op t x =>
  split at hA <;> simp only [pureA,sI,Prod.mk.injEq,reduceCtorEq] at hA
  ·rename_i hx
   obtain ⟨rfl,rfl,rfl⟩:=hA
   exact (done_unOp h hop).1 _ rfl hx
  ·rename_i hx
   obtain ⟨rfl,rfl,rfl⟩:=hA
   exact (done_unOp h hop).2 _ _ rfl hx
 case convert s d x =>
  split at hA
  ·rename_i hs hd hx
   simp only [pureA,sI,Prod.mk.injEq] at hA
   obtain ⟨rfl,rfl,rfl⟩:=hA
   exact done_convert hT h hop hd ⟨_,hT.int s _ hs⟩ hx
  ·cases hA
 case makeSlice t x y =>
  split at hA
  ·rename_i hk hx hy
   split at hA
   ·rename_i te hty
    simp only [sI,Prod.mk.injEq] at hA
    obtain ⟨rfl,rfl,rfl⟩:=hA
    have k1:=hbs _ (List.mem_cons_self ..)
    have k2:=hbs _ (List.mem_cons_of_mem _ (List.mem_cons_self ..))
    simp only [dE] at k1 k2
    split
    ·rename_i t'
     cases hd:((E.dirs 0 nm).isEmpty || !isNilZ (E.tt _).zero) with
     |true=>exact done_makeSlice hT h hop hk hty hx hy k1 k2
     |false =>
      simp only [Bool.or_eq_false_iff,Bool.not_eq_false'] at hd
      exact done_makeNest hT h hop hk hty hd.2 hx hy k1 k2
    ·exact done_makeSlice hT h hop hk hty hx hy k1 k2
   ·cases hA
  ·cases hA
 case slice t x lo hi mx =>
  split at hA
  ·rename_i hk hlo hhi
   exact done_slice hT h hop hk hlo hhi hA hbs
  ·rename_i hk hlo hhi
   split at hA
   ·rename_i s hx
    exact done_sliceStr hT h hop hk hlo hhi hx hA hbs
   ·cases hA
  ·rename_i hk hlo hhi
   split at hA
   ·rename_i c hm
    cases hd0:(E.dirs 0 nm).isEmpty with
    |true=>rw [hd0,cond_true] at hA;exact done_clip hT h hop hk hlo hhi hm hA hbs
    |false=>rw [hd0,cond_false] at hA;exact done_bounds hT h hop hk hlo hhi hm hA hbs
   ·cases hA
  ·rename_i hk hlo hhi
   split at hA
   ·rename_i te c hty hm
    obtain ⟨hc,hA⟩:=cond_some hA
    simp only [pureA,sI,Prod.mk.injEq] at hA
    obtain ⟨rfl,rfl,rfl⟩:=hA
    simp only [bA,beq_iff_eq] at hc
    obtain ⟨h1,h2,h3,h4⟩:=hc
    subst h3
    subst h4
    exact done_slice0 hT h hop hk hty hlo hhi hm h1 h2
   ·cases hA
  ·cases hA
 case fieldAddr s x f =>
  have hA:op1 E nm o.type o.op σ=some (bs,v,σ'):=by rw [hop];simpa only [op1] using hA
  obtain ⟨rfl,hs⟩:=op1_still hT h hA hbs (by rw [hop];rfl)
  exact hs.done h
 case field t x f =>
  split at hA
  ·rename_i hk hx
   split at hA
   rotate_left
   ·cases hA
   rename_i off ft hf
   obtain ⟨hs,hA⟩:=cond_some hA
   simp only [pureA,sI,Prod.mk.injEq] at hA
   obtain ⟨rfl,rfl,rfl⟩:=hA
   simp only [bA,Nat.ble_eq,Nat.blt_eq] at hs
   exact done_field hT h hop hk hf hs.2 hx hs.1
  ·cases hA
 case indexAddr t x ix =>
  have hA:op1 E nm o.type o.op σ=some (bs,v,σ'):=by rw [hop];simpa only [op1] using hA
  obtain ⟨rfl,hs⟩:=op1_still hT h hA hbs (by rw [hop];rfl)
  exact hs.done h
 case index t x ix =>
  split at hA
  ·rename_i hk hx hi
   simp only [sI,Prod.mk.injEq] at hA
   obtain ⟨rfl,rfl,rfl⟩:=hA
   refine done_index hT h hop hk hx hi ?_
   have:=hbs _ (List.mem_cons_self ..)
   simpa using this
  ·cases hA
 case extract x i =>
  split at hA
  ·rename_i vs hx
   split at hA
   ·rename_i u hu
    simp only [pureA,sI,Prod.mk.injEq] at hA
    obtain ⟨rfl,rfl,rfl⟩:=hA
    exact done_extract h hop hx hu
   ·cases hA
  ·cases hA
 case call c =>
  split at hA
  ·rename_i hc
   split at hA
   rotate_left
   ·cases hA
   rename_i t x ht hargs
   split at hA
   ·rename_i e n hk hl
    split at hA
    ·cases hA
    ·rename_i hns
     simp only [pureA,sI,Prod.mk.injEq] at hA
     obtain ⟨rfl,rfl,rfl⟩:=hA
     exact done_len hT h hop hc ht hargs hl (.inl ⟨e,hk,fun s hs=>hns s hs⟩)
   ·rename_i n hk hl
    split at hA
    ·rename_i s hs
     simp only [pureA,sI,Prod.mk.injEq] at hA
     obtain ⟨rfl,rfl,rfl⟩:=hA
     exact done_len hT h hop hc ht hargs hl (.inr ⟨hk,s,hs⟩)
    ·cases hA
   ·cases hA
  ·rename_i hc
   split at hA
   rotate_left
   ·cases hA
   rename_i t t2 s x ht hargs
   split at hA
   ·rename_i e2 hk2
    exact done_append hT h hop hc ht hargs hk2 hA hbs
   ·cases hA
  ·rename_i hc
   split at hA
   rotate_left
   ·cases hA
   rename_i t t2 s x ht hargs
   exact done_copy hT h hop hc ht hargs hA hbs
  ·rename_i hc
   split at hA
   rotate_left
   ·cases hA
   rename_i t x ht hargs
   exact done_clear hT h hop hc ht hargs hA
  ·rename_i hc
   split at hA
   ·rename_i k n ns hi
    simp only [pureA,sI,Prod.mk.injEq] at hA
    obtain ⟨rfl,rfl,rfl⟩:=hA
    exact done_min h hop hc hi
   ·cases hA
  ·rename_i hc
   split at hA
   ·rename_i k n ns hi
    simp only [pureA,sI,Prod.mk.injEq] at hA
    obtain ⟨rfl,rfl,rfl⟩:=hA
    exact done_max h hop hc hi
   ·cases hA
  ·cases hA
end
open Go.RowKit
def Good (C:Frm) (as:List (Array Value)) {R:Type} (K:Kl R) (r:R):Exit→Act→World→Prop:=fun e a w=>a.defers=[]∧∃ β σ,Sim C β σ (a.tmps::as) w∧K e σ=some r
def HOk (P:Program) (C:Frm) {R:Type} (H:Handler R) (r:R):Prop:=∀ (as:List (Array Value)) (β:Nat→Option Loc) (σ:St) (tmps:Array Value) (w:World) (g:FuncId) (nm:Nat) (vs:List V) (xs:Array Value) (K:V→St→Option R),
 Sim C β σ (tmps::as) w→All2 (V3 (cx C β σ w)) vs xs.toList→H g nm vs σ K=some r →
 (callFunc g xs).run P w=.ok (.enter g xs) w∧Calls P g xs w fun e w'=>∃ x,e=.returned x∧∃ β' σ' v,Sim C β' σ' (tmps::as) w'∧V3 (cx C β' σ' w') v x∧K v σ'=some r
theorem chk_some {R:Type} {b:Bool} {x:Option R} {r:R} (h:chk b x=some r):b=true∧x=some r:=by
 cases b
 ·cases h
 ·exact ⟨rfl,h⟩
theorem chks_some {R:Type} {bs:List Bool} {x:Option R} {r:R} (h:chks bs x=some r):(∀ b∈bs,b=true)∧x=some r:=by
 induction bs with
 |nil=>exact ⟨by simp,h⟩
 |cons b bs ih =>
  obtain ⟨h1,h2⟩:=chk_some h
  obtain ⟨h3,h4⟩:=ih h2
  exact ⟨fun c hc=>by rcases List.mem_cons.1 hc with rfl|hc;exact h1;exact h3 c hc,h4⟩
section
variable {P:Program} {E:Env} {C:Frm} {β:Nat→Option Loc} {σ σ':St} {a:Act} {as:List (Array Value)} {w:World} {o:Oper} {R:Type} {r:R}
theorem Sim.put (h:Sim C β σ (a.tmps::as) w) (d:Option Nat) {v:V} {x:Value} (hv:V3 (cx C β σ w) v x):Sim C β (σ.put d v) ((a.put d x).tmps::as) w:=by
 cases d with
 |none=>exact h
 |some t=>exact h.set t hv
theorem put_defers {d:Option Nat} {x:Value}:(a.put d x).defers=a.defers:=by cases d <;> rfl
theorem both_some {x y:Option R} (h:both x y=some r):x=some r∧y=some r:=by
 unfold both at h
 split at h
 ·rename_i e;exact ⟨h,by rw [← e];exact h⟩
 ·cases h
theorem run_nilCmp {t e:TypeId} {A:Option Addr} {n c:Nat} (hu:P.underlying t=some (.slice e)):(binOp .eql t (.slice A n c) (.slice none 0 0)).run P w=.ok (.bool A.isNone) w∧(binOp .neq t (.slice A n c) (.slice none 0 0)).run P w=.ok (.bool (!A.isNone)) w:=by
 have key:∀ d,(Op.equalIn (d+1) t (.slice A n c) (.slice none 0 0)).run P w=.ok A.isNone w:=by
  intro d
  cases A <;> simp [Op.equalIn,run_underlying hu]
 have k:(Op.equal t (.slice A n c) (.slice none 0 0)).run P w=.ok A.isNone w:=key 9999
 constructor <;> simp only [binOp,Sem.run_bind,k,Result.andThen_ok,Sem.run_pure]
theorem slice_parts (h:Sim C β σ (a.tmps::as) w) {x:Operand} {n:Int} (hl:lenV σ (σ.eval x)=some n) (hs:∀ s,σ.eval x ≠ .str s):∃ A m c,a.eval x=.slice A m c∧(m:Int)=n∧(A=none→n=0):=by
 have hx:=h.eval x
 unfold lenV at hl
 split at hl
 ·rename_i t l hv
  rw [hv] at hx
  obtain ⟨A,c,e,hc,hel⟩:=(show DRel (Free C σ.mem β w) w (.list t) l [a.eval x] from hx)
  injection e with e
  injection hl with hl
  refine ⟨A,_,c,e,hl,fun hA=>?_⟩
  cases l with
  |nil=>rw [← hl];rfl
  |cons y l=>obtain ⟨ad,_,h1,_⟩:=hel 0 y rfl;rw [hA] at h1;cases h1
 ·rename_i hv;rw [hv] at hx
  injection hl with hl
  exact ⟨none,0,0,hx,hl,fun _=>hl.symm⟩
 ·rename_i s hv;exact absurd hv (hs s)
 ·rename_i en hv;rw [hv] at hx
  have key:∃ lo sz m,SlAt lo sz 0 m (a.eval x)∧(m:Int)=n:=by
   rcases hx with ⟨t',l',hl',hs⟩|⟨E',m,hl',hw,hs⟩
   ·have hl':look σ.mem en=_:=hl'
    simp only [hl',sI] at hl
    exact ⟨_,_,_,hs,hl⟩
   ·have hl':look σ.mem en=_:=hl'
    rw [hl'] at hl
    cases E' with
    |row _ _=>cases hw
    |box cs =>
     simp only [sI] at hl
     injection hw with hw
     exact ⟨_,_,_,hs,by rw [← hw];exact hl⟩
    |nest t ll k =>
     simp only [sI] at hl
     injection hw with hw
     exact ⟨_,_,_,hs,by rw [← hw];exact hl⟩
  obtain ⟨lo,sz,m,⟨A,c,e,hc,hcase⟩,hm⟩:=key
  refine ⟨A,_,c,e,hm,fun hA=>?_⟩
  rcases hcase with h0|⟨L,_,h1,_⟩
  ·omega
  ·rw [hA] at h1;cases h1
 ·rename_i en oo m hv;rw [hv] at hx
  injection hl with hl
  have key:∃ lo sz off,SlAt lo sz off m (a.eval x):=by
   rcases hx with ⟨t',l',_,_,hs,_⟩|⟨_,_,_,_,_,_,_,_,_,_,hs⟩
   ·exact ⟨_,_,_,hs⟩
   ·exact ⟨_,_,_,hs⟩
  obtain ⟨lo,sz,off,A,c,e,hc,hcase⟩:=key
  refine ⟨A,_,c,e,hl,fun hA=>?_⟩
  rcases hcase with h0|⟨L,_,h1,_⟩
  ·omega
  ·rw [hA] at h1;cases h1
 ·cases hl
theorem evNil_sound (hT:TtOk P E.tt) {K:St→Option R} {next:Act→World→Prop} {Q:Exit→Act→World→Prop} (h:Sim C β σ (a.tmps::as) w) (hd:a.defers=[])
  (hn:∀ (a':Act) w' β' σ',a'.defers=[]→Sim C β' σ' (a'.tmps::as) w'→K σ'=some r→next a' w') {op:BinOp} {t u:TypeId} {x y:Operand} (hop:o.op=.binOp op t x y u)
  (he:evNil E op t (σ.eval x) (σ.eval y) (lenV σ (σ.eval x)) (fun v=>K (σ.put o.dst v))=some (some r)):o.wp P a w next Q:=by
 have hy:=h.eval y
 unfold evNil at he
 split at he
 rotate_left
 ·cases he
 rename_i e hk hyv
 rw [hyv] at hy
 have hy:a.eval y=.slice none 0 0:=hy
 have hu:=hT.slice t e hk
 have fin:∀ {b:Bool} {A:Option Addr} {n c:Nat},a.eval x=.slice A n c→(op=.eql∧b=A.isNone∨op=.neq∧b=!A.isNone)→K (σ.put o.dst (.bool b))=some r→o.wp P a w next Q:=by
  intro b A n c hx hb hK
  have hg:(eqGuard op t x y (a.eval x) (a.eval y)).run P w=.ok () w:=by rw [hx];exact eqGuard_other (by simp) (by simp)
  have hr:(execOp a.eval o).run P w=.ok (.value (.bool b)) w:=by
   simp only [execOp,hop,Sem.run_bind,hg,Result.andThen_ok]
   rw [hx,hy]
   rcases hb with ⟨rfl,rfl⟩|⟨rfl,rfl⟩
   ·rw [(run_nilCmp (w:=w) hu).1];rfl
   ·rw [(run_nilCmp (w:=w) hu).2];rfl
  unfold Oper.wp
  rw [hr]
  exact hn _ _ _ _ (by rw [put_defers];exact hd) (h.put (a:=a) o.dst (v:=.bool b) rfl) hK
 have hnilx:σ.eval x=.nil→a.eval x=.slice none 0 0:=fun hv=>by
  have:=h.eval x
  rw [hv] at this
  exact this
 split at he
 ·simp only [sI] at he
  split at he
  ·rename_i hv
   exact fin (hnilx hv) (.inl ⟨rfl,rfl⟩) he
  ·cases he
  ·rename_i n hl hnn hns
   obtain ⟨A,m,c,hxv,hm,hA⟩:=slice_parts h hl (fun s hs=>hns s hs)
   cases hz:n==0 with
   |true =>
    rw [hz] at he
    obtain ⟨h1,h2⟩:=both_some he
    cases A with
    |none=>exact fin hxv (.inl ⟨rfl,rfl⟩) h1
    |some ad=>exact fin hxv (.inl ⟨rfl,rfl⟩) h2
   |false =>
    rw [hz] at he
    cases A with
    |none=>rw [hA rfl] at hz;simp at hz
    |some ad=>exact fin hxv (.inl ⟨rfl,rfl⟩) he
  ·cases he
 ·simp only [sI] at he
  split at he
  ·rename_i hv
   exact fin (hnilx hv) (.inr ⟨rfl,rfl⟩) he
  ·cases he
  ·rename_i n hl hnn hns
   obtain ⟨A,m,c,hxv,hm,hA⟩:=slice_parts h hl (fun s hs=>hns s hs)
   cases hz:n==0 with
   |true =>
    rw [hz] at he
    obtain ⟨h1,h2⟩:=both_some he
    cases A with
    |none=>exact fin hxv (.inr ⟨rfl,rfl⟩) h1
    |some ad=>exact fin hxv (.inr ⟨rfl,rfl⟩) h2
   |false =>
    rw [hz] at he
    cases A with
    |none=>rw [hA rfl] at hz;simp at hz
    |some ad=>exact fin hxv (.inr ⟨rfl,rfl⟩) he
  ·cases he
 ·cases he
theorem evOp_sound (hT:TtOk P E.tt) {H:Handler R} (hH:HOk P C H r) {d:Nat} {K:St→Option R} {next:Act→World→Prop} {Q:Exit→Act→World→Prop} (h:Sim C β σ (a.tmps::as) w) (hd:a.defers=[])
  (hn:∀ (a':Act) w' β' σ',a'.defers=[]→Sim C β' σ' (a'.tmps::as) w'→K σ'=some r→next a' w') (he:evOp E H d o σ K=some r):o.wp P a w next Q:=by
 have plain:∀ {bs v σ1},op1 E (name d (o.dst.getD 4095)) o.type o.op σ=some (bs,v,σ1)→chks bs (K (σ1.put o.dst v))=some r→o.wp P a w next Q:=by
  intro bs v σ1 h1 h2
  obtain ⟨hbs,hK⟩:=chks_some h2
  obtain ⟨x,w',β',hr,hs,hv⟩:=op1_sound hT h h1 hbs
  unfold Oper.wp
  rcases hr with hr|⟨hr,rfl⟩ <;> rw [hr]
  ·exact hn _ _ _ _ (by rw [put_defers];exact hd) (hs.put o.dst hv) hK
  ·exact hn _ _ _ _ (by rw [put_defers];exact hd) (hs.put o.dst hv) hK
 unfold evOp at he
 simp only [] at he
 split at he
 ·rename_i c hop
  split at he
  ·rename_i f hc
   split at he
   ·rename_i g caps hf
    have hf1:=h.eval f
    rw [hf] at hf1
    obtain ⟨ys,hfx,hcaps⟩:=hf1
    have hargs:All2 (V3 (cx C β σ w)) (c.args.toList.map σ.eval++caps) (c.args.map a.eval++ys).toList:=by
     rw [Array.toList_append,Array.toList_map]
     refine All2.append ?_ (hcaps.mono fun _ _=>V3.of0)
     generalize c.args.toList=l
     induction l with
     |nil=>exact trivial
     |cons y l ih=>exact ⟨h.eval y,ih⟩
    obtain ⟨h1,h2⟩:=hH as β σ a.tmps w g _ _ _ _ h hargs he
    unfold Oper.wp
    have hex:(execOp a.eval o).run P w=.ok (.enter g (c.args.map a.eval++ys)) w:=by
     simp only [execOp,hop,resolve,hc,hfx,Deferred.ofValue,Sem.run_bind,Sem.run_pure,Result.andThen_ok,invoke,Array.empty_append]
     exact h1
    rw [hex]
    refine h2.mono fun e w' ⟨x,hx,β',σ',v,hs,hv,hK⟩=>?_
    subst hx
    exact hn _ _ _ _ (by rw [put_defers];exact hd) (hs.put (a:=a) o.dst hv) hK
   ·cases he
  ·split at he
   ·rename_i h1
    exact plain h1 he
   ·cases he
 ·rename_i op t x y u hop
  split at he
  ·rename_i q hq
   subst he
   exact evNil_sound hT h hd hn hop hq
  ·split at he
   ·rename_i h1
    exact plain h1 he
   ·cases he
 ·split at he
  ·rename_i h1
   exact plain h1 he
  ·cases he
theorem getD_bool {tmps:Array Value} {t:Nat} {b:Bool} (h:tmps.getD t undef=.bool b):tmps[t]? = some (.bool b):=by
 rw [Array.getD_eq_getD_getElem?] at h
 cases hx:tmps[t]? with
 |none=>rw [hx] at h;simp [undef] at h
 |some x=>rw [hx] at h;simp at h;rw [h]
theorem evOps_sound (hT:TtOk P E.tt) {H:Handler R} (hH:HOk P C H r) {d:Nat} {ops:Array Oper} {K:St→Option R} {Q:Exit→Act→World→Prop}
  (hQ:∀ (a':Act) w' β' σ',a'.defers=[]→Sim C β' σ' (a'.tmps::as) w'→K σ'=some r→Q .normal a' w') :
  ∀ (l:List Oper) (k:Nat) (is:List Nat) (a:Act) (w:World) (β:Nat→Option Loc) (σ:St),is=(List.range l.length).map (k + ·)→(∀ j:Nat,j<l.length→ops[k+j]? = l[j]?)→a.defers=[]→Sim C β σ (a.tmps::as) w→evOps E H d ops l σ K=some r→wpOps P ops Q is a w
 | [],k,is,a,w,β,σ,hi,hl,hd,h,he=>by
  subst hi
  exact hQ a w β σ hd h he
 |o::l,k,is,a,w,β,σ,hi,hl,hd,h,he=>by
  have h0:ops[k]? = some o:=by simpa using hl 0 (by simp)
  have his:is=k::(List.range l.length).map (k+1 + ·):=by
   rw [hi,List.length_cons,List.range_succ_eq_map,List.map_cons,List.map_map]
   simp only [Nat.add_zero,List.cons.injEq,true_and]
   refine List.map_congr_left fun x _=>?_
   simp only [Function.comp];omega
  rw [his]
  have ih:=fun a w β σ=>evOps_sound (d:=d) (Q:=Q) hT hH hQ l (k+1) _ a w β σ rfl (fun j hj=>by have:=hl (j+1) (by simpa using hj);simpa [Nat.add_assoc,Nat.add_comm 1 j] using this)
  have run:∀ σ1,Sim C β σ1 (a.tmps::as) w→evOp E H d o σ1 (fun σ=>evOps E H d ops l σ K)=some r→o.wp P a w (wpOps P ops Q ((List.range l.length).map (k+1 + ·))) Q :=
   fun σ1 h1 he1=>evOp_sound hT hH (K:=fun σ=>evOps E H d ops l σ K) h1 hd (fun a' w' β' σ' hd' hs' hK'=>ih a' w' β' σ' hd' hs' hK') he1
  have skip:∀ σ1,Sim C β σ1 (a.tmps::as) w→evOps E H d ops l (σ1.put o.dst (.tup [])) K=some r→wpOps P ops Q ((List.range l.length).map (k+1 + ·)) (a.put o.dst undef) w :=
   fun σ1 h1 he1=>ih _ _ _ _ (by rw [put_defers];exact hd) (h1.put (a:=a) o.dst (v:=.tup []) (x:=undef) ⟨#[],rfl,trivial⟩) he1
  simp only [wpOps,h0]
  simp only [evOps] at he
  split at he
  ·rename_i hg
   have hw:Region.wanted o (yielded ops a.tmps)=true:=by simp [Region.wanted,hg]
   simp only [hw,if_true]
   exact .inl (run σ h he)
  ·rename_i j want hg
   split at he
   ·rename_i t ht
    split at he
    ·rename_i b hb
     have hv:=h.get t
     rw [hb] at hv
     have hv:a.tmps.getD t undef=.bool b:=hv
     have hy:yielded ops a.tmps j=some b:=by simp [yielded,ht,getD_bool hv]
     have hset:Sim C β (σ.set t (.bool b)) (a.tmps::as) w:=by
      have:=h.set t (v:=.bool b) (x:=.bool b) rfl
      have e:a.tmps.setIfInBounds t (.bool b)=a.tmps:=by
       have hx:=getD_bool hv
       apply Array.ext_getElem?
       intro i
       rw [Array.getElem?_setIfInBounds]
       by_cases hti:t=i
       ·subst hti
        have hlt:=(Array.getElem?_eq_some_iff.1 hx).1
        simp only [if_true,hlt,hx]
       ·simp [hti]
      rw [e] at this
      exact this
     cases b
     ·simp only [cond_false] at he
      cases want
      ·simp only [cond_false] at he
       have hw:Region.wanted o (yielded ops a.tmps)=true:=by simp [Region.wanted,hg,hy]
       simp only [hw,if_true]
       exact .inl (run _ hset he)
      ·simp only [cond_true] at he
       have hw:Region.wanted o (yielded ops a.tmps)=false:=by simp [Region.wanted,hg,hy]
       simp only [hw,Bool.false_eq_true,if_false]
       exact skip _ hset he
     ·simp only [cond_true] at he
      cases want
      ·simp only [cond_false] at he
       have hw:Region.wanted o (yielded ops a.tmps)=false:=by simp [Region.wanted,hg,hy]
       simp only [hw,Bool.false_eq_true,if_false]
       exact skip _ hset he
      ·simp only [cond_true] at he
       have hw:Region.wanted o (yielded ops a.tmps)=true:=by simp [Region.wanted,hg,hy]
       simp only [hw,if_true]
       exact .inl (run _ hset he)
    ·rename_i hb
     have hv:=h.get t
     rw [hb] at hv
     obtain ⟨ys,hx,hy0⟩:=hv
     have hv:a.tmps.getD t undef=.tuple ys:=hx
     have hy:yielded ops a.tmps j=none:=by
      simp only [yielded,ht,Option.bind_some]
      rw [Array.getD_eq_getD_getElem?] at hv
      cases hx:a.tmps[t]? with
      |none=>rfl
      |some x=>rw [hx] at hv;simp at hv;subst hv;rfl
     have hw:Region.wanted o (yielded ops a.tmps)=false:=by simp [Region.wanted,hg,hy]
     simp only [hw,Bool.false_eq_true,if_false]
     exact skip _ h he
    ·cases he
   ·cases he
end
open Go.RowKit
section
variable {P:Program} {E:Env} {C:Frm} {as:List (Array Value)} {R:Type} {r:R}
theorem loopN_sound {d f rr:Nat} {c:Code} {body:St→Kl R→Option R} {gs:List Ghost} {K:Kl R}
  (hbody:∀ (K':Kl R) (β:Nat→Option Loc) (σ:St) (a:Act) (w:World),Sim C β σ (a.tmps::as) w→a.defers=[]→body σ K'=some r→c.wp P (Good C as K' r) a w) :
  ∀ (n:Nat) (β:Nat→Option Loc) (σ:St) (a:Act) (w:World),Sim C β σ (a.tmps::as) w→a.defers=[]→loopN d f rr body gs n σ K=some r →
   ∀ (b:Frame) (k:List Item) (cs:List Frame),∃ e a' w',Good C as K r e a' w'∧Arrives P (lone (b.at a (.code c::.inLoop c::k)) cs w) b k cs e a' w'
 |0,β,σ,a,w,_,_,he,_,_,_=>by simp [loopN] at he
 |n+1,β,σ,a,w,h,hd,he,b,k,cs=>by
  simp only [loopN] at he
  obtain ⟨e,a₁,w₁,hq,harr⟩:=hbody _ β σ a w h hd he b (.inLoop c::k) cs
  cases e with
  |normal =>
   obtain ⟨hd1,β1,σ1,h1,he1⟩:=hq
   obtain ⟨β2,h2⟩:=Sim.ghosts gs h1
   obtain ⟨e₂,a₂,w₂,hq₂,harr₂⟩:=loopN_sound hbody n β2 _ a₁ w₁ h2 hd1 he1 b k cs
   exact ⟨e₂,a₂,w₂,hq₂,.of_steps (Steps.trans harr (.one step_inLoop)) harr₂⟩
  |exit id=>exact ⟨_,a₁,w₁,hq,.pass (x:=.inLoop c) rfl (fun _ _=>.inl (by simp)) harr⟩
  |goto l=>exact ⟨_,a₁,w₁,hq,.pass (x:=.inLoop c) rfl (fun _ _=>.inl (by simp)) harr⟩
  |ret=>exact ⟨_,a₁,w₁,hq,.pass (x:=.inLoop c) rfl (fun _ _=>.inl (by simp)) harr⟩
  |panic ch=>exact ⟨_,a₁,w₁,hq,.pass (x:=.inLoop c) rfl (fun _ _=>.inl (by simp)) harr⟩
  |outgrown=>exact ⟨_,a₁,w₁,hq,.pass (x:=.inLoop c) rfl (fun _ _=>.inl (by simp)) harr⟩
def DrawOk (P:Program) (E:Env) (C:Frm) {R:Type} (H:Handler R) (r:R):Prop:=∀ (d f id:Nat) (ops:Array Oper) (as:List (Array Value)) (K:Kl R) (β:Nat→Option Loc) (σ:St) (a:Act) (w:World),Sim C β σ (a.tmps::as) w→a.defers=[]→evDraw E H d f id ops σ (K .normal)=some r→(Code.region id ops true).wp P (Good C as K r) a w
theorem evCode_sound (hT:TtOk P E.tt) {H:Handler R} (hH:HOk P C H r) (hD:DrawOk P E C H r) {d f:Nat}:∀ (c:Code) (K:Kl R) (β:Nat→Option Loc) (σ:St) (a:Act) (w:World),Sim C β σ (a.tmps::as) w→a.defers=[]→evCode E H d f c σ K=some r→c.wp P (Good C as K r) a w:=by
 intro c
 induction c with
 |skip=>intro K β σ a w h hd he;exact wp_skip ⟨hd,β,σ,h,he⟩
 |region id ops draw =>
  intro K β σ a w h hd he
  simp only [evCode] at he
  cases draw with
  |true=>exact hD d f id ops as K β σ a w h hd he
  |false =>
   refine wp_region (evOps_sound (d:=d) hT hH (K:=K .normal) (fun a' w' β' σ' hd' hs' hK'=>⟨hd',β',σ',hs',hK'⟩) ops.toList 0 _ a w β σ ?_ ?_ hd h he)
   ·simp
   ·simp
 |seq x y ihx ihy =>
  intro K β σ a w h hd he
  simp only [evCode] at he
  refine wp_seq (wp_mono (ihx _ β σ a w h hd he) fun e a' w' hg=>?_)
  cases e with
  |normal =>
   obtain ⟨hd1,β1,σ1,h1,he1⟩:=hg
   exact ihy K β1 σ1 a' w' h1 hd1 he1
  |_=>exact hg
 |cond x c1 c2 ih1 ih2 =>
  intro K β σ a w h hd he
  simp only [evCode] at he
  split at he
  ·rename_i b hb
   have hv:=h.eval x
   rw [hb] at hv
   have hv:a.eval x=.bool b:=hv
   refine wp_cond hv ?_
   cases b
   ·exact ih2 K β σ a w h hd he
   ·exact ih1 K β σ a w h hd he
  ·cases he
 |block id c ih =>
  intro K β σ a w h hd he
  simp only [evCode] at he
  refine wp_block (wp_mono (ih _ β σ a w h hd he) fun e a' w' hg=>?_)
  cases e with
  |exit id' =>
   obtain ⟨hd1,β1,σ1,h1,he1⟩:=hg
   simp only [Exit.inBlock]
   simp only [blockK] at he1
   by_cases hid:id'=id
   ·subst hid
    simp only [beq_self_eq_true,cond_true] at he1
    simp only [if_true]
    exact ⟨hd1,β1,σ1,h1,he1⟩
   ·have hid':(id'==id)=false:=by simpa using hid
    simp only [hid',cond_false] at he1
    simp only [hid,if_false]
    exact ⟨hd1,β1,σ1,h1,he1⟩
  |_=>exact hg
 |loop c ih =>
  intro K β σ a w h hd he b k cs
  simp only [evCode] at he
  obtain ⟨β1,h1⟩:=Sim.ghosts (E.dirs f (firstRegion c)) h
  obtain ⟨e,a',w',hq,harr⟩:=loopN_sound (P:=P) (c:=c) (fun K' β σ a w=>ih K' β σ a w) _ β1 _ a w h1 hd he b k cs
  exact ⟨e,a',w',hq,.of_steps (.one step_loop) harr⟩
 |exit id=>intro K β σ a w h hd he;exact wp_exit ⟨hd,β,σ,h,he⟩
 |ret=>intro K β σ a w h hd he;exact wp_ret ⟨hd,β,σ,h,he⟩
 |_=>intro K β σ a w h hd he;simp [evCode] at he
end
open Go.RowKit
def numβ (nm:Nat) (Ls:List (Option Loc)):Nat→Option Loc:=fun e=>if nm≤e then (Ls[e - nm]?).join else none
def RetF (B:Ty×Nat→Prop) (w w':World) (Ls:List (Option Loc)) (g:Ty×Nat):Prop:=g.2<w'.heap.size∧(B g∨w.heap.size≤g.2∧¬ Frzd w.heap.size w' g.2)∧∀ (k:Nat) L,Ls[k]? = some (some L)→L.g ≠ g.2
structure RetL (B:Ty×Nat→Prop) (w w':World) (r:V) (y:Value) (Ls:List (Option Loc)):Prop where
 len:Ls.length=(owns r.flat).length
 val:∀ nm,V3 ⟨addE nm (owns r.flat) [],numβ nm Ls,RetF B w w' Ls,w'⟩ (relab nm r) y
 ent:∀ (k:Nat) E,(owns r.flat)[k]? = some E→EntOk ⟨[],fun _=>(Ls[k]?).join,RetF B w w' Ls,w'⟩ 0 E
 inj:∀ (k k':Nat) L L',Ls[k]? = some (some L)→Ls[k']? = some (some L')→L.g=L'.g→k=k'
 fresh:∀ (k:Nat) L,Ls[k]? = some (some L)→w.heap.size≤L.g
 noi:∀ (k:Nat) L,Ls[k]? = some (some L)→L.inn=noI∧L.g<w'.heap.size
theorem Loc.has_of_noI {L:Loc} {g:Nat} (h:L.inn=noI) (hg:L.has g):L.g=g:=by
 rcases hg with hg|⟨i,p,h1,_⟩
 ·exact hg
 ·rw [h] at h1;cases h1
def Ret (B:Ty×Nat→Prop) (w w':World) (r:V) (y:Value):Prop:=Grows w w'∧∃ Ls,RetL B w w' r y Ls
theorem look_addE (es:List Entry):∀ (nm:Nat) (m:List (Nat×Entry)) (e:Nat),look (addE nm es m) e=if nm≤e∧e<nm+es.length then es[e - nm]? else look m e:=by
 induction es with
 |nil=>intro nm m e;simp only [addE,List.length_nil,Nat.add_zero];rw [if_neg (by omega)]
 |cons x es ih =>
  intro nm m e
  simp only [addE,look_cons,ih,List.length_cons]
  by_cases h:nm=e
  ·subst h
   rw [if_pos rfl,if_pos (by omega),Nat.sub_self,List.getElem?_cons_zero]
  ·rw [if_neg h]
   by_cases h2:nm+1≤e∧e<nm+1+es.length
   ·rw [if_pos h2,if_pos (by omega),show e - nm=(e - (nm+1))+1 from by omega,List.getElem?_cons_succ]
   ·rw [if_neg h2,if_neg (by omega)]
section
variable {C:Frm} {β:Nat→Option Loc} {σ:St} {as:List (Array Value)} {w w':World}
theorem Sim.clearN (k:Nat):∀ (n:Nat) {k:Nat} {σ:St},Sim C β σ as w→Sim C β (St.clearN k n σ) as w
 |0,_,_,h=>h
 |n+1,_,_,h=>Sim.clearN k n (h.clear _)
theorem clearN_sub {e:Nat}:∀ (n k:Nat) (σ:St),(look (St.clearN k n σ).mem e).isSome=true→(look σ.mem e).isSome=true
 |0,_,_,h=>h
 |n+1,k,σ,h=>clear_sub (clearN_sub n (k+1) _ h)
theorem clearN_none {e:Nat}:∀ (n k:Nat) (σ:St),k≤e→e<k+n→look (St.clearN k n σ).mem e=none
 |0,_,_,h1,h2=>by omega
 |n+1,k,σ,h1,h2=>by
  simp only [St.clearN]
  by_cases h:k=e
  ·subst h
   cases hl:look (St.clearN (k+1) n (σ.clear k)).mem k with
   |none=>rfl
   |some E =>
    have:=clearN_sub n (k+1) (σ.clear k) (e:=k) (by rw [hl];rfl)
    rw [look_clear_self] at this
    cases this
  ·exact clearN_none n (k+1) _ (by omega) (by omega)
theorem Free.grows {m:List (Nat×Entry)} {g:Ty×Nat} (hg:Grows w w') (h:Free C m β w g):Free C m β w' g:=⟨Nat.lt_of_lt_of_le h.1 hg.size,fun ho=>h.2 (ho.imp id (Or.imp id (Frzd.same (hg.block g.2 h.1))))⟩
theorem relab1_flat {M:List (Nat×Entry)} {b:Nat→Option Loc} {B B':Ty×Nat→Prop} {k:Nat} {v:V} {y:Value} (hf:flat1 v=true) (h:V1 ⟨M,b,B,w⟩ (relab1 k v) y):V1 ⟨M,b,B',w⟩ (relab1 k v) y:=by
 cases v <;> simp only [flat1,Bool.false_eq_true] at hf <;> exact h
theorem relabL_flat {M:List (Nat×Entry)} {b:Nat→Option Loc} {B B':Ty×Nat→Prop}:∀ (k:Nat) (cs:List V) {ys:List Value},cs.all flat1=true→All2 (V1 ⟨M,b,B,w⟩) (relabL k cs) ys→All2 (V1 ⟨M,b,B',w⟩) (relabL k cs) ys
 |_,[],ys,_,h=>by cases ys <;> simp_all [relabL,All2]
 |k,c::cs,ys,hf,h=>by
  simp only [List.all_cons,bA] at hf
  cases ys with
  |nil=>exact h.elim
  |cons y ys=>exact ⟨relab1_flat hf.1 h.1,relabL_flat _ cs hf.2 h.2⟩
def flat2:V→Bool
 |.agg cs=>cs.all flat1
 |v=>flat1 v
theorem relab2_flat {M:List (Nat×Entry)} {b:Nat→Option Loc} {B B':Ty×Nat→Prop} {k:Nat} {v:V} {y:Value} (hf:flat2 v=true) (h:V2 ⟨M,b,B,w⟩ (relab2 k v) y):V2 ⟨M,b,B',w⟩ (relab2 k v) y:=by
 cases v with
 |agg cs =>
  obtain ⟨ys,rfl,h⟩:=h
  exact ⟨ys,rfl,relabL_flat k cs hf h⟩
 |own t l =>
  have h:V1 _ (relab1 k (.own t l)) y:=h
  exact V2.of1 (relab1_flat (v:=.own t l) hf h)
 |int k' n=>exact h
 |bool x=>exact h
 |str s=>exact h
 |_=>simp [flat2,flat1] at hf
theorem relabT_flat {M:List (Nat×Entry)} {b:Nat→Option Loc} {B B':Ty×Nat→Prop}:∀ (k:Nat) (cs:List V) {ys:List Value},cs.all flat2=true→All2 (V2 ⟨M,b,B,w⟩) (relabT k cs) ys→All2 (V2 ⟨M,b,B',w⟩) (relabT k cs) ys
 |_,[],ys,_,h=>by cases ys <;> simp_all [relabT,All2]
 |k,c::cs,ys,hf,h=>by
  simp only [List.all_cons,bA] at hf
  cases ys with
  |nil=>exact h.elim
  |cons y ys=>exact ⟨relab2_flat hf.1 h.1,relabT_flat _ cs hf.2 h.2⟩
theorem flatV_tup (vs:List V):flatV (.tup vs)=vs.all flat2:=by
 show (vs.all fun v=>match v with
  |.agg cs=>cs.all flat1
  |v=>flat1 v)=vs.all flat2
 congr 1
theorem relab_flat {M:List (Nat×Entry)} {b:Nat→Option Loc} {B B':Ty×Nat→Prop} {k:Nat} {v:V} {y:Value} (hf:flatV v=true) (h:V3 ⟨M,b,B,w⟩ (relab k v) y):V3 ⟨M,b,B',w⟩ (relab k v) y:=by
 cases v with
 |tup vs =>
  obtain ⟨ys,rfl,h⟩:=h
  rw [flatV_tup] at hf
  exact ⟨ys,rfl,relabT_flat k vs hf h⟩
 |agg cs=>exact V3.of2 (relab2_flat (v:=.agg cs) hf h)
 |own t l=>exact V3.of2 (relab2_flat (v:=.own t l) (k:=k) hf h)
 |int k' n=>exact h
 |bool x=>exact h
 |str s=>exact h
 |_=>simp [flatV,flat1] at hf
theorem owns_flat:∀ (cs:List V) (k:Nat) {E:Entry},cs.all flat1=true→(owns cs)[k]? = some E→∃ t l,E=.row t l∧t.flat=true
 | [],_,_,_,h=>by simp [owns] at h
 |c::cs,k,E,hf,h=>by
  simp only [List.all_cons,bA] at hf
  cases c with
  |own t l =>
   simp only [owns] at h
   cases k with
   |zero=>simp only [List.getElem?_cons_zero,sI] at h;exact ⟨t,l,h.symm,hf.1⟩
   |succ k=>exact owns_flat cs k hf.2 (by simpa using h)
  |_=>exact owns_flat cs k hf.2 h
theorem flatV_cells {v:V} (h:flatV v=true):v.flat.all flat1=true:=by
 have key:∀ v:V,flat2 v=true→v.cells.all flat1=true:=by
  intro v hv
  cases v <;> first|exact hv|simpa [V.cells,flat2] using hv
 by_cases ht:v.isTup=true
 ·cases v <;> simp only [V.isTup,Bool.false_eq_true] at ht
  rename_i vs
  rw [flatV_tup] at h
  simp only [V.flat,List.all_flatMap,List.all_eq_true] at h ⊢
  intro v hv c hc
  exact List.all_eq_true.1 (key v (h v hv)) c hc
 ·have e1:flatV v=flat2 v:=by cases v <;> first|rfl|simp [V.isTup] at ht
  have e2:v.flat=v.cells:=by cases v <;> first|rfl|simp [V.isTup] at ht
  rw [e2]
  exact key v (by rw [← e1];exact h)
theorem EntOk.flatten {B B':Ty×Nat→Prop} {lo:Option Loc} {t:Ty} {l:List t.den} (hf:t.flat=true) (h:EntOk ⟨[],fun _=>lo,B,w⟩ 0 (.row t l)):EntOk ⟨[],fun _=>lo,B',w⟩ 0 (.row t l):=by
 rcases h with h|⟨L,cs,el,h1,h2,h3,h4,h5⟩
 ·exact .inl h
 ·refine .inr ⟨L,cs,el,h1,h2,h3,h4,fun i x hx=>?_⟩
  obtain ⟨zs,hz,hc⟩:=h5 i x hx
  exact ⟨zs,hz.flat hf,hc⟩
theorem Ret.flatten {B B':Ty×Nat→Prop} {r:V} {y:Value} (hf:flatV r=true) (h:Ret B w w' r y):Ret B' w w' r y:=by
 obtain ⟨hg,Ls,h⟩:=h
 refine ⟨hg,Ls,h.len,fun nm=>relab_flat hf (h.val nm),fun k E hE=>?_,h.inj,h.fresh,h.noi⟩
 obtain ⟨t,l,rfl,ht⟩:=owns_flat _ k (flatV_cells hf) hE
 exact (h.ent k _ hE).flatten ht
theorem EntOk.row_to {S S':Cx} {e e':Nat} {t:Ty} {l:List t.den} (hβ:S'.β e'=S.β e) (hB:∀ g,S.B g→S'.B g) (hw:S'.w=S.w) (h:EntOk S e (.row t l)):EntOk S' e' (.row t l):=by
 rcases h with ⟨h0,h1⟩|⟨L,cs,el,h1,h2,h3,h4,h5⟩
 ·exact .inl ⟨h0,by rw [hβ];exact h1⟩
 ·refine .inr ⟨L,cs,el,by rw [hβ];exact h1,by rw [hw];exact h2,h3,h4,fun i x hx=>?_⟩
  obtain ⟨zs,hz,hc⟩:=h5 i x hx
  exact ⟨zs,hz.mono hB (fun _ _=>by rw [hw]),hc⟩
theorem owns_row:∀ (cs:List V) (k:Nat) {E:Entry},(owns cs)[k]? = some E→∃ t l,E=.row t l
 | [],_,_,h=>by simp [owns] at h
 |c::cs,k,E,h=>by
  cases c with
  |own t l =>
   simp only [owns] at h
   cases k with
   |zero=>simp only [List.getElem?_cons_zero,sI] at h;exact ⟨t,l,h.symm⟩
   |succ k=>exact owns_row cs k (by simpa using h)
  |_=>exact owns_row cs k h
theorem adopt_sound (h:Sim C β σ as w) {B:Ty×Nat→Prop} {r:V} {y:Value} (hr:Ret B w w' r y) (hB:∀ g,B g→Free C σ.mem β w g) (nm:Nat) :
  ∃ β',Sim C β' (adopt nm r σ).2 as w'∧V3 (cx C β' (adopt nm r σ).2 w') (adopt nm r σ).1 y:=by
 obtain ⟨hg,Ls,hr⟩:=hr
 have h2:Sim C β (St.clearN nm (owns r.flat).length σ) as w:=h.clearN nm _
 have hnone:∀ e,nm≤e→e<nm+(owns r.flat).length→look (St.clearN nm (owns r.flat).length σ).mem e=none:=fun e h3 h4=>clearN_none _ _ _ h3 h4
 have hout:∀ e E,look (St.clearN nm (owns r.flat).length σ).mem e=some E→¬ (nm≤e∧e<nm+(owns r.flat).length):=by
  intro e E hE hh
  rw [hnone e hh.1 hh.2] at hE
  cases hE
 let β':Nat→Option Loc:=fun e=>if nm≤e∧e<nm+(owns r.flat).length then numβ nm Ls e else β e
 have hnew:∀ e L,(look (addE nm (owns r.flat) (St.clearN nm (owns r.flat).length σ).mem) e).isSome=true→look (St.clearN nm (owns r.flat).length σ).mem e=none→β' e=some L→nm≤e∧e<nm+(owns r.flat).length∧Ls[e - nm]? = some (some L):=by
  intro e L h3 h4 h5
  rw [look_addE] at h3
  by_cases hh:nm≤e∧e<nm+(owns r.flat).length
  ·refine ⟨hh.1,hh.2,?_⟩
   simp only [β',if_pos hh,numβ,if_pos hh.1] at h5
   cases hl:Ls[e - nm]? with
   |none=>rw [hl] at h5;cases h5
   |some o=>rw [hl] at h5;simp only [Option.join_some] at h5;rw [h5]
  ·rw [if_neg hh,h4] at h3;cases h3
 have hF:∀ g,RetF B w w' Ls g→Free C (addE nm (owns r.flat) (St.clearN nm (owns r.flat).length σ).mem) β' w' g:=by
  rintro g ⟨h3,h4,h5⟩
  refine ⟨h3,?_⟩
  rintro (⟨e,L,h6,h7,h8⟩|hh)
  ·cases hE:look (St.clearN nm (owns r.flat).length σ).mem e with
   |none =>
    have h9:=(hnew e L h6 hE h7).2.2
    exact h5 _ L h9 (Loc.has_of_noI (hr.noi _ L h9).1 h8)
   |some E =>
    have h9:=hout e E hE
    have h7:β e=some L:=by simpa [β',if_neg h9] using h7
    have h10:=h2.lt' hE h7 h8
    rcases h4 with h4|h4
    ·exact (hB g h4).2 (.inl ⟨e,L,clearN_sub _ _ _ (by rw [hE];rfl),h7,h8⟩)
    ·omega
  ·rcases h4 with h4|h4
   ·exact (hB g h4).2 (.inr (hh.imp id (Frzd.same (hg.block g.2 (hB g h4).1))))
   ·rcases hh with hh|hh
    ·have:=(C.hidOk g hh).1
     have:=h.frm.size
     omega
    ·exact h4.2 ⟨h4.1,hh.2⟩
 have hgr:Sim C β' { St.clearN nm (owns r.flat).length σ with mem:=addE nm (owns r.flat) (St.clearN nm (owns r.flat).length σ).mem } as w'∧Keeps (cx C β (St.clearN nm (owns r.flat).length σ) w) ⟨addE nm (owns r.flat) (St.clearN nm (owns r.flat).length σ).mem,β',Free C (addE nm (owns r.flat) (St.clearN nm (owns r.flat).length σ).mem) β' w',w'⟩:=by
  refine h2.grow hg ?_ ?_ ?_ ?_
  ·intro e E hE
   have h9:=hout e E hE
   exact ⟨by rw [look_addE,if_neg h9];exact hE,by simp only [β',if_neg h9]⟩
  ·intro e L g h5 h6 h7 hg
   have h8:=(hnew e L h5 h6 h7).2.2
   obtain ⟨n1,n2⟩:=hr.noi _ L h8
   have hgg:=Loc.has_of_noI n1 hg
   subst hgg
   exact ⟨hr.fresh _ L h8,n2⟩
  ·intro e e' L L' g h5 h6 h7 h8 h9 h10 hg hg'
   have h12:=hnew e L h5 h7 h9
   have h13:=hnew e' L' h6 h8 h10
   have:=hr.inj _ _ L L' h12.2.2 h13.2.2 ((Loc.has_of_noI (hr.noi _ L h12.2.2).1 hg).trans (Loc.has_of_noI (hr.noi _ L' h13.2.2).1 hg').symm)
   omega
  ·intro hk e E h5 h6
   rw [look_addE] at h6
   by_cases hh:nm≤e∧e<nm+(owns r.flat).length
   ·rw [if_pos hh] at h6
    obtain ⟨t,l,rfl⟩:=owns_row _ _ h6
    refine (hr.ent _ _ h6).row_to (S:=⟨[],fun _=>(Ls[e - nm]?).join,RetF B w w' Ls,w'⟩) ?_ hF rfl
    show β' e=_
    simp only [β',if_pos hh,numβ,if_pos hh.1]
   ·rw [if_neg hh,h5] at h6;cases h6
 obtain ⟨h3,h4⟩:=hgr
 refine ⟨β',h3,?_⟩
 show V3 ⟨addE nm (owns r.flat) (St.clearN nm (owns r.flat).length σ).mem,β',Free C (addE nm (owns r.flat) (St.clearN nm (owns r.flat).length σ).mem) β' w',w'⟩ (relabF nm r) y
 rw [relabF_eq]
 refine V3.keeps (S:=⟨addE nm (owns r.flat) [],numβ nm Ls,RetF B w w' Ls,w'⟩) (S':=⟨addE nm (owns r.flat) (St.clearN nm (owns r.flat).length σ).mem,β',Free C (addE nm (owns r.flat) (St.clearN nm (owns r.flat).length σ).mem) β' w',w'⟩) ⟨fun e E hE=>⟨E,?_,E.like_refl⟩,fun e he=>?_,hF,fun _ _=>rfl⟩ (hr.val nm)
 ·have hE:look (addE nm (owns r.flat) []) e=some E:=hE
  rw [look_addE] at hE
  show look (addE nm (owns r.flat) (St.clearN nm (owns r.flat).length σ).mem) e=some E
  rw [look_addE]
  by_cases hh:nm≤e∧e<nm+(owns r.flat).length
  ·rw [if_pos hh] at hE ⊢;exact hE
  ·rw [if_neg hh] at hE;cases hE
 ·have he:(look (addE nm (owns r.flat) []) e).isSome=true:=he
  rw [look_addE] at he
  by_cases hh:nm≤e∧e<nm+(owns r.flat).length
  ·show β' e=numβ nm Ls e
   simp only [β',if_pos hh]
  ·rw [if_neg hh] at he;cases he
end
open Go.RowKit
def Enters (P:Program) (g:FuncId):Prop:=∃ fn c,P.funcs[g]? = some fn∧(fn.name == "runtime.NumGoroutine")=false∧fn.body=some c
theorem run_enter {P:Program} {g:FuncId} (h:Enters P g) (xs:Array Value) (w:World):(callFunc g xs).run P w=.ok (.enter g xs) w:=by
 obtain ⟨fn,c,hf,hn,hb⟩:=h
 have h1:fn.name ≠ "runtime.NumGoroutine" := by simpa using hn
 simp [callFunc,hf,h1,hb]
def MutOk (P:Program) (g:FuncId) (m:Mut):Prop :=
 m.t.flat=true∧(∀ l l',m.f l=some l'→l ≠ [])∧∀ (w:World) (L:Loc) (l l':List m.t.den) (cs:Array Value) (el:TypeId) (x:Value),w.heap[L.g]? = some (.cells cs el (0,0))→cs.size=L.cells→L.base+l.length*m.t.size≤L.cells →
  (∀ (i:Nat) y,l[i]? = some y→∃ zs,DRel (fun _=>False) w m.t y zs∧∀ (j:Nat) z,zs[j]? = some z→cs[L.base+i*m.t.size+j]? = some z)→SlAt (some L) m.t.size 0 l.length x→m.f l=some l' →
  Calls P g #[x] w fun e w'=>(match m.n with
   |none=>e=.returned (.tuple #[])
   |some g=>g l≤l.length∧∃ A c,x=.slice A l.length c∧e=.returned (.slice A (g l) c))∧l'.length=l.length∧∃ cs',Grows { w with heap:=w.heap.setIfInBounds L.g (.cells cs' el (0,0)) } w'∧cs'.size=cs.size ∧
   ∀ (i:Nat) y,l'[i]? = some y→∃ zs,DRel (fun _=>False) w m.t y zs∧∀ (j:Nat) z,zs[j]? = some z→cs'[L.base+i*m.t.size+j]? = some z
def SumOk (P:Program) (g:FuncId) (s:Summ):Prop :=
 Enters P g∧(∀ (B:Ty×Nat→Prop) (w:World) (vs:List V) (xs:Array Value) (x:s.rt),(∀ b,B b→b.2<w.heap.size)→All2 (V3 (cxP B w)) vs xs.toList→s.call vs=some x →
  Calls P g xs w fun e w'=>∃ y,e=.returned y∧Ret B w w' (s.res x) y)∧∀ m,s.alt=some m→MutOk P g m
section
variable {P:Program} {E:Env} {C:Frm} {β:Nat→Option Loc} {σ:St} {as:List (Array Value)} {w w':World} {R:Type} {r:R}
theorem Sim.pureFV (h:Sim C β σ as w) (cs:List V) {v:V} {x:Value} (hm:∀ u∈v.cells,u∈cs) (hv:V3 (cx C β σ w) v x):V3 (cxP (Free C (σ.frzAll cs).mem β w) w) (Go.Proofs.YtkflbkcfabnomaaGreat.R.pureV σ v) x:=by
 rcases V3.cases hv with ⟨vs,rfl,_⟩|⟨_,h2⟩
 ·exact trivial
 rcases V2.cases h2 with ⟨us,rfl,ys,rfl,h3⟩|⟨h4,h3⟩
 ·exact ⟨ys,rfl,h.pureFs cs us hm h3⟩
 ·have e1:Go.Proofs.YtkflbkcfabnomaaGreat.R.pureV σ v=Go.Proofs.YtkflbkcfabnomaaGreat.R.pure1 σ v:=by cases v <;> first|rfl|simp [V.isAgg] at h4
  have e2:v.cells=[v]:=by cases v <;> first|rfl|simp [V.isAgg] at h4
  rw [e1]
  exact V3.of1 (h.pureF cs (hm v (by rw [e2];simp)) h3)
theorem argCells_mem:∀ {vs:List V} {v u:V},v∈vs→u∈v.cells→u∈argCells vs
 |x::vs,v,u,hv,hu=>by
  simp only [argCells,List.mem_append]
  rcases List.mem_cons.1 hv with rfl|hv
  ·exact .inl hu
  ·exact .inr (argCells_mem hv hu)
theorem All2.map_mem {α β γ:Type} {R:α→β→Prop} {Q:γ→β→Prop} {f:α→γ}:∀ {as:List α} {bs:List β},(∀ a∈as,∀ b,R a b→Q (f a) b)→All2 R as bs→All2 Q (as.map f) bs
 | [],bs,_,h=>by cases bs <;> simp_all [All2]
 |a::as,bs,hR,h=>by
  cases bs with
  |nil=>exact h.elim
  |cons b bs=>exact ⟨hR a (by simp) b h.1,All2.map_mem (fun c hc=>hR c (by simp [hc])) h.2⟩
theorem callA_sound {g:FuncId} {m:Mut} (hm:MutOk P g m) {vs:List V} {xs:Array Value} {v:V} {σ':St} (h:Sim C β σ as w) (hv:All2 (V3 (cx C β σ w)) vs xs.toList) (he:callA m vs σ=some (v,σ')) :
  Calls P g xs w fun e w'=>∃ y,e=.returned y∧Sim C β σ' as w'∧V3 (cx C β σ' w') v y:=by
 unfold callA at he
 split at he
 ·rename_i e
  split at he
  ·rename_i t l hl
   by_cases ht:t=m.t
   ·subst ht
    rw [dif_pos rfl] at he
    cases hf:m.f l with
    |none=>rw [hf] at he;cases he
    |some l' =>
     rw [hf] at he
     simp only [Option.bind_some,sI,Prod.mk.injEq] at he
     obtain ⟨hev,rfl⟩:=he
     obtain ⟨xl⟩:=xs
     obtain ⟨x,rfl⟩:∃ x,xl=[x]:=by
      cases xl with
      |nil=>exact hv.elim
      |cons x xl=>cases xl with
       |nil=>exact ⟨x,rfl⟩
       |cons y xl=>exact hv.2.elim
     obtain ⟨t',l2,hl2,hs⟩:=(show ∃ t l,look σ.mem e=some (.row t l)∧SlAt (β e) t.size 0 l.length x from V0.row hv.1 hl)
     rw [hl] at hl2
     injection hl2 with hl2
     injection hl2 with h1 h2
     subst h1
     have h2:=eq_of_heq h2
     subst h2
     obtain ⟨hflat,hm⟩:=hm
     rcases h.ent e _ hl with ⟨h1,h2⟩|⟨L,cs,el,h1,h2,h3,h4,h5⟩
     ·exact absurd h1 (hm.1 l l' hf)
     ·have h1:β e=some L:=h1
      have h2:w.heap[L.g]? = some (.cells cs el (0,0)):=h2
      rw [h1] at hs
      have hlt:=h.lt hl h1
      refine (hm.2 w L l l' cs el x h2 h3 h4 (fun i y hy=>?_) hs hf).mono fun e1 w' ⟨r1,r2,cs',r3,r4,r5⟩=>?_
      ·obtain ⟨zs,q1,q2⟩:=h5 i y hy
       exact ⟨zs,q1.flat hflat,q2⟩
      ·have key:Sim C β { σ with mem:=updE σ.mem e (.row m.t l') } as { w with heap:=w.heap.setIfInBounds L.g (.cells cs' el (0,0)) }:=by
        refine h.upd (E':=.row m.t l') hl ⟨rfl,r2.symm,rfl⟩ h1 rfl rfl rfl (by simp) (fun g hg=>?_) fun hk=>.inr ⟨L,cs',el,h1,?_,r4.trans h3,by rw [r2];exact h4,fun i y hy=>?_⟩
        ·exact Array.getElem?_setIfInBounds_ne (Ne.symm hg)
        ·show (w.heap.setIfInBounds L.g (.cells cs' el (0,0)))[L.g]? = _
         rw [Array.getElem?_setIfInBounds_self_of_lt hlt]
        ·obtain ⟨zs,q1,q2⟩:=r5 i y hy
         exact ⟨zs,q1.flat hflat,q2⟩
       have hsim:=(key.grows r3).1
       have lk:look (updE σ.mem e (.row m.t l')) e=some (.row m.t l'):=by rw [look_updE,hl];simp
       cases hn:m.n with
       |none =>
        rw [hn] at r1 hev
        subst hev
        exact ⟨_,r1,hsim,⟨#[],rfl,trivial⟩⟩
       |some q =>
        rw [hn] at r1 hev
        simp only [] at r1 hev
        subst hev
        obtain ⟨k1,A,c,k2,k3⟩:=r1
        obtain ⟨A',c',j1,j2,j3⟩:=hs
        rw [k2] at j1
        injection j1 with j4 j5 j6
        subst j4;subst j6
        refine ⟨_,k3,hsim,.inl ⟨m.t,l',lk,by omega,⟨A,c,rfl,by omega,?_⟩,⟨A,q l,c,rfl,by omega⟩⟩⟩
        show c=0∨∃ L',β e=some L'∧_
        rw [h1]
        exact j3
   ·rw [dif_neg ht] at he;cases he
  ·cases he
 ·cases he
theorem callS_sound {g:FuncId} {s:Summ} (hs:SumOk P g s) {nm:Nat} {vs:List V} {xs:Array Value} {K:V→St→Option R} (h:Sim C β σ as w) (hv:All2 (V3 (cx C β σ w)) vs xs.toList) (he:callS s nm vs σ K=some r) :
  (callFunc g xs).run P w=.ok (.enter g xs) w∧Calls P g xs w fun e w'=>∃ x,e=.returned x∧∃ β' σ' v,Sim C β' σ' as w'∧V3 (cx C β' σ' w') v x∧K v σ'=some r:=by
 refine ⟨run_enter hs.1 xs w,?_⟩
 unfold callS at he
 cases ha:s.alt with
 |some m =>
  rw [ha] at he
  simp only [] at he
  rw [callAK_eq] at he
  cases hA:callA m vs σ with
  |none=>rw [hA] at he;cases he
  |some p =>
   rw [hA] at he
   obtain ⟨v,σ'⟩:=p
   exact (callA_sound (hs.2.2 m ha) h hv hA).mono fun e w' ⟨y,h1,h2,h3⟩=>⟨y,h1,β,σ',v,h2,h3,he⟩
 |none =>
 rw [ha] at he
 simp only [] at he
 cases hx:s.call (vs.map (Go.Proofs.YtkflbkcfabnomaaGreat.R.pureV σ)) with
 |none=>rw [hx] at he;cases he
 |some x =>
  rw [hx] at he
  simp only [Option.bind_some] at he
  have hF:=h.frzAll (argCells vs)
  have hargs:All2 (V3 (cxP (Free C (σ.frzAll (argCells vs)).mem β w) w)) (vs.map (Go.Proofs.YtkflbkcfabnomaaGreat.R.pureV σ)) xs.toList :=
   All2.map_mem (fun v hvm y hy=>h.pureFV (argCells vs) (fun u hu=>argCells_mem hvm hu) hy) hv
  refine (hs.2.1 _ w _ xs x (fun b hb=>hb.1) hargs hx).mono fun e w' ⟨y,hy,hr⟩=>⟨y,hy,?_⟩
  cases hfl:flatV (s.res x) with
  |true =>
   rw [hfl] at he
   obtain ⟨β',h1,h2⟩:=adopt_sound h (hr.flatten (B':=fun _=>False) hfl) (fun _ hh=>hh.elim) nm
   exact ⟨β',_,_,h1,h2,he⟩
  |false =>
   rw [hfl] at he
   obtain ⟨β',h1,h2⟩:=adopt_sound hF hr (fun _ hh=>hh) nm
   exact ⟨β',_,_,h1,h2,he⟩
theorem own_srcs (h:∀ (e:Nat) (t:Ty) (l:List t.den),look σ.mem e=some (.row t l)→True):∀ (cs rs:List V) {ys:List Value},All2 (V1 (cx C β σ w)) cs ys→allS (own1 σ.mem) cs=some rs →
  All2 (fun (p:Nat×Nat) (E:Entry)=>∃ (t:Ty) (l0:List t.den) (n:Nat),look σ.mem p.1=some (.row t l0)∧p.2+n≤l0.length∧E=.row t ((l0.drop p.2).take n)) (srcs cs) (owns rs)
 | [],rs,ys,_,he=>by simp only [allS,sI] at he;subst he;exact trivial
 |c::cs,rs,ys,ha,he=>by
  cases ys with
  |nil=>exact ha.elim
  |cons y ys =>
   simp only [allS] at he
   cases h1:own1 σ.mem c with
   |none=>rw [h1] at he;cases he
   |some x =>
    rw [h1] at he
    cases h2:allS (own1 σ.mem) cs with
    |none=>rw [h2] at he;cases he
    |some xs =>
     rw [h2] at he
     simp only [sI] at he
     subst he
     have ih:=own_srcs h cs xs ha.2 h2
     cases c <;> simp only [own1,reduceCtorEq,sI] at h1
     case int=>subst h1;exact ih
     case bool=>subst h1;exact ih
     case str=>subst h1;exact ih
     case ro=>subst h1;exact ih
     case slw e =>
      rcases ha.1 with ⟨t,l,hl,hs⟩|⟨E',n',hl,hw,_⟩
      rotate_left
      ·have hl:look σ.mem e=_:=hl
       rw [hl] at h1
       cases E' with
       |row _ _=>cases hw
       |box _=>cases h1
       |nest _ _ _=>cases h1
      have hl:look σ.mem e=_:=hl
      rw [hl] at h1
      simp only [sI] at h1
      subst h1
      exact ⟨⟨t,l,l.length,hl,by simp,by simp⟩,ih⟩
     case sl e o n =>
      rcases ha.1 with ⟨t,l,hl,ho,hs,_⟩|⟨t',ll',k',l',L',hl,_⟩
      rotate_left
      ·have hl:look σ.mem e=_:=hl
       rw [hl] at h1
       cases h1
      have hl:look σ.mem e=_:=hl
      rw [hl] at h1
      simp only [sI] at h1
      subst h1
      exact ⟨⟨t,l,n,hl,ho,rfl⟩,ih⟩
def shiftL (m:List (Nat×Entry)) (β:Nat→Option Loc) (p:Nat×Nat):Option Loc :=
 match look m p.1 with
 |some (.row t _)=>(β p.1).map fun L=>⟨L.g,L.base+p.2*t.size,L.cells,noI⟩
 |_=>none
theorem SlAt.shift {lo:Option Loc} {sz off n:Nat} {x:Value} (h:SlAt lo sz off n x):SlAt (lo.map fun L=>⟨L.g,L.base+off*sz,L.cells,noI⟩) sz 0 n x:=by
 obtain ⟨A,c,hx,hc,h⟩:=h
 refine ⟨A,c,hx,hc,?_⟩
 rcases h with h|⟨L,hL,hA,hf⟩
 ·exact .inl h
 ·subst hL
  refine .inr ⟨_,rfl,by simpa using hA,?_⟩
  rw [Nat.add_mul] at hf
  show L.base+off*sz+(0+c)*sz≤L.cells
  rw [Nat.zero_add]
  omega
theorem own1_val {c r:V} {y:Value} {M:List (Nat×Entry)} {b:Nat→Option Loc} {F:Ty×Nat→Prop} {k:Nat} (hF:∀ g,Free C σ.mem β w g→F g) (hv:V1 (cx C β σ w) c y) (he:own1 σ.mem c=some r)
  (hM:∀ p E,(srcs [c])[0]? = some p→(owns [r])[0]? = some E→look M k=some E∧b k=shiftL σ.mem β p):V1 ⟨M,b,F,w⟩ (relab1 k r) y:=by
 cases c <;> simp only [own1,reduceCtorEq,sI] at he
 case int=>subst he;exact hv
 case bool=>subst he;exact hv
 case str=>subst he;exact hv
 case ro t l=>subst he;exact DRel.mono (t:=.list t) hF (fun _ _=>rfl) hv
 case slw e =>
  rcases hv with ⟨t,l,hl,hs⟩|⟨E',n',hl,hw,_⟩
  rotate_left
  ·have hl:look σ.mem e=_:=hl
   rw [hl] at he
   cases E' with
   |row _ _=>cases hw
   |box _=>cases he
   |nest _ _ _=>cases he
  have hl:look σ.mem e=_:=hl
  rw [hl] at he
  simp only [sI] at he
  subst he
  obtain ⟨h1,h2⟩:=hM (e,0) (.row t l) rfl rfl
  refine .inl ⟨t,l,h1,?_⟩
  show SlAt (b k) t.size 0 l.length y
  have:=hs.shift
  rw [h2,shiftL,hl]
  exact this
 case sl e o n =>
  rcases hv with ⟨t,l,hl,ho,hs,_⟩|⟨t',ll',k',l',L',hl,_⟩
  rotate_left
  ·have hl:look σ.mem e=_:=hl
   rw [hl] at he
   cases he
  have hl:look σ.mem e=_:=hl
  rw [hl] at he
  simp only [sI] at he
  subst he
  obtain ⟨h1,h2⟩:=hM (e,o) (.row t ((l.drop o).take n)) rfl rfl
  refine .inl ⟨t,_,h1,?_⟩
  show SlAt (b k) t.size 0 _ y
  have hlen:((l.drop o).take n).length=n:=by simp;omega
  rw [h2,shiftL,hl,hlen]
  exact hs.shift
theorem srcs_one (c:V) (cs:List V):srcs (c::cs)=srcs [c]++srcs cs:=by cases c <;> rfl
theorem owns_one (c:V) (cs:List V):owns (c::cs)=owns [c]++owns cs:=by cases c <;> rfl
theorem owns_cnt (c:V):(owns [c]).length=cnt1 c:=by cases c <;> rfl
theorem srcs_own1 {m:List (Nat×Entry)} {c r:V} (h:own1 m c=some r):(srcs [c]).length=cnt1 r:=by
 cases c <;> simp only [own1,reduceCtorEq,sI] at h
 case slw e=>split at h <;> simp only [reduceCtorEq,sI] at h;subst h;rfl
 case sl e o n=>split at h <;> simp only [reduceCtorEq,sI] at h;subst h;rfl
 all_goals subst h;rfl
theorem own_valL {M:List (Nat×Entry)} {b:Nat→Option Loc} {F:Ty×Nat→Prop} (hF:∀ g,Free C σ.mem β w g→F g):∀ (cs rs:List V) (k:Nat) {ys:List Value},All2 (V1 (cx C β σ w)) cs ys→allS (own1 σ.mem) cs=some rs →
  (∀ i p E,(srcs cs)[i]? = some p→(owns rs)[i]? = some E→look M (k+i)=some E∧b (k+i)=shiftL σ.mem β p)→All2 (V1 ⟨M,b,F,w⟩) (relabL k rs) ys∧(srcs cs).length=cntL rs
 | [],rs,k,ys,ha,he,_=>by
  simp only [allS,sI] at he
  subst he
  cases ys with
  |nil=>exact ⟨trivial,rfl⟩
  |cons y ys=>exact ha.elim
 |c::cs,rs,k,ys,ha,he,hM=>by
  cases ys with
  |nil=>exact ha.elim
  |cons y ys =>
   simp only [allS] at he
   cases h1:own1 σ.mem c with
   |none=>rw [h1] at he;cases he
   |some x =>
    rw [h1] at he
    cases h2:allS (own1 σ.mem) cs with
    |none=>rw [h2] at he;cases he
    |some xs =>
     rw [h2] at he
     simp only [sI] at he
     subst he
     have hlen:=srcs_own1 h1
     have hlen2:=owns_cnt x
     obtain ⟨ih1,ih2⟩:=own_valL hF cs xs (k+cnt1 x) ha.2 h2 (fun i p E hp hE=>by
      have:=hM (cnt1 x+i) p E (by rw [srcs_one,List.getElem?_append_right (by omega),hlen,Nat.add_sub_cancel_left];exact hp) (by rw [owns_one,List.getElem?_append_right (by omega),hlen2,Nat.add_sub_cancel_left];exact hE)
      rw [← Nat.add_assoc] at this
      exact this)
     refine ⟨⟨own1_val hF ha.1 h1 fun p E hp hE=>?_,ih1⟩,?_⟩
     ·have:=hM 0 p E (by rw [srcs_one,List.getElem?_append_left (List.getElem?_eq_some_iff.1 hp).1];exact hp) (by rw [owns_one,List.getElem?_append_left (List.getElem?_eq_some_iff.1 hE).1];exact hE)
      simpa using this
     ·rw [srcs_one,lA,hlen,ih2];rfl
theorem srcs_append:∀ (a b:List V),srcs (a++b)=srcs a++srcs b
 | [],b=>rfl
 |c::a,b=>by rw [List.cons_append,srcs_one,srcs_append a b,← List.append_assoc,← srcs_one]
theorem owns_append:∀ (a b:List V),owns (a++b)=owns a++owns b
 | [],b=>rfl
 |c::a,b=>by rw [List.cons_append,owns_one,owns_append a b,← List.append_assoc,← owns_one]
theorem owns_cntL:∀ (cs:List V),(owns cs).length=cntL cs
 | []=>rfl
 |c::cs=>by rw [owns_one,lA,owns_cnt,owns_cntL cs];rfl
theorem allS_one {f:V→Option V} {v x:V} (h:f v=some x):allS f [v]=some [x]:=by simp [allS,h]
theorem own1_cells {m:List (Nat×Entry)} {v r:V} (h:own1 m v=some r):v.cells=[v]∧r.cells=[r]∧v.isAgg=false∧v.isTup=false∧r.isAgg=false∧r.isTup=false:=by
 cases v <;> simp only [own1,reduceCtorEq,sI] at h
 case slw e=>split at h <;> simp only [reduceCtorEq,sI] at h;subst h;exact ⟨rfl,rfl,rfl,rfl,rfl,rfl⟩
 case sl e o n=>split at h <;> simp only [reduceCtorEq,sI] at h;subst h;exact ⟨rfl,rfl,rfl,rfl,rfl,rfl⟩
 all_goals subst h;exact ⟨rfl,rfl,rfl,rfl,rfl,rfl⟩
theorem own2_cells {m:List (Nat×Entry)} {v r:V} (h:own2 m v=some r):allS (own1 m) v.cells=some r.cells∧v.isTup=false∧r.isTup=false:=by
 by_cases hv:v.isAgg=true
 ·cases v <;> simp only [V.isAgg,Bool.false_eq_true] at hv
  simp only [own2,Option.map_eq_some_iff] at h
  obtain ⟨rs,h,rfl⟩:=h
  exact ⟨h,rfl,rfl⟩
 ·have h1:own1 m v=some r:=by cases v <;> first|exact h|simp [V.isAgg] at hv
  obtain ⟨e1,e2,_,e3,_,e4⟩:=own1_cells h1
  rw [e1,e2]
  exact ⟨allS_one h1,e3,e4⟩
theorem own2_val {M:List (Nat×Entry)} {b:Nat→Option Loc} {F:Ty×Nat→Prop} (hF:∀ g,Free C σ.mem β w g→F g) {v r:V} {y:Value} {k:Nat} (hv:V2 (cx C β σ w) v y) (he:own2 σ.mem v=some r)
  (hM:∀ i p E,(srcs v.cells)[i]? = some p→(owns r.cells)[i]? = some E→look M (k+i)=some E∧b (k+i)=shiftL σ.mem β p):V2 ⟨M,b,F,w⟩ (relab2 k r) y:=by
 obtain ⟨hc,_⟩:=own2_cells he
 rcases V2.cases hv with ⟨cs,rfl,ys,rfl,ha⟩|⟨hag,h1⟩
 ·simp only [own2,Option.map_eq_some_iff] at he
  obtain ⟨rs,he,rfl⟩:=he
  exact ⟨ys,rfl,(own_valL hF cs rs k ha he hM).1⟩
 ·have he1:own1 σ.mem v=some r:=by cases v <;> first|exact he|simp [V.isAgg] at hag
  obtain ⟨e1,e2,_,_,e3,_⟩:=own1_cells he1
  have:relab2 k r=relab1 k r:=by cases r <;> first|rfl|simp [V.isAgg] at e3
  rw [this]
  rw [e1,e2] at hM
  have:=own1_val (M:=M) (b:=b) (k:=k) hF h1 he1 fun p E hp hE=>by simpa using hM 0 p E hp hE
  exact V2.of1 this
theorem own_valT {M:List (Nat×Entry)} {b:Nat→Option Loc} {F:Ty×Nat→Prop} (hF:∀ g,Free C σ.mem β w g→F g):∀ (vs rs:List V) (k:Nat) {ys:List Value},All2 (V2 (cx C β σ w)) vs ys→allS (own2 σ.mem) vs=some rs →
  (∀ i p E,(srcs (vs.flatMap V.cells))[i]? = some p→(owns (rs.flatMap V.cells))[i]? = some E→look M (k+i)=some E∧b (k+i)=shiftL σ.mem β p)→All2 (V2 ⟨M,b,F,w⟩) (relabT k rs) ys
 | [],rs,k,ys,ha,he,_=>by
  simp only [allS,sI] at he
  subst he
  cases ys with
  |nil=>exact trivial
  |cons y ys=>exact ha.elim
 |v::vs,rs,k,ys,ha,he,hM=>by
  cases ys with
  |nil=>exact ha.elim
  |cons y ys =>
   simp only [allS] at he
   cases h1:own2 σ.mem v with
   |none=>rw [h1] at he;cases he
   |some x =>
    rw [h1] at he
    cases h2:allS (own2 σ.mem) vs with
    |none=>rw [h2] at he;cases he
    |some xs =>
     rw [h2] at he
     simp only [sI] at he
     subst he
     have hcells:=(own2_cells h1).1
     have hl2:=owns_cntL x.cells
     have hl1:(srcs v.cells).length=cntL x.cells:=by
      have:∀ (cs rs:List V),allS (own1 σ.mem) cs=some rs→(srcs cs).length=cntL rs:=by
       intro cs
       induction cs with
       |nil=>intro rs h;simp only [allS,sI] at h;subst h;rfl
       |cons c cs ih =>
        intro rs h
        simp only [allS] at h
        cases h3:own1 σ.mem c with
        |none=>rw [h3] at h;cases h
        |some z =>
         rw [h3] at h
         cases h4:allS (own1 σ.mem) cs with
         |none=>rw [h4] at h;cases h
         |some zs =>
          rw [h4] at h
          simp only [sI] at h
          subst h
          rw [srcs_one,lA,srcs_own1 h3,ih zs h4];rfl
      exact this _ _ hcells
     refine ⟨own2_val hF ha.1 h1 fun i p E hp hE=>hM i p E ?_ ?_,own_valT hF vs xs _ ha.2 h2 fun i p E hp hE=>?_⟩
     ·rw [List.flatMap_cons,srcs_append,List.getElem?_append_left (List.getElem?_eq_some_iff.1 hp).1];exact hp
     ·rw [List.flatMap_cons,owns_append,List.getElem?_append_left (List.getElem?_eq_some_iff.1 hE).1];exact hE
     ·have:=hM (cntL x.cells+i) p E (by rw [List.flatMap_cons,srcs_append,List.getElem?_append_right (by omega),hl1,Nat.add_sub_cancel_left];exact hp) (by rw [List.flatMap_cons,owns_append,List.getElem?_append_right (by omega),hl2,Nat.add_sub_cancel_left];exact hE)
      rw [← Nat.add_assoc] at this
      exact this
end
open Go.RowKit
section
variable {P:Program} {E:Env} {C:Frm} {β:Nat→Option Loc} {σ:St} {as:List (Array Value)} {w w':World} {R:Type} {r:R}
def Told (m:List (Nat×Entry)) (p:Nat×Nat) (E:Entry):Prop:=∃ (t:Ty) (l0:List t.den) (n:Nat),look m p.1=some (.row t l0)∧p.2+n≤l0.length∧E=.row t ((l0.drop p.2).take n)
theorem told2 {v x:V} {y:Value} (hv:V2 (cx C β σ w) v y) (he:own2 σ.mem v=some x):All2 (Told σ.mem) (srcs v.cells) (owns x.cells):=by
 have hc:=(own2_cells he).1
 rcases V2.cases hv with ⟨cs,rfl,ys,rfl,ha⟩|⟨hag,h1⟩
 ·exact own_srcs (fun _ _ _ _=>trivial) _ _ ha hc
 ·have e1:v.cells=[v]:=by cases v <;> first|rfl|simp [V.isAgg] at hag
  rw [e1] at hc ⊢
  exact own_srcs (ys:=[y]) (fun _ _ _ _=>trivial) _ _ ⟨h1,trivial⟩ hc
theorem toldT:∀ (vs rs:List V) {ys:List Value},All2 (V2 (cx C β σ w)) vs ys→allS (own2 σ.mem) vs=some rs→All2 (Told σ.mem) (srcs (vs.flatMap V.cells)) (owns (rs.flatMap V.cells))
 | [],rs,ys,ha,he=>by
  simp only [allS,sI] at he
  subst he
  exact trivial
 |v::vs,rs,ys,ha,he=>by
  cases ys with
  |nil=>exact ha.elim
  |cons y ys =>
   simp only [allS] at he
   cases h1:own2 σ.mem v with
   |none=>rw [h1] at he;cases he
   |some x =>
    rw [h1] at he
    cases h2:allS (own2 σ.mem) vs with
    |none=>rw [h2] at he;cases he
    |some xs =>
     rw [h2] at he
     simp only [sI] at he
     subst he
     rw [List.flatMap_cons,List.flatMap_cons,srcs_append,owns_append]
     exact (told2 ha.1 h1).append (toldT vs xs ha.2 h2)
theorem nodupB_inj:∀ {l:List Nat},nodupB l=true→∀ {i j x:Nat},l[i]? = some x→l[j]? = some x→i=j
 | [],_,i,j,x,h,_=>by simp at h
 |a::l,hn,i,j,x,hi,hj=>by
  simp only [nodupB,bA,Bool.not_eq_true',List.contains_eq_mem,decide_eq_false_iff_not] at hn
  cases i with
  |zero =>
   cases j with
   |zero=>rfl
   |succ j =>
    simp only [List.getElem?_cons_zero,sI,List.getElem?_cons_succ] at hi hj
    subst hi
    exact absurd (List.mem_of_getElem? hj) hn.1
  |succ i =>
   cases j with
   |zero =>
    simp only [List.getElem?_cons_zero,sI,List.getElem?_cons_succ] at hi hj
    subst hj
    exact absurd (List.mem_of_getElem? hi) hn.1
   |succ j =>
    simp only [List.getElem?_cons_succ] at hi hj
    rw [nodupB_inj hn.2 hi hj]
def frmOf (B:Ty×Nat→Prop) (w:World):Frm:=⟨w,fun _=>False,fun g=>g.2<w.heap.size∧¬ B g,fun g hg=>⟨hg.1,fun h=>h⟩⟩
theorem give_sound {B:Ty×Nat→Prop} {w0:World} (h:Sim (frmOf B w0) β σ as w) {v x:V} {y:Value} (hv:V3 (cx (frmOf B w0) β σ w) v y) (he:give σ.mem v=some x):Ret B w0 w x y:=by
 unfold give at he
 obtain ⟨hnd,he'⟩:=cond_some he
 clear he
 have he:=he'
 clear he'
 have htold:All2 (Told σ.mem) (srcs v.flat) (owns x.flat):=by
  rcases V3.cases hv with ⟨vs,rfl,ys,rfl,ha⟩|⟨ht,h2⟩
  ·simp only [Option.map_eq_some_iff] at he
   obtain ⟨rs,he,rfl⟩:=he
   exact toldT vs rs ha he
  ·have he2:own2 σ.mem v=some x:=by cases v <;> first|exact he|simp [V.isTup] at ht
   have e1:v.flat=v.cells:=by cases v <;> first|rfl|simp [V.isTup] at ht
   have e2:x.flat=x.cells:=by
    have:=(own2_cells he2).2.2
    cases x <;> first|rfl|simp [V.isTup] at this
   rw [e1,e2]
   exact told2 h2 he2
 have hLs:∀ (k:Nat) L,((srcs v.flat).map (shiftL σ.mem β))[k]? = some (some L)→∃ p E L0,(srcs v.flat)[k]? = some p∧look σ.mem p.1=some E∧β p.1=some L0∧L.g=L0.g∧L.inn=noI:=by
  intro k L hL
  rw [List.getElem?_map,Option.map_eq_some_iff] at hL
  obtain ⟨p,hp,hs⟩:=hL
  unfold shiftL at hs
  split at hs
  ·rename_i t l hl
   rw [Option.map_eq_some_iff] at hs
   obtain ⟨L0,h0,rfl⟩:=hs
   exact ⟨p,_,L0,hp,hl,h0,rfl,rfl⟩
  ·cases hs
 have hF:∀ g,Free (frmOf B w0) σ.mem β w g→RetF B w0 w ((srcs v.flat).map (shiftL σ.mem β)) g:=by
  rintro g ⟨h1,h2⟩
  refine ⟨h1,?_,fun k L hL hg=>?_⟩
  ·by_cases hb:B g
   ·exact .inl hb
   ·rcases Nat.lt_or_ge g.2 w0.heap.size with h3|h3
    ·exact absurd (.inr (.inl ⟨h3,hb⟩)) h2
    ·exact .inr ⟨h3,fun hf=>h2 (.inr (.inr hf))⟩
  ·obtain ⟨p,E,L0,hp,hl,h0,hgg,_⟩:=hLs k L hL
   exact h2 (.inl ⟨p.1,L0,by rw [hl];rfl,h0,.inl (by rw [← hgg,hg])⟩)
 refine ⟨⟨h.frm.os,h.frm.tape,h.frm.output,h.frm.size,fun g hg=>h.frm.block g hg (fun hh=>hh)⟩,(srcs v.flat).map (shiftL σ.mem β),?_,?_,?_,?_,?_,?_⟩
 ·rw [List.length_map];exact htold.length
 ·intro nm
  have hM:∀ i p E,(srcs v.flat)[i]? = some p→(owns x.flat)[i]? = some E→look (addE nm (owns x.flat) []) (nm+i)=some E∧numβ nm ((srcs v.flat).map (shiftL σ.mem β)) (nm+i)=shiftL σ.mem β p:=by
   intro i p E hp hE
   constructor
   ·rw [look_addE,if_pos ⟨by omega,by have:=(List.getElem?_eq_some_iff.1 hE).1;omega⟩,Nat.add_sub_cancel_left];exact hE
   ·simp only [numβ]
    rw [if_pos (by omega),Nat.add_sub_cancel_left,List.getElem?_map,hp];rfl
  rcases V3.cases hv with ⟨vs,rfl,ys,rfl,ha⟩|⟨ht,h2⟩
  ·simp only [Option.map_eq_some_iff] at he
   obtain ⟨rs,he,rfl⟩:=he
   exact ⟨ys,rfl,own_valT hF vs rs nm ha he hM⟩
  ·have he2:own2 σ.mem v=some x:=by cases v <;> first|exact he|simp [V.isTup] at ht
   have e1:v.flat=v.cells:=by cases v <;> first|rfl|simp [V.isTup] at ht
   have hxt:=(own2_cells he2).2.2
   have e2:x.flat=x.cells:=by cases x <;> first|rfl|simp [V.isTup] at hxt
   have e3:relab nm x=relab2 nm x:=by cases x <;> first|rfl|simp [V.isTup] at hxt
   rw [e3]
   refine V3.of2 (own2_val hF h2 he2 fun i p E hp hE=>hM i p E (by rw [e1];exact hp) (by rw [e2];exact hE))
 ·intro k E hE
  obtain ⟨p,hp,t,l0,n,hl,hn,rfl⟩:=htold.getL hE
  have hlen:((l0.drop p.2).take n).length=n:=by simp;omega
  have hent:=h.ent p.1 _ hl
  have hjoin:(((srcs v.flat).map (shiftL σ.mem β))[k]?).join=shiftL σ.mem β p:=by rw [List.getElem?_map,hp];rfl
  rcases hent with ⟨h0,h1⟩|⟨L,cs,el,h1,h2,h3,h4,h5⟩
  ·have h1:β p.1=none:=h1
   refine .inl ⟨by subst h0;simp,?_⟩
   show (((srcs v.flat).map (shiftL σ.mem β))[k]?).join=none
   rw [hjoin,shiftL,hl,h1];rfl
  ·have h1:β p.1=some L:=h1
   refine .inr ⟨⟨L.g,L.base+p.2*t.size,L.cells,noI⟩,cs,el,?_,h2,h3,?_,fun i z hz=>?_⟩
   ·show (((srcs v.flat).map (shiftL σ.mem β))[k]?).join=_
    rw [hjoin,shiftL,hl,h1];rfl
   ·rw [hlen]
    show L.base+p.2*t.size+n*t.size≤L.cells
    have:=Nat.mul_le_mul_right t.size hn
    rw [Nat.add_mul] at this
    have h4:L.base+l0.length*t.size≤L.cells:=h4
    omega
   ·have hi:i<n:=by
     have:=(List.getElem?_eq_some_iff.1 hz).1
     omega
    rw [List.getElem?_take_of_lt hi,List.getElem?_drop] at hz
    obtain ⟨zs,hzs,hcell⟩:=h5 (p.2+i) z hz
    refine ⟨zs,hzs.mono hF (fun _ _=>rfl),fun j u hj=>?_⟩
    have:=hcell j u hj
    rw [← this]
    congr 1
    show L.base+p.2*t.size+i*t.size+j=_
    rw [Nat.add_mul];omega
 ·intro k k' L L' hL hL' hg
  obtain ⟨p,E,L0,hp,hl,h0,hgg,_⟩:=hLs k L hL
  obtain ⟨p',E',L0',hp',hl',h0',hgg',_⟩:=hLs k' L' hL'
  have he:p.1=p'.1:=h.inj p.1 p'.1 L0 L0' L0.g (by rw [hl];rfl) (by rw [hl'];rfl) h0 h0' L0.has_g (.inl (by rw [← hgg,← hgg',hg]))
  refine nodupB_inj hnd (x:=p.1) ?_ ?_
  ·rw [List.getElem?_map,hp];rfl
  ·rw [List.getElem?_map,hp',he];rfl
 ·intro k L hL
  obtain ⟨p,E,L0,hp,hl,h0,hgg,_⟩:=hLs k L hL
  rcases (h.own p.1 L0 _ (by rw [hl];rfl) h0 L0.has_g).2 with h1|h1
  ·rw [hgg];exact h1
  ·exact h1.elim
 ·intro k L hL
  obtain ⟨p,E,L0,hp,hl,h0,hgg,hin⟩:=hLs k L hL
  exact ⟨hin,by rw [hgg];exact (h.own p.1 L0 _ (by rw [hl];rfl) h0 L0.has_g).1⟩
theorem run_results_one {fn:Func} {t:Nat} (h:fn.results.toList=[ResultVar.tmp t]) (tmps:Array Value) (w:World):(results fn tmps).run P w=.ok (tmps.getD t undef) w:=by
 have:fn.results=#[ResultVar.tmp t]:=by rw [← Array.toList_inj,h]
 simp [results,this]
def resVar (tmps:Array Value):ResultVar→Sem Value
 |.tmp t=>pure (tmps.getD t undef)
 |.cell a t=>do loadVar t (← asAddr (tmps.getD a undef))
theorem results_eq (fn:Func) (tmps:Array Value):results fn tmps=(do
  let vs ← fn.results.mapM (resVar tmps)
  pure (if h:vs.size=1 then vs[0] else .tuple vs)):=rfl
theorem run_cellVar {tt:Nat→TI} (hT:TtOk P tt) {a:Array Value} (h:Sim C β σ (a::as) w) {t ty:Nat} {cs:List V} (hc:loadC σ (σ.get t) (tt ty).size=some cs) :
  ∃ y,(resVar a (.cell t ty)).run P w=.ok y w∧V3 (cx C β σ w) (asV (tt ty).agg cs) y:=by
 obtain ⟨ad,ys,hx,hn,hs,ha,hcell⟩:=loadC_rel h (h.get t) hc
 have hl:ys.length=(tt ty).size:=by rw [← ha.length,hn]
 have hr:=run_loadAt' hT hs hl hcell
 refine ⟨if (tt ty).agg then .agg ys.toArray else ys.headD undef,?_,?_⟩
 ·have hx':a.getD t undef=.pointer (some ad):=hx
  simp only [resVar,hx',Sem.run_bind,asAddr]
  simpa [Instr.loadAt,Instr.sureAddr] using hr
 ·have:=V3_asV (S:=cx C β σ w) (g:=(tt ty).agg) (cs:=cs) (ys:=ys.toArray) (by simpa using ha) (fun hg=>by rw [hn];exact hT.one ty hs hg)
  simpa using this
theorem resultVs_rel {tt:Nat→TI} (hT:TtOk P tt) {a:Array Value} (h:Sim C β σ (a::as) w):∀ {rs:List ResultVar} {vs:List V},resultVs tt σ rs=some vs →
  ∃ ys:List Value,(rs.mapM (resVar a)).run P w=.ok ys w∧All2 (V3 (cx C β σ w)) vs ys
 | [],vs,he=>by
  simp only [resultVs,sI] at he
  subst he
  exact ⟨[],rfl,trivial⟩
 |.tmp t::rs,vs,he=>by
  simp only [resultVs] at he
  cases h1:resultVs tt σ rs with
  |none=>rw [h1] at he;cases he
  |some us =>
   rw [h1] at he
   simp only [sI] at he
   subst he
   obtain ⟨ys,hy,ha⟩:=resultVs_rel hT h h1
   refine ⟨a.getD t undef::ys,?_,h.get t,ha⟩
   simp only [List.mapM_cons,resVar,Sem.run_bind,Sem.run_pure,Result.andThen_ok,hy]
 |.cell t ty::rs,vs,he=>by
  simp only [resultVs] at he
  split at he
  ·rename_i cs us h2 h1
   simp only [sI] at he
   subst he
   obtain ⟨ys,hy,ha⟩:=resultVs_rel hT h h1
   obtain ⟨y,hy1,hv⟩:=run_cellVar hT h h2
   refine ⟨y::ys,?_,hv,ha⟩
   simp only [List.mapM_cons,Sem.run_bind,hy1,Sem.run_pure,Result.andThen_ok,hy]
  ·cases he
theorem run_results {tt:Nat→TI} (hT:TtOk P tt) {a:Array Value} {fn:Func} {v:V} (h:Sim C β σ (a::as) w) (he:resultV tt σ fn=some v):∃ y,(results fn a).run P w=.ok y w∧V3 (cx C β σ w) v y:=by
 have gen:∀ vs,resultVs tt σ fn.results.toList=some vs→fn.results.toList.length ≠ 1→(∀ u∈vs,u.isTup=false)→∃ y,(results fn a).run P w=.ok y w∧V3 (cx C β σ w) (.tup vs) y:=by
  intro vs h1 h2 h3
  obtain ⟨ys,hy,ha⟩:=resultVs_rel hT h h1
  have hl:ys.length ≠ 1:=by
   rw [← ha.length]
   have:∀ (rs:List ResultVar) (vs:List V),resultVs tt σ rs=some vs→vs.length=rs.length:=by
    intro rs
    induction rs with
    |nil=>intro vs h;simp only [resultVs,sI] at h;subst h;rfl
    |cons x rs ih =>
     intro vs h
     cases x with
     |tmp t =>
      simp only [resultVs] at h
      cases h4:resultVs tt σ rs with
      |none=>rw [h4] at h;cases h
      |some us=>rw [h4] at h;simp only [sI] at h;subst h;simp [ih us h4]
     |cell t ty =>
      simp only [resultVs] at h
      split at h
      ·rename_i cs us h5 h4
       simp only [sI] at h
       subst h
       simp [ih us h4]
      ·cases h
   rw [this _ _ h1]
   exact h2
  refine ⟨.tuple ys.toArray,?_,ys.toArray,rfl,?_⟩
  ·rw [results_eq]
   simp only [Sem.run_bind,Array.mapM_eq_mapM_toList,Sem.run_map,hy]
   simp [hl]
  ·rw [List.toList_toArray]
   refine All2.mono_mem (fun u x hu hx=>?_) ha
   rcases V3.cases hx with ⟨_,rfl,_⟩|⟨_,h5⟩
   ·have:=h3 _ hu;simp [V.isTup] at this
   ·exact h5
 unfold resultV at he
 split at he
 ·rename_i h1
  injection he with he
  subst he
  exact gen [] (by rw [h1];rfl) (by rw [h1];simp) (by simp)
 ·rename_i t h1
  injection he with he
  subst he
  exact ⟨_,run_results_one h1 a w,h.get t⟩
 ·rename_i t ty h1
  split at he
  ·rename_i cs h2
   injection he with he
   subst he
   obtain ⟨y,hy,hv⟩:=run_cellVar hT h h2
   refine ⟨y,?_,hv⟩
   have:fn.results=#[ResultVar.cell t ty]:=by rw [← Array.toList_inj,h1]
   rw [results_eq,this]
   simp [hy]
  ·cases he
 ·rename_i h1 h2 h2c
  cases h3:resultVs tt σ fn.results.toList with
  |none=>rw [h3] at he;cases he
  |some vs =>
   rw [h3] at he
   obtain ⟨hu,he⟩:=cond_some he
   injection he with he
   subst he
   refine gen vs h3 ?_ fun u hu'=>?_
   rotate_left
   ·have:=List.all_eq_true.1 hu u hu'
    cases u <;> first|rfl|simp [untup] at this
   intro hl
   cases hr:fn.results.toList with
   |nil=>rw [hr] at hl;cases hl
   |cons x rs =>
    rw [hr] at hl
    simp only [List.length_cons,Nat.add_eq_right,List.length_eq_zero_iff] at hl
    subst hl
    cases x with
    |tmp t=>exact h2 t hr
    |cell t ty=>exact h2c t ty hr
end
open Go.RowKit
def SumsOk (P:Program) (E:Env):Prop:=∀ g s,lookS E.sums g=some s→SumOk P g s
def InlOk (P:Program) (E:Env):Prop:=∀ g fn,lookF E.inl g=some fn→P.funcs[g]? = some fn∧(fn.name == "runtime.NumGoroutine")=false
section
variable {P:Program} {E:Env} {C:Frm} {β:Nat→Option Loc} {σ:St} {as:List (Array Value)} {w w':World} {R:Type} {r:R}
theorem entry_rel {S:Cx} {fn:Func} {vs:List V} {xs:Array Value} (h:All2 (V3 S) vs xs.toList):FrRel S (entry fn vs) (xs++Array.replicate (fn.ntmps - xs.size) undef):=by
 have hl:=h.length
 simp only [Array.length_toList] at hl
 refine ⟨by simp [entry,hl],fun t=>?_⟩
 unfold entry
 rw [List.getD_eq_getElem?_getD,Array.getD_eq_getD_getElem?]
 by_cases ht:t<vs.length
 ·rw [List.getElem?_append_left ht,Array.getElem?_append_left (by omega)]
  obtain ⟨y,hy,hv⟩:=h.get (gE ht)
  rw [gE ht]
  simp only [Array.getElem?_toList] at hy
  rw [hy]
  exact hv
 ·rw [List.getElem?_append_right (by omega)]
  have:(List.replicate (fn.ntmps - vs.length) V.undef)[t - vs.length]?.getD .undef=.undef:=by
   rw [List.getElem?_replicate]
   split <;> rfl
  rw [this]
  exact V3.undef
theorem retK_sound {tt:Nat→TI} (hT:TtOk P tt) {fn:Func} {K:V→St→Option R} {tmps:Array Value} {e:Exit} {a:Act} {w:World} (h:Good C (tmps::as) (retK tt fn K) r e a w) :
  bodyPost P fn (fun e w'=>∃ x,e=.returned x∧∃ β' σ' v,Sim C β' σ' (tmps::as) w'∧V3 (cx C β' σ' w') v x∧K v σ'=some r) e a w:=by
 obtain ⟨hd,β,σ,hs,he⟩:=h
 have key:(match resultV tt σ fn with
  |some v=>match σ.outs with
   |fr::outs=>K v { fr:=fr,outs:=outs,mem:=σ.mem }
   | []=>none
  |none=>none)=some r→a.defers=[]∧∃ v,(results fn a.tmps).run P w=.ok v w∧(∃ x,Ending.returned v=.returned x∧∃ β' σ' u,Sim C β' σ' (tmps::as) w∧V3 (cx C β' σ' w) u x∧K u σ'=some r):=by
  intro he
  refine ⟨hd,?_⟩
  cases hv:resultV tt σ fn with
  |none=>rw [hv] at he;cases he
  |some v =>
   rw [hv] at he
   obtain ⟨y,hy,hvy⟩:=run_results hT hs hv
   cases ho:σ.outs with
   |nil=>rw [ho] at he;cases he
   |cons fr outs =>
    rw [ho] at he
    refine ⟨y,hy,y,rfl,β,{ fr:=fr,outs:=outs,mem:=σ.mem },v,?_,hvy,he⟩
    have h2:=hs.fr.2
    rw [ho] at h2
    exact ⟨hs.frm,h2,hs.ent,hs.inj,hs.own⟩
 cases e with
 |normal=>exact key he
 |ret=>exact key he
 |_=>simp [retK] at he
theorem bodyPost_less {fn:Func} {Q Q':Ending→World→Prop} {e:Exit} {a:Act} {w:World} (h:bodyPost P fn Q e a w) (hq:∀ e w,Q e w→Q' e w):bodyPost P fn Q' e a w:=by
 cases e <;> first
  |exact h
  |exact hq _ _ h
  |exact ⟨h.1,hq _ _ h.2⟩
  |exact ⟨h.1,h.2.imp fun v hv=>⟨hv.1,hq _ _ hv.2⟩⟩
theorem retN_sound {nm:Nat} {K:V→St→Option R} {v:V} {x:Value} (h:Sim C β σ as w) (hv:V3 (cx C β σ w) v x) (he:retN nm K v σ=some r) :
  ∃ β' σ' v',Sim C β' σ' as w∧V3 (cx C β' σ' w) v' x∧K v' σ'=some r:=by
 have h1:Sim C β { fr:=[v],outs:=σ.fr::σ.outs,mem:=σ.mem } (#[x]::as) w:=by
  refine ⟨h.frm,⟨⟨by simp,fun t=>?_⟩,h.fr⟩,h.ent,h.inj,h.own⟩
  cases t with
  |zero=>exact hv
  |succ t=>exact V3.undef
 obtain ⟨β',h2⟩:=Sim.nameCells (base:=nm / 64) (res:=8) v.flat (c:=0) h1
 unfold retN at he
 simp only [] at he
 split at he
 ·rename_i v' fr outs hf ho
  have h3:=h2.fr
  rw [hf,ho] at h3
  exact ⟨β',{ fr:=fr,outs:=outs,mem:=(nameCells (nm / 64) 8 0 v.flat { fr:=[v],outs:=σ.fr::σ.outs,mem:=σ.mem }).mem },v',⟨h2.frm,h3.2,h2.ent,h2.inj,h2.own⟩,h3.1.2 0,he⟩
 ·cases he
theorem callD_sound (hT:TtOk P E.tt) (hS:SumsOk P E) (hI:InlOk P E) (hD:∀ H:Handler R,HOk P C H r→DrawOk P E C H r):∀ (c d:Nat),HOk P C (callD (R:=R) E c d) r
 |0,d=>by
  intro as β σ tmps w g nm vs xs K h hv he
  unfold callD at he
  split at he
  ·rename_i s hs
   exact callS_sound (hS g s hs) h hv he
  ·cases he
 |c+1,d=>by
  intro as β σ tmps w g nm vs xs K h hv he
  unfold callD at he
  split at he
  ·rename_i s hs
   exact callS_sound (hS g s hs) h hv he
  ·split at he
   ·rename_i fn hf
    split at he
    ·rename_i code hb
     obtain ⟨hP,hn⟩:=hI g fn hf
     refine ⟨run_enter ⟨fn,code,hP,hn,hb⟩ xs w,calls_of_wp hP hb ?_⟩
     have ih:=callD_sound hT hS hI hD c (d+1)
     have hk:Sim C β { fr:=(doGhost σ (.kill (E.dead g nm))).fr,outs:=σ.outs,mem:=σ.mem } (tmps::as) w:=by
      have:∀ (ts:List Nat) (σ1:St),σ1.outs=σ.outs→σ1.mem=σ.mem→Sim C β σ1 (tmps::as) w→Sim C β { fr:=(ts.foldl (fun σ t=>σ.set t .undef) σ1).fr,outs:=σ.outs,mem:=σ.mem } (tmps::as) w:=by
       intro ts
       induction ts with
       |nil =>
        intro σ1 h1 h2 h3
        cases σ1
        simp only [] at h1 h2
        subst h1;subst h2
        exact h3
       |cons t ts ih=>intro σ1 h1 h2 h3;exact ih (σ1.set t .undef) h1 h2 (h3.setUndef t)
      exact this _ σ rfl rfl h
     have hsim:Sim C β { fr:=entry fn vs,outs:=(doGhost σ (.kill (E.dead g nm))).fr::σ.outs,mem:=σ.mem } ((xs++Array.replicate (fn.ntmps - xs.size) undef)::tmps::as) w :=
      ⟨h.frm,⟨entry_rel hv,hk.fr⟩,h.ent,h.inj,h.own⟩
     exact wp_mono (evCode_sound hT ih (hD _ ih) code (retK E.tt fn (retN nm K)) β _ { tmps:=xs++Array.replicate (fn.ntmps - xs.size) undef,defers:=[] } w hsim rfl he) fun e a' w' hg=>bodyPost_less (retK_sound hT hg) fun e w' ⟨x,ex,β',σ',u,h1,h2,h3⟩=>by
      obtain ⟨β2,σ2,v2,g1,g2,g3⟩:=retN_sound h1 h2 h3
      exact ⟨x,ex,β2,σ2,v2,g1,g2,g3⟩
    ·cases he
   ·cases he
theorem Sim.unnest (h:Sim C β σ as w) {v:V} {y:Value} (hv:V3 (cx C β σ w) v y):∃ β',Sim C β' (Go.Proofs.YtkflbkcfabnomaaGreat.R.unnest σ v) as w∧V3 (cx C β' (Go.Proofs.YtkflbkcfabnomaaGreat.R.unnest σ v) w) v y:=by
 unfold Go.Proofs.YtkflbkcfabnomaaGreat.R.unnest
 split
 rotate_left
 ·exact ⟨β,h,hv⟩
 rename_i e
 split
 rotate_left
 ·exact ⟨β,h,hv⟩
 rename_i t ll hl
 simp only []
 rcases hv with ⟨t',l',hl',_⟩|⟨E',n,hl',hw,hs⟩
 ·have hl':=hl.symm.trans hl';cases hl'
 have hl':=hl.symm.trans hl'
 injection hl' with hl'
 subst hl'
 injection hw with hw
 subst hw
 obtain ⟨L,cs,el,hL,h2,h3,h4,h5,h6,h7⟩:=h.ent e _ hl
 have hL:β e=some L:=hL
 have h2:w.heap[L.g]? = some (.cells cs el (0,0)):=h2
 generalize hm':updE (σ.map1 (killSl e)).mem e (.row (.list t) ll)=m'
 generalize hβ':setβ β e (some ⟨L.g,L.base,L.cells,noI⟩)=β'
 have lk:∀ e',look m' e'=if e'=e then some (.row (.list t) ll) else (look σ.mem e').map (Entry.map1 (killSl e)):=by
  intro e'
  rw [← hm',look_updE]
  show (if e=e'∧(look (σ.mem.map fun p=>(p.1,p.2.map1 (killSl e))) e).isSome=true then _ else look (σ.mem.map fun p=>(p.1,p.2.map1 (killSl e))) e')=_
  rw [look_map,look_map,hl]
  by_cases k2:e'=e
  ·subst k2;simp
  ·simp [k2,Ne.symm k2]
 have b1:β' e=some ⟨L.g,L.base,L.cells,noI⟩:=by rw [← hβ'];simp [setβ]
 have b2:∀ e',e' ≠ e→β' e'=β e':=fun e' hh=>by rw [← hβ'];simp [setβ,hh]
 have hsub:∀ e',(look m' e').isSome=true→(look σ.mem e').isSome=true:=by
  intro e' k
  rw [lk] at k
  by_cases q:e'=e
  ·rw [q,hl];rfl
  ·rw [if_neg q] at k;simpa using k
 have hm:∀ e',(look m' e').isSome=true→(look σ.mem (id e')).isSome=true∧∀ L',β' e'=some L'→∃ L,β (id e')=some L∧∀ g,L'.has g→L.has g:=by
  intro e' k
  refine ⟨hsub e' k,fun L' k2=>?_⟩
  by_cases q:e'=e
  ·subst q
   rw [b1] at k2
   injection k2 with k2
   subst k2
   exact ⟨L,hL,fun g hg=>.inl (Loc.has_noI hg)⟩
  ·rw [b2 e' q] at k2
   exact ⟨L',k2,fun _ hg=>hg⟩
 have hF:∀ gg,Free C σ.mem β w gg→Free C m' β' w gg:=by
  rintro gg ⟨k1,k2⟩
  refine ⟨k1,fun hoh=>k2 (hoh.imp_left ?_)⟩
  rintro ⟨e',L1,k3,k4,k5⟩
  obtain ⟨k6,k7⟩:=hm e' k3
  obtain ⟨L2,k8,k9⟩:=k7 L1 k4
  exact ⟨e',L2,k6,k8,k9 _ k5⟩
 have key:∀ v x,V0 (cx C β σ w) v x→V0 ⟨m',β',Free C m' β' w,w⟩ (killSl e v) x:=by
  intro v x hv
  by_cases hr:refOf v=some e
  ·cases v <;> simp only [refOf,sI,reduceCtorEq] at hr <;> rw [hr] at hv ⊢
   ·rcases hv with ⟨t',l',hl',_⟩|⟨E',n,hl',hw,hs⟩
    ·have hl':=hl.symm.trans hl';cases hl'
    ·have hl':=hl.symm.trans hl'
     injection hl' with hl'
     subst hl'
     injection hw with hw
     subst hw
     refine .inl ⟨.list t,ll,by rw [lk,if_pos rfl],?_⟩
     have hs:SlAt (β e) 1 0 ll.length x:=hs
     rw [hL] at hs
     show SlAt (β' e) 1 0 ll.length x
     rw [b1]
     exact hs.loc rfl rfl rfl
   ·simp only [killSl,beq_self_eq_true,cond_true]
    exact trivial
   ·obtain ⟨E',L1,hl',hL',hx⟩:=hv
    have hl':=hl.symm.trans hl'
    injection hl' with hl'
    subst hl'
    have hL':=hL.symm.trans hL'
    injection hL' with hL'
    subst hL'
    obtain ⟨k1,k2,k3⟩:=hx
    refine ⟨.row (.list t) ll,_,by rw [lk,if_pos rfl],b1,k1,by rw [k2];exact Nat.zero_le _,?_⟩
    rw [k3,k2]
    simp [Ty.size]
  ·rw [killSl_other hr]
   refine V0.other (S:=cx C β σ w) (S':=⟨m',β',Free C m' β' w,w⟩) (g:=killSl e) hF (fun _ _=>rfl) hv fun e' he'=>?_
   have q1:e' ≠ e:=fun hh=>hr (by rw [he',hh])
   exact ⟨by rw [lk,if_neg q1],b2 e' q1⟩
 refine ⟨β',?_,?_⟩
 ·have:=h.map (killSl e) m' β' id rfl hm (fun _ _ _ _ hh=>hh) (fun _=>key) fun _ e' E' hE=>?_
  ·subst hm'
   exact this
  rw [lk] at hE
  by_cases q:e'=e
  ·subst q
   rw [if_pos rfl] at hE
   injection hE with hE
   subst hE
   refine .inr ⟨_,cs,el,b1,h2,h3,by simpa [Ty.size] using h4,fun i l hi=>?_⟩
   obtain ⟨hrow,z,hz,A,c,rfl,hc,hcase⟩:=h7 i l hi (by simp)
   refine ⟨[.slice A l.length c],⟨A,c,rfl,hc,fun q x hx=>?_⟩,fun j z hj=>?_⟩
   ·have hq:=(List.getElem?_eq_some_iff.1 hx).1
    rcases hrow with ⟨k1,_⟩|⟨Li,cs2,el2,k1,k2,k3,k4,k5⟩
    ·rw [k1] at hq;cases hq
    rcases hcase with k6|⟨L1,k6,k7,k8⟩
    ·omega
    have k9:=k1.symm.trans k6
    injection k9 with k9
    subst k9
    have k2:w.heap[Li.g]? = some (.cells cs2 el2 (0,0)):=k2
    obtain ⟨p,kp,kpg⟩:=Loc.inner_has k1 Li.has_g
    have hLi:L.has Li.g:=.inr ⟨i,p,kp,kpg⟩
    have hne:L.g ≠ Li.g:=by rw [← kpg];exact fun hh=>(h5 i p kp).1 hh.symm
    have hfree:Free C m' β' w (t,Li.g):=by
     have ho:=h.own e' L Li.g (by rw [hl];rfl) hL hLi
     refine ⟨ho.1,?_⟩
     rintro (⟨e2,L2,r1,r2,r3⟩|hh|hh)
     ·by_cases q2:e2=e'
      ·subst q2
       rw [b1] at r2
       injection r2 with r2
       subst r2
       exact hne (Loc.has_noI r3)
      ·rw [b2 e2 q2] at r2
       exact q2 (h.inj e2 e' L2 L Li.g (hsub e2 r1) (by rw [hl];rfl) r2 hL r3 hLi)
     ·have:=C.hidOk _ hh
      rcases ho.2 with r|r
      ·have:Li.g<C.w0.heap.size:=this.1
       omega
      ·exact this.2 r
     ·exact hh.not k2
    obtain ⟨zs,r1,r2⟩:=k5 q x hx
    refine ⟨_,zs,k7,hfree,r1.mono hF (fun _ _=>rfl),fun j z hj=>?_⟩
    rw [Addr.add_mid,cell_of_row w Li.g _ cs2 el2 (0,0) k2]
    have:=r2 j z hj
    rw [← this]
    congr 1
    omega
   ·cases j with
    |zero =>
     simp only [List.getElem?_cons_zero,sI] at hj
     subst hj
     simpa [Ty.size] using hz
    |succ j=>simp at hj
  ·rw [if_neg q] at hE
   cases hl':look σ.mem e' with
   |none=>simp [hl'] at hE
   |some E1 =>
    simp only [hl',Option.map_some,sI] at hE
    subst hE
    exact (h.ent e' E1 hl').map (S:=cx C β σ w) (S':=⟨m',β',Free C m' β' w,w⟩) (e:=e') key hF (fun _ _=>rfl) (fun _ _ _ _=>rfl) (b2 e' q)
 ·have:=key (.slw e) y (.inr ⟨_,_,hl,rfl,hs⟩)
  subst hm'
  exact V3.of0 this
theorem Keeps.refl (S:Cx):Keeps S S:=⟨fun e E hE=>⟨E,hE,E.like_refl⟩,fun _ _=>rfl,fun _ hg=>hg,fun _ _=>rfl⟩
theorem like_trans {a b c:Entry} (h:a.like b) (h':b.like c):a.like c:=by
 cases a with
 |row t l =>
  cases b <;> simp only [Entry.like] at h
  cases c <;> simp only [Entry.like] at h'
  obtain ⟨rfl,h1,_⟩:=h
  obtain ⟨rfl,h2,_⟩:=h'
  exact ⟨rfl,h1.trans h2,rfl⟩
 |box cs =>
  cases b <;> simp only [Entry.like] at h
  cases c <;> simp only [Entry.like] at h'
  exact Eq.trans h h'
 |nest t ll k =>
  have h:b=.nest t ll k:=h
  subst h
  exact h'
theorem Keeps.trans {S S' S'':Cx} (h:Keeps S S') (h':Keeps S' S''):Keeps S S'':=by
 refine ⟨fun e E hE=>?_,fun e he=>?_,fun g hg=>h'.B g (h.B g hg),fun g hg=>(h'.w g (h.B g hg)).trans (h.w g hg)⟩
 ·obtain ⟨E',h1,h2⟩:=h.m e E hE
  obtain ⟨E'',h3,h4⟩:=h'.m e E' h1
  exact ⟨E'',h3,like_trans h2 h4⟩
 ·obtain ⟨E,hE⟩:=Option.isSome_iff_exists.1 he
  obtain ⟨E',h1,_⟩:=h.m e E hE
  rw [h'.β e (by rw [h1];rfl),h.β e he]
theorem keep_newNil (h:Sim C β σ as w) {nm:Nat} {t:Ty} (hn:look σ.mem nm=none):Sim C (setβ β nm none) (σ.new nm (.row t [])) as w∧Keeps (cx C β σ w) (cx C (setβ β nm none) (σ.new nm (.row t [])) w):=by
 obtain ⟨h1,h2⟩:=h.newNil nm t
 have hc:σ.clear nm=σ:=by unfold St.clear;rw [hn];rfl
 rw [hc] at h2
 exact ⟨h1,h2⟩
theorem fixCells_sound {G:Prop}:∀ (nm:Nat) (ts:List (Option Ty)) (vs:List V) {β:Nat→Option Loc} {σ:St} {ys:List Value} {K:Nat→List V→St→Option R},Sim C β σ as w→All2 (V1 (cx C β σ w)) vs ys →
  (∀ nm' vs' σ' β',Sim C β' σ' as w→Keeps (cx C β σ w) (cx C β' σ' w)→All2 (V1 (cx C β' σ' w)) vs' ys→K nm' vs' σ'=some r→G)→fixCells nm ts vs σ K=some r→G
 |nm,ts,[],β,σ,ys,K,h,ha,hK,he=>by
  have:fixCells nm ts [] σ K=K nm [] σ:=by cases ts with
   |nil=>rfl
   |cons t ts=>cases t <;> rfl
  rw [this] at he
  exact hK _ _ _ _ h (Keeps.refl _) ha he
 |nm,[],v::vs,β,σ,ys,K,h,ha,hK,he=>hK _ _ _ _ h (Keeps.refl _) ha he
 |nm,t::ts,v::vs,β,σ,ys,K,h,ha,hK,he=>by
  cases ys with
  |nil=>exact ha.elim
  |cons y ys =>
  have other:fixCells nm ts vs σ (fun nm' vs' σ'=>K nm' (v::vs') σ')=some r→G:=fun he =>
   fixCells_sound nm ts vs h ha.2 (fun nm' vs' σ' β' h1 h2 h3 h4=>hK nm' (v::vs') σ' β' h1 h2 ⟨ha.1.keeps h2,h3⟩ h4) he
  cases t with
  |none=>exact other (by cases v <;> exact he)
  |some t =>
   by_cases hv:v=.nil
   ·subst hv
    unfold fixCells at he
    obtain ⟨hn,he⟩:=cond_some he
    have hn:look σ.mem nm=none:=by simpa using hn
    obtain ⟨h1,h2⟩:=keep_newNil (t:=t) h hn
    have hy:y=.slice none 0 0:=ha.1
    refine fixCells_sound (nm+1) ts vs h1 (ha.2.mono fun _ _ hh=>hh.keeps h2) (fun nm' vs' σ' β' k1 k2 k3 k4=>hK nm' (.slw nm::vs') σ' β' k1 (h2.trans k2) ⟨?_,k3⟩ k4) he
    have:V1 (cx C (setβ β nm none) (σ.new nm (.row t [])) w) (.slw nm) y:=V1.of0 (.inl ⟨t,[],by simp [St.new,look_cons],none,0,hy,Nat.le_refl _,.inl rfl⟩)
    exact this.keeps k2
   ·exact other (by cases v <;> first|exact he|exact absurd rfl hv)
theorem fixTup_sound {G:Prop} {tt:Nat→TI}:∀ (nm:Nat) (ts:List Nat) (vs:List V) {β:Nat→Option Loc} {σ:St} {ys:List Value} {K:List V→St→Option R},Sim C β σ as w→All2 (V2 (cx C β σ w)) vs ys →
  (∀ vs' σ' β',Sim C β' σ' as w→Keeps (cx C β σ w) (cx C β' σ' w)→All2 (V2 (cx C β' σ' w)) vs' ys→K vs' σ'=some r→G)→fixTup tt nm ts vs σ K=some r→G
 |nm,ts,[],β,σ,ys,K,h,ha,hK,he=>by
  have:fixTup tt nm ts [] σ K=K [] σ:=by cases ts <;> rfl
  rw [this] at he
  exact hK _ _ _ h (Keeps.refl _) ha he
 |nm,[],v::vs,β,σ,ys,K,h,ha,hK,he=>hK _ _ _ h (Keeps.refl _) ha he
 |nm,t::ts,v::vs,β,σ,ys,K,h,ha,hK,he=>by
  cases ys with
  |nil=>exact ha.elim
  |cons y ys =>
  have other:fixTup tt nm ts vs σ (fun vs' σ'=>K (v::vs') σ')=some r→G:=fun he =>
   fixTup_sound nm ts vs h ha.2 (fun vs' σ' β' h1 h2 h3 h4=>hK (v::vs') σ' β' h1 h2 ⟨ha.1.keeps h2,h3⟩ h4) he
  by_cases hv:v.isAgg=true
  ·cases v <;> simp only [V.isAgg,Bool.false_eq_true] at hv
   rename_i cs
   obtain ⟨us,hy,hu⟩:=ha.1
   unfold fixTup at he
   refine fixCells_sound nm _ cs h hu (fun nm' cs' σ' β' k1 k2 k3 k4=>?_) he
   exact fixTup_sound nm' ts vs k1 (ha.2.mono fun _ _ hh=>hh.keeps k2) (fun vs' σ'' β'' q1 q2 q3 q4=>hK (.agg cs'::vs') σ'' β'' q1 (k2.trans q2) ⟨⟨us,hy,k3.mono fun _ _ hh=>hh.keeps q2⟩,q3⟩ q4) k4
  ·exact other (by cases v <;> first|exact he|simp [V.isAgg] at hv)
theorem fixV_sound {G:Prop} {tt:Nat→TI} {fn:Func} {v:V} {y:Value} {K:V→St→Option R} (h:Sim C β σ as w) (hv:V3 (cx C β σ w) v y) (hK:∀ v' σ' β',Sim C β' σ' as w→V3 (cx C β' σ' w) v' y→K v' σ'=some r→G) (he:fixV tt fn v σ K=some r):G:=by
 unfold fixV at he
 split at he
 ·rename_i cs ty _
  obtain ⟨us,hy,hu⟩:=hv
  exact fixCells_sound _ _ cs h hu (fun nm' cs' σ' β' k1 k2 k3 k4=>hK (.agg cs') σ' β' k1 ⟨us,hy,k3⟩ k4) he
 ·obtain ⟨us,hy,hu⟩:=hv
  exact fixTup_sound _ _ _ h hu (fun vs' σ' β' k1 k2 k3 k4=>hK (.tup vs') σ' β' k1 ⟨us,hy,k3⟩ k4) he
 ·exact hK _ _ _ h hv he
theorem finK_sound {tt:Nat→TI} (hT:TtOk P tt) {B:Ty×Nat→Prop} {w0:World} {fn:Func} {v:V} {e:Exit} {a:Act} (h:Good (frmOf B w0) [] (finK tt fn) v e a w):bodyPost P fn (fun e w'=>∃ y,e=.returned y∧Ret B w0 w' v y) e a w:=by
 obtain ⟨hd,β,σ,hs,he⟩:=h
 have key:(match resultV tt σ fn with
  |some v=>fixV tt fn v σ fun v σ=>give (unnest σ v).mem v
  |none=>none)=some v→a.defers=[]∧∃ x,(results fn a.tmps).run P w=.ok x w∧(∃ y,Ending.returned x=.returned y∧Ret B w0 w v y):=by
  intro he
  refine ⟨hd,?_⟩
  cases hv:resultV tt σ fn with
  |none=>rw [hv] at he;cases he
  |some u =>
   rw [hv] at he
   obtain ⟨y,hy,hvy⟩:=run_results hT hs hv
   refine ⟨y,hy,y,rfl,fixV_sound hs hvy (fun v1 σ1 β1 k1 k2 k3=>?_) he⟩
   obtain ⟨β',hs',hv'⟩:=k1.unnest k2
   exact give_sound hs' hv' k3
 cases e with
 |normal=>exact key he
 |ret=>exact key he
 |_=>simp [finK] at he
theorem evFn_sound (hT:TtOk P E.tt) (hS:SumsOk P E) (hI:InlOk P E) (hD:∀ (C:Frm) (r:V) (H:Handler V),HOk P C H r→DrawOk P E C H r) {f:FuncId} {fn:Func} {code:Code} (hf:P.funcs[f]? = some fn) (hb:fn.body=some code) {c:Nat} {vs:List V} {v:V}
  (he:evFn E c f fn vs=some v) {B:Ty×Nat→Prop} {w:World} {xs:Array Value} (hB:∀ b,B b→b.2<w.heap.size) (hv:All2 (V3 (cxP B w)) vs xs.toList) :
  Calls P f xs w fun e w'=>∃ y,e=.returned y∧Ret B w w' v y:=by
 refine calls_of_wp hf hb ?_
 unfold evFn at he
 rw [hb] at he
 have hfree:∀ g,B g→Free (frmOf B w) [] (fun _=>none) w g:=by
  intro g hg
  refine ⟨hB g hg,?_⟩
  rintro (⟨e,L,h1,_⟩|hh)
  ·cases h1
  ·rcases hh with hh|hh
   ·exact hh.2 hg
   ·have h1:=hh.1
    have h2:=hB g hg
    have h3:(frmOf B w).w0.heap.size=w.heap.size:=rfl
    omega
 have hsim:Sim (frmOf B w) (fun _=>none) { fr:=entry fn vs,outs:=[],mem:=[] } [(xs++Array.replicate (fn.ntmps - xs.size) undef)] w:=by
  refine ⟨⟨rfl,rfl,rfl,Nat.le_refl _,fun _ _ _=>rfl⟩,⟨entry_rel (hv.mono fun a b hab=>?_),trivial⟩,(fun e E hE=>by cases hE),(fun e e' L L' g h1=>by cases h1),(fun e L g h1=>by cases h1)⟩
  exact V3.keeps (S:=cxP B w) (S':=⟨[],fun _=>none,Free (frmOf B w) [] (fun _=>none) w,w⟩) ⟨(fun e E hE=>by cases hE),(fun _ _=>rfl),hfree,(fun _ _=>rfl)⟩ hab
 have hH:=callD_sound (C:=frmOf B w) (R:=V) (r:=v) hT hS hI (hD _ _) c 0
 exact wp_mono (evCode_sound hT hH (hD _ _ _ hH) code (finK E.tt fn) _ _ { tmps:=xs++Array.replicate (fn.ntmps - xs.size) undef,defers:=[] } w hsim rfl he) fun e a' w' hg=>finK_sound hT hg
end
end
end Go.Proofs.YtkflbkcfabnomaaGreat.R
