/-
  Part of a proof: Go functions read by values, trees of functions, their contracts.
-/
import Derived.Test.YtoakmmapeedenaaGreatDoorP1
set_option linter.unusedVariables false
set_option linter.unusedSimpArgs false
open Bool renaming and_eq_true→ai,not_eq_true'→bx,or_eq_true→br,true_and→bI
open List renaming all_cons→cn,all_eq_true→bg,any_eq_true→bB,drop_zero→bw,flatMap_cons→aV,getD_cons_zero→aQ,getD_eq_getElem?_getD→aa,getElem?_append→aL,getElem?_drop→bV,getElem?_eq_getElem→aO,getElem?_eq_some_iff→bO,getElem_mem→cc,length_append→aq,length_cons→aw,length_drop→bh,length_map→bQ,length_nil→aM,map_append→bJ,map_cons→aS,mem_append→aC,mem_append_left→ao,mem_append_right→ak,mem_cons→aB,mem_cons_of_mem→af,mem_cons_self→ae,mem_flatMap→cB,mem_map→bp,mem_singleton→aR,nil_append→bc,range→aP
open Nat renaming add_zero→bo,beq→az,beq_refl→dx,ble→eE,blt→bS,eq_of_beq_eq_true→au,le_of_ble_eq_true→aF,le_refl→an,lt_of_lt_of_le→cx,zero_add→aK,zero_le→dj
open Option renaming map_some→cK
namespace Go.VL
open Go Go.RowKit
section
variable {P:Program} {M:Mem} {β:Lo} {w w':World} {n:Nat} {A:iA} {s:St} {a:Act}
theorem iw{ob:Nat->Option Ob}:∀(ks:List CK) {cs asq:List AV} {obs:List Ob} {os:List Nat} {j:Nat},bq ob ks cs j=some (asq,obs,os)->os.length=obs.length/\(∀x,x∈obs->∃z es,x=.vec z es)/\∀q,q<obs.length->os.getD q 0<dQ->∃x,ob (os.getD q 0)=some x
 |
  [],cs,asq,obs,os,j,h=>by
  cases cs with
  |nil=>simp only[bq,Option.some.injEq,Prod.mk.injEq]at h;obtain⟨rfl,rfl,rfl⟩:=h;exact⟨rfl,fun x hx=>(by cases hx),fun q hq=>(by simp at hq)⟩
  |cons c cs=>simp[bq]at h
 |
  .lk k::ks,cs,asq,obs,os,j,h=>by
  cases cs with
  |nil=>simp[bq]at h
  |
   cons c cs =>
   simp only[bq]at h
   split at h
   ·rename_i h1 h2;cases h;exact iw ks h2
   ·cases h
 |
  .vec hsz::ks,cs,asq,obs,os,j,h=>by
  have add:∀(z:Nat) (es:List (List AV)) (o:Nat) (obs1:List Ob) (os1:List Nat),(o<dQ->∃x,ob o=some x)->(os1.length=obs1.length/\(∀x,x∈obs1->∃z es,x=.vec z es)/\∀q,q<obs1.length->os1.getD q 0<dQ->∃x,ob (os1.getD q 0)=some x)->((o::os1).length=(Ob.vec z es::obs1).length/\(∀x,x∈Ob.vec z es::obs1->∃z es,x=.vec z es)/\∀q,q<(Ob.vec z es::obs1).length->(o::os1).getD q 0<dQ->∃x,ob ((o::os1).getD q 0)=some x):=fun z es o obs1 os1 ho hh =>
   ⟨by simp[hh.1],fun x hx=>(by
    rcases aB.1 hx with rfl|hx
    ·exact⟨z,es,rfl⟩
    ·exact hh.2.1 x hx),fun q hq hlt=>(by
    cases q with
    |zero=>simpa using ho (by simpa using hlt)
    |succ q=>simpa using hh.2.2 q (by simpa using hq) (by simpa using hlt))⟩
  cases cs with
  |nil=>simp[bq]at h
  |
   cons c cs =>
   cases c<;>first|(simp[bq]at h;done)|skip
   ·rename_i x
    cases x<;>first|(simp[bq]at h;done)|skip
    rename_i ad ln cp
    cases ad<;>first|(simp[bq]at h;done)|skip
    cases ln<;>first|(simp[bq]at h;done)|skip
    cases cp<;>first|(simp[bq]at h;done)|skip
    simp only[bq]at h
    split at h
    ·rename_i h2;cases h;exact add _ _ _ _ _ (fun hlt=>by omega) (iw ks h2)
    ·cases h
   ·simp only[bq]at h
    split at h
    ·rename_i h1 h2;cases h;exact add _ _ _ _ _ (fun _=>⟨_,h1⟩) (iw ks h2)
    ·cases h
def Nm(ob:Nat->Option Ob)(os:List Nat)(obs:List Ob):Prop:=os.length=obs.length/\∀q,q<obs.length->(obs.getD q .dead).live=true/\(∀cs,obs.getD q .dead=.cells cs->∃cs',ob (os.getD q 0)=some (.cells cs'))/\(os.getD q 0<dQ->∃x,ob (os.getD q 0)=some x)
theorem Nm.app{ob:Nat->Option Ob}{os os':List Nat}{obs obs':List Ob}(h:Nm ob os obs)(h':Nm ob os' obs'):Nm ob (os++os') (obs++obs'):=by
 refine⟨by simp[h.1,h'.1],fun q hq=>?_⟩
 by_cases hlt:q<obs.length
 ·have e1:(obs++obs').getD q .dead=obs.getD q .dead:=by simp[aa,aL,hlt]
  have e2:(os++os').getD q 0=os.getD q 0:=by simp[aa,aL,h.1,hlt]
  rw[e1,e2];exact h.2 q hlt
 ·have e1:(obs++obs').getD q .dead=obs'.getD (q-obs.length) .dead:=by simp[aa,aL,hlt]
  have e2:(os++os').getD q 0=os'.getD (q-obs.length) 0:=by simp[aa,aL,h.1,hlt]
  rw[e1,e2];exact h'.2 _ (by simp at hq;omega)
theorem Nm.nil{ob:Nat->Option Ob}:Nm ob [] []:=⟨rfl,fun q hq=>by simp at hq⟩
theorem oT{ks:List CK}{cs asq:List AV}{obs:List Ob}{os:List Nat}{j:Nat}{ob:Nat->Option Ob}(h:bq ob ks cs j=some (asq,obs,os)):Nm ob os obs:=by
 obtain⟨h1,h2,h3⟩:=iw ks h
 refine⟨h1,fun q hq=>?_⟩
 have hm:obs.getD q .dead∈obs:=by simp[aa,hq]
 obtain⟨z,es,e⟩:=h2 _ hm
 rw[e];exact⟨rfl,fun cs h=>(by cases h),h3 q hq⟩
theorem mg{ob:Nat->Option Ob}{ks:List CK}{cs asq:List AV}{obs:List Ob}{os:List Nat}{j:Nat}(h:mN ob ks cs j=some (asq,obs,os)) :
 bq ob ks cs j=some (asq,obs,os)/\∃es o,obs=[.vec (j3 ks) es]/\os=[o]:=by
 unfold mN at h
 split at h
 ·rename_i as' sz es o h1
  split at h
  ·cases hb:az sz (j3 ks)with
   |false=>rw[hb]at h;cases h
   |
    true =>
    have:=au hb
    rw[hb]at h;cases h
    exact⟨h1,es,o,by rw[this],rfl⟩
  ·cases h
 ·cases h
theorem mr{ob:Nat->Option Ob}{m:MK}{c c':AV}{obs:List Ob}{os:List Nat}{j:Nat}(h:mD ob m c j=some (c',obs,os)):Nm ob os obs:=by
 unfold mD at h
 split at h
 ·rename_i o
  split at h
  ·rename_i sz es ho
   cases h
   refine⟨rfl,fun q hq=>?_⟩
   have:q=0:=by simp at hq;exact hq
   subst this
   exact⟨rfl,fun cs h=>(by simp at h),fun _=>⟨_,ho⟩⟩
  ·cases h
 ·rename_i ks o
  split at h
  ·rename_i sz es ho
   cases hb:az sz (j3 ks)with
   |false=>rw[hb]at h;cases h
   |
    true =>
    rw[hb]at h;cases h
    refine⟨rfl,fun q hq=>?_⟩
    have:q=0:=by simp at hq;exact hq
    subst this
    exact⟨rfl,fun cs h=>(by simp at h),fun _=>⟨_,ho⟩⟩
  ·cases h
 ·split at h
  ·rename_i h1
   cases h
   exact oT (mg h1).1
  ·cases h
 ·rename_i ks o
  split at h
  ·rename_i cs ho
   split at h
   ·rename_i asq obs1 os1 h1
    cases h
    have one:Nm ob [o] [Ob.cells asq]:=⟨rfl,fun q hq=>by
     have:q=0:=by simp at hq;exact hq
     subst this
     exact⟨rfl,fun cs' _=>⟨cs,ho⟩,fun _=>⟨_,ho⟩⟩⟩
    exact one.app (oT h1)
   ·cases h
  ·cases h
 ·split at h
  ·rename_i h1
   cases h
   exact oT (mg h1).1
  ·cases h
 ·cases h
theorem l7{ob:Nat->Option Ob}:∀(ms:List (Option MK)) {cs asq:List AV} {obs:List Ob} {os:List Nat} {j:Nat},ej ob ms cs j=some (asq,obs,os)->Nm ob os obs
 |
  [],cs,asq,obs,os,j,h=>by
  cases cs with
  |nil=>simp only[ej,Option.some.injEq,Prod.mk.injEq]at h;obtain⟨rfl,rfl,rfl⟩:=h;exact .nil
  |cons c cs=>simp[ej]at h
 |
  none::ms,cs,asq,obs,os,j,h=>by
  cases cs with
  |nil=>simp[ej]at h
  |
   cons c cs =>
   simp only[ej]at h
   split at h
   ·rename_i h1 h2;cases h;exact l7 ms h2
   ·cases h
 |
  some m::ms,cs,asq,obs,os,j,h=>by
  cases cs with
  |nil=>simp[ej]at h
  |
   cons c cs =>
   simp only[ej]at h
   split at h
   ·rename_i h1
    split at h
    ·rename_i h2;cases h;exact(mr h1).app (l7 ms h2)
    ·cases h
   ·cases h
theorem pz{ob:Nat->Option Ob}{m:PK}{c c':AV}{obs:List Ob}{os:List Nat}{j:Nat}(h:ly ob m c j=some (c',obs,os)):Nm ob os obs:=by
 unfold ly at h
 split at h
 ·exact mr h
 ·split at h
  ·rename_i h1;cases h;exact l7 _ h1
  ·cases h
 ·split at h
  ·rename_i h1 _
   revert h
   cases az _ _<;>intro h
   ·cases h
   ·cases h;exact l7 _ h1
  ·cases h
 ·cases h
theorem l5{ob:Nat->Option Ob}(mu:List (Nat×PK)):∀(asq:List AV) {i j:Nat} {as':List AV} {ins:List Ob} {os fz:List Nat},ga ob mu asq i j=some (as',ins,os,fz)->Nm ob os ins
 |
  [],i,j,as',ins,os,fz,h=>by
  simp only[ga,Option.some.injEq,Prod.mk.injEq]at h
  obtain⟨rfl,rfl,rfl,rfl⟩:=h
  exact .nil
 |
  c::asq,i,j,as',ins,os,fz,h=>by
  simp only[ga]at h
  split at h
  ·split at h
   ·rename_i h1 h2;cases h;exact l5 mu asq h2
   ·cases h
  ·split at h
   ·rename_i h1
    split at h
    ·rename_i h2;cases h;exact(pz h1).app (l5 mu asq h2)
    ·cases h
   ·cases h
  ·split at h
   ·rename_i h1 h2;cases h;exact l5 mu asq h2
   ·cases h
def Al(β βc:Lo)(os:List Nat)(obs:List Ob)(j:Nat):Prop:=∀q l,q<obs.length->((∃b,l=.cells b)\/os.getD q 0<dQ)->βc (j+q)=some l->β (os.getD q 0)=some l
theorem pF{M:Mem}{β:Lo}{w:World}{o:Nat}{x:Ob}(h:Own M β w o x)(hl:x.live=true):∃l,β o=some l:=by
 cases x<;>first|(cases hl;done)|skip
 ·obtain⟨b,_,_,h,_⟩:=h;exact⟨_,h⟩
 ·obtain⟨v,h,_⟩:=h;exact⟨_,h⟩
 ·obtain⟨v,h,_⟩:=h;exact⟨_,h⟩
theorem Al.app{β β3 β4:Lo}{os os':List Nat}{obs obs':List Ob}{j:Nat}(h:Al β β3 os obs j)(hle:Lo.le β3 β4)(hs:∀q,q<obs.length->∃l,β3 (j+q)=some l)(h':Al β β4 os' obs' (j+obs.length))(hl:os.length=obs.length):Al β β4 (os++os') (obs++obs') j:=fun q b hq hk hb=>by
 by_cases hlt:q<obs.length
 ·have e2:(os++os').getD q 0=os.getD q 0:=by simp[aa,aL,hl,hlt]
  rw[e2]at hk |-
  obtain⟨l,e⟩:=hs q hlt
  have:=hle _ _ e
  rw[hb]at this;cases this
  exact h q _ hlt hk e
 ·have e2:(os++os').getD q 0=os'.getD (q-obs.length) 0:=by simp[aa,aL,hl,hlt]
  rw[e2]at hk |-
  refine h' _ b (by simp at hq;omega) hk ?_
  rw[show j+obs.length+(q-obs.length)=j+q by omega];exact hb
theorem Al.none{β βc:Lo}{j:Nat}:Al β βc [] [] j:=fun q b hq=>by simp at hq
theorem iE(g:cz n A s a w M β){ob0:Nat->Option Ob}:∀(ks:List CK) {cs asq:List AV} {obs:List Ob} {os:List Nat} {j:Nat},bq ob0 ks cs j=some (asq,obs,os)->(∀o x,o∈os->ob0 o=some x->s.ob o=some x) ->
 ∀{U:List Nat} {f:Nat->Option Ob} {βc:Lo},fg s w M β U f βc->(∀m,j<=m->f m=none)->nodup os=true->(∀o,o∈os->o∉U) ->
 ∃βc' U' f',fg s w M β U' f' βc'/\Lo.le βc βc'/\(∀o,o∈U'->o∈os\/o∈U)/\(∀m,j+obs.length<=m->f' m=none)/\(∀m,m<j->f' m=f m)/\(∀q,q<obs.length->f' (j+q)=some (obs.getD q .dead))/\asq.length=cs.length /\
  (∀q v,q<cs.length->aW M β (cs.getD q .any) v->aW M βc' (asq.getD q .any) v)/\Al β βc' os obs j
 |
  [],cs,asq,obs,os,j,h,h0,U,f,βc,hB,hnm,hnd,hU=>by
  cases cs with
  |
   nil =>
   simp only[bq,Option.some.injEq,Prod.mk.injEq]at h
   obtain⟨rfl,rfl,rfl⟩:=h
   exact⟨βc,U,f,hB,Lo.le.refl _,fun o ho=>.inr ho,fun m hm=>hnm m (by simpa using hm),fun m _=>rfl,fun q hq=>(by simp at hq),rfl,fun q v hq=>(by simp at hq),.none⟩
  |cons c cs=>simp[bq]at h
 |
  .lk k::ks,cs,asq,obs,os,j,h,h0,U,f,βc,hB,hnm,hnd,hU=>by
  cases cs with
  |nil=>simp[bq]at h
  |
   cons c cs =>
   simp only[bq]at h
   split at h
   ·rename_i a1 as1 obs1 os1 h1 h2
    cases h
    obtain⟨β3,U',f',b1,b2,b3,b4,b5,b6,b7,b8,b9⟩:=iE g ks h2 h0 hB hnm hnd hU
    refine⟨β3,U',f',b1,b2,b3,b4,b5,b6,by simp[b7],fun q v hq hr=>?_,b9⟩
    cases q with
    |zero=>simpa using(tn h1 (by simpa using hr)).up
    |succ q=>simpa using b8 q v (by simpa using hq) (by simpa using hr)
   ·cases h
 |
  .vec hsz::ks,cs,asq,obs,os,j,h,h0,U,f,βc,hB,hnm,hnd,hU=>by
  cases cs with
  |nil=>simp[bq]at h
  |
   cons c cs =>
   have cont:∀(sz:Nat) (es:List (List AV)) (o:Nat) (as1:List AV) (obs1:List Ob) (os1:List Nat),bq ob0 ks cs (j+1)=some (as1,obs1,os1)->asq=.vec j::as1->obs=.vec sz es::obs1->os=o::os1->(∃β3,fg s w M β (o::U) (bP f j (some (.vec sz es))) β3/\Lo.le βc β3/\(∀v,aW M β c v->aW M β3 (.vec j) v)/\∀l,((∃b,l=.cells b)\/o<dQ)->β3 j=some l->β o=some l) ->
    ∃βc' U' f',fg s w M β U' f' βc'/\Lo.le βc βc'/\(∀o,o∈U'->o∈os\/o∈U)/\(∀m,j+obs.length<=m->f' m=none)/\(∀m,m<j->f' m=f m)/\(∀q,q<obs.length->f' (j+q)=some (obs.getD q .dead))/\asq.length=(c::cs).length /\
     (∀q v,q<(c::cs).length->aW M β ((c::cs).getD q .any) v->aW M βc' (asq.getD q .any) v)/\Al β βc' os obs j:=by
    intro sz es o as1 obs1 os1 h2 ea eo eos ⟨β3,c1,c2,c3,c4⟩
    subst ea;subst eo;subst eos
    obtain⟨n1,n2⟩:=nodup_cons hnd
    obtain⟨β4,U',f',b1,b2,b3,b4,b5,b6,b7,b8,b9⟩:=iE g ks h2 (fun o x ho=>h0 o x (af _ ho)) c1 (fun m hm=>by rw[aJ _ _ _ _ (by omega)];exact hnm m (by omega)) n2 (fun q hq hh=>by
     rcases aB.1 hh with rfl|hh
     ·exact n1 hq
     ·exact hU q (af _ hq) hh)
    refine⟨β4,U',f',b1,fun o l hl=>b2 o l (c2 o l hl),fun q hq=>?_,fun m hm=>b4 m (by simp at hm;omega),fun m hm=>?_,fun q hq=>?_,by simp[b7],fun q v hq hr=>?_,fun q l hq hk hb=>?_⟩
    ·rcases b3 q hq with h|h
     ·exact .inl (af _ h)
     ·rcases aB.1 h with rfl|h
      ·exact .inl ae
      ·exact .inr h
    ·rw[b5 m (by omega),aJ _ _ _ _ (by omega)]
    ·cases q with
     |zero=>rw[bo,b5 j (by omega),aD];rfl
     |
      succ q =>
      have:=b6 q (by simpa using hq)
      rw[show j+(q+1)=j+1+q by omega,this];rfl
    ·cases q with
     |zero=>simpa using(c3 v (by simpa using hr)).mono (Mem.le.refl _) b2
     |succ q=>simpa using b8 q v (by simpa using hq) (by simpa using hr)
    ·cases q with
     |
      zero =>
      obtain⟨l',e⟩:=pF (c1.own j _ (aD _ _ _)) rfl
      have:=b2 _ _ e
      rw[bo]at hb
      rw[hb]at this;cases this
      exact c4 l (by simpa using hk) e
     |succ q=>simpa using b9 q l (by simpa using hq) (by simpa using hk) (by rw[show j+1+q=j+(q+1) by omega];exact hb)
   cases c<;>first|(simp[bq]at h;done)|skip
   ·rename_i x
    cases x<;>first|(simp[bq]at h;done)|skip
    rename_i ad ln cp
    cases ad<;>first|(simp[bq]at h;done)|skip
    cases ln<;>first|(simp[bq]at h;done)|skip
    cases cp<;>first|(simp[bq]at h;done)|skip
    simp only[bq]at h
    split at h
    ·rename_i as1 obs1 os1 h2
     cases h
     obtain⟨β3,c1,c2,c3⟩:=fg.rk g hB (m:=j) (o:=dQ+j) (sz:=hsz) (hnm j (an _)) (hU _ ae)
     exact cont hsz [] _ as1 obs1 os1 h2 rfl rfl rfl ⟨β3,c1,c2,fun v hv=>(by rw[cT hv];exact c3),fun l hk hb=>(by
      obtain⟨u,hu,_⟩:=c1.own j _ (aD _ _ _)
      rw[hu]at hb;cases hb
      rcases hk with⟨b,hk⟩|hk
      ·cases hk
      ·omega)⟩
    ·cases h
   ·rename_i o
    simp only[bq]at h
    split at h
    ·rename_i sz es as1 obs1 os1 h1 h2
     cases h
     obtain⟨β3,c1,c2,c3,c4⟩:=fg.vec g hB (m:=j) (hnm j (an _)) (hU _ ae) (h0 _ _ ae h1)
     exact cont sz es o as1 obs1 os1 h2 rfl rfl rfl ⟨β3,c1,c2,c3,fun l _ hb=>by rw[<-c4];exact hb⟩
    ·cases h
end
end Go.VL
namespace Go.VL
open Go Go.RowKit
section
variable {P:Program} {M:Mem} {β:Lo} {w w':World} {n:Nat} {A:iA} {s:St} {a:Act}
theorem sJ(g:cz n A s a w M β){ob0:Nat->Option Ob}{m:MK}{c c':AV}{obs:List Ob}{os:List Nat}{j:Nat}(h:mD ob0 m c j=some (c',obs,os))(h0:∀o x,o∈os->ob0 o=some x->s.ob o=some x){U:List Nat}{f:Nat->Option Ob}{βc:Lo}
 (hB:fg s w M β U f βc) (hnm:∀m,j<=m->f m=none) (hnd:nodup os=true) (hU:∀o,o∈os->o∉U) :
 ∃βc' U' f',fg s w M β U' f' βc'/\Lo.le βc βc'/\(∀o,o∈U'->o∈os\/o∈U)/\(∀m,j+obs.length<=m->f' m=none)/\(∀m,m<j->f' m=f m)/\(∀q,q<obs.length->f' (j+q)=some (obs.getD q .dead)) /\
  (∀v,aW M β c v->aW M βc' c' v)/\Al β βc' os obs j:=by
 unfold mD at h
 split at h
 ·rename_i o
  split at h
  ·rename_i sz es ho
   cases h
   obtain⟨β3,c1,c2,c3,c4⟩:=fg.vec g hB (m:=j) (hnm j (an _)) (hU o ae) (h0 _ _ ae ho)
   refine⟨β3,_,_,c1,c2,fun q hq=>?_,fun m hm=>?_,fun m hm=>?_,fun q hq=>?_,c3,fun q b hq _ hb=>?_⟩
   ·rcases aB.1 hq with rfl|hq
    ·exact .inl ae
    ·exact .inr hq
   ·rw[aJ _ _ _ _ (by simp at hm;omega)];exact hnm m (by simp at hm;omega)
   ·rw[aJ _ _ _ _ (by omega)]
   ·have:q=0:=by simp at hq;exact hq
    subst this;rw[bo,aD];rfl
   ·have:q=0:=by simp at hq;exact hq
    subst this
    rw[bo,c4]at hb;exact hb
  ·cases h
 ·rename_i ks o
  split at h
  ·rename_i sz es ho
   cases hbq:az sz (j3 ks)with
   |false=>rw[hbq]at h;cases h
   |true =>
   rw[hbq]at h
   cases h
   obtain⟨β3,c1,c2,c3,c4⟩:=fg.vec g hB (m:=j) (hnm j (an _)) (hU o ae) (h0 _ _ ae ho)
   refine⟨β3,_,_,c1,c2,fun q hq=>?_,fun m hm=>?_,fun m hm=>?_,fun q hq=>?_,c3,fun q b hq _ hb=>?_⟩
   ·rcases aB.1 hq with rfl|hq
    ·exact .inl ae
    ·exact .inr hq
   ·rw[aJ _ _ _ _ (by simp at hm;omega)];exact hnm m (by simp at hm;omega)
   ·rw[aJ _ _ _ _ (by omega)]
   ·have:q=0:=by simp at hq;exact hq
    subst this;rw[bo,aD];rfl
   ·have:q=0:=by simp at hq;exact hq
    subst this
    rw[bo,c4]at hb;exact hb
  ·cases h
 ·split at h
  ·rename_i as1 obs1 os1 h1
   cases h
   obtain⟨β3,U',f',b1,b2,b3,b4,b5,b6,b7,b8,b9⟩:=iE g _ (mg h1).1 h0 hB hnm hnd hU
   refine⟨β3,U',f',b1,b2,b3,b4,b5,b6,fun v hv=>?_,b9⟩
   obtain⟨vs,ev,hl,hr,ho⟩:=eW hv
   rw[ev]
   exact .agg _ _ _ (by omega) (fun i hi=>ho i (by omega)) fun i hi=>b8 i _ (by omega) (hr i (by omega))
  ·cases h
 ·rename_i ks o
  split at h
  ·rename_i cs ho
   split at h
   ·rename_i asq obs1 os1 h1
    cases h
    obtain⟨n1,n2⟩:=nodup_cons hnd
    obtain⟨β3,U',f',b1,b2,b3,b4,b5,b6,b7,b8,b9⟩:=iE g ks h1 (fun o x hh=>h0 o x (af _ hh)) hB (fun m hm=>hnm m (by omega)) n2 (fun q hq=>hU q (af _ hq))
    have ho:=h0 _ _ ae ho
    obtain⟨b,vs,e,q1,q2,q3,q4,q5,q6⟩:=g.own o _ ho
    have hfj:f' j=none:=by rw[b5 j (by omega)];exact hnm j (an _)
    have hB2:=b1.add g hfj (l:=.cells b) (x:=.cells asq)
     ⟨b,vs,e,aD _ _ _,q2,by rw[q3,b7],fun i hi=>(b8 i _ (by omega) (q4 i (by omega))).mono (Mem.le.refl _) (b1.le hfj _),q5,q6⟩ o
     (fun hh=>by
      rcases b3 o hh with h|h
      ·exact n1 h
      ·exact hU o ae h)
     (fun b' hb'=>by
      simp only[Loc.block,Option.some.injEq]at hb'
      subst hb'
      exact⟨_,ho,rfl,by simp[dk,q1,Loc.block]⟩)
    refine⟨_,_,_,hB2,fun o l hl=>b1.le hfj _ o l (b2 o l hl),fun q hq=>?_,fun m hm=>?_,fun m hm=>?_,fun q hq=>?_,fun v hv=>?_,fun q b' hq hk hb=>?_⟩
    ·rcases aB.1 hq with rfl|hq
     ·exact .inl ae
     ·rcases b3 q hq with h|h
      ·exact .inl (af _ h)
      ·exact .inr h
    ·simp at hm
     rw[aJ _ _ _ _ (by omega)];exact b4 m (by omega)
    ·rw[aJ _ _ _ _ (by omega)];exact b5 m (by omega)
    ·cases q with
     |zero=>rw[bo,aD];rfl
     |
      succ q =>
      rw[aJ _ _ _ _ (by omega),show j+(q+1)=j+1+q by omega,b6 q (by simpa using hq)];rfl
    ·obtain⟨b',r1,r2⟩:=jV hv
     rw[q1]at r1;cases r1
     rw[r2]
     exact .ref _ _ _ _ (aD _ _ _)
    ·cases q with
     |zero=>rw[bo,aD]at hb;cases hb;exact q1
     |
      succ q =>
      rw[aJ _ _ _ _ (by omega),show j+(q+1)=j+1+q by omega]at hb
      simpa using b9 q b' (by simpa using hq) (by simpa using hk) hb
   ·cases h
  ·cases h
 ·split at h
  ·rename_i as1 obs1 os1 h1
   cases h
   obtain⟨β3,U',f',b1,b2,b3,b4,b5,b6,b7,b8,b9⟩:=iE g _ (mg h1).1 h0 hB hnm hnd hU
   refine⟨β3,U',f',b1,b2,b3,b4,b5,b6,fun v hv=>?_,b9⟩
   obtain⟨vs,ev,hl,hr,ho⟩:=eW hv
   rw[ev]
   exact .agg _ _ _ (by omega) (fun i hi=>ho i (by omega)) fun i hi=>b8 i _ (by omega) (hr i (by omega))
  ·cases h
 ·cases h
theorem lX(g:cz n A s a w M β){ob0:Nat->Option Ob}:∀(ms:List (Option MK)) {cs asq:List AV} {obs:List Ob} {os:List Nat} {j:Nat},ej ob0 ms cs j=some (asq,obs,os)->(∀o x,o∈os->ob0 o=some x->s.ob o=some x) ->
 ∀{U:List Nat} {f:Nat->Option Ob} {βc:Lo},fg s w M β U f βc->(∀m,j<=m->f m=none)->nodup os=true->(∀o,o∈os->o∉U) ->
 ∃βc' U' f',fg s w M β U' f' βc'/\Lo.le βc βc'/\(∀o,o∈U'->o∈os\/o∈U)/\(∀m,j+obs.length<=m->f' m=none)/\(∀m,m<j->f' m=f m)/\(∀q,q<obs.length->f' (j+q)=some (obs.getD q .dead))/\asq.length=cs.length /\
  (∀q v,q<cs.length->aW M β (cs.getD q .any) v->aW M βc' (asq.getD q .any) v)/\Al β βc' os obs j
 |
  [],cs,asq,obs,os,j,h,h0,U,f,βc,hB,hnm,hnd,hU=>by
  cases cs with
  |
   nil =>
   simp only[ej,Option.some.injEq,Prod.mk.injEq]at h
   obtain⟨rfl,rfl,rfl⟩:=h
   exact⟨βc,U,f,hB,Lo.le.refl _,fun o ho=>.inr ho,fun m hm=>hnm m (by simpa using hm),fun m _=>rfl,fun q hq=>(by simp at hq),rfl,fun q v hq=>(by simp at hq),.none⟩
  |cons c cs=>simp[ej]at h
 |
  none::ms,cs,asq,obs,os,j,h,h0,U,f,βc,hB,hnm,hnd,hU=>by
  cases cs with
  |nil=>simp[ej]at h
  |
   cons c cs =>
   simp only[ej]at h
   split at h
   ·rename_i a1 as1 obs1 os1 h1 h2
    cases h
    obtain⟨β3,U',f',b1,b2,b3,b4,b5,b6,b7,b8,b9⟩:=lX g ms h2 h0 hB hnm hnd hU
    refine⟨β3,U',f',b1,b2,b3,b4,b5,b6,by simp[b7],fun q v hq hr=>?_,b9⟩
    cases q with
    |zero=>simpa using(tn h1 (by simpa using hr)).up
    |succ q=>simpa using b8 q v (by simpa using hq) (by simpa using hr)
   ·cases h
 |
  some m::ms,cs,asq,obs,os,j,h,h0,U,f,βc,hB,hnm,hnd,hU=>by
  cases cs with
  |nil=>simp[ej]at h
  |
   cons c cs =>
   simp only[ej]at h
   split at h
   ·rename_i c' obs1 os1 h1
    split at h
    ·rename_i as1 obs2 os2 h2
     cases h
     obtain⟨n1,n2,n3⟩:=dM hnd
     obtain⟨β3,U1,f1,b1,b2,b3,b4,b5,b6,b7,b9⟩:=sJ g h1 (fun o x ho=>h0 o x (ao _ ho)) hB hnm n1 fun o ho=>hU o (ao _ ho)
     obtain⟨β4,U2,f2,d1,d2,d3,d4,d5,d6,d7,d8,d9⟩:=lX g ms h2 (fun o x ho=>h0 o x (ak _ ho)) b1 b4 n2 fun o ho hh=>by
      rcases b3 o hh with h|h
      ·exact n3 o h ho
      ·exact hU o (ak _ ho) h
     refine⟨β4,U2,f2,d1,fun o l hl=>d2 o l (b2 o l hl),fun o ho=>?_,fun m hm=>d4 m (by simp at hm;omega),fun m hm=>(d5 m (by omega)).trans (b5 m hm),fun q hq=>?_,by simp[d7],fun q v hq hr=>?_,b9.app d2 (fun q hq=>pF (b1.own _ _ (b6 q hq)) ((mr h1).2 q hq).1) d9 (mr h1).1⟩
     ·rcases d3 o ho with h|h
      ·exact .inl (ak _ h)
      ·rcases b3 o h with h|h
       ·exact .inl (ao _ h)
       ·exact .inr h
     ·by_cases hlt:q<obs1.length
      ·rw[d5 _ (by omega),b6 q hlt]
       simp[aa,aL,hlt]
      ·have:=d6 (q-obs1.length) (by simp at hq;omega)
       rw[show j+obs1.length+(q-obs1.length)=j+q by omega]at this
       rw[this]
       simp[aa,aL,hlt]
     ·cases q with
      |zero=>simpa using(b7 v (by simpa using hr)).mono (Mem.le.refl _) d2
      |succ q=>simpa using d8 q v (by simpa using hq) (by simpa using hr)
    ·cases h
   ·cases h
theorem wM(gg:cz n A s a w M β){ob0:Nat->Option Ob}{m:PK}{c c':AV}{obs:List Ob}{os:List Nat}{j:Nat}(h:ly ob0 m c j=some (c',obs,os))(h0:∀o x,o∈os->ob0 o=some x->s.ob o=some x){U:List Nat}{f:Nat->Option Ob}{βc:Lo}
 (hB:fg s w M β U f βc) (hnm:∀m,j<=m->f m=none) (hnd:nodup os=true) (hU:∀o,o∈os->o∉U) :
 ∃βc' U' f',fg s w M β U' f' βc'/\Lo.le βc βc'/\(∀o,o∈U'->o∈os\/o∈U)/\(∀m,j+obs.length<=m->f' m=none)/\(∀m,m<j->f' m=f m)/\(∀q,q<obs.length->f' (j+q)=some (obs.getD q .dead)) /\
  (∀v,aW M β c v->aW M βc' c' v)/\Al β βc' os obs j:=by
 unfold ly at h
 split at h
 ·exact sJ gg h h0 hB hnm hnd hU
 ·rename_i ms fn cap
  split at h
  ·rename_i asq obs' os' h1
   cases h
   obtain⟨β3,U',f',b1,b2,b3,b4,b5,b6,b7,b8,b9⟩:=lX gg ms h1 h0 hB hnm hnd hU
   refine⟨β3,U',f',b1,b2,b3,b4,b5,b6,fun v hv=>?_,b9⟩
   cases hv with
   |fn _ _ _ vs hl hr=>exact .fn _ _ _ vs (by omega) fun i hi=>b8 i _ (by omega) (hr i (by omega))
  ·cases h
 ·rename_i ms f' js fn cap
  split at h
  ·rename_i asq obs' os' g l h1 hg
   cases hb:az g f' with
   |false=>rw[hb]at h;cases h
   |
    true =>
    rw[hb]at h
    cases h
    obtain⟨β3,U',f',b1,b2,b3,b4,b5,b6,b7,b8,b9⟩:=lX gg ms h1 h0 hB hnm hnd hU
    refine⟨β3,U',f',b1,b2,b3,b4,b5,b6,fun v hv=>?_,b9⟩
    have hne:cap≠[]:=by rintro rfl;simp at hg
    have hcl:cap.dropLast.length+1=cap.length:=by
     have:=List.length_pos_iff.2 hne
     rw[List.length_dropLast];omega
    cases hv with
    |
     fn _ _ _ vs hl hr =>
     refine .fn _ _ _ vs (by simp;omega) fun i hi=>?_
     simp only[aq,aw,aM]at hi
     by_cases hlt:i<asq.length
     ·have e1:(asq++[AV.any]).getD i .any=asq.getD i .any:=by simp[aa,aL,hlt]
      have e2:cap.getD i .any=cap.dropLast.getD i .any:=by
       rw[aa,aa,List.getElem?_dropLast,if_pos (by omega)]
      rw[e1]
      have:=hr i (by omega)
      rw[e2]at this
      exact b8 i _ (by omega) this
     ·have e1:(asq++[AV.any]).getD i .any=.any:=by
       rw[aa,List.getElem?_append_right (by omega)]
       rw[show i-asq.length=0 by omega];rfl
      rw[e1];exact .any _ _
  ·cases h
 ·cases h
theorem ml(g:cz n A s a w M β){ob0:Nat->Option Ob}(mu:List (Nat×PK)):∀(asq:List AV) {i j:Nat} {as':List AV} {ins:List Ob} {os fz:List Nat},ga ob0 mu asq i j=some (as',ins,os,fz)->Fz M β w ob0 fz->(∀o x,o∈os->ob0 o=some x->s.ob o=some x) ->
 ∀{U:List Nat} {f:Nat->Option Ob} {βc:Lo},fg s w M β U f βc->(∀m,j<=m->f m=none)->nodup os=true->(∀o,o∈os->o∉U) ->
 ∃βc' U' f',fg s w M β U' f' βc'/\Lo.le βc βc'/\(∀o,o∈U'->o∈os\/o∈U)/\(∀m,j+ins.length<=m->f' m=none)/\(∀m,m<j->f' m=f m)/\(∀q,q<ins.length->f' (j+q)=some (ins.getD q .dead))/\as'.length=asq.length /\
  (∀q v,q<asq.length->aW M β (asq.getD q .any) v->aW M βc' (as'.getD q .any) v)/\Al β βc' os ins j
 |
  [],i,j,as',ins,os,fz,h,hz,h0,U,f,βc,hB,hnm,hnd,hU=>by
  simp only[ga,Option.some.injEq,Prod.mk.injEq]at h
  obtain⟨rfl,rfl,rfl,rfl⟩:=h
  exact⟨βc,U,f,hB,Lo.le.refl _,fun o ho=>.inr ho,fun m hm=>hnm m (by simpa using hm),fun m _=>rfl,fun q hq=>(by simp at hq),rfl,fun q v hq=>(by simp at hq),.none⟩
 |
  c::asq,i,j,as',ins,os,fz,h,hz,h0,U,f,βc,hB,hnm,hnd,hU=>by
  simp only[ga]at h
  split at h
  ·split at h
   ·rename_i l1 f1 as1 ins2 os2 fz2 h1 h2
    cases h
    obtain⟨β4,U2,f2,d1,d2,d3,d4,d5,d6,d7,d8,d9⟩:=ml g mu asq h2 hz.right h0 hB hnm hnd hU
    refine⟨β4,U2,f2,d1,d2,d3,d4,d5,d6,by simp[d7],fun q v hq hr=>?_,d9⟩
    cases q with
    |zero=>simpa using aW.any _ _
    |succ q=>simpa using d8 q v (by simpa using hq) (by simpa using hr)
   ·cases h
  ·rename_i m hm
   split at h
   ·rename_i c' obs1 os1 h1
    split at h
    ·rename_i as1 ins2 os2 fz2 h2
     cases h
     obtain⟨n1,n2,n3⟩:=dM hnd
     obtain⟨β3,U1,f1,b1,b2,b3,b4,b5,b6,b7,b9⟩:=wM g h1 (fun o x ho=>h0 o x (ao _ ho)) hB hnm n1 fun o ho=>hU o (ao _ ho)
     obtain⟨β4,U2,f2,d1,d2,d3,d4,d5,d6,d7,d8,d9⟩:=ml g mu asq h2 hz (fun o x ho=>h0 o x (ak _ ho)) b1 b4 n2 fun o ho hh=>by
      rcases b3 o hh with h|h
      ·exact n3 o h ho
      ·exact hU o (ak _ ho) h
     refine⟨β4,U2,f2,d1,fun o l hl=>d2 o l (b2 o l hl),fun o ho=>?_,fun m hm=>d4 m (by simp at hm;omega),fun m hm=>(d5 m (by omega)).trans (b5 m hm),fun q hq=>?_,by simp[d7],fun q v hq hr=>?_,b9.app d2 (fun q hq=>pF (b1.own _ _ (b6 q hq)) ((pz h1).2 q hq).1) d9 (pz h1).1⟩
     ·rcases d3 o ho with h|h
      ·exact .inl (ak _ h)
      ·rcases b3 o h with h|h
       ·exact .inl (ao _ h)
       ·exact .inr h
     ·by_cases hlt:q<obs1.length
      ·rw[d5 _ (by omega),b6 q hlt]
       simp[aa,aL,hlt]
      ·have:=d6 (q-obs1.length) (by simp at hq;omega)
       rw[show j+obs1.length+(q-obs1.length)=j+q by omega]at this
       rw[this]
       simp[aa,aL,hlt]
     ·cases q with
      |zero=>simpa using(b7 v (by simpa using hr)).mono (Mem.le.refl _) d2
      |succ q=>simpa using d8 q v (by simpa using hq) (by simpa using hr)
    ·cases h
   ·cases h
  ·split at h
   ·rename_i c' f1 as1 ins2 os2 fz2 h1 h2
    cases h
    obtain⟨β4,U2,f2,d1,d2,d3,d4,d5,d6,d7,d8,d9⟩:=ml g mu asq h2 hz.right h0 hB hnm hnd hU
    refine⟨β4,U2,f2,d1,d2,d3,d4,d5,d6,by simp[d7],fun q v hq hr=>?_,d9⟩
    cases q with
    |zero=>simpa using(fu _ _ _ _ _ h1 hz.left (by simpa using hr)).up
    |succ q=>simpa using d8 q v (by simpa using hq) (by simpa using hr)
   ·cases h
theorem pT{o:Nat}:∀{caps:List AV} {l:List (Option Nat)},lV o caps=some l->l.length=caps.length/\∀i,i<l.length->(l.getD i none=none->caps.getD i .any=.ref o 0)/\∀p,l.getD i none=some p->caps.getD i .any=.ref p 0
 |[],l,h=>by cases h;exact⟨rfl,fun i hi=>by simp at hi⟩
 |
  c::caps,l,h=>by
  unfold lV at h
  split at h
  ·rename_i he;cases he
  ·rename_i p r he
   cases he
   cases e:lV o caps with
   |none=>rw[e]at h;cases h
   |
    some l' =>
    rw[e]at h
    simp only[cK,Option.some.injEq]at h
    subst h
    obtain⟨q1,q2⟩:=pT e
    refine⟨by simp[q1],fun i hi=>?_⟩
    cases i with
    |
     zero =>
     simp only[aQ]
     cases hb:az p o with
     |
      true =>
      simp only[cond_true]
      exact⟨fun _=>(by rw[au hb]),fun q hq=>(by cases hq)⟩
     |
      false =>
      simp only[cond_false]
      exact⟨fun hq=>(by cases hq),fun q hq=>(by cases hq;rfl)⟩
    |succ i=>simpa using q2 i (by simpa using hi)
  ·cases h
theorem zw{M:Mem}{β:Lo}{w:World}{ob:Nat->Option Ob}{f:Nat}{c:AV}{l:List (Option Nat)}{fz:List Nat}{v:Value}(h:pS ob f c=some (l,fz))(hz:Fz M β w ob fz)(hr:aW M β c v):aW M β (.dS f l) v:=by
 have key:∀o f' caps,ca (ob o)=some (.fS [.fn f' caps])->(bif az f' f then(lV o caps).map fun l=>(l,[o])else none)=some (l,fz)->aW M β (.ref o 0) v->aW M β (.dS f l) v:=by
  intro o f' caps hfr h5 hr
  clear h
  cases hb:az f' f with
  |false=>rw[hb]at h5;cases h5
  |
   true =>
   rw[hb]at h5
   simp only[cond_true]at h5
   have:=au hb
   subst this
   cases e:lV o caps with
   |none=>rw[e]at h5;cases h5
   |
    some l' =>
    rw[e]at h5
    simp only[cK,Option.some.injEq,Prod.mk.injEq]at h5
    obtain⟨rfl,rfl⟩:=h5
    obtain⟨b,us,h1,h2⟩:=hz o ae _ hfr
    obtain⟨h3,h4⟩:=h2 0 (by simp)
    obtain⟨q1,q2⟩:=pT e
    obtain⟨b',r1,r2⟩:=jV hr
    rw[h1]at r1;cases r1
    subst r2
    simp only[aQ]at h4
    cases hu:us 0 with
    |
     _ =>
     rw[hu]at h3 h4
     cases h4
     try (
      rename_i vs hl hrs
      refine .dS _ _ _ _ vs h3 (q1.trans hl) (fun i hi hn=>?_) fun i p hi hp=>?_
      ·have:=hrs i (by omega)
       rw[(q2 i hi).1 hn]at this
       obtain⟨b2,s1,s2⟩:=jV this
       rw[h1]at s1;cases s1;exact s2
      ·have:=hrs i (by omega)
       rw[(q2 i hi).2 p hp]at this
       exact jV this)
 unfold pS at h
 split at h
 ·rename_i f' js
  cases hb:az f' f with
  |false=>rw[hb]at h;cases h
  |
   true =>
   rw[hb]at h
   simp only[cond_true,Option.some.injEq,Prod.mk.injEq]at h
   obtain⟨rfl,rfl⟩:=h
   have:=au hb
   subst this
   exact hr
 ·rename_i o
  split at h
  ·rename_i f' caps ho
   exact key o f' caps (by rw[ho];rfl) h hr
  ·rename_i f' caps ho
   exact key o f' caps (by rw[ho];rfl) h hr
  ·cases h
 ·cases h
theorem sG{M:Mem}{β βc:Lo}{os:List Nat}{ins:List Ob}{f:Nat}{js:List (Option Nat)}{v:Value}(h:aW M β (.dS f (js.map (Ek os))) v)(hk:js.all (G6 ins)=true)
 (ho:∀j,j<ins.length->(ins.getD j .dead).mP=true->∀b,β (os.getD j 0)=some (.cells b)->βc j=some (.cells b)):aW M βc (.dS f js) v:=by
 cases h with
 |
  dS _ _ _ b vs hc hl hs hoo =>
  have hg:∀i,i<js.length->(js.map (Ek os)).getD i none=Ek os (js.getD i none):=fun i hi=>by simp[aa,hi]
  refine .dS _ _ _ _ vs hc (by simpa using hl) (fun i hi e=>hs i (by simpa using hi) (by rw[hg i hi,e];rfl)) fun i j hi e=>?_
  obtain⟨b',q1,q2⟩:=hoo i (os.getD j 0) (by simpa using hi) (by rw[hg i hi,e];rfl)
  rw[bg]at hk
  have:=hk (some j) (by rw[<-e];simp[aa,hi])
  simp only[G6,ai]at this
  have hj:j<ins.length:=aF this.1
  exact⟨b',ho j hj this.2 b' q1,q2⟩
theorem A8{M:Mem}{β βc:Lo}{os:List Nat}{ins:List Ob}{ob0:Nat->Option Ob}{ms:List (Option MK)}{f:Nat}{js:List (Option Nat)}{c c':AV}{obs:List Ob}{os1:List Nat}{j:Nat}{v:Value}(h1:ly ob0 (.A3 ms f js) c j=some (c',obs,os1))(hk:xR os ins f js c=true)
 (ho:∀j,j<ins.length->(ins.getD j .dead).mP=true->∀b,β (os.getD j 0)=some (.cells b)->βc j=some (.cells b)) (hv:aW M β c v) (hr:aW M βc c' v):aW M βc (om f js c') v:=by
 unfold ly at h1
 split at h1
 ·rename_i he;cases he
 ·rename_i he;cases he
 ·rename_i ms' f' js' fn cap he
  cases he
  split at h1
  ·rename_i asq obs' os' g l h2 hg
   cases hb:az g f with
   |false=>rw[hb]at h1;cases h1
   |
    true =>
    rw[hb]at h1
    cases h1
    have:=au hb
    subst this
    simp only[xR,hg,ai]at hk
    have hl2:=ph hk.1
    have hne:cap≠[]:=by rintro rfl;simp at hg
    have hcl:cap.dropLast.length+1=cap.length:=by
     have:=List.length_pos_iff.2 hne
     rw[List.length_dropLast];omega
    cases hr with
    |
     fn _ _ _ vs hl hrr =>
     simp only[aq,aw,aM]at hl
     simp only[om,List.dropLast_concat]
     cases hv with
     |
      fn _ _ _ vs2 hl' hrr' =>
      refine .fn _ _ _ _ (by simp;omega) fun i hi=>?_
      simp only[aq,aw,aM]at hi
      by_cases hlt:i<asq.length
      ·have e1:(asq++[AV.dS g js]).getD i .any=(asq++[AV.any]).getD i .any:=by simp[aa,aL,hlt]
       rw[e1]
       exact hrr i (by simp;omega)
      ·have hi':i=asq.length:=by omega
       have e1:(asq++[AV.dS g js]).getD i .any=.dS g js:=by
        rw[aa,List.getElem?_append_right (by omega)]
        rw[show i-asq.length=0 by omega];rfl
       have e2:cap.getD i .any=.dS g l:=by
        rw[List.getLast?_eq_getElem?]at hg
        rw[aa,show i=cap.length-1 by omega,hg];rfl
       rw[e1]
       have:=hrr' i (by omega)
       rw[e2,hl2]at this
       exact sG this hk.2 ho
  ·cases h1
 ·cases h1
theorem l4{M:Mem}{β βc:Lo}{w:World}{ob:Nat->Option Ob}{mu:List (Nat×PK)}{os:List Nat}{ins:List Ob}(ho:∀j,j<ins.length->(ins.getD j .dead).mP=true->∀b,β (os.getD j 0)=some (.cells b)->βc j=some (.cells b)) :
 ∀(asq:List AV) {i j:Nat} {as':List AV} {ins':List Ob} {os' fz:List Nat},ga ob mu asq i j=some (as',ins',os',fz)->Fz M β w ob fz->kb ob mu os ins asq i=true->(∀q v,q<asq.length->aW M β (asq.getD q .any) v->aW M βc (as'.getD q .any) v) ->
  (gY mu as' i).length=as'.length/\∀q v,q<asq.length->aW M β (asq.getD q .any) v->aW M βc ((gY mu as' i).getD q .any) v
 |
  [],i,j,as',ins',os',fz,h,hz,hk,hr=>by
  simp only[ga,Option.some.injEq,Prod.mk.injEq]at h
  obtain⟨rfl,rfl,rfl,rfl⟩:=h
  exact⟨rfl,fun q v hq=>by simp at hq⟩
 |
  c::asq,i,j,as',ins',os',fz,h,hz,hk,hr=>by
  simp only[ga]at h
  simp only[kb,ai]at hk
  obtain⟨hk1,hk2⟩:=hk
  split at h
  ·rename_i f js hm
   split at h
   ·rename_i l1 f1 as1 ins2 os2 fz2 h1 h2
    cases h
    obtain⟨q1,q2⟩:=l4 ho asq h2 hz.right hk2 (fun q v hq hv=>by simpa using hr (q+1) v (by simpa using hq) (by simpa using hv))
    have e:gY mu (.any::as1) i=.dS f js::gY mu as1 (i+1):=by rw[gY,hm]
    rw[e]
    refine⟨by simp[q1],fun q v hq hv=>?_⟩
    cases q with
    |
     zero =>
     rw[hm]at hk1
     simp only[h1,ai]at hk1
     have e2:=ph hk1.1
     have hc:=zw h1 hz.left (show aW M β c v by simpa using hv)
     rw[e2]at hc
     simpa using sG hc hk1.2 ho
    |succ q=>simpa using q2 q v (by simpa using hq) (by simpa using hv)
   ·cases h
  ·rename_i m hne hm
   split at h
   ·rename_i c' obs1 os1 h1
    split at h
    ·rename_i as1 ins2 os2 fz2 h2
     cases h
     obtain⟨q1,q2⟩:=l4 ho asq h2 hz hk2 (fun q v hq hv=>by simpa using hr (q+1) v (by simpa using hq) (by simpa using hv))
     obtain⟨y,hmm,hy⟩:∃y,gY mu (c'::as1) i=y::gY mu as1 (i+1)/\∀v,aW M β c v->aW M βc y v:=by
      have h0:∀v,aW M β c v->aW M βc c' v:=fun v hv=>by simpa using hr 0 v (by simp) (by simpa using hv)
      cases m with
      |AT f js=>exact absurd rfl (hne _ _)
      |
       A3 ms f js =>
       refine⟨om f js c',by rw[gY,hm],fun v hv=>?_⟩
       rw[hm]at hk1
       exact A8 h1 hk1 ho hv (h0 v hv)
      |one m=>exact⟨c',by rw[gY,hm],h0⟩
      |fn ms=>exact⟨c',by rw[gY,hm],h0⟩
     rw[hmm]
     refine⟨by simp[q1],fun q v hq hv=>?_⟩
     cases q with
     |zero=>simpa using hy v (by simpa using hv)
     |succ q=>simpa using q2 q v (by simpa using hq) (by simpa using hv)
    ·cases h
   ·cases h
  ·rename_i hm
   have hmm:∀x xs,gY mu (x::xs) i=x::gY mu xs (i+1):=fun x xs=>by rw[gY,hm]
   split at h
   ·rename_i c' f1 as1 ins2 os2 fz2 h1 h2
    cases h
    obtain⟨q1,q2⟩:=l4 ho asq h2 hz.right hk2 (fun q v hq hv=>by simpa using hr (q+1) v (by simpa using hq) (by simpa using hv))
    rw[hmm]
    refine⟨by simp[q1],fun q v hq hv=>?_⟩
    cases q with
    |zero=>simpa using hr 0 v (by simp) hv
    |succ q=>simpa using q2 q v (by simpa using hq) (by simpa using hv)
   ·cases h
end
end Go.VL
namespace Go.VL
open Go Go.RowKit
section
variable {P:Program} {M:Mem} {β:Lo} {w w':World} {n:Nat} {A:iA} {s:St} {a:Act}
def fh(os:List Nat)(f:Nat->Option Ob):Nat->Option Ob:=fun o=>bif e9 os o then none else f o
theorem fE{os:List Nat}{f:Nat->Option Ob}{o:Nat}{x:Ob}(h:fh os f o=some x):o∉os/\f o=some x:=by
 unfold fh at h
 cases hm:e9 os o with
 |true=>rw[hm]at h;cases h
 |
  false =>
  rw[hm]at h
  refine⟨fun ho=>?_,h⟩
  have:e9 os o=true:=bB.2 ⟨o,ho,dx o⟩
  rw[hm]at this;cases this
theorem cz.base(g:cz n A s a w M β){os:List Nat}{L:Nat}{βc:Lo}(hsrc:∀i b,i<L->dk βc i=some b->∃o x0,o∈os/\s.ob o=some x0/\x0.live=true/\dk β o=some b)
 {r:AV} {obs:List Ob} {v:Value} {M':Mem} {β':Lo} (h:Out w M βc L r obs v w' M' β'):cz n A {s with ob:=fh os s.ob} a w' M' β:=by
 have cb:∀b,b<w.heap.size->¬(∃i,i<L/\dk βc i=some b)->w'.heap[b]?=w.heap[b]?:=fun b hb hn=>h.cb.block b hb hn
 have inA:∀b,(∃i,i<L/\dk βc i=some b)->A.w0.heap.size<=b\/A.rI b:=fun b ⟨i,hi,hb⟩=>by
  obtain⟨o,x0,_,h2,h3,h4⟩:=hsrc i b hi hb
  exact g.place o x0 b h2 h3 h4
 have un:∀o x b,s.ob o=some x->x.live=true->o∉os->dk β o=some b->¬∃i,i<L/\dk βc i=some b:=fun o x b hx hl ho hb ⟨i,hi,hb'⟩=>by
  obtain⟨o',x0,h1,h2,h3,h4⟩:=hsrc i b hi hb'
  exact g.apart o' o x0 x b (fun e=>ho (by rw[<-e];exact h1)) h2 h3 hx hl h4 hb
 refine {size:=g.size,defs:=g.defs,tm:=fun t=>(g.tm t).mono h.le (Lo.le.refl _),le:=g.le.trans h.le,new:=fun b k v hc=>?_,agree:=h.agree,own:=fun o x hx=>?_,place:=fun o x b hx=>?_,apart:=fun o o' x x' b hne hx hl hx'=>?_,us:=fun o hu=>?_,fix:=g.B5 fun o y hy=>⟨y,(fE hy).2⟩,cb:=?_}
 ·rcases h.new b k v hc with h1|h1|h1
  ·exact g.new b k v h1
  ·exact .inr (.inl (Nat.le_trans g.cb.size h1))
  ·exact .inr (inA b h1)
 ·obtain⟨ho,hx⟩:=fE hx
  refine(g.own o x hx).mono h.le (Lo.le.refl _) fun b hl hb=>?_
  have hlt:=(g.own o x hx).lt hl hb
  have hn:=un o x b hx hl ho hb
  refine⟨cb b hlt hn,fun k=>?_⟩
  cases e:M'.c b k with
  |none=>rfl
  |
   some u =>
   rcases h.new b k u e with h1|h1|h1
   ·rw[(g.own o x hx).xY hl hb k]at h1;cases h1
   ·omega
   ·exact absurd h1 hn
 ·exact g.place o x b (fE hx).2
 ·exact g.apart o o' x x' b hne (fE hx).2 hl (fE hx').2
 ·obtain⟨h1,h2⟩:=g.us o hu
  refine⟨h1,?_⟩
  show fh os s.ob o=none
  unfold fh;rw[h2];cases e9 os o<;>rfl
 ·refine g.cb.ir h.cb.os h.cb.tape h.cb.output h.cb.size fun b hlt hn=>cb b (cx hlt g.cb.size) fun hh=>?_
  rcases inA b hh with h1|h1
  ·omega
  ·exact hn h1
end
end Go.VL
namespace Go.VL
open Go Go.RowKit
section
variable {P:Program} {M:Mem} {β:Lo} {w w':World} {n:Nat} {A:iA} {s:St} {a:Act}
theorem cz.IE(g:cz n A s a w M β){m:Nat}{l:Loc}{x:Ob}(hm:s.ob m=none)(I4:β m=none\/β m=some l)(hfx:∀b,A.fix m=some b->l=b)(hx:Own M (bP β m (some l)) w m x)
 (hpl:∀b,l.block=some b->A.w0.heap.size<=b\/A.rI b) (hap:∀b,l.block=some b->x.live=true->∀o x',s.ob o=some x'->x'.live=true->dk β o≠some b) :
 cz n A {s with ob:=bP s.ob m (some x),us:=bP s.us m true} a w M (bP β m (some l)):=by
 have hβ:Lo.le β (bP β m (some l)):=fun o q hq=>by
  by_cases ho:o=m
  ·subst ho
   rcases I4 with h|h
   ·rw[h]at hq;cases hq
   ·rw[h]at hq;cases hq;exact aD _ _ _
  ·rw[aJ _ _ _ _ ho];exact hq
 have hbd:∀o b,o≠m->dk (bP β m (some l)) o=some b->dk β o=some b:=fun o b ho hb=>by
  unfold dk at hb |-;rw[aJ _ _ _ _ ho]at hb;exact hb
 have hdd:dk (bP β m (some l)) m=l.block:=by unfold dk;rw[aD];rfl
 have hob:∀o y,o≠m->bP s.ob m (some x) o=some y->s.ob o=some y:=fun o y ho hy=>by rw[aJ _ _ _ _ ho]at hy;exact hy
 refine {size:=g.size,defs:=g.defs,tm:=fun t=>(g.tm t).mono (Mem.le.refl _) hβ,le:=g.le,new:=g.new,agree:=g.agree,own:=fun o y hy=>?_,place:=fun o y b hy hlv hb=>?_,apart:=?_,us:=fun o hu=>?_,fix:=fun o b hf=>?_,cb:=g.cb}
 ·by_cases ho:o=m
  ·subst ho
   have:x=y:=by simpa[aD]using hy
   subst this;exact hx
  ·have hy':=hob o y ho hy
   exact(g.own o y hy').mono (Mem.le.refl _) hβ fun b hlv hb=>⟨rfl,(g.own o y hy').xY hlv hb⟩
 ·by_cases ho:o=m
  ·subst ho;rw[hdd]at hb;exact hpl b hb
  ·exact g.place o y b (hob o y ho hy) hlv (hbd o b ho hb)
 ·intro o o' y y' b hne hy hlv hy' hlv' hb hb'
  by_cases ho:o=m
  ·subst ho
   have:x=y:=by simpa[aD]using hy
   subst this
   rw[hdd]at hb
   exact hap b hb hlv o' y' (hob o' y' (Ne.symm hne) hy') hlv' (hbd o' b (Ne.symm hne) hb')
  ·by_cases ho':o'=m
   ·subst ho'
    have:x=y':=by simpa[aD]using hy'
    subst this
    rw[hdd]at hb'
    exact hap b hb' hlv' o y (hob o y ho hy) hlv (hbd o b ho hb)
   ·exact g.apart o o' y y' b hne (hob o y ho hy) hlv (hob o' y' ho' hy') hlv' (hbd o b ho hb) (hbd o' b ho' hb')
 ·by_cases ho:o=m
  ·subst ho
   have:({s with ob:=bP s.ob o (some x),us:=bP s.us o true}:St).us o=true:=aD _ _ _
   rw[this]at hu;cases hu
  ·have hu':s.us o=false:=by simpa[aJ _ _ _ _ ho]using hu
   obtain⟨q1,q2⟩:=g.us o hu'
   refine⟨by rw[aJ _ _ _ _ ho];exact q1,?_⟩
   show bP s.ob m (some x) o=none
   rw[aJ _ _ _ _ ho];exact q2
 ·by_cases ho:o=m
  ·subst ho
   exact⟨aD _ _ _,fun _ _=>by rw[aD,hfx b hf]⟩
  ·obtain⟨q1,q2⟩:=g.fix o b hf
   exact⟨by rw[<-q1];exact aJ _ _ _ _ ho,fun y hy=>by rw[aJ _ _ _ _ ho];exact q2 y (hob o y ho hy)⟩
end
end Go.VL
namespace Go.VL
open Go Go.RowKit
section
variable {P:Program} {M:Mem} {β:Lo} {w w':World} {n:Nat} {A:iA} {s:St} {a:Act}
def lR(s:St)(β:Lo)(w:World)(L:Nat)(βc:Lo)(obs:List Ob)(β':Lo)(tk:List Nat):Prop :=
 ∀o x b,s.ob o=some x->x.live=true->dk β o=some b->(b<w.heap.size/\¬∃i,i<L/\dk βc i=some b)\/∃q,q∈tk/\q<obs.length/\(obs.getD q .dead).live=true/\dk β' q=some b
theorem cz.take(g:cz n A s a w' M β){L:Nat}{βc:Lo}{M0:Mem}{r:AV}{obs:List Ob}{v:Value}{β':Lo}(ho:Out w M0 βc L r obs v w' M β')(hA:∀b,(w.heap.size<=b\/∃i,i<L/\dk βc i=some b)->A.w0.heap.size<=b\/A.rI b)
 {tk:List Nat} (hb:lR s β w L βc obs β' tk) {q m:Nat} (hq:q<obs.length) (hqt:q∉tk) (hlive:(obs.getD q .dead).live=true) {l:Loc} (hl:β' q=some l) (hm:s.ob m=none) (hm0:β m=none\/β m=some l) (hfx:∀b,A.fix m=some b->l=b)
 {x:Ob} (hx:Own M (bP β m (some l)) w' m x) :
 cz n A {s with ob:=bP s.ob m (some x),us:=bP s.us m true} a w' M (bP β m (some l))/\lR {s with ob:=bP s.ob m (some x),us:=bP s.us m true} (bP β m (some l)) w L βc obs β' (q::tk):=by
 have hblk:∀b,l.block=some b->dk β' q=some b:=fun b hb=>by unfold dk;rw[hl];exact hb
 constructor
 ·refine g.IE hm hm0 hfx hx (fun b hlb=>hA b ?_) fun b hlb _ o x' hox hl' hbo=>?_
  ·exact ho.place q b hq hlive (hblk b hlb)
  ·rcases hb o x' b hox hl' hbo with⟨h1,h2⟩|⟨q',h1,h2,h3,h4⟩
   ·rcases ho.place q b hq hlive (hblk b hlb)with h|h
    ·omega
    ·exact h2 h
   ·exact ho.apart q q' b (fun e=>hqt (by rw[e];exact h1)) hq h2 hlive h3 (hblk b hlb) h4
 ·intro o y b hy hly hbo
  by_cases e:o=m
  ·subst e
   have:dk (bP β o (some l)) o=l.block:=by unfold dk;rw[aD];rfl
   rw[this]at hbo
   exact .inr ⟨q,ae,hq,hlive,hblk b hbo⟩
  ·have hy':s.ob o=some y:=by simpa[aJ _ _ _ _ e]using hy
   have hbo':dk β o=some b:=by unfold dk at hbo |-;rw[aJ _ _ _ _ e]at hbo;exact hbo
   rcases hb o y b hy' hly hbo' with h|⟨q',h1,h2,h3,h4⟩
   ·exact .inl h
   ·exact .inr ⟨q',af _ h1,h2,h3,h4⟩
theorem cz.rC(g:cz n A s a w' M β){L:Nat}{βc:Lo}{M0:Mem}{r:AV}{obs:List Ob}{v:Value}{β':Lo}(ho:Out w M0 βc L r obs v w' M β')(hA:∀b,(w.heap.size<=b\/∃i,i<L/\dk βc i=some b)->A.w0.heap.size<=b\/A.rI b)
 {tk:List Nat} (hb:lR s β w L βc obs β' tk) {q m:Nat} (hq:q<obs.length) (hqt:q∉tk) {sz:Nat} {es:List (List AV)} (hob:obs.getD q .dead=.vec sz es) (hm:s.us m=false) :
 ∃l,cz n A {s with ob:=bP s.ob m (some (.vec sz es)),us:=bP s.us m true} a w' M (bP β m (some l))/\lR {s with ob:=bP s.ob m (some (.vec sz es)),us:=bP s.us m true} (bP β m (some l)) w L βc obs β' (q::tk) /\
  ∀v,aW M β' (.vec q) v->aW M (bP β m (some l)) (.vec m) v:=by
 have hown:=ho.own q hq
 rw[hob]at hown
 obtain⟨u,h1,h2,h3⟩:=hown
 obtain⟨q1,q2⟩:=g.us m hm
 obtain⟨r1,r2⟩:=cz.take g ho hA hb hq hqt (by rw[hob];rfl) h1 q2 (.inl q1) (fun b hf=>by have:=(g.fix m b hf).1;rw[hm]at this;cases this) (x:=.vec sz es) ⟨u,aD _ _ _,h2,h3⟩
 refine⟨_,r1,r2,fun v hv=>?_⟩
 cases hv with
 |vec _ _ _ sz' hov hb=>rw[h1]at hb;cases hb;exact .vec _ _ _ _ hov (aD _ _ _)
theorem cz.zA(g:cz n A s a w' M β){L:Nat}{βc:Lo}{M0:Mem}{r:AV}{obs:List Ob}{v:Value}{β':Lo}(ho:Out w M0 βc L r obs v w' M β')(hA:∀b,(w.heap.size<=b\/∃i,i<L/\dk βc i=some b)->A.w0.heap.size<=b\/A.rI b)
 {tk:List Nat} (hb:lR s β w L βc obs β' tk) {q m:Nat} (hq:q<obs.length) (hqt:q∉tk) {cs:List AV} (hob:obs.getD q .dead=.cells cs) {ks:List LK} (hlen:cs.length=ks.length) (hk:bT ks cs 0) (hm:s.us m=false) :
 ∃l,cz n A {s with ob:=bP s.ob m (some (.cells (gX ks cs 0))),us:=bP s.us m true} a w' M (bP β m (some l))/\∀v,aW M β' (.ref q 0) v->aW M (bP β m (some l)) (.ref m 0) v:=by
 have hown:=ho.own q hq
 rw[hob]at hown
 obtain⟨b,vs,e,h1,h2,h3,h4,h5,h6⟩:=hown
 obtain⟨q1,q2⟩:=g.us m hm
 obtain⟨r1,r2⟩:=cz.take g ho hA hb hq hqt (by rw[hob];rfl) h1 q2 (.inl q1) (fun b hf=>by have:=(g.fix m b hf).1;rw[hm]at this;cases this) (x:=.cells (gX ks cs 0))
  ⟨b,vs,e,aD _ _ _,h2,by rw[cH];omega,fun i hi=>by
   rw[cH]at hi
   have hg:=jk ks cs 0 i hk hi
   rw[jD ks cs 0 i hi]
   rw[aK]at hg |-
   exact LK.fM (jB (h4 i (by omega)) hg) hg,h5,h6⟩
 refine⟨_,r1,fun v hv=>?_⟩
 cases hv with
 |ref _ _ _ b' hb=>rw[h1]at hb;cases hb;exact .ref _ _ _ _ (aD _ _ _)
end
end Go.VL
namespace Go.VL
open Go Go.RowKit
theorem mn:∀(l r:List Nat) (f:Nat->Bool),dX f (l++r)=dX (dX f l) r
 |[],r,f=>rfl
 |o::l,r,f=>mn l r _
theorem qg:∀(os:List Nat) (f:Nat->Option Ob),bX f (nS os)=fh os f
 |[],f=>by funext o;rfl
 |
  o::os,f=>by
  show bX (bP f o none) (nS os)=_
  rw[qg os]
  funext q
  unfold fh
  by_cases e:q=o
  ·subst e
   have:e9 (q::os) q=true:=by simp[e9,List.any_cons,dx]
   rw[this,aD];cases e9 os q<;>rfl
  ·have:e9 (o::os) q=e9 os q:=by
    have h:az q o=false:=by
     cases h:az q o with
     |false=>rfl
     |true=>exact absurd (au h) e
    simp[e9,List.any_cons,h]
   rw[this,aJ _ _ _ _ e]
theorem me:∀(k nm m:Nat),m∈runN nm k↔nm<=m/\m<nm+k
 |0,nm,m=>by simp only[runN,List.not_mem_nil,false_iff];omega
 |k+1,nm,m=>by simp only[runN,aB,me k (nm+1) m];omega
theorem rO{f:Nat->Bool}{m:Nat}(h:f m=true):bP f m true=f:=by
 funext q
 by_cases e:q=m
 ·subst e;rw[aD,h]
 ·rw[aJ _ _ _ _ e]
section
variable {P:Program} {M M0:Mem} {β β' βc:Lo} {w w':World} {n L:Nat} {A:iA} {s:St} {a:Act} {r:AV} {obs:List Ob} {v:Value}
theorem ei(obs:List Ob)(j:Nat):(obs.drop j).headD .dead=obs.getD j .dead:=by
 rw[List.headD_eq_head?_getD,List.head?_drop,aa]
theorem eH{obs:List Ob}{j:Nat}(h:obs.getD j .dead≠.dead):j<obs.length:=by
 rcases Nat.lt_or_ge j obs.length with h'|h'
 ·exact h'
 ·exact absurd (by simp[aa,h']) h
theorem dC(obs:List Ob)(j:Nat):(obs.drop j).tail=obs.drop (j+1):=by rw[List.tail_drop]
theorem jP(ho:Out w M0 βc L r obs v w' M β')(hA:∀b,(w.heap.size<=b\/∃i,i<L/\dk βc i=some b)->A.w0.heap.size<=b\/A.rI b){full:List AV}{E:Nat} :
 ∀(ks:List CK) (i j nm:Nat) {s:St} {β:Lo} {tk:List Nat},cz n A s a w' M β->lR s β w L βc obs β' tk->(∀q,j<=q->q∉tk)->cm ks full i j (obs.drop j)->(∀m,nm<=m->m<E->s.us m=false)->nm+bb ks<=E ->
 ∃β2 tk',cz n A {s with ob:=bX s.ob (bf ks full i (obs.drop j) nm).2.1,us:=dX s.us (runN nm (bb ks))} a w' M β2/\lR {s with ob:=bX s.ob (bf ks full i (obs.drop j) nm).2.1,us:=dX s.us (runN nm (bb ks))} β2 w L βc obs β' tk' /\
  (∀q,q∈tk'->q∈tk\/(j<=q/\q<j+bb ks))/\Lo.le β β2/\(bf ks full i (obs.drop j) nm).2.2=(obs.drop (j+bb ks),nm+bb ks)/\(bf ks full i (obs.drop j) nm).1.length=ks.length/\full.length=i+ks.length /\
  (∀q u,q<ks.length->aW M β' (full.getD (i+q) .any) u->aW M β2 ((bf ks full i (obs.drop j) nm).1.getD q .any) u) /\
  (∀m,¬(nm<=m/\m<nm+bb ks)->bX s.ob (bf ks full i (obs.drop j) nm).2.1 m=s.ob m/\dX s.us (runN nm (bb ks)) m=s.us m/\β2 m=β m)
 |[],i,j,nm,s,β,tk,g,hb,ht,hk,hf,hE=>⟨β,tk,g,hb,fun q hq=>.inl hq,Lo.le.refl _,rfl,rfl,hk,fun q u hq=>by simp at hq,fun m _=>⟨rfl,rfl,rfl⟩⟩
 |
  .lk k::ks,i,j,nm,s,β,tk,g,hb,ht,hk,hf,hE=>by
  obtain⟨hk1,hk2⟩:=hk
  obtain⟨β2,tk',c1,c2,c3,c4,c5,c6,c7,c8,c9⟩:=jP ho hA ks (i+1) j nm g hb ht hk2 hf hE
  refine⟨β2,tk',c1,c2,c3,c4,c5,by simp[bf,c6],by simp;omega,fun q u hq hr=>?_,c9⟩
  cases q with
  |
   zero =>
   show aW M β2 ((k.cast (full.getD i .any)::_).getD 0 .any) u
   rw[aQ]
   exact LK.fM (jB (by simpa using hr) hk1) hk1
  |
   succ q =>
   have:=c8 q u (by simpa using hq) (by rw[show i+1+q=i+(q+1) by omega];exact hr)
   simpa[bf]using this
 |
  .vec h::ks,i,j,nm,s,β,tk,g,hb,ht,hk,hf,hE=>by
  obtain⟨hk1,hk2,hk3⟩:=hk
  rw[ei]at hk2
  rw[dC]at hk3
  have hE':nm+bb ks+1<=E:=by simp only[bb]at hE;omega
  have hj:j<obs.length:=eH (by rw[hk2];intro e;cases e)
  have hus:=hf nm (an _) (by omega)
  obtain⟨l,g1,b1,r1⟩:=g.rC ho hA hb hj (ht j (an _)) hk2 hus
  have hn:=(g.us nm hus).1
  have hle:Lo.le β (bP β nm (some l)):=fun o q hq=>by
   by_cases e:o=nm
   ·subst e;rw[hn]at hq;cases hq
   ·rw[aJ _ _ _ _ e];exact hq
  obtain⟨β2,tk',c1,c2,c3,c4,c5,c6,c7,c8,c9⟩:=jP ho hA ks (i+1) (j+1) (nm+1) (E:=E) g1 b1 (fun q hq hq'=>by
   rcases aB.1 hq' with rfl|h
   ·omega
   ·exact ht q (by omega) h) hk3 (fun m h1 h2=>by
    show bP s.us nm true m=false
    rw[aJ _ _ _ _ (by omega)];exact hf m (by omega) h2) (by omega)
  have eb:bf (.vec h::ks) full i (obs.drop j) nm=(.vec nm::(bf ks full (i+1) (obs.drop (j+1)) (nm+1)).1,(nm,some (.vec h ((obs.getD j .dead).es)))::(bf ks full (i+1) (obs.drop (j+1)) (nm+1)).2.1,(bf ks full (i+1) (obs.drop (j+1)) (nm+1)).2.2):=by
   rw[<-ei,<-dC];rfl
  rw[eb]
  refine⟨β2,tk',c1,c2,fun q hq=>?_,fun o q hq=>c4 o q (hle o q hq),?_,by simp[c6],by simp;omega,fun q u hq hr=>?_,fun m hm=>?_⟩
  ·rcases c3 q hq with h|h
   ·rcases aB.1 h with rfl|h
    ·exact .inr ⟨an _,by simp[bb]⟩
    ·exact .inl h
   ·exact .inr ⟨by omega,by simp only[bb];omega⟩
  ·rw[c5];simp only[bb]
   rw[show j+1+bb ks=j+(bb ks+1) by omega,show nm+1+bb ks=nm+(bb ks+1) by omega]
  ·cases q with
   |
    zero =>
    rw[aQ]
    rw[bo,hk1]at hr
    exact(r1 u hr).mono (Mem.le.refl _) c4
   |
    succ q =>
    have:=c8 q u (by simpa using hq) (by rw[show i+1+q=i+(q+1) by omega];exact hr)
    simpa using this
  ·simp only[bb]at hm
   obtain⟨d1,d2,d3⟩:=c9 m (by omega)
   have hne:m≠nm:=by omega
   refine⟨?_,?_,?_⟩
   ·show bX (bP s.ob nm _) _ m=_
    refine d1.trans ?_
    exact aJ _ _ _ _ hne
   ·show dX (bP s.us nm true) _ m=_
    refine d2.trans ?_
    exact aJ _ _ _ _ hne
   ·rw[d3,aJ _ _ _ _ hne]
def dK:List MK->Nat
 |[]=>0
 | .vec::ms=>dK ms+1
 | .si kz::ms=>dK ms+1
 | .cb _ _::ms=>dK ms+1
 | .obj ks::ms=>dK ms+1+bb ks
def kg:List MK->Nat
 |[]=>0
 | .vec::ms=>kg ms
 | .si kz::ms=>kg ms
 | .cb _ _::ms=>kg ms
 | .obj ks::ms=>bb ks+kg ms
theorem gd:∀(ms:List MK) (obs:List Ob),di ms obs=true->obs.length=dK ms
 |[],[],_=>rfl
 |[],_::_,h=>by cases h
 |
  .vec::ms,obs,h=>by
  cases obs with
  |nil=>cases h
  |cons x obs=>cases x<;>first|(cases h;done)|simp[dK,gd ms obs h]
 |
  .si kz::ms,obs,h=>by
  cases obs with
  |nil=>cases h
  |cons x obs=>cases x<;>first|(cases h;done)|simp[dK,gd ms obs h]
 |
  .cb g ks::ms,obs,h=>by
  cases obs with
  |nil=>cases h
  |
   cons x obs =>
   cases x<;>first|(cases h;done)|skip
   simp only[di,ai]at h
   simp[dK,gd ms obs h.2]
 |
  .obj ks::ms,obs,h=>by
  cases obs with
  |nil=>cases h
  |
   cons x obs =>
   cases x<;>first|(cases h;done)|skip
   simp only[di,ai]at h
   have:=gd ms _ h.2
   have h1:=aF h.1.1
   simp only[bh]at this
   simp only[aw,dK];omega
theorem iH:∀(ms:List MK) (obs:List Ob) (j:Nat),di ms obs=true->∀q cs,q<obs.length->obs.getD q .dead=.cells cs->j+q∈nh ms j
 |[],[],j,_,q,cs,hq,_=>by simp at hq
 |[],_::_,_,h,_,_,_,_=>by cases h
 |
  .vec::ms,obs,j,h,q,cs,hq,hc=>by
  cases obs with
  |nil=>cases h
  |
   cons x obs =>
   cases x<;>first|(cases h;done)|skip
   cases q with
   |zero=>cases hc
   |
    succ q =>
    have:=iH ms obs (j+1) h q cs (by simpa using hq) (by simpa using hc)
    rw[show j+(q+1)=j+1+q by omega];exact this
 |
  .si kz::ms,obs,j,h,q,cs,hq,hc=>by
  cases obs with
  |nil=>cases h
  |
   cons x obs =>
   cases x<;>first|(cases h;done)|skip
   cases q with
   |zero=>cases hc
   |
    succ q =>
    have:=iH ms obs (j+1) h q cs (by simpa using hq) (by simpa using hc)
    rw[show j+(q+1)=j+1+q by omega];exact this
 |
  .cb g ks::ms,obs,j,h,q,cs,hq,hc=>by
  cases obs with
  |nil=>cases h
  |
   cons x obs =>
   cases x<;>first|(cases h;done)|skip
   simp only[di,ai]at h
   cases q with
   |zero=>cases hc
   |
    succ q =>
    have:=iH ms obs (j+1) h.2 q cs (by simpa using hq) (by simpa using hc)
    rw[show j+(q+1)=j+1+q by omega];exact af _ this
 |
  .obj ks::ms,obs,j,h,q,cs,hq,hc=>by
  cases obs with
  |nil=>cases h
  |
   cons x obs =>
   cases x<;>first|(cases h;done)|skip
   simp only[di,ai]at h
   obtain⟨⟨h1,h2⟩,h3⟩:=h
   have h1:=aF h1
   cases q with
   |zero=>exact ae
   |
    succ q =>
    have hq':q<obs.length:=by simpa using hq
    have hc':obs.getD q .dead=.cells cs:=by simpa using hc
    by_cases hlt:q<bb ks
    ·exfalso
     rw[bg]at h2
     have hm:obs.getD q .dead∈obs.take (bb ks):=by
      have:obs.getD q .dead=obs[q]:=by simp[aa,hq']
      rw[this]
      exact List.mem_take_iff_getElem.2 ⟨q,by omega,rfl⟩
     have:=h2 _ hm
     rw[hc']at this;cases this
    ·have:=iH ms _ (j+1+bb ks) h3 (q-bb ks) cs (by simp only[bh];omega) (by
      rw[<-hc']
      simp[aa,bV,show bb ks+(q-bb ks)=q by omega])
     rw[show j+(q+1)=j+1+bb ks+(q-bb ks) by omega]
     exact af _ this
theorem fG:∀(ms:List MK) (obs:List Ob),di ms obs=true->∀q,q<obs.length->(obs.getD q .dead).live=true
 |[],[],_,q,hq=>by simp at hq
 |[],_::_,h,_,_=>by cases h
 |
  .vec::ms,obs,h,q,hq=>by
  cases obs with
  |nil=>cases h
  |
   cons x obs =>
   cases x<;>first|(cases h;done)|skip
   cases q with
   |zero=>rfl
   |succ q=>simpa using fG ms obs h q (by simpa using hq)
 |
  .si kz::ms,obs,h,q,hq=>by
  cases obs with
  |nil=>cases h
  |
   cons x obs =>
   cases x<;>first|(cases h;done)|skip
   cases q with
   |zero=>rfl
   |succ q=>simpa using fG ms obs h q (by simpa using hq)
 |
  .cb g ks::ms,obs,h,q,hq=>by
  cases obs with
  |nil=>cases h
  |
   cons x obs =>
   cases x<;>first|(cases h;done)|skip
   simp only[di,ai]at h
   cases q with
   |zero=>rfl
   |succ q=>simpa using fG ms obs h.2 q (by simpa using hq)
 |
  .obj ks::ms,obs,h,q,hq=>by
  cases obs with
  |nil=>cases h
  |
   cons x obs =>
   cases x<;>first|(cases h;done)|skip
   simp only[di,ai]at h
   obtain⟨⟨h1,h2⟩,h3⟩:=h
   cases q with
   |zero=>rfl
   |
    succ q =>
    have hq':q<obs.length:=by simpa using hq
    show (obs.getD q .dead).live=true
    by_cases hlt:q<bb ks
    ·rw[bg]at h2
     have e:obs.getD q .dead=obs[q]:=by simp[aa,hq']
     have:=h2 obs[q] (List.mem_take_iff_getElem.2 ⟨q,by omega,rfl⟩)
     rw[e]
     cases hx:obs[q]<;>rw[hx]at this<;>first|(cases this;done)|rfl
    ·have:=fG ms _ h3 (q-bb ks) (by simp only[bh];omega)
     rw[<-this]
     simp[aa,bV,show bb ks+(q-bb ks)=q by omega]
theorem l8:∀(ms:List MK) (j q:Nat),q∈nh ms j->j<=q/\q<j+dK ms
 |[],j,q,h=>by cases h
 |
  .vec::ms,j,q,h=>by
  have:=l8 ms _ _ h
  simp only[dK];omega
 |
  .si kz::ms,j,q,h=>by
  have:=l8 ms _ _ h
  simp only[dK];omega
 |
  .cb g ks::ms,j,q,h=>by
  simp only[dK]
  rcases aB.1 h with rfl|h
  ·omega
  ·have:=l8 ms _ _ h
   omega
 |
  .obj ks::ms,j,q,h=>by
  simp only[dK]
  rcases aB.1 h with rfl|h
  ·omega
  ·have:=l8 ms _ _ h
   omega
def HP(A:iA)(s:St)(β βc:Lo)(fx:Nat->Prop)(os:List Nat)(j:Nat):Prop :=
 ∀q b,q<os.length->fx (j+q)->βc (j+q)=some b->s.ob (os.getD q 0)=none/\s.us (os.getD q 0)=true/\β (os.getD q 0)=some b/\∀b',A.fix (os.getD q 0)=some b'->b'=b
theorem HP.drop{fx:Nat->Prop}{os:List Nat}{j:Nat}(h:HP A s β βc fx os j)(k:Nat):HP A s β βc fx (os.drop k) (j+k):=fun q b hq hx hb=>by
 simp only[bh]at hq
 have:=h (k+q) b (by omega) (by rw[show j+(k+q)=j+k+q by omega];exact hx) (by rw[show j+(k+q)=j+k+q by omega];exact hb)
 have e:(os.drop k).getD q 0=os.getD (k+q) 0:=by simp[aa,bV]
 rw[e];exact this
theorem jR:∀(k:Nat) {os:List Nat},nodup os=true->nodup (os.drop k)=true
 |0,os,h=>h
 |k+1,[],h=>by simpa using h
 |k+1,o::os,h=>by simpa using jR k (nodup_cons h).2
theorem iM(ho:Out w M0 βc L r obs v w' M β')(hA:∀b,(w.heap.size<=b\/∃i,i<L/\dk βc i=some b)->A.w0.heap.size<=b\/A.rI b){ins:List Ob}(hL:ins.length=L)(hin:∀j,j<L->Own M0 βc w j (ins.getD j .dead)){E:Nat}{fx:Nat->Prop} :
 ∀(ms:List MK) (os:List Nat) (j nm:Nat) {s:St} {β:Lo} {tk:List Nat},cz n A s a w' M β->lR s β w L βc obs β' tk->(∀q,j<=q->q∉tk)->di ms (ins.drop j)=true->os.length=dK ms->nodup os=true->HP A s β βc fx os j->(∀q,q∈nh ms j->fx q) ->
  fo (cM ms os (obs.drop j) j nm).1->(∀m,nm<=m->m<E->s.us m=false)->nm+kg ms<=E ->
 ∃β2 tk',cz n A {s with ob:=bX s.ob (cM ms os (obs.drop j) j nm).2.1,us:=dX s.us (pZ ms nm)} a w' M β2/\lR {s with ob:=bX s.ob (cM ms os (obs.drop j) j nm).2.1,us:=dX s.us (pZ ms nm)} β2 w L βc obs β' tk' /\
  (∀q,q∈tk'->q∈tk\/q<j+dK ms)/\(cM ms os (obs.drop j) j nm).2.2=(obs.drop (j+dK ms),nm+kg ms)/\(∀m,nm+kg ms<=m->m<E->dX s.us (pZ ms nm) m=false)
 |[],os,j,nm,s,β,tk,g,hb,ht,hal,hol,hnd,hp,hfm,hk,hf,hE=>⟨β,tk,g,hb,fun q hq=>.inl hq,rfl,fun m h1 h2=>hf m h1 h2⟩
 |
  .vec::ms,os,j,nm,s,β,tk,g,hb,ht,hal,hol,hnd,hp,hfm,hk,hf,hE=>by
  have hal':di ms (ins.drop (j+1))=true:=by
   rw[<-dC]
   cases e:ins.drop j with
   |nil=>rw[e]at hal;cases hal
   |cons x xs=>rw[e]at hal;cases x<;>first|(cases hal;done)|exact hal
  have et:os.tail=os.drop 1:=by rw[List.drop_one]
  have eb:cM (.vec::ms) os (obs.drop j) j nm=cM ms (os.drop 1) (obs.drop (j+1)) (j+1) nm:=by
   rw[<-dC,<-et];rfl
  rw[eb]at hk |-
  obtain⟨β2,tk',c1,c2,c3,c4,c5⟩:=iM ho hA hL hin ms (os.drop 1) (j+1) nm g hb (fun q hq=>ht q (by omega)) hal' (by simp[hol,dK]) (jR 1 hnd) (hp.drop 1) hfm hk hf hE
  refine⟨β2,tk',c1,c2,fun q hq=>?_,by rw[c4];simp only[dK];rw[show j+1+dK ms=j+(dK ms+1) by omega];rfl,c5⟩
  rcases c3 q hq with h|h
  ·exact .inl h
  ·exact .inr (by simp only[dK];omega)
 |
  .si kz::ms,os,j,nm,s,β,tk,g,hb,ht,hal,hol,hnd,hp,hfm,hk,hf,hE=>by
  have hal':di ms (ins.drop (j+1))=true:=by
   rw[<-dC]
   cases e:ins.drop j with
   |nil=>rw[e]at hal;cases hal
   |cons x xs=>rw[e]at hal;cases x<;>first|(cases hal;done)|exact hal
  have et:os.tail=os.drop 1:=by rw[List.drop_one]
  have eb:cM (.si kz::ms) os (obs.drop j) j nm=cM ms (os.drop 1) (obs.drop (j+1)) (j+1) nm:=by
   rw[<-dC,<-et];rfl
  rw[eb]at hk |-
  obtain⟨β2,tk',c1,c2,c3,c4,c5⟩:=iM ho hA hL hin ms (os.drop 1) (j+1) nm g hb (fun q hq=>ht q (by omega)) hal' (by simp[hol,dK]) (jR 1 hnd) (hp.drop 1) hfm hk hf hE
  refine⟨β2,tk',c1,c2,fun q hq=>?_,by rw[c4];simp only[dK];rw[show j+1+dK ms=j+(dK ms+1) by omega];rfl,c5⟩
  rcases c3 q hq with h|h
  ·exact .inl h
  ·exact .inr (by simp only[dK];omega)
 |
  .cb gg ks::ms,os,j,nm,s,β,tk,g,hb,ht,hal,hol,hnd,hp,hfm,hk,hf,hE=>by
  have hins:∃es0,ins.getD j .dead=.vec (j3 ks) es0/\j<L/\di ms (ins.drop (j+1))=true:=by
   cases e:ins.drop j with
   |nil=>rw[e]at hal;cases hal
   |
    cons x xs =>
    rw[e]at hal
    cases x<;>first|(cases hal;done)|skip
    rename_i z es0
    simp only[di,ai]at hal
    have hz:=au hal.1
    have e1:ins.getD j .dead=.vec z es0:=by rw[<-ei,e];rfl
    have e2:xs=ins.drop (j+1):=by rw[<-dC,e];rfl
    exact⟨es0,by rw[e1,hz],by rw[<-hL];exact eH (by rw[e1];intro h;cases h),by rw[<-e2];exact hal.2⟩
  obtain⟨es0,i1,i2,hal'⟩:=hins
  have hown0:=hin j i2
  rw[i1]at hown0
  obtain⟨v0,q0,_⟩:=hown0
  simp only[dK]at hol
  cases os with
  |nil=>simp only[aM]at hol;omega
  |
   cons p os =>
   have eb:cM (.cb gg ks::ms) (p::os) (obs.drop j) j nm=((obs.getD j .dead=.kB (j3 ks) (obs.getD j .dead).es)::(cM ms os (obs.drop (j+1)) (j+1) nm).1,(p,some (.vec (j3 ks) (obs.getD j .dead).es))::(cM ms os (obs.drop (j+1)) (j+1) nm).2.1,(cM ms os (obs.drop (j+1)) (j+1) nm).2.2):=by
    rw[<-ei,<-dC];rfl
   rw[eb]at hk |-
   obtain⟨hk1,hk3⟩:=hk
   have hj:j<obs.length:=eH (by rw[hk1];intro e;cases e)
   generalize hes:(obs.getD j .dead).es=es at *
   obtain⟨p1,p2,p3,p4⟩:=hp 0 _ (by simp) (hfm _ ae) (by rw[bo];exact q0)
   simp only[aQ]at p1 p2 p3 p4
   have hsame:=ho.wY j _ _ _ i2 q0 hk1
   have hown:=ho.own j hj
   rw[hk1]at hown
   obtain⟨u,o1,o2,o3⟩:=hown
   rw[hsame]at o1;cases o1
   have hupd:bP β p (some (.vec v0 (j3 ks)))=β:=by
    funext q
    by_cases e:q=p
    ·subst e;rw[aD,p3]
    ·rw[aJ _ _ _ _ e]
   obtain⟨g2,b2⟩:=g.take ho hA hb hj (ht j (an _)) (by rw[hk1];rfl) hsame (m:=p) p1 (.inr p3) (fun b' hb'=>(p4 b' hb').symm) (x:=.vec (j3 ks) es) ⟨_,aD _ _ _,o2,o3⟩
   rw[hupd]at g2 b2
   have hus:bP s.us p true=s.us:=rO p2
   simp only[hus]at g2 b2
   obtain⟨n1,n2⟩:=nodup_cons hnd
   obtain⟨β2,tk',e1,e2,e3,e4,e5⟩:=iM ho hA hL hin ms os (j+1) nm g2 b2 (fun q hq hq'=>by
    rcases aB.1 hq' with rfl|h
    ·omega
    ·exact ht q (by omega) h) hal' (by simp at hol;omega) n2 (fun q b hq hx hb=>by
    have hd:=(hp.drop 1) q b (by simpa using hq) hx hb
    have eo:((p::os).drop 1).getD q 0=os.getD q 0:=rfl
    rw[eo]at hd
    have hxp:os.getD q 0≠p:=fun e=>n1 (by
     rw[<-e]
     have:os.getD q 0=os[q]:=by simp[aa,hq]
     rw[this];exact cc _)
    obtain⟨x1,x2,x3,x4⟩:=hd
    refine⟨?_,x2,x3,x4⟩
    show bP s.ob p _ _=none
    rw[aJ _ _ _ _ hxp];exact x1) (fun q hq=>hfm q (af _ hq)) hk3 hf hE
   refine⟨β2,tk',e1,e2,fun q hq=>?_,by rw[e4];simp only[dK];rw[show j+1+dK ms=j+(dK ms+1) by omega];rfl,e5⟩
   rcases e3 q hq with h|h
   ·rcases aB.1 h with rfl|h
    ·exact .inr (by simp only[dK];omega)
    ·exact .inl h
   ·exact .inr (by simp only[dK];omega)
 |
  .obj ks::ms,os,j,nm,s,β,tk,g,hb,ht,hal,hol,hnd,hp,hfm,hk,hf,hE=>by
  have hins:∃cs,ins.getD j .dead=.cells cs/\j<L/\di ms (ins.drop (j+1+bb ks))=true:=by
   cases e:ins.drop j with
   |nil=>rw[e]at hal;cases hal
   |
    cons x xs =>
    rw[e]at hal
    cases x<;>first|(cases hal;done)|skip
    rename_i cs
    simp only[di,ai]at hal
    have e1:ins.getD j .dead=.cells cs:=by rw[<-ei,e];rfl
    refine⟨cs,e1,by rw[<-hL];exact eH (by rw[e1];intro h;cases h),?_⟩
    have e2:xs=ins.drop (j+1):=by rw[<-dC,e];rfl
    have:=hal.2
    rw[e2,List.drop_drop]at this
    exact this
  obtain⟨cs0,i1,i2,hal'⟩:=hins
  have hown0:=hin j i2
  rw[i1]at hown0
  obtain⟨b0,_,_,q0,_⟩:=hown0
  simp only[dK]at hol
  cases os with
  |nil=>simp only[aM]at hol;omega
  |
   cons p os =>
   have eb:cM (.obj ks::ms) (p::os) (obs.drop j) j nm =
    ((
     (obs.drop j).headD .dead=.cells ((obs.drop j).headD .dead).cs)::cm ks ((obs.drop j).headD .dead).cs 0 (j+1) (obs.drop j).tail::(cM ms ((p::os).drop (bb ks+1)) (bf ks ((obs.drop j).headD .dead).cs 0 (obs.drop j).tail nm).2.2.1 (j+1+bb ks) (bf ks ((obs.drop j).headD .dead).cs 0 (obs.drop j).tail nm).2.2.2).1,
     (bf ks ((obs.drop j).headD .dead).cs 0 (obs.drop j).tail nm).2.1++(p,some (.cells (bf ks ((obs.drop j).headD .dead).cs 0 (obs.drop j).tail nm).1))::(cM ms ((p::os).drop (bb ks+1)) (bf ks ((obs.drop j).headD .dead).cs 0 (obs.drop j).tail nm).2.2.1 (j+1+bb ks) (bf ks ((obs.drop j).headD .dead).cs 0 (obs.drop j).tail nm).2.2.2).2.1,
     (cM ms ((p::os).drop (bb ks+1)) (bf ks ((obs.drop j).headD .dead).cs 0 (obs.drop j).tail nm).2.2.1 (j+1+bb ks) (bf ks ((obs.drop j).headD .dead).cs 0 (obs.drop j).tail nm).2.2.2).2.2):=rfl
   rw[ei,dC]at eb
   rw[eb]at hk |-
   obtain⟨hk1,hk2,hk3⟩:=hk
   have hj:j<obs.length:=eH (by rw[hk1];intro e;cases e)
   generalize hfull:(obs.getD j .dead).cs=full at *
   have hcE:nm+bb ks+kg ms<=E:=by simp only[kg]at hE;omega
   obtain⟨β1,tk1,c1,c2,c3,c4,c5,c6,c7,c8,c9⟩:=jP ho hA (E:=E) ks 0 (j+1) nm g hb (fun q hq=>ht q (by omega)) hk2 hf (by omega)
   rw[c5]at hk3 |-
   simp only at hk3 |-
   obtain⟨p1,p2,p3,p4⟩:=hp 0 _ (by simp) (hfm _ ae) (by rw[bo];exact q0)
   simp only[aQ]at p1 p2 p3 p4
   have hpn:¬(nm<=p/\p<nm+bb ks):=fun h=>by have:=hf p h.1 (by omega);rw[p2]at this;cases this
   obtain⟨d1,d2,d3⟩:=c9 p hpn
   have hsame:=ho.same j b0 i2 q0
   have hown:=ho.own j hj
   rw[hk1]at hown
   obtain⟨b,vs,e,o1,o2,o3,o4,o5,o6⟩:=hown
   rw[hsame]at o1;cases o1
   have hβp:β1 p=some (.cells b0):=by rw[d3];exact p3
   have hupd:bP β1 p (some (.cells b0))=β1:=by
    funext q
    by_cases e:q=p
    ·subst e;rw[aD,hβp]
    ·rw[aJ _ _ _ _ e]
   have o3':vs.size=full.length:=o3
   obtain⟨g2,b2⟩:=c1.take ho hA c2 hj (fun h=>by
    rcases c3 j h with h|h
    ·exact ht j (an _) h
    ·omega) (by rw[hk1];rfl) hsame (m:=p) (by exact d1.trans p1) (.inr hβp) (fun b' hb'=>(p4 b' hb').symm)
    (x:=.cells (bf ks full 0 (obs.drop (j+1)) nm).1)
    ⟨b0,vs,e,aD _ _ _,o2,by rw[o3',c6,c7];omega,fun i hi=>by
     rw[hupd]
     have:=o4 i (by
      rw[c6]at hi;have:i<full.length:=by omega
      exact this)
     exact c8 i _ (by omega) (by rw[aK];exact this),o5,o6⟩
   rw[hupd]at g2 b2
   have hus:bP (dX s.us (runN nm (bb ks))) p true=dX s.us (runN nm (bb ks)):=rO (d2.trans p2)
   simp only[hus]at g2 b2
   have hn2:=nodup_cons hnd
   obtain⟨β2,tk',e1,e2,e3,e4,e5⟩:=iM ho hA hL hin ms ((p::os).drop (bb ks+1)) (j+1+bb ks) (nm+bb ks) g2 b2 (fun q hq hq'=>by
    rcases aB.1 hq' with rfl|h
    ·omega
    ·rcases c3 q h with h|h
     ·exact ht q (by omega) h
     ·omega) hal' (by simp at hol |-;omega) (jR _ hnd) (fun q b hq hx hb=>by
    have hd:=(hp.drop (bb ks+1)) q b hq (by rw[show j+(bb ks+1)+q=j+1+bb ks+q by omega];exact hx) (by rw[show j+(bb ks+1)+q=j+1+bb ks+q by omega];exact hb)
    generalize hx:((p::os).drop (bb ks+1)).getD q 0=x at hd |-
    have hxp:x≠p:=fun e=>by
     subst e
     apply hn2.1
     rw[<-hx]
     simp only[List.drop_succ_cons,bh,aw]at hq |-
     have:(os.drop (bb ks)).getD q 0=os[bb ks+q]'(by omega):=by simp[aa,bV,show bb ks+q<os.length by omega]
     rw[this];exact cc _
    obtain⟨x1,x2,x3,x4⟩:=hd
    have hxn:¬(nm<=x/\x<nm+bb ks):=fun h=>by have:=hf x h.1 (by omega);rw[x2]at this;cases this
    obtain⟨y1,y2,y3⟩:=c9 x hxn
    refine⟨?_,y2.trans x2,by rw[y3];exact x3,x4⟩
    show bP _ p _ x=none
    rw[aJ _ _ _ _ hxp];exact y1.trans x1) (fun q hq=>hfm q (af _ hq)) hk3 (fun m h1 h2=>by
    obtain⟨_,y2,_⟩:=c9 m (by omega)
    exact y2.trans (hf m (by omega) h2)) (by omega)
   have eob:bX s.ob ((bf ks full 0 (obs.drop (j+1)) nm).2.1++(p,some (.cells (bf ks full 0 (obs.drop (j+1)) nm).1))::(cM ms ((p::os).drop (bb ks+1)) (obs.drop (j+1+bb ks)) (j+1+bb ks) (nm+bb ks)).2.1) =
    bX (bP (bX s.ob (bf ks full 0 (obs.drop (j+1)) nm).2.1) p (some (.cells (bf ks full 0 (obs.drop (j+1)) nm).1))) (cM ms ((p::os).drop (bb ks+1)) (obs.drop (j+1+bb ks)) (j+1+bb ks) (nm+bb ks)).2.1:=by rw[kN];rfl
   have eus:dX s.us (pZ (.obj ks::ms) nm)=dX (dX s.us (runN nm (bb ks))) (pZ ms (nm+bb ks)):=mn _ _ _
   rw[eob,eus]
   refine⟨β2,tk',e1,e2,fun q hq=>?_,?_,fun m h1 h2=>e5 m (by simp only[kg]at h1;omega) h2⟩
   ·rcases e3 q hq with h|h
    ·rcases aB.1 h with rfl|h
     ·exact .inr (by simp only[dK];omega)
     ·rcases c3 q h with h|h
      ·exact .inl h
      ·exact .inr (by simp only[dK];omega)
    ·exact .inr (by simp only[dK];omega)
   ·rw[e4];simp only[dK,kg]
    rw[show j+1+bb ks+dK ms=j+(dK ms+1+bb ks) by omega,show nm+bb ks+kg ms=nm+(bb ks+kg ms) by omega]
end
end Go.VL
namespace Go.VL
open Go Go.RowKit
section
variable {P:Program} {M M0:Mem} {β β' βc:Lo} {w w':World} {n L:Nat} {A:iA} {s:St} {a:Act} {r:AV} {obs:List Ob} {v:Value}
theorem Au(g:cz n A s a w M β){m:Nat}(h:s.us m=false)(l:Loc):Lo.le β (bP β m (some l)):=fun o q hq=>by
 by_cases e:o=m
 ·subst e;rw[(g.us o h).1]at hq;cases hq
 ·rw[aJ _ _ _ _ e];exact hq
theorem cW:∀(ks:List CK) (cs:List AV) (i:Nat) (obs:List Ob) (nm:Nat),(bf ks cs i obs nm).2.1.map (·.1)=runN nm (bb ks)/\(bf ks cs i obs nm).2.2.2=nm+bb ks
 |[],cs,i,obs,nm=>⟨rfl,rfl⟩
 | .lk k::ks,cs,i,obs,nm=>cW ks cs (i+1) obs nm
 |
  .vec h::ks,cs,i,obs,nm=>by
  obtain⟨h1,h2⟩:=cW ks cs (i+1) obs.tail (nm+1)
  refine⟨?_,?_⟩
  ·show nm::(bf ks cs (i+1) obs.tail (nm+1)).2.1.map (·.1)=_
   rw[h1];rfl
  ·show (bf ks cs (i+1) obs.tail (nm+1)).2.2.2=_
   rw[h2];simp only[bb];omega
theorem jO:∀(ks:List CK) (cs:List AV) (i:Nat) (obs:List Ob) (nm:Nat),(bf ks cs i obs nm).2.2=(obs.drop (bb ks),nm+bb ks)
 |[],cs,i,obs,nm=>rfl
 | .lk k::ks,cs,i,obs,nm=>jO ks cs (i+1) obs nm
 |
  .vec h::ks,cs,i,obs,nm=>by
  show (bf ks cs (i+1) obs.tail (nm+1)).2.2=_
  rw[jO ks cs (i+1) obs.tail (nm+1)]
  simp only[bb]
  rw[<-List.drop_one,List.drop_drop,show 1+bb ks=bb ks+1 by omega,show nm+1+bb ks=nm+(bb ks+1) by omega]
theorem mQ{T:dL}{own:List Nat}{oa:List CK}:∀(ts:List Nat) (i j nm:Nat) (o:List Ob) (m:Nat),m∈(dA T own oa r ts i j o nm).2.2.map (·.1)->nm<=m
 |[],i,j,nm,o,m,hm=>by simp[dA]at hm
 |
  t::ts,i,j,nm,o,m,hm=>by
  simp only[dA]at hm
  cases ho:own.any (az i)with
  |
   true =>
   rw[ho]at hm
   cases ha:(T t).agg with
   |
    true =>
    rw[ha]at hm
    simp only[cond_true,bJ,aC,jO]at hm
    rw[(cW _ _ _ _ _).1,me]at hm
    rcases hm with hm|hm
    ·exact hm.1
    ·have:=mQ _ _ _ _ _ _ hm;omega
   |
    false =>
    rw[ha]at hm
    simp only[cond_true,cond_false,aS,aB]at hm
    rcases hm with rfl|hm
    ·exact an _
    ·exact Nat.le_of_succ_le (mQ _ _ _ _ _ _ hm)
  |false=>rw[ho]at hm;exact mQ _ _ _ _ _ _ hm
theorem sg{oa:List CK}(ho:Out w M0 βc L r obs v w' M β')(hA:∀b,(w.heap.size<=b\/∃i,i<L/\dk βc i=some b)->A.w0.heap.size<=b\/A.rI b)(x:AV)(j nm:Nat){s:St}{β:Lo}{tk:List Nat}(g:cz n A s a w' M β)(hb:lR s β w L βc obs β' tk)(ht:∀q,j<=q->q∉tk)
 (hp:x=.agg x.cs/\cm oa x.cs 0 j (obs.drop j)) (hf:∀m,m∈(bf oa x.cs 0 (obs.drop j) nm).2.1.map (·.1)->s.us m=false) :
 ∃β2 tk',cz n A {s with ob:=bX s.ob (bf oa x.cs 0 (obs.drop j) nm).2.1,us:=dX s.us ((bf oa x.cs 0 (obs.drop j) nm).2.1.map (·.1))} a w' M β2/\lR {s with ob:=bX s.ob (bf oa x.cs 0 (obs.drop j) nm).2.1,us:=dX s.us ((bf oa x.cs 0 (obs.drop j) nm).2.1.map (·.1))} β2 w L βc obs β' tk' /\
  (∀q,q∈tk'->q∈tk\/(j<=q/\q<j+bb oa))/\Lo.le β β2/\(∀u,aW M β' x u->aW M β2 (.agg (bf oa x.cs 0 (obs.drop j) nm).1) u)/\∀m,nm+bb oa<=m->dX s.us ((bf oa x.cs 0 (obs.drop j) nm).2.1.map (·.1)) m=s.us m:=by
 rw[(cW _ _ _ _ _).1]at hf |-
 obtain⟨β2,tk',c1,c2,c3,c4,c5,c6,c7,c8,c9⟩:=jP ho hA (E:=nm+bb oa) oa 0 j nm g hb ht hp.2 (fun m h1 h2=>hf m ((me _ _ _).2 ⟨h1,h2⟩)) (an _)
 refine⟨β2,tk',c1,c2,c3,c4,fun u hu=>?_,fun m hm=>(c9 m (by omega)).2.1⟩
 rw[hp.1]at hu
 obtain⟨us,rfl,hl,hr,hone⟩:=eW hu
 refine .agg _ _ _ (by omega) (fun i hi=>hone i (by omega)) fun i hi=>?_
 have:=c8 i (us.getD i undef) (by omega) (by rw[aK];exact hr i (by omega))
 exact this
theorem k0{T:dL}{own:List Nat}{oa:List CK}(ho:Out w M0 βc L r obs v w' M β')(hA:∀b,(w.heap.size<=b\/∃i,i<L/\dk βc i=some b)->A.w0.heap.size<=b\/A.rI b){vs:List Value}{E:Nat} :
 ∀(ts:List Nat) (i j nm:Nat) {s:St} {β:Lo} {tk:List Nat},cz n A s a w' M β->lR s β w L βc obs β' tk->(∀q,j<=q->q∉tk)->fo (dA T own oa r ts i j (obs.drop j) nm).1->(∀q,q<ts.length->aW M β' (r.comp (i+q)) (vs.getD (i+q) undef)) ->
  (∀m,m∈(dA T own oa r ts i j (obs.drop j) nm).2.2.map (·.1)->s.us m=false) ->
 ∃β2,cz n A {s with ob:=bX s.ob (dA T own oa r ts i j (obs.drop j) nm).2.2,us:=dX s.us ((dA T own oa r ts i j (obs.drop j) nm).2.2.map (·.1))} a w' M β2/\Lo.le β β2/\(dA T own oa r ts i j (obs.drop j) nm).2.1.length=ts.length /\
  ∀q,q<ts.length->aW M β2 ((dA T own oa r ts i j (obs.drop j) nm).2.1.getD q .any) (vs.getD (i+q) undef)
 |[],i,j,nm,s,β,tk,g,hb,ht,hp,hr,hf=>⟨β,g,Lo.le.refl _,rfl,fun q hq=>by simp at hq⟩
 |
  t::ts,i,j,nm,s,β,tk,g,hb,ht,hp,hr,hf=>by
  have hr':∀q,q<ts.length->aW M β' (r.comp (i+1+q)) (vs.getD (i+1+q) undef):=fun q hq=>by
   have:=hr (q+1) (by simpa using hq)
   rw[show i+1+q=i+(q+1) by omega];exact this
  cases ho':own.any (az i)with
  |true =>
   cases hag:(T t).agg with
   |true =>
    have eb:dA T own oa r (t::ts) i j (obs.drop j) nm=((r.comp i=.agg (r.comp i).cs/\cm oa (r.comp i).cs 0 j (obs.drop j))::(dA T own oa r ts (i+1) (j+bb oa) (obs.drop (j+bb oa)) (nm+bb oa)).1,.agg (bf oa (r.comp i).cs 0 (obs.drop j) nm).1::(dA T own oa r ts (i+1) (j+bb oa) (obs.drop (j+bb oa)) (nm+bb oa)).2.1,(bf oa (r.comp i).cs 0 (obs.drop j) nm).2.1++(dA T own oa r ts (i+1) (j+bb oa) (obs.drop (j+bb oa)) (nm+bb oa)).2.2):=by
     simp only[dA,ho',hag,cond_true,jO,List.drop_drop]
    rw[eb]at hp hf |-
    obtain⟨hp1,hp3⟩:=hp
    simp only[bJ,aC]at hf
    obtain⟨β1,tk',g1,b1,t1,hle,r1,hu⟩:=sg ho hA (r.comp i) j nm g hb ht hp1 (fun m hm=>hf m (.inl hm))
    obtain⟨β2,c1,c2,c3,c4⟩:=k0 ho hA (E:=E) ts (i+1) (j+bb oa) (nm+bb oa) g1 b1 (fun q hq hq'=>by
     rcases t1 q hq' with h|h
     ·exact ht q (by omega) h
     ·omega) hp3 hr' (fun m hm=>(hu m (mQ _ _ _ _ _ _ hm)).trans (hf m (.inr hm)))
    refine⟨β2,?_,fun o q hq=>c2 o q (hle o q hq),by simp[c3],fun q hq=>?_⟩
    ·simp only[kN,bJ,mn];exact c1
    ·cases q with
     |zero=>simpa using(r1 _ (hr 0 (by simp))).mono (Mem.le.refl _) c2
     |
      succ q =>
      have:=c4 q (by simpa using hq)
      rw[show i+(q+1)=i+1+q by omega]
      simpa using this
   |false =>
    have eb:dA T own oa r (t::ts) i j (obs.drop j) nm=((r.comp i=.vec j/\obs.getD j .dead=.vec (nZ T t) (obs.getD j .dead).es)::(dA T own oa r ts (i+1) (j+1) (obs.drop (j+1)) (nm+1)).1,.vec nm::(dA T own oa r ts (i+1) (j+1) (obs.drop (j+1)) (nm+1)).2.1,(nm,some (.vec (nZ T t) (obs.getD j .dead).es))::(dA T own oa r ts (i+1) (j+1) (obs.drop (j+1)) (nm+1)).2.2):=by
     rw[<-ei,<-dC]
     simp only[dA,ho',hag,cond_true,cond_false]
    rw[eb]at hp hf |-
    obtain⟨⟨hp1,hp2⟩,hp3⟩:=hp
    have hj:j<obs.length:=eH (by rw[hp2];intro e;cases e)
    have hus:=hf nm (by simp)
    obtain⟨l,g1,b1,r1⟩:=g.rC ho hA hb hj (ht j (an _)) hp2 hus
    have hle:=Au g hus l
    by_cases hdup:nm∈(dA T own oa r ts (i+1) (j+1) (obs.drop (j+1)) (nm+1)).2.2.map (·.1)
    ·exfalso
     have:=mQ _ _ _ _ _ _ hdup
     omega
    ·obtain⟨β2,c1,c2,c3,c4⟩:=k0 ho hA (E:=E) ts (i+1) (j+1) (nm+1) g1 b1 (fun q hq hq'=>by
      rcases aB.1 hq' with rfl|h
      ·omega
      ·exact ht q (by omega) h) hp3 hr' (fun m hm=>by
       show bP s.us nm true m=false
       rw[aJ _ _ _ _ (fun e=>hdup (by subst e;exact hm))];exact hf m (by simp at hm |-;exact .inr hm))
     refine⟨β2,c1,fun o q hq=>c2 o q (hle o q hq),by simp[c3],fun q hq=>?_⟩
     cases q with
     |
      zero =>
      have:=hr 0 (by simp)
      rw[bo,hp1]at this
      simpa using(r1 _ this).mono (Mem.le.refl _) c2
     |
      succ q =>
      have:=c4 q (by simpa using hq)
      rw[show i+(q+1)=i+1+q by omega]
      simpa using this
  |
   false =>
   have eb:dA T own oa r (t::ts) i j (obs.drop j) nm=(mT (T t) (r.comp i)::(dA T own oa r ts (i+1) j (obs.drop j) nm).1,kA (T t) (r.comp i)::(dA T own oa r ts (i+1) j (obs.drop j) nm).2.1,(dA T own oa r ts (i+1) j (obs.drop j) nm).2.2):=by
    simp only[dA,ho',cond_false]
   rw[eb]at hp hf |-
   obtain⟨hp1,hp3⟩:=hp
   obtain⟨β2,c1,c2,c3,c4⟩:=k0 ho hA (E:=E) ts (i+1) j nm g hb ht hp3 hr' hf
   refine⟨β2,c1,c2,by simp[c3],fun q hq=>?_⟩
   cases q with
   |zero=>simpa using mc (β':=β2) t (hr 0 (by simp)) hp1
   |
    succ q =>
    have:=c4 q (by simpa using hq)
    rw[show i+(q+1)=i+1+q by omega]
    simpa using this
theorem qz{T:dL}{own:List Nat}{ow:List LK}{oa:List CK}(ho:Out w M0 βc L r obs v w' M β')(hA:∀b,(w.heap.size<=b\/∃i,i<L/\dk βc i=some b)->A.w0.heap.size<=b\/A.rI b)(t j nm:Nat){s:St}{β:Lo}{tk:List Nat}(g:cz n A s a w' M β)(hb:lR s β w L βc obs β' tk)
 (ht:∀q,j<=q->q∉tk) (hp:fo (da T own ow oa t r j (obs.drop j) nm).1) (hf:∀m,m∈(da T own ow oa t r j (obs.drop j) nm).2.2.map (·.1)->s.us m=false) :
 ∃β2,cz n A {s with ob:=bX s.ob (da T own ow oa t r j (obs.drop j) nm).2.2,us:=dX s.us ((da T own ow oa t r j (obs.drop j) nm).2.2.map (·.1))} a w' M β2/\aW M β2 (da T own ow oa t r j (obs.drop j) nm).2.1 v:=by
 have plain:(∀ts,(T t).k≠.tuple ts)->∃β2,cz n A {s with ob:=bX s.ob (da T own ow oa t r j (obs.drop j) nm).2.2,us:=dX s.us ((da T own ow oa t r j (obs.drop j) nm).2.2.map (·.1))} a w' M β2/\aW M β2 (da T own ow oa t r j (obs.drop j) nm).2.1 v:=fun h=>by
  by_cases hpt:(T t).k=.pt/\own.any (az 0)=true
  ·obtain⟨hk,ho'⟩:=hpt
   have eb:da T own ow oa t r j (obs.drop j) nm=([r=.ref j 0/\obs.getD j .dead=.cells (obs.getD j .dead).cs/\(obs.getD j .dead).cs.length=ow.length/\bT ow (obs.getD j .dead).cs 0],.ref nm 0,[(nm,some (.cells (gX ow (obs.getD j .dead).cs 0)))]):=by
    rw[<-ei]
    unfold da
    rw[hk];simp only[ho',cond_true]
   rw[eb]at hp hf |-
   obtain⟨⟨hp1,hp2,hp3,hp4⟩,_⟩:=hp
   have hj:j<obs.length:=eH (by rw[hp2];intro e;cases e)
   obtain⟨l,g1,r1⟩:=g.zA ho hA hb hj (ht j (an _)) hp2 hp3 hp4 (hf nm (by simp))
   have:=ho.rep
   rw[hp1]at this
   exact⟨_,g1,r1 v this⟩
  have eb:da T own ow oa t r j (obs.drop j) nm=bif own.any (az 0)then(bif (T t).agg then([r=.agg r.cs/\cm oa r.cs 0 j (obs.drop j)],.agg (bf oa r.cs 0 (obs.drop j) nm).1,(bf oa r.cs 0 (obs.drop j) nm).2.1)else([r=.vec j/\obs.getD j .dead=.vec (nZ T t) (obs.getD j .dead).es],.vec nm,[(nm,some (.vec (nZ T t) (obs.getD j .dead).es))]))
   else([mT (T t) r],kA (T t) r,[]):=by
   rw[<-ei]
   unfold da
   cases hk:(T t).k<;>first|rfl|exact absurd hk (h _)|(cases ho':own.any (az 0)with|true=>exact absurd ⟨hk,ho'⟩ hpt|false=>rfl)
  rw[eb]at hp hf |-
  cases ho':own.any (az 0)with
  |
   true =>
   rw[ho']at hp hf
   cases hag:(T t).agg with
   |
    true =>
    rw[hag]at hp hf
    simp only[cond_true]at hp hf |-
    obtain⟨hp1,_⟩:=hp
    obtain⟨β1,tk',g1,b1,t1,hle,r1,hu⟩:=sg ho hA r j nm g hb ht hp1 hf
    exact⟨β1,g1,r1 v ho.rep⟩
   |false =>
   rw[hag]at hp hf
   simp only[cond_true,cond_false]at hp hf |-
   obtain⟨⟨hp1,hp2⟩,_⟩:=hp
   have hj:j<obs.length:=eH (by rw[hp2];intro e;cases e)
   obtain⟨l,g1,b1,r1⟩:=g.rC ho hA hb hj (ht j (an _)) hp2 (hf nm (by simp))
   have:=ho.rep
   rw[hp1]at this
   exact⟨_,g1,r1 v this⟩
  |
   false =>
   rw[ho']at hp
   simp only[cond_false]at hp |-
   exact⟨β,g,mc t ho.rep hp.1⟩
 by_cases htu:∃ts,(T t).k=.tuple ts
 ·obtain⟨ts,hk⟩:=htu
  cases ts with
  |
   nil =>
   have e:da T own ow oa t r j (obs.drop j) nm=([],.any,[]):=by unfold da;rw[hk]
   rw[e];exact⟨β,g,.any _ _⟩
  |
   cons t1 tl =>
   have e:da T own ow oa t r j (obs.drop j) nm=(let q:=dA T own oa r (t1::tl) 0 j (obs.drop j) nm;((r=.cQ ((aP (t1::tl).length).map r.comp))::q.1,.cQ q.2.1,q.2.2)):=by unfold da;rw[hk]
   rw[e]at hp hf |-
   obtain⟨hp1,hp2⟩:=hp
   have hr:=ho.rep
   rw[hp1]at hr
   have:∃vs:List Value,v=.tuple vs.toArray/\((aP (t1::tl).length).map r.comp).length=vs.length/\∀i,i<((aP (t1::tl).length).map r.comp).length->aW M β' (((aP (t1::tl).length).map r.comp).getD i .any) (vs.getD i undef):=by
    cases hr with|cQ _ _ vs hl h=>exact⟨vs,rfl,hl,h⟩
   obtain⟨vs,rfl,hl,h⟩:=this
   simp only[bQ,List.length_range]at hl h
   obtain⟨β2,c1,c2,c3,c4⟩:=k0 (T:=T) ho hA (E:=0) (vs:=vs) (t1::tl) 0 j nm g hb ht hp2 (fun q hq=>by
    have:=h q hq
    rw[aK]
    have hq':q<tl.length+1:=by simpa using hq
    simpa[aa,List.getElem?_range hq']using this) hf
   exact⟨β2,c1,.cQ _ _ _ (by rw[c3];exact hl) fun i hi=>by have:=c4 i (by omega);rw[aK]at this;exact this⟩
 ·exact plain fun ts h=>htu ⟨ts,h⟩
end
end Go.VL
namespace Go.VL
open Go Go.RowKit
section
variable {P:Program} {M:Mem} {β:Lo} {w w':World} {n:Nat} {A:iA} {s:St} {a:Act}
theorem lA:∀(l:List (Nat×Option Ob)) (f:Nat->Option Ob) (o:Nat),o∉l.map (·.1)->bX f l o=f o
 |[],f,o,h=>rfl
 |
  (q,c)::l,f,o,h=>by
  show bX (bP f q c) l o=f o
  rw[lA l _ o (fun hh=>h (af _ hh)),aJ _ _ _ _ (fun e=>h (by rw[e];exact ae))]
theorem oK:∀(l:List Nat) (f:Nat->Bool) (o:Nat),o∉l->dX f l o=f o
 |[],f,o,h=>rfl
 |
  q::l,f,o,h=>by
  show dX (bP f q true) l o=f o
  rw[oK l _ o (fun hh=>h (af _ hh)),aJ _ _ _ _ (fun e=>h (by rw[e];exact ae))]
theorem mb:∀(ms:List MK) (nm m:Nat),m∈pZ ms nm↔nm<=m/\m<nm+kg ms
 |[],nm,m=>by simp only[pZ,kg,List.not_mem_nil,false_iff];omega
 | .vec::ms,nm,m=>mb ms nm m
 | .si kz::ms,nm,m=>mb ms nm m
 | .cb _ _::ms,nm,m=>mb ms nm m
 |
  .obj ks::ms,nm,m=>by
  simp only[pZ,kg,aC,me,mb ms]
  omega
theorem kC{l:List Nat}{o:Nat}:e9 l o=true↔o∈l:=by
 unfold e9
 rw[bB]
 exact⟨fun⟨x,hx,e⟩=>by rw[au e];exact hx,fun h=>⟨o,h,dx o⟩⟩
theorem qP(ob:Nat->Option Ob)(os:List Nat):(eF ob os).map (·.1)=os:=by
 unfold eF;rw[List.map_map];exact List.map_id' os
theorem uN{t:TI}{r:AV}{v:Value}{M M':Mem}{β β0:Lo}(hs:yk t=true)(h:aW M' β0 r v)(hh:mT t r):aW M β (kA t r) v:=by
 simp only[yk,ai,bx]at hs
 obtain⟨h1,h2⟩:=hs
 unfold mT at hh
 unfold kA
 rw[h1]at hh |-
 simp only[cond_false]at hh |-
 cases hk:xr t<;>rw[hk]at h2 hh<;>first|(cases h2;done)|skip
 ·obtain⟨n,rfl⟩:=hh;rw[cT h];exact .v _ _
 ·obtain⟨n,rfl⟩:=hh;rw[cT h];exact .b _ _
 ·obtain⟨n,rfl⟩:=hh;rw[cT h];exact .v _ _
theorem zy{T:dL}{ow:List LK}{oa:List CK}{r:AV}{v:Value}{M M':Mem}{β β0:Lo}(t j:Nat)(obs:List Ob)(nm:Nat)(hs:Dt T t=true)(h:aW M' β0 r v)(hp:fo (da T [] ow oa t r j obs nm).1) :
 (da T [] ow oa t r j obs nm).2.2=[]/\aW M β (da T [] ow oa t r j obs nm).2.1 v:=by
 obtain⟨q1,_⟩:=Ad (T:=T) (β':=β) t j obs nm hp h
 refine⟨q1,?_⟩
 have plain:(∀ts,(T t).k≠.tuple ts)->aW M β (da T [] ow oa t r j obs nm).2.1 v:=fun hn=>by
  have e:da T [] ow oa t r j obs nm=([mT (T t) r],kA (T t) r,[]):=by
   unfold da
   cases hk:(T t).k<;>first|rfl|exact absurd hk (hn _)
  have e2:Dt T t=yk (T t):=by
   unfold Dt
   cases hk:(T t).k<;>first|rfl|exact absurd hk (hn _)
  rw[e]at hp |-
  rw[e2]at hs
  exact uN hs h hp.1
 by_cases htu:∃ts,(T t).k=.tuple ts
 ·obtain⟨ts,hk⟩:=htu
  have hs':ts.all (fun u=>yk (T u))=true:=by unfold Dt at hs;rw[hk]at hs;exact hs
  cases ts with
  |
   nil =>
   have e:da T [] ow oa t r j obs nm=([],.any,[]):=by unfold da;rw[hk]
   rw[e];exact .any _ _
  |
   cons t1 tl =>
   have e:da T [] ow oa t r j obs nm=(let q:=dA T [] oa r (t1::tl) 0 j obs nm;((r=.cQ ((aP (t1::tl).length).map r.comp))::q.1,.cQ q.2.1,q.2.2)):=by unfold da;rw[hk]
   rw[e]at hp |-
   obtain⟨hp1,hp2⟩:=hp
   rw[hp1]at h
   have:∃vs:List Value,v=.tuple vs.toArray/\((aP (t1::tl).length).map r.comp).length=vs.length/\∀i,i<((aP (t1::tl).length).map r.comp).length->aW M' β0 (((aP (t1::tl).length).map r.comp).getD i .any) (vs.getD i undef):=by
    cases h with|cQ _ _ vs hl h=>exact⟨vs,rfl,hl,h⟩
   obtain⟨vs,rfl,hl,h⟩:=this
   simp only[bQ,List.length_range]at hl h
   have go:∀(ts:List Nat) (i j nm:Nat) (obs:List Ob),ts.all (fun u=>yk (T u))=true->fo (dA T [] oa r ts i j obs nm).1->(∀q,q<ts.length->aW M' β0 (r.comp (i+q)) (vs.getD (i+q) undef)) ->
    (dA T [] oa r ts i j obs nm).2.1.length=ts.length/\∀q,q<ts.length->aW M β ((dA T [] oa r ts i j obs nm).2.1.getD q .any) (vs.getD (i+q) undef):=by
    intro ts
    induction ts with
    |nil=>intro i j nm obs _ _ _;exact⟨rfl,fun q hq=>by simp at hq⟩
    |
     cons t ts ih =>
     intro i j nm obs ha hp hr
     simp only[cn,ai]at ha
     simp only[dA,List.any_nil,cond_false]at hp |-
     obtain⟨z1,z2⟩:=ih (i+1) j nm obs ha.2 hp.2 fun q hq=>by
      have:=hr (q+1) (by simpa using hq)
      rw[show i+(q+1)=i+1+q by omega]at this
      exact this
     refine⟨by simp[z1],fun q hq=>?_⟩
     cases q with
     |zero=>simpa using uN (M:=M) (β:=β) ha.1 (hr 0 (by simp)) hp.1
     |
      succ q =>
      have:=z2 q (by simpa using hq)
      rw[show i+(q+1)=i+1+q by omega]
      simpa using this
   obtain⟨z1,z2⟩:=go (t1::tl) 0 j nm obs hs' hp2 fun q hq=>by
    have:=h q hq
    rw[aK]
    have hq':q<tl.length+1:=by simpa using hq
    simpa[aa,List.getElem?_range hq']using this
   exact .cQ _ _ _ (by rw[z1];exact hl) fun i hi=>by have:=z2 i (by omega);rw[aK]at this;exact this
 ·exact plain fun ts h=>htu ⟨ts,h⟩
theorem pj{t:TI}{r:AV}{v:Value}{M M':Mem}{β β0:Lo}(hs:yk t=true)(h:aW M' β0 r v)(hh:mT t r):aW M β r v:=by
 simp only[yk,ai,bx]at hs
 obtain⟨h1,h2⟩:=hs
 unfold mT at hh
 rw[h1]at hh
 simp only[cond_false]at hh
 cases hk:xr t<;>rw[hk]at h2 hh<;>first|(cases h2;done)|skip
 ·obtain⟨n,rfl⟩:=hh;rw[cT h];exact .v _ _
 ·obtain⟨n,rfl⟩:=hh;rw[cT h];exact .v _ _
 ·obtain⟨n,rfl⟩:=hh;rw[cT h];exact .v _ _
theorem pb{o:Nat}{v:Value}{M M':Mem}{β:Lo}(h:aW M' β (.vec o) v):aW M β (.vec o) v:=by
 cases h with|vec _ _ _ sz ho h=>exact .vec _ _ _ sz ho h
theorem lz{M M':Mem}{β:Lo}:∀(ks:List CK) {full:List AV} {i j:Nat} {obs:List Ob},BB ks=true->cm ks full i j obs->full.length=i+ks.length/\∀q u,q<ks.length->aW M' β (full.getD (i+q) .any) u->aW M β (full.getD (i+q) .any) u
 |[],full,i,j,obs,hp,h=>⟨h,fun q u hq=>by simp at hq⟩
 |
  .lk k::ks,full,i,j,obs,hp,h=>by
  obtain⟨h1,h2⟩:=h
  simp only[BB,ai]at hp
  obtain⟨q1,q2⟩:=lz ks hp.2 h2
  refine⟨by simp;omega,fun q u hq hr=>?_⟩
  cases q with
  |
   zero =>
   rw[bo]at hr |-
   cases k<;>first|(cases hp.1;done)|skip
   ·obtain⟨n,e⟩:=h1;rw[e]at hr |-;rw[cT hr];exact .v _ _
   ·obtain⟨n,e⟩:=h1;rw[e]at hr |-;rw[cT hr];exact .v _ _
   ·obtain⟨n,e⟩:=h1;rw[e]at hr |-;rw[cT hr];exact .v _ _
  |
   succ q =>
   have:=q2 q u (by simpa using hq)
   rw[show i+1+q=i+(q+1) by omega]at this
   exact this hr
 |
  .vec hz::ks,full,i,j,obs,hp,h=>by
  obtain⟨h1,_,h2⟩:=h
  obtain⟨q1,q2⟩:=lz ks (by simpa only[BB]using hp) h2
  refine⟨by simp;omega,fun q u hq hr=>?_⟩
  cases q with
  |
   zero =>
   rw[bo]at hr |-
   rw[h1]at hr |-;exact pb hr
  |
   succ q =>
   have:=q2 q u (by simpa using hq)
   rw[show i+1+q=i+(q+1) by omega]at this
   exact this hr
theorem ql{M M':Mem}{β:Lo}{oa:List CK}{x:AV}{u:Value}{j:Nat}{obs:List Ob}(hp:BB oa=true)(h:x=.agg x.cs/\cm oa x.cs 0 j obs)(hr:aW M' β x u):aW M β x u:=by
 obtain⟨q1,q2⟩:=lz (M:=M) (M':=M') (β:=β) oa hp h.2
 rw[h.1]at hr |-
 obtain⟨us,rfl,hl,hr,hone⟩:=eW hr
 refine .agg _ _ _ hl hone fun i hi=>?_
 have:=q2 i (us.getD i undef) (by omega)
 rw[aK]at this
 exact this (hr i hi)
theorem vd{T:dL}{own:List Nat}{oa:List CK}{r:AV}{vs:List Value}{M M':Mem}{β:Lo}:∀(ts:List Nat) (i j nm:Nat) (obs:List Ob),Ga T own oa ts i=true->fo (dA T own oa r ts i j obs nm).1->(∀q,q<ts.length->aW M' β (r.comp (i+q)) (vs.getD (i+q) undef)) ->
 ∀q,q<ts.length->aW M β (r.comp (i+q)) (vs.getD (i+q) undef)
 |[],i,j,nm,obs,_,_,_,q,hq=>by simp at hq
 |
  t::ts,i,j,nm,obs,hs,hp,hr,q,hq=>by
  simp only[Ga,ai]at hs
  have next:∀j' nm' obs',fo (dA T own oa r ts (i+1) j' obs' nm').1->(∀u,aW M' β (r.comp i) u->aW M β (r.comp i) u)->aW M β (r.comp (i+q)) (vs.getD (i+q) undef):=fun j' nm' obs' hp' h0=>by
   cases q with
   |zero=>exact h0 _ (by have:=hr 0 (by simp);simpa using this)
   |
    succ q =>
    have:=vd (M:=M) (M':=M') (β:=β) (vs:=vs) ts (i+1) j' nm' obs' hs.2 hp' (fun q hq=>by
     have:=hr (q+1) (by simpa using hq)
     rw[show i+1+q=i+(q+1) by omega];exact this) q (by simpa using hq)
    rw[show i+(q+1)=i+1+q by omega];exact this
  have hs1:=hs.1
  unfold Gv at hs1
  simp only[dA]at hp
  cases ho:own.any (az i)with
  |
   true =>
   rw[ho]at hp hs1
   cases ha:(T t).agg with
   |
    true =>
    rw[ha]at hp hs1
    simp only[cond_true]at hp hs1
    exact next _ _ _ hp.2 fun u hu=>ql hs1 hp.1 hu
   |
    false =>
    rw[ha]at hp
    simp only[cond_true,cond_false]at hp
    exact next _ _ _ hp.2 fun u hu=>by rw[hp.1.1]at hu |-;exact pb hu
  |
   false =>
   rw[ho]at hp hs1
   simp only[cond_false]at hp hs1
   exact next _ _ _ hp.2 fun u hu=>pj hs1 hu hp.1
theorem zP{T:dL}{own:List Nat}{ow:List LK}{oa:List CK}{r:AV}{v:Value}{M M':Mem}{β:Lo}(t j:Nat)(obs:List Ob)(nm:Nat)(hs:Bt T own oa t=true)(h:aW M' β r v)(hp:fo (da T own ow oa t r j obs nm).1):aW M β r v:=by
 have plain:(∀ts,(T t).k≠.tuple ts)->aW M β r v:=fun hn=>by
  by_cases hpt:(T t).k=.pt
  ·unfold Bt at hs
   rw[hpt]at hs
   simp only[ai,bx]at hs
   unfold da at hp
   rw[hpt]at hp
   simp only[hs.1,cond_false]at hp
   exact pj hs.2 h hp.1
  ·have hs1:Gv T own oa 0 t=true:=by
    unfold Bt at hs
    cases hk:(T t).k<;>rw[hk]at hs<;>first|exact hs|exact absurd hk (hn _)|exact absurd hk hpt
   have hp1:fo (bif own.any (az 0)then(bif (T t).agg then [r=.agg r.cs/\cm oa r.cs 0 j obs]else [r=.vec j/\obs.headD .dead=.vec (nZ T t) (obs.headD .dead).es])else [mT (T t) r]):=by
    unfold da at hp
    cases hk:(T t).k<;>rw[hk]at hp<;>first|exact absurd hk (hn _)|exact absurd hk hpt|(cases ho:own.any (az 0)<;>rw[ho]at hp<;>cases ha:(T t).agg<;>rw[ha]at hp<;>exact hp)
   unfold Gv at hs1
   cases ho:own.any (az 0)with
   |
    true =>
    rw[ho]at hp1 hs1
    cases ha:(T t).agg with
    |true=>rw[ha]at hp1 hs1;exact ql hs1 hp1.1 h
    |
     false =>
     rw[ha]at hp1
     have:=hp1.1.1
     rw[this]at h |-;exact pb h
   |false=>rw[ho]at hp1 hs1;exact pj hs1 h hp1.1
 by_cases htu:∃ts,(T t).k=.tuple ts
 ·obtain⟨ts,hk⟩:=htu
  cases ts with
  |nil=>unfold Bt at hs;rw[hk]at hs;cases hs
  |
   cons t1 tl =>
   have hs':Ga T own oa (t1::tl) 0=true:=by unfold Bt at hs;rw[hk]at hs;exact hs
   have e:da T own ow oa t r j obs nm=(let q:=dA T own oa r (t1::tl) 0 j obs nm;((r=.cQ ((aP (t1::tl).length).map r.comp))::q.1,.cQ q.2.1,q.2.2)):=by unfold da;rw[hk]
   rw[e]at hp
   obtain⟨hp1,hp2⟩:=hp
   rw[hp1]at h |-
   have:∃vs:List Value,v=.tuple vs.toArray/\((aP (t1::tl).length).map r.comp).length=vs.length/\∀i,i<((aP (t1::tl).length).map r.comp).length->aW M' β (((aP (t1::tl).length).map r.comp).getD i .any) (vs.getD i undef):=by
    cases h with|cQ _ _ vs hl h=>exact⟨vs,rfl,hl,h⟩
   obtain⟨vs,rfl,hl,h⟩:=this
   have z:=vd (M:=M) (M':=M') (β:=β) (vs:=vs) (t1::tl) 0 j nm obs hs' hp2 fun q hq=>by
    have:=h q (by simpa using hq)
    rw[aK]
    have hq':q<tl.length+1:=by simpa using hq
    simpa[aa,List.getElem?_range hq']using this
   refine .cQ _ _ _ hl fun i hi=>?_
   have hi':i<tl.length+1:=by simpa using hi
   have:=z i (by simpa using hi')
   rw[aK]at this
   simpa[aa,List.getElem?_range hi']using this
 ·exact plain fun ts h=>htu ⟨ts,h⟩
theorem Out.plain{M1 M':Mem}{r:AV}{obs:List Ob}{v:Value}{βc β':Lo}(h:Out w M1 βc 0 r obs v w' M' β')(hM:M.le M1)(hp:∀x,x∈obs->mq x)(hr:aW M β' r v):Out w M βc 0 r obs v w' M β':=by
 have hno:∀b,(∀k,M'.c b k=none)->∀k,M.c b k=none:=fun b hb k=>by
  cases e:M.c b k with
  |none=>rfl
  |some u=>have:=h.le.c _ _ _ (hM.c _ _ _ e);rw[hb k]at this;cases this
 refine⟨Mem.le.refl _,⟨fun b k v hc=>h.agree _ _ _ (h.le.c _ _ _ (hM.c _ _ _ hc)),fun b hb=>h.agree.p _ (h.le.p _ (hM.p _ hb))⟩,hr,fun j hj=>?_,fun j b hj=>by omega,fun j l sz es hj=>by omega,h.apart,h.place,fun b k v hc=>.inl hc,⟨h.cb.os,h.cb.tape,h.cb.output,h.cb.size,h.cb.block⟩⟩
 have h1:=h.own j hj
 have h2:=hp (obs.getD j .dead) (by simp[aa,hj])
 cases e:obs.getD j .dead with
 |
  vec sz es =>
  rw[e]at h1 h2
  obtain⟨v,q1,q2,q3⟩:=h1
  refine⟨v,q1,q2,?_⟩
  rcases q3 with q3|⟨b,off,c,vs,e,r1,r2,r3,r4,r5,r6,r7⟩
  ·exact .inl q3
  ·refine .inr ⟨b,off,c,vs,e,r1,r2,r3,r4,fun i j hi hj=>?_,hno b r6,r7⟩
   have h3:=r5 i j hi hj
   have hl:=q2 i hi
   obtain⟨x,hx⟩:=h2 (es.getD i []) (by simp[aa,hi]) ((es.getD i []).getD j .any) (by
    have:j<(es.getD i []).length:=by omega
    rw[aa (l:=es.getD i []),aO this]
    exact cc _)
   rw[hx]at h3 |-
   rw[cT h3];exact .v _ _
 |cells cs=>rw[e]at h2;exact h2.elim
 |fS cs=>rw[e]at h2;exact h2.elim
 |kV cs=>rw[e]at h2;exact h2.elim
 |kB sz cs=>rw[e]at h2;exact h2.elim
 |dead=>trivial
theorem cz.looked(g:cz n A s a w M β){M1:Mem}(hM:M.le M1){r:AV}{obs:List Ob}{v:Value}{M':Mem}{βc β':Lo}(h:Out w M1 βc 0 r obs v w' M' β'):cz n A s a w' M β:=by
 have same:∀b,b<w.heap.size->w'.heap[b]?=w.heap[b]?:=fun b hb=>h.cb.block b hb (fun⟨i,hi,_⟩=>by omega)
 refine {g with agree:=⟨fun b k v hc=>h.agree _ _ _ (h.le.c _ _ _ (hM.c _ _ _ hc)),fun b hb=>h.agree.p _ (h.le.p _ (hM.p _ hb))⟩,own:=fun o x hx=>?_,cb:=?_}
 ·exact(g.own o x hx).mono (Mem.le.refl _) (Lo.le.refl _) fun b hl hb=>⟨same b ((g.own o x hx).lt hl hb),(g.own o x hx).xY hl hb⟩
 ·exact g.cb.ir h.cb.os h.cb.tape h.cb.output h.cb.size fun b hlt _=>same b (cx hlt g.cb.size)
theorem yb{T:dL}{cfg:Nat->FC}(g:cz n A s a w M β){o:Oper}{f f':Nat}{asq as':List AV}{ins:List Ob}{wr:List Nat}{k:AV->List Ob->List Prop×De}{vs:List Value}
 (hE:eY T cfg (ev s) s.ob o f asq=.c f' as' ins wr k) (hl:vs.length=asq.length) (hr:∀i,i<asq.length->aW M β (asq.getD i .any) (vs.getD i undef)) :
 f'=f/\∃M1 βc,M.le M1/\In w M1 βc as' ins vs/\∀v r obs w' M' β',Out w M1 βc ins.length r obs v w' M' β'->fo (k r obs).1->cU s n o.dst (k r obs).2=true->fa n A (s.app o.dst (k r obs).2) (a.put o.dst v) w':=by
 unfold eY at hE
 simp only at hE
 generalize hc:cfg (keyOf f asq)=c at hE
 split at hE
 ·rename_i as1 ins1 os fz hga
  cases hgd:(nodup os&&(!(os.any (e9 fz))&&(di (cS c.mu) ins1&&(kb s.ob c.mu os ins1 asq 0&&pq (cS c.mu) os ins1))))with
  |false=>rw[hgd]at hE;cases hE
  |
   true =>
   rw[hgd]at hE
   simp only[cond_true,wJ.c.injEq]at hE
   obtain⟨rfl,rfl,rfl,_,rfl⟩:=hE
   simp only[ai,bx]at hgd
   obtain⟨hnd,hdj,hal,hclo,hkept⟩:=hgd
   have hdj':∀o,o∈os->o∉fz:=fun o ho hf=>by
    rw[List.any_eq_false]at hdj
    exact hdj o ho (kC.2 hf)
   refine⟨rfl,?_⟩
   obtain⟨M1,hM,g1⟩:=g.freeze fz
   have h0:∀o x,o∈os->s.ob o=some x->({s with ob:=bX s.ob (eF s.ob fz)}:St).ob o=some x:=fun o x ho hx=>by
    show bX s.ob (eF s.ob fz) o=some x
    rw[lA _ _ _ (by rw[qP];exact hdj' o ho)];exact hx
   obtain⟨βc,U',f1,b1,b2,b3,b4,b5,b6,b7,b8,b9⟩:=ml g1 c.mu asq hga g1.fz h0 fg.nil (fun _ _=>rfl) hnd (fun _ _ hh=>by cases hh)
   simp only[aK]at b4 b6
   have hnm:=l5 c.mu asq hga
   have hown:∀j,j<ins1.length->Own M1 βc w j (ins1.getD j .dead):=fun j hj=>b1.own j _ (b6 j hj)
   obtain⟨fl1,fl2⟩:=l4 (os:=os) (ins:=ins1) (fun j hj hc b hb=>by
    have h1:=hown j hj
    cases e:ins1.getD j .dead with
    |
     cells cs =>
     rw[e]at h1
     obtain⟨b',_,_,h2,_⟩:=h1
     have:=b9 j _ hj (.inl ⟨b',rfl⟩) (by rw[aK];exact h2)
     rw[hb]at this;cases this;exact h2
    |_=>rw[e]at hc;cases hc) asq hga g1.fz hclo b8
   have hin:In w M1 βc (gY c.mu as1 0) ins1 vs:=⟨by rw[hl,fl1,b7],fun i hi=>fl2 i _ (by omega) ((hr i (by omega)).mono hM (Lo.le.refl _)),g1.agree,hown,fun j hj=>b1.G7 j (b4 j hj),fun i j b hne hi hj hli hlj hb=>b1.apart i j _ _ b hne (b6 i hi) hli (b6 j hj) hlj hb⟩
   refine⟨M1,βc,hM,hin,fun v r obs w' M' β' hout hp hnew=>?_⟩
   cases hlt:sE T c.own c.oa ins1 o.type with
   |
    true =>
    rw[hlt]at hnew
    simp only[cond_true,bc]at hnew |-
    have hins:ins1=[]:=by
     unfold sE at hlt
     cases ins1 with
     |nil=>rfl
     |cons x xs=>simp at hlt
    subst hins
    have hos:os=[]:=List.eq_nil_of_length_eq_zero hnm.1
    have hmu:cS c.mu=[]:=by
     cases hf:cS c.mu with
     |nil=>rfl
     |cons m ms=>rw[hf]at hal;cases m<;>cases hal
    subst hos
    cases hown':c.own with
    |
     cons x0 xs0 =>
     have hsc:Bt T c.own c.oa o.type=true:=by unfold sE at hlt;rw[hown']at hlt |-;simpa using hlt
     have hlN:sA T c.own c.oa [] o.type obs=[∀x,x∈obs->mq x]:=by
      unfold sA;rw[hlt,hown'];rfl
     rw[hmu]at hp hnew |-
     rw[<-hown']
     have hp':fo ((da T c.own c.ow c.oa o.type r 0 obs (newName o.dst)).1++sA T c.own c.oa [] o.type obs):=hp
     rw[hlN]at hp'
     obtain⟨p1,p2⟩:=gV hp'
     have hout1:Out w M βc 0 r obs v w' M β':=Out.plain hout hM p2.1 (zP (M:=M) (β:=β') (T:=T) o.type 0 obs (newName o.dst) hsc hout.rep p1)
     have hA:∀b,(w.heap.size<=b\/∃i,i<0/\dk βc i=some b)->A.w0.heap.size<=b\/A.rI b:=fun b hb=>by
      rcases hb with hb|⟨i,hi,hb⟩
      ·exact .inl (Nat.le_trans g.cb.size hb)
      ·omega
     have hback:lR s β w 0 βc obs β' []:=fun o x b hx hlv hb=>.inl ⟨(g.own o x hx).lt hlv hb,fun⟨i,hi,_⟩=>by omega⟩
     have hnd':(∀m,m∈(da T c.own c.ow c.oa o.type r 0 obs (newName o.dst)).2.2.map (·.1)->s.us m=false):=by
      unfold cU at hnew
      simp only[ai]at hnew
      obtain⟨⟨h1,_⟩,_⟩:=hnew
      rw[bg]at h1
      exact fun m hm=>by simpa using h1 m (by simpa[cM,pZ]using hm)
     obtain⟨β3,d1,d2⟩:=qz (T:=T) hout1 hA o.type 0 (newName o.dst) (g.looked hM hout) hback (fun q hq hq'=>by cases hq') (by simpa using p1) (by simpa using hnd')
     have g5:=cz.put d1 d2 (eT hnew)
     refine⟨M,β3,?_⟩
     have e:∀(vv:List Prop×AV×List (Nat×Option Ob)),s.app o.dst {val:=vv.2.1,bP:=nS []++((cM [] [] obs 0 (newName o.dst)).2.1++vv.2.2),new:=pZ [] (newName o.dst)++vv.2.2.map (·.1)} =
      {tm:=lg s.tm o.dst vv.2.1,ob:=bX s.ob vv.2.2,us:=dX s.us (vv.2.2.map (·.1))}:=fun vv=>by
      unfold St.app
      cases o.dst<;>rfl
     exact(e (da T c.own c.ow c.oa o.type r 0 obs (newName o.dst))).symm ▸ g5
    |nil =>
    have hsc:Dt T o.type=true:=by unfold sE at hlt;rw[hown']at hlt;simpa using hlt
    rw[hmu,hown']at hp hnew
    rw[hmu]
    obtain⟨q1,q2⟩:=zy (M:=M) (β:=β) (T:=T) o.type 0 obs (newName o.dst) hsc hout.rep (by simpa[cM,sA]using hp)
    have g3:=cz.put (g.looked hM hout) q2 (eT hnew)
    refine⟨M,β,?_⟩
    have e:s.app o.dst {val:=(da T [] c.ow c.oa o.type r 0 obs (newName o.dst)).2.1,bP:=nS []++((cM [] [] obs 0 (newName o.dst)).2.1++(da T [] c.ow c.oa o.type r 0 obs (newName o.dst)).2.2),new:=pZ [] (newName o.dst)++(da T [] c.ow c.oa o.type r 0 obs (newName o.dst)).2.2.map (·.1)} = {s with tm:=lg s.tm o.dst (da T [] c.ow c.oa o.type r 0 obs (newName o.dst)).2.1}:=by
     unfold St.app
     rw[q1]
     cases o.dst<;>rfl
    exact e ▸ g3
   |false =>
   rw[hlt]at hnew
   simp only[cond_false]at hnew |-
   have hsrc:∀i b,i<ins1.length->dk βc i=some b->∃o x0,o∈os/\({s with ob:=bX s.ob (eF s.ob fz)}:St).ob o=some x0/\x0.live=true/\dk β o=some b:=fun i b hi hb=>by
    obtain⟨o,x0,h1,h2,h3,h4⟩:=b1.src i _ b (b6 i hi) ((hnm.2 i hi).1) hb
    rcases b3 o h1 with h|h
    ·exact⟨o,x0,h,h2,h3,h4⟩
    ·cases h
   have g2:=g1.base hsrc hout
   have hA:∀b,(w.heap.size<=b\/∃i,i<ins1.length/\dk βc i=some b)->A.w0.heap.size<=b\/A.rI b:=fun b hb=>by
    rcases hb with hb|⟨i,hi,hb⟩
    ·exact .inl (Nat.le_trans g.cb.size hb)
    ·obtain⟨o,x0,_,h2,h3,h4⟩:=hsrc i b hi hb
     exact g1.place o x0 b h2 h3 h4
   have hback:lR {s with ob:=fh os (bX s.ob (eF s.ob fz))} β w ins1.length βc obs β' []:=fun o x b hx hlv hb=>by
    obtain⟨ho,hx⟩:=fE hx
    refine .inl ⟨(g1.own o x hx).lt hlv hb,fun⟨i,hi,hb'⟩=>?_⟩
    obtain⟨o',x0,h1,h2,h3,h4⟩:=hsrc i b hi hb'
    exact g1.apart o' o x0 x b (fun e=>ho (by rw[<-e];exact h1)) h2 h3 hx hlv h4 hb
   have hnd':(∀m,m∈pZ (cS c.mu) (newName o.dst)++(da T c.own c.ow c.oa o.type r ins1.length (cM (cS c.mu) os obs 0 (newName o.dst)).2.2.1 (cM (cS c.mu) os obs 0 (newName o.dst)).2.2.2).2.2.map (·.1)->s.us m=false) /\
    nodup (pZ (cS c.mu) (newName o.dst)++(da T c.own c.ow c.oa o.type r ins1.length (cM (cS c.mu) os obs 0 (newName o.dst)).2.2.1 (cM (cS c.mu) os obs 0 (newName o.dst)).2.2.2).2.2.map (·.1))=true:=by
    unfold cU at hnew
    simp only[ai]at hnew
    obtain⟨⟨h1,h2⟩,_⟩:=hnew
    rw[bg]at h1
    exact⟨fun m hm=>by simpa using h1 m hm,h2⟩
   obtain⟨hfr,hnn⟩:=hnd'
   obtain⟨p1,p2⟩:=gV hp
   have hHP:HP A {s with ob:=fh os (bX s.ob (eF s.ob fz))} β βc (fun q=>q∈nh (cS c.mu) 0) os 0:=fun q l hq hx hb=>by
    rw[aK]at hb hx
    have hq':q<ins1.length:=by rw[<-hnm.1];exact hq
    have hmem:os.getD q 0∈os:=by simp[aa,hq]
    have hk:=hkept
    unfold pq at hk
    rw[bg]at hk
    have hk:=hk q hx
    rw[br]at hk
    obtain⟨⟨x,hx0⟩,hβ⟩:(∃x,({s with ob:=bX s.ob (eF s.ob fz)}:St).ob (os.getD q 0)=some x/\s.ob (os.getD q 0)=some x)/\β (os.getD q 0)=some l:=by
     rcases hk with hk|hk
     ·have hcells:∃cs,ins1.getD q .dead=.cells cs:=by
       cases e:ins1.getD q .dead<;>rw[e]at hk<;>first|(cases hk;done)|exact⟨_,rfl⟩
      obtain⟨cs,ecs⟩:=hcells
      obtain⟨cs',hcs'⟩:=(hnm.2 q hq').2.1 cs ecs
      have h1:=hown q hq'
      rw[ecs]at h1
      obtain⟨b,_,_,h2,_⟩:=h1
      rw[hb]at h2;cases h2
      exact⟨⟨_,h0 _ _ hmem hcs',hcs'⟩,b9 q _ hq' (.inl ⟨b,rfl⟩) (by rw[aK];exact hb)⟩
     ·have hlt:=aF hk
      obtain⟨x,hx1⟩:=(hnm.2 q hq').2.2 hlt
      exact⟨⟨x,h0 _ _ hmem hx1,hx1⟩,b9 q _ hq' (.inr hlt) (by rw[aK];exact hb)⟩
    refine⟨?_,?_,hβ,fun b' hb'=>?_⟩
    ·show fh os _ _=none
     unfold fh;rw[kC.2 hmem];rfl
    ·cases hu:s.us (os.getD q 0)with
     |true=>rfl
     |false=>rw[(g.us _ hu).2]at hx0;cases hx0.2
    ·have:=(g.fix _ b' hb').2 _ hx0.2
     rw[hβ]at this;cases this;rfl
   have hlen:=gd _ _ hal
   obtain⟨β2,tk',c1,c2,c3,c4,c5⟩:=iM hout hA rfl hown (E:=newName o.dst+kg (cS c.mu)) (cS c.mu) os 0 (newName o.dst) g2 hback (fun q _ hq=>by cases hq) hal (by rw[hnm.1,hlen]) hnd hHP (fun q hq=>hq) p1
    (fun m h1 h2=>hfr m (ao _ ((mb _ _ _).2 ⟨h1,h2⟩))) (an _)
   simp only[bw,aK]at c1 c2 c3 c4 c5
   obtain⟨n1,n2,n3⟩:=dM hnn
   rw[c4]at p2 hfr n3
   simp only at p2 hfr n3
   rw[<-hlen]at p2 hfr n3 c3
   obtain⟨β3,d1,d2⟩:=qz (T:=T) hout hA o.type ins1.length (newName o.dst+kg (cS c.mu)) c1 c2 (fun q hq hq'=>by
    rcases c3 q hq' with h|h
    ·cases h
    ·omega) (gV p2).1 (fun m hm=>by
    show dX s.us _ m=false
    rw[oK _ _ _ (fun h=>n3 m h hm)]
    exact hfr m (ak _ hm))
   have g5:=cz.put d1 d2 (eT hnew)
   refine⟨M',β3,?_⟩
   have e:∀(b:List Prop×List (Nat×Option Ob)×List Ob×Nat) (vv:List Prop×AV×List (Nat×Option Ob)),s.app o.dst {val:=vv.2.1,bP:=eF s.ob fz++(nS os++(b.2.1++vv.2.2)),new:=pZ (cS c.mu) (newName o.dst)++vv.2.2.map (·.1)} =
    {tm:=lg s.tm o.dst vv.2.1,ob:=bX (bX (fh os (bX s.ob (eF s.ob fz))) b.2.1) vv.2.2,us:=dX (dX s.us (pZ (cS c.mu) (newName o.dst))) (vv.2.2.map (·.1))}:=fun b vv=>by
    unfold St.app
    simp only[kN,mn,qg]
    cases o.dst<;>rfl
   simp only[e]
   rw[c4]
   simp only
   rw[<-hlen]
   exact g5
 ·cases hE
end
end Go.VL
namespace Go.VL
open Go Go.RowKit
section
variable {P:Program} {M:Mem} {β:Lo} {w w':World} {n:Nat} {A:iA} {s:St} {a:Act}
theorem mG{f:Nat}(h:Ew P f)(args:Array Value):(callFunc f args).run P w=.ok (.enter f args) w:=by
 obtain⟨fn,h1,h2,h3⟩:=h
 unfold callFunc
 simp only[Sem.run_bind,run_program,Result.andThen_ok,h1]
 rw[if_neg (by rw[h3];simp),if_neg (by rw[h2];simp)]
 rfl
theorem vf{T:dL}(hT:cv P T)(hB:kf P A){cfg:Nat->FC}(g:cz n A s a w M β)(o:Oper){K:List Nat->List Nat->St->Tree}{Φ:Nat->List AV->List Ob->Prop}(h:dV P n (tx T cfg n o s K) Φ)
 {Kw:Act->World->Prop} {Qw:Exit->Act->World->Prop} (hK:∀rd wr s' a' w',fa n A s' a' w'->dV P n (K rd wr s') Φ->Kw a' w'):o.wp P a w Kw Qw:=by
 unfold tx at h
 have plain:(∀d,iI T cfg (ev s) s.ob o=.d none d->db T (ev s) s.ob o=.yes d)->(∀p d,iI T cfg (ev s) s.ob o=.d (some p) d->db T (ev s) s.ob o=.ok p d)->(∀f asq ins wr k,iI T cfg (ev s) s.ob o≠.c f asq ins wr k)->o.wp P a w Kw Qw:=by
  intro h1 h2 h3
  have hop:=BJ g hT o
  split at h
  ·exact h.elim
  ·rename_i p d he
   cases hn:cU s n o.dst d with
   |false=>rw[hn]at h;exact h.elim
   |
    true =>
    rw[hn]at h
    simp only[cond_true]at h
    cases p with
    |
     none =>
     rw[h1 d he]at hop
     exact Step.wp (hop hn) fun a' w' hg=>hK _ _ _ _ _ hg h
    |
     some p =>
     rw[h2 p d he]at hop
     exact Step.wp (hop h.1 hn) fun a' w' hg=>hK _ _ _ _ _ hg h.2
  ·rename_i f asq ins wr k he
   exact absurd he (h3 f asq ins wr k)
 have callC:∀(f:Nat) (asq:List AV) (vs:List Value),iI T cfg (ev s) s.ob o=eY T cfg (ev s) s.ob o f asq->vs.length=asq.length->(∀i,i<asq.length->aW M β (asq.getD i .any) (vs.getD i undef)) ->
  (Ew P f->(execOp a.eval o).run P w=.ok (.enter f vs.toArray) w)->o.wp P a w Kw Qw:=by
  intro f asq vs he hl hr hrun
  cases hE:eY T cfg (ev s) s.ob o f asq with
  |no=>rw[he,hE]at h;exact h.elim
  |
   d p d =>
   exfalso
   unfold eY at hE
   simp only at hE
   split at hE
   ·cases hgd:(nodup _&&_)with
    |true=>rw[hgd]at hE;cases hE
    |false=>rw[hgd]at hE;cases hE
   ·cases hE
  |
   c f' as' ins wr k =>
   obtain⟨rfl,M1,βc,hM1,hin,hback⟩:=yb g hE hl hr
   rw[he,hE]at h
   simp only[dV]at h
   obtain⟨R,hS,_,hk⟩:=h
   unfold Oper.wp
   rw[hrun hS.1]
   show Calls P f' vs.toArray w _
   refine Calls.mono (hS.2 w M1 βc vs (hB.at g.cb (Mem.le.trans g.le hM1)) hin) fun e w' ⟨v,r,obs,M',β',he,hRr,hout⟩=>?_
   subst he
   obtain⟨hp,ht⟩:=fF.1 (hk r obs hRr)
   cases hn:cU s n o.dst (k r obs).2 with
   |false=>rw[hn]at ht;exact ht.elim
   |
    true =>
    rw[hn]at ht
    simp only[cond_true]at ht
    exact hK _ _ _ _ _ (hback v r obs w' M' β' hout hp hn) ht
 cases ho:o.op with
 |
  call c =>
  obtain⟨callee,xs,ts⟩:=c
  cases callee with
  |
   value x =>
   have he:iI T cfg (ev s) s.ob o=(match ev s x with
    | .v (.func (.func f) fi cap)=>bif az fi.size 0&&az cap.size 0 then eY T cfg (ev s) s.ob o f (xs.toList.map (ev s))else .no
    | .fn f cap=>eY T cfg (ev s) s.ob o f (xs.toList.map (ev s)++cap)
    |_=>.no):=by unfold iI;rw[ho];try rfl
   have hx:=g.ev x
   have harr:xs.map a.eval=(xs.toList.map a.eval).toArray:=by apply Array.ext';simp
   have hargs:∀i,i<(xs.toList.map (ev s)).length->aW M β ((xs.toList.map (ev s)).getD i .any) ((xs.toList.map a.eval).getD i undef):=by
    intro i hi
    have hi':i<xs.size:=by simpa using hi
    simp[aa,hi']
    exact g.ev _
   split at he
   ·rename_i f fi cap e
    rw[e]at hx
    cases hq:(az fi.size 0&&az cap.size 0)with
    |false=>rw[hq]at he;rw[he]at h;exact h.elim
    |
     true =>
     rw[hq]at he
     simp only[ai]at hq
     have e1:fi = #[]:=Array.size_eq_zero_iff.1 (au hq.1)
     have e2:cap = #[]:=Array.size_eq_zero_iff.1 (au hq.2)
     subst e1;subst e2
     refine callC f _ (xs.toList.map a.eval) he (by simp) hargs fun hE=>?_
     simp only[execOp,ho,resolve,Sem.run_bind,cT hx,Deferred.ofValue,Sem.run_pure,Result.andThen_ok,invoke]
     rw[mG hE,harr]
     simp
   ·rename_i f cap e
    rw[e]at hx
    have:∃vs:List Value,a.eval x=.func (.func f) #[] vs.toArray/\cap.length=vs.length/\∀i,i<cap.length->aW M β (cap.getD i .any) (vs.getD i undef):=by
     generalize a.eval x=u at hx
     cases hx with|fn _ _ _ vs hl h=>exact⟨vs,rfl,hl,h⟩
    obtain⟨us,hu,hul,hur⟩:=this
    refine callC f _ (xs.toList.map a.eval++us) he (by simp[hul]) (fun i hi=>?_) fun hE=>?_
    ·rw[gS,gS]
     by_cases hi':i<(xs.toList.map (ev s)).length
     ·rw[if_pos hi',if_pos (by simpa using hi')];exact hargs i hi'
     ·rw[if_neg hi',if_neg (by simpa using hi')]
      rw[bQ,bQ]
      simp only[aq,bQ]at hi hi'
      exact hur _ (by omega)
    ·simp only[execOp,ho,resolve,Sem.run_bind,hu,Deferred.ofValue,Sem.run_pure,Result.andThen_ok,invoke]
     rw[mG hE,harr]
     simp
   ·rw[he]at h;exact h.elim
  |
   builtin b =>
   have he:iI T cfg (ev s) s.ob o=(match db T (ev s) s.ob o with| .ok p d=>.d (some p) d| .yes d=>.d none d| .no=>.no):=by unfold iI;rw[ho];try rfl
   refine plain (fun d hd=>?_) (fun p d hd=>?_) fun f asq ins wr k hd=>?_<;>rw[he]at hd<;>split at hd<;>cases hd<;>assumption
  |
   invoke r nm =>
   have he:iI T cfg (ev s) s.ob o=(match db T (ev s) s.ob o with| .ok p d=>.d (some p) d| .yes d=>.d none d| .no=>.no):=by unfold iI;rw[ho];try rfl
   refine plain (fun d hd=>?_) (fun p d hd=>?_) fun f asq ins wr k hd=>?_<;>rw[he]at hd<;>split at hd<;>cases hd<;>assumption
 |
  _ =>
  have he:iI T cfg (ev s) s.ob o=(match db T (ev s) s.ob o with| .ok p d=>.d (some p) d| .yes d=>.d none d| .no=>.no):=by unfold iI;rw[ho];try rfl
  refine plain (fun d hd=>?_) (fun p d hd=>?_) fun f asq ins wr k hd=>?_<;>rw[he]at hd<;>split at hd<;>cases hd<;>assumption
end
end Go.VL
namespace Go.VL
open Go Go.RowKit
section
variable {P:Program} {w w':World} {n:Nat} {A:iA} {s:St} {a:Act}
theorem oE{ops:Array Oper}{tmps:Array Value}{g t:Nat}(h:(ops.toList[g]?).map (·.dst)=some (some t)):yielded ops tmps g=match tmps[t]? with|some (.bool b)=>some b|_=>none:=by
 unfold yielded
 have e:ops[g]?=ops.toList[g]?:=by simp
 rw[e]
 cases hq:ops.toList[g]? with
 |none=>rw[hq]at h;cases h
 |some o=>rw[hq]at h;simp only[cK,Option.some.injEq]at h;simp only[e,hq,Option.bind_some,h];rfl
theorem mf{ops:Array Oper}{tmps:Array Value}{g t:Nat}{b:Bool}(h:(ops.toList[g]?).map (·.dst)=some (some t))(hv:tmps.getD t undef=.bool b):yielded ops tmps g=some b:=by
 rw[oE h]
 by_cases ht:t<tmps.size
 ·have:tmps[t]?=some (.bool b):=by
   have e:tmps.getD t undef=tmps[t]:=by simp[ht]
   rw[e]at hv;simp[ht,hv]
  rw[this]
 ·have:tmps.getD t undef=undef:=by simp[show tmps.size<=t by omega]
  rw[this]at hv;cases hv
theorem lq{ops:Array Oper}{tmps:Array Value}{g t:Nat}{vs:Array Value}(h:(ops.toList[g]?).map (·.dst)=some (some t))(hv:tmps.getD t undef=.tuple vs):yielded ops tmps g=none:=by
 rw[oE h]
 by_cases ht:t<tmps.size
 ·have:tmps[t]?=some (.tuple vs):=by
   have e:tmps.getD t undef=tmps[t]:=by simp[ht]
   rw[e]at hv;simp[ht,hv]
  rw[this]
 ·have:tmps[t]?=none:=by simp;omega
  rw[this]
theorem fa.test(h:fa n A s a w){t:Nat}{b:Bool}(ht:s.tm t=.b b):fa n A (s.set t (.v (.bool b))) a w/\a.tmps.getD t undef=.bool b:=by
 obtain⟨M,β,g⟩:=h
 have hv:a.tmps.getD t undef=.bool b:=by have:=g.tm t;rw[ht]at this;exact AM this
 refine⟨⟨M,β,{g with tm:=fun q=>?_}⟩,hv⟩
 show aW M β (bP s.tm t (.v (.bool b)) q) _
 by_cases e:q=t
 ·subst e;rw[aD,hv];exact .v _ _
 ·rw[aJ _ _ _ _ e];exact g.tm q
def HI(s:St)(dst:Option Nat):St:=match dst with|some t=>s.set t (.v (.tuple #[]))|none=>s
theorem fa.skip(h:fa n A s a w){dst:Option Nat}(hd:∀t,dst=some t->t<n):fa n A (HI s dst) (a.put dst undef) w:=by
 obtain⟨M,β,g⟩:=h
 have:=cz.put g (x:=.v (.tuple #[])) (v:=undef) (.v _ _) hd
 cases dst with
 |none=>exact⟨M,β,this⟩
 |some t=>exact⟨M,β,this⟩
theorem fa.bool(h:fa n A s a w){t:Nat}{b:Bool}(ht:s.tm t=.v (.bool b)):a.tmps.getD t undef=.bool b:=by
 obtain⟨M,β,g⟩:=h
 have:=g.tm t
 rw[ht]at this
 exact cT this
theorem fa.cQ(h:fa n A s a w){t:Nat}{vs:Array Value}(ht:s.tm t=.v (.tuple vs)):a.tmps.getD t undef=.tuple vs:=by
 obtain⟨M,β,g⟩:=h
 have:=g.tm t
 rw[ht]at this
 exact cT this
theorem tW{T:dL}(hT:cv P T)(hB:kf P A){cfg:Nat->FC}{ops:Array Oper}{draw:Bool}{K:St->Tree}{Φ:Nat->List AV->List Ob->Prop}{Q:Exit->Act->World->Prop}
 (hK:∀s a w,fa n A s a w->dV P n (K s) Φ->Q .normal a w) :
 ∀(rest:List Oper) (hist:List HE) (s:St) (a:Act) (w:World),fa n A s a w->dV P n (jg T cfg n draw ops.toList rest hist s K) Φ->wpList P ops Q rest a w
 |[],hist,s,a,w,g,h=>hK s a w g h
 |
  o::rest,hist,s,a,w,g,h=>by
  have run:∀s a w,fa n A s a w->dV P n (tx T cfg n o s fun rd wr s'=>bif !draw||((cJ o).all (fun j=>bS j hist.length)&&iq ops.toList o rd wr hist (fU o hist))then jg T cfg n draw ops.toList rest (hist++[⟨hist.length,o,rd,wr,fU o hist⟩]) s' K else .fail) Φ ->
   o.wp P a w (wpList P ops Q rest) Q:=by
   intro s a w ⟨M,β,g⟩ h
   refine vf hT hB g o h fun rd wr s' a' w' g' h'=>?_
   cases hq:(!draw||((cJ o).all (fun j=>bS j hist.length)&&iq ops.toList o rd wr hist (fU o hist)))with
   |false=>rw[hq]at h';exact h'.elim
   |true=>rw[hq]at h';exact tW hT hB hK rest _ s' a' w' g' h'
  have skip:∀s a w,fa n A s a w->dV P n (bif (match o.dst with|some t=>bS t n|none=>true)&&(!draw||((cJ o).all (fun j=>bS j hist.length)&&iq ops.toList o [] [] hist (fU o hist)))then jg T cfg n draw ops.toList rest (hist++[⟨hist.length,o,[],[],fU o hist⟩]) (match o.dst with|some t=>s.set t (.v (.tuple #[]))|none=>s) K else .fail) Φ ->
   wpList P ops Q rest (a.put o.dst undef) w:=by
   intro s a w g h
   cases hq:((match o.dst with|some t=>bS t n|none=>true)&&(!draw||((cJ o).all (fun j=>bS j hist.length)&&iq ops.toList o [] [] hist (fU o hist))))with
   |false=>rw[hq]at h;exact h.elim
   |
    true =>
    rw[hq]at h
    rw[ai]at hq
    refine tW hT hB hK rest _ (HI s o.dst) _ w (g.skip fun t ht=>?_) h
    have:=hq.1
    rw[ht]at this
    have:=aF this
    omega
  unfold wpList
  unfold jg at h
  simp only at h
  cases hg:o.guard with
  |
   none =>
   rw[hg]at h
   rw[if_pos (by simp[Region.wanted,hg])]
   exact .inl (run s a w g h)
  |
   some gw =>
   obtain⟨gi,want⟩:=gw
   rw[hg]at h
   simp only at h
   split at h
   ·rename_i t hdst
    have wantT:∀b,a.tmps.getD t undef=.bool b->Region.wanted o (yielded ops a.tmps)=(b==want):=by
     intro b hb
     have:=mf (ops:=ops) hdst hb
     simp[Region.wanted,hg,this]
    split at h
    ·rename_i e
     have hb:=g.bool e
     cases want with
     |true=>rw[wantT _ hb,if_pos (by decide)];exact .inl (run s a w g h)
     |false=>rw[wantT _ hb,if_neg (by decide)];exact skip s a w g h
    ·rename_i e
     have hb:=g.bool e
     cases want with
     |true=>rw[wantT _ hb,if_neg (by decide)];exact skip s a w g h
     |false=>rw[wantT _ hb,if_pos (by decide)];exact .inl (run s a w g h)
    ·rename_i vs e
     have hb:=g.cQ e
     have:=lq (ops:=ops) hdst hb
     rw[if_neg (by simp[Region.wanted,hg,this])]
     exact skip s a w g h
    ·rename_i b e
     obtain⟨g',hb⟩:=g.test e
     obtain⟨h1,h2⟩:=h
     cases b with
     |
      true =>
      have h1:=h1 rfl
      cases want with
      |true=>rw[wantT _ hb,if_pos (by decide)];exact .inl (run _ a w g' h1)
      |false=>rw[wantT _ hb,if_neg (by decide)];exact skip _ a w g' h1
     |
      false =>
      have h2:=h2 rfl
      cases want with
      |true=>rw[wantT _ hb,if_neg (by decide)];exact skip _ a w g' h2
      |false=>rw[wantT _ hb,if_pos (by decide)];exact .inl (run _ a w g' h2)
    ·exact h.elim
   ·exact h.elim
end
end Go.VL
namespace Go.VL
open Go Go.RowKit
section
variable {P:Program} {w w':World} {n:Nat} {A:iA} {s:St} {a:Act}
def H8:Ex->Exit
 | .normal=>.normal
 | .exit i=>.exit i
 | .ret=>.ret
def uM(P:Program)(n:Nat)(A:iA)(T:dL)(cfg:Nat->FC)(Φ:Nat->List AV->List Ob->Prop):Prop :=
 ∀(id:Nat) (ops:Array Oper) (draw:Bool) (K:St->Tree) (Q:Exit->Act->World->Prop),(∀s a w,fa n A s a w->dV P n (K s) Φ->Q .normal a w) ->
  ∀s a w,fa n A s a w->dV P n (jg T cfg n draw ops.toList ops.toList [] s K) Φ->(Code.region id ops draw).wp P Q a w
theorem yh:∀{l r:List Nat},EA l r=true->l=r
 |[],[],_=>rfl
 |[],_::_,h=>by cases h
 |_::_,[],h=>by cases h
 |
  a::l,b::r,h=>by
  simp only[EA,ai]at h
  rw[au h.1,yh h.2]
theorem xm{T:dL}{cfg:Nat->FC}{Φ:Nat->List AV->List Ob->Prop}(hB:kf P A)(hreg:uM P n A T cfg Φ)(lis:List (Nat×LI)){fx:List Nat}(hA:∀o b,A.fix o=some b->o∈fx) :
 ∀(c:Code) (s:St) (K:Ex->St->Tree) (Q:Exit->Act->World->Prop),(∀ex s a w,fa n A s a w->dV P n (K ex s) Φ->Q (H8 ex) a w) ->
  ∀a w,fa n A s a w->dV P n (go T cfg n lis fx c s K) Φ->c.wp P Q a w:=by
 intro c
 induction c with
 |skip=>intro s K Q hK a w g h;exact wp_skip (hK .normal s a w g h)
 |region id ops draw=>intro s K Q hK a w g h;exact hreg id ops draw (K .normal) Q (fun s a w g h=>hK .normal s a w g h) s a w g h
 |
  seq x y ihx ihy =>
  intro s K Q hK a w g h
  refine wp_seq (ihx s _ _ ?_ a w g h)
  intro ex s' a' w' g' h'
  cases ex with
  |normal=>exact ihy s' K Q hK a' w' g' h'
  |exit i=>exact hK (.exit i) s' a' w' g' h'
  |ret=>exact hK .ret s' a' w' g' h'
 |
  cond c x y ihx ihy =>
  intro s K Q hK a w g h
  unfold go at h
  split at h
  ·rename_i t
   split at h
   ·rename_i e
    exact wp_cond_true (g.bool e) (ihx s K Q hK a w g h)
   ·rename_i e
    exact wp_cond_false (g.bool e) (ihy s K Q hK a w g h)
   ·rename_i b e
    obtain⟨g',hb⟩:=g.test e
    obtain⟨h1,h2⟩:=h
    cases b with
    |true=>exact wp_cond_true hb (ihx _ K Q hK a w g' (h1 rfl))
    |false=>exact wp_cond_false hb (ihy _ K Q hK a w g' (h2 rfl))
   ·exact h.elim
  ·exact wp_cond_true rfl (ihx s K Q hK a w g h)
  ·exact wp_cond_false rfl (ihy s K Q hK a w g h)
  ·exact h.elim
 |
  block id c ih =>
  intro s K Q hK a w g h
  refine wp_block (ih s _ _ ?_ a w g h)
  intro ex s' a' w' g' h'
  cases ex with
  |normal=>exact hK .normal s' a' w' g' h'
  |
   exit i =>
   show if i=id then _ else _
   cases e:az i id with
   |
    true =>
    simp only[e,cond_true]at h'
    rw[if_pos (au e)]
    exact hK .normal s' a' w' g' h'
   |
    false =>
    simp only[e,cond_false]at h'
    rw[if_neg (fun h=>by subst h;rw[dx]at e;cases e)]
    exact hK (.exit i) s' a' w' g' h'
  |ret=>exact hK .ret s' a' w' g' h'
 |
  loop c ih =>
  intro s K Q hK a w g h
  unfold go at h
  split at h
  ·rename_i li _
   cases hq:(EA fx li.fx&&(qM fx li.xs&&qM fx li.rt))with
   |false=>rw[hq]at h;exact h.elim
   |
    true =>
    rw[hq]at h
    simp only[cond_true]at h
    simp only[ai]at hq
    obtain⟨q1,q2,q3⟩:=hq
    have efx:=yh q1
    split at h
    ·rename_i xs obs hcut
     obtain⟨R,hL,hx,hr⟩:=h
     obtain⟨M,β,g⟩:=g
     refine Code.wp_mono ?_ (hL A a w hB (by rw[<-efx];exact hA) ⟨s,M,β,g,hcut⟩).wp
     intro e a' w' hq
     cases e with
     |
      exit i =>
      obtain⟨rfl,ys,o,hR,s',M',β',g',hc'⟩:=hq
      obtain⟨p,t⟩:=fF.1 (hx ys o hR)
      exact hK (.exit li.ex) _ a' w' (s4 g' q2 hA hc' p) t
     |
      ret =>
      obtain⟨ys,o,hR,s',M',β',g',hc'⟩:=hq
      obtain⟨p,t⟩:=fF.1 (hr ys o hR)
      exact hK .ret _ a' w' (s4 g' q3 hA hc' p) t
     |_=>exact hq.elim
    ·exact h.elim
  ·exact h.elim
 |exit i=>intro s K Q hK a w g h;exact wp_exit (hK (.exit i) s a w g h)
 |label l=>intro s K Q hK a w g h;exact wp_label (hK .normal s a w g h)
 |ret=>intro s K Q hK a w g h;exact wp_ret (hK .ret s a w g h)
 |_=>intro s K Q hK a w g h;exact h.elim
theorem cL.step{T:dL}{cfg:Nat->FC}{lis:List (Nat×LI)}{c:Code}{li:LI}{xs:List AV}{obs:List Ob}{R:Nat->List AV->List Ob->Prop}
 (hreg:∀A,kf P A->uM P n A T cfg fun tag ys o=>(tag=0->cL P n c li ys o R)/\(tag=1->R 1 ys o)/\(tag=2->R 2 ys o))
 (h:dV P n (round T cfg n lis c li xs obs) fun tag ys o=>(tag=0->cL P n c li ys o R)/\(tag=1->R 1 ys o)/\(tag=2->R 2 ys o)):cL P n c li xs obs R:=by
 intro A a w hB hA ⟨s,M,β,g,hcut⟩
 unfold round at h
 cases hq:qM li.fx li.hd with
 |false=>rw[hq]at h;exact h.elim
 |true =>
 rw[hq]at h
 simp only[Bool.not_true,cond_false]at h
 obtain⟨p,h⟩:=fF.1 h
 refine lH.Br (xm hB (hreg A hB) lis hA c _ _ _ ?_ a w (s4 g hq hA hcut p) h)
 intro ex s' a' w' ⟨M',β',g'⟩ h'
 cases ex with
 |
  normal =>
  simp only at h'
  split at h'
  ·rename_i ys o hc;exact(h'.1 rfl) A a' w' hB hA ⟨s',M',β',g',hc⟩
  ·exact h'.elim
 |
  exit i =>
  simp only at h'
  cases e:az i li.ex with
  |
   true =>
   simp only[e,cond_true]at h'
   split at h'
   ·rename_i ys o hc;exact⟨au e,ys,o,h'.2.1 rfl,s',M',β',g',hc⟩
   ·exact h'.elim
  |false=>simp only[e,cond_false]at h';exact h'.elim
 |
  ret =>
  simp only at h'
  split at h'
  ·rename_i ys o hc;exact⟨ys,o,h'.2.2 rfl,s',M',β',g',hc⟩
  ·exact h'.elim
variable {M:Mem} {β:Lo}
theorem zF{t:Nat}{v u:Value}(h:(Instr.loadAt t v).run P w=.ok u w):(do loadVar t (<-asAddr v):Sem Value).run P w=.ok u w:=by
 unfold Instr.loadAt at h
 cases v with
 |
  pointer ad =>
  cases ad with
  |none=>simp[Instr.sureAddr,Sem.run_bind]at h
  |some ad=>simpa[Instr.sureAddr,asAddr,Sem.run_bind]using h
 |_=>simp[Instr.sureAddr,Sem.run_bind]at h
def sS(tmps:Array Value):ResultVar->Sem Value
 | .tmp t=>pure (tmps.getD t undef)
 | .cell q t=>do loadVar t (<-asAddr (tmps.getD q undef))
theorem pD(F:Func)(tmps:Array Value):results F tmps=(do let vs <-F.results.mapM (sS tmps);pure (if h:vs.size=1 then vs[0]else .tuple vs)):=rfl
theorem mw{T:dL}(hT:cv P T)(g:cz n A s a w M β):∀(rv:List ResultVar) {ps:List Prop} {asq:List AV},kI T s rv=some (ps,asq)->fo ps ->
 ∃vs:List Value,(rv.mapM (sS a.tmps)).run P w=.ok vs w/\asq.length=vs.length/\∀i,i<asq.length->aW M β (asq.getD i .any) (vs.getD i undef)
 |
  [],ps,asq,h,hp=>by
  simp only[kI,Option.some.injEq,Prod.mk.injEq]at h
  obtain⟨rfl,rfl⟩:=h
  exact⟨[],by simp,rfl,fun i hi=>by simp at hi⟩
 |
  .tmp t::r,ps,asq,h,hp=>by
  simp only[kI]at h
  cases e:kI T s r with
  |none=>rw[e]at h;cases h
  |
   some q =>
   rw[e]at h
   simp only[cK,Option.some.injEq,Prod.mk.injEq]at h
   obtain⟨rfl,rfl⟩:=h
   obtain⟨vs,h1,h2,h3⟩:=mw hT g r e hp
   refine⟨a.tmps.getD t undef::vs,?_,by simp[h2],fun i hi=>?_⟩
   ·simp only[List.mapM_cons,sS,Sem.run_bind,Sem.run_pure,Result.andThen_ok,h1]
   ·cases i with
    |zero=>simpa using g.tm t
    |succ i=>simpa using h3 i (by simpa using hi)
 |
  .cell q t::r,ps,asq,h,hp=>by
  simp only[kI]at h
  have hld:=p7 (P:=P) hT g.own g.agree (t:=t) (g.tm q)
  have fin:∀(u:Value) (d:De) (p':List Prop) (as':List AV),kI T s r=some (p',as')->fo p'->asq=d.val::as'->(Instr.loadAt t (a.tmps.getD q undef)).run P w=.ok u w->aW M β d.val u ->
   ∃vs:List Value,((ResultVar.cell q t::r).mapM (sS a.tmps)).run P w=.ok vs w/\asq.length=vs.length/\∀i,i<asq.length->aW M β (asq.getD i .any) (vs.getD i undef):=by
   intro u d p' as' e hp' ea hu hr
   obtain⟨vs,h1,h2,h3⟩:=mw hT g r e hp'
   subst ea
   refine⟨u::vs,?_,by simp[h2],fun i hi=>?_⟩
   ·rw[List.mapM_cons,Sem.run_bind,sS,zF hu]
    simp only[Result.andThen_ok,Sem.run_bind,h1,Sem.run_pure]
   ·cases i with
    |zero=>simpa using hr
    |succ i=>simpa using h3 i (by simpa using hi)
  split at h
  ·rename_i p d qq e1 e2
   cases h
   rw[e1]at hld
   obtain⟨u,h1,h2⟩:=(hld hp.1).2.2
   exact fin u d qq.1 qq.2 e2 hp.2 rfl h1 h2
  ·rename_i d qq e1 e2
   cases h
   rw[e1]at hld
   obtain⟨u,h1,h2⟩:=hld.2.2
   exact fin u d qq.1 qq.2 e2 hp rfl h1 h2
  ·cases h
theorem kY:∀(asq:List AV) (i:Nat) (f:Nat->AV) (t:Nat),setArgs asq i f t=if i<=t/\t<i+asq.length then asq.getD (t-i) .any else f t
 |[],i,f,t=>by rw[if_neg (by simp only[aM];omega)];rfl
 |
  x::asq,i,f,t=>by
  rw[setArgs,kY asq (i+1) _ t]
  simp only[aw]
  by_cases h:i+1<=t/\t<i+1+asq.length
  ·rw[if_pos h,if_pos (by omega),show t-i=(t-(i+1))+1 by omega];rfl
  ·rw[if_neg h]
   by_cases e:t=i
   ·subst e;rw[aD,if_pos (by omega)];simp
   ·rw[aJ _ _ _ _ e,if_neg (by omega)]
theorem pn:∀(os:List Ob) (i:Nat) (f:Nat->Option Ob) (t:Nat),pC os i f t=if i<=t/\t<i+os.length then some (os.getD (t-i) .dead)else f t
 |[],i,f,t=>by rw[if_neg (by simp only[aM];omega)];rfl
 |
  x::os,i,f,t=>by
  rw[pC,pn os (i+1) _ t]
  simp only[aw]
  by_cases h:i+1<=t/\t<i+1+os.length
  ·rw[if_pos h,if_pos (by omega),show t-i=(t-(i+1))+1 by omega];rfl
  ·rw[if_neg h]
   by_cases e:t=i
   ·subst e;rw[aD,if_pos (by omega)];simp
   ·rw[aJ _ _ _ _ e,if_neg (by omega)]
theorem kl(g:cz n A s a w M β){ob0:Nat->Option Ob}:∀(ms:List MK) {obs:List Ob} {os:List Nat} {j:Nat},kW ob0 ms j=some (obs,os)->(∀o x,o∈os->ob0 o=some x->s.ob o=some x) ->
 ∀{U:List Nat} {f:Nat->Option Ob} {βc:Lo},fg s w M β U f βc->(∀m,j<=m->f m=none)->nodup os=true->(∀o,o∈os->o∉U) ->
 ∃βc' U' f',fg s w M β U' f' βc'/\Lo.le βc βc'/\(∀o,o∈U'->o∈os\/o∈U)/\(∀m,j+obs.length<=m->f' m=none)/\(∀m,m<j->f' m=f m)/\(∀q,q<obs.length->obs.getD q .dead=.dead\/f' (j+q)=some (obs.getD q .dead))/\obs.length=dK ms /\
  (∀q,q∈nh ms j->(∃x,s.ob q=some x)/\∃b,β q=some b/\βc' q=some b)/\(∀q sz es,q<obs.length->obs.getD q .dead=.kB sz es->j+q∈nh ms j)
 |
  [],obs,os,j,h,h0,U,f,βc,hB,hnm,hnd,hU=>by
  simp only[kW,Option.some.injEq,Prod.mk.injEq]at h
  obtain⟨rfl,rfl⟩:=h
  exact⟨βc,U,f,hB,Lo.le.refl _,fun o ho=>.inr ho,fun m hm=>hnm m (by simpa using hm),fun m _=>rfl,fun q hq=>(by simp at hq),rfl,fun q hq=>(by cases hq),fun q sz es hq=>(by simp at hq)⟩
 |
  .vec::ms,obs,os,j,h,h0,U,f,βc,hB,hnm,hnd,hU=>by
  simp only[kW]at h
  split at h
  ·rename_i obs1 os1 h1
   cases h
   obtain⟨n1,n2⟩:=nodup_cons hnd
   obtain⟨β3,U',f',b1,b2,b3,b4,b5,b6,b7,b8,b9⟩:=kl g ms h1 (fun o x ho=>h0 o x (af _ ho)) hB (fun m hm=>hnm m (by omega)) n2 (fun o ho=>hU o (af _ ho))
   refine⟨β3,U',f',b1,b2,fun o ho=>?_,fun m hm=>b4 m (by simp at hm;omega),fun m hm=>b5 m (by omega),fun q hq=>?_,by simp[dK,b7],b8,fun q sz es hq he=>?_⟩
   ·rcases b3 o ho with h|h
    ·exact .inl (af _ h)
    ·exact .inr h
   ·cases q with
    |zero=>exact .inl rfl
    |
     succ q =>
     have:=b6 q (by simpa using hq)
     rw[show j+(q+1)=j+1+q by omega]
     simpa using this
   ·cases q with
    |zero=>cases he
    |
     succ q =>
     have:=b9 q sz es (by simpa using hq) (by simpa using he)
     rw[show j+(q+1)=j+1+q by omega]
     exact this
  ·cases h
 |
  .si kz::ms,obs,os,j,h,h0,U,f,βc,hB,hnm,hnd,hU=>by
  simp only[kW]at h
  split at h
  ·rename_i obs1 os1 h1
   cases h
   obtain⟨n1,n2⟩:=nodup_cons hnd
   obtain⟨β3,U',f',b1,b2,b3,b4,b5,b6,b7,b8,b9⟩:=kl g ms h1 (fun o x ho=>h0 o x (af _ ho)) hB (fun m hm=>hnm m (by omega)) n2 (fun o ho=>hU o (af _ ho))
   refine⟨β3,U',f',b1,b2,fun o ho=>?_,fun m hm=>b4 m (by simp at hm;omega),fun m hm=>b5 m (by omega),fun q hq=>?_,by simp[dK,b7],b8,fun q sz es hq he=>?_⟩
   ·rcases b3 o ho with h|h
    ·exact .inl (af _ h)
    ·exact .inr h
   ·cases q with
    |zero=>exact .inl rfl
    |
     succ q =>
     have:=b6 q (by simpa using hq)
     rw[show j+(q+1)=j+1+q by omega]
     simpa using this
   ·cases q with
    |zero=>cases he
    |
     succ q =>
     have:=b9 q sz es (by simpa using hq) (by simpa using he)
     rw[show j+(q+1)=j+1+q by omega]
     exact this
  ·cases h
 |
  .cb gg ks::ms,obs,os,j,h,h0,U,f,βc,hB,hnm,hnd,hU=>by
  simp only[kW]at h
  split at h
  ·rename_i sz es ho
   cases hz:az sz (j3 ks)with
   |false=>rw[hz]at h;cases h
   |true =>
   rw[hz]at h
   simp only[cond_true]at h
   split at h
   ·rename_i obs1 os1 h1
    cases h
    obtain⟨n1,n2⟩:=nodup_cons hnd
    have ho:=h0 j _ ae ho
    obtain⟨v,q1,q2,q3⟩:=g.own j _ ho
    have hfj:=hnm j (an _)
    have hB2:=hB.add g hfj (l:=.vec v sz) (x:=.kB sz es) ⟨v,aD _ _ _,q2,q3⟩ j (hU j ae) (fun b hb=>⟨_,ho,rfl,by simp[dk,q1];exact hb⟩)
    obtain⟨β3,U',f',b1,b2,b3,b4,b5,b6,b7,b8,b9⟩:=kl g ms h1 (fun o x ho=>h0 o x (af _ ho)) hB2 (fun m hm=>by rw[aJ _ _ _ _ (by omega)];exact hnm m (by omega)) n2 (fun o hq hh=>by
     rcases aB.1 hh with rfl|hh
     ·exact n1 hq
     ·exact hU o (af _ hq) hh)
    refine⟨β3,U',f',b1,fun o l hl=>b2 o l (hB.le hfj _ o l hl),fun o ho=>?_,fun m hm=>b4 m (by simp at hm;omega),fun m hm=>(by rw[b5 m (by omega),aJ _ _ _ _ (by omega)]),fun q hq=>?_,by simp[dK,b7],fun q hq=>?_,fun q sz es hq he=>?_⟩
    ·rcases b3 o ho with h|h
     ·exact .inl (af _ h)
     ·rcases aB.1 h with rfl|h
      ·exact .inl ae
      ·exact .inr h
    ·cases q with
     |zero=>right;rw[bo,b5 j (by omega),aD];rfl
     |
      succ q =>
      have:=b6 q (by simpa using hq)
      rw[show j+(q+1)=j+1+q by omega]
      simpa using this
    ·rcases aB.1 hq with rfl|hq
     ·exact⟨⟨_,ho⟩,_,q1,b2 _ _ (aD _ _ _)⟩
     ·exact b8 q hq
    ·cases q with
     |zero=>exact ae
     |
      succ q =>
      have:=b9 q sz es (by simpa using hq) (by simpa using he)
      rw[show j+(q+1)=j+1+q by omega]
      exact af _ this
   ·cases h
  ·cases h
 |
  .obj ks::ms,obs,os,j,h,h0,U,f,βc,hB,hnm,hnd,hU=>by
  simp only[kW]at h
  split at h
  ·rename_i cs ho
   split at h
   ·rename_i asq obs1 os1 h1
    split at h
    ·rename_i obs2 os2 h2
     cases h
     have hnd':nodup (j::(os1++os2))=true:=by simpa using hnd
     obtain⟨n1,n2⟩:=nodup_cons hnd'
     obtain⟨n3,n4,n5⟩:=dM n2
     have hl1:=gm ks h1
     obtain⟨β3,U1,f1,b1,b2,b3,b4,b5,b6,b7,b8,_⟩:=iE g ks h1 (fun o x hh=>h0 o x (by simp[hh])) hB (fun m hm=>hnm m (by omega)) n3 (fun q hq=>hU q (by simp[hq]))
     have ho:=h0 j _ (by simp) ho
     obtain⟨b,vs,e,q1,q2,q3,q4,q5,q6⟩:=g.own j _ ho
     have hfj:f1 j=none:=by rw[b5 j (by omega)];exact hnm j (an _)
     have hB2:=b1.add g hfj (l:=.cells b) (x:=.cells asq)
      ⟨b,vs,e,aD _ _ _,q2,by rw[q3,b7],fun i hi=>(b8 i _ (by omega) (q4 i (by omega))).mono (Mem.le.refl _) (b1.le hfj _),q5,q6⟩ j
      (fun hh=>by
       rcases b3 j hh with h|h
       ·exact n1 (ao _ h)
       ·exact hU j (by simp) h)
      (fun b' hb'=>by
       simp only[Loc.block,Option.some.injEq]at hb'
       subst hb'
       exact⟨_,ho,rfl,by simp[dk,q1,Loc.block]⟩)
     obtain⟨β4,U2,f2,d1,d2,d3,d4,d5,d6,d7,d8,d9⟩:=kl g ms h2 (fun o x hh=>h0 o x (by simp[hh])) hB2 (fun m hm=>by
      rw[aJ _ _ _ _ (by omega)];exact b4 m (by omega)) n4 (fun o hh hh'=>by
      rcases aB.1 hh' with rfl|hh'
      ·exact n1 (ak _ hh)
      ·rcases b3 o hh' with h|h
       ·exact n5 o h hh
       ·exact hU o (by simp[hh]) h)
     refine⟨β4,U2,f2,d1,fun o l hl=>d2 o l (b1.le hfj _ o l (b2 o l hl)),fun o hh=>?_,fun m hm=>d4 m (by simp at hm;omega),fun m hm=>?_,fun q hq=>?_,by simp[dK,d7,hl1];omega,fun q hq=>?_,fun q sz es hq he=>?_⟩
     ·rcases d3 o hh with h|h
      ·exact .inl (by simp[h])
      ·rcases aB.1 h with rfl|h
       ·exact .inl (by simp)
       ·rcases b3 o h with h|h
        ·exact .inl (by simp[h])
        ·exact .inr h
     ·rw[d5 m (by omega),aJ _ _ _ _ (by omega)];exact b5 m (by omega)
     ·cases q with
      |zero=>right;rw[bo,d5 j (by omega),aD];rfl
      |
       succ q =>
       by_cases hlt:q<obs1.length
       ·right
        rw[d5 _ (by omega),aJ _ _ _ _ (by omega),show j+(q+1)=j+1+q by omega,b6 q hlt]
        simp[aa,aL,hlt]
       ·have:=d6 (q-obs1.length) (by simp at hq;omega)
        rw[show j+1+bb ks+(q-obs1.length)=j+(q+1) by omega]at this
        have e2:(Ob.cells asq::(obs1++obs2)).getD (q+1) .dead=obs2.getD (q-obs1.length) .dead:=by simp[aa,aL,hlt]
        have e3:(Ob.cells asq::obs1++obs2)=Ob.cells asq::(obs1++obs2):=rfl
        rw[e3,e2];exact this
     ·rcases aB.1 hq with rfl|hq
      ·exact⟨⟨_,ho⟩,_,q1,d2 _ _ (aD _ _ _)⟩
      ·exact d8 q hq
     ·cases q with
      |zero=>cases he
      |
       succ q =>
       by_cases hlt:q<obs1.length
       ·exfalso
        obtain⟨z,es',e⟩:=(iw ks h1).2.1 (obs1.getD q .dead) (by simp[aa,hlt])
        have e2:(Ob.cells asq::obs1++obs2).getD (q+1) .dead=obs1.getD q .dead:=by simp[aa,aL,hlt]
        rw[e2,e]at he;cases he
       ·have e2:(Ob.cells asq::obs1++obs2).getD (q+1) .dead=obs2.getD (q-obs1.length) .dead:=by simp[aa,aL,hlt]
        rw[e2]at he
        have:=d9 (q-obs1.length) sz es (by simp at hq;omega) he
        rw[show j+1+bb ks+(q-obs1.length)=j+(q+1) by omega]at this
        exact af _ this
    ·cases h
   ·cases h
  ·cases h
theorem ot{T:dL}(g:cz n A s a w M β){s0:St}{own:List Nat}{oa:List CK}:∀(asq:List AV) {ts:List Nat} {i k:Nat} {xs:List AV} {obs:List Ob} {os fz:List Nat},pK T s0 own oa ts asq i k=some (xs,obs,os,fz)->Fz M β w s0.ob fz->(∀o x,o∈os->s0.ob o=some x->s.ob o=some x) ->
 ∀{U:List Nat} {f:Nat->Option Ob} {βc:Lo},fg s w M β U f βc->(∀m,k<=m->f m=none)->nodup os=true->(∀o,o∈os->o∉U) ->
 ∃βc' U' f',fg s w M β U' f' βc'/\Lo.le βc βc'/\(∀m,k+obs.length<=m->f' m=none)/\(∀m,m<k->f' m=f m)/\(∀q,q<obs.length->f' (k+q)=some (obs.getD q .dead))/\xs.length=asq.length /\
  ∀q v,q<asq.length->aW M β (asq.getD q .any) v->aW M βc' (xs.getD q .any) v
 |
  [],ts,i,k,xs,obs,os,fz,h,hz,h0,U,f,βc,hB,hnm,hnd,hU=>by
  simp only[pK,Option.some.injEq,Prod.mk.injEq]at h
  obtain⟨rfl,rfl,rfl,rfl⟩:=h
  exact⟨βc,U,f,hB,Lo.le.refl _,fun m hm=>hnm m (by simpa using hm),fun m _=>rfl,fun q hq=>(by simp at hq),rfl,fun q v hq=>(by simp at hq)⟩
 |
  c::asq,ts,i,k,xs,obs,os,fz,h,hz,h0,U,f,βc,hB,hnm,hnd,hU=>by
  have cont:∀(ra:AV) (xo:Ob) (o:Nat) (xs1:List AV) (obs1:List Ob) (os1:List Nat),pK T s0 own oa ts.tail asq (i+1) (k+1)=some (xs1,obs1,os1,fz)->xs=ra::xs1->obs=xo::obs1->os=o::os1->(∃β3,fg s w M β (o::U) (bP f k (some xo)) β3/\Lo.le βc β3/\∀v,aW M β c v->aW M β3 ra v) ->
   ∃βc' U' f',fg s w M β U' f' βc'/\Lo.le βc βc'/\(∀m,k+obs.length<=m->f' m=none)/\(∀m,m<k->f' m=f m)/\(∀q,q<obs.length->f' (k+q)=some (obs.getD q .dead))/\xs.length=(c::asq).length /\
    ∀q v,q<(c::asq).length->aW M β ((c::asq).getD q .any) v->aW M βc' (xs.getD q .any) v:=by
   intro ra xo o xs1 obs1 os1 h2 ea eo eos ⟨β3,c1,c2,c3⟩
   subst ea;subst eo;subst eos
   obtain⟨n1,n2⟩:=nodup_cons hnd
   obtain⟨β4,U',f',b1,b2,b4,b5,b6,b7,b8⟩:=ot g asq h2 hz (fun o x ho=>h0 o x (af _ ho)) c1 (fun m hm=>by rw[aJ _ _ _ _ (by omega)];exact hnm m (by omega)) n2 (fun q hq hh=>by
    rcases aB.1 hh with rfl|hh
    ·exact n1 hq
    ·exact hU q (af _ hq) hh)
   refine⟨β4,U',f',b1,fun o l hl=>b2 o l (c2 o l hl),fun m hm=>b4 m (by simp at hm;omega),fun m hm=>?_,fun q hq=>?_,by simp[b7],fun q v hq hr=>?_⟩
   ·rw[b5 m (by omega),aJ _ _ _ _ (by omega)]
   ·cases q with
    |zero=>rw[bo,b5 k (by omega),aD];rfl
    |
     succ q =>
     have:=b6 q (by simpa using hq)
     rw[show k+(q+1)=k+1+q by omega,this];rfl
   ·cases q with
    |zero=>simpa using(c3 v (by simpa using hr)).mono (Mem.le.refl _) b2
    |succ q=>simpa using b8 q v (by simpa using hq) (by simpa using hr)
  simp only[pK]at h
  cases ho:own.any (az i)with
  |
   true =>
   rw[ho]at h
   simp only[cond_true]at h
   split at h
   ·rename_i o
    split at h
    ·rename_i sz es xs1 obs1 os1 fz1 h1 h2
     cases h
     obtain⟨β3,c1,c2,c3,c4⟩:=fg.vec g hB (m:=k) (hnm k (an _)) (hU o ae) (h0 _ _ ae h1)
     exact cont (.vec k) (.vec sz es) o xs1 obs1 os1 h2 rfl rfl rfl ⟨β3,c1,c2,c3⟩
    ·cases h
   ·rename_i o
    split at h
    ·rename_i cs hcs
     split at h
     ·rename_i as' xs1 obs1 os1 fz1 h1 h2
      cases h
      obtain⟨q1,q2⟩:=nB (M:=M) (β:=β) (w:=w) (ob:=s0.ob) (fun c a' os v=>fu dG c a' os v) _ _ _ h1 (fun o ho=>by cases ho)
      obtain⟨β3,c1,c2,c3⟩:=fg.obj g hB (m:=k) (asq:=as') (hnm k (an _)) (hU o ae) (h0 _ _ ae hcs) q1 q2
      exact cont (.ref k 0) (.cells as') o xs1 obs1 os1 h2 rfl rfl rfl ⟨β3,c1,c2,c3⟩
     ·cases h
    ·cases h
   ·split at h
    ·rename_i xs1 obs1 os1 fz1 h2
     cases h
     obtain⟨β3,c1,c2,c3⟩:=fg.rk g hB (m:=k) (o:=4*dQ+k) (sz:=nZ T (ts.headD 0)) (hnm k (an _)) (hU _ ae)
     exact cont (.vec k) (.vec (nZ T (ts.headD 0)) []) _ xs1 obs1 os1 h2 rfl rfl rfl ⟨β3,c1,c2,fun v hv=>by rw[cT hv];exact c3⟩
    ·cases h
   ·rename_i cs
    split at h
    ·rename_i as' ob' os' xs1 obs1 os1 fz1 h1 h2
     cases h
     have hlen:=gm oa h1
     obtain⟨n1,n2,n3⟩:=dM hnd
     obtain⟨β3,U3,f3,c1,c2,c3,c4,c5,c6,c7,c8,_⟩:=iE g oa h1 (fun o x ho=>h0 o x (ao _ ho)) hB hnm n1 (fun q hq=>hU q (ao _ hq))
     obtain⟨β4,U',f',b1,b2,b4,b5,b6,b7,b8⟩:=ot g asq h2 hz (fun o x ho=>h0 o x (ak _ ho)) c1 (fun m hm=>c4 m (by omega)) n2 (fun q hq hh=>by
      rcases c3 q hh with h|h
      ·exact n3 q h hq
      ·exact hU q (ak _ hq) h)
     refine⟨β4,U',f',b1,fun o l hl=>b2 o l (c2 o l hl),fun m hm=>b4 m (by simp at hm;omega),fun m hm=>?_,fun q hq=>?_,by simp[b7],fun q v hq hr=>?_⟩
     ·rw[b5 m (by omega)];exact c5 m hm
     ·by_cases hlt:q<ob'.length
      ·rw[b5 _ (by omega),c6 q hlt]
       simp[aa,aL,hlt]
      ·have:=b6 (q-ob'.length) (by simp at hq;omega)
       rw[show k+bb oa+(q-ob'.length)=k+q by omega]at this
       rw[this]
       simp[aa,aL,hlt]
     ·cases q with
      |
       zero =>
       have hr:aW M β (.agg cs) v:=by simpa using hr
       obtain⟨us,rfl,hl,hr,hone⟩:=eW hr
       have:aW M β4 (.agg as') (.agg us.toArray):=.agg _ _ _ (by omega) (fun i hi=>hone i (by omega)) fun i hi=>(c8 i _ (by omega) (hr i (by omega))).mono (Mem.le.refl _) b2
       simpa using this
      |succ q=>simpa using b8 q v (by simpa using hq) (by simpa using hr)
    ·cases h
   ·cases h
  |
   false =>
   rw[ho]at h
   simp only[cond_false]at h
   split at h
   ·rename_i x fz1 xs1 obs1 os1 fz2 h1 h2
    cases h
    obtain⟨β4,U',f',b1,b2,b4,b5,b6,b7,b8⟩:=ot g asq h2 hz.right h0 hB hnm hnd hU
    refine⟨β4,U',f',b1,b2,b4,b5,b6,by simp[b7],fun q v hq hr=>?_⟩
    cases q with
    |zero=>simpa using(fu _ _ _ _ _ h1 hz.left (by simpa using hr)).up
    |succ q=>simpa using b8 q v (by simpa using hq) (by simpa using hr)
   ·cases h
theorem zK{T:dL}(hT:cv P T){cfg:Nat->FC}{lis:List (Nat×LI)}{fc:FC}{f:Nat}{F:Func}{asq:List AV}{ins:List Ob}{R:AV->List Ob->Prop}(hf:P.funcs[f]?=some F)(hnm:(F.name=="runtime.NumGoroutine")=false)
 (hreg:∀A,kf P A->uM P F.ntmps A T cfg fun _ xs obs=>R (xs.headD .any) obs)
 (h:dV P F.ntmps (main T cfg lis fc F asq ins) fun _ xs obs=>R (xs.headD .any) obs):ay P f asq ins R:=by
 unfold main at h
 cases hb:F.body with
 |none=>rw[hb]at h;exact h.elim
 |
  some c =>
  rw[hb]at h
  simp only at h
  cases hle:(eE asq.length F.ntmps&&di (cS fc.mu) ins)with
  |false=>rw[hle]at h;exact h.elim
  |
   true =>
   rw[hle]at h
   simp only[cond_true]at h
   simp only[ai]at hle
   obtain⟨hle,hal⟩:=hle
   have hle:=aF hle
   have hlen:=gd _ _ hal
   refine⟨⟨F,hf,by simp[hb],hnm⟩,fun w M β vs hB hin=>?_⟩
   have hsz:vs.toArray.size=asq.length:=by simp[hin.len]
   let fx:=nh (cS fc.mu) 0
   let A:iA:=⟨w,M,fun b=>∃i,i<ins.length/\dk β i=some b,fun o=>bif e9 fx o then β o else none⟩
   have hA:∀o b,A.fix o=some b->o∈fx/\β o=some b:=fun o b hb=>by
    simp only[A]at hb
    cases hm:e9 fx o with
    |false=>rw[hm]at hb;cases hb
    |
     true =>
     rw[hm]at hb
     simp only[cond_true]at hb
     exact⟨kC.1 hm,hb⟩
   have hob:∀o x,(enter asq ins).ob o=some x->o<ins.length/\x=ins.getD o .dead:=fun o x hx=>by
    have:pC ins 0 (fun _=>none) o=some x:=hx
    rw[pn]at this
    split at this
    ·rename_i hh;cases this;exact⟨by omega,by rw[Nat.sub_zero]⟩
    ·cases this
   have g0:cz F.ntmps A (enter asq ins) {tmps:=vs.toArray++Array.replicate (F.ntmps-vs.toArray.size) undef,defers:=[]} w M β:=by
    refine {size:=by simp[hin.len];omega,defs:=rfl,tm:=fun t=>?_,le:=Mem.le.refl _,new:=fun b k v h=>.inl h,agree:=hin.agree,own:=fun o x h=>?_,place:=fun o x b h _ hb=>?_,apart:=fun o o' x x' b hne h hl h' hl' hb=>?_,us:=fun o hu=>?_,fix:=fun o b hb=>?_,cb:=⟨rfl,rfl,rfl,an _,fun _ _ _=>rfl⟩}
    ·show aW M β (setArgs asq 0 (fun _=>.any) t) _
     rw[kY]
     by_cases ht:t<asq.length
     ·rw[if_pos (by omega),Nat.sub_zero]
      have e:(vs.toArray++Array.replicate (F.ntmps-vs.toArray.size) undef).getD t undef=vs.getD t undef:=by
       have:t<vs.length:=by rw[hin.len];exact ht
       simp[Array.getElem?_append,this,aa]
      rw[e];exact hin.rep t ht
     ·rw[if_neg (by omega)];exact .any _ _
    ·obtain⟨h1,rfl⟩:=hob o x h;exact hin.own o h1
    ·obtain⟨h1,rfl⟩:=hob o x h;exact .inr ⟨o,h1,hb⟩
    ·obtain⟨h1,rfl⟩:=hob o x h;obtain⟨h2,rfl⟩:=hob o' x' h';exact hin.apart o o' b hne h1 h2 hl hl' hb
    ·have hge:ins.length<=o:=by
      have:bS o ins.length=false:=hu
      rcases Nat.lt_or_ge o ins.length with h|h
      ·have:bS o ins.length=true:=Nat.ble_eq_true_of_le h
       simp_all
      ·exact h
     refine⟨hin.none o hge,?_⟩
     cases e:(enter asq ins).ob o with
     |none=>rfl
     |some x=>obtain⟨h1,_⟩:=hob o x e;omega
    ·obtain⟨h1,h2⟩:=hA o b hb
     have:=(l8 _ _ _ h1).2
     exact⟨Nat.ble_eq_true_of_le (by omega),fun _ _=>h2⟩
   have hBA:kf P A:=kf.of hB fun b k v hc ⟨i,hi,hbi⟩=>by
    have:=(hin.own i hi).xY (fG _ _ hal i hi) hbi k
    rw[this]at hc;cases hc
   refine calls_of_wp hf hb (xm (A:=A) hBA (hreg A hBA) lis (fun o b hb=>(hA o b hb).1) c _ _ _ ?_ _ w ⟨M,β,g0⟩ h)
   intro ex s a w' ⟨M',β',g⟩ h'
   have fin:dV P F.ntmps (finish T fc F.results.toList F.resultTypes.toList s) (fun _ xs obs=>R (xs.headD .any) obs) ->
    a.defers=[]/\∃v,(results F a.tmps).run P w'=.ok v w'/\∃v' r obs M'' β'',Ending.returned v=.returned v'/\R r obs/\Out w M β ins.length r obs v' w' M'' β'':=by
    intro h'
    unfold finish at h'
    split at h'
    ·rename_i ps as' hres
     split at h'
     ·rename_i obs' os' hkeep
      split at h'
      ·rename_i xs obs os fz hout
       cases hgd:(nodup (os'++os)&&!((os'++os).any (e9 fz)))with
       |false=>rw[hgd]at h';exact h'.elim
       |true =>
       rw[hgd]at h'
       simp only[cond_true]at h'
       simp only[ai,bx]at hgd
       obtain⟨hnd,hdj⟩:=hgd
       obtain⟨n1,n2,n3⟩:=dM hnd
       have hdj':∀o,o∈os'++os->o∉fz:=fun o ho hf=>by
        rw[List.any_eq_false]at hdj
        exact hdj o ho (kC.2 hf)
       obtain⟨hp,hR⟩:=fF.1 h'
       obtain⟨rs,h1,h2,h3⟩:=mw hT g F.results.toList hres hp
       obtain⟨M1,hM,g1⟩:=g.freeze fz
       have h0:∀o x,o∈os'++os->s.ob o=some x->({s with ob:=bX s.ob (eF s.ob fz)}:St).ob o=some x:=fun o x ho hx=>by
        show bX s.ob (eF s.ob fz) o=some x
        rw[lA _ _ _ (by rw[qP];exact hdj' o ho)];exact hx
       obtain⟨β2,U2,f2,b1,b2,b3,b4,b5,b6,b7,b8,b9⟩:=kl g1 (cS fc.mu) hkeep (fun o x ho=>h0 o x (ao _ ho)) fg.nil (fun _ _=>rfl) n1 (fun _ _ hh=>by cases hh)
       simp only[aK]at b4 b6
       obtain⟨β3,U3,f3,d1,d2,d4,d5,d6,d7,d8⟩:=ot (T:=T) g1 as' hout g1.fz (fun o x ho=>h0 o x (ak _ ho)) b1 b4 n2 (fun o ho hh=>by
        rcases b3 o hh with h|h
        ·exact n3 o h ho
        ·cases h)
       have hall:∀q,q<(obs'++obs).length->(obs'++obs).getD q .dead=.dead\/f3 q=some ((obs'++obs).getD q .dead):=fun q hq=>by
        by_cases hlt:q<obs'.length
        ·have e1:(obs'++obs).getD q .dead=obs'.getD q .dead:=by simp[aa,aL,hlt]
         rw[e1,d5 q hlt];exact b6 q hlt
        ·have e1:(obs'++obs).getD q .dead=obs.getD (q-obs'.length) .dead:=by simp[aa,aL,hlt]
         have:=d6 (q-obs'.length) (by simp at hq;omega)
         rw[show obs'.length+(q-obs'.length)=q by omega]at this
         rw[e1];exact .inr this
       have hlive:∀q,q<(obs'++obs).length->((obs'++obs).getD q .dead).live=true->f3 q=some ((obs'++obs).getD q .dead):=fun q hq hl=>by
        rcases hall q hq with h|h
        ·rw[h]at hl;cases hl
        ·exact h
       have hrep:∀i,i<xs.length->aW M1 β3 (xs.getD i .any) (rs.getD i undef):=fun i hi=>d8 i _ (by omega) ((h3 i (by omega)).mono hM (Lo.le.refl _))
       have hrun:(results F a.tmps).run P w'=.ok (if h:rs.toArray.size=1 then rs.toArray[0]else .tuple rs.toArray) w':=by
        rw[pD,Sem.run_bind,Array.mapM_eq_mapM_toList]
        simp only[Sem.run_map,h1]
        rfl
       have hkp:∀j l,j∈fx->β j=some l->β3 j=some l:=fun j l hmem hb=>by
        have hfix:A.fix j=some l:=by
         show (bif e9 fx j then β j else none)=some l
         rw[kC.2 hmem,hb];rfl
        obtain⟨⟨x,hx⟩,b',q1,q2⟩:=b8 j hmem
        have:=(g1.fix j l hfix).2 x hx
        rw[q1]at this;cases this
        exact d2 _ _ q2
       refine⟨g.defs,_,hrun,_,_,obs'++obs,M1,β3,rfl,hR,?_⟩
       have hxl:xs.length=rs.length:=by omega
       refine⟨g1.le,g1.agree,?_,fun j hj=>?_,fun j b hj hb=>?_,fun j l sz es hj hb he=>?_,fun i j b hne hi hj hli hlj hb=>?_,fun j b hj hl hb=>?_,fun b k v hc=>g1.new b k v hc,⟨g1.cb.os,g1.cb.tape,g1.cb.output,g1.cb.size,g1.cb.block⟩⟩
       ·match xs,rs,hxl,hrep with
        |[],[],_,_=>exact .any _ _
        |[x],[r],_,hrep=>simpa using hrep 0 (by simp)
        |x::y::xs,r::q::rs,hl,hrep=>exact .cQ _ _ _ (by simpa using hl) hrep
       ·rcases hall j hj with h|h
        ·rw[h];trivial
        ·exact d1.own j _ h
       ·have hcells:∃cs,ins.getD j .dead=.cells cs:=by
         have h1:=hin.own j hj
         have hl:=fG _ _ hal j hj
         cases e:ins.getD j .dead with
         |cells cs=>exact⟨cs,rfl⟩
         |vec z es=>rw[e]at h1;obtain⟨u,h2,_⟩:=h1;rw[hb]at h2;cases h2
         |kB z es=>rw[e]at h1;obtain⟨u,h2,_⟩:=h1;rw[hb]at h2;cases h2
         |_=>rw[e]at hl;cases hl
        obtain⟨cs,ecs⟩:=hcells
        have hmem:=iH _ _ 0 hal j cs hj ecs
        rw[aK]at hmem
        exact hkp j _ hmem hb
       ·have hlt:j<obs'.length:=by omega
        have e1:(obs'++obs).getD j .dead=obs'.getD j .dead:=by simp[aa,aL,hlt]
        rw[e1]at he
        have hmem:=b9 j sz es hlt he
        rw[aK]at hmem
        exact hkp j _ hmem hb
       ·exact d1.apart i j _ _ b hne (hlive i hi hli) hli (hlive j hj hlj) hlj hb
       ·obtain⟨o,x0,_,r2,r3,r4⟩:=d1.src j _ b (hlive j hj hl) hl hb
        exact g1.place o x0 b r2 r3 r4
      ·exact h'.elim
     ·exact h'.elim
    ·exact h'.elim
   cases ex with
   |normal=>exact fin h'
   |ret=>exact fin h'
   |exit i=>exact h'.elim
end
end Go.VL
namespace Go.VL
open Go Go.RowKit
section
variable {T:dL} {e e':Operand->AV} {ob ob':Nat->Option Ob}
theorem uP{fs:List (Nat×Nat)}{m:Nat}:∀{ps:List (Nat×Operand)},(∀p,p∈ps->e p.2=e' p.2)->oJ T fs m e ps=oJ T fs m e' ps
 |[],_=>rfl
 |
  p::ps,h=>by
  simp only[oJ]
  rw[h p ae,uP fun q hq=>h q (af _ hq)]
theorem ue{z m:Nat}:∀{ps:List (Nat×Operand)},(∀p,p∈ps->e p.2=e' p.2)->oB z m e ps=oB z m e' ps
 |[],_=>rfl
 |
  p::ps,h=>by
  simp only[oB]
  rw[h p ae,ue fun q hq=>h q (af _ hq)]
theorem rh{f:Nat->Nat}:∀{ps:List (Nat×Operand)} {cs:List AV},(∀p,p∈ps->e p.2=e' p.2)->ps.foldl (fun cs p=>fX cs (f p.1) (flat (e p.2))) cs=ps.foldl (fun cs p=>fX cs (f p.1) (flat (e' p.2))) cs
 |[],_,_=>rfl
 |
  p::ps,cs,h=>by
  simp only[List.foldl_cons]
  rw[h p ae,rh fun q hq=>h q (af _ hq)]
theorem Az:∀{ps:List (Nat×Operand)},(∀p,p∈ps->e p.2=e' p.2)->ps.map (fun p=>e p.2)=ps.map fun p=>e' p.2
 |[],_=>rfl
 |p::ps,h=>by simp only[aS];rw[h p ae,Az fun q hq=>h q (af _ hq)]
theorem AW:∀{ps:List (Nat×Operand)},(∀p,p∈ps->e p.2=e' p.2)->(ps.all fun p=>lf (e p.2))=ps.all fun p=>lf (e' p.2)
 |[],_=>rfl
 |p::ps,h=>by simp only[cn];rw[h p ae,AW fun q hq=>h q (af _ hq)]
theorem th:∀{xs:List Operand},(∀x,x∈xs->e x=e' x)->xs.map e=xs.map e'
 |[],_=>rfl
 |x::xs,h=>by simp only[aS];rw[h x ae,th fun q hq=>h q (af _ hq)]
theorem zm{lo:Option Operand}(h:∀x,lo=some x->e x=e' x):gb e lo=gb e' lo:=by
 cases lo with
 |none=>rfl
 |some x=>simp only[gb];rw[h x rfl]
theorem yK{n:Nat}{lo:Option Operand}(h:∀x,lo=some x->e x=e' x):fm e n lo=fm e' n lo:=by
 cases lo with
 |none=>rfl
 |some x=>simp only[fm];rw[h x rfl]
theorem GD(o:Oper)(h:∀x,x∈o.op.operands->e x=e' x):db T e ob o=db T e' ob o:=by
 cases ho:o.op with
 |move x=>have h1:=h x (by simp[ho,Op.operands]);unfold db;rw[ho];simp only[h1]
 |assign x=>have h1:=h x (by simp[ho,Op.operands]);unfold db;rw[ho];simp only[h1]
 |
  pick c x y =>
  have h1:=h c (by simp[ho,Op.operands]);have h2:=h x (by simp[ho,Op.operands]);have h3:=h y (by simp[ho,Op.operands])
  unfold db;rw[ho];simp only[h1,h2,h3]
 |binOp op t x y t'=>have h1:=h x (by simp[ho,Op.operands]);have h2:=h y (by simp[ho,Op.operands]);unfold db;rw[ho];simp only[h1,h2]
 |unOp op t x=>have h1:=h x (by simp[ho,Op.operands]);cases op<;>(unfold db;rw[ho];try simp only[h1])
 |nilCheck x=>have h1:=h x (by simp[ho,Op.operands]);unfold db;rw[ho];simp only[h1]
 |fieldAddr t x f=>have h1:=h x (by simp[ho,Op.operands]);unfold db;rw[ho];simp only[h1]
 |field t x f=>have h1:=h x (by simp[ho,Op.operands]);unfold db;rw[ho];simp only[h1]
 |load t x=>have h1:=h x (by simp[ho,Op.operands]);unfold db;rw[ho];simp only[h1]
 |indexAddr t x i=>have h1:=h x (by simp[ho,Op.operands]);have h2:=h i (by simp[ho,Op.operands]);unfold db;rw[ho];simp only[h1,h2]
 |index t x i=>have h1:=h x (by simp[ho,Op.operands]);have h2:=h i (by simp[ho,Op.operands]);unfold db;rw[ho];simp only[h1,h2]
 |extract x i=>have h1:=h x (by simp[ho,Op.operands]);unfold db;rw[ho];simp only[h1]
 |
  slice t x lo hi mx =>
  have h1:=h x (by simp[ho,Op.operands])
  have h2:gb e lo=gb e' lo:=zm fun y hy=>h y (by simp[ho,Op.operands,hy])
  have h3:∀n,fm e n hi=fm e' n hi:=fun n=>yK fun y hy=>h y (by simp[ho,Op.operands,hy])
  cases mx<;>(unfold db;rw[ho];try simp only[h1,h2,h3])
 |convert st dt x=>have h1:=h x (by simp[ho,Op.operands]);unfold db;rw[ho];simp only[h1]
 |
  build t ps =>
  have hp:∀p,p∈ps.toList->e p.2=e' p.2:=fun p hp=>h p.2 (by rw[ho];simp only[Op.operands,List.mem_toArray];exact bp.2 ⟨p,hp,rfl⟩)
  unfold db;rw[ho]
  simp only[uP hp,ue hp]
  congr 1
  split
  ·rename_i fs _;simp only[rh (f:=fun i=>(fs.getD i (0,0)).1) hp]
  ·rename_i m el _;simp only[rh (f:=fun i=>i*(T el).sz) hp]
  ·rfl
 |alloc t=>unfold db;rw[ho]
 |box t x=>have h1:=h x (by simp[ho,Op.operands]);unfold db;rw[ho];simp only[h1]
 |store t x y=>have h1:=h x (by simp[ho,Op.operands]);have h2:=h y (by simp[ho,Op.operands]);unfold db;rw[ho];simp only[h1,h2]
 |
  buildSlice t m ps =>
  have hp:∀p,p∈ps.toList->e p.2=e' p.2:=fun p hp=>h p.2 (by rw[ho];simp only[Op.operands,List.mem_toArray];exact bp.2 ⟨p,hp,rfl⟩)
  unfold db;rw[ho]
  simp only[Az hp,AW hp]
 |makeSlice t l c=>have h1:=h l (by simp[ho,Op.operands]);unfold db;rw[ho];simp only[h1]
 |
  call c =>
  obtain⟨callee,xs,ts⟩:=c
  have hx:∀x,x∈xs->e x=e' x:=fun x hx=>h x (by rw[ho];simp only[Op.operands,Call.operands];exact Array.mem_append.2 (.inr hx))
  have hl:∀x,x∈xs.toList->e x=e' x:=fun x h=>hx x (by simpa using h)
  cases callee with
  |
   builtin b =>
   cases b with
   |
    len =>
    unfold db;rw[ho];simp only
    split
    ·rename_i x t hxs hts
     simp only[hl x (by rw[hxs];simp)]
    ·rfl
   |
    append =>
    unfold db;rw[ho];simp only
    split
    ·rename_i x y t t' d hxs hts hd
     simp only[hl x (by rw[hxs];simp),hl y (by rw[hxs];simp)]
    ·rfl
   |
    max =>
    unfold db;rw[ho];simp only
    split
    ·rename_i x y hxs
     simp only[hl x (by rw[hxs];simp),hl y (by rw[hxs];simp)]
    ·rfl
   |
    min =>
    unfold db;rw[ho];simp only
    split
    ·rename_i x y hxs
     simp only[hl x (by rw[hxs];simp),hl y (by rw[hxs];simp)]
    ·rfl
   |_=>unfold db;rw[ho]
  |_=>unfold db;rw[ho]
 |
  makeFunc f fs cs =>
  have hl:∀x,x∈cs.toList->e x=e' x:=fun x hx=>h x (by rw[ho];simp only[Op.operands];exact Array.mem_append.2 (.inr (by simpa using hx)))
  cases f with
  |func f=>unfold db;rw[ho];simp only[th hl]
  |_=>unfold db;rw[ho]
 |_=>unfold db;rw[ho]
end
end Go.VL
namespace Go.VL
open Go Go.RowKit
section
variable {T:dL} {e:Operand->AV} {ob ob':Nat->Option Ob}
theorem w9{f f':AV->Option (AV×List Nat)}(hf:∀c a os,f c=some (a,os)->(∀m,m∈os->ob' m=ob m)->f' c=some (a,os)):∀{cs:List AV} {asq:List (List AV)} {os:List Nat},qV f cs=some (asq,os)->(∀m,m∈os->ob' m=ob m)->qV f' cs=some (asq,os)
 |[],asq,os,h,_=>h
 |
  c::cs,asq,os,h,hm=>by
  unfold qV at h
  split at h
  ·rename_i a1 o1 a2 o2 h1 h2
   cases h
   have q1:=sw hf h1 fun m h=>hm m (ao _ h)
   have q2:=w9 hf h2 fun m h=>hm m (ak _ h)
   simp[qV,q1,q2]
  ·cases h
theorem tD:∀{os:List Nat},(∀m,m∈os->ob' m=ob m)->eF ob' os=eF ob os
 |[],_=>rfl
 |
  o::os,hm=>by
  show (o,ca (ob' o))::eF ob' os=(o,ca (ob o))::eF ob os
  rw[hm o ae,tD fun m h=>hm m (af _ h)]
theorem jl{x:AV}{p:Option Prop}{es:List (List AV)}{os:List Nat}(h:ef ob x=some (p,es,os))(hm:∀m,m∈os->ob' m=ob m):ef ob' x=some (p,es,os):=by
 unfold ef at h |-
 split at h
 ·exact h
 ·exact h
 ·exact h
 ·rename_i o
  split at h
  ·rename_i sz es' ho;cases h;rw[hm o ae,ho]
  ·rename_i es' ho;cases h;rw[hm o ae,ho]
  ·cases h
 ·cases h
def qc:DR->List Nat
 | .no=>[]
 | .yes d=>d.rd++ku d
 | .ok _ d=>d.rd++ku d
def Same(ob ob':Nat->Option Ob)(r r':DR):Prop:=r=.no\/((∀m,m∈qc r->ob' m=ob m)->r'=r)
theorem Same.refl(r:DR):Same ob ob' r r:=.inr fun _=>rfl
theorem dB{q:Bool}{r r':DR}(h:Same ob ob' r r'):Same ob ob' (cO q r) (cO q r'):=by
 cases q
 ·exact .inl rfl
 ·exact h
theorem iC{q:Option Prop}{r:DR}:qc (r.when q)=qc r:=by
 cases q<;>cases r<;>rfl
theorem gy{r:DR}{o:Nat}{r':DR}(h:ob' o=ob o->r'=r.reads o):Same ob ob' (r.reads o) r':=by
 cases r with
 |no=>exact .inl rfl
 |yes d=>exact .inr fun hm=>h (hm o (by simp[DR.reads,qc]))
 |ok p d=>exact .inr fun hm=>h (hm o (by simp[DR.reads,qc]))
theorem xf(t:TI)(x:AV):Same ob ob' (loadAt ob t x) (loadAt ob' t x):=by
 unfold loadAt
 cases x<;>first|exact .refl _|skip
 ·rename_i o k
  simp only
  cases ho:ob o with
  |none=>exact .inl rfl
  |
   some y =>
   cases y<;>first|exact .inl rfl|skip
   ·exact gy fun h=>by rw[h,ho]
   ·exact gy fun h=>by rw[h,ho]
 ·rename_i o k
  simp only
  cases ho:ob o with
  |none=>exact .inl rfl
  |
   some y =>
   cases y<;>first|exact .inl rfl|skip
   ·exact gy fun h=>by rw[h,ho]
   ·exact gy fun h=>by rw[h,ho]
 ·rename_i o i k
  simp only
  cases ho:ob o with
  |none=>exact .inl rfl
  |
   some y =>
   cases y<;>first|exact .inl rfl|skip
   ·exact gy fun h=>by rw[h,ho]
   ·exact gy fun h=>by rw[h,ho]
theorem wt(t:TI)(x:AV)(i:Int):Same ob ob' (indexAt T ob t x i) (indexAt T ob' t x i):=by
 unfold indexAt
 cases hk:t.k<;>cases x<;>first|exact .refl _|skip
 rename_i el o
 refine dB ?_
 cases ho:ob o with
 |none=>exact .inl rfl
 |
  some y =>
  cases y<;>first|exact .inl rfl|skip
  ·rename_i sz es
   cases hz:az sz (T el).sz with
   |false=>left;show cO (az sz (T el).sz) _=_;rw[hz];rfl
   |
    true =>
    refine .inr fun hm=>?_
    have:=hm o (by show o∈qc (cO (az sz (T el).sz) _);rw[hz];simp[cO,qc])
    rw[this,ho]
  ·refine .inr fun hm=>?_
   have:=hm o (by simp[qc])
   rw[this,ho]
theorem GC(o:Oper):Same ob ob' (db T e ob o) (db T e ob' o):=by
 cases ho:o.op with
 |load t x=>unfold db;rw[ho];exact xf _ _
 |
  indexAddr t x i =>
  unfold db;rw[ho]
  refine dB ?_
  try simp only
  split
  ·exact wt _ _ _
  ·exact .inl rfl
 |
  slice t x lo hi mx =>
  cases mx with
  |some m=>unfold db;rw[ho];exact .inl rfl
  |
   none =>
   unfold db;rw[ho]
   refine dB ?_
   try simp only
   split
   ·exact .refl _
   ·rename_i el o' hk hx
    refine dB ?_
    cases hob:ob o' with
    |none=>exact .inl rfl
    |
     some y =>
     cases y<;>first|exact .inl rfl|skip
     ·rename_i sz es
      try simp only
      cases hz:az sz (T el).sz with
      |false=>exact .inl rfl
      |
       true =>
       simp only[cO,cond_true]
       split
       ·rename_i l h hl hh
        refine .inr fun hm=>?_
        rw[hm o' (by simp[qc,ku]),hob]
        simp only[hz,cond_true,hl,hh]
       ·exact .inl rfl
     ·rename_i es
      try simp only
      split
      ·rename_i l h hl hh
       refine .inr fun hm=>?_
       rw[hm o' (by rw[iC];simp[qc]),hob]
       simp only[hl,hh]
      ·exact .inl rfl
   ·rename_i el hk hnv
    refine dB ?_
    cases he:ef ob (e x)with
    |none=>exact .inl rfl
    |
     some q =>
     obtain⟨p,es,os⟩:=q
     try simp only
     split
     ·rename_i l h hl hh
      refine .inr fun hm=>?_
      rw[iC,iC]at hm
      rw[jl he fun m hmm=>hm m (by simp[qc,hmm])]
      simp only[hl,hh]
     ·exact .inl rfl
   ·exact .inl rfl
 |
  convert st dt x =>
  unfold db;rw[ho]
  refine dB ?_
  try simp only
  split
  ·refine dB ?_
   cases he:ef ob (e x)with
   |none=>exact .inl rfl
   |
    some q =>
    obtain⟨p,es,os⟩:=q
    try simp only
    refine .inr fun hm=>?_
    rw[iC]at hm
    rw[jl he fun m hmm=>hm m (by simp[qc,hmm])]
  ·exact .refl _
  ·exact .inl rfl
 |
  store t x y =>
  unfold db;rw[ho]
  refine dB (dB ?_)
  try simp only
  split
  ·rename_i m k hx
   cases hob:ob m with
   |none=>exact .inl rfl
   |
    some z =>
    cases z<;>first|exact .inl rfl|skip
    rename_i cs
    try simp only
    cases hk:eE (k+(flat (e y)).length) cs.length with
    |false=>exact .inl rfl
    |
     true =>
     refine .inr fun hm=>?_
     rw[hm m (by simp[cO,qc,ku]),hob]
     simp only[hk]
  ·rename_i m k hx
   cases hob:ob m with
   |none=>exact .inl rfl
   |
    some z =>
    cases z<;>first|exact .inl rfl|skip
    refine .inr fun hm=>?_
    rw[hm m (by simp[qc,ku]),hob]
  ·rename_i m i k hx
   cases hob:ob m with
   |none=>exact .inl rfl
   |
    some z =>
    cases z<;>first|exact .inl rfl|skip
    try simp only
    split
    ·rename_i xs hf
     refine .inr fun hm=>?_
     rw[hm m (by simp[qc,ku]),hob]
     try simp only
     rw[sw (ob:=ob) (ob':=ob') (os:=[]) (fun c a os=>kk (ob:=ob) (ob':=ob') dG c a os) hf (fun m hmm=>by simp at hmm)]
    ·exact .inl rfl
  ·exact .inl rfl
 |
  buildSlice t m ps =>
  unfold db;rw[ho]
  refine dB ?_
  try simp only
  split
  ·refine dB ?_
   split
   ·rename_i asq os hf
    rename_i el d _ _ _
    generalize hC:(ps.toList.map (·.1)==aP m&&eE (m*(T el).sz) 16777216&&asq.all (fun a=>az a.length (T el).sz)&&ps.toList.all fun p=>lf (e p.2))=C
    cases C with
    |false=>exact .inl rfl
    |
     true =>
     refine .inr fun hm=>?_
     have hos:∀q,q∈os->ob' q=ob q:=fun q hq=>hm q (by simp[cO,qc,ku,eF,hq])
     rw[w9 (ob:=ob) (ob':=ob') (fun c a os=>kk (ob:=ob) (ob':=ob') dG c a os) hf hos]
     simp only[tD hos,hC]
   ·exact .inl rfl
  ·exact .inl rfl
 |
  call c =>
  obtain⟨callee,xs,ts⟩:=c
  cases callee with
  |
   builtin b =>
   cases b with
   |
    len =>
    unfold db;rw[ho];simp only
    split
    ·rename_i x t hxs hts
     refine dB ?_
     split
     ·exact .refl _
     ·exact .refl _
     ·cases he:ef ob (e x)with
      |none=>exact .inl rfl
      |
       some q =>
       obtain⟨p,es,os⟩:=q
       try simp only
       refine .inr fun hm=>?_
       rw[iC]at hm
       rw[jl he fun m hmm=>hm m (by simp[qc,hmm])]
     ·exact .inl rfl
    ·exact .inl rfl
   |
    append =>
    unfold db;rw[ho];simp only
    split
    ·rename_i x y t t' d hxs hts hd
     refine dB ?_
     cases he:ef ob (e y)with
     |none=>left;split<;>first|rfl|(rename_i h;cases h)
     |
      some q =>
      obtain⟨p,fs,os⟩:=q
      cases hk:(T t).k<;>first|exact .inl rfl|skip
      rename_i el
      cases hb:((T el).kn&&bS 0 (T el).bytes)with
      |false=>left;show cO ((T el).kn&&bS 0 (T el).bytes) _=_;rw[hb];rfl
      |
       true =>
       show Same ob ob' (cO ((T el).kn&&bS 0 (T el).bytes) _) _
       rw[hb]
       simp only[cO,cond_true]
       split
       ·rename_i m hx
        cases hob:ob m with
        |none=>exact .inl rfl
        |
         some z =>
         cases z<;>first|exact .inl rfl|skip
         rename_i sz es
         cases hz:az sz (T el).sz with
         |false=>left;show cond (az sz (T el).sz) _ _=_;rw[hz];rfl
         |
          true =>
          show Same ob ob' (cond (az sz (T el).sz) _ _) _
          rw[hz]
          simp only[cond_true]
          refine .inr fun hm=>?_
          rw[iC]at hm
          rw[jl he fun q hq=>hm q (by simp[qc,hq])]
          simp only[hb,cond_true,hm m (by simp[qc,ku]),hob,hz]
       ·rename_i hx
        refine .inr fun hm=>?_
        rw[iC]at hm
        rw[jl he fun q hq=>hm q (by simp[qc,hq])]
        simp only[hb,cond_true]
       ·exact .inl rfl
    ·exact .inl rfl
   |_=>unfold db;rw[ho];exact .refl _
  |_=>unfold db;rw[ho];exact .refl _
 |unOp op t x=>cases op<;>(unfold db;rw[ho];exact .refl _)
 |makeFunc f fs cs=>cases f<;>(unfold db;rw[ho];exact .refl _)
 |_=>unfold db;rw[ho];exact .refl _
end
end Go.VL
namespace Go.VL
open Go Go.RowKit
section
variable {T:dL} {cfg:Nat->FC} {e e':Operand->AV} {ob ob':Nat->Option Ob}
def zl:wJ->List Nat
 | .d _ d=>d.rd
 |_=>[]
def vN:wJ->List Nat
 | .d _ d=>ku d
 | .c _ _ _ wr _=>wr
 | .no=>[]
theorem vw{ks:List CK}{cs asq:List AV}{obs:List Ob}{os:List Nat}{j:Nat}(h:mN ob ks cs j=some (asq,obs,os))(hm:∀m,m∈os->ob' m=ob m):mN ob' ks cs j=some (asq,obs,os):=by
 unfold mN at h |-
 split at h
 ·rename_i as' sz es o h1
  split at h
  ·rename_i h2
   cases hb:az sz (j3 ks)with
   |false=>rw[hb]at h;cases h
   |
    true =>
    rw[hb]at h;cases h
    rw[jS _ h1 hm]
    simp only[hm o ae,h2,hb,cond_true]
  ·cases h
 ·cases h
theorem uv{m:MK}{c c':AV}{obs:List Ob}{os:List Nat}{j:Nat}(h:mD ob m c j=some (c',obs,os))(hm:∀m,m∈os->ob' m=ob m):mD ob' m c j=some (c',obs,os):=by
 unfold mD at h |-
 split at h
 ·split at h
  ·rename_i ho;cases h;rw[hm _ ae,ho]
  ·cases h
 ·rename_i ks o
  split at h
  ·rename_i sz es ho
   cases hb:az sz (j3 ks)with
   |false=>rw[hb]at h;cases h
   |
    true =>
    rw[hb]at h;cases h
    rw[hm _ ae,ho]
    simp only[hb,cond_true]
  ·cases h
 ·rename_i ks cs
  cases e:mN ob ks cs j with
  |none=>rw[e]at h;cases h
  |
   some r =>
   obtain⟨as1,obs1,os1⟩:=r
   rw[e]at h;cases h
   have:=vw e hm
   rw[this]
 ·split at h
  ·rename_i ho
   split at h
   ·rename_i h1;cases h;rw[hm _ ae,ho];simp only;rw[jS _ h1 fun m hh=>hm m (af _ hh)]
   ·cases h
  ·cases h
 ·rename_i ks cs
  cases e:mN ob ks cs j with
  |none=>rw[e]at h;cases h
  |
   some r =>
   obtain⟨as1,obs1,os1⟩:=r
   rw[e]at h;cases h
   have:=vw e hm
   rw[this]
 ·cases h
theorem oh:∀(ms:List (Option MK)) {cs asq:List AV} {obs:List Ob} {os:List Nat} {j:Nat},ej ob ms cs j=some (asq,obs,os)->(∀m,m∈os->ob' m=ob m)->ej ob' ms cs j=some (asq,obs,os)
 |
  [],cs,asq,obs,os,j,h,hm=>by
  cases cs with
  |nil=>exact h
  |cons c cs=>simp[ej]at h
 |
  none::ms,cs,asq,obs,os,j,h,hm=>by
  cases cs with
  |nil=>simp[ej]at h
  |
   cons c cs =>
   simp only[ej]at h |-
   split at h
   ·rename_i h1 h2;cases h;rw[AK h1,oh ms h2 hm]
   ·cases h
 |
  some m::ms,cs,asq,obs,os,j,h,hm=>by
  cases cs with
  |nil=>simp[ej]at h
  |
   cons c cs =>
   simp only[ej]at h |-
   split at h
   ·rename_i h1
    split at h
    ·rename_i h2;cases h
     rw[uv h1 fun m hh=>hm m (ao _ hh)]
     simp only
     rw[oh ms h2 fun m hh=>hm m (ak _ hh)]
    ·cases h
   ·cases h
theorem zz{m:PK}{c c':AV}{obs:List Ob}{os:List Nat}{j:Nat}(h:ly ob m c j=some (c',obs,os))(hm:∀m,m∈os->ob' m=ob m):ly ob' m c j=some (c',obs,os):=by
 unfold ly at h |-
 split at h
 ·exact uv h hm
 ·split at h
  ·rename_i h1;cases h;rw[oh _ h1 hm]
  ·cases h
 ·split at h
  ·rename_i h1 hg
   revert h
   cases hb:az _ _<;>intro h
   ·cases h
   ·cases h;rw[oh _ h1 hm,hg];simp only[hb,cond_true]
  ·cases h
 ·cases h
theorem wK{f:Nat}{c:AV}{l:List (Option Nat)}{fz:List Nat}(h:pS ob f c=some (l,fz))(hm:∀m,m∈fz->ob' m=ob m):pS ob' f c=some (l,fz):=by
 unfold pS at h |-
 split at h
 ·exact h
 ·rename_i o
  have key:∀f' caps,(bif az f' f then(lV o caps).map fun l=>(l,[o])else none)=some (l,fz)->fz=[o]:=fun f' caps h=>by
   cases hb:az f' f with
   |false=>rw[hb]at h;cases h
   |
    true =>
    rw[hb]at h
    cases e:lV o caps with
    |none=>rw[e]at h;cases h
    |some l'=>rw[e]at h;cases h;rfl
  split at h
  ·rename_i f' caps ho
   have:=hm o (by rw[key f' caps h];exact ae)
   simp only[this,ho];exact h
  ·rename_i f' caps ho
   have:=hm o (by rw[key f' caps h];exact ae)
   simp only[this,ho];exact h
  ·cases h
 ·cases h
theorem ou(mu:List (Nat×PK)):∀(asq:List AV) {i j:Nat} {as':List AV} {ins:List Ob} {os fz:List Nat},ga ob mu asq i j=some (as',ins,os,fz)->(∀m,m∈os->ob' m=ob m)->(∀m,m∈fz->ob' m=ob m)->ga ob' mu asq i j=some (as',ins,os,fz)
 |[],i,j,as',ins,os,fz,h,hm,hz=>h
 |
  c::asq,i,j,as',ins,os,fz,h,hm,hz=>by
  simp only[ga]at h |-
  split at h
  ·split at h
   ·rename_i h1 h2;cases h
    rw[wK (ob:=ob) (ob':=ob') h1 fun m hh=>hz m (ao _ hh),ou mu asq h2 hm fun m hh=>hz m (ak _ hh)]
   ·cases h
  ·rename_i m hl
   split at h
   ·rename_i h1
    split at h
    ·rename_i h2;cases h
     rw[zz h1 fun m hh=>hm m (ao _ hh)]
     simp only
     rw[ou mu asq h2 (fun m hh=>hm m (ak _ hh)) hz]
    ·cases h
   ·cases h
  ·split at h
   ·rename_i h1 h2;cases h
    rw[kk (ob:=ob) (ob':=ob') dG _ _ _ h1 fun m hh=>hz m (ao _ hh),ou mu asq h2 hm fun m hh=>hz m (ak _ hh)]
   ·cases h
theorem oe(mu:List (Nat×PK))(os0:List Nat)(ins0:List Ob):∀(asq:List AV) {i j:Nat} {as':List AV} {ins:List Ob} {os fz:List Nat},ga ob mu asq i j=some (as',ins,os,fz)->(∀m,m∈fz->ob' m=ob m)->kb ob' mu os0 ins0 asq i=kb ob mu os0 ins0 asq i
 |[],i,j,as',ins,os,fz,h,hz=>rfl
 |
  c::asq,i,j,as',ins,os,fz,h,hz=>by
  simp only[ga]at h
  split at h
  ·rename_i f js hl
   split at h
   ·rename_i h1 h2;cases h
    simp only[kb,hl]
    rw[wK (ob:=ob) (ob':=ob') h1 fun m hh=>hz m (ao _ hh),h1,oe mu os0 ins0 asq h2 fun m hh=>hz m (ak _ hh)]
   ·cases h
  ·rename_i m hne hl
   split at h
   ·split at h
    ·rename_i h2;cases h
     simp only[kb,hl]
     rw[oe mu os0 ins0 asq h2 hz]
     cases m<;>first|rfl|exact absurd rfl (hne _ _)
    ·cases h
   ·cases h
  ·rename_i hl
   split at h
   ·rename_i h1 h2;cases h
    simp only[kb,hl]
    rw[oe mu os0 ins0 asq h2 fun m hh=>hz m (ak _ hh)]
   ·cases h
theorem ui{o:Oper}{f:Nat}{asq:List AV}(hne:eY T cfg e ob o f asq≠.no)(hm:∀m,m∈vN (eY T cfg e ob o f asq)->ob' m=ob m):eY T cfg e' ob' o f asq=eY T cfg e ob o f asq:=by
 unfold eY at hne hm |-
 simp only at hne hm |-
 generalize cfg (keyOf f asq)=c at hne hm |-
 split at hne
 ·rename_i as' ins os fz h
  rw[h]at hm
  cases hq:(nodup os&&(!(os.any (e9 fz))&&(di (cS c.mu) ins&&(kb ob c.mu os ins asq 0&&pq (cS c.mu) os ins))))with
  |false=>rw[hq]at hne;exact absurd rfl hne
  |
   true =>
   simp only[hq,cond_true,vN]at hm
   have hz:∀m,m∈fz->ob' m=ob m:=fun m hh=>hm m (ao _ hh)
   have ho:∀m,m∈os->ob' m=ob m:=fun m hh=>hm m (ak _ (ao _ hh))
   rw[ou c.mu asq h ho hz]
   simp only[oe c.mu os ins asq h hz,hq,cond_true,tD hz]
 ·exact absurd rfl hne
theorem gH:∀(ms:List MK) (os:List Nat) (obs obs':List Ob) (j nm:Nat),(cM ms os obs j nm).2.1.map (·.1)=(cM ms os obs' j nm).2.1.map (·.1)/\(cM ms os obs j nm).2.2.2=(cM ms os obs' j nm).2.2.2
 |[],os,obs,obs',j,nm=>⟨rfl,rfl⟩
 | .vec::ms,os,obs,obs',j,nm=>gH ms os.tail obs.tail obs'.tail (j+1) nm
 | .si kz::ms,os,obs,obs',j,nm=>gH ms os.tail obs.tail obs'.tail (j+1) nm
 |
  .cb g ks::ms,os,obs,obs',j,nm=>by
  obtain⟨h1,h2⟩:=gH ms os.tail obs.tail obs'.tail (j+1) nm
  exact⟨by simp only[cM,aS,h1],h2⟩
 |
  .obj ks::ms,os,obs,obs',j,nm=>by
  obtain⟨a1,a2⟩:=cW ks (obs.headD .dead).cs 0 obs.tail nm
  obtain⟨b1,b2⟩:=cW ks (obs'.headD .dead).cs 0 obs'.tail nm
  simp only[cM,bJ,aS,a1,b1,a2,b2]
  obtain⟨h1,h2⟩:=gH ms (os.drop (bb ks+1)) (bf ks (obs.headD .dead).cs 0 obs.tail nm).2.2.1 (bf ks (obs'.headD .dead).cs 0 obs'.tail nm).2.2.1 (j+1+bb ks) (nm+bb ks)
  exact⟨by rw[h1],h2⟩
theorem j7{own:List Nat}{oa:List CK}:∀(ts:List Nat) (r r':AV) (i j:Nat) (obs obs':List Ob) (nm:Nat),(dA T own oa r ts i j obs nm).2.2.map (·.1)=(dA T own oa r' ts i j obs' nm).2.2.map (·.1)
 |[],r,r',i,j,obs,obs',nm=>rfl
 |
  t::ts,r,r',i,j,obs,obs',nm=>by
  simp only[dA]
  cases own.any (az i)with
  |
   true =>
   cases (T t).agg with
   |
    true =>
    simp only[cond_true,bJ]
    rw[(cW _ _ _ _ _).1,(cW _ _ _ _ _).1,(cW _ _ _ _ _).2,(cW _ _ _ _ _).2,j7 ts r r' (i+1) (j+bb oa) _ (bf oa (r'.comp i).cs 0 obs' nm).2.2.1 (nm+bb oa)]
   |false=>simp only[cond_true,cond_false,aS];rw[j7 ts r r' (i+1) (j+1) obs.tail obs'.tail (nm+1)]
  |false=>simp only[cond_false];exact j7 ts r r' (i+1) j obs obs' nm
theorem tO{own:List Nat}{ow:List LK}{oa:List CK}(t:Nat)(r r':AV)(j:Nat)(obs obs':List Ob)(nm:Nat):(da T own ow oa t r j obs nm).2.2.map (·.1)=(da T own ow oa t r' j obs' nm).2.2.map (·.1):=by
 unfold da
 split
 ·rfl
 ·exact j7 _ _ _ _ _ _ _ _
 ·cases own.any (az 0)<;>rfl
 ·cases own.any (az 0)with
  |false=>rfl
  |
   true=>cases (T t).agg with
   |true=>simp only[cond_true];rw[(cW _ _ _ _ _).1,(cW _ _ _ _ _).1]
   |false=>rfl
theorem Ay(o:Oper)(hne:iI T cfg e ob o≠.no)(he:∀x,x∈o.op.operands->e x=e' x)(hr:∀m,m∈zl (iI T cfg e ob o)->ob' m=ob m)(hw:∀m,m∈vN (iI T cfg e ob o)->ob' m=ob m) :
 iI T cfg e' ob' o=iI T cfg e ob o:=by
 have plain:(∀e ob,iI T cfg e ob o=match db T e ob o with| .ok p d=>.d (some p) d| .yes d=>.d none d| .no=>.no)->iI T cfg e' ob' o=iI T cfg e ob o:=by
  intro h
  rw[h e ob]at hne hr hw |-
  rw[h e' ob',<-GD (ob:=ob') o he]
  have:=GC (T:=T) (e:=e) (ob:=ob) (ob':=ob') o
  cases hq:db T e ob o with
  |no=>rw[hq]at hne;exact absurd rfl hne
  |
   yes d =>
   rw[hq]at this hr hw
   rcases this with h|h
   ·cases h
   ·rw[h fun m hm=>by
     rcases aC.1 hm with hm|hm
     ·exact hr m hm
     ·exact hw m hm]
  |
   ok p d =>
   rw[hq]at this hr hw
   rcases this with h|h
   ·cases h
   ·rw[h fun m hm=>by
     rcases aC.1 hm with hm|hm
     ·exact hr m hm
     ·exact hw m hm]
 cases ho:o.op with
 |
  call c =>
  obtain⟨callee,xs,ts⟩:=c
  cases callee with
  |
   value x =>
   have hE:∀e ob,iI T cfg e ob o=(match e x with
    | .v (.func (.func f) fi cap)=>bif az fi.size 0&&az cap.size 0 then eY T cfg e ob o f (xs.toList.map e)else .no
    | .fn f cap=>eY T cfg e ob o f (xs.toList.map e++cap)
    |_=>.no):=fun e ob=>by unfold iI;rw[ho];try rfl
   have hx:e x=e' x:=he x (by rw[ho];simp[Op.operands,Call.operands])
   have hxs:xs.toList.map e=xs.toList.map e':=th fun y hy=>he y (by rw[ho];simp only[Op.operands,Call.operands];exact Array.mem_append.2 (.inr (by simpa using hy)))
   rw[hE e ob]at hne hw |-
   rw[hE e' ob',<-hx,<-hxs]
   split at hne
   ·rename_i f fi cap h
    simp only[h]at hw |-
    cases hq:(az fi.size 0&&az cap.size 0)with
    |false=>rw[hq]at hne;exact absurd rfl hne
    |
     true =>
     rw[hq]at hne hw
     exact ui (e:=e) (e':=e') hne hw
   ·rename_i f cap h
    simp only[h]at hw |-
    exact ui (e:=e) (e':=e') hne hw
   ·exact absurd rfl hne
  |builtin b=>exact plain fun e ob=>by unfold iI;rw[ho];try rfl
  |invoke r nm=>exact plain fun e ob=>by unfold iI;rw[ho];try rfl
 |_=>exact plain fun e ob=>by unfold iI;rw[ho];try rfl
theorem eM:∀(l:List (Nat×Option Ob)) (f:Nat->Option Ob) (o:Nat),o∉l.map (·.1)->bX f l o=f o
 |[],f,o,_=>rfl
 |
  (q,c)::l,f,o,h=>by
  show bX (bP f q c) l o=f o
  rw[eM l _ o fun hh=>h (af _ hh),aJ _ _ _ _ fun e=>h (by subst e;exact ae)]
theorem qN:∀(l:List (Nat×Option Ob)) (f g:Nat->Option Ob) (o:Nat),o∈l.map (·.1)->bX f l o=bX g l o
 |[],f,g,o,h=>by cases h
 |
  (q,c)::l,f,g,o,h=>by
  show bX (bP f q c) l o=bX (bP g q c) l o
  by_cases hl:o∈l.map (·.1)
  ·exact qN l _ _ o hl
  ·rw[eM l _ o hl,eM l _ o hl]
   have:o=q:=by rcases aB.1 h with h|h;exact h;exact absurd h hl
   subst this;rw[aD,aD]
theorem wA{l r:List (Nat×Option Ob)}(h:∀o,o∈l.map (·.1)->o∉r.map (·.1))(f:Nat->Option Ob):bX (bX f l) r=bX (bX f r) l:=by
 funext o
 by_cases hl:o∈l.map (·.1)
 ·rw[eM r _ o (h o hl)]
  exact qN l _ _ o hl
 ·by_cases hr:o∈r.map (·.1)
  ·rw[eM l _ o hl]
   exact qN r _ _ o hr
  ·rw[eM r _ o hr,eM l _ o hl,eM l _ o hl,eM r _ o hr]
theorem jr:∀(l:List Nat) (f:Nat->Bool) (o:Nat),dX f l o=(f o||l.any (az o))
 |[],f,o=>by simp[dX]
 |
  q::l,f,o=>by
  rw[dX,jr l]
  simp only[bP,List.any_cons]
  cases az o q<;>simp
theorem wD(l r:List Nat)(f:Nat->Bool):dX (dX f l) r=dX (dX f r) l:=by
 funext o
 rw[jr,jr,jr,jr]
 cases f o<;>cases l.any (az o)<;>cases r.any (az o)<;>rfl
theorem i7(s:St)(dst:Option Nat)(d:De):s.app dst d = {tm:=lg s.tm dst d.val,ob:=bX s.ob d.bP,us:=dX s.us d.new}:=by
 unfold St.app;cases dst<;>rfl
end
end Go.VL
namespace Go.VL
open Go Go.RowKit
section
variable {P:Program} {T:dL} {cfg:Nat->FC} {n:Nat} {all:List Oper}
def nb:AV->AV| .b b=>.v (.bool b)|a=>a
def dh(all:List Oper)(o:Oper)(s:St):St :=
 match cw o all with
 |[t]=>(match s.tm t with| .b b=>s.set t (.v (.bool b))|_=>s)
 |_=>s
def qk:De:={val:=.v (.tuple #[])}
def gE(T:dL)(cfg:Nat->FC)(all:List Oper)(o:Oper)(s:St):wJ :=
 match o.guard with
 |none=>iI T cfg (ev s) s.ob o
 |
  some (g,want)=>match (all[g]?).map (·.dst)with
  |
   some (some t)=>match nb (s.tm t)with
   | .v (.bool b)=>bif b==want then iI T cfg (ev (dh all o s)) s.ob o else .d none qk
   | .v (.tuple _)=>.d none qk
   |_=>.no
  |_=>.no
def kU(P:Program)(E:wJ)(X:De->Prop):Prop :=
 match E with
 | .no=>False
 | .d p d=>(∀q,p=some q->q)/\X d
 | .c f asq ins _ k=>∃R,ay P f asq ins R/\(∃r obs,R r obs)/\∀r obs,R r obs->fo (k r obs).1/\X (k r obs).2
def nL:wJ->Bool| .c ..=>true|_=>false
theorem fw{E:wJ}{X Y:De->Prop}(h:kU P E X)(hxy:∀d,X d->Y d):kU P E Y:=by
 cases E with
 |no=>exact h
 |d p d=>exact⟨h.1,hxy d h.2⟩
 |
  c f asq ins wr k =>
  obtain⟨R,h1,h2,h3⟩:=h
  exact⟨R,h1,h2,fun r obs hr=>⟨(h3 r obs hr).1,hxy _ (h3 r obs hr).2⟩⟩
theorem ju{E:wJ}{X:De->Prop}(h:kU P E X):E≠.no/\∃d,X d:=by
 cases E with
 |no=>exact h.elim
 |d p d=>exact⟨by simp,d,h.2⟩
 |
  c f asq ins wr k =>
  obtain⟨R,h1,⟨r,obs,hr⟩,h3⟩:=h
  exact⟨by simp,_,(h3 r obs hr).2⟩
theorem vR{E F:wJ}{X:De->De->Prop}(hn:(nL E&&nL F)=false)(h:kU P E fun d=>kU P F fun d'=>X d d'):kU P F fun d'=>kU P E fun d=>X d d':=by
 cases E with
 |no=>exact h.elim
 |d p d=>exact fw h.2 fun d' hx=>⟨h.1,hx⟩
 |
  c f asq ins wr k =>
  cases F with
  |no=>obtain⟨R,h1,⟨r,obs,hr⟩,h3⟩:=h;exact(h3 r obs hr).2.elim
  |
   d p d =>
   obtain⟨R,h1,⟨r,obs,hr⟩,h3⟩:=h
   exact⟨(h3 r obs hr).2.1,R,h1,⟨r,obs,hr⟩,fun r obs hr=>⟨(h3 r obs hr).1,(h3 r obs hr).2.2⟩⟩
  |c f' as' ins' wr' k'=>cases hn
theorem vx{o:Oper}{s:St}(h:nL (gE T cfg all o s)=true):fQ o=true:=by
 have key:∀e ob,nL (iI T cfg e ob o)=true->fQ o=true:=by
  intro e ob h
  cases ho:o.op with
  |
   call c =>
   obtain⟨callee,xs,ts⟩:=c
   cases callee with
   |value x=>simp[fQ,ho]
   |
    builtin b =>
    have:iI T cfg e ob o=match db T e ob o with| .ok p d=>.d (some p) d| .yes d=>.d none d| .no=>.no:=by unfold iI;rw[ho];try rfl
    rw[this]at h
    split at h<;>cases h
   |
    invoke r nm =>
    have:iI T cfg e ob o=match db T e ob o with| .ok p d=>.d (some p) d| .yes d=>.d none d| .no=>.no:=by unfold iI;rw[ho];try rfl
    rw[this]at h
    split at h<;>cases h
  |
   _ =>
   have:iI T cfg e ob o=match db T e ob o with| .ok p d=>.d (some p) d| .yes d=>.d none d| .no=>.no:=by unfold iI;rw[ho];try rfl
   rw[this]at h
   split at h<;>cases h
 unfold gE at h
 split at h
 ·exact key _ _ h
 ·split at h
  ·split at h
   ·rename_i b _
    cases hq:(b==_)with
    |true=>rw[hq]at h;exact key _ _ h
    |false=>rw[hq]at h;cases h
   ·cases h
   ·cases h
  ·cases h
theorem nM{o:Oper}{g:Nat}{want:Bool}{t:Nat}(h1:o.guard=some (g,want))(h2:(all[g]?).map (·.dst)=some (some t)):cw o all=[t]:=by
 unfold cw;rw[h1];simp only[h2]
theorem mJ{o:Oper}{t:Nat}(h:cw o all=[t])(s:St):dh all o s=match s.tm t with| .b b=>s.set t (.v (.bool b))|_=>s:=by
 unfold dh;rw[h]
theorem eU(o:Oper)(s:St):(dh all o s).ob=s.ob/\(dh all o s).us=s.us:=by
 unfold dh
 split
 ·split<;>exact⟨rfl,rfl⟩
 ·exact⟨rfl,rfl⟩
theorem j2(o:Oper)(s:St)(x:Nat):(dh all o s).tm x=if x∈cw o all then nb (s.tm x)else s.tm x:=by
 by_cases hg:∃t,cw o all=[t]
 ·obtain⟨t,hg⟩:=hg
  rw[mJ hg,hg]
  cases hs:s.tm t with
  |
   b b =>
   simp only[St.set]
   by_cases e:x=t
   ·subst e;rw[aD,if_pos (by simp),hs];rfl
   ·rw[aJ _ _ _ _ e,if_neg (by simpa using e)]
  |
   _ =>
   simp only
   by_cases e:x=t
   ·subst e;rw[if_pos (by simp),hs];rfl
   ·rw[if_neg (by simpa using e)]
 ·have:cw o all=[]:=by
   unfold cw at hg |-
   split at hg
   ·rename_i g want h
    split at hg
    ·exact absurd ⟨_,rfl⟩ hg
    ·rfl
   ·rfl
  have e1:dh all o s=s:=by unfold dh;rw[this]
  rw[e1,this,if_neg (by simp)]
theorem AR(a:AV):nb (nb a)=nb a:=by cases a<;>rfl
theorem pE{o:Oper}{t:Nat}(h:Operand.tmp t∈o.op.operands):t∈iG o:=by
 unfold iG
 exact List.mem_filterMap.2 ⟨.tmp t,by simpa using h,rfl⟩
theorem Ax{s s1:St}{x:Operand}(h:∀t,x=.tmp t->s.tm t=s1.tm t):ev s x=ev s1 x:=by
 cases x with
 |tmp t=>exact h t rfl
 |_=>rfl
theorem DV{o:Oper}{s s1:St}(hne:gE T cfg all o s1≠.no)(ht:∀t,t∈iG o->s.tm t=s1.tm t)(hg:∀t,t∈cw o all->nb (s.tm t)=nb (s1.tm t))
 (hr:∀m,m∈zl (gE T cfg all o s1)->s.ob m=s1.ob m) (hw:∀m,m∈vN (gE T cfg all o s1)->s.ob m=s1.ob m):gE T cfg all o s=gE T cfg all o s1:=by
 unfold gE at hne hr hw |-
 cases hgd:o.guard with
 |
  none =>
  rw[hgd]at hne hr hw
  exact Ay o hne (fun x hx=>Ax fun t e=>by subst e;exact(ht t (pE hx)).symm) hr hw
 |
  some gw =>
  obtain⟨g,want⟩:=gw
  rw[hgd]at hne hr hw
  simp only at hne hr hw |-
  split at hne
  ·rename_i t hd
   have hgt:=nM hgd hd
   simp only[hd]at hr hw |-
   have e1:nb (s.tm t)=nb (s1.tm t):=hg t (by rw[hgt];simp)
   rw[e1]
   split at hne
   ·rename_i b hb
    simp only[hb]at hr hw |-
    cases hq:(b==want)with
    |false=>rfl
    |
     true =>
     rw[hq]at hne hr hw
     simp only[cond_true]at hne hr hw |-
     refine Ay o hne (fun x hx=>Ax fun t' e=>?_) hr hw
     subst e
     have:=ht t' (pE hx)
     rw[j2,j2,this]
   ·rename_i vs hb
    simp only[hb]
   ·exact absurd rfl hne
  ·exact absurd rfl hne
end
end Go.VL
namespace Go.VL
open Go Go.RowKit
section
variable {P:Program} {T:dL} {cfg:Nat->FC} {n:Nat} {all:List Oper}
structure ka(all:List Oper)(p o:Oper)(rq wq rd wr:List Nat):Prop where
 nc:(fQ p&&fQ o)=false
 d1:∀x,x∈fP p->x∉iG o
 d2:∀x,x∈fP p->x∉cw o all
 d3:∀x,x∈fP p->x∉fP o
 d4:∀x,x∈fP o->x∉iG p
 d5:∀x,x∈fP o->x∉cw p all
 d6:∀x,x∈cw p all->x∉iG o
 d7:∀x,x∈cw o all->x∉iG p
 w1:∀x,x∈wr->x∉wq
 w2:∀x,x∈wr->x∉rq
 w3:∀x,x∈rd->x∉wq
theorem gD{a b:List Nat}(h:n6 a b=true):∀x,x∈a->x∉b:=by
 intro x hx hb
 simp only[n6,bx,List.any_eq_false]at h
 refine h x hx ?_
 simp only[e9,bB]
 exact⟨x,hb,dx x⟩
theorem yH{p o:Oper}{rq wq rd wr:List Nat}(h:tP all p o rq wq rd wr=true):ka all p o rq wq rd wr:=by
 simp only[tP,yr,ai]at h
 obtain⟨h0,⟨h1,h2,h3,h4,h5,h6,h7⟩,h8,h9,h10⟩:=h
 exact⟨by cases q1:fQ p<;>cases q2:fQ o<;>simp_all,gD h1,gD h2,gD h3,gD h4,gD h5,gD h6,gD h7,gD h8,gD h9,gD h10⟩
theorem ka.symm{p o:Oper}{rq wq rd wr:List Nat}(h:ka all p o rq wq rd wr):ka all o p rd wr rq wq :=
 ⟨by rw[Bool.and_comm];exact h.nc,h.d4,h.d5,fun x h1 h2=>h.d3 x h2 h1,h.d1,h.d2,h.d7,h.d6,fun x h1 h2=>h.w1 x h2 h1,fun x h1 h2=>h.w3 x h2 h1,fun x h1 h2=>h.w2 x h2 h1⟩
theorem gB{tm:Nat->AV}{o:Oper}{v:AV}{x:Nat}(h:x∉fP o):lg tm o.dst v x=tm x:=by
 unfold fP at h
 cases hd:o.dst with
 |none=>rfl
 |some d=>rw[hd]at h;exact aJ _ _ _ _ (by simpa using h)
theorem vr{p o:Oper}{s:St}{d:De}{rq wq:List Nat}(ha:ka all p o rq wq (zl (gE T cfg all o ((dh all p s).app p.dst d))) (vN (gE T cfg all o ((dh all p s).app p.dst d))))(hwd:∀m,m∈ku d->m∈wq)
 (hne:gE T cfg all o ((dh all p s).app p.dst d)≠.no):gE T cfg all o s=gE T cfg all o ((dh all p s).app p.dst d):=by
 have ob:∀m,m∉wq->s.ob m=((dh all p s).app p.dst d).ob m:=fun m hm=>by
  rw[i7]
  show s.ob m=bX (dh all p s).ob d.bP m
  rw[eM _ _ _ fun h=>hm (hwd m h),(eU p s).1]
 refine DV hne (fun t ht=>?_) (fun t ht=>?_) (fun m hm=>ob m (ha.w3 m hm)) fun m hm=>ob m (ha.w1 m hm)
 ·rw[i7]
  show s.tm t=lg (dh all p s).tm p.dst d.val t
  rw[gB fun h=>ha.d1 t h ht,j2,if_neg fun h=>ha.d6 t h ht]
 ·rw[i7]
  show nb (s.tm t)=nb (lg (dh all p s).tm p.dst d.val t)
  rw[gB fun h=>ha.d2 t h ht,j2]
  split
  ·rw[AR]
  ·rfl
theorem uH{p o:Oper}{s:St}{d:De}{rq wq:List Nat}(ha:ka all p o rq wq (zl (gE T cfg all o s)) (vN (gE T cfg all o s)))(hwd:∀m,m∈ku d->m∈wq)
 (hne:gE T cfg all o s≠.no):gE T cfg all o ((dh all p s).app p.dst d)=gE T cfg all o s:=by
 have ob:∀m,m∉wq->((dh all p s).app p.dst d).ob m=s.ob m:=fun m hm=>by
  rw[i7]
  show bX (dh all p s).ob d.bP m=s.ob m
  rw[eM _ _ _ fun h=>hm (hwd m h),(eU p s).1]
 refine DV hne (fun t ht=>?_) (fun t ht=>?_) (fun m hm=>ob m (ha.w3 m hm)) fun m hm=>ob m (ha.w1 m hm)
 ·rw[i7]
  show lg (dh all p s).tm p.dst d.val t=s.tm t
  rw[gB fun h=>ha.d1 t h ht,j2,if_neg fun h=>ha.d6 t h ht]
 ·rw[i7]
  show nb (lg (dh all p s).tm p.dst d.val t)=nb (s.tm t)
  rw[gB fun h=>ha.d2 t h ht,j2]
  split
  ·rw[AR]
  ·rfl
theorem yB{p o:Oper}{s:St}{d d':De}{rq wq rd wr:List Nat}(ha:ka all p o rq wq rd wr)(h1:∀m,m∈ku d->m∈wq)(h2:∀m,m∈ku d'->m∈wr) :
 (dh all p ((dh all o s).app o.dst d')).app p.dst d=(dh all o ((dh all p s).app p.dst d)).app o.dst d':=by
 have tmE:∀(q:Oper) (s:St) (e:De),(((dh all q s).app q.dst e).tm=lg (fun x=>if x∈cw q all then nb (s.tm x)else s.tm x) q.dst e.val):=fun q s e=>by
  rw[i7]
  show lg (dh all q s).tm q.dst e.val=_
  congr 1
  funext x;exact j2 q s x
 have obE:∀(q:Oper) (s:St) (e:De),((dh all q s).app q.dst e).ob=bX s.ob e.bP:=fun q s e=>by rw[i7];show bX (dh all q s).ob e.bP=_;rw[(eU q s).1]
 have AU:∀(q:Oper) (s:St) (e:De),((dh all q s).app q.dst e).us=dX s.us e.new:=fun q s e=>by rw[i7];show dX (dh all q s).us e.new=_;rw[(eU q s).2]
 have ext:∀(a b:St),a.tm=b.tm->a.ob=b.ob->a.us=b.us->a=b:=fun a b h1 h2 h3=>by cases a;cases b;simp_all
 refine ext _ _ ?_ ?_ ?_
 ·funext x
  have eL:=congrFun (tmE p ((dh all o s).app o.dst d') d) x
  have eR:=congrFun (tmE o ((dh all p s).app p.dst d) d') x
  have eO:=congrFun (tmE o s d') x
  have eP:=congrFun (tmE p s d) x
  have at1:∀(q:Oper) (tm:Nat->AV) (v:AV),x∈fP q->lg tm q.dst v x=v:=fun q tm v h=>by
   unfold fP at h
   cases hd:q.dst with
   |none=>rw[hd]at h;cases h
   |
    some y =>
    rw[hd]at h
    have:x=y:=by simpa using h
    subst this;exact aD _ _ _
  rw[eL,eR]
  by_cases hp:x∈fP p
  ·have ho:x∉fP o:=ha.d3 x hp
   have hg:x∉cw o all:=ha.d2 x hp
   rw[at1 p _ _ hp,gB ho,if_neg hg,eP,at1 p _ _ hp]
  ·by_cases ho:x∈fP o
   ·have hg:x∉cw p all:=ha.d5 x ho
    rw[at1 o _ _ ho,gB hp,if_neg hg,eO,at1 o _ _ ho]
   ·rw[gB hp,gB ho,eO,eP,gB ho,gB hp]
    by_cases g1:x∈cw p all<;>by_cases g2:x∈cw o all<;>simp[g1,g2]
 ·rw[obE,obE,obE,obE]
  exact wA (fun m hm hm'=>ha.w1 m (h2 m hm) (h1 m hm')) _
 ·rw[AU,AU,AU,AU]
  exact wD _ _ _
end
end Go.VL
namespace Go.VL
open Go Go.RowKit
section
variable {P:Program} {T:dL} {cfg:Nat->FC} {n:Nat} {all:List Oper}
theorem AZ{e:Operand->AV}{ob:Nat->Option Ob}{o:Oper}{f:Nat}{asq:List AV}{ins:List Ob}{wr:List Nat}{k:AV->List Ob->List Prop×De}(h:iI T cfg e ob o=.c f asq ins wr k):∃g l,eY T cfg e ob o g l=.c f asq ins wr k:=by
 have no:(∀e ob,iI T cfg e ob o=match db T e ob o with| .ok p d=>.d (some p) d| .yes d=>.d none d| .no=>.no)->∃g l,eY T cfg e ob o g l=.c f asq ins wr k:=fun hh=>by
  rw[hh]at h;split at h<;>cases h
 cases ho:o.op with
 |
  call c =>
  obtain⟨callee,xs,ts⟩:=c
  cases callee with
  |
   value x =>
   have hE:iI T cfg e ob o=(match e x with
    | .v (.func (.func f) fi cap)=>bif az fi.size 0&&az cap.size 0 then eY T cfg e ob o f (xs.toList.map e)else .no
    | .fn f cap=>eY T cfg e ob o f (xs.toList.map e++cap)
    |_=>.no):=by unfold iI;rw[ho];try rfl
   rw[hE]at h
   split at h
   ·rename_i f' fi cap _
    cases hq:(az fi.size 0&&az cap.size 0)with
    |false=>rw[hq]at h;cases h
    |true=>rw[hq]at h;exact⟨_,_,h⟩
   ·exact⟨_,_,h⟩
   ·cases h
  |builtin b=>exact no fun e ob=>by unfold iI;rw[ho];try rfl
  |invoke r nm=>exact no fun e ob=>by unfold iI;rw[ho];try rfl
 |_=>exact no fun e ob=>by unfold iI;rw[ho];try rfl
theorem Il{o:Oper}{s:St}{f:Nat}{asq:List AV}{ins:List Ob}{wr:List Nat}{k:AV->List Ob->List Prop×De}(h:gE T cfg all o s=.c f asq ins wr k):∃e g l,eY T cfg e s.ob o g l=.c f asq ins wr k:=by
 unfold gE at h
 split at h
 ·obtain⟨g,l,h⟩:=AZ h;exact⟨_,g,l,h⟩
 ·split at h
  ·split at h
   ·rename_i b _
    cases hq:(b==_)with
    |true=>rw[hq]at h;obtain⟨g,l,h⟩:=AZ h;exact⟨_,g,l,h⟩
    |false=>rw[hq]at h;cases h
   ·cases h
   ·cases h
  ·cases h
theorem oz{o:Oper}{s:St}{X:De->Prop}(h:kU P (gE T cfg all o s) X):kU P (gE T cfg all o s) fun d=>X d/\∀m,m∈ku d->m∈vN (gE T cfg all o s):=by
 cases hE:gE T cfg all o s with
 |no=>rw[hE]at h;exact h
 |d p d=>rw[hE]at h;exact⟨h.1,h.2,fun m hm=>hm⟩
 |
  c f asq ins wr k =>
  rw[hE]at h
  obtain⟨e,g,l,hq⟩:=Il hE
  unfold eY at hq
  simp only at hq
  generalize cfg (keyOf g l)=c at hq
  split at hq
  ·rename_i as' ins' os fz hga
   cases hgd:(nodup os&&(!(os.any (e9 fz))&&(di (cS c.mu) ins'&&(kb s.ob c.mu os ins' l 0&&pq (cS c.mu) os ins'))))with
   |false=>rw[hgd]at hq;cases hq
   |
    true =>
    rw[hgd]at hq
    simp only[cond_true,wJ.c.injEq]at hq
    obtain⟨rfl,rfl,rfl,rfl,rfl⟩:=hq
    obtain⟨R,h1,h2,h3⟩:=h
    refine⟨R,h1,h2,fun r obs hr=>⟨(h3 r obs hr).1,(h3 r obs hr).2,fun m hm=>?_⟩⟩
    have e0:(nS os).map (·.1)=os:=by unfold nS;rw[List.map_map];exact List.map_id' os
    obtain⟨n1,n2⟩:=gH (cS c.mu) os obs [] 0 (newName o.dst)
    have hsub:∀m,m∈(bif sE T c.own c.oa ins' o.type then []else eF s.ob fz).map (·.1)->m∈fz:=fun m hm=>by
     cases hl:sE T c.own c.oa ins' o.type with
     |true=>rw[hl]at hm;cases hm
     |false=>rw[hl]at hm;simpa only[cond_false,qP]using hm
    simp only[ku,bJ,e0,n1]at hm
    have hm:m∈fz++(os++(List.map (·.1) (cM (cS c.mu) os [] 0 (newName o.dst)).2.1++List.map (·.1) (da T c.own c.ow c.oa o.type r ins'.length (cM (cS c.mu) os obs 0 (newName o.dst)).2.2.1 (cM (cS c.mu) os obs 0 (newName o.dst)).2.2.2).2.2)):=by
     rcases aC.1 hm with hm|hm
     ·exact ao _ (hsub m hm)
     ·exact ak _ hm
    rw[n2,tO (T:=T) (own:=c.own) o.type r .any ins'.length _ (cM (cS c.mu) os [] 0 (newName o.dst)).2.2.1]at hm
    simpa only[vN,bJ]using hm
  ·cases hq
structure It where
 i:Nat
 o:Oper
 rJ:List Nat
def Seq(P:Program)(T:dL)(cfg:Nat->FC)(n:Nat)(all:List Oper)(Ψ:St->Prop):List It->List (It×List Nat×List Nat)->St->Prop
 |[],_,s=>Ψ s
 |t::r,H,s=>kU P (gE T cfg all t.o s) fun d=>cU (dh all t.o s) n t.o.dst d=true/\(∀j,j∈cJ t.o->j<t.i) /\
  (∀h,h∈H->h.1.i∈t.rJ\/ka all h.1.o t.o h.2.1 h.2.2 (zl (gE T cfg all t.o s)) (vN (gE T cfg all t.o s))) /\
  Seq P T cfg n all Ψ r (H++[(t,zl (gE T cfg all t.o s),vN (gE T cfg all t.o s))]) ((dh all t.o s).app t.o.dst d)
theorem Seq.Ft{Ψ:St->Prop}:∀(l:List It) {H H':List (It×List Nat×List Nat)} {s:St},(∀h,h∈H'->h∈H)->Seq P T cfg n all Ψ l H s->Seq P T cfg n all Ψ l H' s
 |[],_,_,_,_,h=>h
 |t::r,H,H',s,hs,h=>fw h fun d ⟨h1,h2,h3,h4⟩=>⟨h1,h2,fun q hq=>h3 q (hs q hq),Seq.Ft r (fun q hq=>by
  rcases aC.1 hq with hq|hq
  ·exact ao _ (hs q hq)
  ·exact ak _ hq) h4⟩
theorem Seq.back{Ψ:St->Prop}{t:It}{L2:List It}:∀(L1:List It) {H:List (It×List Nat×List Nat)} {s:St},Seq P T cfg n all Ψ (L1++t::L2) H s->(∀x,x∈L1->x.i∉t.rJ) ->
 gE T cfg all t.o s≠.no/\(∀j,j∈cJ t.o->j<t.i)/\∀h,h∈H->h.1.i∈t.rJ\/ka all h.1.o t.o h.2.1 h.2.2 (zl (gE T cfg all t.o s)) (vN (gE T cfg all t.o s))
 |
  [],H,s,h,_=>by
  obtain⟨h1,d,h2,h3,h4,_⟩:=ju h
  exact⟨h1,h3,h4⟩
 |
  p::L1,H,s,h,hl=>by
  obtain⟨h1,d,⟨h2,h3,h4,h5⟩,h6⟩:=ju (oz h)
  obtain⟨q1,q2,q3⟩:=Seq.back L1 h5 fun x hx=>hl x (af _ hx)
  have ha:=(q3 _ (ak _ (aR.2 rfl))).resolve_left (hl p ae)
  have e:=vr ha h6 q1
  rw[e]
  exact⟨q1,q2,fun h hh=>q3 h (ao _ hh)⟩
theorem gp{s:St}{dst:Option Nat}{d:De}:cU s n dst d=true↔(∀o,o∈d.new->s.us o=false)/\nodup d.new=true/\(match dst with|some t=>bS t n|none=>true)=true:=by
 unfold cU
 simp only[ai,bg,bx,and_assoc]
 exact Iff.rfl
theorem tS(s:St)(dst:Option Nat)(d:De)(o:Nat):(s.app dst d).us o=(s.us o||d.new.any (az o)):=by
 rw[i7];exact jr _ _ _
theorem Af{l:List Nat}{o:Nat}(h:o∈l):l.any (az o)=true:=bB.2 ⟨o,h,dx o⟩
theorem Seq.pull{Ψ:St->Prop}{t:It}{L2:List It}:∀(L1:List It) {H:List (It×List Nat×List Nat)} {s:St},Seq P T cfg n all Ψ (L1++t::L2) H s->(∀x,x∈L1->x.i∉t.rJ) ->
 kU P (gE T cfg all t.o s) fun d=>cU (dh all t.o s) n t.o.dst d=true/\Seq P T cfg n all Ψ (L1++L2) H ((dh all t.o s).app t.o.dst d)
 |[],H,s,h,_=>fw h fun d ⟨h1,_,_,h4⟩=>⟨h1,Seq.Ft L2 (fun q hq=>ao _ hq) h4⟩
 |
  p::L1,H,s,h,hl=>by
  have hl':∀x,x∈L1->x.i∉t.rJ:=fun x hx=>hl x (af _ hx)
  have hb:=Seq.back (p::L1) h hl
  have ha:ka all p.o t.o (zl (gE T cfg all p.o s)) (vN (gE T cfg all p.o s)) (zl (gE T cfg all t.o s)) (vN (gE T cfg all t.o s)):=by
   obtain⟨h1,d,⟨h2,h3,h4,h5⟩,h6⟩:=ju (oz h)
   obtain⟨q1,q2,q3⟩:=Seq.back L1 h5 hl'
   have ha:=(q3 _ (ak _ (aR.2 rfl))).resolve_left (hl p ae)
   rw[vr ha h6 q1];exact ha
  have hpne:gE T cfg all p.o s≠.no:=(ju h).1
  have step:=fw (oz h) fun d ⟨⟨h2,h3,h4,h5⟩,h6⟩=>(show _/\_ from ⟨(⟨h2,h3,h4,h6⟩:_/\_/\_/\_),by
   have e:=uH ha h6 hb.1
   have q:=Seq.pull L1 h5 hl'
   rw[e]at q
   have q2:=oz (o:=t.o) (s:=s) q
   exact q2⟩)
  have inner:=fw step fun d ⟨hA,hB⟩=>fw hB fun d' hx=>(show _/\_ from ⟨hA,hx⟩)
  have hnc:(nL (gE T cfg all p.o s)&&nL (gE T cfg all t.o s))=false:=by
   cases q1:nL (gE T cfg all p.o s)with
   |false=>rfl
   |
    true =>
    cases q2:nL (gE T cfg all t.o s)with
    |false=>rfl
    |true=>have:=ha.nc;rw[vx q1,vx q2]at this;cases this
  refine fw (vR hnc inner) fun d' hx=>?_
  obtain⟨_,d0,⟨g1,g2,g3,g4⟩,⟨g5,g6⟩,g7⟩:=ju hx
  have n1:=gp.1 g1
  have n2:=gp.1 g5
  refine⟨gp.2 ⟨fun o ho=>?_,n2.2.1,n2.2.2⟩,?_⟩
  ·have:=n2.1 o ho
   rw[(eU t.o _).2,tS,(eU p.o s).2]at this
   rw[(eU t.o s).2]
   cases q:s.us o with
   |false=>rfl
   |true=>rw[q]at this;cases this
  ·have e:=uH ha.symm g7 hpne
   show kU P (gE T cfg all p.o _) _
   rw[e]
   refine fw hx fun d ⟨⟨k1,k2,k3,k4⟩,⟨k5,k6⟩,k7⟩=>⟨?_,k2,k3,?_⟩
   ·have m1:=gp.1 k1
    have m2:=gp.1 k5
    refine gp.2 ⟨fun o ho=>?_,m1.2.1,m1.2.2⟩
    have p1:=m1.1 o ho
    rw[(eU p.o s).2]at p1
    rw[(eU p.o _).2,tS,(eU t.o s).2,p1]
    cases q:d'.new.any (az o)with
    |false=>rfl
    |
     true =>
     obtain⟨y,hy,hy'⟩:=bB.1 q
     have:=au hy'
     subst this
     have:=m2.1 o hy
     rw[(eU t.o _).2,tS,Af ho]at this
     simp at this
   ·rw[yB ha k4 k7]
    exact k6
end
end Go.VL
namespace Go.VL
open Go Go.RowKit
section
variable {P:Program} {T:dL} {cfg:Nat->FC} {n:Nat} {A:iA} {a:Act} {w:World}
theorem u3(hT:cv P T)(hB:kf P A){o:Oper}{s:St}{Y:St->Prop}(g:fa n A s a w)(h:kU P (iI T cfg (ev s) s.ob o) fun d=>cU s n o.dst d=true/\Y (s.app o.dst d))
 {Kw:Act->World->Prop} {Qw:Exit->Act->World->Prop} (hK:∀s' a' w',fa n A s' a' w'->Y s'->Kw a' w'):o.wp P a w Kw Qw:=by
 obtain⟨M,β,g⟩:=g
 refine vf (cfg:=cfg) hT hB g o (K:=fun _ _ s'=>.ax (Y s') (.done 0 [] [])) (Φ:=fun _ _ _=>True) ?_ fun rd wr s' a' w' g' h'=>hK s' a' w' g' h'.1
 unfold tx
 cases hE:iI T cfg (ev s) s.ob o with
 |no=>rw[hE]at h;exact h
 |
  d p d =>
  rw[hE]at h
  obtain⟨h1,h2,h3⟩:=h
  simp only[h2,cond_true]
  cases p with
  |none=>exact⟨h3,trivial⟩
  |some q=>exact⟨h1 q rfl,h3,trivial⟩
 |
  c f asq ins wr k =>
  rw[hE]at h
  obtain⟨R,h1,h2,h3⟩:=h
  refine⟨R,h1,h2,fun r obs hr=>fF.2 ⟨(h3 r obs hr).1,?_⟩⟩
  rw[(h3 r obs hr).2.1]
  exact⟨(h3 r obs hr).2.2,trivial⟩
theorem qs{all:List Oper}{o:Oper}(h:o.guard=none)(s:St):dh all o s=s:=by
 unfold dh cw;rw[h]
theorem fa.res{all:List Oper}{o:Oper}{s:St}(g:fa n A s a w):fa n A (dh all o s) a w:=by
 unfold dh
 split
 ·split
  ·rename_i b e;exact(g.test e).1
  ·exact g
 ·exact g
theorem sd(s:St)(dst:Option Nat):s.app dst qk=HI s dst:=by
 cases dst<;>rfl
theorem BG{ops:Array Oper}(hT:cv P T)(hB:kf P A){o:Oper}{s:St}{Y:St->Prop}(g:fa n A s a w)(h:kU P (gE T cfg ops.toList o s) fun d=>cU (dh ops.toList o s) n o.dst d=true/\Y ((dh ops.toList o s).app o.dst d))
 {Kw:Act->World->Prop} {Qw:Exit->Act->World->Prop} (hK:∀s' a' w',fa n A s' a' w'->Y s'->Kw a' w'):if Region.wanted o (yielded ops a.tmps)then o.wp P a w Kw Qw else Kw (a.put o.dst undef) w:=by
 have skip:kU P (.d none qk) (fun d=>cU (dh ops.toList o s) n o.dst d=true/\Y ((dh ops.toList o s).app o.dst d))->Kw (a.put o.dst undef) w:=by
  intro⟨_,h1,h2⟩
  rw[sd]at h2
  exact hK _ _ _ (g.res.skip (eT h1)) h2
 unfold gE at h
 cases hg:o.guard with
 |
  none =>
  rw[hg]at h
  rw[if_pos (by simp[Region.wanted,hg])]
  rw[qs hg]at h
  exact u3 hT hB g h hK
 |
  some gw =>
  obtain⟨gi,want⟩:=gw
  rw[hg]at h
  simp only at h
  split at h
  ·rename_i t hdst
   split at h
   ·rename_i b hb
    have hv:a.tmps.getD t undef=.bool b:=by
     cases hs:s.tm t with
     |v x=>rw[hs]at hb;simp only[nb,AV.v.injEq]at hb;rw[hb]at hs;exact g.bool hs
     |b q=>rw[hs]at hb;simp only[nb,AV.v.injEq,Value.bool.injEq]at hb;rw[hb]at hs;exact(g.test hs).2
     |_=>rw[hs]at hb;cases hb
    have hw:Region.wanted o (yielded ops a.tmps)=(b==want):=by
     have:=mf (ops:=ops) hdst hv
     simp[Region.wanted,hg,this]
    rw[hw]
    cases hq:(b==want)with
    |
     true =>
     rw[hq]at h
     rw[if_pos rfl]
     simp only[cond_true]at h
     rw[<-(eU (all:=ops.toList) o s).1]at h
     exact u3 hT hB g.res h hK
    |
     false =>
     rw[hq]at h
     rw[if_neg (by simp)]
     exact skip h
   ·rename_i vs hb
    have hs:s.tm t=.v (.tuple vs):=by
     cases hs:s.tm t with
     |v x=>rw[hs]at hb;exact hb
     |b q=>rw[hs]at hb;cases hb
     |_=>rw[hs]at hb;cases hb
    have:=lq (ops:=ops) hdst (g.cQ hs)
    rw[if_neg (by simp[Region.wanted,hg,this])]
    exact skip h
   ·exact h.elim
  ·exact h.elim
def lC(o:Oper)(acc:List It):List Nat:=cJ o++(acc.filter fun t=>e9 (cJ o) t.i).flatMap (·.rJ)
def cZ:List Oper->List It->List It
 |[],_=>[]
 |o::r,acc=>⟨acc.length,o,lC o acc⟩::cZ r (acc++[⟨acc.length,o,lC o acc⟩])
def fY(h:It×List Nat×List Nat):HE:=⟨h.1.i,h.1.o,h.2.1,h.2.2,h.1.rJ⟩
theorem Bo(o:Oper):∀(H:List (It×List Nat×List Nat)),fU o (H.map fY)=lC o (H.map (·.1)):=by
 intro H
 unfold fU lC
 congr 1
 induction H with
 |nil=>rfl
 |
  cons h H ih =>
  simp only[aS,List.filter_cons]
  have e:e9 (cJ o) (fY h).i=e9 (cJ o) h.1.i:=rfl
  rw[e]
  cases e9 (cJ o) h.1.i with
  |true=>simp only[if_true,aV,ih];rfl
  |false=>simpa using ih
theorem rT{l:List Nat}{a:Nat}(h:e9 l a=true):a∈l:=by
 obtain⟨x,hx,e⟩:=bB.1 h
 rw[au e];exact hx
theorem zG{all:List Oper}{o:Oper}{rd wr:List Nat}{H:List (It×List Nat×List Nat)}{rJ:List Nat}(h:iq all o rd wr (H.map fY) rJ=true):∀q,q∈H->q.1.i∈rJ\/ka all q.1.o o q.2.1 q.2.2 rd wr:=by
 intro q hq
 have:=bg.1 h (fY q) (bp.2 ⟨q,hq,rfl⟩)
 rw[br]at this
 rcases this with h|h
 ·exact .inl (rT h)
 ·exact .inr (yH h)
theorem yg(ops:Array Oper){K:St->Tree}{Φ:Nat->List AV->List Ob->Prop}:∀(rest:List Oper) (H:List (It×List Nat×List Nat)) (s:St),dV P n (jg T cfg n true ops.toList rest (H.map fY) s K) Φ ->
 Seq P T cfg n ops.toList (fun s=>dV P n (K s) Φ) (cZ rest (H.map (·.1))) H s
 |[],H,s,h=>h
 |
  o::rest,H,s,h=>by
  have hlen:(H.map fY).length=H.length:=by simp
  have cont:∀(rd wr:List Nat) (s':St),dV P n (bif !true||((cJ o).all (fun j=>bS j (H.map fY).length)&&iq ops.toList o rd wr (H.map fY) (fU o (H.map fY)))then jg T cfg n true ops.toList rest (H.map fY++[⟨(H.map fY).length,o,rd,wr,fU o (H.map fY)⟩]) s' K else .fail) Φ ->
   (∀j,j∈cJ o->j<H.length)/\(∀q,q∈H->q.1.i∈lC o (H.map (·.1))\/ka ops.toList q.1.o o q.2.1 q.2.2 rd wr) /\
   Seq P T cfg n ops.toList (fun s=>dV P n (K s) Φ) (cZ rest (H.map (·.1)++[⟨H.length,o,lC o (H.map (·.1))⟩])) (H++[(⟨H.length,o,lC o (H.map (·.1))⟩,rd,wr)]) s':=by
   intro rd wr s' h
   cases hq:(!true||((cJ o).all (fun j=>bS j (H.map fY).length)&&iq ops.toList o rd wr (H.map fY) (fU o (H.map fY))))with
   |false=>rw[hq]at h;exact h.elim
   |
    true =>
    rw[hq]at h
    simp only[Bool.not_true,Bool.false_or,ai,bg]at hq
    rw[Bo]at hq h
    refine⟨fun j hj=>by have:=aF (hq.1 j hj);rw[hlen]at this;exact this,zG hq.2,?_⟩
    have:=yg ops rest (H++[(⟨H.length,o,lC o (H.map (·.1))⟩,rd,wr)]) s' (by
     rw[hlen]at h
     simpa[fY]using h)
    simpa using this
  have hl1:(H.map (·.1)).length=H.length:=by simp
  have eit:cZ (o::rest) (H.map (·.1))=⟨H.length,o,lC o (H.map (·.1))⟩::cZ rest (H.map (·.1)++[⟨H.length,o,lC o (H.map (·.1))⟩]):=by rw[cZ,hl1]
  rw[eit]
  have run:∀s1,s1=dh ops.toList o s->gE T cfg ops.toList o s=iI T cfg (ev s1) s1.ob o->dV P n (tx T cfg n o s1 fun rd wr s'=>bif !true||((cJ o).all (fun j=>bS j (H.map fY).length)&&iq ops.toList o rd wr (H.map fY) (fU o (H.map fY)))then jg T cfg n true ops.toList rest (H.map fY++[⟨(H.map fY).length,o,rd,wr,fU o (H.map fY)⟩]) s' K else .fail) Φ ->
   Seq P T cfg n ops.toList (fun s=>dV P n (K s) Φ) (⟨H.length,o,lC o (H.map (·.1))⟩::cZ rest (H.map (·.1)++[⟨H.length,o,lC o (H.map (·.1))⟩])) H s:=by
   intro s1 hs1 hgE h
   show kU P (gE T cfg ops.toList o s) _
   unfold tx at h
   simp only[hgE,<-hs1]
   cases hE:iI T cfg (ev s1) s1.ob o with
   |no=>rw[hE]at h;exact h
   |
    d p d =>
    rw[hE]at h
    cases hn:cU s1 n o.dst d with
    |false=>simp only[hn,cond_false]at h;exact h.elim
    |
     true =>
     simp only[hn,cond_true]at h
     cases p with
     |none=>obtain⟨c1,c2,c3⟩:=cont _ _ _ h;exact⟨fun q hq=>(by cases hq),hn,c1,c2,c3⟩
     |some q=>obtain⟨c1,c2,c3⟩:=cont _ _ _ h.2;exact⟨fun q' hq=>(by cases hq;exact h.1),hn,c1,c2,c3⟩
   |
    c f asq ins wr k =>
    rw[hE]at h
    obtain⟨R,h1,h2,h3⟩:=h
    refine⟨R,h1,h2,fun r obs hr=>?_⟩
    obtain⟨h4,h5⟩:=fF.1 (h3 r obs hr)
    cases hn:cU s1 n o.dst (k r obs).2 with
    |false=>simp only[hn,cond_false]at h5;exact h5.elim
    |
     true =>
     simp only[hn,cond_true]at h5
     obtain⟨c1,c2,c3⟩:=cont _ _ _ h5
     exact⟨h4,hn,c1,c2,c3⟩
  have skip:∀s1,s1=dh ops.toList o s->gE T cfg ops.toList o s=.d none qk->dV P n (bif (match o.dst with|some t=>bS t n|none=>true)&&(!true||((cJ o).all (fun j=>bS j (H.map fY).length)&&iq ops.toList o [] [] (H.map fY) (fU o (H.map fY))))then jg T cfg n true ops.toList rest (H.map fY++[⟨(H.map fY).length,o,[],[],fU o (H.map fY)⟩]) (match o.dst with|some t=>s1.set t (.v (.tuple #[]))|none=>s1) K else .fail) Φ ->
   Seq P T cfg n ops.toList (fun s=>dV P n (K s) Φ) (⟨H.length,o,lC o (H.map (·.1))⟩::cZ rest (H.map (·.1)++[⟨H.length,o,lC o (H.map (·.1))⟩])) H s:=by
   intro s1 hs1 hgE h
   show kU P (gE T cfg ops.toList o s) _
   simp only[hgE,<-hs1]
   cases hd:(match o.dst with|some t=>bS t n|none=>true)with
   |false=>simp only[hd,Bool.false_and,cond_false]at h;exact h.elim
   |
    true =>
    simp only[hd,bI]at h
    obtain⟨c1,c2,c3⟩:=cont [] [] _ h
    refine⟨fun q hq=>(by cases hq),gp.2 ⟨fun o ho=>(by cases ho),rfl,hd⟩,c1,c2,?_⟩
    rw[sd]
    exact c3
  unfold jg at h
  simp only at h
  cases hg:o.guard with
  |
   none =>
   rw[hg]at h
   exact run s (qs hg s).symm (by unfold gE;rw[hg]) h
  |
   some gw =>
   obtain⟨gi,want⟩:=gw
   rw[hg]at h
   simp only at h
   split at h
   ·rename_i t hdst
    have hgt:=nM hg hdst
    have hgEb:∀b,nb (s.tm t)=.v (.bool b)->gE T cfg ops.toList o s=bif b==want then iI T cfg (ev (dh ops.toList o s)) s.ob o else .d none qk:=by
     intro b hb
     unfold gE
     rw[hg]
     simp only[hdst,hb]
    split at h
    ·rename_i e
     have hr:s=dh ops.toList o s:=by rw[mJ hgt,e]
     have he:=hgEb true (by rw[e];rfl)
     rw[<-hr]at he
     cases want with
     |true=>exact run s hr he h
     |false=>exact skip s hr he h
    ·rename_i e
     have hr:s=dh ops.toList o s:=by rw[mJ hgt,e]
     have he:=hgEb false (by rw[e];rfl)
     rw[<-hr]at he
     cases want with
     |true=>exact skip s hr he h
     |false=>exact run s hr he h
    ·rename_i vs e
     have hr:s=dh ops.toList o s:=by rw[mJ hgt,e]
     refine skip s hr ?_ h
     unfold gE
     rw[hg]
     simp only[hdst,e,nb]
    ·rename_i b e
     have hr:s.set t (.v (.bool b))=dh ops.toList o s:=by rw[mJ hgt,e]
     have he:=hgEb b (by rw[e];rfl)
     rw[<-(eU (all:=ops.toList) o s).1,<-hr]at he
     obtain⟨h1,h2⟩:=h
     cases b with
     |
      true =>
      cases want with
      |true=>exact run _ hr he (h1 rfl)
      |false=>exact skip _ hr he (h1 rfl)
     |
      false =>
      cases want with
      |true=>exact skip _ hr he (h2 rfl)
      |false=>exact run _ hr he (h2 rfl)
    ·exact h.elim
   ·exact h.elim
end
end Go.VL
namespace Go.VL
open Go Go.RowKit
section
variable {P:Program} {T:dL} {cfg:Nat->FC} {n:Nat} {A:iA}
theorem pW{o:Oper}{j:Nat}:j∈cJ o↔∃e∈o.after,Region.binds .any e=true/\e.on=j:=by
 unfold cJ
 rw[List.mem_filterMap]
 constructor
 ·rintro⟨e,he,h⟩
  refine⟨e,by simpa using he,?_⟩
  cases hg:e.ground<;>rw[hg]at h<;>simp only[Option.some.injEq,reduceCtorEq]at h<;>first|(cases h;done)|exact⟨by simp[Region.binds,hg],h⟩
 ·rintro⟨e,he,hb,rfl⟩
  refine⟨e,by simpa using he,?_⟩
  cases hg:e.ground<;>simp[Region.binds,hg]at hb |-
theorem qj:∀(l:List Oper) (acc:List It) (k:Nat) (o:Oper),l[k]?=some o->∃t,t∈cZ l acc/\t.i=acc.length+k/\t.o=o
 |[],acc,k,o,h=>by simp at h
 |
  x::l,acc,0,o,h=>by
  simp only[List.getElem?_cons_zero,Option.some.injEq]at h
  exact⟨_,ae,rfl,h⟩
 |
  x::l,acc,k+1,o,h=>by
  obtain⟨t,h1,h2,h3⟩:=qj l (acc++[⟨acc.length,x,lC x acc⟩]) k o (by simpa using h)
  exact⟨t,af _ h1,by rw[h2];simp;omega,h3⟩
theorem kE:∀(l:List Oper) (acc:List It) (t:It),t∈cZ l acc->∃k,l[k]?=some t.o/\t.i=acc.length+k
 |[],acc,t,h=>by cases h
 |
  x::l,acc,t,h=>by
  rcases aB.1 h with rfl|h
  ·exact⟨0,rfl,rfl⟩
  ·obtain⟨k,h1,h2⟩:=kE l _ t h
   exact⟨k+1,by simpa using h1,by rw[h2];simp;omega⟩
theorem ma:∀(l:List Oper) (acc:List It),(cZ l acc).Pairwise fun x y=>x.i<y.i
 |[],acc=>List.Pairwise.nil
 |
  x::l,acc=>by
  refine List.Pairwise.cons (fun y hy=>?_) (ma l _)
  obtain⟨k,_,h2⟩:=kE l _ y hy
  rw[h2];simp;omega
theorem qd:∀(l:List Oper) (acc:List It) (t:It),t∈cZ l acc->∀j,j∈t.rJ->j∈cJ t.o\/∃t',(t'∈acc\/t'∈cZ l acc)/\t'.i∈cJ t.o/\j∈t'.rJ
 |[],acc,t,h=>by cases h
 |
  x::l,acc,t,h=>by
  intro j hj
  rcases aB.1 h with rfl|h
  ·rcases aC.1 hj with hj|hj
   ·exact .inl hj
   ·obtain⟨t',h1,h2⟩:=cB.1 hj
    obtain⟨h3,h4⟩:=List.mem_filter.1 h1
    exact .inr ⟨t',.inl h3,rT h4,h2⟩
  ·rcases qd l _ t h j hj with h1|⟨t',h1,h2,h3⟩
   ·exact .inl h1
   ·refine .inr ⟨t',?_,h2,h3⟩
    rcases h1 with h1|h1
    ·rcases aC.1 h1 with h1|h1
     ·exact .inl h1
     ·exact .inr (by rw[aR.1 h1];exact ae)
    ·exact .inr (af _ h1)
theorem oq{listed:Array Bool}{i:Nat}(h:listed.getD i true=false):listed.getD i false=false:=by
 by_cases hi:i<listed.size
 ·simpa[hi]using h
 ·simp[show listed.size<=i by omega]at h
theorem C8(hT:cv P T)(hB:kf P A){ops:Array Oper}{Ψ:St->Prop}{Q:Exit->Act->World->Prop}(hK:∀s a w,fa n A s a w->Ψ s->Q .normal a w) :
 ∀(fuel:Nat) (listed:Array Bool) (L:List It) (s:St) (a:Act) (w:World),L.length<=fuel->listed.size=ops.size->(∀t,t∈L->t∈cZ ops.toList []/\listed.getD t.i true=false)->(∀t,t∈cZ ops.toList []->t∉L->listed.getD t.i false=true) ->
  L.Pairwise (fun x y=>x.i<y.i)->(∀t,t∈cZ ops.toList []->listed.getD t.i false=true->∀j,j∈t.rJ->listed.getD j false=true)->fa n A s a w->Seq P T cfg n ops.toList Ψ L [] s->wpAny P .any ops Q fuel listed a w:=by
 have item:∀j o,ops[j]?=some o->∃t,t∈cZ ops.toList []/\t.i=j/\t.o=o:=fun j o h=>by
  obtain⟨t,h1,h2,h3⟩:=qj ops.toList [] j o (by simpa using h)
  exact⟨t,h1,by simpa using h2,h3⟩
 have opOf:∀t,t∈cZ ops.toList []->ops[t.i]?=some t.o:=fun t ht=>by
  obtain⟨k,h1,h2⟩:=kE ops.toList [] t ht
  rw[h2];simpa using h1
 have done:∀(listed:Array Bool) (L:List It) (s:St) (a:Act) (w:World),(∀t,t∈L->t∈cZ ops.toList []/\listed.getD t.i true=false)->(∀t,t∈cZ ops.toList []->t∉L->listed.getD t.i false=true) ->
  L.Pairwise (fun x y=>x.i<y.i)->fa n A s a w->Seq P T cfg n ops.toList Ψ L [] s->Region.ready .any ops listed=[]->Q .normal a w:=by
  intro listed L s a w h1 h2 h3 g h hr
  cases L with
  |nil=>exact hK s a w g h
  |
   cons t L =>
   exfalso
   obtain⟨ht,hu⟩:=h1 t ae
   have hb:=Seq.back [] (L2:=L) h (fun x hx=>by cases hx)
   have:t.i∈Region.ready .any ops listed:=by
    rw[mem_ready]
    refine⟨hu,t.o,opOf t ht,fun e he hbd=>?_⟩
    have hlt:=hb.2.1 e.on (pW.2 ⟨e,he,hbd,rfl⟩)
    have hsz:t.i<ops.size:=(Array.getElem?_eq_some_iff.1 (opOf t ht)).1
    obtain⟨t',q1,q2,_⟩:=item e.on ops[e.on] (Array.getElem?_eq_getElem (by omega))
    rw[<-q2]
    refine h2 t' q1 fun hh=>?_
    rcases aB.1 hh with rfl|hh
    ·omega
    ·have:=(List.pairwise_cons.1 h3).1 t' hh;omega
   rw[hr]at this;cases this
 intro fuel
 induction fuel with
 |
  zero =>
  intro listed L s a w hl hs h1 h2 h3 h4 g h
  have:L=[]:=List.length_eq_zero_iff.1 (by omega)
  subst this
  refine⟨?_,hK s a w g h⟩
  cases hr:Region.ready .any ops listed with
  |nil=>rfl
  |
   cons j js =>
   exfalso
   have hj:j∈Region.ready .any ops listed:=by rw[hr];exact ae
   obtain⟨hu,o,ho,_⟩:=mem_ready.1 hj
   obtain⟨t,q1,q2,_⟩:=item j o ho
   have:=h2 t q1 (by simp)
   rw[q2,oq hu]at this;cases this
 |
  succ fuel ih =>
  intro listed L s a w hl hs h1 h2 h3 h4 g h
  refine⟨done listed L s a w h1 h2 h3 g h,fun j hj=>?_⟩
  obtain⟨hu,o,ho,hall⟩:=mem_ready.1 hj
  obtain⟨t,q1,q2,q3⟩:=item j o ho
  subst q2;subst q3
  have htL:t∈L:=by
   by_cases hh:t∈L
   ·exact hh
   ·have:=h2 t q1 hh
    rw[oq hu]at this;cases this
  obtain⟨L1,L2,rfl⟩:=List.append_of_mem htL
  have hedge:∀j,j∈cJ t.o->listed.getD j false=true:=fun j hj=>by
   obtain⟨e,he,hb,rfl⟩:=pW.1 hj
   exact hall e he hb
  have hanc:∀j,j∈t.rJ->listed.getD j false=true:=fun j hj=>by
   rcases qd ops.toList [] t q1 j hj with hh|⟨t',hh,r1,r2⟩
   ·exact hedge j hh
   ·rcases hh with hh|hh
    ·cases hh
    ·exact h4 t' hh (hedge _ r1) j r2
  have hpull:=Seq.pull L1 h fun x hx hx'=>by
   have:=hanc _ hx'
   rw[oq (h1 x (ao _ hx)).2]at this;cases this
  have hlt:t.i<listed.size:=by rw[hs];exact(Array.getElem?_eq_some_iff.1 (opOf t q1)).1
  obtain⟨p1,p2,p3⟩:=List.pairwise_append.1 h3
  have p2':=List.pairwise_cons.1 p2
  have hne:∀x,x∈L1++L2->x.i≠t.i:=fun x hx=>by
   rcases aC.1 hx with hx|hx
   ·have:=p3 x hx t ae;omega
   ·have:=p2'.1 x hx;omega
  have next:=BG hT hB g hpull (Kw:=wpAny P .any ops Q fuel (listed.setIfInBounds t.i true)) (Qw:=Q) fun s' a' w' g' hY =>
   ih (listed.setIfInBounds t.i true) (L1++L2) s' a' w' (by simp at hl |-;omega) (by simpa using hs)
    (fun x hx=>by
     obtain⟨r1,r2⟩:=h1 x (by
      rcases aC.1 hx with hx|hx
      ·exact ao _ hx
      ·exact ak _ (af _ hx))
     exact⟨r1,by rw[getD_set_ne true (Ne.symm (hne x hx))];exact r2⟩)
    (fun x hx hn=>by
     by_cases e:x.i=t.i
     ·rw[e];simp[hlt]
     ·rw[getD_set_ne false (Ne.symm e)]
      refine h2 x hx fun hh=>?_
      rcases aC.1 hh with hh|hh
      ·exact hn (ao _ hh)
      ·rcases aB.1 hh with rfl|hh
       ·exact e rfl
       ·exact hn (ak _ hh))
    (List.pairwise_append.2 ⟨p1,p2'.2,fun x hx y hy=>p3 x hx y (af _ hy)⟩)
    (fun x hx hlx jj hja=>by
     by_cases e:x.i=t.i
     ·have:x=t:=by
       by_cases hxL:x∈L1++t::L2
       ·rcases aC.1 hxL with hh|hh
        ·exact absurd e (hne x (ao _ hh))
        ·rcases aB.1 hh with rfl|hh
         ·rfl
         ·exact absurd e (hne x (ak _ hh))
       ·have:=h2 x hx hxL
        rw[e,oq hu]at this;cases this
      subst this
      exact getD_set_true (hanc jj hja)
     ·rw[getD_set_ne false (Ne.symm e)]at hlx
      exact getD_set_true (h4 x hx hlx jj hja)) g' hY
  unfold wpOp
  rw[opOf t q1]
  simp only
  by_cases hw:Region.wanted t.o (yielded ops a.tmps)=true
  ·rw[if_pos hw]at next |-;exact .inl next
  ·rw[if_neg hw]at next |-;exact next
theorem tz(hT:cv P T)(hm:P.follows .mixedOrders=true)(hB:kf P A)(Φ:Nat->List AV->List Ob->Prop):uM P n A T cfg Φ:=by
 intro id ops draw K Q hK s a w g h
 cases draw with
 |false=>exact wp_region_list (tW hT hB hK ops.toList [] s a w g h)
 |
  true =>
  refine wp_region_any hm ?_
  have hs:=yg (H:=[]) ops ops.toList s h
  obtain⟨M,β,g⟩:=g
  have g':fa n A s a {w with drawn:=w.drawn+1}:=⟨M,β,{g with agree:=⟨g.agree.c,g.agree.p⟩,own:=fun o x hx=>(g.own o x hx).mono (Mem.le.refl _) (Lo.le.refl _) fun b hl hb=>⟨rfl,(g.own o x hx).xY hl hb⟩,cb:=g.cb.ir rfl rfl rfl (an _) fun _ _ _=>rfl}⟩
  refine C8 hT hB (Ψ:=fun s=>dV P n (K s) Φ) hK ops.size _ _ s a _ ?_ (by simp) (fun t ht=>⟨ht,?_⟩) (fun t ht hn=>absurd ht hn) (ma _ _) (fun t ht hl=>?_) g' hs
  ·have:∀(l:List Oper) (acc:List It),(cZ l acc).length=l.length:=fun l=>by
    induction l with
    |nil=>intro acc;rfl
    |cons x l ih=>intro acc;simp[cZ,ih]
   rw[this];simp
  ·obtain⟨k,h1,h2⟩:=kE ops.toList [] t ht
   have:t.i<ops.size:=by
    rw[h2]
    have:=(bO.1 h1).1
    simpa using this
   simp[this]
  ·exfalso
   obtain⟨k,h1,h2⟩:=kE ops.toList [] t ht
   by_cases hi:t.i<ops.size
   ·simp[hi]at hl
   ·simp[show ops.size<=t.i by omega]at hl
end
end Go.VL
namespace Go.VL
open Go Go.RowKit
theorem sx{P:Program}:∀{l:List (Nat×TI)},(l.all fun p=>!p.2.kn||p.2.AO P p.1)=true->cv P (uX l)
 |[],_,t,h=>by cases h
 |
  (j,m)::r,hl,t,h=>by
  simp only[cn,ai,br,bx]at hl
  unfold uX at h |-
  cases e:az j t with
  |
   true =>
   simp only[e,cond_true]at h |-
   have:=au e
   subst this
   rcases hl.1 with h1|h1
   ·rw[h1]at h;cases h
   ·exact Cm h1
  |
   false =>
   simp only[e,cond_false]at h |-
   exact sx hl.2 t h
section
variable {P:Program} {T:dL} {cfg:Nat->FC} {lis:List (Nat×LI)}
theorem ay.of(hT:cv P T)(hm:P.follows .mixedOrders=true){fc:FC}{f:Nat}{F:Func}{asq:List AV}{ins:List Ob}{R:AV->List Ob->Prop}(hf:P.funcs[f]?=some F)(hnm:(F.name=="runtime.NumGoroutine")=false)
 (h:dV P F.ntmps (main T cfg lis fc F asq ins) fun _ xs obs=>R (xs.headD .any) obs):ay P f asq ins R :=
 zK hT hf hnm (fun A hB=>tz hT hm hB _) h
theorem cL.of(hT:cv P T)(hm:P.follows .mixedOrders=true){n:Nat}{c:Code}{li:LI}{xs:List AV}{obs:List Ob}{R:Nat->List AV->List Ob->Prop}
 (h:dV P n (round T cfg n lis c li xs obs) fun tag ys o=>(tag=0->cL P n c li ys o R)/\(tag=1->R 1 ys o)/\(tag=2->R 2 ys o)):cL P n c li xs obs R :=
 cL.step (fun A hB=>tz hT hm hB _) h
theorem ay.G3(hT:cv P T)(hm:P.follows .mixedOrders=true){fc:FC}{f:Nat}{F:Func}{asq:List AV}{ins:List Ob}{R:AV->List Ob->Prop}{t:Tree}(hf:P.funcs[f]?=some F)(hnm:(F.name=="runtime.NumGoroutine")=false)(e:main T cfg lis fc F asq ins=t)
 (h:dV P F.ntmps t fun _ xs obs=>R (xs.headD .any) obs):ay P f asq ins R:=ay.of hT hm hf hnm (by rw[e];exact h)
theorem cL.G3(hT:cv P T)(hm:P.follows .mixedOrders=true){n:Nat}{c:Code}{li:LI}{xs:List AV}{obs:List Ob}{R:Nat->List AV->List Ob->Prop}{t:Tree}(e:round T cfg n lis c li xs obs=t)
 (h:dV P n t fun tag ys o=>(tag=0->cL P n c li ys o R)/\(tag=1->R 1 ys o)/\(tag=2->R 2 ys o)):cL P n c li xs obs R:=cL.of hT hm (by rw[e];exact h)
theorem ay.mono{f:Nat}{asq:List AV}{ins:List Ob}{R R':AV->List Ob->Prop}(h:ay P f asq ins R)(hr:∀r obs,R r obs->R' r obs):ay P f asq ins R' :=
 ⟨h.1,fun w M β vs hB hin=>Calls.mono (h.2 w M β vs hB hin) fun e w' ⟨v,r,obs,M',β',he,hR,ho⟩=>⟨v,r,obs,M',β',he,hr r obs hR,ho⟩⟩
end
end Go.VL
namespace Go.VL
open Go Go.RowKit
def yi(sel:Nat->Bool)(ids:Nat->Nat)(ob:Nat->Option Ob):Nat->AV->Option (AV×List Nat)
 |0,_=>none
 |
  n+1,a=>match a with
  |
   .ref o 0=>match ob o with
   |some (.cells (c::cs))=>(kD (yi sel ids ob n) (c::cs)).map fun r=>(bif sel o then .pid (ids o) r.1 else .ptr r.1,o::r.2)
   |_=>none
  | .x a=>some (a,[])
  | .agg cs=>(kD (yi sel ids ob n) cs).map fun r=>(.agg r.1,r.2)
  | .v x=>some (.v x,[])
  |_=>none
theorem yM{M:Mem}{β:Lo}{w:World}{sel:Nat->Bool}{ids:Nat->Nat}{ob:Nat->Option Ob}(hid:∀o c cs b,ob o=some (.cells (c::cs))->β o=some (.cells b)->ids o=b) :
 ∀(k:Nat) (c a':AV) (os:List Nat) (v:Value),yi sel ids ob k c=some (a',os)->Fz M β w ob os/\(∀o,o∈os->∀c cs b,ob o=some (.cells (c::cs))->β o=some (.cells b)->M.p b)->aW M β c v->aW M cR a' v
 |0,c,a',os,v,h,_,_=>by simp[yi]at h
 |
  k+1,c,a',os,v,h,⟨hz,hp⟩,hr=>by
  have ih:∀cs asq os,kD (yi sel ids ob k) cs=some (asq,os)->Fz M β w ob os->(∀o,o∈os->∀c cs b,ob o=some (.cells (c::cs))->β o=some (.cells b)->M.p b)->asq.length=cs.length/\∀i v,i<cs.length->aW M β (cs.getD i .any) v->aW M cR (asq.getD i .any) v:=by
   intro cs
   induction cs with
   |
    nil =>
    intro asq os h _ _
    simp[kD]at h
    obtain⟨rfl,rfl⟩:=h
    exact⟨rfl,fun i v hi=>by simp at hi⟩
   |
    cons c cs ihc =>
    intro asq os h hz hp
    unfold kD at h
    split at h
    ·rename_i a1 os1 as2 os2 h1 h2
     cases h
     obtain⟨q1,q2⟩:=ihc _ _ h2 hz.right (fun o ho=>hp o (ak _ ho))
     refine⟨by simp[q1],fun i v hi hr=>?_⟩
     cases i with
     |zero=>simpa using yM hid k _ _ _ _ h1 ⟨hz.left,fun o ho=>hp o (ao _ ho)⟩ (by simpa using hr)
     |succ i=>simpa using q2 i v (by simpa using hi) (by simpa using hr)
    ·cases h
  unfold yi at h
  split at h
  ·rename_i o
   split at h
   ·rename_i c0 cs0 ho
    cases e:kD (yi sel ids ob k) (c0::cs0)with
    |none=>rw[e]at h;cases h
    |
     some r =>
     rw[e]at h;cases h
     obtain⟨asq,os'⟩:=r
     obtain⟨b,us,h1,h2⟩:=hz o ae _ (by rw[ho];rfl)
     obtain⟨q1,q2⟩:=ih _ _ _ e (fun o' ho'=>hz o' (af _ ho')) (fun o' ho'=>hp o' (af _ ho'))
     cases hr with
     |
      ref _ _ _ b' hb =>
      rw[h1]at hb;cases hb
      simp only
      cases sel o with
      |
       true =>
       rw[hid o _ _ b ho h1]
       exact .pid _ _ _ us (hp o ae _ _ b ho h1) (fun i hi=>(h2 i (by omega)).1) fun i hi=>q2 i _ (by omega) (h2 i (by omega)).2
      |false=>exact .ptr _ _ _ _ us (fun i hi=>by simpa using(h2 i (by omega)).1) fun i hi=>q2 i _ (by omega) (h2 i (by omega)).2
   ·cases h
  ·cases h;cases hr with|x _ _ _ ho h=>exact h
  ·rename_i cs
   cases e:kD (yi sel ids ob k) cs with
   |none=>rw[e]at h;cases h
   |
    some r =>
    rw[e]at h;cases h
    obtain⟨q1,q2⟩:=ih cs _ _ (by rw[e]) hz hp
    cases hr with
    |
     agg _ _ vs hl ho h =>
     exact .agg _ _ _ (q1.trans hl) (fun i hi=>ho i (by omega)) fun i hi=>q2 i _ (by omega) (h i (by omega))
  ·cases h;cases hr;exact .v _ _
  ·cases h
theorem AN{M:Mem}{β:Lo}{w:World}{sel:Nat->Bool}{ids:Nat->Nat}{ob:Nat->Option Ob}(hid:∀o c cs b,ob o=some (.cells (c::cs))->β o=some (.cells b)->ids o=b)(k:Nat) :
 ∀(cs asq:List AV) (os:List Nat),kD (yi sel ids ob k) cs=some (asq,os)->Fz M β w ob os->(∀o,o∈os->∀c cs b,ob o=some (.cells (c::cs))->β o=some (.cells b)->M.p b)->asq.length=cs.length/\∀i v,i<cs.length->aW M β (cs.getD i .any) v->aW M cR (asq.getD i .any) v
 |
  [],asq,os,h,_,_=>by
  simp[kD]at h
  obtain⟨rfl,rfl⟩:=h
  exact⟨rfl,fun i v hi=>by simp at hi⟩
 |
  c::cs,asq,os,h,hz,hp=>by
  unfold kD at h
  split at h
  ·rename_i a1 os1 as2 os2 h1 h2
   cases h
   obtain⟨q1,q2⟩:=AN hid k cs _ _ h2 hz.right (fun o ho=>hp o (ak _ ho))
   refine⟨by simp[q1],fun i v hi hr=>?_⟩
   cases i with
   |zero=>simpa using yM hid k _ _ _ _ h1 ⟨hz.left,fun o ho=>hp o (ao _ ho)⟩ (by simpa using hr)
   |succ i=>simpa using q2 i v (by simpa using hi) (by simpa using hr)
  ·cases h
def vu(T:dL)(F:Func)(S:Nat->Prop)(sel:Nat->Bool)(R:AV->Prop)(s:St):Prop :=
 ∀ids:Nat->Nat,(∀o,¬S (ids o))->match kI T s F.results.toList with
  |
   some (p,as')=>(match kD (yi sel ids s.ob dG) as' with
   |some (xs,_)=>fo p/\R (match xs with|[]=>.any|[x]=>x|xs=>.cQ xs)
   |none=>False)
  |none=>False
theorem vu.get{T:dL}{F:Func}{S:Nat->Prop}{sel:Nat->Bool}{R:AV->Prop}{s:St}(h:vu T F S sel R s)(ids:Nat->Nat)(hi:∀o,¬S (ids o)) :
 ∃p as' xs fz,kI T s F.results.toList=some (p,as')/\fo p/\kD (yi sel ids s.ob dG) as'=some (xs,fz)/\R (match xs with|[]=>.any|[x]=>x|xs=>.cQ xs):=by
 have:=h ids hi
 split at this
 ·split at this
  ·rename_i h1 _ _ _ h2
   exact⟨_,_,_,_,h1,this.1,h2,this.2⟩
  ·exact this.elim
 ·exact this.elim
def xX(T:dL)(cfg:Nat->FC)(F:Func)(c:Code)(asq:List AV)(S:Nat->Prop)(sel:Nat->Bool)(R:AV->Prop):Tree :=
 go T cfg F.ntmps [] [] c (enter asq []) fun e s=>match e with| .exit _=>.fail|_=>.ax (vu T F S sel R s) (.done 0 [] [])
theorem ay.Jl{P:Program}{T:dL}{cfg:Nat->FC}(hT:cv P T)(hm:P.follows .mixedOrders=true){f:Nat}{F:Func}{asq:List AV}{S:Nat->Prop}{sel:Nat->Bool}{R:AV->Prop}(hf:P.funcs[f]?=some F)(hnm:(F.name=="runtime.NumGoroutine")=false){c:Code}(hb:F.body=some c)(hle:eE asq.length F.ntmps=true)
 (hS:∀(M:Mem) (β:Lo) (vs:List Value),(∀i,i<asq.length->aW M β (asq.getD i .any) (vs.getD i undef))->∀b,S b->M.p b)
 (h:dV P F.ntmps (xX T cfg F c asq S sel R) fun _ _ _=>True):ay P f asq [] (fun r o=>R r/\o=[]):=by
 unfold xX at h
 have hle:=aF hle
 refine⟨⟨F,hf,by simp[hb],hnm⟩,fun w M β vs hB hin=>?_⟩
 let A:iA:=⟨w,M,fun b=>∃i,i<0/\dk β i=some b,fun o=>none⟩
 have hβ:∀o,β o=none:=fun o=>hin.none o (dj _)
 have hob:∀o,(enter asq []).ob o=none:=fun o=>rfl
 have g0:cz F.ntmps A (enter asq []) {tmps:=vs.toArray++Array.replicate (F.ntmps-vs.toArray.size) undef,defers:=[]} w M β:=by
  refine {size:=by simp[hin.len];omega,defs:=rfl,tm:=fun t=>?_,le:=Mem.le.refl _,new:=fun b k v h=>.inl h,agree:=hin.agree,own:=fun o x h=>?_,place:=fun o x b h _ hb=>?_,apart:=fun o o' x x' b hne h hl h' hl' hb=>?_,us:=fun o hu=>⟨hβ o,hob o⟩,fix:=fun o b hb=>(by cases hb),cb:=⟨rfl,rfl,rfl,an _,fun _ _ _=>rfl⟩}
  ·show aW M β (setArgs asq 0 (fun _=>.any) t) _
   rw[kY]
   by_cases ht:t<asq.length
   ·rw[if_pos (by omega),Nat.sub_zero]
    have e:(vs.toArray++Array.replicate (F.ntmps-vs.toArray.size) undef).getD t undef=vs.getD t undef:=by
     have:t<vs.length:=by rw[hin.len];exact ht
     simp[Array.getElem?_append,this,aa]
    rw[e];exact hin.rep t ht
   ·rw[if_neg (by omega)];exact .any _ _
  ·rw[hob o]at h;cases h
  ·rw[hob o]at h;cases h
  ·rw[hob o]at h;cases h
 have hS':∀b,S b->b<w.heap.size:=fun b hb=>by
  obtain⟨k,v,hc⟩:=M.pc b (hS M β vs hin.rep b hb)
  exact hin.agree.lt hc
 have hBA:kf P A:=kf.of hB fun b k v hc ⟨i,hi,hbi⟩=>by omega
 refine calls_of_wp hf hb (xm (A:=A) hBA (tz hT hm hBA _) [] (fx:=[]) (fun o b hb=>by cases hb) c _ _ _ ?_ _ w ⟨M,β,g0⟩ h)
 intro ex s a w' ⟨M',β',g⟩ h'
 have fin:vu T F S sel R s->a.defers=[]/\∃v,(results F a.tmps).run P w'=.ok v w'/\∃v' r obs M'' β'',Ending.returned v=.returned v'/\(R r/\obs=[])/\Out w M β 0 r obs v' w' M'' β'':=by
  intro hl
  let ids:Nat->Nat:=fun o=>match s.ob o,β' o with|some (.cells _),some (.cells b)=>b|_,_=>w.heap.size
  have hids:∀o,¬S (ids o):=fun o hSo=>by
   have hlt:=hS' _ hSo
   simp only[ids]at hlt
   split at hlt
   ·rename_i cs b e1 e2
    rcases g.place o _ b e1 rfl (by simp[dk,e2,Loc.block])with h|⟨i,hi,_⟩
    ·exact absurd h (by show ¬w.heap.size<=b;omega)
    ·omega
   ·omega
  obtain⟨p,as',xs,fz,hres,hp,hfz,hR⟩:=hl.get ids hids
  obtain⟨rs,h1,h2,h3⟩:=mw hT g F.results.toList hres hp
  obtain⟨M1,hM,g1,hpp⟩:=g.uJ fz
  obtain⟨q1,q2⟩:=AN (M:=M1) (β:=β') (w:=w') (ids:=ids) (fun o c cs b e1 e2=>by simp only[ids,e1,e2]) dG as' xs fz hfz g1.fz (fun o ho c cs b e1 e2=>hpp o ho _ b e1 (by simp) e2)
  have hrep:∀i,i<xs.length->aW M1 cR (xs.getD i .any) (rs.getD i undef):=fun i hi=>q2 i _ (by omega) ((h3 i (by omega)).mono hM (Lo.le.refl _))
  have hrun:(results F a.tmps).run P w'=.ok (if h:rs.toArray.size=1 then rs.toArray[0]else .tuple rs.toArray) w':=by
   rw[pD,Sem.run_bind,Array.mapM_eq_mapM_toList]
   simp only[Sem.run_map,h1]
   rfl
  refine⟨g.defs,_,hrun,_,_,[],M1,cR,rfl,⟨hR,rfl⟩,?_⟩
  have hxl:xs.length=rs.length:=by omega
  refine⟨g1.le,g1.agree,?_,fun j hj=>(by simp at hj),fun j b hj hb=>(by omega),fun j l sz es hj=>(by omega),fun i j b hne hi=>(by simp at hi),fun j b hj=>(by simp at hj),fun b k v hc=>g1.new b k v hc,⟨g1.cb.os,g1.cb.tape,g1.cb.output,g1.cb.size,g1.cb.block⟩⟩
  match xs,rs,hxl,hrep with
  |[],[],_,_=>exact .any _ _
  |[x],[r],_,hrep=>simpa using hrep 0 (by simp)
  |x::y::xs,r::q::rs,hl,hrep=>exact .cQ _ _ _ (by simpa using hl) hrep
 cases ex with
 |normal=>exact fin h'.1
 |ret=>exact fin h'.1
 |exit i=>exact h'.elim
end Go.VL
namespace Go.VL
open Go Go.RowKit
section
variable {P:Program} {n:Nat} {Q:Nat->List AV->List Ob->Prop}
abbrev bK(v:AV):AV->List Ob->Prop:=fun r o=>r=v/\o=[]
abbrev kq(t:Nat)(ys:List AV)(o:List Ob):Nat->List AV->List Ob->Prop:=fun t' ys' o'=>t'=t/\ys'=ys/\o'=o
theorem dN{f:Nat}{asq:List AV}{ins:List Ob}{k:AV->List Ob->Tree}{R:AV->List Ob->Prop}(h:ay P f asq ins R)(hne:∃r o,R r o)(hk:∀r o,R r o->dV P n (k r o) Q):dV P n (.call f asq ins k) Q:=⟨R,h,hne,hk⟩
theorem al{f:Nat}{asq:List AV}{k:AV->List Ob->Tree}{v:AV}(h:ay P f asq [] (bK v))(hk:dV P n (k v []) Q):dV P n (.call f asq [] k) Q :=
 ⟨bK v,h,⟨v,[],rfl,rfl⟩,fun r o ⟨h1,h2⟩=>by rw[h1,h2];exact hk⟩
theorem mS{c:Code}{li:LI}{xs:List AV}{obs:List Ob}{kx kr:List AV->List Ob->Tree}{R:Nat->List AV->List Ob->Prop}(h:cL P n c li xs obs R)(h1:∀ys o,R 1 ys o->dV P n (kx ys o) Q)(h2:∀ys o,R 2 ys o->dV P n (kr ys o) Q):dV P n (.loop c li xs obs kx kr) Q:=⟨R,h,h1,h2⟩
theorem df{c:Code}{li:LI}{xs:List AV}{obs:List Ob}{kx kr:List AV->List Ob->Tree}{ys:List AV}{o:List Ob}(h:cL P n c li xs obs (kq 1 ys o))(h1:dV P n (kx ys o) Q):dV P n (.loop c li xs obs kx kr) Q :=
 ⟨_,h,fun ys' o' ⟨_,e1,e2⟩=>by rw[e1,e2];exact h1,fun ys' o' ⟨e,_⟩=>by cases e⟩
end
abbrev qQ(x:Nat×List AV×List Ob):Nat->List AV->List Ob->Prop:=fun t ys o=>(t,ys,o)=x
theorem iN{P:Program}{n:Nat}{Q:Nat->List AV->List Ob->Prop}{c:Code}{li:LI}{xs:List AV}{obs:List Ob}{kx kr:List AV->List Ob->Tree}{x:Nat×List AV×List Ob}(h:cL P n c li xs obs (qQ x))(h1:∀ys o,x=(1,ys,o)->dV P n (kx ys o) Q)(h2:∀ys o,x=(2,ys,o)->dV P n (kr ys o) Q):dV P n (.loop c li xs obs kx kr) Q :=
 ⟨_,h,fun ys o e=>h1 ys o e.symm,fun ys o e=>h2 ys o e.symm⟩
def AS(L:List AV->List Ob->Prop)(R:Nat->List AV->List Ob->Prop):Nat->List AV->List Ob->Prop:=fun tag ys o=>(tag=0->L ys o)/\(tag=1->R 1 ys o)/\(tag=2->R 2 ys o)
theorem DB{L:List AV->List Ob->Prop}{R:Nat->List AV->List Ob->Prop}{ys:List AV}{o:List Ob}:AS L R 0 ys o=L ys o:=by simp[AS]
theorem step1{L:List AV->List Ob->Prop}{R:Nat->List AV->List Ob->Prop}{ys:List AV}{o:List Ob}:AS L R 1 ys o=R 1 ys o:=by simp[AS]
theorem step2{L:List AV->List Ob->Prop}{R:Nat->List AV->List Ob->Prop}{ys:List AV}{o:List Ob}:AS L R 2 ys o=R 2 ys o:=by simp[AS]
section
variable {P:Program} {n:Nat} {Q:Nat->List AV->List Ob->Prop}
theorem BI{b:Bool}{y t:Tree}:dV P n (.test b y t) Q=((b=true->dV P n y Q)/\(b=false->dV P n t Q)):=rfl
theorem yY{p:Prop}[Decidable p]{y t:Tree}:dV P n (.test (decide p) y t) Q=((p->dV P n y Q)/\(¬p->dV P n t Q)):=by
 show ((decide p=true->_)/\(decide p=false->_))=_
 rw[decide_eq_true_eq,decide_eq_false_iff_not]
theorem zX{b:Bool}{y t:Tree}:dV P n (.test (!b) y t) Q=((b=false->dV P n y Q)/\(b=true->dV P n t Q)):=by
 show (((!b)=true->_)/\((!b)=false->_))=_
 rw[bx,Bool.not_eq_false']
theorem zC{α:Type}[BEq α]{a b:α}{y t:Tree}:dV P n (.test (a==b) y t) Q=(((a==b)=true->dV P n y Q)/\((a==b)=false->dV P n t Q)):=rfl
theorem yt{α:Type}[BEq α]{a b:α}{y t:Tree}:dV P n (.test (a != b) y t) Q=(((a != b)=true->dV P n y Q)/\((a != b)=false->dV P n t Q)):=rfl
theorem yV{a:AV}{y t:Tree}:dV P n (.test a.toBool y t) Q=((a.toBool=true->dV P n y Q)/\(a.toBool=false->dV P n t Q)):=rfl
theorem zr{a:AV}{y t:Tree}:dV P n (.test a.isNil y t) Q=((a.isNil=true->dV P n y Q)/\(a.isNil=false->dV P n t Q)):=rfl
theorem CS{p:Prop}{t:Tree}:dV P n (.ax p t) Q=(p/\dV P n t Q):=rfl
theorem CU{tag:Nat}{xs:List AV}{o:List Ob}:dV P n (.done tag xs o) Q=Q tag xs o:=rfl
end
def mk(l:List UInt8):ByteArray:=⟨l.toArray⟩
theorem uS(k:IntKind)(n:Int):LK.has (.int k) (.v (.int k n))=True:=eq_true ⟨n,rfl⟩
theorem wX(b:Bool):LK.has .bool (.v (.bool b))=True:=eq_true ⟨b,rfl⟩
theorem dU(s:ByteArray):LK.has .str (.v (.string s))=True:=eq_true ⟨s,rfl⟩
theorem cG(es:List (List AV)):LK.has .sl (.sl es)=True:=eq_true (.inr ⟨es,rfl⟩)
theorem bF:LK.has .sl (.v (.slice none 0 0))=True:=eq_true (.inl rfl)
theorem fK(cs:List AV):LK.has .ptr (.ptr cs)=True:=eq_true (.inr (.inl ⟨cs,rfl⟩))
theorem j1:LK.has .ptr (.v (.pointer none))=True:=eq_true (.inl rfl)
theorem zx(k:IntKind)(n:Int):(AV.v (.int k n)).toInt=n:=rfl
theorem re(b:ByteArray):(AV.v (.string b)).toStr=b:=rfl
theorem xU(b:Bool):(AV.v (.bool b)).toBool=b:=rfl
theorem w5(cs:List AV)(i:Nat):(AV.cQ cs).comp i=cs.getD i .any:=rfl
theorem fR(es:List (List AV)):(AV.sl es).elems=es:=rfl
theorem vK:(AV.v (.slice none 0 0)).elems=[]:=rfl
theorem im(cs:List AV):(AV.ptr cs).deref=cs:=rfl
theorem ny(cs:List AV):(AV.ptr cs).isNil=false:=rfl
theorem ik:(AV.v (.pointer none)).isNil=true:=rfl
theorem xI(cs:List AV):(AV.agg cs).cs=cs:=rfl
theorem xl(cs:List AV):(Ob.cells cs).cs=cs:=rfl
theorem yu(z:Nat)(es:List (List AV)):(Ob.vec z es).es=es:=rfl
theorem wrap64(n:Int)(h:-9223372036854775808<=n)(h':n<9223372036854775808):IntKind.wrap .i64 n=n:=by
 simp[IntKind.wrap,IntKind.signed,IntKind.bits];omega
def Up(a' a:AV):Prop:=∀M β v,aW M β a' v->aW M β a v
theorem aE(a:AV):Up a a:=fun _ _ _ h=>h
theorem dy{a:AV}(h:LK.sl.has a):Up a (.x a):=fun M β v hr=>.x _ _ _ (xQ hr h) (jB hr h)
theorem ck{a:AV}(h:LK.ptr.has a):Up a (.x a):=fun M β v hr=>.x _ _ _ (vz hr h) (jB hr h)
def tF:List AV->List AV->Prop
 |[],[]=>True
 |a::asq,b::bs=>Up a b/\tF asq bs
 |_,_=>False
theorem aG:tF [] []:=trivial
theorem aj{a b:AV}{asq bs:List AV}(h:Up a b)(hs:tF asq bs):tF (a::asq) (b::bs):=⟨h,hs⟩
theorem tF.get:∀{asq bs:List AV},tF asq bs->asq.length=bs.length/\∀i,i<bs.length->Up (asq.getD i .any) (bs.getD i .any)
 |[],[],_=>⟨rfl,fun i hi=>by cases hi⟩
 |
  a::asq,b::bs,h=>by
  obtain⟨h1,h2⟩:=tF.get h.2
  refine⟨by simp[h1],fun i hi=>?_⟩
  cases i with
  |zero=>simpa using h.1
  |succ i=>simpa using h2 i (by simpa using hi)
 |[],_::_,h=>h.elim
 |_::_,[],h=>h.elim
theorem dc{asq bs:List AV}(h:tF asq bs):Up (.agg asq) (.agg bs):=fun M β v hr=>by
 obtain⟨vs,rfl,hl,hr,ho⟩:=eW hr
 obtain⟨h1,h2⟩:=h.get
 exact .agg _ _ _ (by omega) (fun i hi=>ho i (by omega)) fun i hi=>h2 i hi M β _ (hr i (by omega))
theorem ay.up{P:Program}{f:Nat}{asq bs:List AV}{ins:List Ob}{R:AV->List Ob->Prop}(h:tF asq bs)(hf:ay P f bs ins R):ay P f asq ins R :=
 ⟨hf.1,fun w M β vs hB hin=>hf.2 w M β vs hB {hin with len:=by rw[hin.len,h.get.1],rep:=fun i hi=>h.get.2 i hi _ _ _ (hin.rep i (by rw[h.get.1];exact hi))}⟩
def xN:Ob->Ob->Prop
 | .cells asq,.cells bs=>tF asq bs
 |x,y=>x=y
theorem lU(x:Ob):xN x x:=by
 cases x with
 |
  cells cs=>induction cs with
  |nil=>exact aG
  |cons c cs ih=>exact aj (aE c) ih
 |_=>rfl
theorem eu{asq bs:List AV}(h:tF asq bs):xN (.cells asq) (.cells bs):=h
def rV:List Ob->List Ob->Prop
 |[],[]=>True
 |a::asq,b::bs=>xN a b/\rV asq bs
 |_,_=>False
theorem iP:rV [] []:=trivial
theorem dm{a b:Ob}{asq bs:List Ob}(h:xN a b)(hs:rV asq bs):rV (a::asq) (b::bs):=⟨h,hs⟩
theorem xN.eq{x y:Ob}(h:xN x y):x=y\/∃asq bs,x=.cells asq/\y=.cells bs/\tF asq bs:=by
 cases x with
 |
  cells asq =>
  cases y with
  |cells bs=>exact .inr ⟨asq,bs,rfl,rfl,h⟩
  |_=>cases h
 |_=>exact .inl h
theorem xN.live{x y:Ob}(h:xN x y):x.live=y.live:=by
 rcases h.eq with rfl|⟨asq,bs,rfl,rfl,_⟩<;>rfl
theorem xN.own{x y:Ob}(h:xN x y){M:Mem}{β:Lo}{w:World}{o:Nat}(hx:Own M β w o x):Own M β w o y:=by
 rcases h.eq with rfl|⟨asq,bs,rfl,rfl,hl⟩
 ·exact hx
 ·obtain⟨h1,h2⟩:=tF.get hl
  obtain⟨b,vs,e,q1,q2,q3,q4,q5⟩:=hx
  exact⟨b,vs,e,q1,q2,by omega,fun i hi=>h2 i hi _ _ _ (q4 i (by omega)),q5⟩
theorem rV.get:∀{asq bs:List Ob},rV asq bs->asq.length=bs.length/\∀i,i<bs.length->xN (asq.getD i .dead) (bs.getD i .dead)
 |[],[],_=>⟨rfl,fun i hi=>by cases hi⟩
 |
  a::asq,b::bs,h=>by
  obtain⟨h1,h2⟩:=rV.get h.2
  refine⟨by simp[h1],fun i hi=>?_⟩
  cases i with
  |zero=>simpa using h.1
  |succ i=>simpa using h2 i (by simpa using hi)
 |[],_::_,h=>h.elim
 |_::_,[],h=>h.elim
theorem ay.Bq{P:Program}{f:Nat}{asq:List AV}{ins ins':List Ob}{R:AV->List Ob->Prop}(h:rV ins ins')(hf:ay P f asq ins' R):ay P f asq ins R:=by
 obtain⟨hl,hg⟩:=h.get
 refine⟨hf.1,fun w M β vs hB hin=>?_⟩
 rw[hl]
 exact hf.2 w M β vs hB {hin with own:=fun j hj=>(hg j hj).own (hin.own j (by omega)),none:=fun j hj=>hin.none j (by omega),apart:=fun i j b hne hi hj hli hlj hb=>hin.apart i j b hne (by omega) (by omega) (by rw[(hg i hi).live];exact hli) (by rw[(hg j hj).live];exact hlj) hb}
end Go.VL
