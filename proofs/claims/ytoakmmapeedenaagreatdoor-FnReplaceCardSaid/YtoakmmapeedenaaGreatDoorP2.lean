/-
  Part of a proof: Go functions read by values, trees of functions, their contracts.
-/
import Derived.Test.YtoakmmapeedenaaGreatDoorP1
set_option linter.unusedVariables false
set_option linter.unusedSimpArgs false
open Bool renaming and_eq_true→au,not_eq_true'→bR,or_eq_true→bn,true_and→bZ
open List renaming all_cons→cO,all_eq_true→bH,any_eq_true→bT,drop_zero→bz,flatMap_cons→aZ,getD_cons_zero→bh,getD_eq_getElem?_getD→aa,getElem?_append→aY,getElem?_drop→cm,getElem?_eq_getElem→aV,getElem?_eq_some_iff→cq,getElem_mem→bY,length_append→ak,length_cons→aw,length_drop→bI,length_map→cg,length_nil→aE,map_append→bV,map_cons→a6,mem_append→aH,mem_append_left→aA,mem_append_right→az,mem_cons→aI,mem_cons_of_mem→ai,mem_cons_self→ag,mem_flatMap→cu,mem_map→bD,mem_singleton→aQ,nil_append→bg,range→bc
open Nat renaming add_zero→bM,beq→aF,ble→fv,blt→cv,eq_of_beq_eq_true→aC,le_of_ble_eq_true→aN,le_refl→aq,lt_of_lt_of_le→cX,zero_add→aR,zero_le→cG
open Option renaming map_some→cy
namespace Go.VL
open Go Go.RowKit
section
variable {P:Program} {M:Mem} {β:Lo} {w w':World} {n:Nat} {A:jP} {s:St} {a:Act}
theorem jW{ob:Nat->Option Ob}:∀(ks:List CK) {cs asq:List AV} {obs:List Ob} {os:List Nat} {j:Nat},bN ob ks cs j=some (asq,obs,os)->os.length=obs.length/\(∀x,x∈obs->∃z es,x=.vec z es)/\∀q,q<obs.length->os.getD q 0<ez->∃x,ob (os.getD q 0)=some x
 |
  [],cs,asq,obs,os,j,h=>by
  cases cs with
  |nil=>simp only[bN,Option.some.injEq,Prod.mk.injEq]at h;obtain⟨rfl,rfl,rfl⟩:=h;exact⟨rfl,fun x hx=>(by cases hx),fun q hq=>(by simp at hq)⟩
  |cons c cs=>simp[bN]at h
 |
  .lk k::ks,cs,asq,obs,os,j,h=>by
  cases cs with
  |nil=>simp[bN]at h
  |
   cons c cs =>
   simp only[bN]at h
   split at h
   ·rename_i h1 h2;cases h;exact jW ks h2
   ·cases h
 |
  .vec hsz::ks,cs,asq,obs,os,j,h=>by
  have add:∀(z:Nat) (es:List (List AV)) (o:Nat) (obs1:List Ob) (os1:List Nat),(o<ez->∃x,ob o=some x)->(os1.length=obs1.length/\(∀x,x∈obs1->∃z es,x=.vec z es)/\∀q,q<obs1.length->os1.getD q 0<ez->∃x,ob (os1.getD q 0)=some x)->((o::os1).length=(Ob.vec z es::obs1).length/\(∀x,x∈Ob.vec z es::obs1->∃z es,x=.vec z es)/\∀q,q<(Ob.vec z es::obs1).length->(o::os1).getD q 0<ez->∃x,ob ((o::os1).getD q 0)=some x):=fun z es o obs1 os1 ho hh =>
   ⟨by simp[hh.1],fun x hx=>(by
    rcases aI.1 hx with rfl|hx
    ·exact⟨z,es,rfl⟩
    ·exact hh.2.1 x hx),fun q hq hlt=>(by
    cases q with
    |zero=>simpa using ho (by simpa using hlt)
    |succ q=>simpa using hh.2.2 q (by simpa using hq) (by simpa using hlt))⟩
  cases cs with
  |nil=>simp[bN]at h
  |
   cons c cs =>
   cases c<;>first|(simp[bN]at h;done)|skip
   ·rename_i x
    cases x<;>first|(simp[bN]at h;done)|skip
    rename_i ad ln cp
    cases ad<;>first|(simp[bN]at h;done)|skip
    cases ln<;>first|(simp[bN]at h;done)|skip
    cases cp<;>first|(simp[bN]at h;done)|skip
    simp only[bN]at h
    split at h
    ·rename_i h2;cases h;exact add _ _ _ _ _ (fun hlt=>by omega) (jW ks h2)
    ·cases h
   ·simp only[bN]at h
    split at h
    ·rename_i h1 h2;cases h;exact add _ _ _ _ _ (fun _=>⟨_,h1⟩) (jW ks h2)
    ·cases h
def Nm(ob:Nat->Option Ob)(os:List Nat)(obs:List Ob):Prop:=os.length=obs.length/\∀q,q<obs.length->(obs.getD q .dead).live=true/\(∀cs,obs.getD q .dead=.cells cs->∃cs',ob (os.getD q 0)=some (.cells cs'))/\(os.getD q 0<ez->∃x,ob (os.getD q 0)=some x)
theorem Nm.app{ob:Nat->Option Ob}{os os':List Nat}{obs obs':List Ob}(h:Nm ob os obs)(h':Nm ob os' obs'):Nm ob (os++os') (obs++obs'):=by
 refine⟨by simp[h.1,h'.1],fun q hq=>?_⟩
 by_cases hlt:q<obs.length
 ·have e1:(obs++obs').getD q .dead=obs.getD q .dead:=by simp[aa,aY,hlt]
  have e2:(os++os').getD q 0=os.getD q 0:=by simp[aa,aY,h.1,hlt]
  rw[e1,e2];exact h.2 q hlt
 ·have e1:(obs++obs').getD q .dead=obs'.getD (q-obs.length) .dead:=by simp[aa,aY,hlt]
  have e2:(os++os').getD q 0=os'.getD (q-obs.length) 0:=by simp[aa,aY,h.1,hlt]
  rw[e1,e2];exact h'.2 _ (by simp at hq;omega)
theorem Nm.nil{ob:Nat->Option Ob}:Nm ob [] []:=⟨rfl,fun q hq=>by simp at hq⟩
theorem qW{ks:List CK}{cs asq:List AV}{obs:List Ob}{os:List Nat}{j:Nat}{ob:Nat->Option Ob}(h:bN ob ks cs j=some (asq,obs,os)):Nm ob os obs:=by
 obtain⟨h1,h2,h3⟩:=jW ks h
 refine⟨h1,fun q hq=>?_⟩
 have hm:obs.getD q .dead∈obs:=by simp[aa,hq]
 obtain⟨z,es,e⟩:=h2 _ hm
 rw[e];exact⟨rfl,fun cs h=>(by cases h),h3 q hq⟩
theorem om{ob:Nat->Option Ob}{ks:List CK}{cs asq:List AV}{obs:List Ob}{os:List Nat}{j:Nat}(h:n6 ob ks cs j=some (asq,obs,os)) :
 bN ob ks cs j=some (asq,obs,os)/\∃es o,obs=[.vec (ld ks) es]/\os=[o]:=by
 unfold n6 at h
 split at h
 ·rename_i as' sz es o h1
  split at h
  ·cases hb:aF sz (ld ks)with
   |false=>rw[hb]at h;cases h
   |
    true =>
    have:=aC hb
    rw[hb]at h;cases h
    exact⟨h1,es,o,by rw[this],rfl⟩
  ·cases h
 ·cases h
theorem oy{ob:Nat->Option Ob}{m:MK}{c c':AV}{obs:List Ob}{os:List Nat}{j:Nat}(h:n8 ob m c j=some (c',obs,os)):Nm ob os obs:=by
 unfold n8 at h
 split at h
 ·rename_i o
  split at h
  ·rename_i sz es ho
   cases h
   refine⟨rfl,fun q hq=>?_⟩
   have:q=0:=by simp at hq;exact hq
   subst this
   exact⟨rfl,fun cs h=>(by simp at h),fun _=>⟨_,ho⟩⟩
  ·cases h
 ·rename_i ks o
  split at h
  ·rename_i sz es ho
   cases hb:aF sz (ld ks)with
   |false=>rw[hb]at h;cases h
   |
    true =>
    rw[hb]at h;cases h
    refine⟨rfl,fun q hq=>?_⟩
    have:q=0:=by simp at hq;exact hq
    subst this
    exact⟨rfl,fun cs h=>(by simp at h),fun _=>⟨_,ho⟩⟩
  ·cases h
 ·split at h
  ·rename_i h1
   cases h
   exact qW (om h1).1
  ·cases h
 ·rename_i ks o
  split at h
  ·rename_i cs ho
   split at h
   ·rename_i asq obs1 os1 h1
    cases h
    have one:Nm ob [o] [Ob.cells asq]:=⟨rfl,fun q hq=>by
     have:q=0:=by simp at hq;exact hq
     subst this
     exact⟨rfl,fun cs' _=>⟨cs,ho⟩,fun _=>⟨_,ho⟩⟩⟩
    exact one.app (qW h1)
   ·cases h
  ·cases h
 ·split at h
  ·rename_i h1
   cases h
   exact qW (om h1).1
  ·cases h
 ·cases h
theorem oB{ob:Nat->Option Ob}:∀(ms:List (Option MK)) {cs asq:List AV} {obs:List Ob} {os:List Nat} {j:Nat},fg ob ms cs j=some (asq,obs,os)->Nm ob os obs
 |
  [],cs,asq,obs,os,j,h=>by
  cases cs with
  |nil=>simp only[fg,Option.some.injEq,Prod.mk.injEq]at h;obtain⟨rfl,rfl,rfl⟩:=h;exact .nil
  |cons c cs=>simp[fg]at h
 |
  none::ms,cs,asq,obs,os,j,h=>by
  cases cs with
  |nil=>simp[fg]at h
  |
   cons c cs =>
   simp only[fg]at h
   split at h
   ·rename_i h1 h2;cases h;exact oB ms h2
   ·cases h
 |
  some m::ms,cs,asq,obs,os,j,h=>by
  cases cs with
  |nil=>simp[fg]at h
  |
   cons c cs =>
   simp only[fg]at h
   split at h
   ·rename_i h1
    split at h
    ·rename_i h2;cases h;exact(oy h1).app (oB ms h2)
    ·cases h
   ·cases h
theorem qJ{ob:Nat->Option Ob}{m:PK}{c c':AV}{obs:List Ob}{os:List Nat}{j:Nat}(h:nf ob m c j=some (c',obs,os)):Nm ob os obs:=by
 unfold nf at h
 split at h
 ·exact oy h
 ·split at h
  ·rename_i h1;cases h;exact oB _ h1
  ·cases h
 ·split at h
  ·rename_i h1 _
   revert h
   cases aF _ _<;>intro h
   ·cases h
   ·cases h;exact oB _ h1
  ·cases h
 ·cases h
theorem oD{ob:Nat->Option Ob}(mu:List (Nat×PK)):∀(asq:List AV) {i j:Nat} {as':List AV} {ins:List Ob} {os fz:List Nat},ik ob mu asq i j=some (as',ins,os,fz)->Nm ob os ins
 |
  [],i,j,as',ins,os,fz,h=>by
  simp only[ik,Option.some.injEq,Prod.mk.injEq]at h
  obtain⟨rfl,rfl,rfl,rfl⟩:=h
  exact .nil
 |
  c::asq,i,j,as',ins,os,fz,h=>by
  simp only[ik]at h
  split at h
  ·split at h
   ·rename_i h1 h2;cases h;exact oD mu asq h2
   ·cases h
  ·split at h
   ·rename_i h1
    split at h
    ·rename_i h2;cases h;exact(qJ h1).app (oD mu asq h2)
    ·cases h
   ·cases h
  ·split at h
   ·rename_i h1 h2;cases h;exact oD mu asq h2
   ·cases h
def Al(β βc:Lo)(os:List Nat)(obs:List Ob)(j:Nat):Prop:=∀q l,q<obs.length->((∃b,l=.cells b)\/os.getD q 0<ez)->βc (j+q)=some l->β (os.getD q 0)=some l
theorem rJ{M:Mem}{β:Lo}{w:World}{o:Nat}{x:Ob}(h:Own M β w o x)(hl:x.live=true):∃l,β o=some l:=by
 cases x<;>first|(cases hl;done)|skip
 ·obtain⟨b,_,_,h,_⟩:=h;exact⟨_,h⟩
 ·obtain⟨v,h,_⟩:=h;exact⟨_,h⟩
 ·obtain⟨v,h,_⟩:=h;exact⟨_,h⟩
theorem Al.app{β β3 β4:Lo}{os os':List Nat}{obs obs':List Ob}{j:Nat}(h:Al β β3 os obs j)(hle:Lo.le β3 β4)(hs:∀q,q<obs.length->∃l,β3 (j+q)=some l)(h':Al β β4 os' obs' (j+obs.length))(hl:os.length=obs.length):Al β β4 (os++os') (obs++obs') j:=fun q b hq hk hb=>by
 by_cases hlt:q<obs.length
 ·have e2:(os++os').getD q 0=os.getD q 0:=by simp[aa,aY,hl,hlt]
  rw[e2]at hk |-
  obtain⟨l,e⟩:=hs q hlt
  have:=hle _ _ e
  rw[hb]at this;cases this
  exact h q _ hlt hk e
 ·have e2:(os++os').getD q 0=os'.getD (q-obs.length) 0:=by simp[aa,aY,hl,hlt]
  rw[e2]at hk |-
  refine h' _ b (by simp at hq;omega) hk ?_
  rw[show j+obs.length+(q-obs.length)=j+q by omega];exact hb
theorem Al.none{β βc:Lo}{j:Nat}:Al β βc [] [] j:=fun q b hq=>by simp at hq
theorem jM(g:cZ n A s a w M β){ob0:Nat->Option Ob}:∀(ks:List CK) {cs asq:List AV} {obs:List Ob} {os:List Nat} {j:Nat},bN ob0 ks cs j=some (asq,obs,os)->(∀o x,o∈os->ob0 o=some x->s.ob o=some x) ->
 ∀{U:List Nat} {f:Nat->Option Ob} {βc:Lo},fX s w M β U f βc->(∀m,j<=m->f m=none)->nodup os=true->(∀o,o∈os->o∉U) ->
 ∃βc' U' f',fX s w M β U' f' βc'/\Lo.le βc βc'/\(∀o,o∈U'->o∈os\/o∈U)/\(∀m,j+obs.length<=m->f' m=none)/\(∀m,m<j->f' m=f m)/\(∀q,q<obs.length->f' (j+q)=some (obs.getD q .dead))/\asq.length=cs.length /\
  (∀q v,q<cs.length->bo M β (cs.getD q .any) v->bo M βc' (asq.getD q .any) v)/\Al β βc' os obs j
 |
  [],cs,asq,obs,os,j,h,h0,U,f,βc,hB,hnm,hnd,hU=>by
  cases cs with
  |
   nil =>
   simp only[bN,Option.some.injEq,Prod.mk.injEq]at h
   obtain⟨rfl,rfl,rfl⟩:=h
   exact⟨βc,U,f,hB,Lo.le.refl _,fun o ho=>.inr ho,fun m hm=>hnm m (by simpa using hm),fun m _=>rfl,fun q hq=>(by simp at hq),rfl,fun q v hq=>(by simp at hq),.none⟩
  |cons c cs=>simp[bN]at h
 |
  .lk k::ks,cs,asq,obs,os,j,h,h0,U,f,βc,hB,hnm,hnd,hU=>by
  cases cs with
  |nil=>simp[bN]at h
  |
   cons c cs =>
   simp only[bN]at h
   split at h
   ·rename_i a1 as1 obs1 os1 h1 h2
    cases h
    obtain⟨β3,U',f',b1,b2,b3,b4,b5,b6,b7,b8,b9⟩:=jM g ks h2 h0 hB hnm hnd hU
    refine⟨β3,U',f',b1,b2,b3,b4,b5,b6,by simp[b7],fun q v hq hr=>?_,b9⟩
    cases q with
    |zero=>simpa using(vZ h1 (by simpa using hr)).up
    |succ q=>simpa using b8 q v (by simpa using hq) (by simpa using hr)
   ·cases h
 |
  .vec hsz::ks,cs,asq,obs,os,j,h,h0,U,f,βc,hB,hnm,hnd,hU=>by
  cases cs with
  |nil=>simp[bN]at h
  |
   cons c cs =>
   have cont:∀(sz:Nat) (es:List (List AV)) (o:Nat) (as1:List AV) (obs1:List Ob) (os1:List Nat),bN ob0 ks cs (j+1)=some (as1,obs1,os1)->asq=.vec j::as1->obs=.vec sz es::obs1->os=o::os1->(∃β3,fX s w M β (o::U) (cr f j (some (.vec sz es))) β3/\Lo.le βc β3/\(∀v,bo M β c v->bo M β3 (.vec j) v)/\∀l,((∃b,l=.cells b)\/o<ez)->β3 j=some l->β o=some l) ->
    ∃βc' U' f',fX s w M β U' f' βc'/\Lo.le βc βc'/\(∀o,o∈U'->o∈os\/o∈U)/\(∀m,j+obs.length<=m->f' m=none)/\(∀m,m<j->f' m=f m)/\(∀q,q<obs.length->f' (j+q)=some (obs.getD q .dead))/\asq.length=(c::cs).length /\
     (∀q v,q<(c::cs).length->bo M β ((c::cs).getD q .any) v->bo M βc' (asq.getD q .any) v)/\Al β βc' os obs j:=by
    intro sz es o as1 obs1 os1 h2 ea eo eos ⟨β3,c1,c2,c3,c4⟩
    subst ea;subst eo;subst eos
    obtain⟨n1,n2⟩:=nodup_cons hnd
    obtain⟨β4,U',f',b1,b2,b3,b4,b5,b6,b7,b8,b9⟩:=jM g ks h2 (fun o x ho=>h0 o x (ai _ ho)) c1 (fun m hm=>by rw[aW _ _ _ _ (by omega)];exact hnm m (by omega)) n2 (fun q hq hh=>by
     rcases aI.1 hh with rfl|hh
     ·exact n1 hq
     ·exact hU q (ai _ hq) hh)
    refine⟨β4,U',f',b1,fun o l hl=>b2 o l (c2 o l hl),fun q hq=>?_,fun m hm=>b4 m (by simp at hm;omega),fun m hm=>?_,fun q hq=>?_,by simp[b7],fun q v hq hr=>?_,fun q l hq hk hb=>?_⟩
    ·rcases b3 q hq with h|h
     ·exact .inl (ai _ h)
     ·rcases aI.1 h with rfl|h
      ·exact .inl ag
      ·exact .inr h
    ·rw[b5 m (by omega),aW _ _ _ _ (by omega)]
    ·cases q with
     |zero=>rw[bM,b5 j (by omega),aL];rfl
     |
      succ q =>
      have:=b6 q (by simpa using hq)
      rw[show j+(q+1)=j+1+q by omega,this];rfl
    ·cases q with
     |zero=>simpa using(c3 v (by simpa using hr)).mono (Mem.le.refl _) b2
     |succ q=>simpa using b8 q v (by simpa using hq) (by simpa using hr)
    ·cases q with
     |
      zero =>
      obtain⟨l',e⟩:=rJ (c1.own j _ (aL _ _ _)) rfl
      have:=b2 _ _ e
      rw[bM]at hb
      rw[hb]at this;cases this
      exact c4 l (by simpa using hk) e
     |succ q=>simpa using b9 q l (by simpa using hq) (by simpa using hk) (by rw[show j+1+q=j+(q+1) by omega];exact hb)
   cases c<;>first|(simp[bN]at h;done)|skip
   ·rename_i x
    cases x<;>first|(simp[bN]at h;done)|skip
    rename_i ad ln cp
    cases ad<;>first|(simp[bN]at h;done)|skip
    cases ln<;>first|(simp[bN]at h;done)|skip
    cases cp<;>first|(simp[bN]at h;done)|skip
    simp only[bN]at h
    split at h
    ·rename_i as1 obs1 os1 h2
     cases h
     obtain⟨β3,c1,c2,c3⟩:=fX.uu g hB (m:=j) (o:=ez+j) (sz:=hsz) (hnm j (aq _)) (hU _ ag)
     exact cont hsz [] _ as1 obs1 os1 h2 rfl rfl rfl ⟨β3,c1,c2,fun v hv=>(by rw[dA hv];exact c3),fun l hk hb=>(by
      obtain⟨u,hu,_⟩:=c1.own j _ (aL _ _ _)
      rw[hu]at hb;cases hb
      rcases hk with⟨b,hk⟩|hk
      ·cases hk
      ·omega)⟩
    ·cases h
   ·rename_i o
    simp only[bN]at h
    split at h
    ·rename_i sz es as1 obs1 os1 h1 h2
     cases h
     obtain⟨β3,c1,c2,c3,c4⟩:=fX.vec g hB (m:=j) (hnm j (aq _)) (hU _ ag) (h0 _ _ ag h1)
     exact cont sz es o as1 obs1 os1 h2 rfl rfl rfl ⟨β3,c1,c2,c3,fun l _ hb=>by rw[<-c4];exact hb⟩
    ·cases h
end
end Go.VL
namespace Go.VL
open Go Go.RowKit
section
variable {P:Program} {M:Mem} {β:Lo} {w w':World} {n:Nat} {A:jP} {s:St} {a:Act}
theorem vQ(g:cZ n A s a w M β){ob0:Nat->Option Ob}{m:MK}{c c':AV}{obs:List Ob}{os:List Nat}{j:Nat}(h:n8 ob0 m c j=some (c',obs,os))(h0:∀o x,o∈os->ob0 o=some x->s.ob o=some x){U:List Nat}{f:Nat->Option Ob}{βc:Lo}
 (hB:fX s w M β U f βc) (hnm:∀m,j<=m->f m=none) (hnd:nodup os=true) (hU:∀o,o∈os->o∉U) :
 ∃βc' U' f',fX s w M β U' f' βc'/\Lo.le βc βc'/\(∀o,o∈U'->o∈os\/o∈U)/\(∀m,j+obs.length<=m->f' m=none)/\(∀m,m<j->f' m=f m)/\(∀q,q<obs.length->f' (j+q)=some (obs.getD q .dead)) /\
  (∀v,bo M β c v->bo M βc' c' v)/\Al β βc' os obs j:=by
 unfold n8 at h
 split at h
 ·rename_i o
  split at h
  ·rename_i sz es ho
   cases h
   obtain⟨β3,c1,c2,c3,c4⟩:=fX.vec g hB (m:=j) (hnm j (aq _)) (hU o ag) (h0 _ _ ag ho)
   refine⟨β3,_,_,c1,c2,fun q hq=>?_,fun m hm=>?_,fun m hm=>?_,fun q hq=>?_,c3,fun q b hq _ hb=>?_⟩
   ·rcases aI.1 hq with rfl|hq
    ·exact .inl ag
    ·exact .inr hq
   ·rw[aW _ _ _ _ (by simp at hm;omega)];exact hnm m (by simp at hm;omega)
   ·rw[aW _ _ _ _ (by omega)]
   ·have:q=0:=by simp at hq;exact hq
    subst this;rw[bM,aL];rfl
   ·have:q=0:=by simp at hq;exact hq
    subst this
    rw[bM,c4]at hb;exact hb
  ·cases h
 ·rename_i ks o
  split at h
  ·rename_i sz es ho
   cases hbq:aF sz (ld ks)with
   |false=>rw[hbq]at h;cases h
   |true =>
   rw[hbq]at h
   cases h
   obtain⟨β3,c1,c2,c3,c4⟩:=fX.vec g hB (m:=j) (hnm j (aq _)) (hU o ag) (h0 _ _ ag ho)
   refine⟨β3,_,_,c1,c2,fun q hq=>?_,fun m hm=>?_,fun m hm=>?_,fun q hq=>?_,c3,fun q b hq _ hb=>?_⟩
   ·rcases aI.1 hq with rfl|hq
    ·exact .inl ag
    ·exact .inr hq
   ·rw[aW _ _ _ _ (by simp at hm;omega)];exact hnm m (by simp at hm;omega)
   ·rw[aW _ _ _ _ (by omega)]
   ·have:q=0:=by simp at hq;exact hq
    subst this;rw[bM,aL];rfl
   ·have:q=0:=by simp at hq;exact hq
    subst this
    rw[bM,c4]at hb;exact hb
  ·cases h
 ·split at h
  ·rename_i as1 obs1 os1 h1
   cases h
   obtain⟨β3,U',f',b1,b2,b3,b4,b5,b6,b7,b8,b9⟩:=jM g _ (om h1).1 h0 hB hnm hnd hU
   refine⟨β3,U',f',b1,b2,b3,b4,b5,b6,fun v hv=>?_,b9⟩
   obtain⟨vs,ev,hl,hr,ho⟩:=fJ hv
   rw[ev]
   exact .agg _ _ _ (by omega) (fun i hi=>ho i (by omega)) fun i hi=>b8 i _ (by omega) (hr i (by omega))
  ·cases h
 ·rename_i ks o
  split at h
  ·rename_i cs ho
   split at h
   ·rename_i asq obs1 os1 h1
    cases h
    obtain⟨n1,n2⟩:=nodup_cons hnd
    obtain⟨β3,U',f',b1,b2,b3,b4,b5,b6,b7,b8,b9⟩:=jM g ks h1 (fun o x hh=>h0 o x (ai _ hh)) hB (fun m hm=>hnm m (by omega)) n2 (fun q hq=>hU q (ai _ hq))
    have ho:=h0 _ _ ag ho
    obtain⟨b,vs,e,q1,q2,q3,q4,q5,q6⟩:=g.own o _ ho
    have hfj:f' j=none:=by rw[b5 j (by omega)];exact hnm j (aq _)
    have hB2:=b1.add g hfj (l:=.cells b) (x:=.cells asq)
     ⟨b,vs,e,aL _ _ _,q2,by rw[q3,b7],fun i hi=>(b8 i _ (by omega) (q4 i (by omega))).mono (Mem.le.refl _) (b1.le hfj _),q5,q6⟩ o
     (fun hh=>by
      rcases b3 o hh with h|h
      ·exact n1 h
      ·exact hU o ag h)
     (fun b' hb'=>by
      simp only[Loc.block,Option.some.injEq]at hb'
      subst hb'
      exact⟨_,ho,rfl,by simp[dN,q1,Loc.block]⟩)
    refine⟨_,_,_,hB2,fun o l hl=>b1.le hfj _ o l (b2 o l hl),fun q hq=>?_,fun m hm=>?_,fun m hm=>?_,fun q hq=>?_,fun v hv=>?_,fun q b' hq hk hb=>?_⟩
    ·rcases aI.1 hq with rfl|hq
     ·exact .inl ag
     ·rcases b3 q hq with h|h
      ·exact .inl (ai _ h)
      ·exact .inr h
    ·simp at hm
     rw[aW _ _ _ _ (by omega)];exact b4 m (by omega)
    ·rw[aW _ _ _ _ (by omega)];exact b5 m (by omega)
    ·cases q with
     |zero=>rw[bM,aL];rfl
     |
      succ q =>
      rw[aW _ _ _ _ (by omega),show j+(q+1)=j+1+q by omega,b6 q (by simpa using hq)];rfl
    ·obtain⟨b',r1,r2⟩:=lG hv
     rw[q1]at r1;cases r1
     rw[r2]
     exact .ref _ _ _ _ (aL _ _ _)
    ·cases q with
     |zero=>rw[bM,aL]at hb;cases hb;exact q1
     |
      succ q =>
      rw[aW _ _ _ _ (by omega),show j+(q+1)=j+1+q by omega]at hb
      simpa using b9 q b' (by simpa using hq) (by simpa using hk) hb
   ·cases h
  ·cases h
 ·split at h
  ·rename_i as1 obs1 os1 h1
   cases h
   obtain⟨β3,U',f',b1,b2,b3,b4,b5,b6,b7,b8,b9⟩:=jM g _ (om h1).1 h0 hB hnm hnd hU
   refine⟨β3,U',f',b1,b2,b3,b4,b5,b6,fun v hv=>?_,b9⟩
   obtain⟨vs,ev,hl,hr,ho⟩:=fJ hv
   rw[ev]
   exact .agg _ _ _ (by omega) (fun i hi=>ho i (by omega)) fun i hi=>b8 i _ (by omega) (hr i (by omega))
  ·cases h
 ·cases h
theorem oG(g:cZ n A s a w M β){ob0:Nat->Option Ob}:∀(ms:List (Option MK)) {cs asq:List AV} {obs:List Ob} {os:List Nat} {j:Nat},fg ob0 ms cs j=some (asq,obs,os)->(∀o x,o∈os->ob0 o=some x->s.ob o=some x) ->
 ∀{U:List Nat} {f:Nat->Option Ob} {βc:Lo},fX s w M β U f βc->(∀m,j<=m->f m=none)->nodup os=true->(∀o,o∈os->o∉U) ->
 ∃βc' U' f',fX s w M β U' f' βc'/\Lo.le βc βc'/\(∀o,o∈U'->o∈os\/o∈U)/\(∀m,j+obs.length<=m->f' m=none)/\(∀m,m<j->f' m=f m)/\(∀q,q<obs.length->f' (j+q)=some (obs.getD q .dead))/\asq.length=cs.length /\
  (∀q v,q<cs.length->bo M β (cs.getD q .any) v->bo M βc' (asq.getD q .any) v)/\Al β βc' os obs j
 |
  [],cs,asq,obs,os,j,h,h0,U,f,βc,hB,hnm,hnd,hU=>by
  cases cs with
  |
   nil =>
   simp only[fg,Option.some.injEq,Prod.mk.injEq]at h
   obtain⟨rfl,rfl,rfl⟩:=h
   exact⟨βc,U,f,hB,Lo.le.refl _,fun o ho=>.inr ho,fun m hm=>hnm m (by simpa using hm),fun m _=>rfl,fun q hq=>(by simp at hq),rfl,fun q v hq=>(by simp at hq),.none⟩
  |cons c cs=>simp[fg]at h
 |
  none::ms,cs,asq,obs,os,j,h,h0,U,f,βc,hB,hnm,hnd,hU=>by
  cases cs with
  |nil=>simp[fg]at h
  |
   cons c cs =>
   simp only[fg]at h
   split at h
   ·rename_i a1 as1 obs1 os1 h1 h2
    cases h
    obtain⟨β3,U',f',b1,b2,b3,b4,b5,b6,b7,b8,b9⟩:=oG g ms h2 h0 hB hnm hnd hU
    refine⟨β3,U',f',b1,b2,b3,b4,b5,b6,by simp[b7],fun q v hq hr=>?_,b9⟩
    cases q with
    |zero=>simpa using(vZ h1 (by simpa using hr)).up
    |succ q=>simpa using b8 q v (by simpa using hq) (by simpa using hr)
   ·cases h
 |
  some m::ms,cs,asq,obs,os,j,h,h0,U,f,βc,hB,hnm,hnd,hU=>by
  cases cs with
  |nil=>simp[fg]at h
  |
   cons c cs =>
   simp only[fg]at h
   split at h
   ·rename_i c' obs1 os1 h1
    split at h
    ·rename_i as1 obs2 os2 h2
     cases h
     obtain⟨n1,n2,n3⟩:=er hnd
     obtain⟨β3,U1,f1,b1,b2,b3,b4,b5,b6,b7,b9⟩:=vQ g h1 (fun o x ho=>h0 o x (aA _ ho)) hB hnm n1 fun o ho=>hU o (aA _ ho)
     obtain⟨β4,U2,f2,d1,d2,d3,d4,d5,d6,d7,d8,d9⟩:=oG g ms h2 (fun o x ho=>h0 o x (az _ ho)) b1 b4 n2 fun o ho hh=>by
      rcases b3 o hh with h|h
      ·exact n3 o h ho
      ·exact hU o (az _ ho) h
     refine⟨β4,U2,f2,d1,fun o l hl=>d2 o l (b2 o l hl),fun o ho=>?_,fun m hm=>d4 m (by simp at hm;omega),fun m hm=>(d5 m (by omega)).trans (b5 m hm),fun q hq=>?_,by simp[d7],fun q v hq hr=>?_,b9.app d2 (fun q hq=>rJ (b1.own _ _ (b6 q hq)) ((oy h1).2 q hq).1) d9 (oy h1).1⟩
     ·rcases d3 o ho with h|h
      ·exact .inl (az _ h)
      ·rcases b3 o h with h|h
       ·exact .inl (aA _ h)
       ·exact .inr h
     ·by_cases hlt:q<obs1.length
      ·rw[d5 _ (by omega),b6 q hlt]
       simp[aa,aY,hlt]
      ·have:=d6 (q-obs1.length) (by simp at hq;omega)
       rw[show j+obs1.length+(q-obs1.length)=j+q by omega]at this
       rw[this]
       simp[aa,aY,hlt]
     ·cases q with
      |zero=>simpa using(b7 v (by simpa using hr)).mono (Mem.le.refl _) d2
      |succ q=>simpa using d8 q v (by simpa using hq) (by simpa using hr)
    ·cases h
   ·cases h
theorem AL(gg:cZ n A s a w M β){ob0:Nat->Option Ob}{m:PK}{c c':AV}{obs:List Ob}{os:List Nat}{j:Nat}(h:nf ob0 m c j=some (c',obs,os))(h0:∀o x,o∈os->ob0 o=some x->s.ob o=some x){U:List Nat}{f:Nat->Option Ob}{βc:Lo}
 (hB:fX s w M β U f βc) (hnm:∀m,j<=m->f m=none) (hnd:nodup os=true) (hU:∀o,o∈os->o∉U) :
 ∃βc' U' f',fX s w M β U' f' βc'/\Lo.le βc βc'/\(∀o,o∈U'->o∈os\/o∈U)/\(∀m,j+obs.length<=m->f' m=none)/\(∀m,m<j->f' m=f m)/\(∀q,q<obs.length->f' (j+q)=some (obs.getD q .dead)) /\
  (∀v,bo M β c v->bo M βc' c' v)/\Al β βc' os obs j:=by
 unfold nf at h
 split at h
 ·exact vQ gg h h0 hB hnm hnd hU
 ·rename_i ms fn cap
  split at h
  ·rename_i asq obs' os' h1
   cases h
   obtain⟨β3,U',f',b1,b2,b3,b4,b5,b6,b7,b8,b9⟩:=oG gg ms h1 h0 hB hnm hnd hU
   refine⟨β3,U',f',b1,b2,b3,b4,b5,b6,fun v hv=>?_,b9⟩
   cases hv with
   |fn _ _ _ vs hl hr=>exact .fn _ _ _ vs (by omega) fun i hi=>b8 i _ (by omega) (hr i (by omega))
  ·cases h
 ·rename_i ms f' js fn cap
  split at h
  ·rename_i asq obs' os' g l h1 hg
   cases hb:aF g f' with
   |false=>rw[hb]at h;cases h
   |
    true =>
    rw[hb]at h
    cases h
    obtain⟨β3,U',f',b1,b2,b3,b4,b5,b6,b7,b8,b9⟩:=oG gg ms h1 h0 hB hnm hnd hU
    refine⟨β3,U',f',b1,b2,b3,b4,b5,b6,fun v hv=>?_,b9⟩
    have hne:cap≠[]:=by rintro rfl;simp at hg
    have hcl:cap.dropLast.length+1=cap.length:=by
     have:=List.length_pos_iff.2 hne
     rw[List.length_dropLast];omega
    cases hv with
    |
     fn _ _ _ vs hl hr =>
     refine .fn _ _ _ vs (by simp;omega) fun i hi=>?_
     simp only[ak,aw,aE]at hi
     by_cases hlt:i<asq.length
     ·have e1:(asq++[AV.any]).getD i .any=asq.getD i .any:=by simp[aa,aY,hlt]
      have e2:cap.getD i .any=cap.dropLast.getD i .any:=by
       rw[aa,aa,List.getElem?_dropLast,if_pos (by omega)]
      rw[e1]
      have:=hr i (by omega)
      rw[e2]at this
      exact b8 i _ (by omega) this
     ·have e1:(asq++[AV.any]).getD i .any=.any:=by
       rw[aa,List.getElem?_append_right (by omega)]
       rw[show i-asq.length=0 by omega];rfl
      rw[e1];exact .any _ _
  ·cases h
 ·cases h
theorem ov(g:cZ n A s a w M β){ob0:Nat->Option Ob}(mu:List (Nat×PK)):∀(asq:List AV) {i j:Nat} {as':List AV} {ins:List Ob} {os fz:List Nat},ik ob0 mu asq i j=some (as',ins,os,fz)->Fz M β w ob0 fz->(∀o x,o∈os->ob0 o=some x->s.ob o=some x) ->
 ∀{U:List Nat} {f:Nat->Option Ob} {βc:Lo},fX s w M β U f βc->(∀m,j<=m->f m=none)->nodup os=true->(∀o,o∈os->o∉U) ->
 ∃βc' U' f',fX s w M β U' f' βc'/\Lo.le βc βc'/\(∀o,o∈U'->o∈os\/o∈U)/\(∀m,j+ins.length<=m->f' m=none)/\(∀m,m<j->f' m=f m)/\(∀q,q<ins.length->f' (j+q)=some (ins.getD q .dead))/\as'.length=asq.length /\
  (∀q v,q<asq.length->bo M β (asq.getD q .any) v->bo M βc' (as'.getD q .any) v)/\Al β βc' os ins j
 |
  [],i,j,as',ins,os,fz,h,hz,h0,U,f,βc,hB,hnm,hnd,hU=>by
  simp only[ik,Option.some.injEq,Prod.mk.injEq]at h
  obtain⟨rfl,rfl,rfl,rfl⟩:=h
  exact⟨βc,U,f,hB,Lo.le.refl _,fun o ho=>.inr ho,fun m hm=>hnm m (by simpa using hm),fun m _=>rfl,fun q hq=>(by simp at hq),rfl,fun q v hq=>(by simp at hq),.none⟩
 |
  c::asq,i,j,as',ins,os,fz,h,hz,h0,U,f,βc,hB,hnm,hnd,hU=>by
  simp only[ik]at h
  split at h
  ·split at h
   ·rename_i l1 f1 as1 ins2 os2 fz2 h1 h2
    cases h
    obtain⟨β4,U2,f2,d1,d2,d3,d4,d5,d6,d7,d8,d9⟩:=ov g mu asq h2 hz.right h0 hB hnm hnd hU
    refine⟨β4,U2,f2,d1,d2,d3,d4,d5,d6,by simp[d7],fun q v hq hr=>?_,d9⟩
    cases q with
    |zero=>simpa using bo.any _ _
    |succ q=>simpa using d8 q v (by simpa using hq) (by simpa using hr)
   ·cases h
  ·rename_i m hm
   split at h
   ·rename_i c' obs1 os1 h1
    split at h
    ·rename_i as1 ins2 os2 fz2 h2
     cases h
     obtain⟨n1,n2,n3⟩:=er hnd
     obtain⟨β3,U1,f1,b1,b2,b3,b4,b5,b6,b7,b9⟩:=AL g h1 (fun o x ho=>h0 o x (aA _ ho)) hB hnm n1 fun o ho=>hU o (aA _ ho)
     obtain⟨β4,U2,f2,d1,d2,d3,d4,d5,d6,d7,d8,d9⟩:=ov g mu asq h2 hz (fun o x ho=>h0 o x (az _ ho)) b1 b4 n2 fun o ho hh=>by
      rcases b3 o hh with h|h
      ·exact n3 o h ho
      ·exact hU o (az _ ho) h
     refine⟨β4,U2,f2,d1,fun o l hl=>d2 o l (b2 o l hl),fun o ho=>?_,fun m hm=>d4 m (by simp at hm;omega),fun m hm=>(d5 m (by omega)).trans (b5 m hm),fun q hq=>?_,by simp[d7],fun q v hq hr=>?_,b9.app d2 (fun q hq=>rJ (b1.own _ _ (b6 q hq)) ((qJ h1).2 q hq).1) d9 (qJ h1).1⟩
     ·rcases d3 o ho with h|h
      ·exact .inl (az _ h)
      ·rcases b3 o h with h|h
       ·exact .inl (aA _ h)
       ·exact .inr h
     ·by_cases hlt:q<obs1.length
      ·rw[d5 _ (by omega),b6 q hlt]
       simp[aa,aY,hlt]
      ·have:=d6 (q-obs1.length) (by simp at hq;omega)
       rw[show j+obs1.length+(q-obs1.length)=j+q by omega]at this
       rw[this]
       simp[aa,aY,hlt]
     ·cases q with
      |zero=>simpa using(b7 v (by simpa using hr)).mono (Mem.le.refl _) d2
      |succ q=>simpa using d8 q v (by simpa using hq) (by simpa using hr)
    ·cases h
   ·cases h
  ·split at h
   ·rename_i c' f1 as1 ins2 os2 fz2 h1 h2
    cases h
    obtain⟨β4,U2,f2,d1,d2,d3,d4,d5,d6,d7,d8,d9⟩:=ov g mu asq h2 hz.right h0 hB hnm hnd hU
    refine⟨β4,U2,f2,d1,d2,d3,d4,d5,d6,by simp[d7],fun q v hq hr=>?_,d9⟩
    cases q with
    |zero=>simpa using(gA _ _ _ _ _ h1 hz.left (by simpa using hr)).up
    |succ q=>simpa using d8 q v (by simpa using hq) (by simpa using hr)
   ·cases h
theorem sH{o:Nat}:∀{caps:List AV} {l:List (Option Nat)},nY o caps=some l->l.length=caps.length/\∀i,i<l.length->(l.getD i none=none->caps.getD i .any=.ref o 0)/\∀p,l.getD i none=some p->caps.getD i .any=.ref p 0
 |[],l,h=>by cases h;exact⟨rfl,fun i hi=>by simp at hi⟩
 |
  c::caps,l,h=>by
  unfold nY at h
  split at h
  ·rename_i he;cases he
  ·rename_i p r he
   cases he
   cases e:nY o caps with
   |none=>rw[e]at h;cases h
   |
    some l' =>
    rw[e]at h
    simp only[cy,Option.some.injEq]at h
    subst h
    obtain⟨q1,q2⟩:=sH e
    refine⟨by simp[q1],fun i hi=>?_⟩
    cases i with
    |
     zero =>
     simp only[bh]
     cases hb:aF p o with
     |
      true =>
      simp only[cond_true]
      exact⟨fun _=>(by rw[aC hb]),fun q hq=>(by cases hq)⟩
     |
      false =>
      simp only[cond_false]
      exact⟨fun hq=>(by cases hq),fun q hq=>(by cases hq;rfl)⟩
    |succ i=>simpa using q2 i (by simpa using hi)
  ·cases h
theorem DC{M:Mem}{β:Lo}{w:World}{ob:Nat->Option Ob}{f:Nat}{c:AV}{l:List (Option Nat)}{fz:List Nat}{v:Value}(h:qS ob f c=some (l,fz))(hz:Fz M β w ob fz)(hr:bo M β c v):bo M β (.eJ f l) v:=by
 have key:∀o f' caps,cz (ob o)=some (.gO [.fn f' caps])->(bif aF f' f then(nY o caps).map fun l=>(l,[o])else none)=some (l,fz)->bo M β (.ref o 0) v->bo M β (.eJ f l) v:=by
  intro o f' caps hfr h5 hr
  clear h
  cases hb:aF f' f with
  |false=>rw[hb]at h5;cases h5
  |
   true =>
   rw[hb]at h5
   simp only[cond_true]at h5
   have:=aC hb
   subst this
   cases e:nY o caps with
   |none=>rw[e]at h5;cases h5
   |
    some l' =>
    rw[e]at h5
    simp only[cy,Option.some.injEq,Prod.mk.injEq]at h5
    obtain⟨rfl,rfl⟩:=h5
    obtain⟨b,us,h1,h2⟩:=hz o ag _ hfr
    obtain⟨h3,h4⟩:=h2 0 (by simp)
    obtain⟨q1,q2⟩:=sH e
    obtain⟨b',r1,r2⟩:=lG hr
    rw[h1]at r1;cases r1
    subst r2
    simp only[bh]at h4
    cases hu:us 0 with
    |
     _ =>
     rw[hu]at h3 h4
     cases h4
     try (
      rename_i vs hl hrs
      refine .eJ _ _ _ _ vs h3 (q1.trans hl) (fun i hi hn=>?_) fun i p hi hp=>?_
      ·have:=hrs i (by omega)
       rw[(q2 i hi).1 hn]at this
       obtain⟨b2,s1,s2⟩:=lG this
       rw[h1]at s1;cases s1;exact s2
      ·have:=hrs i (by omega)
       rw[(q2 i hi).2 p hp]at this
       exact lG this)
 unfold qS at h
 split at h
 ·rename_i f' js
  cases hb:aF f' f with
  |false=>rw[hb]at h;cases h
  |
   true =>
   rw[hb]at h
   simp only[cond_true,Option.some.injEq,Prod.mk.injEq]at h
   obtain⟨rfl,rfl⟩:=h
   have:=aC hb
   subst this
   exact hr
 ·rename_i o
  split at h
  ·rename_i f' caps ho
   exact key o f' caps (by rw[ho];rfl) h hr
  ·rename_i f' caps ho
   exact key o f' caps (by rw[ho];rfl) h hr
  ·cases h
 ·cases h
theorem uV{M:Mem}{β βc:Lo}{os:List Nat}{ins:List Ob}{f:Nat}{js:List (Option Nat)}{v:Value}(h:bo M β (.eJ f (js.map (HA os))) v)(hk:js.all (LA ins)=true)
 (ho:∀j,j<ins.length->(ins.getD j .dead).oL=true->∀b,β (os.getD j 0)=some (.cells b)->βc j=some (.cells b)):bo M βc (.eJ f js) v:=by
 cases h with
 |
  eJ _ _ _ b vs hc hl hs hoo =>
  have hg:∀i,i<js.length->(js.map (HA os)).getD i none=HA os (js.getD i none):=fun i hi=>by simp[aa,hi]
  refine .eJ _ _ _ _ vs hc (by simpa using hl) (fun i hi e=>hs i (by simpa using hi) (by rw[hg i hi,e];rfl)) fun i j hi e=>?_
  obtain⟨b',q1,q2⟩:=hoo i (os.getD j 0) (by simpa using hi) (by rw[hg i hi,e];rfl)
  rw[bH]at hk
  have:=hk (some j) (by rw[<-e];simp[aa,hi])
  simp only[LA,au]at this
  have hj:j<ins.length:=aN this.1
  exact⟨b',ho j hj this.2 b' q1,q2⟩
theorem FH{M:Mem}{β βc:Lo}{os:List Nat}{ins:List Ob}{ob0:Nat->Option Ob}{ms:List (Option MK)}{f:Nat}{js:List (Option Nat)}{c c':AV}{obs:List Ob}{os1:List Nat}{j:Nat}{v:Value}(h1:nf ob0 (.Ed ms f js) c j=some (c',obs,os1))(hk:Bv os ins f js c=true)
 (ho:∀j,j<ins.length->(ins.getD j .dead).oL=true->∀b,β (os.getD j 0)=some (.cells b)->βc j=some (.cells b)) (hv:bo M β c v) (hr:bo M βc c' v):bo M βc (qu f js c') v:=by
 unfold nf at h1
 split at h1
 ·rename_i he;cases he
 ·rename_i he;cases he
 ·rename_i ms' f' js' fn cap he
  cases he
  split at h1
  ·rename_i asq obs' os' g l h2 hg
   cases hb:aF g f with
   |false=>rw[hb]at h1;cases h1
   |
    true =>
    rw[hb]at h1
    cases h1
    have:=aC hb
    subst this
    simp only[Bv,hg,au]at hk
    have hl2:=qX hk.1
    have hne:cap≠[]:=by rintro rfl;simp at hg
    have hcl:cap.dropLast.length+1=cap.length:=by
     have:=List.length_pos_iff.2 hne
     rw[List.length_dropLast];omega
    cases hr with
    |
     fn _ _ _ vs hl hrr =>
     simp only[ak,aw,aE]at hl
     simp only[qu,List.dropLast_concat]
     cases hv with
     |
      fn _ _ _ vs2 hl' hrr' =>
      refine .fn _ _ _ _ (by simp;omega) fun i hi=>?_
      simp only[ak,aw,aE]at hi
      by_cases hlt:i<asq.length
      ·have e1:(asq++[AV.eJ g js]).getD i .any=(asq++[AV.any]).getD i .any:=by simp[aa,aY,hlt]
       rw[e1]
       exact hrr i (by simp;omega)
      ·have hi':i=asq.length:=by omega
       have e1:(asq++[AV.eJ g js]).getD i .any=.eJ g js:=by
        rw[aa,List.getElem?_append_right (by omega)]
        rw[show i-asq.length=0 by omega];rfl
       have e2:cap.getD i .any=.eJ g l:=by
        rw[List.getLast?_eq_getElem?]at hg
        rw[aa,show i=cap.length-1 by omega,hg];rfl
       rw[e1]
       have:=hrr' i (by omega)
       rw[e2,hl2]at this
       exact uV this hk.2 ho
  ·cases h1
 ·cases h1
theorem oz{M:Mem}{β βc:Lo}{w:World}{ob:Nat->Option Ob}{mu:List (Nat×PK)}{os:List Nat}{ins:List Ob}(ho:∀j,j<ins.length->(ins.getD j .dead).oL=true->∀b,β (os.getD j 0)=some (.cells b)->βc j=some (.cells b)) :
 ∀(asq:List AV) {i j:Nat} {as':List AV} {ins':List Ob} {os' fz:List Nat},ik ob mu asq i j=some (as',ins',os',fz)->Fz M β w ob fz->lN ob mu os ins asq i=true->(∀q v,q<asq.length->bo M β (asq.getD q .any) v->bo M βc (as'.getD q .any) v) ->
  (jf mu as' i).length=as'.length/\∀q v,q<asq.length->bo M β (asq.getD q .any) v->bo M βc ((jf mu as' i).getD q .any) v
 |
  [],i,j,as',ins',os',fz,h,hz,hk,hr=>by
  simp only[ik,Option.some.injEq,Prod.mk.injEq]at h
  obtain⟨rfl,rfl,rfl,rfl⟩:=h
  exact⟨rfl,fun q v hq=>by simp at hq⟩
 |
  c::asq,i,j,as',ins',os',fz,h,hz,hk,hr=>by
  simp only[ik]at h
  simp only[lN,au]at hk
  obtain⟨hk1,hk2⟩:=hk
  split at h
  ·rename_i f js hm
   split at h
   ·rename_i l1 f1 as1 ins2 os2 fz2 h1 h2
    cases h
    obtain⟨q1,q2⟩:=oz ho asq h2 hz.right hk2 (fun q v hq hv=>by simpa using hr (q+1) v (by simpa using hq) (by simpa using hv))
    have e:jf mu (.any::as1) i=.eJ f js::jf mu as1 (i+1):=by rw[jf,hm]
    rw[e]
    refine⟨by simp[q1],fun q v hq hv=>?_⟩
    cases q with
    |
     zero =>
     rw[hm]at hk1
     simp only[h1,au]at hk1
     have e2:=qX hk1.1
     have hc:=DC h1 hz.left (show bo M β c v by simpa using hv)
     rw[e2]at hc
     simpa using uV hc hk1.2 ho
    |succ q=>simpa using q2 q v (by simpa using hq) (by simpa using hv)
   ·cases h
  ·rename_i m hne hm
   split at h
   ·rename_i c' obs1 os1 h1
    split at h
    ·rename_i as1 ins2 os2 fz2 h2
     cases h
     obtain⟨q1,q2⟩:=oz ho asq h2 hz hk2 (fun q v hq hv=>by simpa using hr (q+1) v (by simpa using hq) (by simpa using hv))
     obtain⟨y,hmm,hy⟩:∃y,jf mu (c'::as1) i=y::jf mu as1 (i+1)/\∀v,bo M β c v->bo M βc y v:=by
      have h0:∀v,bo M β c v->bo M βc c' v:=fun v hv=>by simpa using hr 0 v (by simp) (by simpa using hv)
      cases m with
      |yX f js=>exact absurd rfl (hne _ _)
      |
       Ed ms f js =>
       refine⟨qu f js c',by rw[jf,hm],fun v hv=>?_⟩
       rw[hm]at hk1
       exact FH h1 hk1 ho hv (h0 v hv)
      |one m=>exact⟨c',by rw[jf,hm],h0⟩
      |fn ms=>exact⟨c',by rw[jf,hm],h0⟩
     rw[hmm]
     refine⟨by simp[q1],fun q v hq hv=>?_⟩
     cases q with
     |zero=>simpa using hy v (by simpa using hv)
     |succ q=>simpa using q2 q v (by simpa using hq) (by simpa using hv)
    ·cases h
   ·cases h
  ·rename_i hm
   have hmm:∀x xs,jf mu (x::xs) i=x::jf mu xs (i+1):=fun x xs=>by rw[jf,hm]
   split at h
   ·rename_i c' f1 as1 ins2 os2 fz2 h1 h2
    cases h
    obtain⟨q1,q2⟩:=oz ho asq h2 hz.right hk2 (fun q v hq hv=>by simpa using hr (q+1) v (by simpa using hq) (by simpa using hv))
    rw[hmm]
    refine⟨by simp[q1],fun q v hq hv=>?_⟩
    cases q with
    |zero=>simpa using hr 0 v (by simp) hv
    |succ q=>simpa using q2 q v (by simpa using hq) (by simpa using hv)
   ·cases h
end
end Go.VL
namespace Go.VL
open Go Go.RowKit
section
variable {P:Program} {M:Mem} {β:Lo} {w w':World} {n:Nat} {A:jP} {s:St} {a:Act}
def gh(os:List Nat)(f:Nat->Option Ob):Nat->Option Ob:=fun o=>bif fT os o then none else f o
theorem gy{os:List Nat}{f:Nat->Option Ob}{o:Nat}{x:Ob}(h:gh os f o=some x):o∉os/\f o=some x:=by
 unfold gh at h
 cases hm:fT os o with
 |true=>rw[hm]at h;cases h
 |
  false =>
  rw[hm]at h
  refine⟨fun ho=>?_,h⟩
  have:fT os o=true:=bT.2 ⟨o,ho,Nat.beq_refl o⟩
  rw[hm]at this;cases this
theorem cZ.base(g:cZ n A s a w M β){os:List Nat}{L:Nat}{βc:Lo}(hsrc:∀i b,i<L->dN βc i=some b->∃o x0,o∈os/\s.ob o=some x0/\x0.live=true/\dN β o=some b)
 {r:AV} {obs:List Ob} {v:Value} {M':Mem} {β':Lo} (h:Out w M βc L r obs v w' M' β'):cZ n A {s with ob:=gh os s.ob} a w' M' β:=by
 have cB:∀b,b<w.heap.size->¬(∃i,i<L/\dN βc i=some b)->w'.heap[b]?=w.heap[b]?:=fun b hb hn=>h.cB.block b hb hn
 have inA:∀b,(∃i,i<L/\dN βc i=some b)->A.w0.heap.size<=b\/A.uA b:=fun b ⟨i,hi,hb⟩=>by
  obtain⟨o,x0,_,h2,h3,h4⟩:=hsrc i b hi hb
  exact g.place o x0 b h2 h3 h4
 have un:∀o x b,s.ob o=some x->x.live=true->o∉os->dN β o=some b->¬∃i,i<L/\dN βc i=some b:=fun o x b hx hl ho hb ⟨i,hi,hb'⟩=>by
  obtain⟨o',x0,h1,h2,h3,h4⟩:=hsrc i b hi hb'
  exact g.apart o' o x0 x b (fun e=>ho (by rw[<-e];exact h1)) h2 h3 hx hl h4 hb
 refine {size:=g.size,defs:=g.defs,tm:=fun t=>(g.tm t).mono h.le (Lo.le.refl _),le:=g.le.trans h.le,new:=fun b k v hc=>?_,agree:=h.agree,own:=fun o x hx=>?_,place:=fun o x b hx=>?_,apart:=fun o o' x x' b hne hx hl hx'=>?_,us:=fun o hu=>?_,fix:=g.ER fun o y hy=>⟨y,(gy hy).2⟩,cB:=?_}
 ·rcases h.new b k v hc with h1|h1|h1
  ·exact g.new b k v h1
  ·exact .inr (.inl (Nat.le_trans g.cB.size h1))
  ·exact .inr (inA b h1)
 ·obtain⟨ho,hx⟩:=gy hx
  refine(g.own o x hx).mono h.le (Lo.le.refl _) fun b hl hb=>?_
  have hlt:=(g.own o x hx).lt hl hb
  have hn:=un o x b hx hl ho hb
  refine⟨cB b hlt hn,fun k=>?_⟩
  cases e:M'.c b k with
  |none=>rfl
  |
   some u =>
   rcases h.new b k u e with h1|h1|h1
   ·rw[(g.own o x hx).Aj hl hb k]at h1;cases h1
   ·omega
   ·exact absurd h1 hn
 ·exact g.place o x b (gy hx).2
 ·exact g.apart o o' x x' b hne (gy hx).2 hl (gy hx').2
 ·obtain⟨h1,h2⟩:=g.us o hu
  refine⟨h1,?_⟩
  show gh os s.ob o=none
  unfold gh;rw[h2];cases fT os o<;>rfl
 ·refine g.cB.jG h.cB.os h.cB.tape h.cB.output h.cB.size fun b hlt hn=>cB b (cX hlt g.cB.size) fun hh=>?_
  rcases inA b hh with h1|h1
  ·omega
  ·exact hn h1
end
end Go.VL
namespace Go.VL
open Go Go.RowKit
section
variable {P:Program} {M:Mem} {β:Lo} {w w':World} {n:Nat} {A:jP} {s:St} {a:Act}
theorem cZ.Nw(g:cZ n A s a w M β){m:Nat}{l:Loc}{x:Ob}(hm:s.ob m=none)(LL:β m=none\/β m=some l)(hfx:∀b,A.fix m=some b->l=b)(hx:Own M (cr β m (some l)) w m x)
 (hpl:∀b,l.block=some b->A.w0.heap.size<=b\/A.uA b) (hap:∀b,l.block=some b->x.live=true->∀o x',s.ob o=some x'->x'.live=true->dN β o≠some b) :
 cZ n A {s with ob:=cr s.ob m (some x),us:=cr s.us m true} a w M (cr β m (some l)):=by
 have hβ:Lo.le β (cr β m (some l)):=fun o q hq=>by
  by_cases ho:o=m
  ·subst ho
   rcases LL with h|h
   ·rw[h]at hq;cases hq
   ·rw[h]at hq;cases hq;exact aL _ _ _
  ·rw[aW _ _ _ _ ho];exact hq
 have hbd:∀o b,o≠m->dN (cr β m (some l)) o=some b->dN β o=some b:=fun o b ho hb=>by
  unfold dN at hb |-;rw[aW _ _ _ _ ho]at hb;exact hb
 have hdd:dN (cr β m (some l)) m=l.block:=by unfold dN;rw[aL];rfl
 have hob:∀o y,o≠m->cr s.ob m (some x) o=some y->s.ob o=some y:=fun o y ho hy=>by rw[aW _ _ _ _ ho]at hy;exact hy
 refine {size:=g.size,defs:=g.defs,tm:=fun t=>(g.tm t).mono (Mem.le.refl _) hβ,le:=g.le,new:=g.new,agree:=g.agree,own:=fun o y hy=>?_,place:=fun o y b hy hlv hb=>?_,apart:=?_,us:=fun o hu=>?_,fix:=fun o b hf=>?_,cB:=g.cB}
 ·by_cases ho:o=m
  ·subst ho
   have:x=y:=by simpa[aL]using hy
   subst this;exact hx
  ·have hy':=hob o y ho hy
   exact(g.own o y hy').mono (Mem.le.refl _) hβ fun b hlv hb=>⟨rfl,(g.own o y hy').Aj hlv hb⟩
 ·by_cases ho:o=m
  ·subst ho;rw[hdd]at hb;exact hpl b hb
  ·exact g.place o y b (hob o y ho hy) hlv (hbd o b ho hb)
 ·intro o o' y y' b hne hy hlv hy' hlv' hb hb'
  by_cases ho:o=m
  ·subst ho
   have:x=y:=by simpa[aL]using hy
   subst this
   rw[hdd]at hb
   exact hap b hb hlv o' y' (hob o' y' (Ne.symm hne) hy') hlv' (hbd o' b (Ne.symm hne) hb')
  ·by_cases ho':o'=m
   ·subst ho'
    have:x=y':=by simpa[aL]using hy'
    subst this
    rw[hdd]at hb'
    exact hap b hb' hlv' o y (hob o y ho hy) hlv (hbd o b ho hb)
   ·exact g.apart o o' y y' b hne (hob o y ho hy) hlv (hob o' y' ho' hy') hlv' (hbd o b ho hb) (hbd o' b ho' hb')
 ·by_cases ho:o=m
  ·subst ho
   have:({s with ob:=cr s.ob o (some x),us:=cr s.us o true}:St).us o=true:=aL _ _ _
   rw[this]at hu;cases hu
  ·have hu':s.us o=false:=by simpa[aW _ _ _ _ ho]using hu
   obtain⟨q1,q2⟩:=g.us o hu'
   refine⟨by rw[aW _ _ _ _ ho];exact q1,?_⟩
   show cr s.ob m (some x) o=none
   rw[aW _ _ _ _ ho];exact q2
 ·by_cases ho:o=m
  ·subst ho
   exact⟨aL _ _ _,fun _ _=>by rw[aL,hfx b hf]⟩
  ·obtain⟨q1,q2⟩:=g.fix o b hf
   exact⟨by rw[<-q1];exact aW _ _ _ _ ho,fun y hy=>by rw[aW _ _ _ _ ho];exact q2 y (hob o y ho hy)⟩
end
end Go.VL
namespace Go.VL
open Go Go.RowKit
section
variable {P:Program} {M:Mem} {β:Lo} {w w':World} {n:Nat} {A:jP} {s:St} {a:Act}
def np(s:St)(β:Lo)(w:World)(L:Nat)(βc:Lo)(obs:List Ob)(β':Lo)(tk:List Nat):Prop :=
 ∀o x b,s.ob o=some x->x.live=true->dN β o=some b->(b<w.heap.size/\¬∃i,i<L/\dN βc i=some b)\/∃q,q∈tk/\q<obs.length/\(obs.getD q .dead).live=true/\dN β' q=some b
theorem cZ.take(g:cZ n A s a w' M β){L:Nat}{βc:Lo}{M0:Mem}{r:AV}{obs:List Ob}{v:Value}{β':Lo}(ho:Out w M0 βc L r obs v w' M β')(hA:∀b,(w.heap.size<=b\/∃i,i<L/\dN βc i=some b)->A.w0.heap.size<=b\/A.uA b)
 {tk:List Nat} (hb:np s β w L βc obs β' tk) {q m:Nat} (hq:q<obs.length) (hqt:q∉tk) (hlive:(obs.getD q .dead).live=true) {l:Loc} (hl:β' q=some l) (hm:s.ob m=none) (hm0:β m=none\/β m=some l) (hfx:∀b,A.fix m=some b->l=b)
 {x:Ob} (hx:Own M (cr β m (some l)) w' m x) :
 cZ n A {s with ob:=cr s.ob m (some x),us:=cr s.us m true} a w' M (cr β m (some l))/\np {s with ob:=cr s.ob m (some x),us:=cr s.us m true} (cr β m (some l)) w L βc obs β' (q::tk):=by
 have hblk:∀b,l.block=some b->dN β' q=some b:=fun b hb=>by unfold dN;rw[hl];exact hb
 constructor
 ·refine g.Nw hm hm0 hfx hx (fun b hlb=>hA b ?_) fun b hlb _ o x' hox hl' hbo=>?_
  ·exact ho.place q b hq hlive (hblk b hlb)
  ·rcases hb o x' b hox hl' hbo with⟨h1,h2⟩|⟨q',h1,h2,h3,h4⟩
   ·rcases ho.place q b hq hlive (hblk b hlb)with h|h
    ·omega
    ·exact h2 h
   ·exact ho.apart q q' b (fun e=>hqt (by rw[e];exact h1)) hq h2 hlive h3 (hblk b hlb) h4
 ·intro o y b hy hly hbo
  by_cases e:o=m
  ·subst e
   have:dN (cr β o (some l)) o=l.block:=by unfold dN;rw[aL];rfl
   rw[this]at hbo
   exact .inr ⟨q,ag,hq,hlive,hblk b hbo⟩
  ·have hy':s.ob o=some y:=by simpa[aW _ _ _ _ e]using hy
   have hbo':dN β o=some b:=by unfold dN at hbo |-;rw[aW _ _ _ _ e]at hbo;exact hbo
   rcases hb o y b hy' hly hbo' with h|⟨q',h1,h2,h3,h4⟩
   ·exact .inl h
   ·exact .inr ⟨q',ai _ h1,h2,h3,h4⟩
theorem cZ.uj(g:cZ n A s a w' M β){L:Nat}{βc:Lo}{M0:Mem}{r:AV}{obs:List Ob}{v:Value}{β':Lo}(ho:Out w M0 βc L r obs v w' M β')(hA:∀b,(w.heap.size<=b\/∃i,i<L/\dN βc i=some b)->A.w0.heap.size<=b\/A.uA b)
 {tk:List Nat} (hb:np s β w L βc obs β' tk) {q m:Nat} (hq:q<obs.length) (hqt:q∉tk) {sz:Nat} {es:List (List AV)} (hob:obs.getD q .dead=.vec sz es) (hm:s.us m=false) :
 ∃l,cZ n A {s with ob:=cr s.ob m (some (.vec sz es)),us:=cr s.us m true} a w' M (cr β m (some l))/\np {s with ob:=cr s.ob m (some (.vec sz es)),us:=cr s.us m true} (cr β m (some l)) w L βc obs β' (q::tk) /\
  ∀v,bo M β' (.vec q) v->bo M (cr β m (some l)) (.vec m) v:=by
 have hown:=ho.own q hq
 rw[hob]at hown
 obtain⟨u,h1,h2,h3⟩:=hown
 obtain⟨q1,q2⟩:=g.us m hm
 obtain⟨r1,r2⟩:=cZ.take g ho hA hb hq hqt (by rw[hob];rfl) h1 q2 (.inl q1) (fun b hf=>by have:=(g.fix m b hf).1;rw[hm]at this;cases this) (x:=.vec sz es) ⟨u,aL _ _ _,h2,h3⟩
 refine⟨_,r1,r2,fun v hv=>?_⟩
 cases hv with
 |vec _ _ _ sz' hov hb=>rw[h1]at hb;cases hb;exact .vec _ _ _ _ hov (aL _ _ _)
theorem cZ.CA(g:cZ n A s a w' M β){L:Nat}{βc:Lo}{M0:Mem}{r:AV}{obs:List Ob}{v:Value}{β':Lo}(ho:Out w M0 βc L r obs v w' M β')(hA:∀b,(w.heap.size<=b\/∃i,i<L/\dN βc i=some b)->A.w0.heap.size<=b\/A.uA b)
 {tk:List Nat} (hb:np s β w L βc obs β' tk) {q m:Nat} (hq:q<obs.length) (hqt:q∉tk) {cs:List AV} (hob:obs.getD q .dead=.cells cs) {ks:List LK} (hlen:cs.length=ks.length) (hk:cc ks cs 0) (hm:s.us m=false) :
 ∃l,cZ n A {s with ob:=cr s.ob m (some (.cells (je ks cs 0))),us:=cr s.us m true} a w' M (cr β m (some l))/\∀v,bo M β' (.ref q 0) v->bo M (cr β m (some l)) (.ref m 0) v:=by
 have hown:=ho.own q hq
 rw[hob]at hown
 obtain⟨b,vs,e,h1,h2,h3,h4,h5,h6⟩:=hown
 obtain⟨q1,q2⟩:=g.us m hm
 obtain⟨r1,r2⟩:=cZ.take g ho hA hb hq hqt (by rw[hob];rfl) h1 q2 (.inl q1) (fun b hf=>by have:=(g.fix m b hf).1;rw[hm]at this;cases this) (x:=.cells (je ks cs 0))
  ⟨b,vs,e,aL _ _ _,h2,by rw[df];omega,fun i hi=>by
   rw[df]at hi
   have hg:=kp ks cs 0 i hk hi
   rw[kH ks cs 0 i hi]
   rw[aR]at hg |-
   exact LK.gR (km (h4 i (by omega)) hg) hg,h5,h6⟩
 refine⟨_,r1,fun v hv=>?_⟩
 cases hv with
 |ref _ _ _ b' hb=>rw[h1]at hb;cases hb;exact .ref _ _ _ _ (aL _ _ _)
end
end Go.VL
namespace Go.VL
open Go Go.RowKit
theorem oT:∀(l r:List Nat) (f:Nat->Bool),eM f (l++r)=eM (eM f l) r
 |[],r,f=>rfl
 |o::l,r,f=>oT l r _
theorem sR:∀(os:List Nat) (f:Nat->Option Ob),cx f (pN os)=gh os f
 |[],f=>by funext o;rfl
 |
  o::os,f=>by
  show cx (cr f o none) (pN os)=_
  rw[sR os]
  funext q
  unfold gh
  by_cases e:q=o
  ·subst e
   have:fT (q::os) q=true:=by simp[fT,List.any_cons,Nat.beq_refl]
   rw[this,aL];cases fT os q<;>rfl
  ·have:fT (o::os) q=fT os q:=by
    have h:aF q o=false:=by
     cases h:aF q o with
     |false=>rfl
     |true=>exact absurd (aC h) e
    simp[fT,List.any_cons,h]
   rw[this,aW _ _ _ _ e]
theorem od:∀(k nm m:Nat),m∈runN nm k↔nm<=m/\m<nm+k
 |0,nm,m=>by simp only[runN,List.not_mem_nil,false_iff];omega
 |k+1,nm,m=>by simp only[runN,aI,od k (nm+1) m];omega
theorem vC{f:Nat->Bool}{m:Nat}(h:f m=true):cr f m true=f:=by
 funext q
 by_cases e:q=m
 ·subst e;rw[aL,h]
 ·rw[aW _ _ _ _ e]
section
variable {P:Program} {M M0:Mem} {β β' βc:Lo} {w w':World} {n L:Nat} {A:jP} {s:St} {a:Act} {r:AV} {obs:List Ob} {v:Value}
theorem e9(obs:List Ob)(j:Nat):(obs.drop j).headD .dead=obs.getD j .dead:=by
 rw[List.headD_eq_head?_getD,List.head?_drop,aa]
theorem fA{obs:List Ob}{j:Nat}(h:obs.getD j .dead≠.dead):j<obs.length:=by
 rcases Nat.lt_or_ge j obs.length with h'|h'
 ·exact h'
 ·exact absurd (by simp[aa,h']) h
theorem ef(obs:List Ob)(j:Nat):(obs.drop j).tail=obs.drop (j+1):=by rw[List.tail_drop]
theorem k8(ho:Out w M0 βc L r obs v w' M β')(hA:∀b,(w.heap.size<=b\/∃i,i<L/\dN βc i=some b)->A.w0.heap.size<=b\/A.uA b){full:List AV}{E:Nat} :
 ∀(ks:List CK) (i j nm:Nat) {s:St} {β:Lo} {tk:List Nat},cZ n A s a w' M β->np s β w L βc obs β' tk->(∀q,j<=q->q∉tk)->aO ks full i j (obs.drop j)->(∀m,nm<=m->m<E->s.us m=false)->nm+bB ks<=E ->
 ∃β2 tk',cZ n A {s with ob:=cx s.ob (bE ks full i (obs.drop j) nm).2.1,us:=eM s.us (runN nm (bB ks))} a w' M β2/\np {s with ob:=cx s.ob (bE ks full i (obs.drop j) nm).2.1,us:=eM s.us (runN nm (bB ks))} β2 w L βc obs β' tk' /\
  (∀q,q∈tk'->q∈tk\/(j<=q/\q<j+bB ks))/\Lo.le β β2/\(bE ks full i (obs.drop j) nm).2.2=(obs.drop (j+bB ks),nm+bB ks)/\(bE ks full i (obs.drop j) nm).1.length=ks.length/\full.length=i+ks.length /\
  (∀q u,q<ks.length->bo M β' (full.getD (i+q) .any) u->bo M β2 ((bE ks full i (obs.drop j) nm).1.getD q .any) u) /\
  (∀m,¬(nm<=m/\m<nm+bB ks)->cx s.ob (bE ks full i (obs.drop j) nm).2.1 m=s.ob m/\eM s.us (runN nm (bB ks)) m=s.us m/\β2 m=β m)
 |[],i,j,nm,s,β,tk,g,hb,ht,hk,hf,hE=>⟨β,tk,g,hb,fun q hq=>.inl hq,Lo.le.refl _,rfl,rfl,hk,fun q u hq=>by simp at hq,fun m _=>⟨rfl,rfl,rfl⟩⟩
 |
  .lk k::ks,i,j,nm,s,β,tk,g,hb,ht,hk,hf,hE=>by
  obtain⟨hk1,hk2⟩:=hk
  obtain⟨β2,tk',c1,c2,c3,c4,c5,c6,c7,c8,c9⟩:=k8 ho hA ks (i+1) j nm g hb ht hk2 hf hE
  refine⟨β2,tk',c1,c2,c3,c4,c5,by simp[bE,c6],by simp;omega,fun q u hq hr=>?_,c9⟩
  cases q with
  |
   zero =>
   show bo M β2 ((k.cast (full.getD i .any)::_).getD 0 .any) u
   rw[bh]
   exact LK.gR (km (by simpa using hr) hk1) hk1
  |
   succ q =>
   have:=c8 q u (by simpa using hq) (by rw[show i+1+q=i+(q+1) by omega];exact hr)
   simpa[bE]using this
 |
  .vec h::ks,i,j,nm,s,β,tk,g,hb,ht,hk,hf,hE=>by
  obtain⟨hk1,hk2,hk3⟩:=hk
  rw[e9]at hk2
  rw[ef]at hk3
  have hE':nm+bB ks+1<=E:=by simp only[bB]at hE;omega
  have hj:j<obs.length:=fA (by rw[hk2];intro e;cases e)
  have hus:=hf nm (aq _) (by omega)
  obtain⟨l,g1,b1,r1⟩:=g.uj ho hA hb hj (ht j (aq _)) hk2 hus
  have hn:=(g.us nm hus).1
  have hle:Lo.le β (cr β nm (some l)):=fun o q hq=>by
   by_cases e:o=nm
   ·subst e;rw[hn]at hq;cases hq
   ·rw[aW _ _ _ _ e];exact hq
  obtain⟨β2,tk',c1,c2,c3,c4,c5,c6,c7,c8,c9⟩:=k8 ho hA ks (i+1) (j+1) (nm+1) (E:=E) g1 b1 (fun q hq hq'=>by
   rcases aI.1 hq' with rfl|h
   ·omega
   ·exact ht q (by omega) h) hk3 (fun m h1 h2=>by
    show cr s.us nm true m=false
    rw[aW _ _ _ _ (by omega)];exact hf m (by omega) h2) (by omega)
  have eb:bE (.vec h::ks) full i (obs.drop j) nm=(.vec nm::(bE ks full (i+1) (obs.drop (j+1)) (nm+1)).1,(nm,some (.vec h ((obs.getD j .dead).es)))::(bE ks full (i+1) (obs.drop (j+1)) (nm+1)).2.1,(bE ks full (i+1) (obs.drop (j+1)) (nm+1)).2.2):=by
   rw[<-e9,<-ef];rfl
  rw[eb]
  refine⟨β2,tk',c1,c2,fun q hq=>?_,fun o q hq=>c4 o q (hle o q hq),?_,by simp[c6],by simp;omega,fun q u hq hr=>?_,fun m hm=>?_⟩
  ·rcases c3 q hq with h|h
   ·rcases aI.1 h with rfl|h
    ·exact .inr ⟨aq _,by simp[bB]⟩
    ·exact .inl h
   ·exact .inr ⟨by omega,by simp only[bB];omega⟩
  ·rw[c5];simp only[bB]
   rw[show j+1+bB ks=j+(bB ks+1) by omega,show nm+1+bB ks=nm+(bB ks+1) by omega]
  ·cases q with
   |
    zero =>
    rw[bh]
    rw[bM,hk1]at hr
    exact(r1 u hr).mono (Mem.le.refl _) c4
   |
    succ q =>
    have:=c8 q u (by simpa using hq) (by rw[show i+1+q=i+(q+1) by omega];exact hr)
    simpa using this
  ·simp only[bB]at hm
   obtain⟨d1,d2,d3⟩:=c9 m (by omega)
   have hne:m≠nm:=by omega
   refine⟨?_,?_,?_⟩
   ·show cx (cr s.ob nm _) _ m=_
    refine d1.trans ?_
    exact aW _ _ _ _ hne
   ·show eM (cr s.us nm true) _ m=_
    refine d2.trans ?_
    exact aW _ _ _ _ hne
   ·rw[d3,aW _ _ _ _ hne]
def en:List MK->Nat
 |[]=>0
 | .vec::ms=>en ms+1
 | .ve kz::ms=>en ms+1
 | .cB _ _::ms=>en ms+1
 | .obj ks::ms=>en ms+1+bB ks
def lS:List MK->Nat
 |[]=>0
 | .vec::ms=>lS ms
 | .ve kz::ms=>lS ms
 | .cB _ _::ms=>lS ms
 | .obj ks::ms=>bB ks+lS ms
theorem iJ:∀(ms:List MK) (obs:List Ob),dK ms obs=true->obs.length=en ms
 |[],[],_=>rfl
 |[],_::_,h=>by cases h
 |
  .vec::ms,obs,h=>by
  cases obs with
  |nil=>cases h
  |cons x obs=>cases x<;>first|(cases h;done)|simp[en,iJ ms obs h]
 |
  .ve kz::ms,obs,h=>by
  cases obs with
  |nil=>cases h
  |cons x obs=>cases x<;>first|(cases h;done)|simp[en,iJ ms obs h]
 |
  .cB g ks::ms,obs,h=>by
  cases obs with
  |nil=>cases h
  |
   cons x obs =>
   cases x<;>first|(cases h;done)|skip
   simp only[dK,au]at h
   simp[en,iJ ms obs h.2]
 |
  .obj ks::ms,obs,h=>by
  cases obs with
  |nil=>cases h
  |
   cons x obs =>
   cases x<;>first|(cases h;done)|skip
   simp only[dK,au]at h
   have:=iJ ms _ h.2
   have h1:=aN h.1.1
   simp only[bI]at this
   simp only[aw,en];omega
theorem jA:∀(ms:List MK) (obs:List Ob) (j:Nat),dK ms obs=true->∀q cs,q<obs.length->obs.getD q .dead=.cells cs->j+q∈ph ms j
 |[],[],j,_,q,cs,hq,_=>by simp at hq
 |[],_::_,_,h,_,_,_,_=>by cases h
 |
  .vec::ms,obs,j,h,q,cs,hq,hc=>by
  cases obs with
  |nil=>cases h
  |
   cons x obs =>
   cases x<;>first|(cases h;done)|skip
   cases q with
   |zero=>cases hc
   |
    succ q =>
    have:=jA ms obs (j+1) h q cs (by simpa using hq) (by simpa using hc)
    rw[show j+(q+1)=j+1+q by omega];exact this
 |
  .ve kz::ms,obs,j,h,q,cs,hq,hc=>by
  cases obs with
  |nil=>cases h
  |
   cons x obs =>
   cases x<;>first|(cases h;done)|skip
   cases q with
   |zero=>cases hc
   |
    succ q =>
    have:=jA ms obs (j+1) h q cs (by simpa using hq) (by simpa using hc)
    rw[show j+(q+1)=j+1+q by omega];exact this
 |
  .cB g ks::ms,obs,j,h,q,cs,hq,hc=>by
  cases obs with
  |nil=>cases h
  |
   cons x obs =>
   cases x<;>first|(cases h;done)|skip
   simp only[dK,au]at h
   cases q with
   |zero=>cases hc
   |
    succ q =>
    have:=jA ms obs (j+1) h.2 q cs (by simpa using hq) (by simpa using hc)
    rw[show j+(q+1)=j+1+q by omega];exact ai _ this
 |
  .obj ks::ms,obs,j,h,q,cs,hq,hc=>by
  cases obs with
  |nil=>cases h
  |
   cons x obs =>
   cases x<;>first|(cases h;done)|skip
   simp only[dK,au]at h
   obtain⟨⟨h1,h2⟩,h3⟩:=h
   have h1:=aN h1
   cases q with
   |zero=>exact ag
   |
    succ q =>
    have hq':q<obs.length:=by simpa using hq
    have hc':obs.getD q .dead=.cells cs:=by simpa using hc
    by_cases hlt:q<bB ks
    ·exfalso
     rw[bH]at h2
     have hm:obs.getD q .dead∈obs.take (bB ks):=by
      have:obs.getD q .dead=obs[q]:=by simp[aa,hq']
      rw[this]
      exact List.mem_take_iff_getElem.2 ⟨q,by omega,rfl⟩
     have:=h2 _ hm
     rw[hc']at this;cases this
    ·have:=jA ms _ (j+1+bB ks) h3 (q-bB ks) cs (by simp only[bI];omega) (by
      rw[<-hc']
      simp[aa,cm,show bB ks+(q-bB ks)=q by omega])
     rw[show j+(q+1)=j+1+bB ks+(q-bB ks) by omega]
     exact ai _ this
theorem gK:∀(ms:List MK) (obs:List Ob),dK ms obs=true->∀q,q<obs.length->(obs.getD q .dead).live=true
 |[],[],_,q,hq=>by simp at hq
 |[],_::_,h,_,_=>by cases h
 |
  .vec::ms,obs,h,q,hq=>by
  cases obs with
  |nil=>cases h
  |
   cons x obs =>
   cases x<;>first|(cases h;done)|skip
   cases q with
   |zero=>rfl
   |succ q=>simpa using gK ms obs h q (by simpa using hq)
 |
  .ve kz::ms,obs,h,q,hq=>by
  cases obs with
  |nil=>cases h
  |
   cons x obs =>
   cases x<;>first|(cases h;done)|skip
   cases q with
   |zero=>rfl
   |succ q=>simpa using gK ms obs h q (by simpa using hq)
 |
  .cB g ks::ms,obs,h,q,hq=>by
  cases obs with
  |nil=>cases h
  |
   cons x obs =>
   cases x<;>first|(cases h;done)|skip
   simp only[dK,au]at h
   cases q with
   |zero=>rfl
   |succ q=>simpa using gK ms obs h.2 q (by simpa using hq)
 |
  .obj ks::ms,obs,h,q,hq=>by
  cases obs with
  |nil=>cases h
  |
   cons x obs =>
   cases x<;>first|(cases h;done)|skip
   simp only[dK,au]at h
   obtain⟨⟨h1,h2⟩,h3⟩:=h
   cases q with
   |zero=>rfl
   |
    succ q =>
    have hq':q<obs.length:=by simpa using hq
    show (obs.getD q .dead).live=true
    by_cases hlt:q<bB ks
    ·rw[bH]at h2
     have e:obs.getD q .dead=obs[q]:=by simp[aa,hq']
     have:=h2 obs[q] (List.mem_take_iff_getElem.2 ⟨q,by omega,rfl⟩)
     rw[e]
     cases hx:obs[q]<;>rw[hx]at this<;>first|(cases this;done)|rfl
    ·have:=gK ms _ h3 (q-bB ks) (by simp only[bI];omega)
     rw[<-this]
     simp[aa,cm,show bB ks+(q-bB ks)=q by omega]
theorem nO:∀(ms:List MK) (j q:Nat),q∈ph ms j->j<=q/\q<j+en ms
 |[],j,q,h=>by cases h
 |
  .vec::ms,j,q,h=>by
  have:=nO ms _ _ h
  simp only[en];omega
 |
  .ve kz::ms,j,q,h=>by
  have:=nO ms _ _ h
  simp only[en];omega
 |
  .cB g ks::ms,j,q,h=>by
  simp only[en]
  rcases aI.1 h with rfl|h
  ·omega
  ·have:=nO ms _ _ h
   omega
 |
  .obj ks::ms,j,q,h=>by
  simp only[en]
  rcases aI.1 h with rfl|h
  ·omega
  ·have:=nO ms _ _ h
   omega
def HP(A:jP)(s:St)(β βc:Lo)(fx:Nat->Prop)(os:List Nat)(j:Nat):Prop :=
 ∀q b,q<os.length->fx (j+q)->βc (j+q)=some b->s.ob (os.getD q 0)=none/\s.us (os.getD q 0)=true/\β (os.getD q 0)=some b/\∀b',A.fix (os.getD q 0)=some b'->b'=b
theorem HP.drop{fx:Nat->Prop}{os:List Nat}{j:Nat}(h:HP A s β βc fx os j)(k:Nat):HP A s β βc fx (os.drop k) (j+k):=fun q b hq hx hb=>by
 simp only[bI]at hq
 have:=h (k+q) b (by omega) (by rw[show j+(k+q)=j+k+q by omega];exact hx) (by rw[show j+(k+q)=j+k+q by omega];exact hb)
 have e:(os.drop k).getD q 0=os.getD (k+q) 0:=by simp[aa,cm]
 rw[e];exact this
theorem lI:∀(k:Nat) {os:List Nat},nodup os=true->nodup (os.drop k)=true
 |0,os,h=>h
 |k+1,[],h=>by simpa using h
 |k+1,o::os,h=>by simpa using lI k (nodup_cons h).2
theorem jS(ho:Out w M0 βc L r obs v w' M β')(hA:∀b,(w.heap.size<=b\/∃i,i<L/\dN βc i=some b)->A.w0.heap.size<=b\/A.uA b){ins:List Ob}(hL:ins.length=L)(hin:∀j,j<L->Own M0 βc w j (ins.getD j .dead)){E:Nat}{fx:Nat->Prop} :
 ∀(ms:List MK) (os:List Nat) (j nm:Nat) {s:St} {β:Lo} {tk:List Nat},cZ n A s a w' M β->np s β w L βc obs β' tk->(∀q,j<=q->q∉tk)->dK ms (ins.drop j)=true->os.length=en ms->nodup os=true->HP A s β βc fx os j->(∀q,q∈ph ms j->fx q) ->
  gu (dj ms os (obs.drop j) j nm).1->(∀m,nm<=m->m<E->s.us m=false)->nm+lS ms<=E ->
 ∃β2 tk',cZ n A {s with ob:=cx s.ob (dj ms os (obs.drop j) j nm).2.1,us:=eM s.us (sx ms nm)} a w' M β2/\np {s with ob:=cx s.ob (dj ms os (obs.drop j) j nm).2.1,us:=eM s.us (sx ms nm)} β2 w L βc obs β' tk' /\
  (∀q,q∈tk'->q∈tk\/q<j+en ms)/\(dj ms os (obs.drop j) j nm).2.2=(obs.drop (j+en ms),nm+lS ms)/\(∀m,nm+lS ms<=m->m<E->eM s.us (sx ms nm) m=false)
 |[],os,j,nm,s,β,tk,g,hb,ht,hal,hol,hnd,hp,hfm,hk,hf,hE=>⟨β,tk,g,hb,fun q hq=>.inl hq,rfl,fun m h1 h2=>hf m h1 h2⟩
 |
  .vec::ms,os,j,nm,s,β,tk,g,hb,ht,hal,hol,hnd,hp,hfm,hk,hf,hE=>by
  have hal':dK ms (ins.drop (j+1))=true:=by
   rw[<-ef]
   cases e:ins.drop j with
   |nil=>rw[e]at hal;cases hal
   |cons x xs=>rw[e]at hal;cases x<;>first|(cases hal;done)|exact hal
  have et:os.tail=os.drop 1:=by rw[List.drop_one]
  have eb:dj (.vec::ms) os (obs.drop j) j nm=dj ms (os.drop 1) (obs.drop (j+1)) (j+1) nm:=by
   rw[<-ef,<-et];rfl
  rw[eb]at hk |-
  obtain⟨β2,tk',c1,c2,c3,c4,c5⟩:=jS ho hA hL hin ms (os.drop 1) (j+1) nm g hb (fun q hq=>ht q (by omega)) hal' (by simp[hol,en]) (lI 1 hnd) (hp.drop 1) hfm hk hf hE
  refine⟨β2,tk',c1,c2,fun q hq=>?_,by rw[c4];simp only[en];rw[show j+1+en ms=j+(en ms+1) by omega];rfl,c5⟩
  rcases c3 q hq with h|h
  ·exact .inl h
  ·exact .inr (by simp only[en];omega)
 |
  .ve kz::ms,os,j,nm,s,β,tk,g,hb,ht,hal,hol,hnd,hp,hfm,hk,hf,hE=>by
  have hal':dK ms (ins.drop (j+1))=true:=by
   rw[<-ef]
   cases e:ins.drop j with
   |nil=>rw[e]at hal;cases hal
   |cons x xs=>rw[e]at hal;cases x<;>first|(cases hal;done)|exact hal
  have et:os.tail=os.drop 1:=by rw[List.drop_one]
  have eb:dj (.ve kz::ms) os (obs.drop j) j nm=dj ms (os.drop 1) (obs.drop (j+1)) (j+1) nm:=by
   rw[<-ef,<-et];rfl
  rw[eb]at hk |-
  obtain⟨β2,tk',c1,c2,c3,c4,c5⟩:=jS ho hA hL hin ms (os.drop 1) (j+1) nm g hb (fun q hq=>ht q (by omega)) hal' (by simp[hol,en]) (lI 1 hnd) (hp.drop 1) hfm hk hf hE
  refine⟨β2,tk',c1,c2,fun q hq=>?_,by rw[c4];simp only[en];rw[show j+1+en ms=j+(en ms+1) by omega];rfl,c5⟩
  rcases c3 q hq with h|h
  ·exact .inl h
  ·exact .inr (by simp only[en];omega)
 |
  .cB gg ks::ms,os,j,nm,s,β,tk,g,hb,ht,hal,hol,hnd,hp,hfm,hk,hf,hE=>by
  have hins:∃es0,ins.getD j .dead=.vec (ld ks) es0/\j<L/\dK ms (ins.drop (j+1))=true:=by
   cases e:ins.drop j with
   |nil=>rw[e]at hal;cases hal
   |
    cons x xs =>
    rw[e]at hal
    cases x<;>first|(cases hal;done)|skip
    rename_i z es0
    simp only[dK,au]at hal
    have hz:=aC hal.1
    have e1:ins.getD j .dead=.vec z es0:=by rw[<-e9,e];rfl
    have e2:xs=ins.drop (j+1):=by rw[<-ef,e];rfl
    exact⟨es0,by rw[e1,hz],by rw[<-hL];exact fA (by rw[e1];intro h;cases h),by rw[<-e2];exact hal.2⟩
  obtain⟨es0,i1,i2,hal'⟩:=hins
  have hown0:=hin j i2
  rw[i1]at hown0
  obtain⟨v0,q0,_⟩:=hown0
  simp only[en]at hol
  cases os with
  |nil=>simp only[aE]at hol;omega
  |
   cons p os =>
   have eb:dj (.cB gg ks::ms) (p::os) (obs.drop j) j nm=((obs.getD j .dead=.mC (ld ks) (obs.getD j .dead).es)::(dj ms os (obs.drop (j+1)) (j+1) nm).1,(p,some (.vec (ld ks) (obs.getD j .dead).es))::(dj ms os (obs.drop (j+1)) (j+1) nm).2.1,(dj ms os (obs.drop (j+1)) (j+1) nm).2.2):=by
    rw[<-e9,<-ef];rfl
   rw[eb]at hk |-
   obtain⟨hk1,hk3⟩:=hk
   have hj:j<obs.length:=fA (by rw[hk1];intro e;cases e)
   generalize hes:(obs.getD j .dead).es=es at *
   obtain⟨p1,p2,p3,p4⟩:=hp 0 _ (by simp) (hfm _ ag) (by rw[bM];exact q0)
   simp only[bh]at p1 p2 p3 p4
   have hsame:=ho.BR j _ _ _ i2 q0 hk1
   have hown:=ho.own j hj
   rw[hk1]at hown
   obtain⟨u,o1,o2,o3⟩:=hown
   rw[hsame]at o1;cases o1
   have hupd:cr β p (some (.vec v0 (ld ks)))=β:=by
    funext q
    by_cases e:q=p
    ·subst e;rw[aL,p3]
    ·rw[aW _ _ _ _ e]
   obtain⟨g2,b2⟩:=g.take ho hA hb hj (ht j (aq _)) (by rw[hk1];rfl) hsame (m:=p) p1 (.inr p3) (fun b' hb'=>(p4 b' hb').symm) (x:=.vec (ld ks) es) ⟨_,aL _ _ _,o2,o3⟩
   rw[hupd]at g2 b2
   have hus:cr s.us p true=s.us:=vC p2
   simp only[hus]at g2 b2
   obtain⟨n1,n2⟩:=nodup_cons hnd
   obtain⟨β2,tk',e1,e2,e3,e4,e5⟩:=jS ho hA hL hin ms os (j+1) nm g2 b2 (fun q hq hq'=>by
    rcases aI.1 hq' with rfl|h
    ·omega
    ·exact ht q (by omega) h) hal' (by simp at hol;omega) n2 (fun q b hq hx hb=>by
    have hd:=(hp.drop 1) q b (by simpa using hq) hx hb
    have eo:((p::os).drop 1).getD q 0=os.getD q 0:=rfl
    rw[eo]at hd
    have hxp:os.getD q 0≠p:=fun e=>n1 (by
     rw[<-e]
     have:os.getD q 0=os[q]:=by simp[aa,hq]
     rw[this];exact bY _)
    obtain⟨x1,x2,x3,x4⟩:=hd
    refine⟨?_,x2,x3,x4⟩
    show cr s.ob p _ _=none
    rw[aW _ _ _ _ hxp];exact x1) (fun q hq=>hfm q (ai _ hq)) hk3 hf hE
   refine⟨β2,tk',e1,e2,fun q hq=>?_,by rw[e4];simp only[en];rw[show j+1+en ms=j+(en ms+1) by omega];rfl,e5⟩
   rcases e3 q hq with h|h
   ·rcases aI.1 h with rfl|h
    ·exact .inr (by simp only[en];omega)
    ·exact .inl h
   ·exact .inr (by simp only[en];omega)
 |
  .obj ks::ms,os,j,nm,s,β,tk,g,hb,ht,hal,hol,hnd,hp,hfm,hk,hf,hE=>by
  have hins:∃cs,ins.getD j .dead=.cells cs/\j<L/\dK ms (ins.drop (j+1+bB ks))=true:=by
   cases e:ins.drop j with
   |nil=>rw[e]at hal;cases hal
   |
    cons x xs =>
    rw[e]at hal
    cases x<;>first|(cases hal;done)|skip
    rename_i cs
    simp only[dK,au]at hal
    have e1:ins.getD j .dead=.cells cs:=by rw[<-e9,e];rfl
    refine⟨cs,e1,by rw[<-hL];exact fA (by rw[e1];intro h;cases h),?_⟩
    have e2:xs=ins.drop (j+1):=by rw[<-ef,e];rfl
    have:=hal.2
    rw[e2,List.drop_drop]at this
    exact this
  obtain⟨cs0,i1,i2,hal'⟩:=hins
  have hown0:=hin j i2
  rw[i1]at hown0
  obtain⟨b0,_,_,q0,_⟩:=hown0
  simp only[en]at hol
  cases os with
  |nil=>simp only[aE]at hol;omega
  |
   cons p os =>
   have eb:dj (.obj ks::ms) (p::os) (obs.drop j) j nm =
    ((
     (obs.drop j).headD .dead=.cells ((obs.drop j).headD .dead).cs)::aO ks ((obs.drop j).headD .dead).cs 0 (j+1) (obs.drop j).tail::(dj ms ((p::os).drop (bB ks+1)) (bE ks ((obs.drop j).headD .dead).cs 0 (obs.drop j).tail nm).2.2.1 (j+1+bB ks) (bE ks ((obs.drop j).headD .dead).cs 0 (obs.drop j).tail nm).2.2.2).1,
     (bE ks ((obs.drop j).headD .dead).cs 0 (obs.drop j).tail nm).2.1++(p,some (.cells (bE ks ((obs.drop j).headD .dead).cs 0 (obs.drop j).tail nm).1))::(dj ms ((p::os).drop (bB ks+1)) (bE ks ((obs.drop j).headD .dead).cs 0 (obs.drop j).tail nm).2.2.1 (j+1+bB ks) (bE ks ((obs.drop j).headD .dead).cs 0 (obs.drop j).tail nm).2.2.2).2.1,
     (dj ms ((p::os).drop (bB ks+1)) (bE ks ((obs.drop j).headD .dead).cs 0 (obs.drop j).tail nm).2.2.1 (j+1+bB ks) (bE ks ((obs.drop j).headD .dead).cs 0 (obs.drop j).tail nm).2.2.2).2.2):=rfl
   rw[e9,ef]at eb
   rw[eb]at hk |-
   obtain⟨hk1,hk2,hk3⟩:=hk
   have hj:j<obs.length:=fA (by rw[hk1];intro e;cases e)
   generalize hfull:(obs.getD j .dead).cs=full at *
   have hcE:nm+bB ks+lS ms<=E:=by simp only[lS]at hE;omega
   obtain⟨β1,tk1,c1,c2,c3,c4,c5,c6,c7,c8,c9⟩:=k8 ho hA (E:=E) ks 0 (j+1) nm g hb (fun q hq=>ht q (by omega)) hk2 hf (by omega)
   rw[c5]at hk3 |-
   simp only at hk3 |-
   obtain⟨p1,p2,p3,p4⟩:=hp 0 _ (by simp) (hfm _ ag) (by rw[bM];exact q0)
   simp only[bh]at p1 p2 p3 p4
   have hpn:¬(nm<=p/\p<nm+bB ks):=fun h=>by have:=hf p h.1 (by omega);rw[p2]at this;cases this
   obtain⟨d1,d2,d3⟩:=c9 p hpn
   have hsame:=ho.same j b0 i2 q0
   have hown:=ho.own j hj
   rw[hk1]at hown
   obtain⟨b,vs,e,o1,o2,o3,o4,o5,o6⟩:=hown
   rw[hsame]at o1;cases o1
   have hβp:β1 p=some (.cells b0):=by rw[d3];exact p3
   have hupd:cr β1 p (some (.cells b0))=β1:=by
    funext q
    by_cases e:q=p
    ·subst e;rw[aL,hβp]
    ·rw[aW _ _ _ _ e]
   have o3':vs.size=full.length:=o3
   obtain⟨g2,b2⟩:=c1.take ho hA c2 hj (fun h=>by
    rcases c3 j h with h|h
    ·exact ht j (aq _) h
    ·omega) (by rw[hk1];rfl) hsame (m:=p) (by exact d1.trans p1) (.inr hβp) (fun b' hb'=>(p4 b' hb').symm)
    (x:=.cells (bE ks full 0 (obs.drop (j+1)) nm).1)
    ⟨b0,vs,e,aL _ _ _,o2,by rw[o3',c6,c7];omega,fun i hi=>by
     rw[hupd]
     have:=o4 i (by
      rw[c6]at hi;have:i<full.length:=by omega
      exact this)
     exact c8 i _ (by omega) (by rw[aR];exact this),o5,o6⟩
   rw[hupd]at g2 b2
   have hus:cr (eM s.us (runN nm (bB ks))) p true=eM s.us (runN nm (bB ks)):=vC (d2.trans p2)
   simp only[hus]at g2 b2
   have hn2:=nodup_cons hnd
   obtain⟨β2,tk',e1,e2,e3,e4,e5⟩:=jS ho hA hL hin ms ((p::os).drop (bB ks+1)) (j+1+bB ks) (nm+bB ks) g2 b2 (fun q hq hq'=>by
    rcases aI.1 hq' with rfl|h
    ·omega
    ·rcases c3 q h with h|h
     ·exact ht q (by omega) h
     ·omega) hal' (by simp at hol |-;omega) (lI _ hnd) (fun q b hq hx hb=>by
    have hd:=(hp.drop (bB ks+1)) q b hq (by rw[show j+(bB ks+1)+q=j+1+bB ks+q by omega];exact hx) (by rw[show j+(bB ks+1)+q=j+1+bB ks+q by omega];exact hb)
    generalize hx:((p::os).drop (bB ks+1)).getD q 0=x at hd |-
    have hxp:x≠p:=fun e=>by
     subst e
     apply hn2.1
     rw[<-hx]
     simp only[List.drop_succ_cons,bI,aw]at hq |-
     have:(os.drop (bB ks)).getD q 0=os[bB ks+q]'(by omega):=by simp[aa,cm,show bB ks+q<os.length by omega]
     rw[this];exact bY _
    obtain⟨x1,x2,x3,x4⟩:=hd
    have hxn:¬(nm<=x/\x<nm+bB ks):=fun h=>by have:=hf x h.1 (by omega);rw[x2]at this;cases this
    obtain⟨y1,y2,y3⟩:=c9 x hxn
    refine⟨?_,y2.trans x2,by rw[y3];exact x3,x4⟩
    show cr _ p _ x=none
    rw[aW _ _ _ _ hxp];exact y1.trans x1) (fun q hq=>hfm q (ai _ hq)) hk3 (fun m h1 h2=>by
    obtain⟨_,y2,_⟩:=c9 m (by omega)
    exact y2.trans (hf m (by omega) h2)) (by omega)
   have eob:cx s.ob ((bE ks full 0 (obs.drop (j+1)) nm).2.1++(p,some (.cells (bE ks full 0 (obs.drop (j+1)) nm).1))::(dj ms ((p::os).drop (bB ks+1)) (obs.drop (j+1+bB ks)) (j+1+bB ks) (nm+bB ks)).2.1) =
    cx (cr (cx s.ob (bE ks full 0 (obs.drop (j+1)) nm).2.1) p (some (.cells (bE ks full 0 (obs.drop (j+1)) nm).1))) (dj ms ((p::os).drop (bB ks+1)) (obs.drop (j+1+bB ks)) (j+1+bB ks) (nm+bB ks)).2.1:=by rw[ml];rfl
   have eus:eM s.us (sx (.obj ks::ms) nm)=eM (eM s.us (runN nm (bB ks))) (sx ms (nm+bB ks)):=oT _ _ _
   rw[eob,eus]
   refine⟨β2,tk',e1,e2,fun q hq=>?_,?_,fun m h1 h2=>e5 m (by simp only[lS]at h1;omega) h2⟩
   ·rcases e3 q hq with h|h
    ·rcases aI.1 h with rfl|h
     ·exact .inr (by simp only[en];omega)
     ·rcases c3 q h with h|h
      ·exact .inl h
      ·exact .inr (by simp only[en];omega)
    ·exact .inr (by simp only[en];omega)
   ·rw[e4];simp only[en,lS]
    rw[show j+1+bB ks+en ms=j+(en ms+1+bB ks) by omega,show nm+bB ks+lS ms=nm+(bB ks+lS ms) by omega]
end
end Go.VL
namespace Go.VL
open Go Go.RowKit
section
variable {P:Program} {M M0:Mem} {β β' βc:Lo} {w w':World} {n L:Nat} {A:jP} {s:St} {a:Act} {r:AV} {obs:List Ob} {v:Value}
theorem CL(g:cZ n A s a w M β){m:Nat}(h:s.us m=false)(l:Loc):Lo.le β (cr β m (some l)):=fun o q hq=>by
 by_cases e:o=m
 ·subst e;rw[(g.us o h).1]at hq;cases hq
 ·rw[aW _ _ _ _ e];exact hq
theorem dD:∀(ks:List CK) (cs:List AV) (i:Nat) (obs:List Ob) (nm:Nat),(bE ks cs i obs nm).2.1.map (·.1)=runN nm (bB ks)/\(bE ks cs i obs nm).2.2.2=nm+bB ks
 |[],cs,i,obs,nm=>⟨rfl,rfl⟩
 | .lk k::ks,cs,i,obs,nm=>dD ks cs (i+1) obs nm
 |
  .vec h::ks,cs,i,obs,nm=>by
  obtain⟨h1,h2⟩:=dD ks cs (i+1) obs.tail (nm+1)
  refine⟨?_,?_⟩
  ·show nm::(bE ks cs (i+1) obs.tail (nm+1)).2.1.map (·.1)=_
   rw[h1];rfl
  ·show (bE ks cs (i+1) obs.tail (nm+1)).2.2.2=_
   rw[h2];simp only[bB];omega
theorem lD:∀(ks:List CK) (cs:List AV) (i:Nat) (obs:List Ob) (nm:Nat),(bE ks cs i obs nm).2.2=(obs.drop (bB ks),nm+bB ks)
 |[],cs,i,obs,nm=>rfl
 | .lk k::ks,cs,i,obs,nm=>lD ks cs (i+1) obs nm
 |
  .vec h::ks,cs,i,obs,nm=>by
  show (bE ks cs (i+1) obs.tail (nm+1)).2.2=_
  rw[lD ks cs (i+1) obs.tail (nm+1)]
  simp only[bB]
  rw[<-List.drop_one,List.drop_drop,show 1+bB ks=bB ks+1 by omega,show nm+1+bB ks=nm+(bB ks+1) by omega]
theorem nJ{T:ep}{own:List Nat}{oa:List CK}:∀(ts:List Nat) (i j nm:Nat) (o:List Ob) (m:Nat),m∈(ec T own oa r ts i j o nm).2.2.map (·.1)->nm<=m
 |[],i,j,nm,o,m,hm=>by simp[ec]at hm
 |
  t::ts,i,j,nm,o,m,hm=>by
  simp only[ec]at hm
  cases ho:own.any (aF i)with
  |
   true =>
   rw[ho]at hm
   cases ha:(T t).agg with
   |
    true =>
    rw[ha]at hm
    simp only[cond_true,bV,aH,lD]at hm
    rw[(dD _ _ _ _ _).1,od]at hm
    rcases hm with hm|hm
    ·exact hm.1
    ·have:=nJ _ _ _ _ _ _ hm;omega
   |
    false =>
    rw[ha]at hm
    simp only[cond_true,cond_false,a6,aI]at hm
    rcases hm with rfl|hm
    ·exact aq _
    ·exact Nat.le_of_succ_le (nJ _ _ _ _ _ _ hm)
  |false=>rw[ho]at hm;exact nJ _ _ _ _ _ _ hm
theorem vm{oa:List CK}(ho:Out w M0 βc L r obs v w' M β')(hA:∀b,(w.heap.size<=b\/∃i,i<L/\dN βc i=some b)->A.w0.heap.size<=b\/A.uA b)(x:AV)(j nm:Nat){s:St}{β:Lo}{tk:List Nat}(g:cZ n A s a w' M β)(hb:np s β w L βc obs β' tk)(ht:∀q,j<=q->q∉tk)
 (hp:x=.agg x.cs/\aO oa x.cs 0 j (obs.drop j)) (hf:∀m,m∈(bE oa x.cs 0 (obs.drop j) nm).2.1.map (·.1)->s.us m=false) :
 ∃β2 tk',cZ n A {s with ob:=cx s.ob (bE oa x.cs 0 (obs.drop j) nm).2.1,us:=eM s.us ((bE oa x.cs 0 (obs.drop j) nm).2.1.map (·.1))} a w' M β2/\np {s with ob:=cx s.ob (bE oa x.cs 0 (obs.drop j) nm).2.1,us:=eM s.us ((bE oa x.cs 0 (obs.drop j) nm).2.1.map (·.1))} β2 w L βc obs β' tk' /\
  (∀q,q∈tk'->q∈tk\/(j<=q/\q<j+bB oa))/\Lo.le β β2/\(∀u,bo M β' x u->bo M β2 (.agg (bE oa x.cs 0 (obs.drop j) nm).1) u)/\∀m,nm+bB oa<=m->eM s.us ((bE oa x.cs 0 (obs.drop j) nm).2.1.map (·.1)) m=s.us m:=by
 rw[(dD _ _ _ _ _).1]at hf |-
 obtain⟨β2,tk',c1,c2,c3,c4,c5,c6,c7,c8,c9⟩:=k8 ho hA (E:=nm+bB oa) oa 0 j nm g hb ht hp.2 (fun m h1 h2=>hf m ((od _ _ _).2 ⟨h1,h2⟩)) (aq _)
 refine⟨β2,tk',c1,c2,c3,c4,fun u hu=>?_,fun m hm=>(c9 m (by omega)).2.1⟩
 rw[hp.1]at hu
 obtain⟨us,rfl,hl,hr,hone⟩:=fJ hu
 refine .agg _ _ _ (by omega) (fun i hi=>hone i (by omega)) fun i hi=>?_
 have:=c8 i (us.getD i undef) (by omega) (by rw[aR];exact hr i (by omega))
 exact this
theorem mL{T:ep}{own:List Nat}{oa:List CK}(ho:Out w M0 βc L r obs v w' M β')(hA:∀b,(w.heap.size<=b\/∃i,i<L/\dN βc i=some b)->A.w0.heap.size<=b\/A.uA b){vs:List Value}{E:Nat} :
 ∀(ts:List Nat) (i j nm:Nat) {s:St} {β:Lo} {tk:List Nat},cZ n A s a w' M β->np s β w L βc obs β' tk->(∀q,j<=q->q∉tk)->gu (ec T own oa r ts i j (obs.drop j) nm).1->(∀q,q<ts.length->bo M β' (r.comp (i+q)) (vs.getD (i+q) undef)) ->
  (∀m,m∈(ec T own oa r ts i j (obs.drop j) nm).2.2.map (·.1)->s.us m=false) ->
 ∃β2,cZ n A {s with ob:=cx s.ob (ec T own oa r ts i j (obs.drop j) nm).2.2,us:=eM s.us ((ec T own oa r ts i j (obs.drop j) nm).2.2.map (·.1))} a w' M β2/\Lo.le β β2/\(ec T own oa r ts i j (obs.drop j) nm).2.1.length=ts.length /\
  ∀q,q<ts.length->bo M β2 ((ec T own oa r ts i j (obs.drop j) nm).2.1.getD q .any) (vs.getD (i+q) undef)
 |[],i,j,nm,s,β,tk,g,hb,ht,hp,hr,hf=>⟨β,g,Lo.le.refl _,rfl,fun q hq=>by simp at hq⟩
 |
  t::ts,i,j,nm,s,β,tk,g,hb,ht,hp,hr,hf=>by
  have hr':∀q,q<ts.length->bo M β' (r.comp (i+1+q)) (vs.getD (i+1+q) undef):=fun q hq=>by
   have:=hr (q+1) (by simpa using hq)
   rw[show i+1+q=i+(q+1) by omega];exact this
  cases ho':own.any (aF i)with
  |true =>
   cases hag:(T t).agg with
   |true =>
    have eb:ec T own oa r (t::ts) i j (obs.drop j) nm=((r.comp i=.agg (r.comp i).cs/\aO oa (r.comp i).cs 0 j (obs.drop j))::(ec T own oa r ts (i+1) (j+bB oa) (obs.drop (j+bB oa)) (nm+bB oa)).1,.agg (bE oa (r.comp i).cs 0 (obs.drop j) nm).1::(ec T own oa r ts (i+1) (j+bB oa) (obs.drop (j+bB oa)) (nm+bB oa)).2.1,(bE oa (r.comp i).cs 0 (obs.drop j) nm).2.1++(ec T own oa r ts (i+1) (j+bB oa) (obs.drop (j+bB oa)) (nm+bB oa)).2.2):=by
     simp only[ec,ho',hag,cond_true,lD,List.drop_drop]
    rw[eb]at hp hf |-
    obtain⟨hp1,hp3⟩:=hp
    simp only[bV,aH]at hf
    obtain⟨β1,tk',g1,b1,t1,hle,r1,hu⟩:=vm ho hA (r.comp i) j nm g hb ht hp1 (fun m hm=>hf m (.inl hm))
    obtain⟨β2,c1,c2,c3,c4⟩:=mL ho hA (E:=E) ts (i+1) (j+bB oa) (nm+bB oa) g1 b1 (fun q hq hq'=>by
     rcases t1 q hq' with h|h
     ·exact ht q (by omega) h
     ·omega) hp3 hr' (fun m hm=>(hu m (nJ _ _ _ _ _ _ hm)).trans (hf m (.inr hm)))
    refine⟨β2,?_,fun o q hq=>c2 o q (hle o q hq),by simp[c3],fun q hq=>?_⟩
    ·simp only[ml,bV,oT];exact c1
    ·cases q with
     |zero=>simpa using(r1 _ (hr 0 (by simp))).mono (Mem.le.refl _) c2
     |
      succ q =>
      have:=c4 q (by simpa using hq)
      rw[show i+(q+1)=i+1+q by omega]
      simpa using this
   |false =>
    have eb:ec T own oa r (t::ts) i j (obs.drop j) nm=((r.comp i=.vec j/\obs.getD j .dead=.vec (qa T t) (obs.getD j .dead).es)::(ec T own oa r ts (i+1) (j+1) (obs.drop (j+1)) (nm+1)).1,.vec nm::(ec T own oa r ts (i+1) (j+1) (obs.drop (j+1)) (nm+1)).2.1,(nm,some (.vec (qa T t) (obs.getD j .dead).es))::(ec T own oa r ts (i+1) (j+1) (obs.drop (j+1)) (nm+1)).2.2):=by
     rw[<-e9,<-ef]
     simp only[ec,ho',hag,cond_true,cond_false]
    rw[eb]at hp hf |-
    obtain⟨⟨hp1,hp2⟩,hp3⟩:=hp
    have hj:j<obs.length:=fA (by rw[hp2];intro e;cases e)
    have hus:=hf nm (by simp)
    obtain⟨l,g1,b1,r1⟩:=g.uj ho hA hb hj (ht j (aq _)) hp2 hus
    have hle:=CL g hus l
    by_cases hdup:nm∈(ec T own oa r ts (i+1) (j+1) (obs.drop (j+1)) (nm+1)).2.2.map (·.1)
    ·exfalso
     have:=nJ _ _ _ _ _ _ hdup
     omega
    ·obtain⟨β2,c1,c2,c3,c4⟩:=mL ho hA (E:=E) ts (i+1) (j+1) (nm+1) g1 b1 (fun q hq hq'=>by
      rcases aI.1 hq' with rfl|h
      ·omega
      ·exact ht q (by omega) h) hp3 hr' (fun m hm=>by
       show cr s.us nm true m=false
       rw[aW _ _ _ _ (fun e=>hdup (by subst e;exact hm))];exact hf m (by simp at hm |-;exact .inr hm))
     refine⟨β2,c1,fun o q hq=>c2 o q (hle o q hq),by simp[c3],fun q hq=>?_⟩
     cases q with
     |
      zero =>
      have:=hr 0 (by simp)
      rw[bM,hp1]at this
      simpa using(r1 _ this).mono (Mem.le.refl _) c2
     |
      succ q =>
      have:=c4 q (by simpa using hq)
      rw[show i+(q+1)=i+1+q by omega]
      simpa using this
  |
   false =>
   have eb:ec T own oa r (t::ts) i j (obs.drop j) nm=(oO (T t) (r.comp i)::(ec T own oa r ts (i+1) j (obs.drop j) nm).1,l0 (T t) (r.comp i)::(ec T own oa r ts (i+1) j (obs.drop j) nm).2.1,(ec T own oa r ts (i+1) j (obs.drop j) nm).2.2):=by
    simp only[ec,ho',cond_false]
   rw[eb]at hp hf |-
   obtain⟨hp1,hp3⟩:=hp
   obtain⟨β2,c1,c2,c3,c4⟩:=mL ho hA (E:=E) ts (i+1) j nm g hb ht hp3 hr' hf
   refine⟨β2,c1,c2,by simp[c3],fun q hq=>?_⟩
   cases q with
   |zero=>simpa using nR (β':=β2) t (hr 0 (by simp)) hp1
   |
    succ q =>
    have:=c4 q (by simpa using hq)
    rw[show i+(q+1)=i+1+q by omega]
    simpa using this
theorem tj{T:ep}{own:List Nat}{ow:List LK}{oa:List CK}(ho:Out w M0 βc L r obs v w' M β')(hA:∀b,(w.heap.size<=b\/∃i,i<L/\dN βc i=some b)->A.w0.heap.size<=b\/A.uA b)(t j nm:Nat){s:St}{β:Lo}{tk:List Nat}(g:cZ n A s a w' M β)(hb:np s β w L βc obs β' tk)
 (ht:∀q,j<=q->q∉tk) (hp:gu (dH T own ow oa t r j (obs.drop j) nm).1) (hf:∀m,m∈(dH T own ow oa t r j (obs.drop j) nm).2.2.map (·.1)->s.us m=false) :
 ∃β2,cZ n A {s with ob:=cx s.ob (dH T own ow oa t r j (obs.drop j) nm).2.2,us:=eM s.us ((dH T own ow oa t r j (obs.drop j) nm).2.2.map (·.1))} a w' M β2/\bo M β2 (dH T own ow oa t r j (obs.drop j) nm).2.1 v:=by
 have plain:(∀ts,(T t).k≠.tuple ts)->∃β2,cZ n A {s with ob:=cx s.ob (dH T own ow oa t r j (obs.drop j) nm).2.2,us:=eM s.us ((dH T own ow oa t r j (obs.drop j) nm).2.2.map (·.1))} a w' M β2/\bo M β2 (dH T own ow oa t r j (obs.drop j) nm).2.1 v:=fun h=>by
  by_cases hpt:(T t).k=.pt/\own.any (aF 0)=true
  ·obtain⟨hk,ho'⟩:=hpt
   have eb:dH T own ow oa t r j (obs.drop j) nm=([r=.ref j 0/\obs.getD j .dead=.cells (obs.getD j .dead).cs/\(obs.getD j .dead).cs.length=ow.length/\cc ow (obs.getD j .dead).cs 0],.ref nm 0,[(nm,some (.cells (je ow (obs.getD j .dead).cs 0)))]):=by
    rw[<-e9]
    unfold dH
    rw[hk];simp only[ho',cond_true]
   rw[eb]at hp hf |-
   obtain⟨⟨hp1,hp2,hp3,hp4⟩,_⟩:=hp
   have hj:j<obs.length:=fA (by rw[hp2];intro e;cases e)
   obtain⟨l,g1,r1⟩:=g.CA ho hA hb hj (ht j (aq _)) hp2 hp3 hp4 (hf nm (by simp))
   have:=ho.rep
   rw[hp1]at this
   exact⟨_,g1,r1 v this⟩
  have eb:dH T own ow oa t r j (obs.drop j) nm=bif own.any (aF 0)then(bif (T t).agg then([r=.agg r.cs/\aO oa r.cs 0 j (obs.drop j)],.agg (bE oa r.cs 0 (obs.drop j) nm).1,(bE oa r.cs 0 (obs.drop j) nm).2.1)else([r=.vec j/\obs.getD j .dead=.vec (qa T t) (obs.getD j .dead).es],.vec nm,[(nm,some (.vec (qa T t) (obs.getD j .dead).es))]))
   else([oO (T t) r],l0 (T t) r,[]):=by
   rw[<-e9]
   unfold dH
   cases hk:(T t).k<;>first|rfl|exact absurd hk (h _)|(cases ho':own.any (aF 0)with|true=>exact absurd ⟨hk,ho'⟩ hpt|false=>rfl)
  rw[eb]at hp hf |-
  cases ho':own.any (aF 0)with
  |
   true =>
   rw[ho']at hp hf
   cases hag:(T t).agg with
   |
    true =>
    rw[hag]at hp hf
    simp only[cond_true]at hp hf |-
    obtain⟨hp1,_⟩:=hp
    obtain⟨β1,tk',g1,b1,t1,hle,r1,hu⟩:=vm ho hA r j nm g hb ht hp1 hf
    exact⟨β1,g1,r1 v ho.rep⟩
   |false =>
   rw[hag]at hp hf
   simp only[cond_true,cond_false]at hp hf |-
   obtain⟨⟨hp1,hp2⟩,_⟩:=hp
   have hj:j<obs.length:=fA (by rw[hp2];intro e;cases e)
   obtain⟨l,g1,b1,r1⟩:=g.uj ho hA hb hj (ht j (aq _)) hp2 (hf nm (by simp))
   have:=ho.rep
   rw[hp1]at this
   exact⟨_,g1,r1 v this⟩
  |
   false =>
   rw[ho']at hp
   simp only[cond_false]at hp |-
   exact⟨β,g,nR t ho.rep hp.1⟩
 by_cases htu:∃ts,(T t).k=.tuple ts
 ·obtain⟨ts,hk⟩:=htu
  cases ts with
  |
   nil =>
   have e:dH T own ow oa t r j (obs.drop j) nm=([],.any,[]):=by unfold dH;rw[hk]
   rw[e];exact⟨β,g,.any _ _⟩
  |
   cons t1 tl =>
   have e:dH T own ow oa t r j (obs.drop j) nm=(let q:=ec T own oa r (t1::tl) 0 j (obs.drop j) nm;((r=.cP ((bc (t1::tl).length).map r.comp))::q.1,.cP q.2.1,q.2.2)):=by unfold dH;rw[hk]
   rw[e]at hp hf |-
   obtain⟨hp1,hp2⟩:=hp
   have hr:=ho.rep
   rw[hp1]at hr
   have:∃vs:List Value,v=.tuple vs.toArray/\((bc (t1::tl).length).map r.comp).length=vs.length/\∀i,i<((bc (t1::tl).length).map r.comp).length->bo M β' (((bc (t1::tl).length).map r.comp).getD i .any) (vs.getD i undef):=by
    cases hr with|cP _ _ vs hl h=>exact⟨vs,rfl,hl,h⟩
   obtain⟨vs,rfl,hl,h⟩:=this
   simp only[cg,List.length_range]at hl h
   obtain⟨β2,c1,c2,c3,c4⟩:=mL (T:=T) ho hA (E:=0) (vs:=vs) (t1::tl) 0 j nm g hb ht hp2 (fun q hq=>by
    have:=h q hq
    rw[aR]
    have hq':q<tl.length+1:=by simpa using hq
    simpa[aa,List.getElem?_range hq']using this) hf
   exact⟨β2,c1,.cP _ _ _ (by rw[c3];exact hl) fun i hi=>by have:=c4 i (by omega);rw[aR]at this;exact this⟩
 ·exact plain fun ts h=>htu ⟨ts,h⟩
end
end Go.VL
namespace Go.VL
open Go Go.RowKit
section
variable {P:Program} {M:Mem} {β:Lo} {w w':World} {n:Nat} {A:jP} {s:St} {a:Act}
theorem nj:∀(l:List (Nat×Option Ob)) (f:Nat->Option Ob) (o:Nat),o∉l.map (·.1)->cx f l o=f o
 |[],f,o,h=>rfl
 |
  (q,c)::l,f,o,h=>by
  show cx (cr f q c) l o=f o
  rw[nj l _ o (fun hh=>h (ai _ hh)),aW _ _ _ _ (fun e=>h (by rw[e];exact ag))]
theorem rR:∀(l:List Nat) (f:Nat->Bool) (o:Nat),o∉l->eM f l o=f o
 |[],f,o,h=>rfl
 |
  q::l,f,o,h=>by
  show eM (cr f q true) l o=f o
  rw[rR l _ o (fun hh=>h (ai _ hh)),aW _ _ _ _ (fun e=>h (by rw[e];exact ag))]
theorem oh:∀(ms:List MK) (nm m:Nat),m∈sx ms nm↔nm<=m/\m<nm+lS ms
 |[],nm,m=>by simp only[sx,lS,List.not_mem_nil,false_iff];omega
 | .vec::ms,nm,m=>oh ms nm m
 | .ve kz::ms,nm,m=>oh ms nm m
 | .cB _ _::ms,nm,m=>oh ms nm m
 |
  .obj ks::ms,nm,m=>by
  simp only[sx,lS,aH,od,oh ms]
  omega
theorem ma{l:List Nat}{o:Nat}:fT l o=true↔o∈l:=by
 unfold fT
 rw[bT]
 exact⟨fun⟨x,hx,e⟩=>by rw[aC e];exact hx,fun h=>⟨o,h,Nat.beq_refl o⟩⟩
theorem ud(ob:Nat->Option Ob)(os:List Nat):(fw ob os).map (·.1)=os:=by
 unfold fw;rw[List.map_map];exact List.map_id' os
theorem xY{t:TI}{r:AV}{v:Value}{M M':Mem}{β β0:Lo}(hs:Br t=true)(h:bo M' β0 r v)(hh:oO t r):bo M β (l0 t r) v:=by
 simp only[Br,au,bR]at hs
 obtain⟨h1,h2⟩:=hs
 unfold oO at hh
 unfold l0
 rw[h1]at hh |-
 simp only[cond_false]at hh |-
 cases hk:Ba t<;>rw[hk]at h2 hh<;>first|(cases h2;done)|skip
 ·obtain⟨n,rfl⟩:=hh;rw[dA h];exact .v _ _
 ·obtain⟨n,rfl⟩:=hh;rw[dA h];exact .b _ _
 ·obtain⟨n,rfl⟩:=hh;rw[dA h];exact .v _ _
theorem CN{T:ep}{ow:List LK}{oa:List CK}{r:AV}{v:Value}{M M':Mem}{β β0:Lo}(t j:Nat)(obs:List Ob)(nm:Nat)(hs:Hj T t=true)(h:bo M' β0 r v)(hp:gu (dH T [] ow oa t r j obs nm).1) :
 (dH T [] ow oa t r j obs nm).2.2=[]/\bo M β (dH T [] ow oa t r j obs nm).2.1 v:=by
 obtain⟨q1,_⟩:=Df (T:=T) (β':=β) t j obs nm hp h
 refine⟨q1,?_⟩
 have plain:(∀ts,(T t).k≠.tuple ts)->bo M β (dH T [] ow oa t r j obs nm).2.1 v:=fun hn=>by
  have e:dH T [] ow oa t r j obs nm=([oO (T t) r],l0 (T t) r,[]):=by
   unfold dH
   cases hk:(T t).k<;>first|rfl|exact absurd hk (hn _)
  have e2:Hj T t=Br (T t):=by
   unfold Hj
   cases hk:(T t).k<;>first|rfl|exact absurd hk (hn _)
  rw[e]at hp |-
  rw[e2]at hs
  exact xY hs h hp.1
 by_cases htu:∃ts,(T t).k=.tuple ts
 ·obtain⟨ts,hk⟩:=htu
  have hs':ts.all (fun u=>Br (T u))=true:=by unfold Hj at hs;rw[hk]at hs;exact hs
  cases ts with
  |
   nil =>
   have e:dH T [] ow oa t r j obs nm=([],.any,[]):=by unfold dH;rw[hk]
   rw[e];exact .any _ _
  |
   cons t1 tl =>
   have e:dH T [] ow oa t r j obs nm=(let q:=ec T [] oa r (t1::tl) 0 j obs nm;((r=.cP ((bc (t1::tl).length).map r.comp))::q.1,.cP q.2.1,q.2.2)):=by unfold dH;rw[hk]
   rw[e]at hp |-
   obtain⟨hp1,hp2⟩:=hp
   rw[hp1]at h
   have:∃vs:List Value,v=.tuple vs.toArray/\((bc (t1::tl).length).map r.comp).length=vs.length/\∀i,i<((bc (t1::tl).length).map r.comp).length->bo M' β0 (((bc (t1::tl).length).map r.comp).getD i .any) (vs.getD i undef):=by
    cases h with|cP _ _ vs hl h=>exact⟨vs,rfl,hl,h⟩
   obtain⟨vs,rfl,hl,h⟩:=this
   simp only[cg,List.length_range]at hl h
   have go:∀(ts:List Nat) (i j nm:Nat) (obs:List Ob),ts.all (fun u=>Br (T u))=true->gu (ec T [] oa r ts i j obs nm).1->(∀q,q<ts.length->bo M' β0 (r.comp (i+q)) (vs.getD (i+q) undef)) ->
    (ec T [] oa r ts i j obs nm).2.1.length=ts.length/\∀q,q<ts.length->bo M β ((ec T [] oa r ts i j obs nm).2.1.getD q .any) (vs.getD (i+q) undef):=by
    intro ts
    induction ts with
    |nil=>intro i j nm obs _ _ _;exact⟨rfl,fun q hq=>by simp at hq⟩
    |
     cons t ts ih =>
     intro i j nm obs ha hp hr
     simp only[cO,au]at ha
     simp only[ec,List.any_nil,cond_false]at hp |-
     obtain⟨z1,z2⟩:=ih (i+1) j nm obs ha.2 hp.2 fun q hq=>by
      have:=hr (q+1) (by simpa using hq)
      rw[show i+(q+1)=i+1+q by omega]at this
      exact this
     refine⟨by simp[z1],fun q hq=>?_⟩
     cases q with
     |zero=>simpa using xY (M:=M) (β:=β) ha.1 (hr 0 (by simp)) hp.1
     |
      succ q =>
      have:=z2 q (by simpa using hq)
      rw[show i+(q+1)=i+1+q by omega]
      simpa using this
   obtain⟨z1,z2⟩:=go (t1::tl) 0 j nm obs hs' hp2 fun q hq=>by
    have:=h q hq
    rw[aR]
    have hq':q<tl.length+1:=by simpa using hq
    simpa[aa,List.getElem?_range hq']using this
   exact .cP _ _ _ (by rw[z1];exact hl) fun i hi=>by have:=z2 i (by omega);rw[aR]at this;exact this
 ·exact plain fun ts h=>htu ⟨ts,h⟩
theorem rS{t:TI}{r:AV}{v:Value}{M M':Mem}{β β0:Lo}(hs:Br t=true)(h:bo M' β0 r v)(hh:oO t r):bo M β r v:=by
 simp only[Br,au,bR]at hs
 obtain⟨h1,h2⟩:=hs
 unfold oO at hh
 rw[h1]at hh
 simp only[cond_false]at hh
 cases hk:Ba t<;>rw[hk]at h2 hh<;>first|(cases h2;done)|skip
 ·obtain⟨n,rfl⟩:=hh;rw[dA h];exact .v _ _
 ·obtain⟨n,rfl⟩:=hh;rw[dA h];exact .v _ _
 ·obtain⟨n,rfl⟩:=hh;rw[dA h];exact .v _ _
theorem rp{o:Nat}{v:Value}{M M':Mem}{β:Lo}(h:bo M' β (.vec o) v):bo M β (.vec o) v:=by
 cases h with|vec _ _ _ sz ho h=>exact .vec _ _ _ sz ho h
theorem nk{M M':Mem}{β:Lo}:∀(ks:List CK) {full:List AV} {i j:Nat} {obs:List Ob},F2 ks=true->aO ks full i j obs->full.length=i+ks.length/\∀q u,q<ks.length->bo M' β (full.getD (i+q) .any) u->bo M β (full.getD (i+q) .any) u
 |[],full,i,j,obs,hp,h=>⟨h,fun q u hq=>by simp at hq⟩
 |
  .lk k::ks,full,i,j,obs,hp,h=>by
  obtain⟨h1,h2⟩:=h
  simp only[F2,au]at hp
  obtain⟨q1,q2⟩:=nk ks hp.2 h2
  refine⟨by simp;omega,fun q u hq hr=>?_⟩
  cases q with
  |
   zero =>
   rw[bM]at hr |-
   cases k<;>first|(cases hp.1;done)|skip
   ·obtain⟨n,e⟩:=h1;rw[e]at hr |-;rw[dA hr];exact .v _ _
   ·obtain⟨n,e⟩:=h1;rw[e]at hr |-;rw[dA hr];exact .v _ _
   ·obtain⟨n,e⟩:=h1;rw[e]at hr |-;rw[dA hr];exact .v _ _
  |
   succ q =>
   have:=q2 q u (by simpa using hq)
   rw[show i+1+q=i+(q+1) by omega]at this
   exact this hr
 |
  .vec hz::ks,full,i,j,obs,hp,h=>by
  obtain⟨h1,_,h2⟩:=h
  obtain⟨q1,q2⟩:=nk ks (by simpa only[F2]using hp) h2
  refine⟨by simp;omega,fun q u hq hr=>?_⟩
  cases q with
  |
   zero =>
   rw[bM]at hr |-
   rw[h1]at hr |-;exact rp hr
  |
   succ q =>
   have:=q2 q u (by simpa using hq)
   rw[show i+1+q=i+(q+1) by omega]at this
   exact this hr
theorem sF{M M':Mem}{β:Lo}{oa:List CK}{x:AV}{u:Value}{j:Nat}{obs:List Ob}(hp:F2 oa=true)(h:x=.agg x.cs/\aO oa x.cs 0 j obs)(hr:bo M' β x u):bo M β x u:=by
 obtain⟨q1,q2⟩:=nk (M:=M) (M':=M') (β:=β) oa hp h.2
 rw[h.1]at hr |-
 obtain⟨us,rfl,hl,hr,hone⟩:=fJ hr
 refine .agg _ _ _ hl hone fun i hi=>?_
 have:=q2 i (us.getD i undef) (by omega)
 rw[aR]at this
 exact this (hr i hi)
theorem xh{T:ep}{own:List Nat}{oa:List CK}{r:AV}{vs:List Value}{M M':Mem}{β:Lo}:∀(ts:List Nat) (i j nm:Nat) (obs:List Ob),Kd T own oa ts i=true->gu (ec T own oa r ts i j obs nm).1->(∀q,q<ts.length->bo M' β (r.comp (i+q)) (vs.getD (i+q) undef)) ->
 ∀q,q<ts.length->bo M β (r.comp (i+q)) (vs.getD (i+q) undef)
 |[],i,j,nm,obs,_,_,_,q,hq=>by simp at hq
 |
  t::ts,i,j,nm,obs,hs,hp,hr,q,hq=>by
  simp only[Kd,au]at hs
  have next:∀j' nm' obs',gu (ec T own oa r ts (i+1) j' obs' nm').1->(∀u,bo M' β (r.comp i) u->bo M β (r.comp i) u)->bo M β (r.comp (i+q)) (vs.getD (i+q) undef):=fun j' nm' obs' hp' h0=>by
   cases q with
   |zero=>exact h0 _ (by have:=hr 0 (by simp);simpa using this)
   |
    succ q =>
    have:=xh (M:=M) (M':=M') (β:=β) (vs:=vs) ts (i+1) j' nm' obs' hs.2 hp' (fun q hq=>by
     have:=hr (q+1) (by simpa using hq)
     rw[show i+1+q=i+(q+1) by omega];exact this) q (by simpa using hq)
    rw[show i+(q+1)=i+1+q by omega];exact this
  have hs1:=hs.1
  unfold Io at hs1
  simp only[ec]at hp
  cases ho:own.any (aF i)with
  |
   true =>
   rw[ho]at hp hs1
   cases ha:(T t).agg with
   |
    true =>
    rw[ha]at hp hs1
    simp only[cond_true]at hp hs1
    exact next _ _ _ hp.2 fun u hu=>sF hs1 hp.1 hu
   |
    false =>
    rw[ha]at hp
    simp only[cond_true,cond_false]at hp
    exact next _ _ _ hp.2 fun u hu=>by rw[hp.1.1]at hu |-;exact rp hu
  |
   false =>
   rw[ho]at hp hs1
   simp only[cond_false]at hp hs1
   exact next _ _ _ hp.2 fun u hu=>rS hs1 hu hp.1
theorem CB{T:ep}{own:List Nat}{ow:List LK}{oa:List CK}{r:AV}{v:Value}{M M':Mem}{β:Lo}(t j:Nat)(obs:List Ob)(nm:Nat)(hs:Ge T own oa t=true)(h:bo M' β r v)(hp:gu (dH T own ow oa t r j obs nm).1):bo M β r v:=by
 have plain:(∀ts,(T t).k≠.tuple ts)->bo M β r v:=fun hn=>by
  by_cases hpt:(T t).k=.pt
  ·unfold Ge at hs
   rw[hpt]at hs
   simp only[au,bR]at hs
   unfold dH at hp
   rw[hpt]at hp
   simp only[hs.1,cond_false]at hp
   exact rS hs.2 h hp.1
  ·have hs1:Io T own oa 0 t=true:=by
    unfold Ge at hs
    cases hk:(T t).k<;>rw[hk]at hs<;>first|exact hs|exact absurd hk (hn _)|exact absurd hk hpt
   have hp1:gu (bif own.any (aF 0)then(bif (T t).agg then [r=.agg r.cs/\aO oa r.cs 0 j obs]else [r=.vec j/\obs.headD .dead=.vec (qa T t) (obs.headD .dead).es])else [oO (T t) r]):=by
    unfold dH at hp
    cases hk:(T t).k<;>rw[hk]at hp<;>first|exact absurd hk (hn _)|exact absurd hk hpt|(cases ho:own.any (aF 0)<;>rw[ho]at hp<;>cases ha:(T t).agg<;>rw[ha]at hp<;>exact hp)
   unfold Io at hs1
   cases ho:own.any (aF 0)with
   |
    true =>
    rw[ho]at hp1 hs1
    cases ha:(T t).agg with
    |true=>rw[ha]at hp1 hs1;exact sF hs1 hp1.1 h
    |
     false =>
     rw[ha]at hp1
     have:=hp1.1.1
     rw[this]at h |-;exact rp h
   |false=>rw[ho]at hp1 hs1;exact rS hs1 h hp1.1
 by_cases htu:∃ts,(T t).k=.tuple ts
 ·obtain⟨ts,hk⟩:=htu
  cases ts with
  |nil=>unfold Ge at hs;rw[hk]at hs;cases hs
  |
   cons t1 tl =>
   have hs':Kd T own oa (t1::tl) 0=true:=by unfold Ge at hs;rw[hk]at hs;exact hs
   have e:dH T own ow oa t r j obs nm=(let q:=ec T own oa r (t1::tl) 0 j obs nm;((r=.cP ((bc (t1::tl).length).map r.comp))::q.1,.cP q.2.1,q.2.2)):=by unfold dH;rw[hk]
   rw[e]at hp
   obtain⟨hp1,hp2⟩:=hp
   rw[hp1]at h |-
   have:∃vs:List Value,v=.tuple vs.toArray/\((bc (t1::tl).length).map r.comp).length=vs.length/\∀i,i<((bc (t1::tl).length).map r.comp).length->bo M' β (((bc (t1::tl).length).map r.comp).getD i .any) (vs.getD i undef):=by
    cases h with|cP _ _ vs hl h=>exact⟨vs,rfl,hl,h⟩
   obtain⟨vs,rfl,hl,h⟩:=this
   have z:=xh (M:=M) (M':=M') (β:=β) (vs:=vs) (t1::tl) 0 j nm obs hs' hp2 fun q hq=>by
    have:=h q (by simpa using hq)
    rw[aR]
    have hq':q<tl.length+1:=by simpa using hq
    simpa[aa,List.getElem?_range hq']using this
   refine .cP _ _ _ hl fun i hi=>?_
   have hi':i<tl.length+1:=by simpa using hi
   have:=z i (by simpa using hi')
   rw[aR]at this
   simpa[aa,List.getElem?_range hi']using this
 ·exact plain fun ts h=>htu ⟨ts,h⟩
theorem Out.plain{M1 M':Mem}{r:AV}{obs:List Ob}{v:Value}{βc β':Lo}(h:Out w M1 βc 0 r obs v w' M' β')(hM:M.le M1)(hp:∀x,x∈obs->jq x)(hr:bo M β' r v):Out w M βc 0 r obs v w' M β':=by
 have hno:∀b,(∀k,M'.c b k=none)->∀k,M.c b k=none:=fun b hb k=>by
  cases e:M.c b k with
  |none=>rfl
  |some u=>have:=h.le.c _ _ _ (hM.c _ _ _ e);rw[hb k]at this;cases this
 refine⟨Mem.le.refl _,⟨fun b k v hc=>h.agree _ _ _ (h.le.c _ _ _ (hM.c _ _ _ hc)),fun b hb=>h.agree.p _ (h.le.p _ (hM.p _ hb))⟩,hr,fun j hj=>?_,fun j b hj=>by omega,fun j l sz es hj=>by omega,h.apart,h.place,fun b k v hc=>.inl hc,⟨h.cB.os,h.cB.tape,h.cB.output,h.cB.size,h.cB.block⟩⟩
 have h1:=h.own j hj
 have h2:=hp (obs.getD j .dead) (by simp[aa,hj])
 cases e:obs.getD j .dead with
 |
  vec sz es =>
  rw[e]at h1 h2
  obtain⟨v,q1,q2,q3⟩:=h1
  refine⟨v,q1,q2,?_⟩
  rcases q3 with q3|⟨b,off,c,vs,e,r1,r2,r3,r4,r5,r6,r7⟩
  ·exact .inl q3
  ·refine .inr ⟨b,off,c,vs,e,r1,r2,r3,r4,fun i j hi hj=>?_,hno b r6,r7⟩
   have h3:=r5 i j hi hj
   have hl:=q2 i hi
   obtain⟨x,hx⟩:=h2 (es.getD i []) (by simp[aa,hi]) ((es.getD i []).getD j .any) (by
    have:j<(es.getD i []).length:=by omega
    rw[aa (l:=es.getD i []),aV this]
    exact bY _)
   rw[hx]at h3 |-
   rw[dA h3];exact .v _ _
 |cells cs=>rw[e]at h2;exact h2.elim
 |gO cs=>rw[e]at h2;exact h2.elim
 |mw cs=>rw[e]at h2;exact h2.elim
 |mC sz cs=>rw[e]at h2;exact h2.elim
 |dead=>trivial
theorem cZ.looked(g:cZ n A s a w M β){M1:Mem}(hM:M.le M1){r:AV}{obs:List Ob}{v:Value}{M':Mem}{βc β':Lo}(h:Out w M1 βc 0 r obs v w' M' β'):cZ n A s a w' M β:=by
 have same:∀b,b<w.heap.size->w'.heap[b]?=w.heap[b]?:=fun b hb=>h.cB.block b hb (fun⟨i,hi,_⟩=>by omega)
 refine {g with agree:=⟨fun b k v hc=>h.agree _ _ _ (h.le.c _ _ _ (hM.c _ _ _ hc)),fun b hb=>h.agree.p _ (h.le.p _ (hM.p _ hb))⟩,own:=fun o x hx=>?_,cB:=?_}
 ·exact(g.own o x hx).mono (Mem.le.refl _) (Lo.le.refl _) fun b hl hb=>⟨same b ((g.own o x hx).lt hl hb),(g.own o x hx).Aj hl hb⟩
 ·exact g.cB.jG h.cB.os h.cB.tape h.cB.output h.cB.size fun b hlt _=>same b (cX hlt g.cB.size)
theorem z7{T:ep}{cfg:Nat->FC}(g:cZ n A s a w M β){o:Oper}{f f':Nat}{asq as':List AV}{ins:List Ob}{wr:List Nat}{k:AV->List Ob->List Prop×De}{vs:List Value}
 (hE:fR T cfg (ev s) s.ob o f asq=.c f' as' ins wr k) (hl:vs.length=asq.length) (hr:∀i,i<asq.length->bo M β (asq.getD i .any) (vs.getD i undef)) :
 f'=f/\∃M1 βc,M.le M1/\In w M1 βc as' ins vs/\∀v r obs w' M' β',Out w M1 βc ins.length r obs v w' M' β'->gu (k r obs).1->dB s n o.dst (k r obs).2=true->fV n A (s.app o.dst (k r obs).2) (a.put o.dst v) w':=by
 unfold fR at hE
 simp only at hE
 generalize hc:cfg (keyOf f asq)=c at hE
 split at hE
 ·rename_i as1 ins1 os fz hga
  cases hgd:(nodup os&&(!(os.any (fT fz))&&(dK (dz c.mu) ins1&&(lN s.ob c.mu os ins1 asq 0&&rO (dz c.mu) os ins1))))with
  |false=>rw[hgd]at hE;cases hE
  |
   true =>
   rw[hgd]at hE
   simp only[cond_true,zG.c.injEq]at hE
   obtain⟨rfl,rfl,rfl,_,rfl⟩:=hE
   simp only[au,bR]at hgd
   obtain⟨hnd,hdj,hal,hclo,hkept⟩:=hgd
   have hdj':∀o,o∈os->o∉fz:=fun o ho hf=>by
    rw[List.any_eq_false]at hdj
    exact hdj o ho (ma.2 hf)
   refine⟨rfl,?_⟩
   obtain⟨M1,hM,g1⟩:=g.freeze fz
   have h0:∀o x,o∈os->s.ob o=some x->({s with ob:=cx s.ob (fw s.ob fz)}:St).ob o=some x:=fun o x ho hx=>by
    show cx s.ob (fw s.ob fz) o=some x
    rw[nj _ _ _ (by rw[ud];exact hdj' o ho)];exact hx
   obtain⟨βc,U',f1,b1,b2,b3,b4,b5,b6,b7,b8,b9⟩:=ov g1 c.mu asq hga g1.fz h0 fX.nil (fun _ _=>rfl) hnd (fun _ _ hh=>by cases hh)
   simp only[aR]at b4 b6
   have hnm:=oD c.mu asq hga
   have hown:∀j,j<ins1.length->Own M1 βc w j (ins1.getD j .dead):=fun j hj=>b1.own j _ (b6 j hj)
   obtain⟨fl1,fl2⟩:=oz (os:=os) (ins:=ins1) (fun j hj hc b hb=>by
    have h1:=hown j hj
    cases e:ins1.getD j .dead with
    |
     cells cs =>
     rw[e]at h1
     obtain⟨b',_,_,h2,_⟩:=h1
     have:=b9 j _ hj (.inl ⟨b',rfl⟩) (by rw[aR];exact h2)
     rw[hb]at this;cases this;exact h2
    |_=>rw[e]at hc;cases hc) asq hga g1.fz hclo b8
   have hin:In w M1 βc (jf c.mu as1 0) ins1 vs:=⟨by rw[hl,fl1,b7],fun i hi=>fl2 i _ (by omega) ((hr i (by omega)).mono hM (Lo.le.refl _)),g1.agree,hown,fun j hj=>b1.LH j (b4 j hj),fun i j b hne hi hj hli hlj hb=>b1.apart i j _ _ b hne (b6 i hi) hli (b6 j hj) hlj hb⟩
   refine⟨M1,βc,hM,hin,fun v r obs w' M' β' hout hp hnew=>?_⟩
   cases hlt:vj T c.own c.oa ins1 o.type with
   |
    true =>
    rw[hlt]at hnew
    simp only[cond_true,bg]at hnew |-
    have hins:ins1=[]:=by
     unfold vj at hlt
     cases ins1 with
     |nil=>rfl
     |cons x xs=>simp at hlt
    subst hins
    have hos:os=[]:=List.eq_nil_of_length_eq_zero hnm.1
    have hmu:dz c.mu=[]:=by
     cases hf:dz c.mu with
     |nil=>rfl
     |cons m ms=>rw[hf]at hal;cases m<;>cases hal
    subst hos
    cases hown':c.own with
    |
     cons x0 xs0 =>
     have hsc:Ge T c.own c.oa o.type=true:=by unfold vj at hlt;rw[hown']at hlt |-;simpa using hlt
     have hlN:uM T c.own c.oa [] o.type obs=[∀x,x∈obs->jq x]:=by
      unfold uM;rw[hlt,hown'];rfl
     rw[hmu]at hp hnew |-
     rw[<-hown']
     have hp':gu ((dH T c.own c.ow c.oa o.type r 0 obs (newName o.dst)).1++uM T c.own c.oa [] o.type obs):=hp
     rw[hlN]at hp'
     obtain⟨p1,p2⟩:=ja hp'
     have hout1:Out w M βc 0 r obs v w' M β':=Out.plain hout hM p2.1 (CB (M:=M) (β:=β') (T:=T) o.type 0 obs (newName o.dst) hsc hout.rep p1)
     have hA:∀b,(w.heap.size<=b\/∃i,i<0/\dN βc i=some b)->A.w0.heap.size<=b\/A.uA b:=fun b hb=>by
      rcases hb with hb|⟨i,hi,hb⟩
      ·exact .inl (Nat.le_trans g.cB.size hb)
      ·omega
     have hback:np s β w 0 βc obs β' []:=fun o x b hx hlv hb=>.inl ⟨(g.own o x hx).lt hlv hb,fun⟨i,hi,_⟩=>by omega⟩
     have hnd':(∀m,m∈(dH T c.own c.ow c.oa o.type r 0 obs (newName o.dst)).2.2.map (·.1)->s.us m=false):=by
      unfold dB at hnew
      simp only[au]at hnew
      obtain⟨⟨h1,_⟩,_⟩:=hnew
      rw[bH]at h1
      exact fun m hm=>by simpa using h1 m (by simpa[dj,sx]using hm)
     obtain⟨β3,d1,d2⟩:=tj (T:=T) hout1 hA o.type 0 (newName o.dst) (g.looked hM hout) hback (fun q hq hq'=>by cases hq') (by simpa using p1) (by simpa using hnd')
     have g5:=cZ.put d1 d2 (fN hnew)
     refine⟨M,β3,?_⟩
     have e:∀(vv:List Prop×AV×List (Nat×Option Ob)),s.app o.dst {val:=vv.2.1,cr:=pN []++((dj [] [] obs 0 (newName o.dst)).2.1++vv.2.2),new:=sx [] (newName o.dst)++vv.2.2.map (·.1)} =
      {tm:=mX s.tm o.dst vv.2.1,ob:=cx s.ob vv.2.2,us:=eM s.us (vv.2.2.map (·.1))}:=fun vv=>by
      unfold St.app
      cases o.dst<;>rfl
     exact(e (dH T c.own c.ow c.oa o.type r 0 obs (newName o.dst))).symm ▸ g5
    |nil =>
    have hsc:Hj T o.type=true:=by unfold vj at hlt;rw[hown']at hlt;simpa using hlt
    rw[hmu,hown']at hp hnew
    rw[hmu]
    obtain⟨q1,q2⟩:=CN (M:=M) (β:=β) (T:=T) o.type 0 obs (newName o.dst) hsc hout.rep (by simpa[dj,uM]using hp)
    have g3:=cZ.put (g.looked hM hout) q2 (fN hnew)
    refine⟨M,β,?_⟩
    have e:s.app o.dst {val:=(dH T [] c.ow c.oa o.type r 0 obs (newName o.dst)).2.1,cr:=pN []++((dj [] [] obs 0 (newName o.dst)).2.1++(dH T [] c.ow c.oa o.type r 0 obs (newName o.dst)).2.2),new:=sx [] (newName o.dst)++(dH T [] c.ow c.oa o.type r 0 obs (newName o.dst)).2.2.map (·.1)} = {s with tm:=mX s.tm o.dst (dH T [] c.ow c.oa o.type r 0 obs (newName o.dst)).2.1}:=by
     unfold St.app
     rw[q1]
     cases o.dst<;>rfl
    exact e ▸ g3
   |false =>
   rw[hlt]at hnew
   simp only[cond_false]at hnew |-
   have hsrc:∀i b,i<ins1.length->dN βc i=some b->∃o x0,o∈os/\({s with ob:=cx s.ob (fw s.ob fz)}:St).ob o=some x0/\x0.live=true/\dN β o=some b:=fun i b hi hb=>by
    obtain⟨o,x0,h1,h2,h3,h4⟩:=b1.src i _ b (b6 i hi) ((hnm.2 i hi).1) hb
    rcases b3 o h1 with h|h
    ·exact⟨o,x0,h,h2,h3,h4⟩
    ·cases h
   have g2:=g1.base hsrc hout
   have hA:∀b,(w.heap.size<=b\/∃i,i<ins1.length/\dN βc i=some b)->A.w0.heap.size<=b\/A.uA b:=fun b hb=>by
    rcases hb with hb|⟨i,hi,hb⟩
    ·exact .inl (Nat.le_trans g.cB.size hb)
    ·obtain⟨o,x0,_,h2,h3,h4⟩:=hsrc i b hi hb
     exact g1.place o x0 b h2 h3 h4
   have hback:np {s with ob:=gh os (cx s.ob (fw s.ob fz))} β w ins1.length βc obs β' []:=fun o x b hx hlv hb=>by
    obtain⟨ho,hx⟩:=gy hx
    refine .inl ⟨(g1.own o x hx).lt hlv hb,fun⟨i,hi,hb'⟩=>?_⟩
    obtain⟨o',x0,h1,h2,h3,h4⟩:=hsrc i b hi hb'
    exact g1.apart o' o x0 x b (fun e=>ho (by rw[<-e];exact h1)) h2 h3 hx hlv h4 hb
   have hnd':(∀m,m∈sx (dz c.mu) (newName o.dst)++(dH T c.own c.ow c.oa o.type r ins1.length (dj (dz c.mu) os obs 0 (newName o.dst)).2.2.1 (dj (dz c.mu) os obs 0 (newName o.dst)).2.2.2).2.2.map (·.1)->s.us m=false) /\
    nodup (sx (dz c.mu) (newName o.dst)++(dH T c.own c.ow c.oa o.type r ins1.length (dj (dz c.mu) os obs 0 (newName o.dst)).2.2.1 (dj (dz c.mu) os obs 0 (newName o.dst)).2.2.2).2.2.map (·.1))=true:=by
    unfold dB at hnew
    simp only[au]at hnew
    obtain⟨⟨h1,h2⟩,_⟩:=hnew
    rw[bH]at h1
    exact⟨fun m hm=>by simpa using h1 m hm,h2⟩
   obtain⟨hfr,hnn⟩:=hnd'
   obtain⟨p1,p2⟩:=ja hp
   have hHP:HP A {s with ob:=gh os (cx s.ob (fw s.ob fz))} β βc (fun q=>q∈ph (dz c.mu) 0) os 0:=fun q l hq hx hb=>by
    rw[aR]at hb hx
    have hq':q<ins1.length:=by rw[<-hnm.1];exact hq
    have hmem:os.getD q 0∈os:=by simp[aa,hq]
    have hk:=hkept
    unfold rO at hk
    rw[bH]at hk
    have hk:=hk q hx
    rw[bn]at hk
    obtain⟨⟨x,hx0⟩,hβ⟩:(∃x,({s with ob:=cx s.ob (fw s.ob fz)}:St).ob (os.getD q 0)=some x/\s.ob (os.getD q 0)=some x)/\β (os.getD q 0)=some l:=by
     rcases hk with hk|hk
     ·have hcells:∃cs,ins1.getD q .dead=.cells cs:=by
       cases e:ins1.getD q .dead<;>rw[e]at hk<;>first|(cases hk;done)|exact⟨_,rfl⟩
      obtain⟨cs,ecs⟩:=hcells
      obtain⟨cs',hcs'⟩:=(hnm.2 q hq').2.1 cs ecs
      have h1:=hown q hq'
      rw[ecs]at h1
      obtain⟨b,_,_,h2,_⟩:=h1
      rw[hb]at h2;cases h2
      exact⟨⟨_,h0 _ _ hmem hcs',hcs'⟩,b9 q _ hq' (.inl ⟨b,rfl⟩) (by rw[aR];exact hb)⟩
     ·have hlt:=aN hk
      obtain⟨x,hx1⟩:=(hnm.2 q hq').2.2 hlt
      exact⟨⟨x,h0 _ _ hmem hx1,hx1⟩,b9 q _ hq' (.inr hlt) (by rw[aR];exact hb)⟩
    refine⟨?_,?_,hβ,fun b' hb'=>?_⟩
    ·show gh os _ _=none
     unfold gh;rw[ma.2 hmem];rfl
    ·cases hu:s.us (os.getD q 0)with
     |true=>rfl
     |false=>rw[(g.us _ hu).2]at hx0;cases hx0.2
    ·have:=(g.fix _ b' hb').2 _ hx0.2
     rw[hβ]at this;cases this;rfl
   have hlen:=iJ _ _ hal
   obtain⟨β2,tk',c1,c2,c3,c4,c5⟩:=jS hout hA rfl hown (E:=newName o.dst+lS (dz c.mu)) (dz c.mu) os 0 (newName o.dst) g2 hback (fun q _ hq=>by cases hq) hal (by rw[hnm.1,hlen]) hnd hHP (fun q hq=>hq) p1
    (fun m h1 h2=>hfr m (aA _ ((oh _ _ _).2 ⟨h1,h2⟩))) (aq _)
   simp only[bz,aR]at c1 c2 c3 c4 c5
   obtain⟨n1,n2,n3⟩:=er hnn
   rw[c4]at p2 hfr n3
   simp only at p2 hfr n3
   rw[<-hlen]at p2 hfr n3 c3
   obtain⟨β3,d1,d2⟩:=tj (T:=T) hout hA o.type ins1.length (newName o.dst+lS (dz c.mu)) c1 c2 (fun q hq hq'=>by
    rcases c3 q hq' with h|h
    ·cases h
    ·omega) (ja p2).1 (fun m hm=>by
    show eM s.us _ m=false
    rw[rR _ _ _ (fun h=>n3 m h hm)]
    exact hfr m (az _ hm))
   have g5:=cZ.put d1 d2 (fN hnew)
   refine⟨M',β3,?_⟩
   have e:∀(b:List Prop×List (Nat×Option Ob)×List Ob×Nat) (vv:List Prop×AV×List (Nat×Option Ob)),s.app o.dst {val:=vv.2.1,cr:=fw s.ob fz++(pN os++(b.2.1++vv.2.2)),new:=sx (dz c.mu) (newName o.dst)++vv.2.2.map (·.1)} =
    {tm:=mX s.tm o.dst vv.2.1,ob:=cx (cx (gh os (cx s.ob (fw s.ob fz))) b.2.1) vv.2.2,us:=eM (eM s.us (sx (dz c.mu) (newName o.dst))) (vv.2.2.map (·.1))}:=fun b vv=>by
    unfold St.app
    simp only[ml,oT,sR]
    cases o.dst<;>rfl
   simp only[e]
   rw[c4]
   simp only
   rw[<-hlen]
   exact g5
 ·cases hE
end
end Go.VL
namespace Go.VL
open Go Go.RowKit
section
variable {P:Program} {M:Mem} {β:Lo} {w w':World} {n:Nat} {A:jP} {s:St} {a:Act}
theorem nK{f:Nat}(h:Kj P f)(args:Array Value):(callFunc f args).run P w=.ok (.enter f args) w:=by
 obtain⟨fn,h1,h2,h3⟩:=h
 unfold callFunc
 simp only[Sem.run_bind,run_program,Result.andThen_ok,h1]
 rw[if_neg (by rw[h3];simp),if_neg (by rw[h2];simp)]
 rfl
theorem xy{T:ep}(hT:cT P T)(hB:lV P A){cfg:Nat->FC}(g:cZ n A s a w M β)(o:Oper){K:List Nat->List Nat->St->Tree}{Φ:Nat->List AV->List Ob->Prop}(h:eH P n (wg T cfg n o s K) Φ)
 {Kw:Act->World->Prop} {Qw:Exit->Act->World->Prop} (hK:∀rd wr s' a' w',fV n A s' a' w'->eH P n (K rd wr s') Φ->Kw a' w'):o.wp P a w Kw Qw:=by
 unfold wg at h
 have plain:(∀d,jX T cfg (ev s) s.ob o=.d none d->dI T (ev s) s.ob o=.yes d)->(∀p d,jX T cfg (ev s) s.ob o=.d (some p) d->dI T (ev s) s.ob o=.ok p d)->(∀f asq ins wr k,jX T cfg (ev s) s.ob o≠.c f asq ins wr k)->o.wp P a w Kw Qw:=by
  intro h1 h2 h3
  have hop:=Fj g hT o
  split at h
  ·exact h.elim
  ·rename_i p d he
   cases hn:dB s n o.dst d with
   |false=>rw[hn]at h;exact h.elim
   |
    true =>
    rw[hn]at h
    simp only[cond_true]at h
    cases p with
    |
     none =>
     rw[h1 d he]at hop
     exact Step.wp (hop hn) fun a' w' hg=>hK _ _ _ _ _ hg h
    |
     some p =>
     rw[h2 p d he]at hop
     exact Step.wp (hop h.1 hn) fun a' w' hg=>hK _ _ _ _ _ hg h.2
  ·rename_i f asq ins wr k he
   exact absurd he (h3 f asq ins wr k)
 have callC:∀(f:Nat) (asq:List AV) (vs:List Value),jX T cfg (ev s) s.ob o=fR T cfg (ev s) s.ob o f asq->vs.length=asq.length->(∀i,i<asq.length->bo M β (asq.getD i .any) (vs.getD i undef)) ->
  (Kj P f->(execOp a.eval o).run P w=.ok (.enter f vs.toArray) w)->o.wp P a w Kw Qw:=by
  intro f asq vs he hl hr hrun
  cases hE:fR T cfg (ev s) s.ob o f asq with
  |no=>rw[he,hE]at h;exact h.elim
  |
   d p d =>
   exfalso
   unfold fR at hE
   simp only at hE
   split at hE
   ·cases hgd:(nodup _&&_)with
    |true=>rw[hgd]at hE;cases hE
    |false=>rw[hgd]at hE;cases hE
   ·cases hE
  |
   c f' as' ins wr k =>
   obtain⟨rfl,M1,βc,hM1,hin,hback⟩:=z7 g hE hl hr
   rw[he,hE]at h
   simp only[eH]at h
   obtain⟨R,hS,_,hk⟩:=h
   unfold Oper.wp
   rw[hrun hS.1]
   show Calls P f' vs.toArray w _
   refine Calls.mono (hS.2 w M1 βc vs (hB.at g.cB (Mem.le.trans g.le hM1)) hin) fun e w' ⟨v,r,obs,M',β',he,hRr,hout⟩=>?_
   subst he
   obtain⟨hp,ht⟩:=gD.1 (hk r obs hRr)
   cases hn:dB s n o.dst (k r obs).2 with
   |false=>rw[hn]at ht;exact ht.elim
   |
    true =>
    rw[hn]at ht
    simp only[cond_true]at ht
    exact hK _ _ _ _ _ (hback v r obs w' M' β' hout hp hn) ht
 cases ho:o.op with
 |
  call c =>
  obtain⟨callee,xs,ts⟩:=c
  cases callee with
  |
   value x =>
   have he:jX T cfg (ev s) s.ob o=(match ev s x with
    | .v (.func (.func f) fi cap)=>bif aF fi.size 0&&aF cap.size 0 then fR T cfg (ev s) s.ob o f (xs.toList.map (ev s))else .no
    | .fn f cap=>fR T cfg (ev s) s.ob o f (xs.toList.map (ev s)++cap)
    |_=>.no):=by unfold jX;rw[ho];try rfl
   have hx:=g.ev x
   have harr:xs.map a.eval=(xs.toList.map a.eval).toArray:=by apply Array.ext';simp
   have hargs:∀i,i<(xs.toList.map (ev s)).length->bo M β ((xs.toList.map (ev s)).getD i .any) ((xs.toList.map a.eval).getD i undef):=by
    intro i hi
    have hi':i<xs.size:=by simpa using hi
    simp[aa,hi']
    exact g.ev _
   split at he
   ·rename_i f fi cap e
    rw[e]at hx
    cases hq:(aF fi.size 0&&aF cap.size 0)with
    |false=>rw[hq]at he;rw[he]at h;exact h.elim
    |
     true =>
     rw[hq]at he
     simp only[au]at hq
     have e1:fi = #[]:=Array.size_eq_zero_iff.1 (aC hq.1)
     have e2:cap = #[]:=Array.size_eq_zero_iff.1 (aC hq.2)
     subst e1;subst e2
     refine callC f _ (xs.toList.map a.eval) he (by simp) hargs fun hE=>?_
     simp only[execOp,ho,resolve,Sem.run_bind,dA hx,Deferred.ofValue,Sem.run_pure,Result.andThen_ok,invoke]
     rw[nK hE,harr]
     simp
   ·rename_i f cap e
    rw[e]at hx
    have:∃vs:List Value,a.eval x=.func (.func f) #[] vs.toArray/\cap.length=vs.length/\∀i,i<cap.length->bo M β (cap.getD i .any) (vs.getD i undef):=by
     generalize a.eval x=u at hx
     cases hx with|fn _ _ _ vs hl h=>exact⟨vs,rfl,hl,h⟩
    obtain⟨us,hu,hul,hur⟩:=this
    refine callC f _ (xs.toList.map a.eval++us) he (by simp[hul]) (fun i hi=>?_) fun hE=>?_
    ·rw[iV,iV]
     by_cases hi':i<(xs.toList.map (ev s)).length
     ·rw[if_pos hi',if_pos (by simpa using hi')];exact hargs i hi'
     ·rw[if_neg hi',if_neg (by simpa using hi')]
      rw[cg,cg]
      simp only[ak,cg]at hi hi'
      exact hur _ (by omega)
    ·simp only[execOp,ho,resolve,Sem.run_bind,hu,Deferred.ofValue,Sem.run_pure,Result.andThen_ok,invoke]
     rw[nK hE,harr]
     simp
   ·rw[he]at h;exact h.elim
  |
   builtin b =>
   have he:jX T cfg (ev s) s.ob o=(match dI T (ev s) s.ob o with| .ok p d=>.d (some p) d| .yes d=>.d none d| .no=>.no):=by unfold jX;rw[ho];try rfl
   refine plain (fun d hd=>?_) (fun p d hd=>?_) fun f asq ins wr k hd=>?_<;>rw[he]at hd<;>split at hd<;>cases hd<;>assumption
  |
   invoke r nm =>
   have he:jX T cfg (ev s) s.ob o=(match dI T (ev s) s.ob o with| .ok p d=>.d (some p) d| .yes d=>.d none d| .no=>.no):=by unfold jX;rw[ho];try rfl
   refine plain (fun d hd=>?_) (fun p d hd=>?_) fun f asq ins wr k hd=>?_<;>rw[he]at hd<;>split at hd<;>cases hd<;>assumption
 |
  _ =>
  have he:jX T cfg (ev s) s.ob o=(match dI T (ev s) s.ob o with| .ok p d=>.d (some p) d| .yes d=>.d none d| .no=>.no):=by unfold jX;rw[ho];try rfl
  refine plain (fun d hd=>?_) (fun p d hd=>?_) fun f asq ins wr k hd=>?_<;>rw[he]at hd<;>split at hd<;>cases hd<;>assumption
end
end Go.VL
namespace Go.VL
open Go Go.RowKit
section
variable {P:Program} {w w':World} {n:Nat} {A:jP} {s:St} {a:Act}
theorem rA{ops:Array Oper}{tmps:Array Value}{g t:Nat}(h:(ops.toList[g]?).map (·.dst)=some (some t)):yielded ops tmps g=match tmps[t]? with|some (.bool b)=>some b|_=>none:=by
 unfold yielded
 have e:ops[g]?=ops.toList[g]?:=by simp
 rw[e]
 cases hq:ops.toList[g]? with
 |none=>rw[hq]at h;cases h
 |some o=>rw[hq]at h;simp only[cy,Option.some.injEq]at h;simp only[e,hq,Option.bind_some,h];rfl
theorem oU{ops:Array Oper}{tmps:Array Value}{g t:Nat}{b:Bool}(h:(ops.toList[g]?).map (·.dst)=some (some t))(hv:tmps.getD t undef=.bool b):yielded ops tmps g=some b:=by
 rw[rA h]
 by_cases ht:t<tmps.size
 ·have:tmps[t]?=some (.bool b):=by
   have e:tmps.getD t undef=tmps[t]:=by simp[ht]
   rw[e]at hv;simp[ht,hv]
  rw[this]
 ·have:tmps.getD t undef=undef:=by simp[show tmps.size<=t by omega]
  rw[this]at hv;cases hv
theorem m8{ops:Array Oper}{tmps:Array Value}{g t:Nat}{vs:Array Value}(h:(ops.toList[g]?).map (·.dst)=some (some t))(hv:tmps.getD t undef=.tuple vs):yielded ops tmps g=none:=by
 rw[rA h]
 by_cases ht:t<tmps.size
 ·have:tmps[t]?=some (.tuple vs):=by
   have e:tmps.getD t undef=tmps[t]:=by simp[ht]
   rw[e]at hv;simp[ht,hv]
  rw[this]
 ·have:tmps[t]?=none:=by simp;omega
  rw[this]
theorem fV.test(h:fV n A s a w){t:Nat}{b:Bool}(ht:s.tm t=.b b):fV n A (s.set t (.v (.bool b))) a w/\a.tmps.getD t undef=.bool b:=by
 obtain⟨M,β,g⟩:=h
 have hv:a.tmps.getD t undef=.bool b:=by have:=g.tm t;rw[ht]at this;exact DX this
 refine⟨⟨M,β,{g with tm:=fun q=>?_}⟩,hv⟩
 show bo M β (cr s.tm t (.v (.bool b)) q) _
 by_cases e:q=t
 ·subst e;rw[aL,hv];exact .v _ _
 ·rw[aW _ _ _ _ e];exact g.tm q
def Mw(s:St)(dst:Option Nat):St:=match dst with|some t=>s.set t (.v (.tuple #[]))|none=>s
theorem fV.skip(h:fV n A s a w){dst:Option Nat}(hd:∀t,dst=some t->t<n):fV n A (Mw s dst) (a.put dst undef) w:=by
 obtain⟨M,β,g⟩:=h
 have:=cZ.put g (x:=.v (.tuple #[])) (v:=undef) (.v _ _) hd
 cases dst with
 |none=>exact⟨M,β,this⟩
 |some t=>exact⟨M,β,this⟩
theorem fV.bool(h:fV n A s a w){t:Nat}{b:Bool}(ht:s.tm t=.v (.bool b)):a.tmps.getD t undef=.bool b:=by
 obtain⟨M,β,g⟩:=h
 have:=g.tm t
 rw[ht]at this
 exact dA this
theorem fV.cP(h:fV n A s a w){t:Nat}{vs:Array Value}(ht:s.tm t=.v (.tuple vs)):a.tmps.getD t undef=.tuple vs:=by
 obtain⟨M,β,g⟩:=h
 have:=g.tm t
 rw[ht]at this
 exact dA this
theorem wU{T:ep}(hT:cT P T)(hB:lV P A){cfg:Nat->FC}{ops:Array Oper}{draw:Bool}{K:St->Tree}{Φ:Nat->List AV->List Ob->Prop}{Q:Exit->Act->World->Prop}
 (hK:∀s a w,fV n A s a w->eH P n (K s) Φ->Q .normal a w) :
 ∀(rest:List Oper) (hist:List HE) (s:St) (a:Act) (w:World),fV n A s a w->eH P n (kF T cfg n draw ops.toList rest hist s K) Φ->wpList P ops Q rest a w
 |[],hist,s,a,w,g,h=>hK s a w g h
 |
  o::rest,hist,s,a,w,g,h=>by
  have run:∀s a w,fV n A s a w->eH P n (wg T cfg n o s fun rd wr s'=>bif !draw||((dh o).all (fun j=>cv j hist.length)&&jx ops.toList o rd wr hist (hJ o hist))then kF T cfg n draw ops.toList rest (hist++[⟨hist.length,o,rd,wr,hJ o hist⟩]) s' K else .fail) Φ ->
   o.wp P a w (wpList P ops Q rest) Q:=by
   intro s a w ⟨M,β,g⟩ h
   refine xy hT hB g o h fun rd wr s' a' w' g' h'=>?_
   cases hq:(!draw||((dh o).all (fun j=>cv j hist.length)&&jx ops.toList o rd wr hist (hJ o hist)))with
   |false=>rw[hq]at h';exact h'.elim
   |true=>rw[hq]at h';exact wU hT hB hK rest _ s' a' w' g' h'
  have skip:∀s a w,fV n A s a w->eH P n (bif (match o.dst with|some t=>cv t n|none=>true)&&(!draw||((dh o).all (fun j=>cv j hist.length)&&jx ops.toList o [] [] hist (hJ o hist)))then kF T cfg n draw ops.toList rest (hist++[⟨hist.length,o,[],[],hJ o hist⟩]) (match o.dst with|some t=>s.set t (.v (.tuple #[]))|none=>s) K else .fail) Φ ->
   wpList P ops Q rest (a.put o.dst undef) w:=by
   intro s a w g h
   cases hq:((match o.dst with|some t=>cv t n|none=>true)&&(!draw||((dh o).all (fun j=>cv j hist.length)&&jx ops.toList o [] [] hist (hJ o hist))))with
   |false=>rw[hq]at h;exact h.elim
   |
    true =>
    rw[hq]at h
    rw[au]at hq
    refine wU hT hB hK rest _ (Mw s o.dst) _ w (g.skip fun t ht=>?_) h
    have:=hq.1
    rw[ht]at this
    have:=aN this
    omega
  unfold wpList
  unfold kF at h
  simp only at h
  cases hg:o.guard with
  |
   none =>
   rw[hg]at h
   rw[if_pos (by simp[Region.wanted,hg])]
   exact .inl (run s a w g h)
  |
   some gw =>
   obtain⟨gi,want⟩:=gw
   rw[hg]at h
   simp only at h
   split at h
   ·rename_i t hdst
    have wantT:∀b,a.tmps.getD t undef=.bool b->Region.wanted o (yielded ops a.tmps)=(b==want):=by
     intro b hb
     have:=oU (ops:=ops) hdst hb
     simp[Region.wanted,hg,this]
    split at h
    ·rename_i e
     have hb:=g.bool e
     cases want with
     |true=>rw[wantT _ hb,if_pos (by decide)];exact .inl (run s a w g h)
     |false=>rw[wantT _ hb,if_neg (by decide)];exact skip s a w g h
    ·rename_i e
     have hb:=g.bool e
     cases want with
     |true=>rw[wantT _ hb,if_neg (by decide)];exact skip s a w g h
     |false=>rw[wantT _ hb,if_pos (by decide)];exact .inl (run s a w g h)
    ·rename_i vs e
     have hb:=g.cP e
     have:=m8 (ops:=ops) hdst hb
     rw[if_neg (by simp[Region.wanted,hg,this])]
     exact skip s a w g h
    ·rename_i b e
     obtain⟨g',hb⟩:=g.test e
     obtain⟨h1,h2⟩:=h
     cases b with
     |
      true =>
      have h1:=h1 rfl
      cases want with
      |true=>rw[wantT _ hb,if_pos (by decide)];exact .inl (run _ a w g' h1)
      |false=>rw[wantT _ hb,if_neg (by decide)];exact skip _ a w g' h1
     |
      false =>
      have h2:=h2 rfl
      cases want with
      |true=>rw[wantT _ hb,if_neg (by decide)];exact skip _ a w g' h2
      |false=>rw[wantT _ hb,if_pos (by decide)];exact .inl (run _ a w g' h2)
    ·exact h.elim
   ·exact h.elim
end
end Go.VL
namespace Go.VL
open Go Go.RowKit
section
variable {P:Program} {w w':World} {n:Nat} {A:jP} {s:St} {a:Act}
def Oj:Ex->Exit
 | .normal=>.normal
 | .exit i=>.exit i
 | .ret=>.ret
def w9(P:Program)(n:Nat)(A:jP)(T:ep)(cfg:Nat->FC)(Φ:Nat->List AV->List Ob->Prop):Prop :=
 ∀(id:Nat) (ops:Array Oper) (draw:Bool) (K:St->Tree) (Q:Exit->Act->World->Prop),(∀s a w,fV n A s a w->eH P n (K s) Φ->Q .normal a w) ->
  ∀s a w,fV n A s a w->eH P n (kF T cfg n draw ops.toList ops.toList [] s K) Φ->(Code.region id ops draw).wp P Q a w
theorem z6:∀{l r:List Nat},Js l r=true->l=r
 |[],[],_=>rfl
 |[],_::_,h=>by cases h
 |_::_,[],h=>by cases h
 |
  a::l,b::r,h=>by
  simp only[Js,au]at h
  rw[aC h.1,z6 h.2]
theorem BG{T:ep}{cfg:Nat->FC}{Φ:Nat->List AV->List Ob->Prop}(hB:lV P A)(hreg:w9 P n A T cfg Φ)(lis:List (Nat×LI)){fx:List Nat}(hA:∀o b,A.fix o=some b->o∈fx) :
 ∀(c:Code) (s:St) (K:Ex->St->Tree) (Q:Exit->Act->World->Prop),(∀ex s a w,fV n A s a w->eH P n (K ex s) Φ->Q (Oj ex) a w) ->
  ∀a w,fV n A s a w->eH P n (go T cfg n lis fx c s K) Φ->c.wp P Q a w:=by
 intro c
 induction c with
 |skip=>intro s K Q hK a w g h;exact wp_skip (hK .normal s a w g h)
 |region id ops draw=>intro s K Q hK a w g h;exact hreg id ops draw (K .normal) Q (fun s a w g h=>hK .normal s a w g h) s a w g h
 |
  seq x y ihx ihy =>
  intro s K Q hK a w g h
  refine wp_seq (ihx s _ _ ?_ a w g h)
  intro ex s' a' w' g' h'
  cases ex with
  |normal=>exact ihy s' K Q hK a' w' g' h'
  |exit i=>exact hK (.exit i) s' a' w' g' h'
  |ret=>exact hK .ret s' a' w' g' h'
 |
  cond c x y ihx ihy =>
  intro s K Q hK a w g h
  unfold go at h
  split at h
  ·rename_i t
   split at h
   ·rename_i e
    exact wp_cond_true (g.bool e) (ihx s K Q hK a w g h)
   ·rename_i e
    exact wp_cond_false (g.bool e) (ihy s K Q hK a w g h)
   ·rename_i b e
    obtain⟨g',hb⟩:=g.test e
    obtain⟨h1,h2⟩:=h
    cases b with
    |true=>exact wp_cond_true hb (ihx _ K Q hK a w g' (h1 rfl))
    |false=>exact wp_cond_false hb (ihy _ K Q hK a w g' (h2 rfl))
   ·exact h.elim
  ·exact wp_cond_true rfl (ihx s K Q hK a w g h)
  ·exact wp_cond_false rfl (ihy s K Q hK a w g h)
  ·exact h.elim
 |
  block id c ih =>
  intro s K Q hK a w g h
  refine wp_block (ih s _ _ ?_ a w g h)
  intro ex s' a' w' g' h'
  cases ex with
  |normal=>exact hK .normal s' a' w' g' h'
  |
   exit i =>
   show if i=id then _ else _
   cases e:aF i id with
   |
    true =>
    simp only[e,cond_true]at h'
    rw[if_pos (aC e)]
    exact hK .normal s' a' w' g' h'
   |
    false =>
    simp only[e,cond_false]at h'
    rw[if_neg (fun h=>by subst h;rw[Nat.beq_refl]at e;cases e)]
    exact hK (.exit i) s' a' w' g' h'
  |ret=>exact hK .ret s' a' w' g' h'
 |
  loop c ih =>
  intro s K Q hK a w g h
  unfold go at h
  split at h
  ·rename_i li _
   cases hq:(Js fx li.fx&&(uk fx li.xs&&uk fx li.rt))with
   |false=>rw[hq]at h;exact h.elim
   |
    true =>
    rw[hq]at h
    simp only[cond_true]at h
    simp only[au]at hq
    obtain⟨q1,q2,q3⟩:=hq
    have efx:=z6 q1
    split at h
    ·rename_i xs obs hcut
     obtain⟨R,hL,hx,hr⟩:=h
     obtain⟨M,β,g⟩:=g
     refine Code.wp_mono ?_ (hL A a w hB (by rw[<-efx];exact hA) ⟨s,M,β,g,hcut⟩).wp
     intro e a' w' hq
     cases e with
     |
      exit i =>
      obtain⟨rfl,ys,o,hR,s',M',β',g',hc'⟩:=hq
      obtain⟨p,t⟩:=gD.1 (hx ys o hR)
      exact hK (.exit li.ex) _ a' w' (wc g' q2 hA hc' p) t
     |
      ret =>
      obtain⟨ys,o,hR,s',M',β',g',hc'⟩:=hq
      obtain⟨p,t⟩:=gD.1 (hr ys o hR)
      exact hK .ret _ a' w' (wc g' q3 hA hc' p) t
     |_=>exact hq.elim
    ·exact h.elim
  ·exact h.elim
 |exit i=>intro s K Q hK a w g h;exact wp_exit (hK (.exit i) s a w g h)
 |label l=>intro s K Q hK a w g h;exact wp_label (hK .normal s a w g h)
 |ret=>intro s K Q hK a w g h;exact wp_ret (hK .ret s a w g h)
 |_=>intro s K Q hK a w g h;exact h.elim
theorem cW.step{T:ep}{cfg:Nat->FC}{lis:List (Nat×LI)}{c:Code}{li:LI}{xs:List AV}{obs:List Ob}{R:Nat->List AV->List Ob->Prop}
 (hreg:∀A,lV P A->w9 P n A T cfg fun tag ys o=>(tag=0->cW P n c li ys o R)/\(tag=1->R 1 ys o)/\(tag=2->R 2 ys o))
 (h:eH P n (round T cfg n lis c li xs obs) fun tag ys o=>(tag=0->cW P n c li ys o R)/\(tag=1->R 1 ys o)/\(tag=2->R 2 ys o)):cW P n c li xs obs R:=by
 intro A a w hB hA ⟨s,M,β,g,hcut⟩
 unfold round at h
 cases hq:uk li.fx li.hd with
 |false=>rw[hq]at h;exact h.elim
 |true =>
 rw[hq]at h
 simp only[Bool.not_true,cond_false]at h
 obtain⟨p,h⟩:=gD.1 h
 refine nF.E9 (BG hB (hreg A hB) lis hA c _ _ _ ?_ a w (wc g hq hA hcut p) h)
 intro ex s' a' w' ⟨M',β',g'⟩ h'
 cases ex with
 |
  normal =>
  simp only at h'
  split at h'
  ·rename_i ys o hc;exact(h'.1 rfl) A a' w' hB hA ⟨s',M',β',g',hc⟩
  ·exact h'.elim
 |
  exit i =>
  simp only at h'
  cases e:aF i li.ex with
  |
   true =>
   simp only[e,cond_true]at h'
   split at h'
   ·rename_i ys o hc;exact⟨aC e,ys,o,h'.2.1 rfl,s',M',β',g',hc⟩
   ·exact h'.elim
  |false=>simp only[e,cond_false]at h';exact h'.elim
 |
  ret =>
  simp only at h'
  split at h'
  ·rename_i ys o hc;exact⟨ys,o,h'.2.2 rfl,s',M',β',g',hc⟩
  ·exact h'.elim
variable {M:Mem} {β:Lo}
theorem Db{t:Nat}{v u:Value}(h:(Instr.loadAt t v).run P w=.ok u w):(do loadVar t (<-asAddr v):Sem Value).run P w=.ok u w:=by
 unfold Instr.loadAt at h
 cases v with
 |
  pointer ad =>
  cases ad with
  |none=>simp[Instr.sureAddr,Sem.run_bind]at h
  |some ad=>simpa[Instr.sureAddr,asAddr,Sem.run_bind]using h
 |_=>simp[Instr.sureAddr,Sem.run_bind]at h
def vR(tmps:Array Value):ResultVar->Sem Value
 | .tmp t=>pure (tmps.getD t undef)
 | .cell q t=>do loadVar t (<-asAddr (tmps.getD q undef))
theorem rF(F:Func)(tmps:Array Value):results F tmps=(do let vs <-F.results.mapM (vR tmps);pure (if h:vs.size=1 then vs[0]else .tuple vs)):=rfl
theorem oq{T:ep}(hT:cT P T)(g:cZ n A s a w M β):∀(rv:List ResultVar) {ps:List Prop} {asq:List AV},mG T s rv=some (ps,asq)->gu ps ->
 ∃vs:List Value,(rv.mapM (vR a.tmps)).run P w=.ok vs w/\asq.length=vs.length/\∀i,i<asq.length->bo M β (asq.getD i .any) (vs.getD i undef)
 |
  [],ps,asq,h,hp=>by
  simp only[mG,Option.some.injEq,Prod.mk.injEq]at h
  obtain⟨rfl,rfl⟩:=h
  exact⟨[],by simp,rfl,fun i hi=>by simp at hi⟩
 |
  .tmp t::r,ps,asq,h,hp=>by
  simp only[mG]at h
  cases e:mG T s r with
  |none=>rw[e]at h;cases h
  |
   some q =>
   rw[e]at h
   simp only[cy,Option.some.injEq,Prod.mk.injEq]at h
   obtain⟨rfl,rfl⟩:=h
   obtain⟨vs,h1,h2,h3⟩:=oq hT g r e hp
   refine⟨a.tmps.getD t undef::vs,?_,by simp[h2],fun i hi=>?_⟩
   ·simp only[List.mapM_cons,vR,Sem.run_bind,Sem.run_pure,Result.andThen_ok,h1]
   ·cases i with
    |zero=>simpa using g.tm t
    |succ i=>simpa using h3 i (by simpa using hi)
 |
  .cell q t::r,ps,asq,h,hp=>by
  simp only[mG]at h
  have hld:=sE (P:=P) hT g.own g.agree (t:=t) (g.tm q)
  have fin:∀(u:Value) (d:De) (p':List Prop) (as':List AV),mG T s r=some (p',as')->gu p'->asq=d.val::as'->(Instr.loadAt t (a.tmps.getD q undef)).run P w=.ok u w->bo M β d.val u ->
   ∃vs:List Value,((ResultVar.cell q t::r).mapM (vR a.tmps)).run P w=.ok vs w/\asq.length=vs.length/\∀i,i<asq.length->bo M β (asq.getD i .any) (vs.getD i undef):=by
   intro u d p' as' e hp' ea hu hr
   obtain⟨vs,h1,h2,h3⟩:=oq hT g r e hp'
   subst ea
   refine⟨u::vs,?_,by simp[h2],fun i hi=>?_⟩
   ·rw[List.mapM_cons,Sem.run_bind,vR,Db hu]
    simp only[Result.andThen_ok,Sem.run_bind,h1,Sem.run_pure]
   ·cases i with
    |zero=>simpa using hr
    |succ i=>simpa using h3 i (by simpa using hi)
  split at h
  ·rename_i p d qq e1 e2
   cases h
   rw[e1]at hld
   obtain⟨u,h1,h2⟩:=(hld hp.1).2.2
   exact fin u d qq.1 qq.2 e2 hp.2 rfl h1 h2
  ·rename_i d qq e1 e2
   cases h
   rw[e1]at hld
   obtain⟨u,h1,h2⟩:=hld.2.2
   exact fin u d qq.1 qq.2 e2 hp rfl h1 h2
  ·cases h
theorem mE:∀(asq:List AV) (i:Nat) (f:Nat->AV) (t:Nat),setArgs asq i f t=if i<=t/\t<i+asq.length then asq.getD (t-i) .any else f t
 |[],i,f,t=>by rw[if_neg (by simp only[aE];omega)];rfl
 |
  x::asq,i,f,t=>by
  rw[setArgs,mE asq (i+1) _ t]
  simp only[aw]
  by_cases h:i+1<=t/\t<i+1+asq.length
  ·rw[if_pos h,if_pos (by omega),show t-i=(t-(i+1))+1 by omega];rfl
  ·rw[if_neg h]
   by_cases e:t=i
   ·subst e;rw[aL,if_pos (by omega)];simp
   ·rw[aW _ _ _ _ e,if_neg (by omega)]
theorem qQ:∀(os:List Ob) (i:Nat) (f:Nat->Option Ob) (t:Nat),rB os i f t=if i<=t/\t<i+os.length then some (os.getD (t-i) .dead)else f t
 |[],i,f,t=>by rw[if_neg (by simp only[aE];omega)];rfl
 |
  x::os,i,f,t=>by
  rw[rB,qQ os (i+1) _ t]
  simp only[aw]
  by_cases h:i+1<=t/\t<i+1+os.length
  ·rw[if_pos h,if_pos (by omega),show t-i=(t-(i+1))+1 by omega];rfl
  ·rw[if_neg h]
   by_cases e:t=i
   ·subst e;rw[aL,if_pos (by omega)];simp
   ·rw[aW _ _ _ _ e,if_neg (by omega)]
theorem lY(g:cZ n A s a w M β){ob0:Nat->Option Ob}:∀(ms:List MK) {obs:List Ob} {os:List Nat} {j:Nat},l8 ob0 ms j=some (obs,os)->(∀o x,o∈os->ob0 o=some x->s.ob o=some x) ->
 ∀{U:List Nat} {f:Nat->Option Ob} {βc:Lo},fX s w M β U f βc->(∀m,j<=m->f m=none)->nodup os=true->(∀o,o∈os->o∉U) ->
 ∃βc' U' f',fX s w M β U' f' βc'/\Lo.le βc βc'/\(∀o,o∈U'->o∈os\/o∈U)/\(∀m,j+obs.length<=m->f' m=none)/\(∀m,m<j->f' m=f m)/\(∀q,q<obs.length->obs.getD q .dead=.dead\/f' (j+q)=some (obs.getD q .dead))/\obs.length=en ms /\
  (∀q,q∈ph ms j->(∃x,s.ob q=some x)/\∃b,β q=some b/\βc' q=some b)/\(∀q sz es,q<obs.length->obs.getD q .dead=.mC sz es->j+q∈ph ms j)
 |
  [],obs,os,j,h,h0,U,f,βc,hB,hnm,hnd,hU=>by
  simp only[l8,Option.some.injEq,Prod.mk.injEq]at h
  obtain⟨rfl,rfl⟩:=h
  exact⟨βc,U,f,hB,Lo.le.refl _,fun o ho=>.inr ho,fun m hm=>hnm m (by simpa using hm),fun m _=>rfl,fun q hq=>(by simp at hq),rfl,fun q hq=>(by cases hq),fun q sz es hq=>(by simp at hq)⟩
 |
  .vec::ms,obs,os,j,h,h0,U,f,βc,hB,hnm,hnd,hU=>by
  simp only[l8]at h
  split at h
  ·rename_i obs1 os1 h1
   cases h
   obtain⟨n1,n2⟩:=nodup_cons hnd
   obtain⟨β3,U',f',b1,b2,b3,b4,b5,b6,b7,b8,b9⟩:=lY g ms h1 (fun o x ho=>h0 o x (ai _ ho)) hB (fun m hm=>hnm m (by omega)) n2 (fun o ho=>hU o (ai _ ho))
   refine⟨β3,U',f',b1,b2,fun o ho=>?_,fun m hm=>b4 m (by simp at hm;omega),fun m hm=>b5 m (by omega),fun q hq=>?_,by simp[en,b7],b8,fun q sz es hq he=>?_⟩
   ·rcases b3 o ho with h|h
    ·exact .inl (ai _ h)
    ·exact .inr h
   ·cases q with
    |zero=>exact .inl rfl
    |
     succ q =>
     have:=b6 q (by simpa using hq)
     rw[show j+(q+1)=j+1+q by omega]
     simpa using this
   ·cases q with
    |zero=>cases he
    |
     succ q =>
     have:=b9 q sz es (by simpa using hq) (by simpa using he)
     rw[show j+(q+1)=j+1+q by omega]
     exact this
  ·cases h
 |
  .ve kz::ms,obs,os,j,h,h0,U,f,βc,hB,hnm,hnd,hU=>by
  simp only[l8]at h
  split at h
  ·rename_i obs1 os1 h1
   cases h
   obtain⟨n1,n2⟩:=nodup_cons hnd
   obtain⟨β3,U',f',b1,b2,b3,b4,b5,b6,b7,b8,b9⟩:=lY g ms h1 (fun o x ho=>h0 o x (ai _ ho)) hB (fun m hm=>hnm m (by omega)) n2 (fun o ho=>hU o (ai _ ho))
   refine⟨β3,U',f',b1,b2,fun o ho=>?_,fun m hm=>b4 m (by simp at hm;omega),fun m hm=>b5 m (by omega),fun q hq=>?_,by simp[en,b7],b8,fun q sz es hq he=>?_⟩
   ·rcases b3 o ho with h|h
    ·exact .inl (ai _ h)
    ·exact .inr h
   ·cases q with
    |zero=>exact .inl rfl
    |
     succ q =>
     have:=b6 q (by simpa using hq)
     rw[show j+(q+1)=j+1+q by omega]
     simpa using this
   ·cases q with
    |zero=>cases he
    |
     succ q =>
     have:=b9 q sz es (by simpa using hq) (by simpa using he)
     rw[show j+(q+1)=j+1+q by omega]
     exact this
  ·cases h
 |
  .cB gg ks::ms,obs,os,j,h,h0,U,f,βc,hB,hnm,hnd,hU=>by
  simp only[l8]at h
  split at h
  ·rename_i sz es ho
   cases hz:aF sz (ld ks)with
   |false=>rw[hz]at h;cases h
   |true =>
   rw[hz]at h
   simp only[cond_true]at h
   split at h
   ·rename_i obs1 os1 h1
    cases h
    obtain⟨n1,n2⟩:=nodup_cons hnd
    have ho:=h0 j _ ag ho
    obtain⟨v,q1,q2,q3⟩:=g.own j _ ho
    have hfj:=hnm j (aq _)
    have hB2:=hB.add g hfj (l:=.vec v sz) (x:=.mC sz es) ⟨v,aL _ _ _,q2,q3⟩ j (hU j ag) (fun b hb=>⟨_,ho,rfl,by simp[dN,q1];exact hb⟩)
    obtain⟨β3,U',f',b1,b2,b3,b4,b5,b6,b7,b8,b9⟩:=lY g ms h1 (fun o x ho=>h0 o x (ai _ ho)) hB2 (fun m hm=>by rw[aW _ _ _ _ (by omega)];exact hnm m (by omega)) n2 (fun o hq hh=>by
     rcases aI.1 hh with rfl|hh
     ·exact n1 hq
     ·exact hU o (ai _ hq) hh)
    refine⟨β3,U',f',b1,fun o l hl=>b2 o l (hB.le hfj _ o l hl),fun o ho=>?_,fun m hm=>b4 m (by simp at hm;omega),fun m hm=>(by rw[b5 m (by omega),aW _ _ _ _ (by omega)]),fun q hq=>?_,by simp[en,b7],fun q hq=>?_,fun q sz es hq he=>?_⟩
    ·rcases b3 o ho with h|h
     ·exact .inl (ai _ h)
     ·rcases aI.1 h with rfl|h
      ·exact .inl ag
      ·exact .inr h
    ·cases q with
     |zero=>right;rw[bM,b5 j (by omega),aL];rfl
     |
      succ q =>
      have:=b6 q (by simpa using hq)
      rw[show j+(q+1)=j+1+q by omega]
      simpa using this
    ·rcases aI.1 hq with rfl|hq
     ·exact⟨⟨_,ho⟩,_,q1,b2 _ _ (aL _ _ _)⟩
     ·exact b8 q hq
    ·cases q with
     |zero=>exact ag
     |
      succ q =>
      have:=b9 q sz es (by simpa using hq) (by simpa using he)
      rw[show j+(q+1)=j+1+q by omega]
      exact ai _ this
   ·cases h
  ·cases h
 |
  .obj ks::ms,obs,os,j,h,h0,U,f,βc,hB,hnm,hnd,hU=>by
  simp only[l8]at h
  split at h
  ·rename_i cs ho
   split at h
   ·rename_i asq obs1 os1 h1
    split at h
    ·rename_i obs2 os2 h2
     cases h
     have hnd':nodup (j::(os1++os2))=true:=by simpa using hnd
     obtain⟨n1,n2⟩:=nodup_cons hnd'
     obtain⟨n3,n4,n5⟩:=er n2
     have hl1:=iI ks h1
     obtain⟨β3,U1,f1,b1,b2,b3,b4,b5,b6,b7,b8,_⟩:=jM g ks h1 (fun o x hh=>h0 o x (by simp[hh])) hB (fun m hm=>hnm m (by omega)) n3 (fun q hq=>hU q (by simp[hq]))
     have ho:=h0 j _ (by simp) ho
     obtain⟨b,vs,e,q1,q2,q3,q4,q5,q6⟩:=g.own j _ ho
     have hfj:f1 j=none:=by rw[b5 j (by omega)];exact hnm j (aq _)
     have hB2:=b1.add g hfj (l:=.cells b) (x:=.cells asq)
      ⟨b,vs,e,aL _ _ _,q2,by rw[q3,b7],fun i hi=>(b8 i _ (by omega) (q4 i (by omega))).mono (Mem.le.refl _) (b1.le hfj _),q5,q6⟩ j
      (fun hh=>by
       rcases b3 j hh with h|h
       ·exact n1 (aA _ h)
       ·exact hU j (by simp) h)
      (fun b' hb'=>by
       simp only[Loc.block,Option.some.injEq]at hb'
       subst hb'
       exact⟨_,ho,rfl,by simp[dN,q1,Loc.block]⟩)
     obtain⟨β4,U2,f2,d1,d2,d3,d4,d5,d6,d7,d8,d9⟩:=lY g ms h2 (fun o x hh=>h0 o x (by simp[hh])) hB2 (fun m hm=>by
      rw[aW _ _ _ _ (by omega)];exact b4 m (by omega)) n4 (fun o hh hh'=>by
      rcases aI.1 hh' with rfl|hh'
      ·exact n1 (az _ hh)
      ·rcases b3 o hh' with h|h
       ·exact n5 o h hh
       ·exact hU o (by simp[hh]) h)
     refine⟨β4,U2,f2,d1,fun o l hl=>d2 o l (b1.le hfj _ o l (b2 o l hl)),fun o hh=>?_,fun m hm=>d4 m (by simp at hm;omega),fun m hm=>?_,fun q hq=>?_,by simp[en,d7,hl1];omega,fun q hq=>?_,fun q sz es hq he=>?_⟩
     ·rcases d3 o hh with h|h
      ·exact .inl (by simp[h])
      ·rcases aI.1 h with rfl|h
       ·exact .inl (by simp)
       ·rcases b3 o h with h|h
        ·exact .inl (by simp[h])
        ·exact .inr h
     ·rw[d5 m (by omega),aW _ _ _ _ (by omega)];exact b5 m (by omega)
     ·cases q with
      |zero=>right;rw[bM,d5 j (by omega),aL];rfl
      |
       succ q =>
       by_cases hlt:q<obs1.length
       ·right
        rw[d5 _ (by omega),aW _ _ _ _ (by omega),show j+(q+1)=j+1+q by omega,b6 q hlt]
        simp[aa,aY,hlt]
       ·have:=d6 (q-obs1.length) (by simp at hq;omega)
        rw[show j+1+bB ks+(q-obs1.length)=j+(q+1) by omega]at this
        have e2:(Ob.cells asq::(obs1++obs2)).getD (q+1) .dead=obs2.getD (q-obs1.length) .dead:=by simp[aa,aY,hlt]
        have e3:(Ob.cells asq::obs1++obs2)=Ob.cells asq::(obs1++obs2):=rfl
        rw[e3,e2];exact this
     ·rcases aI.1 hq with rfl|hq
      ·exact⟨⟨_,ho⟩,_,q1,d2 _ _ (aL _ _ _)⟩
      ·exact d8 q hq
     ·cases q with
      |zero=>cases he
      |
       succ q =>
       by_cases hlt:q<obs1.length
       ·exfalso
        obtain⟨z,es',e⟩:=(jW ks h1).2.1 (obs1.getD q .dead) (by simp[aa,hlt])
        have e2:(Ob.cells asq::obs1++obs2).getD (q+1) .dead=obs1.getD q .dead:=by simp[aa,aY,hlt]
        rw[e2,e]at he;cases he
       ·have e2:(Ob.cells asq::obs1++obs2).getD (q+1) .dead=obs2.getD (q-obs1.length) .dead:=by simp[aa,aY,hlt]
        rw[e2]at he
        have:=d9 (q-obs1.length) sz es (by simp at hq;omega) he
        rw[show j+1+bB ks+(q-obs1.length)=j+(q+1) by omega]at this
        exact ai _ this
    ·cases h
   ·cases h
  ·cases h
theorem qt{T:ep}(g:cZ n A s a w M β){s0:St}{own:List Nat}{oa:List CK}:∀(asq:List AV) {ts:List Nat} {i k:Nat} {xs:List AV} {obs:List Ob} {os fz:List Nat},sb T s0 own oa ts asq i k=some (xs,obs,os,fz)->Fz M β w s0.ob fz->(∀o x,o∈os->s0.ob o=some x->s.ob o=some x) ->
 ∀{U:List Nat} {f:Nat->Option Ob} {βc:Lo},fX s w M β U f βc->(∀m,k<=m->f m=none)->nodup os=true->(∀o,o∈os->o∉U) ->
 ∃βc' U' f',fX s w M β U' f' βc'/\Lo.le βc βc'/\(∀m,k+obs.length<=m->f' m=none)/\(∀m,m<k->f' m=f m)/\(∀q,q<obs.length->f' (k+q)=some (obs.getD q .dead))/\xs.length=asq.length /\
  ∀q v,q<asq.length->bo M β (asq.getD q .any) v->bo M βc' (xs.getD q .any) v
 |
  [],ts,i,k,xs,obs,os,fz,h,hz,h0,U,f,βc,hB,hnm,hnd,hU=>by
  simp only[sb,Option.some.injEq,Prod.mk.injEq]at h
  obtain⟨rfl,rfl,rfl,rfl⟩:=h
  exact⟨βc,U,f,hB,Lo.le.refl _,fun m hm=>hnm m (by simpa using hm),fun m _=>rfl,fun q hq=>(by simp at hq),rfl,fun q v hq=>(by simp at hq)⟩
 |
  c::asq,ts,i,k,xs,obs,os,fz,h,hz,h0,U,f,βc,hB,hnm,hnd,hU=>by
  have cont:∀(ra:AV) (xo:Ob) (o:Nat) (xs1:List AV) (obs1:List Ob) (os1:List Nat),sb T s0 own oa ts.tail asq (i+1) (k+1)=some (xs1,obs1,os1,fz)->xs=ra::xs1->obs=xo::obs1->os=o::os1->(∃β3,fX s w M β (o::U) (cr f k (some xo)) β3/\Lo.le βc β3/\∀v,bo M β c v->bo M β3 ra v) ->
   ∃βc' U' f',fX s w M β U' f' βc'/\Lo.le βc βc'/\(∀m,k+obs.length<=m->f' m=none)/\(∀m,m<k->f' m=f m)/\(∀q,q<obs.length->f' (k+q)=some (obs.getD q .dead))/\xs.length=(c::asq).length /\
    ∀q v,q<(c::asq).length->bo M β ((c::asq).getD q .any) v->bo M βc' (xs.getD q .any) v:=by
   intro ra xo o xs1 obs1 os1 h2 ea eo eos ⟨β3,c1,c2,c3⟩
   subst ea;subst eo;subst eos
   obtain⟨n1,n2⟩:=nodup_cons hnd
   obtain⟨β4,U',f',b1,b2,b4,b5,b6,b7,b8⟩:=qt g asq h2 hz (fun o x ho=>h0 o x (ai _ ho)) c1 (fun m hm=>by rw[aW _ _ _ _ (by omega)];exact hnm m (by omega)) n2 (fun q hq hh=>by
    rcases aI.1 hh with rfl|hh
    ·exact n1 hq
    ·exact hU q (ai _ hq) hh)
   refine⟨β4,U',f',b1,fun o l hl=>b2 o l (c2 o l hl),fun m hm=>b4 m (by simp at hm;omega),fun m hm=>?_,fun q hq=>?_,by simp[b7],fun q v hq hr=>?_⟩
   ·rw[b5 m (by omega),aW _ _ _ _ (by omega)]
   ·cases q with
    |zero=>rw[bM,b5 k (by omega),aL];rfl
    |
     succ q =>
     have:=b6 q (by simpa using hq)
     rw[show k+(q+1)=k+1+q by omega,this];rfl
   ·cases q with
    |zero=>simpa using(c3 v (by simpa using hr)).mono (Mem.le.refl _) b2
    |succ q=>simpa using b8 q v (by simpa using hq) (by simpa using hr)
  simp only[sb]at h
  cases ho:own.any (aF i)with
  |
   true =>
   rw[ho]at h
   simp only[cond_true]at h
   split at h
   ·rename_i o
    split at h
    ·rename_i sz es xs1 obs1 os1 fz1 h1 h2
     cases h
     obtain⟨β3,c1,c2,c3,c4⟩:=fX.vec g hB (m:=k) (hnm k (aq _)) (hU o ag) (h0 _ _ ag h1)
     exact cont (.vec k) (.vec sz es) o xs1 obs1 os1 h2 rfl rfl rfl ⟨β3,c1,c2,c3⟩
    ·cases h
   ·rename_i o
    split at h
    ·rename_i cs hcs
     split at h
     ·rename_i as' xs1 obs1 os1 fz1 h1 h2
      cases h
      obtain⟨q1,q2⟩:=pE (M:=M) (β:=β) (w:=w) (ob:=s0.ob) (fun c a' os v=>gA eh c a' os v) _ _ _ h1 (fun o ho=>by cases ho)
      obtain⟨β3,c1,c2,c3⟩:=fX.obj g hB (m:=k) (asq:=as') (hnm k (aq _)) (hU o ag) (h0 _ _ ag hcs) q1 q2
      exact cont (.ref k 0) (.cells as') o xs1 obs1 os1 h2 rfl rfl rfl ⟨β3,c1,c2,c3⟩
     ·cases h
    ·cases h
   ·split at h
    ·rename_i xs1 obs1 os1 fz1 h2
     cases h
     obtain⟨β3,c1,c2,c3⟩:=fX.uu g hB (m:=k) (o:=4*ez+k) (sz:=qa T (ts.headD 0)) (hnm k (aq _)) (hU _ ag)
     exact cont (.vec k) (.vec (qa T (ts.headD 0)) []) _ xs1 obs1 os1 h2 rfl rfl rfl ⟨β3,c1,c2,fun v hv=>by rw[dA hv];exact c3⟩
    ·cases h
   ·rename_i cs
    split at h
    ·rename_i as' ob' os' xs1 obs1 os1 fz1 h1 h2
     cases h
     have hlen:=iI oa h1
     obtain⟨n1,n2,n3⟩:=er hnd
     obtain⟨β3,U3,f3,c1,c2,c3,c4,c5,c6,c7,c8,_⟩:=jM g oa h1 (fun o x ho=>h0 o x (aA _ ho)) hB hnm n1 (fun q hq=>hU q (aA _ hq))
     obtain⟨β4,U',f',b1,b2,b4,b5,b6,b7,b8⟩:=qt g asq h2 hz (fun o x ho=>h0 o x (az _ ho)) c1 (fun m hm=>c4 m (by omega)) n2 (fun q hq hh=>by
      rcases c3 q hh with h|h
      ·exact n3 q h hq
      ·exact hU q (az _ hq) h)
     refine⟨β4,U',f',b1,fun o l hl=>b2 o l (c2 o l hl),fun m hm=>b4 m (by simp at hm;omega),fun m hm=>?_,fun q hq=>?_,by simp[b7],fun q v hq hr=>?_⟩
     ·rw[b5 m (by omega)];exact c5 m hm
     ·by_cases hlt:q<ob'.length
      ·rw[b5 _ (by omega),c6 q hlt]
       simp[aa,aY,hlt]
      ·have:=b6 (q-ob'.length) (by simp at hq;omega)
       rw[show k+bB oa+(q-ob'.length)=k+q by omega]at this
       rw[this]
       simp[aa,aY,hlt]
     ·cases q with
      |
       zero =>
       have hr:bo M β (.agg cs) v:=by simpa using hr
       obtain⟨us,rfl,hl,hr,hone⟩:=fJ hr
       have:bo M β4 (.agg as') (.agg us.toArray):=.agg _ _ _ (by omega) (fun i hi=>hone i (by omega)) fun i hi=>(c8 i _ (by omega) (hr i (by omega))).mono (Mem.le.refl _) b2
       simpa using this
      |succ q=>simpa using b8 q v (by simpa using hq) (by simpa using hr)
    ·cases h
   ·cases h
  |
   false =>
   rw[ho]at h
   simp only[cond_false]at h
   split at h
   ·rename_i x fz1 xs1 obs1 os1 fz2 h1 h2
    cases h
    obtain⟨β4,U',f',b1,b2,b4,b5,b6,b7,b8⟩:=qt g asq h2 hz.right h0 hB hnm hnd hU
    refine⟨β4,U',f',b1,b2,b4,b5,b6,by simp[b7],fun q v hq hr=>?_⟩
    cases q with
    |zero=>simpa using(gA _ _ _ _ _ h1 hz.left (by simpa using hr)).up
    |succ q=>simpa using b8 q v (by simpa using hq) (by simpa using hr)
   ·cases h
theorem CF{T:ep}(hT:cT P T){cfg:Nat->FC}{lis:List (Nat×LI)}{fc:FC}{f:Nat}{F:Func}{asq:List AV}{ins:List Ob}{R:AV->List Ob->Prop}(hf:P.funcs[f]?=some F)(hnm:(F.name=="runtime.NumGoroutine")=false)
 (hreg:∀A,lV P A->w9 P F.ntmps A T cfg fun _ xs obs=>R (xs.headD .any) obs)
 (h:eH P F.ntmps (main T cfg lis fc F asq ins) fun _ xs obs=>R (xs.headD .any) obs):aB P f asq ins R:=by
 unfold main at h
 cases hb:F.body with
 |none=>rw[hb]at h;exact h.elim
 |
  some c =>
  rw[hb]at h
  simp only at h
  cases hle:(fv asq.length F.ntmps&&dK (dz fc.mu) ins)with
  |false=>rw[hle]at h;exact h.elim
  |
   true =>
   rw[hle]at h
   simp only[cond_true]at h
   simp only[au]at hle
   obtain⟨hle,hal⟩:=hle
   have hle:=aN hle
   have hlen:=iJ _ _ hal
   refine⟨⟨F,hf,by simp[hb],hnm⟩,fun w M β vs hB hin=>?_⟩
   have hsz:vs.toArray.size=asq.length:=by simp[hin.len]
   let fx:=ph (dz fc.mu) 0
   let A:jP:=⟨w,M,fun b=>∃i,i<ins.length/\dN β i=some b,fun o=>bif fT fx o then β o else none⟩
   have hA:∀o b,A.fix o=some b->o∈fx/\β o=some b:=fun o b hb=>by
    simp only[A]at hb
    cases hm:fT fx o with
    |false=>rw[hm]at hb;cases hb
    |
     true =>
     rw[hm]at hb
     simp only[cond_true]at hb
     exact⟨ma.1 hm,hb⟩
   have hob:∀o x,(enter asq ins).ob o=some x->o<ins.length/\x=ins.getD o .dead:=fun o x hx=>by
    have:rB ins 0 (fun _=>none) o=some x:=hx
    rw[qQ]at this
    split at this
    ·rename_i hh;cases this;exact⟨by omega,by rw[Nat.sub_zero]⟩
    ·cases this
   have g0:cZ F.ntmps A (enter asq ins) {tmps:=vs.toArray++Array.replicate (F.ntmps-vs.toArray.size) undef,defers:=[]} w M β:=by
    refine {size:=by simp[hin.len];omega,defs:=rfl,tm:=fun t=>?_,le:=Mem.le.refl _,new:=fun b k v h=>.inl h,agree:=hin.agree,own:=fun o x h=>?_,place:=fun o x b h _ hb=>?_,apart:=fun o o' x x' b hne h hl h' hl' hb=>?_,us:=fun o hu=>?_,fix:=fun o b hb=>?_,cB:=⟨rfl,rfl,rfl,aq _,fun _ _ _=>rfl⟩}
    ·show bo M β (setArgs asq 0 (fun _=>.any) t) _
     rw[mE]
     by_cases ht:t<asq.length
     ·rw[if_pos (by omega),Nat.sub_zero]
      have e:(vs.toArray++Array.replicate (F.ntmps-vs.toArray.size) undef).getD t undef=vs.getD t undef:=by
       have:t<vs.length:=by rw[hin.len];exact ht
       simp[Array.getElem?_append,this,aa]
      rw[e];exact hin.rep t ht
     ·rw[if_neg (by omega)];exact .any _ _
    ·obtain⟨h1,rfl⟩:=hob o x h;exact hin.own o h1
    ·obtain⟨h1,rfl⟩:=hob o x h;exact .inr ⟨o,h1,hb⟩
    ·obtain⟨h1,rfl⟩:=hob o x h;obtain⟨h2,rfl⟩:=hob o' x' h';exact hin.apart o o' b hne h1 h2 hl hl' hb
    ·have hge:ins.length<=o:=by
      have:cv o ins.length=false:=hu
      rcases Nat.lt_or_ge o ins.length with h|h
      ·have:cv o ins.length=true:=Nat.ble_eq_true_of_le h
       simp_all
      ·exact h
     refine⟨hin.none o hge,?_⟩
     cases e:(enter asq ins).ob o with
     |none=>rfl
     |some x=>obtain⟨h1,_⟩:=hob o x e;omega
    ·obtain⟨h1,h2⟩:=hA o b hb
     have:=(nO _ _ _ h1).2
     exact⟨Nat.ble_eq_true_of_le (by omega),fun _ _=>h2⟩
   have hBA:lV P A:=lV.of hB fun b k v hc ⟨i,hi,hbi⟩=>by
    have:=(hin.own i hi).Aj (gK _ _ hal i hi) hbi k
    rw[this]at hc;cases hc
   refine calls_of_wp hf hb (BG (A:=A) hBA (hreg A hBA) lis (fun o b hb=>(hA o b hb).1) c _ _ _ ?_ _ w ⟨M,β,g0⟩ h)
   intro ex s a w' ⟨M',β',g⟩ h'
   have fin:eH P F.ntmps (finish T fc F.results.toList F.resultTypes.toList s) (fun _ xs obs=>R (xs.headD .any) obs) ->
    a.defers=[]/\∃v,(results F a.tmps).run P w'=.ok v w'/\∃v' r obs M'' β'',Ending.returned v=.returned v'/\R r obs/\Out w M β ins.length r obs v' w' M'' β'':=by
    intro h'
    unfold finish at h'
    split at h'
    ·rename_i ps as' hres
     split at h'
     ·rename_i obs' os' hkeep
      split at h'
      ·rename_i xs obs os fz hout
       cases hgd:(nodup (os'++os)&&!((os'++os).any (fT fz)))with
       |false=>rw[hgd]at h';exact h'.elim
       |true =>
       rw[hgd]at h'
       simp only[cond_true]at h'
       simp only[au,bR]at hgd
       obtain⟨hnd,hdj⟩:=hgd
       obtain⟨n1,n2,n3⟩:=er hnd
       have hdj':∀o,o∈os'++os->o∉fz:=fun o ho hf=>by
        rw[List.any_eq_false]at hdj
        exact hdj o ho (ma.2 hf)
       obtain⟨hp,hR⟩:=gD.1 h'
       obtain⟨rs,h1,h2,h3⟩:=oq hT g F.results.toList hres hp
       obtain⟨M1,hM,g1⟩:=g.freeze fz
       have h0:∀o x,o∈os'++os->s.ob o=some x->({s with ob:=cx s.ob (fw s.ob fz)}:St).ob o=some x:=fun o x ho hx=>by
        show cx s.ob (fw s.ob fz) o=some x
        rw[nj _ _ _ (by rw[ud];exact hdj' o ho)];exact hx
       obtain⟨β2,U2,f2,b1,b2,b3,b4,b5,b6,b7,b8,b9⟩:=lY g1 (dz fc.mu) hkeep (fun o x ho=>h0 o x (aA _ ho)) fX.nil (fun _ _=>rfl) n1 (fun _ _ hh=>by cases hh)
       simp only[aR]at b4 b6
       obtain⟨β3,U3,f3,d1,d2,d4,d5,d6,d7,d8⟩:=qt (T:=T) g1 as' hout g1.fz (fun o x ho=>h0 o x (az _ ho)) b1 b4 n2 (fun o ho hh=>by
        rcases b3 o hh with h|h
        ·exact n3 o h ho
        ·cases h)
       have hall:∀q,q<(obs'++obs).length->(obs'++obs).getD q .dead=.dead\/f3 q=some ((obs'++obs).getD q .dead):=fun q hq=>by
        by_cases hlt:q<obs'.length
        ·have e1:(obs'++obs).getD q .dead=obs'.getD q .dead:=by simp[aa,aY,hlt]
         rw[e1,d5 q hlt];exact b6 q hlt
        ·have e1:(obs'++obs).getD q .dead=obs.getD (q-obs'.length) .dead:=by simp[aa,aY,hlt]
         have:=d6 (q-obs'.length) (by simp at hq;omega)
         rw[show obs'.length+(q-obs'.length)=q by omega]at this
         rw[e1];exact .inr this
       have hlive:∀q,q<(obs'++obs).length->((obs'++obs).getD q .dead).live=true->f3 q=some ((obs'++obs).getD q .dead):=fun q hq hl=>by
        rcases hall q hq with h|h
        ·rw[h]at hl;cases hl
        ·exact h
       have hrep:∀i,i<xs.length->bo M1 β3 (xs.getD i .any) (rs.getD i undef):=fun i hi=>d8 i _ (by omega) ((h3 i (by omega)).mono hM (Lo.le.refl _))
       have hrun:(results F a.tmps).run P w'=.ok (if h:rs.toArray.size=1 then rs.toArray[0]else .tuple rs.toArray) w':=by
        rw[rF,Sem.run_bind,Array.mapM_eq_mapM_toList]
        simp only[Sem.run_map,h1]
        rfl
       have hkp:∀j l,j∈fx->β j=some l->β3 j=some l:=fun j l hmem hb=>by
        have hfix:A.fix j=some l:=by
         show (bif fT fx j then β j else none)=some l
         rw[ma.2 hmem,hb];rfl
        obtain⟨⟨x,hx⟩,b',q1,q2⟩:=b8 j hmem
        have:=(g1.fix j l hfix).2 x hx
        rw[q1]at this;cases this
        exact d2 _ _ q2
       refine⟨g.defs,_,hrun,_,_,obs'++obs,M1,β3,rfl,hR,?_⟩
       have hxl:xs.length=rs.length:=by omega
       refine⟨g1.le,g1.agree,?_,fun j hj=>?_,fun j b hj hb=>?_,fun j l sz es hj hb he=>?_,fun i j b hne hi hj hli hlj hb=>?_,fun j b hj hl hb=>?_,fun b k v hc=>g1.new b k v hc,⟨g1.cB.os,g1.cB.tape,g1.cB.output,g1.cB.size,g1.cB.block⟩⟩
       ·match xs,rs,hxl,hrep with
        |[],[],_,_=>exact .any _ _
        |[x],[r],_,hrep=>simpa using hrep 0 (by simp)
        |x::y::xs,r::q::rs,hl,hrep=>exact .cP _ _ _ (by simpa using hl) hrep
       ·rcases hall j hj with h|h
        ·rw[h];trivial
        ·exact d1.own j _ h
       ·have hcells:∃cs,ins.getD j .dead=.cells cs:=by
         have h1:=hin.own j hj
         have hl:=gK _ _ hal j hj
         cases e:ins.getD j .dead with
         |cells cs=>exact⟨cs,rfl⟩
         |vec z es=>rw[e]at h1;obtain⟨u,h2,_⟩:=h1;rw[hb]at h2;cases h2
         |mC z es=>rw[e]at h1;obtain⟨u,h2,_⟩:=h1;rw[hb]at h2;cases h2
         |_=>rw[e]at hl;cases hl
        obtain⟨cs,ecs⟩:=hcells
        have hmem:=jA _ _ 0 hal j cs hj ecs
        rw[aR]at hmem
        exact hkp j _ hmem hb
       ·have hlt:j<obs'.length:=by omega
        have e1:(obs'++obs).getD j .dead=obs'.getD j .dead:=by simp[aa,aY,hlt]
        rw[e1]at he
        have hmem:=b9 j sz es hlt he
        rw[aR]at hmem
        exact hkp j _ hmem hb
       ·exact d1.apart i j _ _ b hne (hlive i hi hli) hli (hlive j hj hlj) hlj hb
       ·obtain⟨o,x0,_,r2,r3,r4⟩:=d1.src j _ b (hlive j hj hl) hl hb
        exact g1.place o x0 b r2 r3 r4
      ·exact h'.elim
     ·exact h'.elim
    ·exact h'.elim
   cases ex with
   |normal=>exact fin h'
   |ret=>exact fin h'
   |exit i=>exact h'.elim
end
end Go.VL
namespace Go.VL
open Go Go.RowKit
section
variable {T:ep} {e e':Operand->AV} {ob ob':Nat->Option Ob}
theorem xP{fs:List (Nat×Nat)}{m:Nat}:∀{ps:List (Nat×Operand)},(∀p,p∈ps->e p.2=e' p.2)->qH T fs m e ps=qH T fs m e' ps
 |[],_=>rfl
 |
  p::ps,h=>by
  simp only[qH]
  rw[h p ag,xP fun q hq=>h q (ai _ hq)]
theorem yu{z m:Nat}:∀{ps:List (Nat×Operand)},(∀p,p∈ps->e p.2=e' p.2)->qR z m e ps=qR z m e' ps
 |[],_=>rfl
 |
  p::ps,h=>by
  simp only[qR]
  rw[h p ag,yu fun q hq=>h q (ai _ hq)]
theorem tA{f:Nat->Nat}:∀{ps:List (Nat×Operand)} {cs:List AV},(∀p,p∈ps->e p.2=e' p.2)->ps.foldl (fun cs p=>ic cs (f p.1) (flat (e p.2))) cs=ps.foldl (fun cs p=>ic cs (f p.1) (flat (e' p.2))) cs
 |[],_,_=>rfl
 |
  p::ps,cs,h=>by
  simp only[List.foldl_cons]
  rw[h p ag,tA fun q hq=>h q (ai _ hq)]
theorem D6:∀{ps:List (Nat×Operand)},(∀p,p∈ps->e p.2=e' p.2)->ps.map (fun p=>e p.2)=ps.map fun p=>e' p.2
 |[],_=>rfl
 |p::ps,h=>by simp only[a6];rw[h p ag,D6 fun q hq=>h q (ai _ hq)]
theorem Ei:∀{ps:List (Nat×Operand)},(∀p,p∈ps->e p.2=e' p.2)->(ps.all fun p=>mV (e p.2))=ps.all fun p=>mV (e' p.2)
 |[],_=>rfl
 |p::ps,h=>by simp only[cO];rw[h p ag,Ei fun q hq=>h q (ai _ hq)]
theorem wN:∀{xs:List Operand},(∀x,x∈xs->e x=e' x)->xs.map e=xs.map e'
 |[],_=>rfl
 |x::xs,h=>by simp only[a6];rw[h x ag,wN fun q hq=>h q (ai _ hq)]
theorem DF{lo:Option Operand}(h:∀x,lo=some x->e x=e' x):ij e lo=ij e' lo:=by
 cases lo with
 |none=>rfl
 |some x=>simp only[ij];rw[h x rfl]
theorem Ag{n:Nat}{lo:Option Operand}(h:∀x,lo=some x->e x=e' x):gm e n lo=gm e' n lo:=by
 cases lo with
 |none=>rfl
 |some x=>simp only[gm];rw[h x rfl]
theorem H2(o:Oper)(h:∀x,x∈o.op.operands->e x=e' x):dI T e ob o=dI T e' ob o:=by
 cases ho:o.op with
 |move x=>have h1:=h x (by simp[ho,Op.operands]);unfold dI;rw[ho];simp only[h1]
 |assign x=>have h1:=h x (by simp[ho,Op.operands]);unfold dI;rw[ho];simp only[h1]
 |
  pick c x y =>
  have h1:=h c (by simp[ho,Op.operands]);have h2:=h x (by simp[ho,Op.operands]);have h3:=h y (by simp[ho,Op.operands])
  unfold dI;rw[ho];simp only[h1,h2,h3]
 |binOp op t x y t'=>have h1:=h x (by simp[ho,Op.operands]);have h2:=h y (by simp[ho,Op.operands]);unfold dI;rw[ho];simp only[h1,h2]
 |unOp op t x=>have h1:=h x (by simp[ho,Op.operands]);cases op<;>(unfold dI;rw[ho];try simp only[h1])
 |nilCheck x=>have h1:=h x (by simp[ho,Op.operands]);unfold dI;rw[ho];simp only[h1]
 |fieldAddr t x f=>have h1:=h x (by simp[ho,Op.operands]);unfold dI;rw[ho];simp only[h1]
 |field t x f=>have h1:=h x (by simp[ho,Op.operands]);unfold dI;rw[ho];simp only[h1]
 |load t x=>have h1:=h x (by simp[ho,Op.operands]);unfold dI;rw[ho];simp only[h1]
 |indexAddr t x i=>have h1:=h x (by simp[ho,Op.operands]);have h2:=h i (by simp[ho,Op.operands]);unfold dI;rw[ho];simp only[h1,h2]
 |index t x i=>have h1:=h x (by simp[ho,Op.operands]);have h2:=h i (by simp[ho,Op.operands]);unfold dI;rw[ho];simp only[h1,h2]
 |extract x i=>have h1:=h x (by simp[ho,Op.operands]);unfold dI;rw[ho];simp only[h1]
 |
  slice t x lo hi mx =>
  have h1:=h x (by simp[ho,Op.operands])
  have h2:ij e lo=ij e' lo:=DF fun y hy=>h y (by simp[ho,Op.operands,hy])
  have h3:∀n,gm e n hi=gm e' n hi:=fun n=>Ag fun y hy=>h y (by simp[ho,Op.operands,hy])
  cases mx<;>(unfold dI;rw[ho];try simp only[h1,h2,h3])
 |convert st dt x=>have h1:=h x (by simp[ho,Op.operands]);unfold dI;rw[ho];simp only[h1]
 |
  build t ps =>
  have hp:∀p,p∈ps.toList->e p.2=e' p.2:=fun p hp=>h p.2 (by rw[ho];simp only[Op.operands,List.mem_toArray];exact bD.2 ⟨p,hp,rfl⟩)
  unfold dI;rw[ho]
  simp only[xP hp,yu hp]
  congr 1
  split
  ·rename_i fs _;simp only[tA (f:=fun i=>(fs.getD i (0,0)).1) hp]
  ·rename_i m el _;simp only[tA (f:=fun i=>i*(T el).sz) hp]
  ·rfl
 |alloc t=>unfold dI;rw[ho]
 |box t x=>have h1:=h x (by simp[ho,Op.operands]);unfold dI;rw[ho];simp only[h1]
 |store t x y=>have h1:=h x (by simp[ho,Op.operands]);have h2:=h y (by simp[ho,Op.operands]);unfold dI;rw[ho];simp only[h1,h2]
 |
  buildSlice t m ps =>
  have hp:∀p,p∈ps.toList->e p.2=e' p.2:=fun p hp=>h p.2 (by rw[ho];simp only[Op.operands,List.mem_toArray];exact bD.2 ⟨p,hp,rfl⟩)
  unfold dI;rw[ho]
  simp only[D6 hp,Ei hp]
 |makeSlice t l c=>have h1:=h l (by simp[ho,Op.operands]);unfold dI;rw[ho];simp only[h1]
 |
  call c =>
  obtain⟨callee,xs,ts⟩:=c
  have hx:∀x,x∈xs->e x=e' x:=fun x hx=>h x (by rw[ho];simp only[Op.operands,Call.operands];exact Array.mem_append.2 (.inr hx))
  have hl:∀x,x∈xs.toList->e x=e' x:=fun x h=>hx x (by simpa using h)
  cases callee with
  |
   builtin b =>
   cases b with
   |
    len =>
    unfold dI;rw[ho];simp only
    split
    ·rename_i x t hxs hts
     simp only[hl x (by rw[hxs];simp)]
    ·rfl
   |
    append =>
    unfold dI;rw[ho];simp only
    split
    ·rename_i x y t t' d hxs hts hd
     simp only[hl x (by rw[hxs];simp),hl y (by rw[hxs];simp)]
    ·rfl
   |
    max =>
    unfold dI;rw[ho];simp only
    split
    ·rename_i x y hxs
     simp only[hl x (by rw[hxs];simp),hl y (by rw[hxs];simp)]
    ·rfl
   |
    min =>
    unfold dI;rw[ho];simp only
    split
    ·rename_i x y hxs
     simp only[hl x (by rw[hxs];simp),hl y (by rw[hxs];simp)]
    ·rfl
   |_=>unfold dI;rw[ho]
  |_=>unfold dI;rw[ho]
 |
  makeFunc f fs cs =>
  have hl:∀x,x∈cs.toList->e x=e' x:=fun x hx=>h x (by rw[ho];simp only[Op.operands];exact Array.mem_append.2 (.inr (by simpa using hx)))
  cases f with
  |func f=>unfold dI;rw[ho];simp only[wN hl]
  |_=>unfold dI;rw[ho]
 |_=>unfold dI;rw[ho]
end
end Go.VL
namespace Go.VL
open Go Go.RowKit
section
variable {T:ep} {e:Operand->AV} {ob ob':Nat->Option Ob}
theorem zV{f f':AV->Option (AV×List Nat)}(hf:∀c a os,f c=some (a,os)->(∀m,m∈os->ob' m=ob m)->f' c=some (a,os)):∀{cs:List AV} {asq:List (List AV)} {os:List Nat},tJ f cs=some (asq,os)->(∀m,m∈os->ob' m=ob m)->tJ f' cs=some (asq,os)
 |[],asq,os,h,_=>h
 |
  c::cs,asq,os,h,hm=>by
  unfold tJ at h
  split at h
  ·rename_i a1 o1 a2 o2 h1 h2
   cases h
   have q1:=uE hf h1 fun m h=>hm m (aA _ h)
   have q2:=zV hf h2 fun m h=>hm m (az _ h)
   simp[tJ,q1,q2]
  ·cases h
theorem wZ:∀{os:List Nat},(∀m,m∈os->ob' m=ob m)->fw ob' os=fw ob os
 |[],_=>rfl
 |
  o::os,hm=>by
  show (o,cz (ob' o))::fw ob' os=(o,cz (ob o))::fw ob os
  rw[hm o ag,wZ fun m h=>hm m (ai _ h)]
theorem kD{x:AV}{p:Option Prop}{es:List (List AV)}{os:List Nat}(h:eX ob x=some (p,es,os))(hm:∀m,m∈os->ob' m=ob m):eX ob' x=some (p,es,os):=by
 unfold eX at h |-
 split at h
 ·exact h
 ·exact h
 ·exact h
 ·rename_i o
  split at h
  ·rename_i sz es' ho;cases h;rw[hm o ag,ho]
  ·rename_i es' ho;cases h;rw[hm o ag,ho]
  ·cases h
 ·cases h
def th:DR->List Nat
 | .no=>[]
 | .yes d=>d.rd++mH d
 | .ok _ d=>d.rd++mH d
def Same(ob ob':Nat->Option Ob)(r r':DR):Prop:=r=.no\/((∀m,m∈th r->ob' m=ob m)->r'=r)
theorem Same.refl(r:DR):Same ob ob' r r:=.inr fun _=>rfl
theorem dZ{q:Bool}{r r':DR}(h:Same ob ob' r r'):Same ob ob' (dm q r) (dm q r'):=by
 cases q
 ·exact .inl rfl
 ·exact h
theorem jO{q:Option Prop}{r:DR}:th (r.when q)=th r:=by
 cases q<;>cases r<;>rfl
theorem iC{r:DR}{o:Nat}{r':DR}(h:ob' o=ob o->r'=r.reads o):Same ob ob' (r.reads o) r':=by
 cases r with
 |no=>exact .inl rfl
 |yes d=>exact .inr fun hm=>h (hm o (by simp[DR.reads,th]))
 |ok p d=>exact .inr fun hm=>h (hm o (by simp[DR.reads,th]))
theorem Bs(t:TI)(x:AV):Same ob ob' (loadAt ob t x) (loadAt ob' t x):=by
 unfold loadAt
 cases x<;>first|exact .refl _|skip
 ·rename_i o k
  simp only
  cases ho:ob o with
  |none=>exact .inl rfl
  |
   some y =>
   cases y<;>first|exact .inl rfl|skip
   ·exact iC fun h=>by rw[h,ho]
   ·exact iC fun h=>by rw[h,ho]
 ·rename_i o k
  simp only
  cases ho:ob o with
  |none=>exact .inl rfl
  |
   some y =>
   cases y<;>first|exact .inl rfl|skip
   ·exact iC fun h=>by rw[h,ho]
   ·exact iC fun h=>by rw[h,ho]
 ·rename_i o i k
  simp only
  cases ho:ob o with
  |none=>exact .inl rfl
  |
   some y =>
   cases y<;>first|exact .inl rfl|skip
   ·exact iC fun h=>by rw[h,ho]
   ·exact iC fun h=>by rw[h,ho]
theorem yG(t:TI)(x:AV)(i:Int):Same ob ob' (indexAt T ob t x i) (indexAt T ob' t x i):=by
 unfold indexAt
 cases hk:t.k<;>cases x<;>first|exact .refl _|skip
 rename_i el o
 refine dZ ?_
 cases ho:ob o with
 |none=>exact .inl rfl
 |
  some y =>
  cases y<;>first|exact .inl rfl|skip
  ·rename_i sz es
   cases hz:aF sz (T el).sz with
   |false=>left;show dm (aF sz (T el).sz) _=_;rw[hz];rfl
   |
    true =>
    refine .inr fun hm=>?_
    have:=hm o (by show o∈th (dm (aF sz (T el).sz) _);rw[hz];simp[dm,th])
    rw[this,ho]
  ·refine .inr fun hm=>?_
   have:=hm o (by simp[th])
   rw[this,ho]
theorem Km(o:Oper):Same ob ob' (dI T e ob o) (dI T e ob' o):=by
 cases ho:o.op with
 |load t x=>unfold dI;rw[ho];exact Bs _ _
 |
  indexAddr t x i =>
  unfold dI;rw[ho]
  refine dZ ?_
  try simp only
  split
  ·exact yG _ _ _
  ·exact .inl rfl
 |
  slice t x lo hi mx =>
  cases mx with
  |some m=>unfold dI;rw[ho];exact .inl rfl
  |
   none =>
   unfold dI;rw[ho]
   refine dZ ?_
   try simp only
   split
   ·exact .refl _
   ·rename_i el o' hk hx
    refine dZ ?_
    cases hob:ob o' with
    |none=>exact .inl rfl
    |
     some y =>
     cases y<;>first|exact .inl rfl|skip
     ·rename_i sz es
      try simp only
      cases hz:aF sz (T el).sz with
      |false=>exact .inl rfl
      |
       true =>
       simp only[dm,cond_true]
       split
       ·rename_i l h hl hh
        refine .inr fun hm=>?_
        rw[hm o' (by simp[th,mH]),hob]
        simp only[hz,cond_true,hl,hh]
       ·exact .inl rfl
     ·rename_i es
      try simp only
      split
      ·rename_i l h hl hh
       refine .inr fun hm=>?_
       rw[hm o' (by rw[jO];simp[th]),hob]
       simp only[hl,hh]
      ·exact .inl rfl
   ·rename_i el hk hnv
    refine dZ ?_
    cases he:eX ob (e x)with
    |none=>exact .inl rfl
    |
     some q =>
     obtain⟨p,es,os⟩:=q
     try simp only
     split
     ·rename_i l h hl hh
      refine .inr fun hm=>?_
      rw[jO,jO]at hm
      rw[kD he fun m hmm=>hm m (by simp[th,hmm])]
      simp only[hl,hh]
     ·exact .inl rfl
   ·exact .inl rfl
 |
  convert st dt x =>
  unfold dI;rw[ho]
  refine dZ ?_
  try simp only
  split
  ·refine dZ ?_
   cases he:eX ob (e x)with
   |none=>exact .inl rfl
   |
    some q =>
    obtain⟨p,es,os⟩:=q
    try simp only
    refine .inr fun hm=>?_
    rw[jO]at hm
    rw[kD he fun m hmm=>hm m (by simp[th,hmm])]
  ·exact .refl _
  ·exact .inl rfl
 |
  store t x y =>
  unfold dI;rw[ho]
  refine dZ (dZ ?_)
  try simp only
  split
  ·rename_i m k hx
   cases hob:ob m with
   |none=>exact .inl rfl
   |
    some z =>
    cases z<;>first|exact .inl rfl|skip
    rename_i cs
    try simp only
    cases hk:fv (k+(flat (e y)).length) cs.length with
    |false=>exact .inl rfl
    |
     true =>
     refine .inr fun hm=>?_
     rw[hm m (by simp[dm,th,mH]),hob]
     simp only[hk]
  ·rename_i m k hx
   cases hob:ob m with
   |none=>exact .inl rfl
   |
    some z =>
    cases z<;>first|exact .inl rfl|skip
    refine .inr fun hm=>?_
    rw[hm m (by simp[th,mH]),hob]
  ·rename_i m i k hx
   cases hob:ob m with
   |none=>exact .inl rfl
   |
    some z =>
    cases z<;>first|exact .inl rfl|skip
    try simp only
    split
    ·rename_i xs hf
     refine .inr fun hm=>?_
     rw[hm m (by simp[th,mH]),hob]
     try simp only
     rw[uE (ob:=ob) (ob':=ob') (os:=[]) (fun c a os=>mc (ob:=ob) (ob':=ob') eh c a os) hf (fun m hmm=>by simp at hmm)]
    ·exact .inl rfl
  ·exact .inl rfl
 |
  buildSlice t m ps =>
  unfold dI;rw[ho]
  refine dZ ?_
  try simp only
  split
  ·refine dZ ?_
   split
   ·rename_i asq os hf
    rename_i el d _ _ _
    generalize hC:(ps.toList.map (·.1)==bc m&&fv (m*(T el).sz) 16777216&&asq.all (fun a=>aF a.length (T el).sz)&&ps.toList.all fun p=>mV (e p.2))=C
    cases C with
    |false=>exact .inl rfl
    |
     true =>
     refine .inr fun hm=>?_
     have hos:∀q,q∈os->ob' q=ob q:=fun q hq=>hm q (by simp[dm,th,mH,fw,hq])
     rw[zV (ob:=ob) (ob':=ob') (fun c a os=>mc (ob:=ob) (ob':=ob') eh c a os) hf hos]
     simp only[wZ hos,hC]
   ·exact .inl rfl
  ·exact .inl rfl
 |
  call c =>
  obtain⟨callee,xs,ts⟩:=c
  cases callee with
  |
   builtin b =>
   cases b with
   |
    len =>
    unfold dI;rw[ho];simp only
    split
    ·rename_i x t hxs hts
     refine dZ ?_
     split
     ·exact .refl _
     ·exact .refl _
     ·cases he:eX ob (e x)with
      |none=>exact .inl rfl
      |
       some q =>
       obtain⟨p,es,os⟩:=q
       try simp only
       refine .inr fun hm=>?_
       rw[jO]at hm
       rw[kD he fun m hmm=>hm m (by simp[th,hmm])]
     ·exact .inl rfl
    ·exact .inl rfl
   |
    append =>
    unfold dI;rw[ho];simp only
    split
    ·rename_i x y t t' d hxs hts hd
     refine dZ ?_
     cases he:eX ob (e y)with
     |none=>left;split<;>first|rfl|(rename_i h;cases h)
     |
      some q =>
      obtain⟨p,fs,os⟩:=q
      cases hk:(T t).k<;>first|exact .inl rfl|skip
      rename_i el
      cases hb:((T el).kn&&cv 0 (T el).bytes)with
      |false=>left;show dm ((T el).kn&&cv 0 (T el).bytes) _=_;rw[hb];rfl
      |
       true =>
       show Same ob ob' (dm ((T el).kn&&cv 0 (T el).bytes) _) _
       rw[hb]
       simp only[dm,cond_true]
       split
       ·rename_i m hx
        cases hob:ob m with
        |none=>exact .inl rfl
        |
         some z =>
         cases z<;>first|exact .inl rfl|skip
         rename_i sz es
         cases hz:aF sz (T el).sz with
         |false=>left;show cond (aF sz (T el).sz) _ _=_;rw[hz];rfl
         |
          true =>
          show Same ob ob' (cond (aF sz (T el).sz) _ _) _
          rw[hz]
          simp only[cond_true]
          refine .inr fun hm=>?_
          rw[jO]at hm
          rw[kD he fun q hq=>hm q (by simp[th,hq])]
          simp only[hb,cond_true,hm m (by simp[th,mH]),hob,hz]
       ·rename_i hx
        refine .inr fun hm=>?_
        rw[jO]at hm
        rw[kD he fun q hq=>hm q (by simp[th,hq])]
        simp only[hb,cond_true]
       ·exact .inl rfl
    ·exact .inl rfl
   |_=>unfold dI;rw[ho];exact .refl _
  |_=>unfold dI;rw[ho];exact .refl _
 |unOp op t x=>cases op<;>(unfold dI;rw[ho];exact .refl _)
 |makeFunc f fs cs=>cases f<;>(unfold dI;rw[ho];exact .refl _)
 |_=>unfold dI;rw[ho];exact .refl _
end
end Go.VL
namespace Go.VL
open Go Go.RowKit
section
variable {T:ep} {cfg:Nat->FC} {e e':Operand->AV} {ob ob':Nat->Option Ob}
def Dc:zG->List Nat
 | .d _ d=>d.rd
 |_=>[]
def yZ:zG->List Nat
 | .d _ d=>mH d
 | .c _ _ _ wr _=>wr
 | .no=>[]
theorem xI{ks:List CK}{cs asq:List AV}{obs:List Ob}{os:List Nat}{j:Nat}(h:n6 ob ks cs j=some (asq,obs,os))(hm:∀m,m∈os->ob' m=ob m):n6 ob' ks cs j=some (asq,obs,os):=by
 unfold n6 at h |-
 split at h
 ·rename_i as' sz es o h1
  split at h
  ·rename_i h2
   cases hb:aF sz (ld ks)with
   |false=>rw[hb]at h;cases h
   |
    true =>
    rw[hb]at h;cases h
    rw[kU _ h1 hm]
    simp only[hm o ag,h2,hb,cond_true]
  ·cases h
 ·cases h
theorem yx{m:MK}{c c':AV}{obs:List Ob}{os:List Nat}{j:Nat}(h:n8 ob m c j=some (c',obs,os))(hm:∀m,m∈os->ob' m=ob m):n8 ob' m c j=some (c',obs,os):=by
 unfold n8 at h |-
 split at h
 ·split at h
  ·rename_i ho;cases h;rw[hm _ ag,ho]
  ·cases h
 ·rename_i ks o
  split at h
  ·rename_i sz es ho
   cases hb:aF sz (ld ks)with
   |false=>rw[hb]at h;cases h
   |
    true =>
    rw[hb]at h;cases h
    rw[hm _ ag,ho]
    simp only[hb,cond_true]
  ·cases h
 ·rename_i ks cs
  cases e:n6 ob ks cs j with
  |none=>rw[e]at h;cases h
  |
   some r =>
   obtain⟨as1,obs1,os1⟩:=r
   rw[e]at h;cases h
   have:=xI e hm
   rw[this]
 ·split at h
  ·rename_i ho
   split at h
   ·rename_i h1;cases h;rw[hm _ ag,ho];simp only;rw[kU _ h1 fun m hh=>hm m (ai _ hh)]
   ·cases h
  ·cases h
 ·rename_i ks cs
  cases e:n6 ob ks cs j with
  |none=>rw[e]at h;cases h
  |
   some r =>
   obtain⟨as1,obs1,os1⟩:=r
   rw[e]at h;cases h
   have:=xI e hm
   rw[this]
 ·cases h
theorem qo:∀(ms:List (Option MK)) {cs asq:List AV} {obs:List Ob} {os:List Nat} {j:Nat},fg ob ms cs j=some (asq,obs,os)->(∀m,m∈os->ob' m=ob m)->fg ob' ms cs j=some (asq,obs,os)
 |
  [],cs,asq,obs,os,j,h,hm=>by
  cases cs with
  |nil=>exact h
  |cons c cs=>simp[fg]at h
 |
  none::ms,cs,asq,obs,os,j,h,hm=>by
  cases cs with
  |nil=>simp[fg]at h
  |
   cons c cs =>
   simp only[fg]at h |-
   split at h
   ·rename_i h1 h2;cases h;rw[Ec h1,qo ms h2 hm]
   ·cases h
 |
  some m::ms,cs,asq,obs,os,j,h,hm=>by
  cases cs with
  |nil=>simp[fg]at h
  |
   cons c cs =>
   simp only[fg]at h |-
   split at h
   ·rename_i h1
    split at h
    ·rename_i h2;cases h
     rw[yx h1 fun m hh=>hm m (aA _ hh)]
     simp only
     rw[qo ms h2 fun m hh=>hm m (az _ hh)]
    ·cases h
   ·cases h
theorem Ck{m:PK}{c c':AV}{obs:List Ob}{os:List Nat}{j:Nat}(h:nf ob m c j=some (c',obs,os))(hm:∀m,m∈os->ob' m=ob m):nf ob' m c j=some (c',obs,os):=by
 unfold nf at h |-
 split at h
 ·exact yx h hm
 ·split at h
  ·rename_i h1;cases h;rw[qo _ h1 hm]
  ·cases h
 ·split at h
  ·rename_i h1 hg
   revert h
   cases hb:aF _ _<;>intro h
   ·cases h
   ·cases h;rw[qo _ h1 hm,hg];simp only[hb,cond_true]
  ·cases h
 ·cases h
theorem Ax{f:Nat}{c:AV}{l:List (Option Nat)}{fz:List Nat}(h:qS ob f c=some (l,fz))(hm:∀m,m∈fz->ob' m=ob m):qS ob' f c=some (l,fz):=by
 unfold qS at h |-
 split at h
 ·exact h
 ·rename_i o
  have key:∀f' caps,(bif aF f' f then(nY o caps).map fun l=>(l,[o])else none)=some (l,fz)->fz=[o]:=fun f' caps h=>by
   cases hb:aF f' f with
   |false=>rw[hb]at h;cases h
   |
    true =>
    rw[hb]at h
    cases e:nY o caps with
    |none=>rw[e]at h;cases h
    |some l'=>rw[e]at h;cases h;rfl
  split at h
  ·rename_i f' caps ho
   have:=hm o (by rw[key f' caps h];exact ag)
   simp only[this,ho];exact h
  ·rename_i f' caps ho
   have:=hm o (by rw[key f' caps h];exact ag)
   simp only[this,ho];exact h
  ·cases h
 ·cases h
theorem ql(mu:List (Nat×PK)):∀(asq:List AV) {i j:Nat} {as':List AV} {ins:List Ob} {os fz:List Nat},ik ob mu asq i j=some (as',ins,os,fz)->(∀m,m∈os->ob' m=ob m)->(∀m,m∈fz->ob' m=ob m)->ik ob' mu asq i j=some (as',ins,os,fz)
 |[],i,j,as',ins,os,fz,h,hm,hz=>h
 |
  c::asq,i,j,as',ins,os,fz,h,hm,hz=>by
  simp only[ik]at h |-
  split at h
  ·split at h
   ·rename_i h1 h2;cases h
    rw[Ax (ob:=ob) (ob':=ob') h1 fun m hh=>hz m (aA _ hh),ql mu asq h2 hm fun m hh=>hz m (az _ hh)]
   ·cases h
  ·rename_i m hl
   split at h
   ·rename_i h1
    split at h
    ·rename_i h2;cases h
     rw[Ck h1 fun m hh=>hm m (aA _ hh)]
     simp only
     rw[ql mu asq h2 (fun m hh=>hm m (az _ hh)) hz]
    ·cases h
   ·cases h
  ·split at h
   ·rename_i h1 h2;cases h
    rw[mc (ob:=ob) (ob':=ob') eh _ _ _ h1 fun m hh=>hz m (aA _ hh),ql mu asq h2 hm fun m hh=>hz m (az _ hh)]
   ·cases h
theorem qe(mu:List (Nat×PK))(os0:List Nat)(ins0:List Ob):∀(asq:List AV) {i j:Nat} {as':List AV} {ins:List Ob} {os fz:List Nat},ik ob mu asq i j=some (as',ins,os,fz)->(∀m,m∈fz->ob' m=ob m)->lN ob' mu os0 ins0 asq i=lN ob mu os0 ins0 asq i
 |[],i,j,as',ins,os,fz,h,hz=>rfl
 |
  c::asq,i,j,as',ins,os,fz,h,hz=>by
  simp only[ik]at h
  split at h
  ·rename_i f js hl
   split at h
   ·rename_i h1 h2;cases h
    simp only[lN,hl]
    rw[Ax (ob:=ob) (ob':=ob') h1 fun m hh=>hz m (aA _ hh),h1,qe mu os0 ins0 asq h2 fun m hh=>hz m (az _ hh)]
   ·cases h
  ·rename_i m hne hl
   split at h
   ·split at h
    ·rename_i h2;cases h
     simp only[lN,hl]
     rw[qe mu os0 ins0 asq h2 hz]
     cases m<;>first|rfl|exact absurd rfl (hne _ _)
    ·cases h
   ·cases h
  ·rename_i hl
   split at h
   ·rename_i h1 h2;cases h
    simp only[lN,hl]
    rw[qe mu os0 ins0 asq h2 fun m hh=>hz m (az _ hh)]
   ·cases h
theorem xi{o:Oper}{f:Nat}{asq:List AV}(hne:fR T cfg e ob o f asq≠.no)(hm:∀m,m∈yZ (fR T cfg e ob o f asq)->ob' m=ob m):fR T cfg e' ob' o f asq=fR T cfg e ob o f asq:=by
 unfold fR at hne hm |-
 simp only at hne hm |-
 generalize cfg (keyOf f asq)=c at hne hm |-
 split at hne
 ·rename_i as' ins os fz h
  rw[h]at hm
  cases hq:(nodup os&&(!(os.any (fT fz))&&(dK (dz c.mu) ins&&(lN ob c.mu os ins asq 0&&rO (dz c.mu) os ins))))with
  |false=>rw[hq]at hne;exact absurd rfl hne
  |
   true =>
   simp only[hq,cond_true,yZ]at hm
   have hz:∀m,m∈fz->ob' m=ob m:=fun m hh=>hm m (aA _ hh)
   have ho:∀m,m∈os->ob' m=ob m:=fun m hh=>hm m (az _ (aA _ hh))
   rw[ql c.mu asq h ho hz]
   simp only[qe c.mu os ins asq h hz,hq,cond_true,wZ hz]
 ·exact absurd rfl hne
theorem i9:∀(ms:List MK) (os:List Nat) (obs obs':List Ob) (j nm:Nat),(dj ms os obs j nm).2.1.map (·.1)=(dj ms os obs' j nm).2.1.map (·.1)/\(dj ms os obs j nm).2.2.2=(dj ms os obs' j nm).2.2.2
 |[],os,obs,obs',j,nm=>⟨rfl,rfl⟩
 | .vec::ms,os,obs,obs',j,nm=>i9 ms os.tail obs.tail obs'.tail (j+1) nm
 | .ve kz::ms,os,obs,obs',j,nm=>i9 ms os.tail obs.tail obs'.tail (j+1) nm
 |
  .cB g ks::ms,os,obs,obs',j,nm=>by
  obtain⟨h1,h2⟩:=i9 ms os.tail obs.tail obs'.tail (j+1) nm
  exact⟨by simp only[dj,a6,h1],h2⟩
 |
  .obj ks::ms,os,obs,obs',j,nm=>by
  obtain⟨a1,a2⟩:=dD ks (obs.headD .dead).cs 0 obs.tail nm
  obtain⟨b1,b2⟩:=dD ks (obs'.headD .dead).cs 0 obs'.tail nm
  simp only[dj,bV,a6,a1,b1,a2,b2]
  obtain⟨h1,h2⟩:=i9 ms (os.drop (bB ks+1)) (bE ks (obs.headD .dead).cs 0 obs.tail nm).2.2.1 (bE ks (obs'.headD .dead).cs 0 obs'.tail nm).2.2.1 (j+1+bB ks) (nm+bB ks)
  exact⟨by rw[h1],h2⟩
theorem lH{own:List Nat}{oa:List CK}:∀(ts:List Nat) (r r':AV) (i j:Nat) (obs obs':List Ob) (nm:Nat),(ec T own oa r ts i j obs nm).2.2.map (·.1)=(ec T own oa r' ts i j obs' nm).2.2.map (·.1)
 |[],r,r',i,j,obs,obs',nm=>rfl
 |
  t::ts,r,r',i,j,obs,obs',nm=>by
  simp only[ec]
  cases own.any (aF i)with
  |
   true =>
   cases (T t).agg with
   |
    true =>
    simp only[cond_true,bV]
    rw[(dD _ _ _ _ _).1,(dD _ _ _ _ _).1,(dD _ _ _ _ _).2,(dD _ _ _ _ _).2,lH ts r r' (i+1) (j+bB oa) _ (bE oa (r'.comp i).cs 0 obs' nm).2.2.1 (nm+bB oa)]
   |false=>simp only[cond_true,cond_false,a6];rw[lH ts r r' (i+1) (j+1) obs.tail obs'.tail (nm+1)]
  |false=>simp only[cond_false];exact lH ts r r' (i+1) j obs obs' nm
theorem wG{own:List Nat}{ow:List LK}{oa:List CK}(t:Nat)(r r':AV)(j:Nat)(obs obs':List Ob)(nm:Nat):(dH T own ow oa t r j obs nm).2.2.map (·.1)=(dH T own ow oa t r' j obs' nm).2.2.map (·.1):=by
 unfold dH
 split
 ·rfl
 ·exact lH _ _ _ _ _ _ _ _
 ·cases own.any (aF 0)<;>rfl
 ·cases own.any (aF 0)with
  |false=>rfl
  |
   true=>cases (T t).agg with
   |true=>simp only[cond_true];rw[(dD _ _ _ _ _).1,(dD _ _ _ _ _).1]
   |false=>rfl
theorem D4(o:Oper)(hne:jX T cfg e ob o≠.no)(he:∀x,x∈o.op.operands->e x=e' x)(hr:∀m,m∈Dc (jX T cfg e ob o)->ob' m=ob m)(hw:∀m,m∈yZ (jX T cfg e ob o)->ob' m=ob m) :
 jX T cfg e' ob' o=jX T cfg e ob o:=by
 have plain:(∀e ob,jX T cfg e ob o=match dI T e ob o with| .ok p d=>.d (some p) d| .yes d=>.d none d| .no=>.no)->jX T cfg e' ob' o=jX T cfg e ob o:=by
  intro h
  rw[h e ob]at hne hr hw |-
  rw[h e' ob',<-H2 (ob:=ob') o he]
  have:=Km (T:=T) (e:=e) (ob:=ob) (ob':=ob') o
  cases hq:dI T e ob o with
  |no=>rw[hq]at hne;exact absurd rfl hne
  |
   yes d =>
   rw[hq]at this hr hw
   rcases this with h|h
   ·cases h
   ·rw[h fun m hm=>by
     rcases aH.1 hm with hm|hm
     ·exact hr m hm
     ·exact hw m hm]
  |
   ok p d =>
   rw[hq]at this hr hw
   rcases this with h|h
   ·cases h
   ·rw[h fun m hm=>by
     rcases aH.1 hm with hm|hm
     ·exact hr m hm
     ·exact hw m hm]
 cases ho:o.op with
 |
  call c =>
  obtain⟨callee,xs,ts⟩:=c
  cases callee with
  |
   value x =>
   have hE:∀e ob,jX T cfg e ob o=(match e x with
    | .v (.func (.func f) fi cap)=>bif aF fi.size 0&&aF cap.size 0 then fR T cfg e ob o f (xs.toList.map e)else .no
    | .fn f cap=>fR T cfg e ob o f (xs.toList.map e++cap)
    |_=>.no):=fun e ob=>by unfold jX;rw[ho];try rfl
   have hx:e x=e' x:=he x (by rw[ho];simp[Op.operands,Call.operands])
   have hxs:xs.toList.map e=xs.toList.map e':=wN fun y hy=>he y (by rw[ho];simp only[Op.operands,Call.operands];exact Array.mem_append.2 (.inr (by simpa using hy)))
   rw[hE e ob]at hne hw |-
   rw[hE e' ob',<-hx,<-hxs]
   split at hne
   ·rename_i f fi cap h
    simp only[h]at hw |-
    cases hq:(aF fi.size 0&&aF cap.size 0)with
    |false=>rw[hq]at hne;exact absurd rfl hne
    |
     true =>
     rw[hq]at hne hw
     exact xi (e:=e) (e':=e') hne hw
   ·rename_i f cap h
    simp only[h]at hw |-
    exact xi (e:=e) (e':=e') hne hw
   ·exact absurd rfl hne
  |builtin b=>exact plain fun e ob=>by unfold jX;rw[ho];try rfl
  |invoke r nm=>exact plain fun e ob=>by unfold jX;rw[ho];try rfl
 |_=>exact plain fun e ob=>by unfold jX;rw[ho];try rfl
theorem fC:∀(l:List (Nat×Option Ob)) (f:Nat->Option Ob) (o:Nat),o∉l.map (·.1)->cx f l o=f o
 |[],f,o,_=>rfl
 |
  (q,c)::l,f,o,h=>by
  show cx (cr f q c) l o=f o
  rw[fC l _ o fun hh=>h (ai _ hh),aW _ _ _ _ fun e=>h (by subst e;exact ag)]
theorem tF:∀(l:List (Nat×Option Ob)) (f g:Nat->Option Ob) (o:Nat),o∈l.map (·.1)->cx f l o=cx g l o
 |[],f,g,o,h=>by cases h
 |
  (q,c)::l,f,g,o,h=>by
  show cx (cr f q c) l o=cx (cr g q c) l o
  by_cases hl:o∈l.map (·.1)
  ·exact tF l _ _ o hl
  ·rw[fC l _ o hl,fC l _ o hl]
   have:o=q:=by rcases aI.1 h with h|h;exact h;exact absurd h hl
   subst this;rw[aL,aL]
theorem zv{l r:List (Nat×Option Ob)}(h:∀o,o∈l.map (·.1)->o∉r.map (·.1))(f:Nat->Option Ob):cx (cx f l) r=cx (cx f r) l:=by
 funext o
 by_cases hl:o∈l.map (·.1)
 ·rw[fC r _ o (h o hl)]
  exact tF l _ _ o hl
 ·by_cases hr:o∈r.map (·.1)
  ·rw[fC l _ o hl]
   exact tF r _ _ o hr
  ·rw[fC r _ o hr,fC l _ o hl,fC l _ o hl,fC r _ o hr]
theorem kB:∀(l:List Nat) (f:Nat->Bool) (o:Nat),eM f l o=(f o||l.any (aF o))
 |[],f,o=>by simp[eM]
 |
  q::l,f,o=>by
  rw[eM,kB l]
  simp only[cr,List.any_cons]
  cases aF o q<;>simp
theorem zk(l r:List Nat)(f:Nat->Bool):eM (eM f l) r=eM (eM f r) l:=by
 funext o
 rw[kB,kB,kB,kB]
 cases f o<;>cases l.any (aF o)<;>cases r.any (aF o)<;>rfl
theorem kb(s:St)(dst:Option Nat)(d:De):s.app dst d = {tm:=mX s.tm dst d.val,ob:=cx s.ob d.cr,us:=eM s.us d.new}:=by
 unfold St.app;cases dst<;>rfl
end
end Go.VL
namespace Go.VL
open Go Go.RowKit
section
variable {P:Program} {T:ep} {cfg:Nat->FC} {n:Nat} {all:List Oper}
def nb:AV->AV| .b b=>.v (.bool b)|a=>a
def dL(all:List Oper)(o:Oper)(s:St):St :=
 match cV o all with
 |[t]=>(match s.tm t with| .b b=>s.set t (.v (.bool b))|_=>s)
 |_=>s
def so:De:={val:=.v (.tuple #[])}
def gE(T:ep)(cfg:Nat->FC)(all:List Oper)(o:Oper)(s:St):zG :=
 match o.guard with
 |none=>jX T cfg (ev s) s.ob o
 |
  some (g,want)=>match (all[g]?).map (·.dst)with
  |
   some (some t)=>match nb (s.tm t)with
   | .v (.bool b)=>bif b==want then jX T cfg (ev (dL all o s)) s.ob o else .d none so
   | .v (.tuple _)=>.d none so
   |_=>.no
  |_=>.no
def mv(P:Program)(E:zG)(X:De->Prop):Prop :=
 match E with
 | .no=>False
 | .d p d=>(∀q,p=some q->q)/\X d
 | .c f asq ins _ k=>∃R,aB P f asq ins R/\(∃r obs,R r obs)/\∀r obs,R r obs->gu (k r obs).1/\X (k r obs).2
def pS:zG->Bool| .c ..=>true|_=>false
theorem gx{E:zG}{X Y:De->Prop}(h:mv P E X)(hxy:∀d,X d->Y d):mv P E Y:=by
 cases E with
 |no=>exact h
 |d p d=>exact⟨h.1,hxy d h.2⟩
 |
  c f asq ins wr k =>
  obtain⟨R,h1,h2,h3⟩:=h
  exact⟨R,h1,h2,fun r obs hr=>⟨(h3 r obs hr).1,hxy _ (h3 r obs hr).2⟩⟩
theorem kP{E:zG}{X:De->Prop}(h:mv P E X):E≠.no/\∃d,X d:=by
 cases E with
 |no=>exact h.elim
 |d p d=>exact⟨by simp,d,h.2⟩
 |
  c f asq ins wr k =>
  obtain⟨R,h1,⟨r,obs,hr⟩,h3⟩:=h
  exact⟨by simp,_,(h3 r obs hr).2⟩
theorem zo{E F:zG}{X:De->De->Prop}(hn:(pS E&&pS F)=false)(h:mv P E fun d=>mv P F fun d'=>X d d'):mv P F fun d'=>mv P E fun d=>X d d':=by
 cases E with
 |no=>exact h.elim
 |d p d=>exact gx h.2 fun d' hx=>⟨h.1,hx⟩
 |
  c f asq ins wr k =>
  cases F with
  |no=>obtain⟨R,h1,⟨r,obs,hr⟩,h3⟩:=h;exact(h3 r obs hr).2.elim
  |
   d p d =>
   obtain⟨R,h1,⟨r,obs,hr⟩,h3⟩:=h
   exact⟨(h3 r obs hr).2.1,R,h1,⟨r,obs,hr⟩,fun r obs hr=>⟨(h3 r obs hr).1,(h3 r obs hr).2.2⟩⟩
  |c f' as' ins' wr' k'=>cases hn
theorem xT{o:Oper}{s:St}(h:pS (gE T cfg all o s)=true):gP o=true:=by
 have key:∀e ob,pS (jX T cfg e ob o)=true->gP o=true:=by
  intro e ob h
  cases ho:o.op with
  |
   call c =>
   obtain⟨callee,xs,ts⟩:=c
   cases callee with
   |value x=>simp[gP,ho]
   |
    builtin b =>
    have:jX T cfg e ob o=match dI T e ob o with| .ok p d=>.d (some p) d| .yes d=>.d none d| .no=>.no:=by unfold jX;rw[ho];try rfl
    rw[this]at h
    split at h<;>cases h
   |
    invoke r nm =>
    have:jX T cfg e ob o=match dI T e ob o with| .ok p d=>.d (some p) d| .yes d=>.d none d| .no=>.no:=by unfold jX;rw[ho];try rfl
    rw[this]at h
    split at h<;>cases h
  |
   _ =>
   have:jX T cfg e ob o=match dI T e ob o with| .ok p d=>.d (some p) d| .yes d=>.d none d| .no=>.no:=by unfold jX;rw[ho];try rfl
   rw[this]at h
   split at h<;>cases h
 unfold gE at h
 split at h
 ·exact key _ _ h
 ·split at h
  ·split at h
   ·rename_i b _
    cases hq:(b==_)with
    |true=>rw[hq]at h;exact key _ _ h
    |false=>rw[hq]at h;cases h
   ·cases h
   ·cases h
  ·cases h
theorem pK{o:Oper}{g:Nat}{want:Bool}{t:Nat}(h1:o.guard=some (g,want))(h2:(all[g]?).map (·.dst)=some (some t)):cV o all=[t]:=by
 unfold cV;rw[h1];simp only[h2]
theorem oC{o:Oper}{t:Nat}(h:cV o all=[t])(s:St):dL all o s=match s.tm t with| .b b=>s.set t (.v (.bool b))|_=>s:=by
 unfold dL;rw[h]
theorem fI(o:Oper)(s:St):(dL all o s).ob=s.ob/\(dL all o s).us=s.us:=by
 unfold dL
 split
 ·split<;>exact⟨rfl,rfl⟩
 ·exact⟨rfl,rfl⟩
theorem lg(o:Oper)(s:St)(x:Nat):(dL all o s).tm x=if x∈cV o all then nb (s.tm x)else s.tm x:=by
 by_cases hg:∃t,cV o all=[t]
 ·obtain⟨t,hg⟩:=hg
  rw[oC hg,hg]
  cases hs:s.tm t with
  |
   b b =>
   simp only[St.set]
   by_cases e:x=t
   ·subst e;rw[aL,if_pos (by simp),hs];rfl
   ·rw[aW _ _ _ _ e,if_neg (by simpa using e)]
  |
   _ =>
   simp only
   by_cases e:x=t
   ·subst e;rw[if_pos (by simp),hs];rfl
   ·rw[if_neg (by simpa using e)]
 ·have:cV o all=[]:=by
   unfold cV at hg |-
   split at hg
   ·rename_i g want h
    split at hg
    ·exact absurd ⟨_,rfl⟩ hg
    ·rfl
   ·rfl
  have e1:dL all o s=s:=by unfold dL;rw[this]
  rw[e1,this,if_neg (by simp)]
theorem Eb(a:AV):nb (nb a)=nb a:=by cases a<;>rfl
theorem qK{o:Oper}{t:Nat}(h:Operand.tmp t∈o.op.operands):t∈jN o:=by
 unfold jN
 exact List.mem_filterMap.2 ⟨.tmp t,by simpa using h,rfl⟩
theorem Ej{s s1:St}{x:Operand}(h:∀t,x=.tmp t->s.tm t=s1.tm t):ev s x=ev s1 x:=by
 cases x with
 |tmp t=>exact h t rfl
 |_=>rfl
theorem Ju{o:Oper}{s s1:St}(hne:gE T cfg all o s1≠.no)(ht:∀t,t∈jN o->s.tm t=s1.tm t)(hg:∀t,t∈cV o all->nb (s.tm t)=nb (s1.tm t))
 (hr:∀m,m∈Dc (gE T cfg all o s1)->s.ob m=s1.ob m) (hw:∀m,m∈yZ (gE T cfg all o s1)->s.ob m=s1.ob m):gE T cfg all o s=gE T cfg all o s1:=by
 unfold gE at hne hr hw |-
 cases hgd:o.guard with
 |
  none =>
  rw[hgd]at hne hr hw
  exact D4 o hne (fun x hx=>Ej fun t e=>by subst e;exact(ht t (qK hx)).symm) hr hw
 |
  some gw =>
  obtain⟨g,want⟩:=gw
  rw[hgd]at hne hr hw
  simp only at hne hr hw |-
  split at hne
  ·rename_i t hd
   have hgt:=pK hgd hd
   simp only[hd]at hr hw |-
   have e1:nb (s.tm t)=nb (s1.tm t):=hg t (by rw[hgt];simp)
   rw[e1]
   split at hne
   ·rename_i b hb
    simp only[hb]at hr hw |-
    cases hq:(b==want)with
    |false=>rfl
    |
     true =>
     rw[hq]at hne hr hw
     simp only[cond_true]at hne hr hw |-
     refine D4 o hne (fun x hx=>Ej fun t' e=>?_) hr hw
     subst e
     have:=ht t' (qK hx)
     rw[lg,lg,this]
   ·rename_i vs hb
    simp only[hb]
   ·exact absurd rfl hne
  ·exact absurd rfl hne
end
end Go.VL
namespace Go.VL
open Go Go.RowKit
section
variable {P:Program} {T:ep} {cfg:Nat->FC} {n:Nat} {all:List Oper}
structure lL(all:List Oper)(p o:Oper)(rq wq rd wr:List Nat):Prop where
 nc:(gP p&&gP o)=false
 d1:∀x,x∈gZ p->x∉jN o
 d2:∀x,x∈gZ p->x∉cV o all
 d3:∀x,x∈gZ p->x∉gZ o
 d4:∀x,x∈gZ o->x∉jN p
 d5:∀x,x∈gZ o->x∉cV p all
 d6:∀x,x∈cV p all->x∉jN o
 d7:∀x,x∈cV o all->x∉jN p
 w1:∀x,x∈wr->x∉wq
 w2:∀x,x∈wr->x∉rq
 w3:∀x,x∈rd->x∉wq
theorem iS{a b:List Nat}(h:pZ a b=true):∀x,x∈a->x∉b:=by
 intro x hx hb
 simp only[pZ,bR,List.any_eq_false]at h
 refine h x hx ?_
 simp only[fT,bT]
 exact⟨x,hb,Nat.beq_refl x⟩
theorem AD{p o:Oper}{rq wq rd wr:List Nat}(h:wL all p o rq wq rd wr=true):lL all p o rq wq rd wr:=by
 simp only[wL,Bh,au]at h
 obtain⟨h0,⟨h1,h2,h3,h4,h5,h6,h7⟩,h8,h9,h10⟩:=h
 exact⟨by cases q1:gP p<;>cases q2:gP o<;>simp_all,iS h1,iS h2,iS h3,iS h4,iS h5,iS h6,iS h7,iS h8,iS h9,iS h10⟩
theorem lL.symm{p o:Oper}{rq wq rd wr:List Nat}(h:lL all p o rq wq rd wr):lL all o p rd wr rq wq :=
 ⟨by rw[Bool.and_comm];exact h.nc,h.d4,h.d5,fun x h1 h2=>h.d3 x h2 h1,h.d1,h.d2,h.d7,h.d6,fun x h1 h2=>h.w1 x h2 h1,fun x h1 h2=>h.w3 x h2 h1,fun x h1 h2=>h.w2 x h2 h1⟩
theorem iR{tm:Nat->AV}{o:Oper}{v:AV}{x:Nat}(h:x∉gZ o):mX tm o.dst v x=tm x:=by
 unfold gZ at h
 cases hd:o.dst with
 |none=>rfl
 |some d=>rw[hd]at h;exact aW _ _ _ _ (by simpa using h)
theorem yw{p o:Oper}{s:St}{d:De}{rq wq:List Nat}(ha:lL all p o rq wq (Dc (gE T cfg all o ((dL all p s).app p.dst d))) (yZ (gE T cfg all o ((dL all p s).app p.dst d))))(hwd:∀m,m∈mH d->m∈wq)
 (hne:gE T cfg all o ((dL all p s).app p.dst d)≠.no):gE T cfg all o s=gE T cfg all o ((dL all p s).app p.dst d):=by
 have ob:∀m,m∉wq->s.ob m=((dL all p s).app p.dst d).ob m:=fun m hm=>by
  rw[kb]
  show s.ob m=cx (dL all p s).ob d.cr m
  rw[fC _ _ _ fun h=>hm (hwd m h),(fI p s).1]
 refine Ju hne (fun t ht=>?_) (fun t ht=>?_) (fun m hm=>ob m (ha.w3 m hm)) fun m hm=>ob m (ha.w1 m hm)
 ·rw[kb]
  show s.tm t=mX (dL all p s).tm p.dst d.val t
  rw[iR fun h=>ha.d1 t h ht,lg,if_neg fun h=>ha.d6 t h ht]
 ·rw[kb]
  show nb (s.tm t)=nb (mX (dL all p s).tm p.dst d.val t)
  rw[iR fun h=>ha.d2 t h ht,lg]
  split
  ·rw[Eb]
  ·rfl
theorem xq{p o:Oper}{s:St}{d:De}{rq wq:List Nat}(ha:lL all p o rq wq (Dc (gE T cfg all o s)) (yZ (gE T cfg all o s)))(hwd:∀m,m∈mH d->m∈wq)
 (hne:gE T cfg all o s≠.no):gE T cfg all o ((dL all p s).app p.dst d)=gE T cfg all o s:=by
 have ob:∀m,m∉wq->((dL all p s).app p.dst d).ob m=s.ob m:=fun m hm=>by
  rw[kb]
  show cx (dL all p s).ob d.cr m=s.ob m
  rw[fC _ _ _ fun h=>hm (hwd m h),(fI p s).1]
 refine Ju hne (fun t ht=>?_) (fun t ht=>?_) (fun m hm=>ob m (ha.w3 m hm)) fun m hm=>ob m (ha.w1 m hm)
 ·rw[kb]
  show mX (dL all p s).tm p.dst d.val t=s.tm t
  rw[iR fun h=>ha.d1 t h ht,lg,if_neg fun h=>ha.d6 t h ht]
 ·rw[kb]
  show nb (mX (dL all p s).tm p.dst d.val t)=nb (s.tm t)
  rw[iR fun h=>ha.d2 t h ht,lg]
  split
  ·rw[Eb]
  ·rfl
theorem BC{p o:Oper}{s:St}{d d':De}{rq wq rd wr:List Nat}(ha:lL all p o rq wq rd wr)(h1:∀m,m∈mH d->m∈wq)(h2:∀m,m∈mH d'->m∈wr) :
 (dL all p ((dL all o s).app o.dst d')).app p.dst d=(dL all o ((dL all p s).app p.dst d)).app o.dst d':=by
 have tmE:∀(q:Oper) (s:St) (e:De),(((dL all q s).app q.dst e).tm=mX (fun x=>if x∈cV q all then nb (s.tm x)else s.tm x) q.dst e.val):=fun q s e=>by
  rw[kb]
  show mX (dL all q s).tm q.dst e.val=_
  congr 1
  funext x;exact lg q s x
 have obE:∀(q:Oper) (s:St) (e:De),((dL all q s).app q.dst e).ob=cx s.ob e.cr:=fun q s e=>by rw[kb];show cx (dL all q s).ob e.cr=_;rw[(fI q s).1]
 have mN:∀(q:Oper) (s:St) (e:De),((dL all q s).app q.dst e).us=eM s.us e.new:=fun q s e=>by rw[kb];show eM (dL all q s).us e.new=_;rw[(fI q s).2]
 have ext:∀(a b:St),a.tm=b.tm->a.ob=b.ob->a.us=b.us->a=b:=fun a b h1 h2 h3=>by cases a;cases b;simp_all
 refine ext _ _ ?_ ?_ ?_
 ·funext x
  have eL:=congrFun (tmE p ((dL all o s).app o.dst d') d) x
  have eR:=congrFun (tmE o ((dL all p s).app p.dst d) d') x
  have eO:=congrFun (tmE o s d') x
  have eP:=congrFun (tmE p s d) x
  have at1:∀(q:Oper) (tm:Nat->AV) (v:AV),x∈gZ q->mX tm q.dst v x=v:=fun q tm v h=>by
   unfold gZ at h
   cases hd:q.dst with
   |none=>rw[hd]at h;cases h
   |
    some y =>
    rw[hd]at h
    have:x=y:=by simpa using h
    subst this;exact aL _ _ _
  rw[eL,eR]
  by_cases hp:x∈gZ p
  ·have ho:x∉gZ o:=ha.d3 x hp
   have hg:x∉cV o all:=ha.d2 x hp
   rw[at1 p _ _ hp,iR ho,if_neg hg,eP,at1 p _ _ hp]
  ·by_cases ho:x∈gZ o
   ·have hg:x∉cV p all:=ha.d5 x ho
    rw[at1 o _ _ ho,iR hp,if_neg hg,eO,at1 o _ _ ho]
   ·rw[iR hp,iR ho,eO,eP,iR ho,iR hp]
    by_cases g1:x∈cV p all<;>by_cases g2:x∈cV o all<;>simp[g1,g2]
 ·rw[obE,obE,obE,obE]
  exact zv (fun m hm hm'=>ha.w1 m (h2 m hm) (h1 m hm')) _
 ·rw[mN,mN,mN,mN]
  exact zk _ _ _
end
end Go.VL
namespace Go.VL
open Go Go.RowKit
section
variable {P:Program} {T:ep} {cfg:Nat->FC} {n:Nat} {all:List Oper}
theorem DZ{e:Operand->AV}{ob:Nat->Option Ob}{o:Oper}{f:Nat}{asq:List AV}{ins:List Ob}{wr:List Nat}{k:AV->List Ob->List Prop×De}(h:jX T cfg e ob o=.c f asq ins wr k):∃g l,fR T cfg e ob o g l=.c f asq ins wr k:=by
 have no:(∀e ob,jX T cfg e ob o=match dI T e ob o with| .ok p d=>.d (some p) d| .yes d=>.d none d| .no=>.no)->∃g l,fR T cfg e ob o g l=.c f asq ins wr k:=fun hh=>by
  rw[hh]at h;split at h<;>cases h
 cases ho:o.op with
 |
  call c =>
  obtain⟨callee,xs,ts⟩:=c
  cases callee with
  |
   value x =>
   have hE:jX T cfg e ob o=(match e x with
    | .v (.func (.func f) fi cap)=>bif aF fi.size 0&&aF cap.size 0 then fR T cfg e ob o f (xs.toList.map e)else .no
    | .fn f cap=>fR T cfg e ob o f (xs.toList.map e++cap)
    |_=>.no):=by unfold jX;rw[ho];try rfl
   rw[hE]at h
   split at h
   ·rename_i f' fi cap _
    cases hq:(aF fi.size 0&&aF cap.size 0)with
    |false=>rw[hq]at h;cases h
    |true=>rw[hq]at h;exact⟨_,_,h⟩
   ·exact⟨_,_,h⟩
   ·cases h
  |builtin b=>exact no fun e ob=>by unfold jX;rw[ho];try rfl
  |invoke r nm=>exact no fun e ob=>by unfold jX;rw[ho];try rfl
 |_=>exact no fun e ob=>by unfold jX;rw[ho];try rfl
theorem NM{o:Oper}{s:St}{f:Nat}{asq:List AV}{ins:List Ob}{wr:List Nat}{k:AV->List Ob->List Prop×De}(h:gE T cfg all o s=.c f asq ins wr k):∃e g l,fR T cfg e s.ob o g l=.c f asq ins wr k:=by
 unfold gE at h
 split at h
 ·obtain⟨g,l,h⟩:=DZ h;exact⟨_,g,l,h⟩
 ·split at h
  ·split at h
   ·rename_i b _
    cases hq:(b==_)with
    |true=>rw[hq]at h;obtain⟨g,l,h⟩:=DZ h;exact⟨_,g,l,h⟩
    |false=>rw[hq]at h;cases h
   ·cases h
   ·cases h
  ·cases h
theorem qw{o:Oper}{s:St}{X:De->Prop}(h:mv P (gE T cfg all o s) X):mv P (gE T cfg all o s) fun d=>X d/\∀m,m∈mH d->m∈yZ (gE T cfg all o s):=by
 cases hE:gE T cfg all o s with
 |no=>rw[hE]at h;exact h
 |d p d=>rw[hE]at h;exact⟨h.1,h.2,fun m hm=>hm⟩
 |
  c f asq ins wr k =>
  rw[hE]at h
  obtain⟨e,g,l,hq⟩:=NM hE
  unfold fR at hq
  simp only at hq
  generalize cfg (keyOf g l)=c at hq
  split at hq
  ·rename_i as' ins' os fz hga
   cases hgd:(nodup os&&(!(os.any (fT fz))&&(dK (dz c.mu) ins'&&(lN s.ob c.mu os ins' l 0&&rO (dz c.mu) os ins'))))with
   |false=>rw[hgd]at hq;cases hq
   |
    true =>
    rw[hgd]at hq
    simp only[cond_true,zG.c.injEq]at hq
    obtain⟨rfl,rfl,rfl,rfl,rfl⟩:=hq
    obtain⟨R,h1,h2,h3⟩:=h
    refine⟨R,h1,h2,fun r obs hr=>⟨(h3 r obs hr).1,(h3 r obs hr).2,fun m hm=>?_⟩⟩
    have e0:(pN os).map (·.1)=os:=by unfold pN;rw[List.map_map];exact List.map_id' os
    obtain⟨n1,n2⟩:=i9 (dz c.mu) os obs [] 0 (newName o.dst)
    have hsub:∀m,m∈(bif vj T c.own c.oa ins' o.type then []else fw s.ob fz).map (·.1)->m∈fz:=fun m hm=>by
     cases hl:vj T c.own c.oa ins' o.type with
     |true=>rw[hl]at hm;cases hm
     |false=>rw[hl]at hm;simpa only[cond_false,ud]using hm
    simp only[mH,bV,e0,n1]at hm
    have hm:m∈fz++(os++(List.map (·.1) (dj (dz c.mu) os [] 0 (newName o.dst)).2.1++List.map (·.1) (dH T c.own c.ow c.oa o.type r ins'.length (dj (dz c.mu) os obs 0 (newName o.dst)).2.2.1 (dj (dz c.mu) os obs 0 (newName o.dst)).2.2.2).2.2)):=by
     rcases aH.1 hm with hm|hm
     ·exact aA _ (hsub m hm)
     ·exact az _ hm
    rw[n2,wG (T:=T) (own:=c.own) o.type r .any ins'.length _ (dj (dz c.mu) os [] 0 (newName o.dst)).2.2.1]at hm
    simpa only[yZ,bV]using hm
  ·cases hq
structure It where
 i:Nat
 o:Oper
 uw:List Nat
def Seq(P:Program)(T:ep)(cfg:Nat->FC)(n:Nat)(all:List Oper)(Ψ:St->Prop):List It->List (It×List Nat×List Nat)->St->Prop
 |[],_,s=>Ψ s
 |t::r,H,s=>mv P (gE T cfg all t.o s) fun d=>dB (dL all t.o s) n t.o.dst d=true/\(∀j,j∈dh t.o->j<t.i) /\
  (∀h,h∈H->h.1.i∈t.uw\/lL all h.1.o t.o h.2.1 h.2.2 (Dc (gE T cfg all t.o s)) (yZ (gE T cfg all t.o s))) /\
  Seq P T cfg n all Ψ r (H++[(t,Dc (gE T cfg all t.o s),yZ (gE T cfg all t.o s))]) ((dL all t.o s).app t.o.dst d)
theorem Seq.J7{Ψ:St->Prop}:∀(l:List It) {H H':List (It×List Nat×List Nat)} {s:St},(∀h,h∈H'->h∈H)->Seq P T cfg n all Ψ l H s->Seq P T cfg n all Ψ l H' s
 |[],_,_,_,_,h=>h
 |t::r,H,H',s,hs,h=>gx h fun d ⟨h1,h2,h3,h4⟩=>⟨h1,h2,fun q hq=>h3 q (hs q hq),Seq.J7 r (fun q hq=>by
  rcases aH.1 hq with hq|hq
  ·exact aA _ (hs q hq)
  ·exact az _ hq) h4⟩
theorem Seq.back{Ψ:St->Prop}{t:It}{L2:List It}:∀(L1:List It) {H:List (It×List Nat×List Nat)} {s:St},Seq P T cfg n all Ψ (L1++t::L2) H s->(∀x,x∈L1->x.i∉t.uw) ->
 gE T cfg all t.o s≠.no/\(∀j,j∈dh t.o->j<t.i)/\∀h,h∈H->h.1.i∈t.uw\/lL all h.1.o t.o h.2.1 h.2.2 (Dc (gE T cfg all t.o s)) (yZ (gE T cfg all t.o s))
 |
  [],H,s,h,_=>by
  obtain⟨h1,d,h2,h3,h4,_⟩:=kP h
  exact⟨h1,h3,h4⟩
 |
  p::L1,H,s,h,hl=>by
  obtain⟨h1,d,⟨h2,h3,h4,h5⟩,h6⟩:=kP (qw h)
  obtain⟨q1,q2,q3⟩:=Seq.back L1 h5 fun x hx=>hl x (ai _ hx)
  have ha:=(q3 _ (az _ (aQ.2 rfl))).resolve_left (hl p ag)
  have e:=yw ha h6 q1
  rw[e]
  exact⟨q1,q2,fun h hh=>q3 h (aA _ hh)⟩
theorem il{s:St}{dst:Option Nat}{d:De}:dB s n dst d=true↔(∀o,o∈d.new->s.us o=false)/\nodup d.new=true/\(match dst with|some t=>cv t n|none=>true)=true:=by
 unfold dB
 simp only[au,bH,bR,and_assoc]
 exact Iff.rfl
theorem wY(s:St)(dst:Option Nat)(d:De)(o:Nat):(s.app dst d).us o=(s.us o||d.new.any (aF o)):=by
 rw[kb];exact kB _ _ _
theorem Dm{l:List Nat}{o:Nat}(h:o∈l):l.any (aF o)=true:=bT.2 ⟨o,h,Nat.beq_refl o⟩
theorem Seq.pull{Ψ:St->Prop}{t:It}{L2:List It}:∀(L1:List It) {H:List (It×List Nat×List Nat)} {s:St},Seq P T cfg n all Ψ (L1++t::L2) H s->(∀x,x∈L1->x.i∉t.uw) ->
 mv P (gE T cfg all t.o s) fun d=>dB (dL all t.o s) n t.o.dst d=true/\Seq P T cfg n all Ψ (L1++L2) H ((dL all t.o s).app t.o.dst d)
 |[],H,s,h,_=>gx h fun d ⟨h1,_,_,h4⟩=>⟨h1,Seq.J7 L2 (fun q hq=>aA _ hq) h4⟩
 |
  p::L1,H,s,h,hl=>by
  have hl':∀x,x∈L1->x.i∉t.uw:=fun x hx=>hl x (ai _ hx)
  have hb:=Seq.back (p::L1) h hl
  have ha:lL all p.o t.o (Dc (gE T cfg all p.o s)) (yZ (gE T cfg all p.o s)) (Dc (gE T cfg all t.o s)) (yZ (gE T cfg all t.o s)):=by
   obtain⟨h1,d,⟨h2,h3,h4,h5⟩,h6⟩:=kP (qw h)
   obtain⟨q1,q2,q3⟩:=Seq.back L1 h5 hl'
   have ha:=(q3 _ (az _ (aQ.2 rfl))).resolve_left (hl p ag)
   rw[yw ha h6 q1];exact ha
  have hpne:gE T cfg all p.o s≠.no:=(kP h).1
  have step:=gx (qw h) fun d ⟨⟨h2,h3,h4,h5⟩,h6⟩=>(show _/\_ from ⟨(⟨h2,h3,h4,h6⟩:_/\_/\_/\_),by
   have e:=xq ha h6 hb.1
   have q:=Seq.pull L1 h5 hl'
   rw[e]at q
   have q2:=qw (o:=t.o) (s:=s) q
   exact q2⟩)
  have inner:=gx step fun d ⟨hA,hB⟩=>gx hB fun d' hx=>(show _/\_ from ⟨hA,hx⟩)
  have hnc:(pS (gE T cfg all p.o s)&&pS (gE T cfg all t.o s))=false:=by
   cases q1:pS (gE T cfg all p.o s)with
   |false=>rfl
   |
    true =>
    cases q2:pS (gE T cfg all t.o s)with
    |false=>rfl
    |true=>have:=ha.nc;rw[xT q1,xT q2]at this;cases this
  refine gx (zo hnc inner) fun d' hx=>?_
  obtain⟨_,d0,⟨g1,g2,g3,g4⟩,⟨g5,g6⟩,g7⟩:=kP hx
  have n1:=il.1 g1
  have n2:=il.1 g5
  refine⟨il.2 ⟨fun o ho=>?_,n2.2.1,n2.2.2⟩,?_⟩
  ·have:=n2.1 o ho
   rw[(fI t.o _).2,wY,(fI p.o s).2]at this
   rw[(fI t.o s).2]
   cases q:s.us o with
   |false=>rfl
   |true=>rw[q]at this;cases this
  ·have e:=xq ha.symm g7 hpne
   show mv P (gE T cfg all p.o _) _
   rw[e]
   refine gx hx fun d ⟨⟨k1,k2,k3,k4⟩,⟨k5,k6⟩,k7⟩=>⟨?_,k2,k3,?_⟩
   ·have m1:=il.1 k1
    have m2:=il.1 k5
    refine il.2 ⟨fun o ho=>?_,m1.2.1,m1.2.2⟩
    have p1:=m1.1 o ho
    rw[(fI p.o s).2]at p1
    rw[(fI p.o _).2,wY,(fI t.o s).2,p1]
    cases q:d'.new.any (aF o)with
    |false=>rfl
    |
     true =>
     obtain⟨y,hy,hy'⟩:=bT.1 q
     have:=aC hy'
     subst this
     have:=m2.1 o hy
     rw[(fI t.o _).2,wY,Dm ho]at this
     simp at this
   ·rw[BC ha k4 k7]
    exact k6
end
end Go.VL
namespace Go.VL
open Go Go.RowKit
section
variable {P:Program} {T:ep} {cfg:Nat->FC} {n:Nat} {A:jP} {a:Act} {w:World}
theorem yh(hT:cT P T)(hB:lV P A){o:Oper}{s:St}{Y:St->Prop}(g:fV n A s a w)(h:mv P (jX T cfg (ev s) s.ob o) fun d=>dB s n o.dst d=true/\Y (s.app o.dst d))
 {Kw:Act->World->Prop} {Qw:Exit->Act->World->Prop} (hK:∀s' a' w',fV n A s' a' w'->Y s'->Kw a' w'):o.wp P a w Kw Qw:=by
 obtain⟨M,β,g⟩:=g
 refine xy (cfg:=cfg) hT hB g o (K:=fun _ _ s'=>.al (Y s') (.done 0 [] [])) (Φ:=fun _ _ _=>True) ?_ fun rd wr s' a' w' g' h'=>hK s' a' w' g' h'.1
 unfold wg
 cases hE:jX T cfg (ev s) s.ob o with
 |no=>rw[hE]at h;exact h
 |
  d p d =>
  rw[hE]at h
  obtain⟨h1,h2,h3⟩:=h
  simp only[h2,cond_true]
  cases p with
  |none=>exact⟨h3,trivial⟩
  |some q=>exact⟨h1 q rfl,h3,trivial⟩
 |
  c f asq ins wr k =>
  rw[hE]at h
  obtain⟨R,h1,h2,h3⟩:=h
  refine⟨R,h1,h2,fun r obs hr=>gD.2 ⟨(h3 r obs hr).1,?_⟩⟩
  rw[(h3 r obs hr).2.1]
  exact⟨(h3 r obs hr).2.2,trivial⟩
theorem sZ{all:List Oper}{o:Oper}(h:o.guard=none)(s:St):dL all o s=s:=by
 unfold dL cV;rw[h]
theorem fV.res{all:List Oper}{o:Oper}{s:St}(g:fV n A s a w):fV n A (dL all o s) a w:=by
 unfold dL
 split
 ·split
  ·rename_i b e;exact(g.test e).1
  ·exact g
 ·exact g
theorem vD(s:St)(dst:Option Nat):s.app dst so=Mw s dst:=by
 cases dst<;>rfl
theorem Gs{ops:Array Oper}(hT:cT P T)(hB:lV P A){o:Oper}{s:St}{Y:St->Prop}(g:fV n A s a w)(h:mv P (gE T cfg ops.toList o s) fun d=>dB (dL ops.toList o s) n o.dst d=true/\Y ((dL ops.toList o s).app o.dst d))
 {Kw:Act->World->Prop} {Qw:Exit->Act->World->Prop} (hK:∀s' a' w',fV n A s' a' w'->Y s'->Kw a' w'):if Region.wanted o (yielded ops a.tmps)then o.wp P a w Kw Qw else Kw (a.put o.dst undef) w:=by
 have skip:mv P (.d none so) (fun d=>dB (dL ops.toList o s) n o.dst d=true/\Y ((dL ops.toList o s).app o.dst d))->Kw (a.put o.dst undef) w:=by
  intro⟨_,h1,h2⟩
  rw[vD]at h2
  exact hK _ _ _ (g.res.skip (fN h1)) h2
 unfold gE at h
 cases hg:o.guard with
 |
  none =>
  rw[hg]at h
  rw[if_pos (by simp[Region.wanted,hg])]
  rw[sZ hg]at h
  exact yh hT hB g h hK
 |
  some gw =>
  obtain⟨gi,want⟩:=gw
  rw[hg]at h
  simp only at h
  split at h
  ·rename_i t hdst
   split at h
   ·rename_i b hb
    have hv:a.tmps.getD t undef=.bool b:=by
     cases hs:s.tm t with
     |v x=>rw[hs]at hb;simp only[nb,AV.v.injEq]at hb;rw[hb]at hs;exact g.bool hs
     |b q=>rw[hs]at hb;simp only[nb,AV.v.injEq,Value.bool.injEq]at hb;rw[hb]at hs;exact(g.test hs).2
     |_=>rw[hs]at hb;cases hb
    have hw:Region.wanted o (yielded ops a.tmps)=(b==want):=by
     have:=oU (ops:=ops) hdst hv
     simp[Region.wanted,hg,this]
    rw[hw]
    cases hq:(b==want)with
    |
     true =>
     rw[hq]at h
     rw[if_pos rfl]
     simp only[cond_true]at h
     rw[<-(fI (all:=ops.toList) o s).1]at h
     exact yh hT hB g.res h hK
    |
     false =>
     rw[hq]at h
     rw[if_neg (by simp)]
     exact skip h
   ·rename_i vs hb
    have hs:s.tm t=.v (.tuple vs):=by
     cases hs:s.tm t with
     |v x=>rw[hs]at hb;exact hb
     |b q=>rw[hs]at hb;cases hb
     |_=>rw[hs]at hb;cases hb
    have:=m8 (ops:=ops) hdst (g.cP hs)
    rw[if_neg (by simp[Region.wanted,hg,this])]
    exact skip h
   ·exact h.elim
  ·exact h.elim
def nn(o:Oper)(acc:List It):List Nat:=dh o++(acc.filter fun t=>fT (dh o) t.i).flatMap (·.uw)
def dG:List Oper->List It->List It
 |[],_=>[]
 |o::r,acc=>⟨acc.length,o,nn o acc⟩::dG r (acc++[⟨acc.length,o,nn o acc⟩])
def hZ(h:It×List Nat×List Nat):HE:=⟨h.1.i,h.1.o,h.2.1,h.2.2,h.1.uw⟩
theorem EX(o:Oper):∀(H:List (It×List Nat×List Nat)),hJ o (H.map hZ)=nn o (H.map (·.1)):=by
 intro H
 unfold hJ nn
 congr 1
 induction H with
 |nil=>rfl
 |
  cons h H ih =>
  simp only[a6,List.filter_cons]
  have e:fT (dh o) (hZ h).i=fT (dh o) h.1.i:=rfl
  rw[e]
  cases fT (dh o) h.1.i with
  |true=>simp only[if_true,aZ,ih];rfl
  |false=>simpa using ih
theorem vL{l:List Nat}{a:Nat}(h:fT l a=true):a∈l:=by
 obtain⟨x,hx,e⟩:=bT.1 h
 rw[aC e];exact hx
theorem CM{all:List Oper}{o:Oper}{rd wr:List Nat}{H:List (It×List Nat×List Nat)}{uw:List Nat}(h:jx all o rd wr (H.map hZ) uw=true):∀q,q∈H->q.1.i∈uw\/lL all q.1.o o q.2.1 q.2.2 rd wr:=by
 intro q hq
 have:=bH.1 h (hZ q) (bD.2 ⟨q,hq,rfl⟩)
 rw[bn]at this
 rcases this with h|h
 ·exact .inl (vL h)
 ·exact .inr (AD h)
theorem A6(ops:Array Oper){K:St->Tree}{Φ:Nat->List AV->List Ob->Prop}:∀(rest:List Oper) (H:List (It×List Nat×List Nat)) (s:St),eH P n (kF T cfg n true ops.toList rest (H.map hZ) s K) Φ ->
 Seq P T cfg n ops.toList (fun s=>eH P n (K s) Φ) (dG rest (H.map (·.1))) H s
 |[],H,s,h=>h
 |
  o::rest,H,s,h=>by
  have hlen:(H.map hZ).length=H.length:=by simp
  have cont:∀(rd wr:List Nat) (s':St),eH P n (bif !true||((dh o).all (fun j=>cv j (H.map hZ).length)&&jx ops.toList o rd wr (H.map hZ) (hJ o (H.map hZ)))then kF T cfg n true ops.toList rest (H.map hZ++[⟨(H.map hZ).length,o,rd,wr,hJ o (H.map hZ)⟩]) s' K else .fail) Φ ->
   (∀j,j∈dh o->j<H.length)/\(∀q,q∈H->q.1.i∈nn o (H.map (·.1))\/lL ops.toList q.1.o o q.2.1 q.2.2 rd wr) /\
   Seq P T cfg n ops.toList (fun s=>eH P n (K s) Φ) (dG rest (H.map (·.1)++[⟨H.length,o,nn o (H.map (·.1))⟩])) (H++[(⟨H.length,o,nn o (H.map (·.1))⟩,rd,wr)]) s':=by
   intro rd wr s' h
   cases hq:(!true||((dh o).all (fun j=>cv j (H.map hZ).length)&&jx ops.toList o rd wr (H.map hZ) (hJ o (H.map hZ))))with
   |false=>rw[hq]at h;exact h.elim
   |
    true =>
    rw[hq]at h
    simp only[Bool.not_true,Bool.false_or,au,bH]at hq
    rw[EX]at hq h
    refine⟨fun j hj=>by have:=aN (hq.1 j hj);rw[hlen]at this;exact this,CM hq.2,?_⟩
    have:=A6 ops rest (H++[(⟨H.length,o,nn o (H.map (·.1))⟩,rd,wr)]) s' (by
     rw[hlen]at h
     simpa[hZ]using h)
    simpa using this
  have hl1:(H.map (·.1)).length=H.length:=by simp
  have eit:dG (o::rest) (H.map (·.1))=⟨H.length,o,nn o (H.map (·.1))⟩::dG rest (H.map (·.1)++[⟨H.length,o,nn o (H.map (·.1))⟩]):=by rw[dG,hl1]
  rw[eit]
  have run:∀s1,s1=dL ops.toList o s->gE T cfg ops.toList o s=jX T cfg (ev s1) s1.ob o->eH P n (wg T cfg n o s1 fun rd wr s'=>bif !true||((dh o).all (fun j=>cv j (H.map hZ).length)&&jx ops.toList o rd wr (H.map hZ) (hJ o (H.map hZ)))then kF T cfg n true ops.toList rest (H.map hZ++[⟨(H.map hZ).length,o,rd,wr,hJ o (H.map hZ)⟩]) s' K else .fail) Φ ->
   Seq P T cfg n ops.toList (fun s=>eH P n (K s) Φ) (⟨H.length,o,nn o (H.map (·.1))⟩::dG rest (H.map (·.1)++[⟨H.length,o,nn o (H.map (·.1))⟩])) H s:=by
   intro s1 hs1 hgE h
   show mv P (gE T cfg ops.toList o s) _
   unfold wg at h
   simp only[hgE,<-hs1]
   cases hE:jX T cfg (ev s1) s1.ob o with
   |no=>rw[hE]at h;exact h
   |
    d p d =>
    rw[hE]at h
    cases hn:dB s1 n o.dst d with
    |false=>simp only[hn,cond_false]at h;exact h.elim
    |
     true =>
     simp only[hn,cond_true]at h
     cases p with
     |none=>obtain⟨c1,c2,c3⟩:=cont _ _ _ h;exact⟨fun q hq=>(by cases hq),hn,c1,c2,c3⟩
     |some q=>obtain⟨c1,c2,c3⟩:=cont _ _ _ h.2;exact⟨fun q' hq=>(by cases hq;exact h.1),hn,c1,c2,c3⟩
   |
    c f asq ins wr k =>
    rw[hE]at h
    obtain⟨R,h1,h2,h3⟩:=h
    refine⟨R,h1,h2,fun r obs hr=>?_⟩
    obtain⟨h4,h5⟩:=gD.1 (h3 r obs hr)
    cases hn:dB s1 n o.dst (k r obs).2 with
    |false=>simp only[hn,cond_false]at h5;exact h5.elim
    |
     true =>
     simp only[hn,cond_true]at h5
     obtain⟨c1,c2,c3⟩:=cont _ _ _ h5
     exact⟨h4,hn,c1,c2,c3⟩
  have skip:∀s1,s1=dL ops.toList o s->gE T cfg ops.toList o s=.d none so->eH P n (bif (match o.dst with|some t=>cv t n|none=>true)&&(!true||((dh o).all (fun j=>cv j (H.map hZ).length)&&jx ops.toList o [] [] (H.map hZ) (hJ o (H.map hZ))))then kF T cfg n true ops.toList rest (H.map hZ++[⟨(H.map hZ).length,o,[],[],hJ o (H.map hZ)⟩]) (match o.dst with|some t=>s1.set t (.v (.tuple #[]))|none=>s1) K else .fail) Φ ->
   Seq P T cfg n ops.toList (fun s=>eH P n (K s) Φ) (⟨H.length,o,nn o (H.map (·.1))⟩::dG rest (H.map (·.1)++[⟨H.length,o,nn o (H.map (·.1))⟩])) H s:=by
   intro s1 hs1 hgE h
   show mv P (gE T cfg ops.toList o s) _
   simp only[hgE,<-hs1]
   cases hd:(match o.dst with|some t=>cv t n|none=>true)with
   |false=>simp only[hd,Bool.false_and,cond_false]at h;exact h.elim
   |
    true =>
    simp only[hd,bZ]at h
    obtain⟨c1,c2,c3⟩:=cont [] [] _ h
    refine⟨fun q hq=>(by cases hq),il.2 ⟨fun o ho=>(by cases ho),rfl,hd⟩,c1,c2,?_⟩
    rw[vD]
    exact c3
  unfold kF at h
  simp only at h
  cases hg:o.guard with
  |
   none =>
   rw[hg]at h
   exact run s (sZ hg s).symm (by unfold gE;rw[hg]) h
  |
   some gw =>
   obtain⟨gi,want⟩:=gw
   rw[hg]at h
   simp only at h
   split at h
   ·rename_i t hdst
    have hgt:=pK hg hdst
    have hgEb:∀b,nb (s.tm t)=.v (.bool b)->gE T cfg ops.toList o s=bif b==want then jX T cfg (ev (dL ops.toList o s)) s.ob o else .d none so:=by
     intro b hb
     unfold gE
     rw[hg]
     simp only[hdst,hb]
    split at h
    ·rename_i e
     have hr:s=dL ops.toList o s:=by rw[oC hgt,e]
     have he:=hgEb true (by rw[e];rfl)
     rw[<-hr]at he
     cases want with
     |true=>exact run s hr he h
     |false=>exact skip s hr he h
    ·rename_i e
     have hr:s=dL ops.toList o s:=by rw[oC hgt,e]
     have he:=hgEb false (by rw[e];rfl)
     rw[<-hr]at he
     cases want with
     |true=>exact skip s hr he h
     |false=>exact run s hr he h
    ·rename_i vs e
     have hr:s=dL ops.toList o s:=by rw[oC hgt,e]
     refine skip s hr ?_ h
     unfold gE
     rw[hg]
     simp only[hdst,e,nb]
    ·rename_i b e
     have hr:s.set t (.v (.bool b))=dL ops.toList o s:=by rw[oC hgt,e]
     have he:=hgEb b (by rw[e];rfl)
     rw[<-(fI (all:=ops.toList) o s).1,<-hr]at he
     obtain⟨h1,h2⟩:=h
     cases b with
     |
      true =>
      cases want with
      |true=>exact run _ hr he (h1 rfl)
      |false=>exact skip _ hr he (h1 rfl)
     |
      false =>
      cases want with
      |true=>exact skip _ hr he (h2 rfl)
      |false=>exact run _ hr he (h2 rfl)
    ·exact h.elim
   ·exact h.elim
end
end Go.VL
namespace Go.VL
open Go Go.RowKit
section
variable {P:Program} {T:ep} {cfg:Nat->FC} {n:Nat} {A:jP}
theorem ss{o:Oper}{j:Nat}:j∈dh o↔∃e∈o.after,Region.binds .any e=true/\e.on=j:=by
 unfold dh
 rw[List.mem_filterMap]
 constructor
 ·rintro⟨e,he,h⟩
  refine⟨e,by simpa using he,?_⟩
  cases hg:e.ground<;>rw[hg]at h<;>simp only[Option.some.injEq,reduceCtorEq]at h<;>first|(cases h;done)|exact⟨by simp[Region.binds,hg],h⟩
 ·rintro⟨e,he,hb,rfl⟩
  refine⟨e,by simpa using he,?_⟩
  cases hg:e.ground<;>simp[Region.binds,hg]at hb |-
theorem tq:∀(l:List Oper) (acc:List It) (k:Nat) (o:Oper),l[k]?=some o->∃t,t∈dG l acc/\t.i=acc.length+k/\t.o=o
 |[],acc,k,o,h=>by simp at h
 |
  x::l,acc,0,o,h=>by
  simp only[List.getElem?_cons_zero,Option.some.injEq]at h
  exact⟨_,ag,rfl,h⟩
 |
  x::l,acc,k+1,o,h=>by
  obtain⟨t,h1,h2,h3⟩:=tq l (acc++[⟨acc.length,x,nn x acc⟩]) k o (by simpa using h)
  exact⟨t,ai _ h1,by rw[h2];simp;omega,h3⟩
theorem l4:∀(l:List Oper) (acc:List It) (t:It),t∈dG l acc->∃k,l[k]?=some t.o/\t.i=acc.length+k
 |[],acc,t,h=>by cases h
 |
  x::l,acc,t,h=>by
  rcases aI.1 h with rfl|h
  ·exact⟨0,rfl,rfl⟩
  ·obtain⟨k,h1,h2⟩:=l4 l _ t h
   exact⟨k+1,by simpa using h1,by rw[h2];simp;omega⟩
theorem nN:∀(l:List Oper) (acc:List It),(dG l acc).Pairwise fun x y=>x.i<y.i
 |[],acc=>List.Pairwise.nil
 |
  x::l,acc=>by
  refine List.Pairwise.cons (fun y hy=>?_) (nN l _)
  obtain⟨k,_,h2⟩:=l4 l _ y hy
  rw[h2];simp;omega
theorem sJ:∀(l:List Oper) (acc:List It) (t:It),t∈dG l acc->∀j,j∈t.uw->j∈dh t.o\/∃t',(t'∈acc\/t'∈dG l acc)/\t'.i∈dh t.o/\j∈t'.uw
 |[],acc,t,h=>by cases h
 |
  x::l,acc,t,h=>by
  intro j hj
  rcases aI.1 h with rfl|h
  ·rcases aH.1 hj with hj|hj
   ·exact .inl hj
   ·obtain⟨t',h1,h2⟩:=cu.1 hj
    obtain⟨h3,h4⟩:=List.mem_filter.1 h1
    exact .inr ⟨t',.inl h3,vL h4,h2⟩
  ·rcases sJ l _ t h j hj with h1|⟨t',h1,h2,h3⟩
   ·exact .inl h1
   ·refine .inr ⟨t',?_,h2,h3⟩
    rcases h1 with h1|h1
    ·rcases aH.1 h1 with h1|h1
     ·exact .inl h1
     ·exact .inr (by rw[aQ.1 h1];exact ag)
    ·exact .inr (ai _ h1)
theorem qd{listed:Array Bool}{i:Nat}(h:listed.getD i true=false):listed.getD i false=false:=by
 by_cases hi:i<listed.size
 ·simpa[hi]using h
 ·simp[show listed.size<=i by omega]at h
theorem FK(hT:cT P T)(hB:lV P A){ops:Array Oper}{Ψ:St->Prop}{Q:Exit->Act->World->Prop}(hK:∀s a w,fV n A s a w->Ψ s->Q .normal a w) :
 ∀(fuel:Nat) (listed:Array Bool) (L:List It) (s:St) (a:Act) (w:World),L.length<=fuel->listed.size=ops.size->(∀t,t∈L->t∈dG ops.toList []/\listed.getD t.i true=false)->(∀t,t∈dG ops.toList []->t∉L->listed.getD t.i false=true) ->
  L.Pairwise (fun x y=>x.i<y.i)->(∀t,t∈dG ops.toList []->listed.getD t.i false=true->∀j,j∈t.uw->listed.getD j false=true)->fV n A s a w->Seq P T cfg n ops.toList Ψ L [] s->wpAny P .any ops Q fuel listed a w:=by
 have item:∀j o,ops[j]?=some o->∃t,t∈dG ops.toList []/\t.i=j/\t.o=o:=fun j o h=>by
  obtain⟨t,h1,h2,h3⟩:=tq ops.toList [] j o (by simpa using h)
  exact⟨t,h1,by simpa using h2,h3⟩
 have opOf:∀t,t∈dG ops.toList []->ops[t.i]?=some t.o:=fun t ht=>by
  obtain⟨k,h1,h2⟩:=l4 ops.toList [] t ht
  rw[h2];simpa using h1
 have done:∀(listed:Array Bool) (L:List It) (s:St) (a:Act) (w:World),(∀t,t∈L->t∈dG ops.toList []/\listed.getD t.i true=false)->(∀t,t∈dG ops.toList []->t∉L->listed.getD t.i false=true) ->
  L.Pairwise (fun x y=>x.i<y.i)->fV n A s a w->Seq P T cfg n ops.toList Ψ L [] s->Region.ready .any ops listed=[]->Q .normal a w:=by
  intro listed L s a w h1 h2 h3 g h hr
  cases L with
  |nil=>exact hK s a w g h
  |
   cons t L =>
   exfalso
   obtain⟨ht,hu⟩:=h1 t ag
   have hb:=Seq.back [] (L2:=L) h (fun x hx=>by cases hx)
   have:t.i∈Region.ready .any ops listed:=by
    rw[mem_ready]
    refine⟨hu,t.o,opOf t ht,fun e he hbd=>?_⟩
    have hlt:=hb.2.1 e.on (ss.2 ⟨e,he,hbd,rfl⟩)
    have hsz:t.i<ops.size:=(Array.getElem?_eq_some_iff.1 (opOf t ht)).1
    obtain⟨t',q1,q2,_⟩:=item e.on ops[e.on] (Array.getElem?_eq_getElem (by omega))
    rw[<-q2]
    refine h2 t' q1 fun hh=>?_
    rcases aI.1 hh with rfl|hh
    ·omega
    ·have:=(List.pairwise_cons.1 h3).1 t' hh;omega
   rw[hr]at this;cases this
 intro fuel
 induction fuel with
 |
  zero =>
  intro listed L s a w hl hs h1 h2 h3 h4 g h
  have:L=[]:=List.length_eq_zero_iff.1 (by omega)
  subst this
  refine⟨?_,hK s a w g h⟩
  cases hr:Region.ready .any ops listed with
  |nil=>rfl
  |
   cons j js =>
   exfalso
   have hj:j∈Region.ready .any ops listed:=by rw[hr];exact ag
   obtain⟨hu,o,ho,_⟩:=mem_ready.1 hj
   obtain⟨t,q1,q2,_⟩:=item j o ho
   have:=h2 t q1 (by simp)
   rw[q2,qd hu]at this;cases this
 |
  succ fuel ih =>
  intro listed L s a w hl hs h1 h2 h3 h4 g h
  refine⟨done listed L s a w h1 h2 h3 g h,fun j hj=>?_⟩
  obtain⟨hu,o,ho,hall⟩:=mem_ready.1 hj
  obtain⟨t,q1,q2,q3⟩:=item j o ho
  subst q2;subst q3
  have htL:t∈L:=by
   by_cases hh:t∈L
   ·exact hh
   ·have:=h2 t q1 hh
    rw[qd hu]at this;cases this
  obtain⟨L1,L2,rfl⟩:=List.append_of_mem htL
  have hedge:∀j,j∈dh t.o->listed.getD j false=true:=fun j hj=>by
   obtain⟨e,he,hb,rfl⟩:=ss.1 hj
   exact hall e he hb
  have hanc:∀j,j∈t.uw->listed.getD j false=true:=fun j hj=>by
   rcases sJ ops.toList [] t q1 j hj with hh|⟨t',hh,r1,r2⟩
   ·exact hedge j hh
   ·rcases hh with hh|hh
    ·cases hh
    ·exact h4 t' hh (hedge _ r1) j r2
  have hpull:=Seq.pull L1 h fun x hx hx'=>by
   have:=hanc _ hx'
   rw[qd (h1 x (aA _ hx)).2]at this;cases this
  have hlt:t.i<listed.size:=by rw[hs];exact(Array.getElem?_eq_some_iff.1 (opOf t q1)).1
  obtain⟨p1,p2,p3⟩:=List.pairwise_append.1 h3
  have p2':=List.pairwise_cons.1 p2
  have hne:∀x,x∈L1++L2->x.i≠t.i:=fun x hx=>by
   rcases aH.1 hx with hx|hx
   ·have:=p3 x hx t ag;omega
   ·have:=p2'.1 x hx;omega
  have next:=Gs hT hB g hpull (Kw:=wpAny P .any ops Q fuel (listed.setIfInBounds t.i true)) (Qw:=Q) fun s' a' w' g' hY =>
   ih (listed.setIfInBounds t.i true) (L1++L2) s' a' w' (by simp at hl |-;omega) (by simpa using hs)
    (fun x hx=>by
     obtain⟨r1,r2⟩:=h1 x (by
      rcases aH.1 hx with hx|hx
      ·exact aA _ hx
      ·exact az _ (ai _ hx))
     exact⟨r1,by rw[getD_set_ne true (Ne.symm (hne x hx))];exact r2⟩)
    (fun x hx hn=>by
     by_cases e:x.i=t.i
     ·rw[e];simp[hlt]
     ·rw[getD_set_ne false (Ne.symm e)]
      refine h2 x hx fun hh=>?_
      rcases aH.1 hh with hh|hh
      ·exact hn (aA _ hh)
      ·rcases aI.1 hh with rfl|hh
       ·exact e rfl
       ·exact hn (az _ hh))
    (List.pairwise_append.2 ⟨p1,p2'.2,fun x hx y hy=>p3 x hx y (ai _ hy)⟩)
    (fun x hx hlx jj hja=>by
     by_cases e:x.i=t.i
     ·have:x=t:=by
       by_cases hxL:x∈L1++t::L2
       ·rcases aH.1 hxL with hh|hh
        ·exact absurd e (hne x (aA _ hh))
        ·rcases aI.1 hh with rfl|hh
         ·rfl
         ·exact absurd e (hne x (az _ hh))
       ·have:=h2 x hx hxL
        rw[e,qd hu]at this;cases this
      subst this
      exact getD_set_true (hanc jj hja)
     ·rw[getD_set_ne false (Ne.symm e)]at hlx
      exact getD_set_true (h4 x hx hlx jj hja)) g' hY
  unfold wpOp
  rw[opOf t q1]
  simp only
  by_cases hw:Region.wanted t.o (yielded ops a.tmps)=true
  ·rw[if_pos hw]at next |-;exact .inl next
  ·rw[if_neg hw]at next |-;exact next
theorem wt(hT:cT P T)(hm:P.follows .mixedOrders=true)(hB:lV P A)(Φ:Nat->List AV->List Ob->Prop):w9 P n A T cfg Φ:=by
 intro id ops draw K Q hK s a w g h
 cases draw with
 |false=>exact wp_region_list (wU hT hB hK ops.toList [] s a w g h)
 |
  true =>
  refine wp_region_any hm ?_
  have hs:=A6 (H:=[]) ops ops.toList s h
  obtain⟨M,β,g⟩:=g
  have g':fV n A s a {w with drawn:=w.drawn+1}:=⟨M,β,{g with agree:=⟨g.agree.c,g.agree.p⟩,own:=fun o x hx=>(g.own o x hx).mono (Mem.le.refl _) (Lo.le.refl _) fun b hl hb=>⟨rfl,(g.own o x hx).Aj hl hb⟩,cB:=g.cB.jG rfl rfl rfl (aq _) fun _ _ _=>rfl}⟩
  refine FK hT hB (Ψ:=fun s=>eH P n (K s) Φ) hK ops.size _ _ s a _ ?_ (by simp) (fun t ht=>⟨ht,?_⟩) (fun t ht hn=>absurd ht hn) (nN _ _) (fun t ht hl=>?_) g' hs
  ·have:∀(l:List Oper) (acc:List It),(dG l acc).length=l.length:=fun l=>by
    induction l with
    |nil=>intro acc;rfl
    |cons x l ih=>intro acc;simp[dG,ih]
   rw[this];simp
  ·obtain⟨k,h1,h2⟩:=l4 ops.toList [] t ht
   have:t.i<ops.size:=by
    rw[h2]
    have:=(cq.1 h1).1
    simpa using this
   simp[this]
  ·exfalso
   obtain⟨k,h1,h2⟩:=l4 ops.toList [] t ht
   by_cases hi:t.i<ops.size
   ·simp[hi]at hl
   ·simp[show ops.size<=t.i by omega]at hl
end
end Go.VL
namespace Go.VL
open Go Go.RowKit
theorem vr{P:Program}:∀{l:List (Nat×TI)},(l.all fun p=>!p.2.kn||p.2.D9 P p.1)=true->cT P (yp l)
 |[],_,t,h=>by cases h
 |
  (j,m)::r,hl,t,h=>by
  simp only[cO,au,bn,bR]at hl
  unfold yp at h |-
  cases e:aF j t with
  |
   true =>
   simp only[e,cond_true]at h |-
   have:=aC e
   subst this
   rcases hl.1 with h1|h1
   ·rw[h1]at h;cases h
   ·exact Ga h1
  |
   false =>
   simp only[e,cond_false]at h |-
   exact vr hl.2 t h
section
variable {P:Program} {T:ep} {cfg:Nat->FC} {lis:List (Nat×LI)}
theorem aB.of(hT:cT P T)(hm:P.follows .mixedOrders=true){fc:FC}{f:Nat}{F:Func}{asq:List AV}{ins:List Ob}{R:AV->List Ob->Prop}(hf:P.funcs[f]?=some F)(hnm:(F.name=="runtime.NumGoroutine")=false)
 (h:eH P F.ntmps (main T cfg lis fc F asq ins) fun _ xs obs=>R (xs.headD .any) obs):aB P f asq ins R :=
 CF hT hf hnm (fun A hB=>wt hT hm hB _) h
theorem cW.of(hT:cT P T)(hm:P.follows .mixedOrders=true){n:Nat}{c:Code}{li:LI}{xs:List AV}{obs:List Ob}{R:Nat->List AV->List Ob->Prop}
 (h:eH P n (round T cfg n lis c li xs obs) fun tag ys o=>(tag=0->cW P n c li ys o R)/\(tag=1->R 1 ys o)/\(tag=2->R 2 ys o)):cW P n c li xs obs R :=
 cW.step (fun A hB=>wt hT hm hB _) h
theorem aB.LF(hT:cT P T)(hm:P.follows .mixedOrders=true){fc:FC}{f:Nat}{F:Func}{asq:List AV}{ins:List Ob}{R:AV->List Ob->Prop}{t:Tree}(hf:P.funcs[f]?=some F)(hnm:(F.name=="runtime.NumGoroutine")=false)(e:main T cfg lis fc F asq ins=t)
 (h:eH P F.ntmps t fun _ xs obs=>R (xs.headD .any) obs):aB P f asq ins R:=aB.of hT hm hf hnm (by rw[e];exact h)
theorem cW.LF(hT:cT P T)(hm:P.follows .mixedOrders=true){n:Nat}{c:Code}{li:LI}{xs:List AV}{obs:List Ob}{R:Nat->List AV->List Ob->Prop}{t:Tree}(e:round T cfg n lis c li xs obs=t)
 (h:eH P n t fun tag ys o=>(tag=0->cW P n c li ys o R)/\(tag=1->R 1 ys o)/\(tag=2->R 2 ys o)):cW P n c li xs obs R:=cW.of hT hm (by rw[e];exact h)
theorem aB.mono{f:Nat}{asq:List AV}{ins:List Ob}{R R':AV->List Ob->Prop}(h:aB P f asq ins R)(hr:∀r obs,R r obs->R' r obs):aB P f asq ins R' :=
 ⟨h.1,fun w M β vs hB hin=>Calls.mono (h.2 w M β vs hB hin) fun e w' ⟨v,r,obs,M',β',he,hR,ho⟩=>⟨v,r,obs,M',β',he,hr r obs hR,ho⟩⟩
end
end Go.VL
namespace Go.VL
open Go Go.RowKit
def Ai(sel:Nat->Bool)(ids:Nat->Nat)(ob:Nat->Option Ob):Nat->AV->Option (AV×List Nat)
 |0,_=>none
 |
  n+1,a=>match a with
  |
   .ref o 0=>match ob o with
   |some (.cells (c::cs))=>(mF (Ai sel ids ob n) (c::cs)).map fun r=>(bif sel o then .pid (ids o) r.1 else .ptr r.1,o::r.2)
   |_=>none
  | .x a=>some (a,[])
  | .agg cs=>(mF (Ai sel ids ob n) cs).map fun r=>(.agg r.1,r.2)
  | .v x=>some (.v x,[])
  |_=>none
theorem zZ{M:Mem}{β:Lo}{w:World}{sel:Nat->Bool}{ids:Nat->Nat}{ob:Nat->Option Ob}(hid:∀o c cs b,ob o=some (.cells (c::cs))->β o=some (.cells b)->ids o=b) :
 ∀(k:Nat) (c a':AV) (os:List Nat) (v:Value),Ai sel ids ob k c=some (a',os)->Fz M β w ob os/\(∀o,o∈os->∀c cs b,ob o=some (.cells (c::cs))->β o=some (.cells b)->M.p b)->bo M β c v->bo M dk a' v
 |0,c,a',os,v,h,_,_=>by simp[Ai]at h
 |
  k+1,c,a',os,v,h,⟨hz,hp⟩,hr=>by
  have ih:∀cs asq os,mF (Ai sel ids ob k) cs=some (asq,os)->Fz M β w ob os->(∀o,o∈os->∀c cs b,ob o=some (.cells (c::cs))->β o=some (.cells b)->M.p b)->asq.length=cs.length/\∀i v,i<cs.length->bo M β (cs.getD i .any) v->bo M dk (asq.getD i .any) v:=by
   intro cs
   induction cs with
   |
    nil =>
    intro asq os h _ _
    simp[mF]at h
    obtain⟨rfl,rfl⟩:=h
    exact⟨rfl,fun i v hi=>by simp at hi⟩
   |
    cons c cs ihc =>
    intro asq os h hz hp
    unfold mF at h
    split at h
    ·rename_i a1 os1 as2 os2 h1 h2
     cases h
     obtain⟨q1,q2⟩:=ihc _ _ h2 hz.right (fun o ho=>hp o (az _ ho))
     refine⟨by simp[q1],fun i v hi hr=>?_⟩
     cases i with
     |zero=>simpa using zZ hid k _ _ _ _ h1 ⟨hz.left,fun o ho=>hp o (aA _ ho)⟩ (by simpa using hr)
     |succ i=>simpa using q2 i v (by simpa using hi) (by simpa using hr)
    ·cases h
  unfold Ai at h
  split at h
  ·rename_i o
   split at h
   ·rename_i c0 cs0 ho
    cases e:mF (Ai sel ids ob k) (c0::cs0)with
    |none=>rw[e]at h;cases h
    |
     some r =>
     rw[e]at h;cases h
     obtain⟨asq,os'⟩:=r
     obtain⟨b,us,h1,h2⟩:=hz o ag _ (by rw[ho];rfl)
     obtain⟨q1,q2⟩:=ih _ _ _ e (fun o' ho'=>hz o' (ai _ ho')) (fun o' ho'=>hp o' (ai _ ho'))
     cases hr with
     |
      ref _ _ _ b' hb =>
      rw[h1]at hb;cases hb
      simp only
      cases sel o with
      |
       true =>
       rw[hid o _ _ b ho h1]
       exact .pid _ _ _ us (hp o ag _ _ b ho h1) (fun i hi=>(h2 i (by omega)).1) fun i hi=>q2 i _ (by omega) (h2 i (by omega)).2
      |false=>exact .ptr _ _ _ _ us (fun i hi=>by simpa using(h2 i (by omega)).1) fun i hi=>q2 i _ (by omega) (h2 i (by omega)).2
   ·cases h
  ·cases h;cases hr with|x _ _ _ ho h=>exact h
  ·rename_i cs
   cases e:mF (Ai sel ids ob k) cs with
   |none=>rw[e]at h;cases h
   |
    some r =>
    rw[e]at h;cases h
    obtain⟨q1,q2⟩:=ih cs _ _ (by rw[e]) hz hp
    cases hr with
    |
     agg _ _ vs hl ho h =>
     exact .agg _ _ _ (q1.trans hl) (fun i hi=>ho i (by omega)) fun i hi=>q2 i _ (by omega) (h i (by omega))
  ·cases h;cases hr;exact .v _ _
  ·cases h
theorem D3{M:Mem}{β:Lo}{w:World}{sel:Nat->Bool}{ids:Nat->Nat}{ob:Nat->Option Ob}(hid:∀o c cs b,ob o=some (.cells (c::cs))->β o=some (.cells b)->ids o=b)(k:Nat) :
 ∀(cs asq:List AV) (os:List Nat),mF (Ai sel ids ob k) cs=some (asq,os)->Fz M β w ob os->(∀o,o∈os->∀c cs b,ob o=some (.cells (c::cs))->β o=some (.cells b)->M.p b)->asq.length=cs.length/\∀i v,i<cs.length->bo M β (cs.getD i .any) v->bo M dk (asq.getD i .any) v
 |
  [],asq,os,h,_,_=>by
  simp[mF]at h
  obtain⟨rfl,rfl⟩:=h
  exact⟨rfl,fun i v hi=>by simp at hi⟩
 |
  c::cs,asq,os,h,hz,hp=>by
  unfold mF at h
  split at h
  ·rename_i a1 os1 as2 os2 h1 h2
   cases h
   obtain⟨q1,q2⟩:=D3 hid k cs _ _ h2 hz.right (fun o ho=>hp o (az _ ho))
   refine⟨by simp[q1],fun i v hi hr=>?_⟩
   cases i with
   |zero=>simpa using zZ hid k _ _ _ _ h1 ⟨hz.left,fun o ho=>hp o (aA _ ho)⟩ (by simpa using hr)
   |succ i=>simpa using q2 i v (by simpa using hi) (by simpa using hr)
  ·cases h
def xb(T:ep)(F:Func)(S:Nat->Prop)(sel:Nat->Bool)(R:AV->Prop)(s:St):Prop :=
 ∀ids:Nat->Nat,(∀o,¬S (ids o))->match mG T s F.results.toList with
  |
   some (p,as')=>(match mF (Ai sel ids s.ob eh) as' with
   |some (xs,_)=>gu p/\R (match xs with|[]=>.any|[x]=>x|xs=>.cP xs)
   |none=>False)
  |none=>False
theorem xb.get{T:ep}{F:Func}{S:Nat->Prop}{sel:Nat->Bool}{R:AV->Prop}{s:St}(h:xb T F S sel R s)(ids:Nat->Nat)(hi:∀o,¬S (ids o)) :
 ∃p as' xs fz,mG T s F.results.toList=some (p,as')/\gu p/\mF (Ai sel ids s.ob eh) as'=some (xs,fz)/\R (match xs with|[]=>.any|[x]=>x|xs=>.cP xs):=by
 have:=h ids hi
 split at this
 ·split at this
  ·rename_i h1 _ _ _ h2
   exact⟨_,_,_,_,h1,this.1,h2,this.2⟩
  ·exact this.elim
 ·exact this.elim
def AP(T:ep)(cfg:Nat->FC)(F:Func)(c:Code)(asq:List AV)(S:Nat->Prop)(sel:Nat->Bool)(R:AV->Prop):Tree :=
 go T cfg F.ntmps [] [] c (enter asq []) fun e s=>match e with| .exit _=>.fail|_=>.al (xb T F S sel R s) (.done 0 [] [])
theorem aB.OQ{P:Program}{T:ep}{cfg:Nat->FC}(hT:cT P T)(hm:P.follows .mixedOrders=true){f:Nat}{F:Func}{asq:List AV}{S:Nat->Prop}{sel:Nat->Bool}{R:AV->Prop}(hf:P.funcs[f]?=some F)(hnm:(F.name=="runtime.NumGoroutine")=false){c:Code}(hb:F.body=some c)(hle:fv asq.length F.ntmps=true)
 (hS:∀(M:Mem) (β:Lo) (vs:List Value),(∀i,i<asq.length->bo M β (asq.getD i .any) (vs.getD i undef))->∀b,S b->M.p b)
 (h:eH P F.ntmps (AP T cfg F c asq S sel R) fun _ _ _=>True):aB P f asq [] (fun r o=>R r/\o=[]):=by
 unfold AP at h
 have hle:=aN hle
 refine⟨⟨F,hf,by simp[hb],hnm⟩,fun w M β vs hB hin=>?_⟩
 let A:jP:=⟨w,M,fun b=>∃i,i<0/\dN β i=some b,fun o=>none⟩
 have hβ:∀o,β o=none:=fun o=>hin.none o (cG _)
 have hob:∀o,(enter asq []).ob o=none:=fun o=>rfl
 have g0:cZ F.ntmps A (enter asq []) {tmps:=vs.toArray++Array.replicate (F.ntmps-vs.toArray.size) undef,defers:=[]} w M β:=by
  refine {size:=by simp[hin.len];omega,defs:=rfl,tm:=fun t=>?_,le:=Mem.le.refl _,new:=fun b k v h=>.inl h,agree:=hin.agree,own:=fun o x h=>?_,place:=fun o x b h _ hb=>?_,apart:=fun o o' x x' b hne h hl h' hl' hb=>?_,us:=fun o hu=>⟨hβ o,hob o⟩,fix:=fun o b hb=>(by cases hb),cB:=⟨rfl,rfl,rfl,aq _,fun _ _ _=>rfl⟩}
  ·show bo M β (setArgs asq 0 (fun _=>.any) t) _
   rw[mE]
   by_cases ht:t<asq.length
   ·rw[if_pos (by omega),Nat.sub_zero]
    have e:(vs.toArray++Array.replicate (F.ntmps-vs.toArray.size) undef).getD t undef=vs.getD t undef:=by
     have:t<vs.length:=by rw[hin.len];exact ht
     simp[Array.getElem?_append,this,aa]
    rw[e];exact hin.rep t ht
   ·rw[if_neg (by omega)];exact .any _ _
  ·rw[hob o]at h;cases h
  ·rw[hob o]at h;cases h
  ·rw[hob o]at h;cases h
 have hS':∀b,S b->b<w.heap.size:=fun b hb=>by
  obtain⟨k,v,hc⟩:=M.pc b (hS M β vs hin.rep b hb)
  exact hin.agree.lt hc
 have hBA:lV P A:=lV.of hB fun b k v hc ⟨i,hi,hbi⟩=>by omega
 refine calls_of_wp hf hb (BG (A:=A) hBA (wt hT hm hBA _) [] (fx:=[]) (fun o b hb=>by cases hb) c _ _ _ ?_ _ w ⟨M,β,g0⟩ h)
 intro ex s a w' ⟨M',β',g⟩ h'
 have fin:xb T F S sel R s->a.defers=[]/\∃v,(results F a.tmps).run P w'=.ok v w'/\∃v' r obs M'' β'',Ending.returned v=.returned v'/\(R r/\obs=[])/\Out w M β 0 r obs v' w' M'' β'':=by
  intro hl
  let ids:Nat->Nat:=fun o=>match s.ob o,β' o with|some (.cells _),some (.cells b)=>b|_,_=>w.heap.size
  have hids:∀o,¬S (ids o):=fun o hSo=>by
   have hlt:=hS' _ hSo
   simp only[ids]at hlt
   split at hlt
   ·rename_i cs b e1 e2
    rcases g.place o _ b e1 rfl (by simp[dN,e2,Loc.block])with h|⟨i,hi,_⟩
    ·exact absurd h (by show ¬w.heap.size<=b;omega)
    ·omega
   ·omega
  obtain⟨p,as',xs,fz,hres,hp,hfz,hR⟩:=hl.get ids hids
  obtain⟨rs,h1,h2,h3⟩:=oq hT g F.results.toList hres hp
  obtain⟨M1,hM,g1,hpp⟩:=g.w8 fz
  obtain⟨q1,q2⟩:=D3 (M:=M1) (β:=β') (w:=w') (ids:=ids) (fun o c cs b e1 e2=>by simp only[ids,e1,e2]) eh as' xs fz hfz g1.fz (fun o ho c cs b e1 e2=>hpp o ho _ b e1 (by simp) e2)
  have hrep:∀i,i<xs.length->bo M1 dk (xs.getD i .any) (rs.getD i undef):=fun i hi=>q2 i _ (by omega) ((h3 i (by omega)).mono hM (Lo.le.refl _))
  have hrun:(results F a.tmps).run P w'=.ok (if h:rs.toArray.size=1 then rs.toArray[0]else .tuple rs.toArray) w':=by
   rw[rF,Sem.run_bind,Array.mapM_eq_mapM_toList]
   simp only[Sem.run_map,h1]
   rfl
  refine⟨g.defs,_,hrun,_,_,[],M1,dk,rfl,⟨hR,rfl⟩,?_⟩
  have hxl:xs.length=rs.length:=by omega
  refine⟨g1.le,g1.agree,?_,fun j hj=>(by simp at hj),fun j b hj hb=>(by omega),fun j l sz es hj=>(by omega),fun i j b hne hi=>(by simp at hi),fun j b hj=>(by simp at hj),fun b k v hc=>g1.new b k v hc,⟨g1.cB.os,g1.cB.tape,g1.cB.output,g1.cB.size,g1.cB.block⟩⟩
  match xs,rs,hxl,hrep with
  |[],[],_,_=>exact .any _ _
  |[x],[r],_,hrep=>simpa using hrep 0 (by simp)
  |x::y::xs,r::q::rs,hl,hrep=>exact .cP _ _ _ (by simpa using hl) hrep
 cases ex with
 |normal=>exact fin h'.1
 |ret=>exact fin h'.1
 |exit i=>exact h'.elim
end Go.VL
namespace Go.VL
open Go Go.RowKit
section
variable {P:Program} {n:Nat} {Q:Nat->List AV->List Ob->Prop}
abbrev bU(v:AV):AV->List Ob->Prop:=fun r o=>r=v/\o=[]
abbrev kl(t:Nat)(ys:List AV)(o:List Ob):Nat->List AV->List Ob->Prop:=fun t' ys' o'=>t'=t/\ys'=ys/\o'=o
theorem aU{f:Nat}{asq:List AV}{ins:List Ob}{k:AV->List Ob->Tree}{R:AV->List Ob->Prop}(h:aB P f asq ins R)(hne:∃r o,R r o)(hk:∀r o,R r o->eH P n (k r o) Q):eH P n (.call f asq ins k) Q:=⟨R,h,hne,hk⟩
theorem an{f:Nat}{asq:List AV}{k:AV->List Ob->Tree}{v:AV}(h:aB P f asq [] (bU v))(hk:eH P n (k v []) Q):eH P n (.call f asq [] k) Q :=
 ⟨bU v,h,⟨v,[],rfl,rfl⟩,fun r o ⟨h1,h2⟩=>by rw[h1,h2];exact hk⟩
theorem n0{c:Code}{li:LI}{xs:List AV}{obs:List Ob}{kx kr:List AV->List Ob->Tree}{R:Nat->List AV->List Ob->Prop}(h:cW P n c li xs obs R)(h1:∀ys o,R 1 ys o->eH P n (kx ys o) Q)(h2:∀ys o,R 2 ys o->eH P n (kr ys o) Q):eH P n (.loop c li xs obs kx kr) Q:=⟨R,h,h1,h2⟩
theorem db{c:Code}{li:LI}{xs:List AV}{obs:List Ob}{kx kr:List AV->List Ob->Tree}{ys:List AV}{o:List Ob}(h:cW P n c li xs obs (kl 1 ys o))(h1:eH P n (kx ys o) Q):eH P n (.loop c li xs obs kx kr) Q :=
 ⟨_,h,fun ys' o' ⟨_,e1,e2⟩=>by rw[e1,e2];exact h1,fun ys' o' ⟨e,_⟩=>by cases e⟩
end
abbrev se(x:Nat×List AV×List Ob):Nat->List AV->List Ob->Prop:=fun t ys o=>(t,ys,o)=x
theorem i4{P:Program}{n:Nat}{Q:Nat->List AV->List Ob->Prop}{c:Code}{li:LI}{xs:List AV}{obs:List Ob}{kx kr:List AV->List Ob->Tree}{x:Nat×List AV×List Ob}(h:cW P n c li xs obs (se x))(h1:∀ys o,x=(1,ys,o)->eH P n (kx ys o) Q)(h2:∀ys o,x=(2,ys,o)->eH P n (kr ys o) Q):eH P n (.loop c li xs obs kx kr) Q :=
 ⟨_,h,fun ys o e=>h1 ys o e.symm,fun ys o e=>h2 ys o e.symm⟩
def D7(L:List AV->List Ob->Prop)(R:Nat->List AV->List Ob->Prop):Nat->List AV->List Ob->Prop:=fun tag ys o=>(tag=0->L ys o)/\(tag=1->R 1 ys o)/\(tag=2->R 2 ys o)
theorem KS{L:List AV->List Ob->Prop}{R:Nat->List AV->List Ob->Prop}{ys:List AV}{o:List Ob}:D7 L R 0 ys o=L ys o:=by simp[D7]
theorem step1{L:List AV->List Ob->Prop}{R:Nat->List AV->List Ob->Prop}{ys:List AV}{o:List Ob}:D7 L R 1 ys o=R 1 ys o:=by simp[D7]
theorem step2{L:List AV->List Ob->Prop}{R:Nat->List AV->List Ob->Prop}{ys:List AV}{o:List Ob}:D7 L R 2 ys o=R 2 ys o:=by simp[D7]
section
variable {P:Program} {n:Nat} {Q:Nat->List AV->List Ob->Prop}
theorem EO{b:Bool}{y t:Tree}:eH P n (.test b y t) Q=((b=true->eH P n y Q)/\(b=false->eH P n t Q)):=rfl
theorem B9{p:Prop}[Decidable p]{y t:Tree}:eH P n (.test (decide p) y t) Q=((p->eH P n y Q)/\(¬p->eH P n t Q)):=by
 show ((decide p=true->_)/\(decide p=false->_))=_
 rw[decide_eq_true_eq,decide_eq_false_iff_not]
theorem Dg{b:Bool}{y t:Tree}:eH P n (.test (!b) y t) Q=((b=false->eH P n y Q)/\(b=true->eH P n t Q)):=by
 show (((!b)=true->_)/\((!b)=false->_))=_
 rw[bR,Bool.not_eq_false']
theorem C6{α:Type}[BEq α]{a b:α}{y t:Tree}:eH P n (.test (a==b) y t) Q=(((a==b)=true->eH P n y Q)/\((a==b)=false->eH P n t Q)):=rfl
theorem AW{α:Type}[BEq α]{a b:α}{y t:Tree}:eH P n (.test (a != b) y t) Q=(((a != b)=true->eH P n y Q)/\((a != b)=false->eH P n t Q)):=rfl
theorem Di{a:AV}{y t:Tree}:eH P n (.test a.toBool y t) Q=((a.toBool=true->eH P n y Q)/\(a.toBool=false->eH P n t Q)):=rfl
theorem DM{a:AV}{y t:Tree}:eH P n (.test a.isNil y t) Q=((a.isNil=true->eH P n y Q)/\(a.isNil=false->eH P n t Q)):=rfl
theorem GP{p:Prop}{t:Tree}:eH P n (.al p t) Q=(p/\eH P n t Q):=rfl
theorem Gb{tag:Nat}{xs:List AV}{o:List Ob}:eH P n (.done tag xs o) Q=Q tag xs o:=rfl
end
def mk(l:List UInt8):ByteArray:=⟨l.toArray⟩
theorem ug(k:IntKind)(n:Int):LK.has (.int k) (.v (.int k n))=True:=eq_true ⟨n,rfl⟩
theorem BB(b:Bool):LK.has .bool (.v (.bool b))=True:=eq_true ⟨b,rfl⟩
theorem dU(s:ByteArray):LK.has .str (.v (.string s))=True:=eq_true ⟨s,rfl⟩
theorem cE(es:List (List AV)):LK.has .sl (.sl es)=True:=eq_true (.inr ⟨es,rfl⟩)
theorem bp:LK.has .sl (.v (.slice none 0 0))=True:=eq_true (.inl rfl)
theorem gY(cs:List AV):LK.has .ptr (.ptr cs)=True:=eq_true (.inr (.inl ⟨cs,rfl⟩))
theorem j3:LK.has .ptr (.v (.pointer none))=True:=eq_true (.inl rfl)
theorem yf(k:IntKind)(n:Int):(AV.v (.int k n)).toInt=n:=rfl
theorem tP(b:ByteArray):(AV.v (.string b)).toStr=b:=rfl
theorem Au(b:Bool):(AV.v (.bool b)).toBool=b:=rfl
theorem Bg(cs:List AV)(i:Nat):(AV.cP cs).comp i=cs.getD i .any:=rfl
theorem fE(es:List (List AV)):(AV.sl es).elems=es:=rfl
theorem yM:(AV.v (.slice none 0 0)).elems=[]:=rfl
theorem jt(cs:List AV):(AV.ptr cs).deref=cs:=rfl
theorem pg(cs:List AV):(AV.ptr cs).isNil=false:=rfl
theorem iE:(AV.v (.pointer none)).isNil=true:=rfl
theorem AJ(cs:List AV):(AV.agg cs).cs=cs:=rfl
theorem zM(cs:List AV):(Ob.cells cs).cs=cs:=rfl
theorem Bp(z:Nat)(es:List (List AV)):(Ob.vec z es).es=es:=rfl
theorem wrap64(n:Int)(h:-9223372036854775808<=n)(h':n<9223372036854775808):IntKind.wrap .i64 n=n:=by
 simp[IntKind.wrap,IntKind.signed,IntKind.bits];omega
def Up(a' a:AV):Prop:=∀M β v,bo M β a' v->bo M β a v
theorem aD(a:AV):Up a a:=fun _ _ _ h=>h
theorem cd{a:AV}(h:LK.sl.has a):Up a (.x a):=fun M β v hr=>.x _ _ _ (AO hr h) (km hr h)
theorem cK{a:AV}(h:LK.ptr.has a):Up a (.x a):=fun M β v hr=>.x _ _ _ (xS hr h) (km hr h)
def wB:List AV->List AV->Prop
 |[],[]=>True
 |a::asq,b::bs=>Up a b/\wB asq bs
 |_,_=>False
theorem aJ:wB [] []:=trivial
theorem aj{a b:AV}{asq bs:List AV}(h:Up a b)(hs:wB asq bs):wB (a::asq) (b::bs):=⟨h,hs⟩
theorem wB.get:∀{asq bs:List AV},wB asq bs->asq.length=bs.length/\∀i,i<bs.length->Up (asq.getD i .any) (bs.getD i .any)
 |[],[],_=>⟨rfl,fun i hi=>by cases hi⟩
 |
  a::asq,b::bs,h=>by
  obtain⟨h1,h2⟩:=wB.get h.2
  refine⟨by simp[h1],fun i hi=>?_⟩
  cases i with
  |zero=>simpa using h.1
  |succ i=>simpa using h2 i (by simpa using hi)
 |[],_::_,h=>h.elim
 |_::_,[],h=>h.elim
theorem cD{asq bs:List AV}(h:wB asq bs):Up (.agg asq) (.agg bs):=fun M β v hr=>by
 obtain⟨vs,rfl,hl,hr,ho⟩:=fJ hr
 obtain⟨h1,h2⟩:=h.get
 exact .agg _ _ _ (by omega) (fun i hi=>ho i (by omega)) fun i hi=>h2 i hi M β _ (hr i (by omega))
theorem aB.up{P:Program}{f:Nat}{asq bs:List AV}{ins:List Ob}{R:AV->List Ob->Prop}(h:wB asq bs)(hf:aB P f bs ins R):aB P f asq ins R :=
 ⟨hf.1,fun w M β vs hB hin=>hf.2 w M β vs hB {hin with len:=by rw[hin.len,h.get.1],rep:=fun i hi=>h.get.2 i hi _ _ _ (hin.rep i (by rw[h.get.1];exact hi))}⟩
def BV:Ob->Ob->Prop
 | .cells asq,.cells bs=>wB asq bs
 |x,y=>x=y
theorem kQ(x:Ob):BV x x:=by
 cases x with
 |
  cells cs=>induction cs with
  |nil=>exact aJ
  |cons c cs ih=>exact aj (aD c) ih
 |_=>rfl
theorem cN{asq bs:List AV}(h:wB asq bs):BV (.cells asq) (.cells bs):=h
def vH:List Ob->List Ob->Prop
 |[],[]=>True
 |a::asq,b::bs=>BV a b/\vH asq bs
 |_,_=>False
theorem dC:vH [] []:=trivial
theorem cf{a b:Ob}{asq bs:List Ob}(h:BV a b)(hs:vH asq bs):vH (a::asq) (b::bs):=⟨h,hs⟩
theorem BV.eq{x y:Ob}(h:BV x y):x=y\/∃asq bs,x=.cells asq/\y=.cells bs/\wB asq bs:=by
 cases x with
 |
  cells asq =>
  cases y with
  |cells bs=>exact .inr ⟨asq,bs,rfl,rfl,h⟩
  |_=>cases h
 |_=>exact .inl h
theorem BV.live{x y:Ob}(h:BV x y):x.live=y.live:=by
 rcases h.eq with rfl|⟨asq,bs,rfl,rfl,_⟩<;>rfl
theorem BV.own{x y:Ob}(h:BV x y){M:Mem}{β:Lo}{w:World}{o:Nat}(hx:Own M β w o x):Own M β w o y:=by
 rcases h.eq with rfl|⟨asq,bs,rfl,rfl,hl⟩
 ·exact hx
 ·obtain⟨h1,h2⟩:=wB.get hl
  obtain⟨b,vs,e,q1,q2,q3,q4,q5⟩:=hx
  exact⟨b,vs,e,q1,q2,by omega,fun i hi=>h2 i hi _ _ _ (q4 i (by omega)),q5⟩
theorem vH.get:∀{asq bs:List Ob},vH asq bs->asq.length=bs.length/\∀i,i<bs.length->BV (asq.getD i .dead) (bs.getD i .dead)
 |[],[],_=>⟨rfl,fun i hi=>by cases hi⟩
 |
  a::asq,b::bs,h=>by
  obtain⟨h1,h2⟩:=vH.get h.2
  refine⟨by simp[h1],fun i hi=>?_⟩
  cases i with
  |zero=>simpa using h.1
  |succ i=>simpa using h2 i (by simpa using hi)
 |[],_::_,h=>h.elim
 |_::_,[],h=>h.elim
theorem aB.uf{P:Program}{f:Nat}{asq:List AV}{ins ins':List Ob}{R:AV->List Ob->Prop}(h:vH ins ins')(hf:aB P f asq ins' R):aB P f asq ins R:=by
 obtain⟨hl,hg⟩:=h.get
 refine⟨hf.1,fun w M β vs hB hin=>?_⟩
 rw[hl]
 exact hf.2 w M β vs hB {hin with own:=fun j hj=>(hg j hj).own (hin.own j (by omega)),none:=fun j hj=>hin.none j (by omega),apart:=fun i j b hne hi hj hli hlj hb=>hin.apart i j b hne (by omega) (by omega) (by rw[(hg i hi).live];exact hli) (by rw[(hg j hj).live];exact hlj) hb}
end Go.VL
