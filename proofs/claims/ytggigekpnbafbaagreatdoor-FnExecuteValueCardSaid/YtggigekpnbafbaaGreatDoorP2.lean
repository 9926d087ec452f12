/-
  Part of a proof: Go functions read by values, trees of functions, their contracts.
-/
import Derived.Test.YtggigekpnbafbaaGreatDoorP1
set_option linter.unusedVariables false
set_option linter.unusedSimpArgs false
open Bool renaming and_eq_true→az,not_eq_true'→cc,or_eq_true→bD,true_and→cn
open List renaming all_cons→cT,all_eq_true→bM,any_eq_true→cf,drop_zero→bG,eq_nil_of_length_eq_zero→bV,getD_cons_zero→bp,getD_eq_getElem?_getD→aa,getElem?_append→a7,getElem?_drop→cO,getElem?_eq_getElem→bg,getElem_mem→bN,length_append→aq,length_cons→au,length_drop→cm,length_map→cg,length_nil→aG,map_cons→bz,mem_append→aK,mem_append_left→aC,mem_append_right→aB,mem_cons→aH,mem_cons_of_mem→al,mem_cons_self→ai,mem_map→bJ,mem_singleton→aS,nil_append→aT,range→bf
open Nat renaming add_zero→bX,beq→aJ,blt→cA,eq_of_beq_eq_true→aE,le_of_ble_eq_true→aQ,le_refl→aw,zero_add→aZ,zero_le→dN
open Option renaming bind_some→ba,map_some→cu
namespace Go.VL
open Go Go.RowKit
section
variable {P:Program} {M:Mem} {β:Lo} {w w':World} {n:Nat} {A:jz} {s:St} {a:Act}
theorem jD{ob:Nat->Option Ob}:∀(ks:List CK) {cs asq:List AV} {obs:List Ob} {os:List Nat} {j:Nat},bY ob ks cs j=some (asq,obs,os)->os.length=obs.length/\(∀x,x∈obs->∃z es,x=.vec z es)/\∀q,q<obs.length->os.getD q 0<eQ->∃x,ob (os.getD q 0)=some x
 |
  [],cs,asq,obs,os,j,h=>by
  cases cs with
  |nil=>simp only[bY,Option.some.injEq,Prod.mk.injEq]at h;obtain⟨rfl,rfl,rfl⟩:=h;exact⟨rfl,fun x hx=>(by cases hx),fun q hq=>(by simp at hq)⟩
  |cons c cs=>simp[bY]at h
 |
  .lk k::ks,cs,asq,obs,os,j,h=>by
  cases cs with
  |nil=>simp[bY]at h
  |
   cons c cs =>
   simp only[bY]at h
   split at h
   ·rename_i h1 h2;cases h;exact jD ks h2
   ·cases h
 |
  .vec hsz::ks,cs,asq,obs,os,j,h=>by
  have add:∀(z:Nat) (es:List (List AV)) (o:Nat) (obs1:List Ob) (os1:List Nat),(o<eQ->∃x,ob o=some x)->(os1.length=obs1.length/\(∀x,x∈obs1->∃z es,x=.vec z es)/\∀q,q<obs1.length->os1.getD q 0<eQ->∃x,ob (os1.getD q 0)=some x)->((o::os1).length=(Ob.vec z es::obs1).length/\(∀x,x∈Ob.vec z es::obs1->∃z es,x=.vec z es)/\∀q,q<(Ob.vec z es::obs1).length->(o::os1).getD q 0<eQ->∃x,ob ((o::os1).getD q 0)=some x):=fun z es o obs1 os1 ho hh =>
   ⟨by simp[hh.1],fun x hx=>(by
    rcases aH.1 hx with rfl|hx
    ·exact⟨z,es,rfl⟩
    ·exact hh.2.1 x hx),fun q hq hlt=>(by
    cases q with
    |zero=>simpa using ho (by simpa using hlt)
    |succ q=>simpa using hh.2.2 q (by simpa using hq) (by simpa using hlt))⟩
  cases cs with
  |nil=>simp[bY]at h
  |
   cons c cs =>
   cases c<;>first|(simp[bY]at h;done)|skip
   ·rename_i x
    cases x<;>first|(simp[bY]at h;done)|skip
    rename_i ad ln cp
    cases ad<;>first|(simp[bY]at h;done)|skip
    cases ln<;>first|(simp[bY]at h;done)|skip
    cases cp<;>first|(simp[bY]at h;done)|skip
    simp only[bY]at h
    split at h
    ·rename_i h2;cases h;exact add _ _ _ _ _ (fun hlt=>by omega) (jD ks h2)
    ·cases h
   ·simp only[bY]at h
    split at h
    ·rename_i h1 h2;cases h;exact add _ _ _ _ _ (fun _=>⟨_,h1⟩) (jD ks h2)
    ·cases h
def Nm(ob:Nat->Option Ob)(os:List Nat)(obs:List Ob):Prop:=os.length=obs.length/\∀q,q<obs.length->(obs.getD q .dead).live=true/\(∀cs,obs.getD q .dead=.cells cs->∃cs',ob (os.getD q 0)=some (.cells cs'))/\(os.getD q 0<eQ->∃x,ob (os.getD q 0)=some x)
theorem Nm.app{ob:Nat->Option Ob}{os os':List Nat}{obs obs':List Ob}(h:Nm ob os obs)(h':Nm ob os' obs'):Nm ob (os++os') (obs++obs'):=by
 refine⟨by simp[h.1,h'.1],fun q hq=>?_⟩
 by_cases hlt:q<obs.length
 ·have e1:(obs++obs').getD q .dead=obs.getD q .dead:=by simp[aa,a7,hlt]
  have e2:(os++os').getD q 0=os.getD q 0:=by simp[aa,a7,h.1,hlt]
  rw[e1,e2];exact h.2 q hlt
 ·have e1:(obs++obs').getD q .dead=obs'.getD (q-obs.length) .dead:=by simp[aa,a7,hlt]
  have e2:(os++os').getD q 0=os'.getD (q-obs.length) 0:=by simp[aa,a7,h.1,hlt]
  rw[e1,e2];exact h'.2 _ (by simp at hq;omega)
theorem Nm.nil{ob:Nat->Option Ob}:Nm ob [] []:=⟨rfl,fun q hq=>by simp at hq⟩
theorem rr{ks:List CK}{cs asq:List AV}{obs:List Ob}{os:List Nat}{j:Nat}{ob:Nat->Option Ob}(h:bY ob ks cs j=some (asq,obs,os)):Nm ob os obs:=by
 obtain⟨h1,h2,h3⟩:=jD ks h
 refine⟨h1,fun q hq=>?_⟩
 have hm:obs.getD q .dead∈obs:=by simp[aa,hq]
 obtain⟨z,es,e⟩:=h2 _ hm
 rw[e];exact⟨rfl,fun cs h=>(by cases h),h3 q hq⟩
theorem nN{ob:Nat->Option Ob}{ks:List CK}{cs asq:List AV}{obs:List Ob}{os:List Nat}{j:Nat}(h:oJ ob ks cs j=some (asq,obs,os)) :
 bY ob ks cs j=some (asq,obs,os)/\∃es o,obs=[.vec (lf ks) es]/\os=[o]:=by
 unfold oJ at h
 split at h
 ·rename_i as' sz es o h1
  split at h
  ·cases hb:aJ sz (lf ks)with
   |false=>rw[hb]at h;cases h
   |
    true =>
    have:=aE hb
    rw[hb]at h;cases h
    exact⟨h1,es,o,by rw[this],rfl⟩
  ·cases h
 ·cases h
theorem oP{ob:Nat->Option Ob}{m:MK}{c c':AV}{obs:List Ob}{os:List Nat}{j:Nat}(h:nR ob m c j=some (c',obs,os)):Nm ob os obs:=by
 unfold nR at h
 split at h
 ·rename_i o
  split at h
  ·rename_i sz es ho
   cases h
   refine⟨rfl,fun q hq=>?_⟩
   have:q=0:=by simp at hq;exact hq
   subst this
   exact⟨rfl,fun cs h=>(by simp at h),fun _=>⟨_,ho⟩⟩
  ·cases h
 ·rename_i ks o
  split at h
  ·rename_i sz es ho
   cases hb:aJ sz (lf ks)with
   |false=>rw[hb]at h;cases h
   |
    true =>
    rw[hb]at h;cases h
    refine⟨rfl,fun q hq=>?_⟩
    have:q=0:=by simp at hq;exact hq
    subst this
    exact⟨rfl,fun cs h=>(by simp at h),fun _=>⟨_,ho⟩⟩
  ·cases h
 ·split at h
  ·rename_i h1
   cases h
   exact rr (nN h1).1
  ·cases h
 ·rename_i ks o
  split at h
  ·rename_i cs ho
   split at h
   ·rename_i asq obs1 os1 h1
    cases h
    have one:Nm ob [o] [Ob.cells asq]:=⟨rfl,fun q hq=>by
     have:q=0:=by simp at hq;exact hq
     subst this
     exact⟨rfl,fun cs' _=>⟨cs,ho⟩,fun _=>⟨_,ho⟩⟩⟩
    exact one.app (rr h1)
   ·cases h
  ·cases h
 ·split at h
  ·rename_i h1
   cases h
   exact rr (nN h1).1
  ·cases h
 ·cases h
theorem oL{ob:Nat->Option Ob}:∀(ms:List (Option MK)) {cs asq:List AV} {obs:List Ob} {os:List Nat} {j:Nat},fp ob ms cs j=some (asq,obs,os)->Nm ob os obs
 |
  [],cs,asq,obs,os,j,h=>by
  cases cs with
  |nil=>simp only[fp,Option.some.injEq,Prod.mk.injEq]at h;obtain⟨rfl,rfl,rfl⟩:=h;exact .nil
  |cons c cs=>simp[fp]at h
 |
  none::ms,cs,asq,obs,os,j,h=>by
  cases cs with
  |nil=>simp[fp]at h
  |
   cons c cs =>
   simp only[fp]at h
   split at h
   ·rename_i h1 h2;cases h;exact oL ms h2
   ·cases h
 |
  some m::ms,cs,asq,obs,os,j,h=>by
  cases cs with
  |nil=>simp[fp]at h
  |
   cons c cs =>
   simp only[fp]at h
   split at h
   ·rename_i h1
    split at h
    ·rename_i h2;cases h;exact(oP h1).app (oL ms h2)
    ·cases h
   ·cases h
theorem rW{ob:Nat->Option Ob}{m:PK}{c c':AV}{obs:List Ob}{os:List Nat}{j:Nat}(h:m9 ob m c j=some (c',obs,os)):Nm ob os obs:=by
 unfold m9 at h
 split at h
 ·exact oP h
 ·split at h
  ·rename_i h1;cases h;exact oL _ h1
  ·cases h
 ·split at h
  ·rename_i h1 _
   revert h
   cases aJ _ _<;>intro h
   ·cases h
   ·cases h;exact oL _ h1
  ·cases h
 ·cases h
theorem oi{ob:Nat->Option Ob}(mu:List (Nat×PK)):∀(asq:List AV) {i j:Nat} {as':List AV} {ins:List Ob} {os fz:List Nat},il ob mu asq i j=some (as',ins,os,fz)->Nm ob os ins
 |
  [],i,j,as',ins,os,fz,h=>by
  simp only[il,Option.some.injEq,Prod.mk.injEq]at h
  obtain⟨rfl,rfl,rfl,rfl⟩:=h
  exact .nil
 |
  c::asq,i,j,as',ins,os,fz,h=>by
  simp only[il]at h
  split at h
  ·split at h
   ·rename_i h1 h2;cases h;exact oi mu asq h2
   ·cases h
  ·split at h
   ·rename_i h1
    split at h
    ·rename_i h2;cases h;exact(rW h1).app (oi mu asq h2)
    ·cases h
   ·cases h
  ·split at h
   ·rename_i h1 h2;cases h;exact oi mu asq h2
   ·cases h
def Al(β βc:Lo)(os:List Nat)(obs:List Ob)(j:Nat):Prop:=∀q l,q<obs.length->((∃b,l=.cells b)\/os.getD q 0<eQ)->βc (j+q)=some l->β (os.getD q 0)=some l
theorem rF{M:Mem}{β:Lo}{w:World}{o:Nat}{x:Ob}(h:Own M β w o x)(hl:x.live=true):∃l,β o=some l:=by
 cases x<;>first|(cases hl;done)|skip
 ·obtain⟨b,_,_,h,_⟩:=h;exact⟨_,h⟩
 ·obtain⟨v,h,_⟩:=h;exact⟨_,h⟩
 ·obtain⟨v,h,_⟩:=h;exact⟨_,h⟩
theorem Al.app{β β3 β4:Lo}{os os':List Nat}{obs obs':List Ob}{j:Nat}(h:Al β β3 os obs j)(hle:Lo.le β3 β4)(hs:∀q,q<obs.length->∃l,β3 (j+q)=some l)(h':Al β β4 os' obs' (j+obs.length))(hl:os.length=obs.length):Al β β4 (os++os') (obs++obs') j:=fun q b hq hk hb=>by
 by_cases hlt:q<obs.length
 ·have e2:(os++os').getD q 0=os.getD q 0:=by simp[aa,a7,hl,hlt]
  rw[e2]at hk |-
  obtain⟨l,e⟩:=hs q hlt
  have:=hle _ _ e
  rw[hb]at this;cases this
  exact h q _ hlt hk e
 ·have e2:(os++os').getD q 0=os'.getD (q-obs.length) 0:=by simp[aa,a7,hl,hlt]
  rw[e2]at hk |-
  refine h' _ b (by simp at hq;omega) hk ?_
  rw[show j+obs.length+(q-obs.length)=j+q by omega];exact hb
theorem Al.none{β βc:Lo}{j:Nat}:Al β βc [] [] j:=fun q b hq=>by simp at hq
theorem jV(g:di n A s a w M β){ob0:Nat->Option Ob}:∀(ks:List CK) {cs asq:List AV} {obs:List Ob} {os:List Nat} {j:Nat},bY ob0 ks cs j=some (asq,obs,os)->(∀o x,o∈os->ob0 o=some x->s.ob o=some x) ->
 ∀{U:List Nat} {f:Nat->Option Ob} {βc:Lo},fV s w M β U f βc->(∀m,j<=m->f m=none)->nodup os=true->(∀o,o∈os->o∉U) ->
 ∃βc' U' f',fV s w M β U' f' βc'/\Lo.le βc βc'/\(∀o,o∈U'->o∈os\/o∈U)/\(∀m,j+obs.length<=m->f' m=none)/\(∀m,m<j->f' m=f m)/\(∀q,q<obs.length->f' (j+q)=some (obs.getD q .dead))/\asq.length=cs.length /\
  (∀q v,q<cs.length->bx M β (cs.getD q .any) v->bx M βc' (asq.getD q .any) v)/\Al β βc' os obs j
 |
  [],cs,asq,obs,os,j,h,h0,U,f,βc,hB,hnm,hnd,hU=>by
  cases cs with
  |
   nil =>
   simp only[bY,Option.some.injEq,Prod.mk.injEq]at h
   obtain⟨rfl,rfl,rfl⟩:=h
   exact⟨βc,U,f,hB,Lo.le.refl _,fun o ho=>.inr ho,fun m hm=>hnm m (by simpa using hm),fun m _=>rfl,fun q hq=>(by simp at hq),rfl,fun q v hq=>(by simp at hq),.none⟩
  |cons c cs=>simp[bY]at h
 |
  .lk k::ks,cs,asq,obs,os,j,h,h0,U,f,βc,hB,hnm,hnd,hU=>by
  cases cs with
  |nil=>simp[bY]at h
  |
   cons c cs =>
   simp only[bY]at h
   split at h
   ·rename_i a1 as1 obs1 os1 h1 h2
    cases h
    obtain⟨β3,U',f',b1,b2,b3,b4,b5,b6,b7,b8,b9⟩:=jV g ks h2 h0 hB hnm hnd hU
    refine⟨β3,U',f',b1,b2,b3,b4,b5,b6,by simp[b7],fun q v hq hr=>?_,b9⟩
    cases q with
    |zero=>simpa using(wG h1 (by simpa using hr)).up
    |succ q=>simpa using b8 q v (by simpa using hq) (by simpa using hr)
   ·cases h
 |
  .vec hsz::ks,cs,asq,obs,os,j,h,h0,U,f,βc,hB,hnm,hnd,hU=>by
  cases cs with
  |nil=>simp[bY]at h
  |
   cons c cs =>
   have cont:∀(sz:Nat) (es:List (List AV)) (o:Nat) (as1:List AV) (obs1:List Ob) (os1:List Nat),bY ob0 ks cs (j+1)=some (as1,obs1,os1)->asq=.vec j::as1->obs=.vec sz es::obs1->os=o::os1->(∃β3,fV s w M β (o::U) (cx f j (some (.vec sz es))) β3/\Lo.le βc β3/\(∀v,bx M β c v->bx M β3 (.vec j) v)/\∀l,((∃b,l=.cells b)\/o<eQ)->β3 j=some l->β o=some l) ->
    ∃βc' U' f',fV s w M β U' f' βc'/\Lo.le βc βc'/\(∀o,o∈U'->o∈os\/o∈U)/\(∀m,j+obs.length<=m->f' m=none)/\(∀m,m<j->f' m=f m)/\(∀q,q<obs.length->f' (j+q)=some (obs.getD q .dead))/\asq.length=(c::cs).length /\
     (∀q v,q<(c::cs).length->bx M β ((c::cs).getD q .any) v->bx M βc' (asq.getD q .any) v)/\Al β βc' os obs j:=by
    intro sz es o as1 obs1 os1 h2 ea eo eos ⟨β3,c1,c2,c3,c4⟩
    subst ea;subst eo;subst eos
    obtain⟨n1,n2⟩:=nodup_cons hnd
    obtain⟨β4,U',f',b1,b2,b3,b4,b5,b6,b7,b8,b9⟩:=jV g ks h2 (fun o x ho=>h0 o x (al _ ho)) c1 (fun m hm=>by rw[a6 _ _ _ _ (by omega)];exact hnm m (by omega)) n2 (fun q hq hh=>by
     rcases aH.1 hh with rfl|hh
     ·exact n1 hq
     ·exact hU q (al _ hq) hh)
    refine⟨β4,U',f',b1,fun o l hl=>b2 o l (c2 o l hl),fun q hq=>?_,fun m hm=>b4 m (by simp at hm;omega),fun m hm=>?_,fun q hq=>?_,by simp[b7],fun q v hq hr=>?_,fun q l hq hk hb=>?_⟩
    ·rcases b3 q hq with h|h
     ·exact .inl (al _ h)
     ·rcases aH.1 h with rfl|h
      ·exact .inl ai
      ·exact .inr h
    ·rw[b5 m (by omega),a6 _ _ _ _ (by omega)]
    ·cases q with
     |zero=>rw[bX,b5 j (by omega),aN];rfl
     |
      succ q =>
      have:=b6 q (by simpa using hq)
      rw[show j+(q+1)=j+1+q by omega,this];rfl
    ·cases q with
     |zero=>simpa using(c3 v (by simpa using hr)).mono (Mem.le.refl _) b2
     |succ q=>simpa using b8 q v (by simpa using hq) (by simpa using hr)
    ·cases q with
     |
      zero =>
      obtain⟨l',e⟩:=rF (c1.own j _ (aN _ _ _)) rfl
      have:=b2 _ _ e
      rw[bX]at hb
      rw[hb]at this;cases this
      exact c4 l (by simpa using hk) e
     |succ q=>simpa using b9 q l (by simpa using hq) (by simpa using hk) (by rw[show j+1+q=j+(q+1) by omega];exact hb)
   cases c<;>first|(simp[bY]at h;done)|skip
   ·rename_i x
    cases x<;>first|(simp[bY]at h;done)|skip
    rename_i ad ln cp
    cases ad<;>first|(simp[bY]at h;done)|skip
    cases ln<;>first|(simp[bY]at h;done)|skip
    cases cp<;>first|(simp[bY]at h;done)|skip
    simp only[bY]at h
    split at h
    ·rename_i as1 obs1 os1 h2
     cases h
     obtain⟨β3,c1,c2,c3⟩:=fV.ud g hB (m:=j) (o:=eQ+j) (sz:=hsz) (hnm j (aw _)) (hU _ ai)
     exact cont hsz [] _ as1 obs1 os1 h2 rfl rfl rfl ⟨β3,c1,c2,fun v hv=>(by rw[dE hv];exact c3),fun l hk hb=>(by
      obtain⟨u,hu,_⟩:=c1.own j _ (aN _ _ _)
      rw[hu]at hb;cases hb
      rcases hk with⟨b,hk⟩|hk
      ·cases hk
      ·omega)⟩
    ·cases h
   ·rename_i o
    simp only[bY]at h
    split at h
    ·rename_i sz es as1 obs1 os1 h1 h2
     cases h
     obtain⟨β3,c1,c2,c3,c4⟩:=fV.vec g hB (m:=j) (hnm j (aw _)) (hU _ ai) (h0 _ _ ai h1)
     exact cont sz es o as1 obs1 os1 h2 rfl rfl rfl ⟨β3,c1,c2,c3,fun l _ hb=>by rw[<-c4];exact hb⟩
    ·cases h
end
end Go.VL
namespace Go.VL
open Go Go.RowKit
section
variable {P:Program} {M:Mem} {β:Lo} {w w':World} {n:Nat} {A:jz} {s:St} {a:Act}
theorem vf(g:di n A s a w M β){ob0:Nat->Option Ob}{m:MK}{c c':AV}{obs:List Ob}{os:List Nat}{j:Nat}(h:nR ob0 m c j=some (c',obs,os))(h0:∀o x,o∈os->ob0 o=some x->s.ob o=some x){U:List Nat}{f:Nat->Option Ob}{βc:Lo}
 (hB:fV s w M β U f βc) (hnm:∀m,j<=m->f m=none) (hnd:nodup os=true) (hU:∀o,o∈os->o∉U) :
 ∃βc' U' f',fV s w M β U' f' βc'/\Lo.le βc βc'/\(∀o,o∈U'->o∈os\/o∈U)/\(∀m,j+obs.length<=m->f' m=none)/\(∀m,m<j->f' m=f m)/\(∀q,q<obs.length->f' (j+q)=some (obs.getD q .dead)) /\
  (∀v,bx M β c v->bx M βc' c' v)/\Al β βc' os obs j:=by
 unfold nR at h
 split at h
 ·rename_i o
  split at h
  ·rename_i sz es ho
   cases h
   obtain⟨β3,c1,c2,c3,c4⟩:=fV.vec g hB (m:=j) (hnm j (aw _)) (hU o ai) (h0 _ _ ai ho)
   refine⟨β3,_,_,c1,c2,fun q hq=>?_,fun m hm=>?_,fun m hm=>?_,fun q hq=>?_,c3,fun q b hq _ hb=>?_⟩
   ·rcases aH.1 hq with rfl|hq
    ·exact .inl ai
    ·exact .inr hq
   ·rw[a6 _ _ _ _ (by simp at hm;omega)];exact hnm m (by simp at hm;omega)
   ·rw[a6 _ _ _ _ (by omega)]
   ·have:q=0:=by simp at hq;exact hq
    subst this;rw[bX,aN];rfl
   ·have:q=0:=by simp at hq;exact hq
    subst this
    rw[bX,c4]at hb;exact hb
  ·cases h
 ·rename_i ks o
  split at h
  ·rename_i sz es ho
   cases hbq:aJ sz (lf ks)with
   |false=>rw[hbq]at h;cases h
   |true =>
   rw[hbq]at h
   cases h
   obtain⟨β3,c1,c2,c3,c4⟩:=fV.vec g hB (m:=j) (hnm j (aw _)) (hU o ai) (h0 _ _ ai ho)
   refine⟨β3,_,_,c1,c2,fun q hq=>?_,fun m hm=>?_,fun m hm=>?_,fun q hq=>?_,c3,fun q b hq _ hb=>?_⟩
   ·rcases aH.1 hq with rfl|hq
    ·exact .inl ai
    ·exact .inr hq
   ·rw[a6 _ _ _ _ (by simp at hm;omega)];exact hnm m (by simp at hm;omega)
   ·rw[a6 _ _ _ _ (by omega)]
   ·have:q=0:=by simp at hq;exact hq
    subst this;rw[bX,aN];rfl
   ·have:q=0:=by simp at hq;exact hq
    subst this
    rw[bX,c4]at hb;exact hb
  ·cases h
 ·split at h
  ·rename_i as1 obs1 os1 h1
   cases h
   obtain⟨β3,U',f',b1,b2,b3,b4,b5,b6,b7,b8,b9⟩:=jV g _ (nN h1).1 h0 hB hnm hnd hU
   refine⟨β3,U',f',b1,b2,b3,b4,b5,b6,fun v hv=>?_,b9⟩
   obtain⟨vs,ev,hl,hr,ho⟩:=fM hv
   rw[ev]
   exact .agg _ _ _ (by omega) (fun i hi=>ho i (by omega)) fun i hi=>b8 i _ (by omega) (hr i (by omega))
  ·cases h
 ·rename_i ks o
  split at h
  ·rename_i cs ho
   split at h
   ·rename_i asq obs1 os1 h1
    cases h
    obtain⟨n1,n2⟩:=nodup_cons hnd
    obtain⟨β3,U',f',b1,b2,b3,b4,b5,b6,b7,b8,b9⟩:=jV g ks h1 (fun o x hh=>h0 o x (al _ hh)) hB (fun m hm=>hnm m (by omega)) n2 (fun q hq=>hU q (al _ hq))
    have ho:=h0 _ _ ai ho
    obtain⟨b,vs,e,q1,q2,q3,q4,q5,q6⟩:=g.own o _ ho
    have hfj:f' j=none:=by rw[b5 j (by omega)];exact hnm j (aw _)
    have hB2:=b1.add g hfj (l:=.cells b) (x:=.cells asq)
     ⟨b,vs,e,aN _ _ _,q2,by rw[q3,b7],fun i hi=>(b8 i _ (by omega) (q4 i (by omega))).mono (Mem.le.refl _) (b1.le hfj _),q5,q6⟩ o
     (fun hh=>by
      rcases b3 o hh with h|h
      ·exact n1 h
      ·exact hU o ai h)
     (fun b' hb'=>by
      simp only[Loc.block,Option.some.injEq]at hb'
      subst hb'
      exact⟨_,ho,rfl,by simp[dZ,q1,Loc.block]⟩)
    refine⟨_,_,_,hB2,fun o l hl=>b1.le hfj _ o l (b2 o l hl),fun q hq=>?_,fun m hm=>?_,fun m hm=>?_,fun q hq=>?_,fun v hv=>?_,fun q b' hq hk hb=>?_⟩
    ·rcases aH.1 hq with rfl|hq
     ·exact .inl ai
     ·rcases b3 q hq with h|h
      ·exact .inl (al _ h)
      ·exact .inr h
    ·simp at hm
     rw[a6 _ _ _ _ (by omega)];exact b4 m (by omega)
    ·rw[a6 _ _ _ _ (by omega)];exact b5 m (by omega)
    ·cases q with
     |zero=>rw[bX,aN];rfl
     |
      succ q =>
      rw[a6 _ _ _ _ (by omega),show j+(q+1)=j+1+q by omega,b6 q (by simpa using hq)];rfl
    ·obtain⟨b',r1,r2⟩:=kT hv
     rw[q1]at r1;cases r1
     rw[r2]
     exact .ref _ _ _ _ (aN _ _ _)
    ·cases q with
     |zero=>rw[bX,aN]at hb;cases hb;exact q1
     |
      succ q =>
      rw[a6 _ _ _ _ (by omega),show j+(q+1)=j+1+q by omega]at hb
      simpa using b9 q b' (by simpa using hq) (by simpa using hk) hb
   ·cases h
  ·cases h
 ·split at h
  ·rename_i as1 obs1 os1 h1
   cases h
   obtain⟨β3,U',f',b1,b2,b3,b4,b5,b6,b7,b8,b9⟩:=jV g _ (nN h1).1 h0 hB hnm hnd hU
   refine⟨β3,U',f',b1,b2,b3,b4,b5,b6,fun v hv=>?_,b9⟩
   obtain⟨vs,ev,hl,hr,ho⟩:=fM hv
   rw[ev]
   exact .agg _ _ _ (by omega) (fun i hi=>ho i (by omega)) fun i hi=>b8 i _ (by omega) (hr i (by omega))
  ·cases h
 ·cases h
theorem nX(g:di n A s a w M β){ob0:Nat->Option Ob}:∀(ms:List (Option MK)) {cs asq:List AV} {obs:List Ob} {os:List Nat} {j:Nat},fp ob0 ms cs j=some (asq,obs,os)->(∀o x,o∈os->ob0 o=some x->s.ob o=some x) ->
 ∀{U:List Nat} {f:Nat->Option Ob} {βc:Lo},fV s w M β U f βc->(∀m,j<=m->f m=none)->nodup os=true->(∀o,o∈os->o∉U) ->
 ∃βc' U' f',fV s w M β U' f' βc'/\Lo.le βc βc'/\(∀o,o∈U'->o∈os\/o∈U)/\(∀m,j+obs.length<=m->f' m=none)/\(∀m,m<j->f' m=f m)/\(∀q,q<obs.length->f' (j+q)=some (obs.getD q .dead))/\asq.length=cs.length /\
  (∀q v,q<cs.length->bx M β (cs.getD q .any) v->bx M βc' (asq.getD q .any) v)/\Al β βc' os obs j
 |
  [],cs,asq,obs,os,j,h,h0,U,f,βc,hB,hnm,hnd,hU=>by
  cases cs with
  |
   nil =>
   simp only[fp,Option.some.injEq,Prod.mk.injEq]at h
   obtain⟨rfl,rfl,rfl⟩:=h
   exact⟨βc,U,f,hB,Lo.le.refl _,fun o ho=>.inr ho,fun m hm=>hnm m (by simpa using hm),fun m _=>rfl,fun q hq=>(by simp at hq),rfl,fun q v hq=>(by simp at hq),.none⟩
  |cons c cs=>simp[fp]at h
 |
  none::ms,cs,asq,obs,os,j,h,h0,U,f,βc,hB,hnm,hnd,hU=>by
  cases cs with
  |nil=>simp[fp]at h
  |
   cons c cs =>
   simp only[fp]at h
   split at h
   ·rename_i a1 as1 obs1 os1 h1 h2
    cases h
    obtain⟨β3,U',f',b1,b2,b3,b4,b5,b6,b7,b8,b9⟩:=nX g ms h2 h0 hB hnm hnd hU
    refine⟨β3,U',f',b1,b2,b3,b4,b5,b6,by simp[b7],fun q v hq hr=>?_,b9⟩
    cases q with
    |zero=>simpa using(wG h1 (by simpa using hr)).up
    |succ q=>simpa using b8 q v (by simpa using hq) (by simpa using hr)
   ·cases h
 |
  some m::ms,cs,asq,obs,os,j,h,h0,U,f,βc,hB,hnm,hnd,hU=>by
  cases cs with
  |nil=>simp[fp]at h
  |
   cons c cs =>
   simp only[fp]at h
   split at h
   ·rename_i c' obs1 os1 h1
    split at h
    ·rename_i as1 obs2 os2 h2
     cases h
     obtain⟨n1,n2,n3⟩:=eF hnd
     obtain⟨β3,U1,f1,b1,b2,b3,b4,b5,b6,b7,b9⟩:=vf g h1 (fun o x ho=>h0 o x (aC _ ho)) hB hnm n1 fun o ho=>hU o (aC _ ho)
     obtain⟨β4,U2,f2,d1,d2,d3,d4,d5,d6,d7,d8,d9⟩:=nX g ms h2 (fun o x ho=>h0 o x (aB _ ho)) b1 b4 n2 fun o ho hh=>by
      rcases b3 o hh with h|h
      ·exact n3 o h ho
      ·exact hU o (aB _ ho) h
     refine⟨β4,U2,f2,d1,fun o l hl=>d2 o l (b2 o l hl),fun o ho=>?_,fun m hm=>d4 m (by simp at hm;omega),fun m hm=>(d5 m (by omega)).trans (b5 m hm),fun q hq=>?_,by simp[d7],fun q v hq hr=>?_,b9.app d2 (fun q hq=>rF (b1.own _ _ (b6 q hq)) ((oP h1).2 q hq).1) d9 (oP h1).1⟩
     ·rcases d3 o ho with h|h
      ·exact .inl (aB _ h)
      ·rcases b3 o h with h|h
       ·exact .inl (aC _ h)
       ·exact .inr h
     ·by_cases hlt:q<obs1.length
      ·rw[d5 _ (by omega),b6 q hlt]
       simp[aa,a7,hlt]
      ·have:=d6 (q-obs1.length) (by simp at hq;omega)
       rw[show j+obs1.length+(q-obs1.length)=j+q by omega]at this
       rw[this]
       simp[aa,a7,hlt]
     ·cases q with
      |zero=>simpa using(b7 v (by simpa using hr)).mono (Mem.le.refl _) d2
      |succ q=>simpa using d8 q v (by simpa using hq) (by simpa using hr)
    ·cases h
   ·cases h
theorem Ad(gg:di n A s a w M β){ob0:Nat->Option Ob}{m:PK}{c c':AV}{obs:List Ob}{os:List Nat}{j:Nat}(h:m9 ob0 m c j=some (c',obs,os))(h0:∀o x,o∈os->ob0 o=some x->s.ob o=some x){U:List Nat}{f:Nat->Option Ob}{βc:Lo}
 (hB:fV s w M β U f βc) (hnm:∀m,j<=m->f m=none) (hnd:nodup os=true) (hU:∀o,o∈os->o∉U) :
 ∃βc' U' f',fV s w M β U' f' βc'/\Lo.le βc βc'/\(∀o,o∈U'->o∈os\/o∈U)/\(∀m,j+obs.length<=m->f' m=none)/\(∀m,m<j->f' m=f m)/\(∀q,q<obs.length->f' (j+q)=some (obs.getD q .dead)) /\
  (∀v,bx M β c v->bx M βc' c' v)/\Al β βc' os obs j:=by
 unfold m9 at h
 split at h
 ·exact vf gg h h0 hB hnm hnd hU
 ·rename_i ms fn cap
  split at h
  ·rename_i asq obs' os' h1
   cases h
   obtain⟨β3,U',f',b1,b2,b3,b4,b5,b6,b7,b8,b9⟩:=nX gg ms h1 h0 hB hnm hnd hU
   refine⟨β3,U',f',b1,b2,b3,b4,b5,b6,fun v hv=>?_,b9⟩
   cases hv with
   |fn _ _ _ vs hl hr=>exact .fn _ _ _ vs (by omega) fun i hi=>b8 i _ (by omega) (hr i (by omega))
  ·cases h
 ·rename_i ms f' js fn cap
  split at h
  ·rename_i asq obs' os' g l h1 hg
   cases hb:aJ g f' with
   |false=>rw[hb]at h;cases h
   |
    true =>
    rw[hb]at h
    cases h
    obtain⟨β3,U',f',b1,b2,b3,b4,b5,b6,b7,b8,b9⟩:=nX gg ms h1 h0 hB hnm hnd hU
    refine⟨β3,U',f',b1,b2,b3,b4,b5,b6,fun v hv=>?_,b9⟩
    have hne:cap≠[]:=by rintro rfl;simp at hg
    have hcl:cap.dropLast.length+1=cap.length:=by
     have:=List.length_pos_iff.2 hne
     rw[List.length_dropLast];omega
    cases hv with
    |
     fn _ _ _ vs hl hr =>
     refine .fn _ _ _ vs (by simp;omega) fun i hi=>?_
     simp only[aq,au,aG]at hi
     by_cases hlt:i<asq.length
     ·have e1:(asq++[AV.any]).getD i .any=asq.getD i .any:=by simp[aa,a7,hlt]
      have e2:cap.getD i .any=cap.dropLast.getD i .any:=by
       rw[aa,aa,List.getElem?_dropLast,if_pos (by omega)]
      rw[e1]
      have:=hr i (by omega)
      rw[e2]at this
      exact b8 i _ (by omega) this
     ·have e1:(asq++[AV.any]).getD i .any=.any:=by
       rw[aa,List.getElem?_append_right (by omega)]
       rw[show i-asq.length=0 by omega];rfl
      rw[e1];exact .any _ _
  ·cases h
 ·cases h
theorem nS(g:di n A s a w M β){ob0:Nat->Option Ob}(mu:List (Nat×PK)):∀(asq:List AV) {i j:Nat} {as':List AV} {ins:List Ob} {os fz:List Nat},il ob0 mu asq i j=some (as',ins,os,fz)->Fz M β w ob0 fz->(∀o x,o∈os->ob0 o=some x->s.ob o=some x) ->
 ∀{U:List Nat} {f:Nat->Option Ob} {βc:Lo},fV s w M β U f βc->(∀m,j<=m->f m=none)->nodup os=true->(∀o,o∈os->o∉U) ->
 ∃βc' U' f',fV s w M β U' f' βc'/\Lo.le βc βc'/\(∀o,o∈U'->o∈os\/o∈U)/\(∀m,j+ins.length<=m->f' m=none)/\(∀m,m<j->f' m=f m)/\(∀q,q<ins.length->f' (j+q)=some (ins.getD q .dead))/\as'.length=asq.length /\
  (∀q v,q<asq.length->bx M β (asq.getD q .any) v->bx M βc' (as'.getD q .any) v)/\Al β βc' os ins j
 |
  [],i,j,as',ins,os,fz,h,hz,h0,U,f,βc,hB,hnm,hnd,hU=>by
  simp only[il,Option.some.injEq,Prod.mk.injEq]at h
  obtain⟨rfl,rfl,rfl,rfl⟩:=h
  exact⟨βc,U,f,hB,Lo.le.refl _,fun o ho=>.inr ho,fun m hm=>hnm m (by simpa using hm),fun m _=>rfl,fun q hq=>(by simp at hq),rfl,fun q v hq=>(by simp at hq),.none⟩
 |
  c::asq,i,j,as',ins,os,fz,h,hz,h0,U,f,βc,hB,hnm,hnd,hU=>by
  simp only[il]at h
  split at h
  ·split at h
   ·rename_i l1 f1 as1 ins2 os2 fz2 h1 h2
    cases h
    obtain⟨β4,U2,f2,d1,d2,d3,d4,d5,d6,d7,d8,d9⟩:=nS g mu asq h2 hz.right h0 hB hnm hnd hU
    refine⟨β4,U2,f2,d1,d2,d3,d4,d5,d6,by simp[d7],fun q v hq hr=>?_,d9⟩
    cases q with
    |zero=>simpa using bx.any _ _
    |succ q=>simpa using d8 q v (by simpa using hq) (by simpa using hr)
   ·cases h
  ·rename_i m hm
   split at h
   ·rename_i c' obs1 os1 h1
    split at h
    ·rename_i as1 ins2 os2 fz2 h2
     cases h
     obtain⟨n1,n2,n3⟩:=eF hnd
     obtain⟨β3,U1,f1,b1,b2,b3,b4,b5,b6,b7,b9⟩:=Ad g h1 (fun o x ho=>h0 o x (aC _ ho)) hB hnm n1 fun o ho=>hU o (aC _ ho)
     obtain⟨β4,U2,f2,d1,d2,d3,d4,d5,d6,d7,d8,d9⟩:=nS g mu asq h2 hz (fun o x ho=>h0 o x (aB _ ho)) b1 b4 n2 fun o ho hh=>by
      rcases b3 o hh with h|h
      ·exact n3 o h ho
      ·exact hU o (aB _ ho) h
     refine⟨β4,U2,f2,d1,fun o l hl=>d2 o l (b2 o l hl),fun o ho=>?_,fun m hm=>d4 m (by simp at hm;omega),fun m hm=>(d5 m (by omega)).trans (b5 m hm),fun q hq=>?_,by simp[d7],fun q v hq hr=>?_,b9.app d2 (fun q hq=>rF (b1.own _ _ (b6 q hq)) ((rW h1).2 q hq).1) d9 (rW h1).1⟩
     ·rcases d3 o ho with h|h
      ·exact .inl (aB _ h)
      ·rcases b3 o h with h|h
       ·exact .inl (aC _ h)
       ·exact .inr h
     ·by_cases hlt:q<obs1.length
      ·rw[d5 _ (by omega),b6 q hlt]
       simp[aa,a7,hlt]
      ·have:=d6 (q-obs1.length) (by simp at hq;omega)
       rw[show j+obs1.length+(q-obs1.length)=j+q by omega]at this
       rw[this]
       simp[aa,a7,hlt]
     ·cases q with
      |zero=>simpa using(b7 v (by simpa using hr)).mono (Mem.le.refl _) d2
      |succ q=>simpa using d8 q v (by simpa using hq) (by simpa using hr)
    ·cases h
   ·cases h
  ·split at h
   ·rename_i c' f1 as1 ins2 os2 fz2 h1 h2
    cases h
    obtain⟨β4,U2,f2,d1,d2,d3,d4,d5,d6,d7,d8,d9⟩:=nS g mu asq h2 hz.right h0 hB hnm hnd hU
    refine⟨β4,U2,f2,d1,d2,d3,d4,d5,d6,by simp[d7],fun q v hq hr=>?_,d9⟩
    cases q with
    |zero=>simpa using(gF _ _ _ _ _ h1 hz.left (by simpa using hr)).up
    |succ q=>simpa using d8 q v (by simpa using hq) (by simpa using hr)
   ·cases h
theorem sY{o:Nat}:∀{caps:List AV} {l:List (Option Nat)},oN o caps=some l->l.length=caps.length/\∀i,i<l.length->(l.getD i none=none->caps.getD i .any=.ref o 0)/\∀p,l.getD i none=some p->caps.getD i .any=.ref p 0
 |[],l,h=>by cases h;exact⟨rfl,fun i hi=>by simp at hi⟩
 |
  c::caps,l,h=>by
  unfold oN at h
  split at h
  ·rename_i he;cases he
  ·rename_i p r he
   cases he
   cases e:oN o caps with
   |none=>rw[e]at h;cases h
   |
    some l' =>
    rw[e]at h
    simp only[cu,Option.some.injEq]at h
    subst h
    obtain⟨q1,q2⟩:=sY e
    refine⟨by simp[q1],fun i hi=>?_⟩
    cases i with
    |
     zero =>
     simp only[bp]
     cases hb:aJ p o with
     |
      true =>
      simp only[cond_true]
      exact⟨fun _=>(by rw[aE hb]),fun q hq=>(by cases hq)⟩
     |
      false =>
      simp only[cond_false]
      exact⟨fun hq=>(by cases hq),fun q hq=>(by cases hq;rfl)⟩
    |succ i=>simpa using q2 i (by simpa using hi)
  ·cases h
theorem C4{M:Mem}{β:Lo}{w:World}{ob:Nat->Option Ob}{f:Nat}{c:AV}{l:List (Option Nat)}{fz:List Nat}{v:Value}(h:jY ob f c=some (l,fz))(hz:Fz M β w ob fz)(hr:bx M β c v):bx M β (.fm f l) v:=by
 have key:∀o f' caps,cG (ob o)=some (.gW [.fn f' caps])->(bif aJ f' f then(oN o caps).map fun l=>(l,[o])else none)=some (l,fz)->bx M β (.ref o 0) v->bx M β (.fm f l) v:=by
  intro o f' caps hfr h5 hr
  clear h
  cases hb:aJ f' f with
  |false=>rw[hb]at h5;cases h5
  |
   true =>
   rw[hb]at h5
   simp only[cond_true]at h5
   have:=aE hb
   subst this
   cases e:oN o caps with
   |none=>rw[e]at h5;cases h5
   |
    some l' =>
    rw[e]at h5
    simp only[cu,Option.some.injEq,Prod.mk.injEq]at h5
    obtain⟨rfl,rfl⟩:=h5
    obtain⟨b,us,h1,h2⟩:=hz o ai _ hfr
    obtain⟨h3,h4⟩:=h2 0 (by simp)
    obtain⟨q1,q2⟩:=sY e
    obtain⟨b',r1,r2⟩:=kT hr
    rw[h1]at r1;cases r1
    subst r2
    simp only[bp]at h4
    cases hu:us 0 with
    |
     _ =>
     rw[hu]at h3 h4
     cases h4
     try (
      rename_i vs hl hrs
      refine .fm _ _ _ _ vs h3 (q1.trans hl) (fun i hi hn=>?_) fun i p hi hp=>?_
      ·have:=hrs i (by omega)
       rw[(q2 i hi).1 hn]at this
       obtain⟨b2,s1,s2⟩:=kT this
       rw[h1]at s1;cases s1;exact s2
      ·have:=hrs i (by omega)
       rw[(q2 i hi).2 p hp]at this
       exact kT this)
 unfold jY at h
 split at h
 ·rename_i f' js
  cases hb:aJ f' f with
  |false=>rw[hb]at h;cases h
  |
   true =>
   rw[hb]at h
   simp only[cond_true,Option.some.injEq,Prod.mk.injEq]at h
   obtain⟨rfl,rfl⟩:=h
   have:=aE hb
   subst this
   exact hr
 ·rename_i o
  split at h
  ·rename_i f' caps ho
   exact key o f' caps (by rw[ho];rfl) h hr
  ·rename_i f' caps ho
   exact key o f' caps (by rw[ho];rfl) h hr
  ·cases h
 ·cases h
theorem vW{M:Mem}{β βc:Lo}{os:List Nat}{ins:List Ob}{f:Nat}{js:List (Option Nat)}{v:Value}(h:bx M β (.fm f (js.map (Jn os))) v)(hk:js.all (Nq ins)=true)
 (ho:∀j,j<ins.length->(ins.getD j .dead).oO=true->∀b,β (os.getD j 0)=some (.cells b)->βc j=some (.cells b)):bx M βc (.fm f js) v:=by
 cases h with
 |
  fm _ _ _ b vs hc hl hs hoo =>
  have hg:∀i,i<js.length->(js.map (Jn os)).getD i none=Jn os (js.getD i none):=fun i hi=>by simp[aa,hi]
  refine .fm _ _ _ _ vs hc (by simpa using hl) (fun i hi e=>hs i (by simpa using hi) (by rw[hg i hi,e];rfl)) fun i j hi e=>?_
  obtain⟨b',q1,q2⟩:=hoo i (os.getD j 0) (by simpa using hi) (by rw[hg i hi,e];rfl)
  rw[bM]at hk
  have:=hk (some j) (by rw[<-e];simp[aa,hi])
  simp only[Nq,az]at this
  have hj:j<ins.length:=aQ this.1
  exact⟨b',ho j hj this.2 b' q1,q2⟩
theorem Hm{M:Mem}{β βc:Lo}{os:List Nat}{ins:List Ob}{ob0:Nat->Option Ob}{ms:List (Option MK)}{f:Nat}{js:List (Option Nat)}{c c':AV}{obs:List Ob}{os1:List Nat}{j:Nat}{v:Value}(h1:m9 ob0 (.FH ms f js) c j=some (c',obs,os1))(hk:AT os ins f js c=true)
 (ho:∀j,j<ins.length->(ins.getD j .dead).oO=true->∀b,β (os.getD j 0)=some (.cells b)->βc j=some (.cells b)) (hv:bx M β c v) (hr:bx M βc c' v):bx M βc (qA f js c') v:=by
 unfold m9 at h1
 split at h1
 ·rename_i he;cases he
 ·rename_i he;cases he
 ·rename_i ms' f' js' fn cap he
  cases he
  split at h1
  ·rename_i asq obs' os' g l h2 hg
   cases hb:aJ g f with
   |false=>rw[hb]at h1;cases h1
   |
    true =>
    rw[hb]at h1
    cases h1
    have:=aE hb
    subst this
    simp only[AT,hg,az]at hk
    have hl2:=rk hk.1
    have hne:cap≠[]:=by rintro rfl;simp at hg
    have hcl:cap.dropLast.length+1=cap.length:=by
     have:=List.length_pos_iff.2 hne
     rw[List.length_dropLast];omega
    cases hr with
    |
     fn _ _ _ vs hl hrr =>
     simp only[aq,au,aG]at hl
     simp only[qA,List.dropLast_concat]
     cases hv with
     |
      fn _ _ _ vs2 hl' hrr' =>
      refine .fn _ _ _ _ (by simp;omega) fun i hi=>?_
      simp only[aq,au,aG]at hi
      by_cases hlt:i<asq.length
      ·have e1:(asq++[AV.fm g js]).getD i .any=(asq++[AV.any]).getD i .any:=by simp[aa,a7,hlt]
       rw[e1]
       exact hrr i (by simp;omega)
      ·have hi':i=asq.length:=by omega
       have e1:(asq++[AV.fm g js]).getD i .any=.fm g js:=by
        rw[aa,List.getElem?_append_right (by omega)]
        rw[show i-asq.length=0 by omega];rfl
       have e2:cap.getD i .any=.fm g l:=by
        rw[List.getLast?_eq_getElem?]at hg
        rw[aa,show i=cap.length-1 by omega,hg];rfl
       rw[e1]
       have:=hrr' i (by omega)
       rw[e2,hl2]at this
       exact vW this hk.2 ho
  ·cases h1
 ·cases h1
theorem oe{M:Mem}{β βc:Lo}{w:World}{ob:Nat->Option Ob}{mu:List (Nat×PK)}{os:List Nat}{ins:List Ob}(ho:∀j,j<ins.length->(ins.getD j .dead).oO=true->∀b,β (os.getD j 0)=some (.cells b)->βc j=some (.cells b)) :
 ∀(asq:List AV) {i j:Nat} {as':List AV} {ins':List Ob} {os' fz:List Nat},il ob mu asq i j=some (as',ins',os',fz)->Fz M β w ob fz->lM ob mu os ins asq i=true->(∀q v,q<asq.length->bx M β (asq.getD q .any) v->bx M βc (as'.getD q .any) v) ->
  (je mu as' i).length=as'.length/\∀q v,q<asq.length->bx M β (asq.getD q .any) v->bx M βc ((je mu as' i).getD q .any) v
 |
  [],i,j,as',ins',os',fz,h,hz,hk,hr=>by
  simp only[il,Option.some.injEq,Prod.mk.injEq]at h
  obtain⟨rfl,rfl,rfl,rfl⟩:=h
  exact⟨rfl,fun q v hq=>by simp at hq⟩
 |
  c::asq,i,j,as',ins',os',fz,h,hz,hk,hr=>by
  simp only[il]at h
  simp only[lM,az]at hk
  obtain⟨hk1,hk2⟩:=hk
  split at h
  ·rename_i f js hm
   split at h
   ·rename_i l1 f1 as1 ins2 os2 fz2 h1 h2
    cases h
    obtain⟨q1,q2⟩:=oe ho asq h2 hz.right hk2 (fun q v hq hv=>by simpa using hr (q+1) v (by simpa using hq) (by simpa using hv))
    have e:je mu (.any::as1) i=.fm f js::je mu as1 (i+1):=by rw[je,hm]
    rw[e]
    refine⟨by simp[q1],fun q v hq hv=>?_⟩
    cases q with
    |
     zero =>
     rw[hm]at hk1
     simp only[h1,az]at hk1
     have e2:=rk hk1.1
     have hc:=C4 h1 hz.left (show bx M β c v by simpa using hv)
     rw[e2]at hc
     simpa using vW hc hk1.2 ho
    |succ q=>simpa using q2 q v (by simpa using hq) (by simpa using hv)
   ·cases h
  ·rename_i m hne hm
   split at h
   ·rename_i c' obs1 os1 h1
    split at h
    ·rename_i as1 ins2 os2 fz2 h2
     cases h
     obtain⟨q1,q2⟩:=oe ho asq h2 hz hk2 (fun q v hq hv=>by simpa using hr (q+1) v (by simpa using hq) (by simpa using hv))
     obtain⟨y,hmm,hy⟩:∃y,je mu (c'::as1) i=y::je mu as1 (i+1)/\∀v,bx M β c v->bx M βc y v:=by
      have h0:∀v,bx M β c v->bx M βc c' v:=fun v hv=>by simpa using hr 0 v (by simp) (by simpa using hv)
      cases m with
      |su f js=>exact absurd rfl (hne _ _)
      |
       FH ms f js =>
       refine⟨qA f js c',by rw[je,hm],fun v hv=>?_⟩
       rw[hm]at hk1
       exact Hm h1 hk1 ho hv (h0 v hv)
      |one m=>exact⟨c',by rw[je,hm],h0⟩
      |fn ms=>exact⟨c',by rw[je,hm],h0⟩
     rw[hmm]
     refine⟨by simp[q1],fun q v hq hv=>?_⟩
     cases q with
     |zero=>simpa using hy v (by simpa using hv)
     |succ q=>simpa using q2 q v (by simpa using hq) (by simpa using hv)
    ·cases h
   ·cases h
  ·rename_i hm
   have hmm:∀x xs,je mu (x::xs) i=x::je mu xs (i+1):=fun x xs=>by rw[je,hm]
   split at h
   ·rename_i c' f1 as1 ins2 os2 fz2 h1 h2
    cases h
    obtain⟨q1,q2⟩:=oe ho asq h2 hz.right hk2 (fun q v hq hv=>by simpa using hr (q+1) v (by simpa using hq) (by simpa using hv))
    rw[hmm]
    refine⟨by simp[q1],fun q v hq hv=>?_⟩
    cases q with
    |zero=>simpa using hr 0 v (by simp) hv
    |succ q=>simpa using q2 q v (by simpa using hq) (by simpa using hv)
   ·cases h
end
end Go.VL
namespace Go.VL
open Go Go.RowKit
section
variable {P:Program} {M:Mem} {β:Lo} {w w':World} {n:Nat} {A:jz} {s:St} {a:Act}
def gd(os:List Nat)(f:Nat->Option Ob):Nat->Option Ob:=fun o=>bif fS os o then none else f o
theorem gG{os:List Nat}{f:Nat->Option Ob}{o:Nat}{x:Ob}(h:gd os f o=some x):o∉os/\f o=some x:=by
 unfold gd at h
 cases hm:fS os o with
 |true=>rw[hm]at h;cases h
 |
  false =>
  rw[hm]at h
  refine⟨fun ho=>?_,h⟩
  have:fS os o=true:=cf.2 ⟨o,ho,Nat.beq_refl o⟩
  rw[hm]at this;cases this
theorem di.base(g:di n A s a w M β){os:List Nat}{L:Nat}{βc:Lo}(hsrc:∀i b,i<L->dZ βc i=some b->∃o x0,o∈os/\s.ob o=some x0/\x0.live=true/\dZ β o=some b)
 {r:AV} {obs:List Ob} {v:Value} {M':Mem} {β':Lo} (h:Out w M βc L r obs v w' M' β'):di n A {s with ob:=gd os s.ob} a w' M' β:=by
 have cC:∀b,b<w.heap.size->¬(∃i,i<L/\dZ βc i=some b)->w'.heap[b]?=w.heap[b]?:=fun b hb hn=>h.cC.block b hb hn
 have inA:∀b,(∃i,i<L/\dZ βc i=some b)->A.w0.heap.size<=b\/A.uT b:=fun b ⟨i,hi,hb⟩=>by
  obtain⟨o,x0,_,h2,h3,h4⟩:=hsrc i b hi hb
  exact g.place o x0 b h2 h3 h4
 have un:∀o x b,s.ob o=some x->x.live=true->o∉os->dZ β o=some b->¬∃i,i<L/\dZ βc i=some b:=fun o x b hx hl ho hb ⟨i,hi,hb'⟩=>by
  obtain⟨o',x0,h1,h2,h3,h4⟩:=hsrc i b hi hb'
  exact g.apart o' o x0 x b (fun e=>ho (by rw[<-e];exact h1)) h2 h3 hx hl h4 hb
 refine {size:=g.size,defs:=g.defs,tm:=fun t=>(g.tm t).mono h.le (Lo.le.refl _),le:=g.le.trans h.le,new:=fun b k v hc=>?_,agree:=h.agree,own:=fun o x hx=>?_,place:=fun o x b hx=>?_,apart:=fun o o' x x' b hne hx hl hx'=>?_,us:=fun o hu=>?_,fix:=g.Hb fun o y hy=>⟨y,(gG hy).2⟩,cC:=?_}
 ·rcases h.new b k v hc with h1|h1|h1
  ·exact g.new b k v h1
  ·exact .inr (.inl (Nat.le_trans g.cC.size h1))
  ·exact .inr (inA b h1)
 ·obtain⟨ho,hx⟩:=gG hx
  refine(g.own o x hx).mono h.le (Lo.le.refl _) fun b hl hb=>?_
  have hlt:=(g.own o x hx).lt hl hb
  have hn:=un o x b hx hl ho hb
  refine⟨cC b hlt hn,fun k=>?_⟩
  cases e:M'.c b k with
  |none=>rfl
  |
   some u =>
   rcases h.new b k u e with h1|h1|h1
   ·rw[(g.own o x hx).Ae hl hb k]at h1;cases h1
   ·omega
   ·exact absurd h1 hn
 ·exact g.place o x b (gG hx).2
 ·exact g.apart o o' x x' b hne (gG hx).2 hl (gG hx').2
 ·obtain⟨h1,h2⟩:=g.us o hu
  refine⟨h1,?_⟩
  show gd os s.ob o=none
  unfold gd;rw[h2];cases fS os o<;>rfl
 ·refine g.cC.jT h.cC.os h.cC.tape h.cC.output h.cC.size fun b hlt hn=>cC b (Nat.lt_of_lt_of_le hlt g.cC.size) fun hh=>?_
  rcases inA b hh with h1|h1
  ·omega
  ·exact hn h1
end
end Go.VL
namespace Go.VL
open Go Go.RowKit
section
variable {P:Program} {M:Mem} {β:Lo} {w w':World} {n:Nat} {A:jz} {s:St} {a:Act}
theorem di.Pa(g:di n A s a w M β){m:Nat}{l:Loc}{x:Ob}(hm:s.ob m=none)(HQ:β m=none\/β m=some l)(hfx:∀b,A.fix m=some b->l=b)(hx:Own M (cx β m (some l)) w m x)
 (hpl:∀b,l.block=some b->A.w0.heap.size<=b\/A.uT b) (hap:∀b,l.block=some b->x.live=true->∀o x',s.ob o=some x'->x'.live=true->dZ β o≠some b) :
 di n A {s with ob:=cx s.ob m (some x),us:=cx s.us m true} a w M (cx β m (some l)):=by
 have hβ:Lo.le β (cx β m (some l)):=fun o q hq=>by
  by_cases ho:o=m
  ·subst ho
   rcases HQ with h|h
   ·rw[h]at hq;cases hq
   ·rw[h]at hq;cases hq;exact aN _ _ _
  ·rw[a6 _ _ _ _ ho];exact hq
 have hbd:∀o b,o≠m->dZ (cx β m (some l)) o=some b->dZ β o=some b:=fun o b ho hb=>by
  unfold dZ at hb |-;rw[a6 _ _ _ _ ho]at hb;exact hb
 have hdd:dZ (cx β m (some l)) m=l.block:=by unfold dZ;rw[aN];rfl
 have hob:∀o y,o≠m->cx s.ob m (some x) o=some y->s.ob o=some y:=fun o y ho hy=>by rw[a6 _ _ _ _ ho]at hy;exact hy
 refine {size:=g.size,defs:=g.defs,tm:=fun t=>(g.tm t).mono (Mem.le.refl _) hβ,le:=g.le,new:=g.new,agree:=g.agree,own:=fun o y hy=>?_,place:=fun o y b hy hlv hb=>?_,apart:=?_,us:=fun o hu=>?_,fix:=fun o b hf=>?_,cC:=g.cC}
 ·by_cases ho:o=m
  ·subst ho
   have:x=y:=by simpa[aN]using hy
   subst this;exact hx
  ·have hy':=hob o y ho hy
   exact(g.own o y hy').mono (Mem.le.refl _) hβ fun b hlv hb=>⟨rfl,(g.own o y hy').Ae hlv hb⟩
 ·by_cases ho:o=m
  ·subst ho;rw[hdd]at hb;exact hpl b hb
  ·exact g.place o y b (hob o y ho hy) hlv (hbd o b ho hb)
 ·intro o o' y y' b hne hy hlv hy' hlv' hb hb'
  by_cases ho:o=m
  ·subst ho
   have:x=y:=by simpa[aN]using hy
   subst this
   rw[hdd]at hb
   exact hap b hb hlv o' y' (hob o' y' (Ne.symm hne) hy') hlv' (hbd o' b (Ne.symm hne) hb')
  ·by_cases ho':o'=m
   ·subst ho'
    have:x=y':=by simpa[aN]using hy'
    subst this
    rw[hdd]at hb'
    exact hap b hb' hlv' o y (hob o y ho hy) hlv (hbd o b ho hb)
   ·exact g.apart o o' y y' b hne (hob o y ho hy) hlv (hob o' y' ho' hy') hlv' (hbd o b ho hb) (hbd o' b ho' hb')
 ·by_cases ho:o=m
  ·subst ho
   have:({s with ob:=cx s.ob o (some x),us:=cx s.us o true}:St).us o=true:=aN _ _ _
   rw[this]at hu;cases hu
  ·have hu':s.us o=false:=by simpa[a6 _ _ _ _ ho]using hu
   obtain⟨q1,q2⟩:=g.us o hu'
   refine⟨by rw[a6 _ _ _ _ ho];exact q1,?_⟩
   show cx s.ob m (some x) o=none
   rw[a6 _ _ _ _ ho];exact q2
 ·by_cases ho:o=m
  ·subst ho
   exact⟨aN _ _ _,fun _ _=>by rw[aN,hfx b hf]⟩
  ·obtain⟨q1,q2⟩:=g.fix o b hf
   exact⟨by rw[<-q1];exact a6 _ _ _ _ ho,fun y hy=>by rw[a6 _ _ _ _ ho];exact q2 y (hob o y ho hy)⟩
end
end Go.VL
namespace Go.VL
open Go Go.RowKit
section
variable {P:Program} {M:Mem} {β:Lo} {w w':World} {n:Nat} {A:jz} {s:St} {a:Act}
def ni(s:St)(β:Lo)(w:World)(L:Nat)(βc:Lo)(obs:List Ob)(β':Lo)(tk:List Nat):Prop :=
 ∀o x b,s.ob o=some x->x.live=true->dZ β o=some b->(b<w.heap.size/\¬∃i,i<L/\dZ βc i=some b)\/∃q,q∈tk/\q<obs.length/\(obs.getD q .dead).live=true/\dZ β' q=some b
theorem di.take(g:di n A s a w' M β){L:Nat}{βc:Lo}{M0:Mem}{r:AV}{obs:List Ob}{v:Value}{β':Lo}(ho:Out w M0 βc L r obs v w' M β')(hA:∀b,(w.heap.size<=b\/∃i,i<L/\dZ βc i=some b)->A.w0.heap.size<=b\/A.uT b)
 {tk:List Nat} (hb:ni s β w L βc obs β' tk) {q m:Nat} (hq:q<obs.length) (hqt:q∉tk) (hlive:(obs.getD q .dead).live=true) {l:Loc} (hl:β' q=some l) (hm:s.ob m=none) (hm0:β m=none\/β m=some l) (hfx:∀b,A.fix m=some b->l=b)
 {x:Ob} (hx:Own M (cx β m (some l)) w' m x) :
 di n A {s with ob:=cx s.ob m (some x),us:=cx s.us m true} a w' M (cx β m (some l))/\ni {s with ob:=cx s.ob m (some x),us:=cx s.us m true} (cx β m (some l)) w L βc obs β' (q::tk):=by
 have hblk:∀b,l.block=some b->dZ β' q=some b:=fun b hb=>by unfold dZ;rw[hl];exact hb
 constructor
 ·refine g.Pa hm hm0 hfx hx (fun b hlb=>hA b ?_) fun b hlb _ o x' hox hl' hbo=>?_
  ·exact ho.place q b hq hlive (hblk b hlb)
  ·rcases hb o x' b hox hl' hbo with⟨h1,h2⟩|⟨q',h1,h2,h3,h4⟩
   ·rcases ho.place q b hq hlive (hblk b hlb)with h|h
    ·omega
    ·exact h2 h
   ·exact ho.apart q q' b (fun e=>hqt (by rw[e];exact h1)) hq h2 hlive h3 (hblk b hlb) h4
 ·intro o y b hy hly hbo
  by_cases e:o=m
  ·subst e
   have:dZ (cx β o (some l)) o=l.block:=by unfold dZ;rw[aN];rfl
   rw[this]at hbo
   exact .inr ⟨q,ai,hq,hlive,hblk b hbo⟩
  ·have hy':s.ob o=some y:=by simpa[a6 _ _ _ _ e]using hy
   have hbo':dZ β o=some b:=by unfold dZ at hbo |-;rw[a6 _ _ _ _ e]at hbo;exact hbo
   rcases hb o y b hy' hly hbo' with h|⟨q',h1,h2,h3,h4⟩
   ·exact .inl h
   ·exact .inr ⟨q',al _ h1,h2,h3,h4⟩
theorem di.uf(g:di n A s a w' M β){L:Nat}{βc:Lo}{M0:Mem}{r:AV}{obs:List Ob}{v:Value}{β':Lo}(ho:Out w M0 βc L r obs v w' M β')(hA:∀b,(w.heap.size<=b\/∃i,i<L/\dZ βc i=some b)->A.w0.heap.size<=b\/A.uT b)
 {tk:List Nat} (hb:ni s β w L βc obs β' tk) {q m:Nat} (hq:q<obs.length) (hqt:q∉tk) {sz:Nat} {es:List (List AV)} (hob:obs.getD q .dead=.vec sz es) (hm:s.us m=false) :
 ∃l,di n A {s with ob:=cx s.ob m (some (.vec sz es)),us:=cx s.us m true} a w' M (cx β m (some l))/\ni {s with ob:=cx s.ob m (some (.vec sz es)),us:=cx s.us m true} (cx β m (some l)) w L βc obs β' (q::tk) /\
  ∀v,bx M β' (.vec q) v->bx M (cx β m (some l)) (.vec m) v:=by
 have hown:=ho.own q hq
 rw[hob]at hown
 obtain⟨u,h1,h2,h3⟩:=hown
 obtain⟨q1,q2⟩:=g.us m hm
 obtain⟨r1,r2⟩:=di.take g ho hA hb hq hqt (by rw[hob];rfl) h1 q2 (.inl q1) (fun b hf=>by have:=(g.fix m b hf).1;rw[hm]at this;cases this) (x:=.vec sz es) ⟨u,aN _ _ _,h2,h3⟩
 refine⟨_,r1,r2,fun v hv=>?_⟩
 cases hv with
 |vec _ _ _ sz' hov hb=>rw[h1]at hb;cases hb;exact .vec _ _ _ _ hov (aN _ _ _)
theorem di.DH(g:di n A s a w' M β){L:Nat}{βc:Lo}{M0:Mem}{r:AV}{obs:List Ob}{v:Value}{β':Lo}(ho:Out w M0 βc L r obs v w' M β')(hA:∀b,(w.heap.size<=b\/∃i,i<L/\dZ βc i=some b)->A.w0.heap.size<=b\/A.uT b)
 {tk:List Nat} (hb:ni s β w L βc obs β' tk) {q m:Nat} (hq:q<obs.length) (hqt:q∉tk) {cs:List AV} (hob:obs.getD q .dead=.cells cs) {ks:List LK} (hlen:cs.length=ks.length) (hk:bF ks cs 0) (hm:s.us m=false) :
 ∃l,di n A {s with ob:=cx s.ob m (some (.cells (jh ks cs 0))),us:=cx s.us m true} a w' M (cx β m (some l))/\∀v,bx M β' (.ref q 0) v->bx M (cx β m (some l)) (.ref m 0) v:=by
 have hown:=ho.own q hq
 rw[hob]at hown
 obtain⟨b,vs,e,h1,h2,h3,h4,h5,h6⟩:=hown
 obtain⟨q1,q2⟩:=g.us m hm
 obtain⟨r1,r2⟩:=di.take g ho hA hb hq hqt (by rw[hob];rfl) h1 q2 (.inl q1) (fun b hf=>by have:=(g.fix m b hf).1;rw[hm]at this;cases this) (x:=.cells (jh ks cs 0))
  ⟨b,vs,e,aN _ _ _,h2,by rw[dr];omega,fun i hi=>by
   rw[dr]at hi
   have hg:=kt ks cs 0 i hk hi
   rw[ku ks cs 0 i hi]
   rw[aZ]at hg |-
   exact LK.gT (kJ (h4 i (by omega)) hg) hg,h5,h6⟩
 refine⟨_,r1,fun v hv=>?_⟩
 cases hv with
 |ref _ _ _ b' hb=>rw[h1]at hb;cases hb;exact .ref _ _ _ _ (aN _ _ _)
end
end Go.VL
namespace Go.VL
open Go Go.RowKit
theorem nP:∀(l r:List Nat) (f:Nat->Bool),eY f (l++r)=eY (eY f l) r
 |[],r,f=>rfl
 |o::l,r,f=>nP l r _
theorem sQ:∀(os:List Nat) (f:Nat->Option Ob),cD f (p6 os)=gd os f
 |[],f=>by funext o;rfl
 |
  o::os,f=>by
  show cD (cx f o none) (p6 os)=_
  rw[sQ os]
  funext q
  unfold gd
  by_cases e:q=o
  ·subst e
   have:fS (q::os) q=true:=by simp[fS,List.any_cons,Nat.beq_refl]
   rw[this,aN];cases fS os q<;>rfl
  ·have:fS (o::os) q=fS os q:=by
    have h:aJ q o=false:=by
     cases h:aJ q o with
     |false=>rfl
     |true=>exact absurd (aE h) e
    simp[fS,List.any_cons,h]
   rw[this,a6 _ _ _ _ e]
theorem nK:∀(k nm m:Nat),m∈runN nm k↔nm<=m/\m<nm+k
 |0,nm,m=>by simp only[runN,List.not_mem_nil,false_iff];omega
 |k+1,nm,m=>by simp only[runN,aH,nK k (nm+1) m];omega
theorem vq{f:Nat->Bool}{m:Nat}(h:f m=true):cx f m true=f:=by
 funext q
 by_cases e:q=m
 ·subst e;rw[aN,h]
 ·rw[a6 _ _ _ _ e]
section
variable {P:Program} {M M0:Mem} {β β' βc:Lo} {w w':World} {n L:Nat} {A:jz} {s:St} {a:Act} {r:AV} {obs:List Ob} {v:Value}
theorem fj(obs:List Ob)(j:Nat):(obs.drop j).headD .dead=obs.getD j .dead:=by
 rw[List.headD_eq_head?_getD,List.head?_drop,aa]
theorem fK{obs:List Ob}{j:Nat}(h:obs.getD j .dead≠.dead):j<obs.length:=by
 rcases Nat.lt_or_ge j obs.length with h'|h'
 ·exact h'
 ·exact absurd (by simp[aa,h']) h
theorem eA(obs:List Ob)(j:Nat):(obs.drop j).tail=obs.drop (j+1):=by rw[List.tail_drop]
theorem lz(ho:Out w M0 βc L r obs v w' M β')(hA:∀b,(w.heap.size<=b\/∃i,i<L/\dZ βc i=some b)->A.w0.heap.size<=b\/A.uT b){full:List AV}{E:Nat} :
 ∀(ks:List CK) (i j nm:Nat) {s:St} {β:Lo} {tk:List Nat},di n A s a w' M β->ni s β w L βc obs β' tk->(∀q,j<=q->q∉tk)->aL ks full i j (obs.drop j)->(∀m,nm<=m->m<E->s.us m=false)->nm+bL ks<=E ->
 ∃β2 tk',di n A {s with ob:=cD s.ob (bQ ks full i (obs.drop j) nm).2.1,us:=eY s.us (runN nm (bL ks))} a w' M β2/\ni {s with ob:=cD s.ob (bQ ks full i (obs.drop j) nm).2.1,us:=eY s.us (runN nm (bL ks))} β2 w L βc obs β' tk' /\
  (∀q,q∈tk'->q∈tk\/(j<=q/\q<j+bL ks))/\Lo.le β β2/\(bQ ks full i (obs.drop j) nm).2.2=(obs.drop (j+bL ks),nm+bL ks)/\(bQ ks full i (obs.drop j) nm).1.length=ks.length/\full.length=i+ks.length /\
  (∀q u,q<ks.length->bx M β' (full.getD (i+q) .any) u->bx M β2 ((bQ ks full i (obs.drop j) nm).1.getD q .any) u) /\
  (∀m,¬(nm<=m/\m<nm+bL ks)->cD s.ob (bQ ks full i (obs.drop j) nm).2.1 m=s.ob m/\eY s.us (runN nm (bL ks)) m=s.us m/\β2 m=β m)
 |[],i,j,nm,s,β,tk,g,hb,ht,hk,hf,hE=>⟨β,tk,g,hb,fun q hq=>.inl hq,Lo.le.refl _,rfl,rfl,hk,fun q u hq=>by simp at hq,fun m _=>⟨rfl,rfl,rfl⟩⟩
 |
  .lk k::ks,i,j,nm,s,β,tk,g,hb,ht,hk,hf,hE=>by
  obtain⟨hk1,hk2⟩:=hk
  obtain⟨β2,tk',c1,c2,c3,c4,c5,c6,c7,c8,c9⟩:=lz ho hA ks (i+1) j nm g hb ht hk2 hf hE
  refine⟨β2,tk',c1,c2,c3,c4,c5,by simp[bQ,c6],by simp;omega,fun q u hq hr=>?_,c9⟩
  cases q with
  |
   zero =>
   show bx M β2 ((k.cast (full.getD i .any)::_).getD 0 .any) u
   rw[bp]
   exact LK.gT (kJ (by simpa using hr) hk1) hk1
  |
   succ q =>
   have:=c8 q u (by simpa using hq) (by rw[show i+1+q=i+(q+1) by omega];exact hr)
   simpa[bQ]using this
 |
  .vec h::ks,i,j,nm,s,β,tk,g,hb,ht,hk,hf,hE=>by
  obtain⟨hk1,hk2,hk3⟩:=hk
  rw[fj]at hk2
  rw[eA]at hk3
  have hE':nm+bL ks+1<=E:=by simp only[bL]at hE;omega
  have hj:j<obs.length:=fK (by rw[hk2];intro e;cases e)
  have hus:=hf nm (aw _) (by omega)
  obtain⟨l,g1,b1,r1⟩:=g.uf ho hA hb hj (ht j (aw _)) hk2 hus
  have hn:=(g.us nm hus).1
  have hle:Lo.le β (cx β nm (some l)):=fun o q hq=>by
   by_cases e:o=nm
   ·subst e;rw[hn]at hq;cases hq
   ·rw[a6 _ _ _ _ e];exact hq
  obtain⟨β2,tk',c1,c2,c3,c4,c5,c6,c7,c8,c9⟩:=lz ho hA ks (i+1) (j+1) (nm+1) (E:=E) g1 b1 (fun q hq hq'=>by
   rcases aH.1 hq' with rfl|h
   ·omega
   ·exact ht q (by omega) h) hk3 (fun m h1 h2=>by
    show cx s.us nm true m=false
    rw[a6 _ _ _ _ (by omega)];exact hf m (by omega) h2) (by omega)
  have eb:bQ (.vec h::ks) full i (obs.drop j) nm=(.vec nm::(bQ ks full (i+1) (obs.drop (j+1)) (nm+1)).1,(nm,some (.vec h ((obs.getD j .dead).es)))::(bQ ks full (i+1) (obs.drop (j+1)) (nm+1)).2.1,(bQ ks full (i+1) (obs.drop (j+1)) (nm+1)).2.2):=by
   rw[<-fj,<-eA];rfl
  rw[eb]
  refine⟨β2,tk',c1,c2,fun q hq=>?_,fun o q hq=>c4 o q (hle o q hq),?_,by simp[c6],by simp;omega,fun q u hq hr=>?_,fun m hm=>?_⟩
  ·rcases c3 q hq with h|h
   ·rcases aH.1 h with rfl|h
    ·exact .inr ⟨aw _,by simp[bL]⟩
    ·exact .inl h
   ·exact .inr ⟨by omega,by simp only[bL];omega⟩
  ·rw[c5];simp only[bL]
   rw[show j+1+bL ks=j+(bL ks+1) by omega,show nm+1+bL ks=nm+(bL ks+1) by omega]
  ·cases q with
   |
    zero =>
    rw[bp]
    rw[bX,hk1]at hr
    exact(r1 u hr).mono (Mem.le.refl _) c4
   |
    succ q =>
    have:=c8 q u (by simpa using hq) (by rw[show i+1+q=i+(q+1) by omega];exact hr)
    simpa using this
  ·simp only[bL]at hm
   obtain⟨d1,d2,d3⟩:=c9 m (by omega)
   have hne:m≠nm:=by omega
   refine⟨?_,?_,?_⟩
   ·show cD (cx s.ob nm _) _ m=_
    refine d1.trans ?_
    exact a6 _ _ _ _ hne
   ·show eY (cx s.us nm true) _ m=_
    refine d2.trans ?_
    exact a6 _ _ _ _ hne
   ·rw[d3,a6 _ _ _ _ hne]
def eD:List MK->Nat
 |[]=>0
 | .vec::ms=>eD ms+1
 | .sn kz::ms=>eD ms+1
 | .cC _ _::ms=>eD ms+1
 | .obj ks::ms=>eD ms+1+bL ks
def lR:List MK->Nat
 |[]=>0
 | .vec::ms=>lR ms
 | .sn kz::ms=>lR ms
 | .cC _ _::ms=>lR ms
 | .obj ks::ms=>bL ks+lR ms
theorem iL:∀(ms:List MK) (obs:List Ob),dY ms obs=true->obs.length=eD ms
 |[],[],_=>rfl
 |[],_::_,h=>by cases h
 |
  .vec::ms,obs,h=>by
  cases obs with
  |nil=>cases h
  |cons x obs=>cases x<;>first|(cases h;done)|simp[eD,iL ms obs h]
 |
  .sn kz::ms,obs,h=>by
  cases obs with
  |nil=>cases h
  |cons x obs=>cases x<;>first|(cases h;done)|simp[eD,iL ms obs h]
 |
  .cC g ks::ms,obs,h=>by
  cases obs with
  |nil=>cases h
  |
   cons x obs =>
   cases x<;>first|(cases h;done)|skip
   simp only[dY,az]at h
   simp[eD,iL ms obs h.2]
 |
  .obj ks::ms,obs,h=>by
  cases obs with
  |nil=>cases h
  |
   cons x obs =>
   cases x<;>first|(cases h;done)|skip
   simp only[dY,az]at h
   have:=iL ms _ h.2
   have h1:=aQ h.1.1
   simp only[cm]at this
   simp only[au,eD];omega
theorem jS:∀(ms:List MK) (obs:List Ob) (j:Nat),dY ms obs=true->∀q cs,q<obs.length->obs.getD q .dead=.cells cs->j+q∈pf ms j
 |[],[],j,_,q,cs,hq,_=>by simp at hq
 |[],_::_,_,h,_,_,_,_=>by cases h
 |
  .vec::ms,obs,j,h,q,cs,hq,hc=>by
  cases obs with
  |nil=>cases h
  |
   cons x obs =>
   cases x<;>first|(cases h;done)|skip
   cases q with
   |zero=>cases hc
   |
    succ q =>
    have:=jS ms obs (j+1) h q cs (by simpa using hq) (by simpa using hc)
    rw[show j+(q+1)=j+1+q by omega];exact this
 |
  .sn kz::ms,obs,j,h,q,cs,hq,hc=>by
  cases obs with
  |nil=>cases h
  |
   cons x obs =>
   cases x<;>first|(cases h;done)|skip
   cases q with
   |zero=>cases hc
   |
    succ q =>
    have:=jS ms obs (j+1) h q cs (by simpa using hq) (by simpa using hc)
    rw[show j+(q+1)=j+1+q by omega];exact this
 |
  .cC g ks::ms,obs,j,h,q,cs,hq,hc=>by
  cases obs with
  |nil=>cases h
  |
   cons x obs =>
   cases x<;>first|(cases h;done)|skip
   simp only[dY,az]at h
   cases q with
   |zero=>cases hc
   |
    succ q =>
    have:=jS ms obs (j+1) h.2 q cs (by simpa using hq) (by simpa using hc)
    rw[show j+(q+1)=j+1+q by omega];exact al _ this
 |
  .obj ks::ms,obs,j,h,q,cs,hq,hc=>by
  cases obs with
  |nil=>cases h
  |
   cons x obs =>
   cases x<;>first|(cases h;done)|skip
   simp only[dY,az]at h
   obtain⟨⟨h1,h2⟩,h3⟩:=h
   have h1:=aQ h1
   cases q with
   |zero=>exact ai
   |
    succ q =>
    have hq':q<obs.length:=by simpa using hq
    have hc':obs.getD q .dead=.cells cs:=by simpa using hc
    by_cases hlt:q<bL ks
    ·exfalso
     rw[bM]at h2
     have hm:obs.getD q .dead∈obs.take (bL ks):=by
      have:obs.getD q .dead=obs[q]:=by simp[aa,hq']
      rw[this]
      exact List.mem_take_iff_getElem.2 ⟨q,by omega,rfl⟩
     have:=h2 _ hm
     rw[hc']at this;cases this
    ·have:=jS ms _ (j+1+bL ks) h3 (q-bL ks) cs (by simp only[cm];omega) (by
      rw[<-hc']
      simp[aa,cO,show bL ks+(q-bL ks)=q by omega])
     rw[show j+(q+1)=j+1+bL ks+(q-bL ks) by omega]
     exact al _ this
theorem gH:∀(ms:List MK) (obs:List Ob),dY ms obs=true->∀q,q<obs.length->(obs.getD q .dead).live=true
 |[],[],_,q,hq=>by simp at hq
 |[],_::_,h,_,_=>by cases h
 |
  .vec::ms,obs,h,q,hq=>by
  cases obs with
  |nil=>cases h
  |
   cons x obs =>
   cases x<;>first|(cases h;done)|skip
   cases q with
   |zero=>rfl
   |succ q=>simpa using gH ms obs h q (by simpa using hq)
 |
  .sn kz::ms,obs,h,q,hq=>by
  cases obs with
  |nil=>cases h
  |
   cons x obs =>
   cases x<;>first|(cases h;done)|skip
   cases q with
   |zero=>rfl
   |succ q=>simpa using gH ms obs h q (by simpa using hq)
 |
  .cC g ks::ms,obs,h,q,hq=>by
  cases obs with
  |nil=>cases h
  |
   cons x obs =>
   cases x<;>first|(cases h;done)|skip
   simp only[dY,az]at h
   cases q with
   |zero=>rfl
   |succ q=>simpa using gH ms obs h.2 q (by simpa using hq)
 |
  .obj ks::ms,obs,h,q,hq=>by
  cases obs with
  |nil=>cases h
  |
   cons x obs =>
   cases x<;>first|(cases h;done)|skip
   simp only[dY,az]at h
   obtain⟨⟨h1,h2⟩,h3⟩:=h
   cases q with
   |zero=>rfl
   |
    succ q =>
    have hq':q<obs.length:=by simpa using hq
    show (obs.getD q .dead).live=true
    by_cases hlt:q<bL ks
    ·rw[bM]at h2
     have e:obs.getD q .dead=obs[q]:=by simp[aa,hq']
     have:=h2 obs[q] (List.mem_take_iff_getElem.2 ⟨q,by omega,rfl⟩)
     rw[e]
     cases hx:obs[q]<;>rw[hx]at this<;>first|(cases this;done)|rfl
    ·have:=gH ms _ h3 (q-bL ks) (by simp only[cm];omega)
     rw[<-this]
     simp[aa,cO,show bL ks+(q-bL ks)=q by omega]
theorem n7:∀(ms:List MK) (j q:Nat),q∈pf ms j->j<=q/\q<j+eD ms
 |[],j,q,h=>by cases h
 |
  .vec::ms,j,q,h=>by
  have:=n7 ms _ _ h
  simp only[eD];omega
 |
  .sn kz::ms,j,q,h=>by
  have:=n7 ms _ _ h
  simp only[eD];omega
 |
  .cC g ks::ms,j,q,h=>by
  simp only[eD]
  rcases aH.1 h with rfl|h
  ·omega
  ·have:=n7 ms _ _ h
   omega
 |
  .obj ks::ms,j,q,h=>by
  simp only[eD]
  rcases aH.1 h with rfl|h
  ·omega
  ·have:=n7 ms _ _ h
   omega
def HP(A:jz)(s:St)(β βc:Lo)(fx:Nat->Prop)(os:List Nat)(j:Nat):Prop :=
 ∀q b,q<os.length->fx (j+q)->βc (j+q)=some b->s.ob (os.getD q 0)=none/\s.us (os.getD q 0)=true/\β (os.getD q 0)=some b/\∀b',A.fix (os.getD q 0)=some b'->b'=b
theorem HP.drop{fx:Nat->Prop}{os:List Nat}{j:Nat}(h:HP A s β βc fx os j)(k:Nat):HP A s β βc fx (os.drop k) (j+k):=fun q b hq hx hb=>by
 simp only[cm]at hq
 have:=h (k+q) b (by omega) (by rw[show j+(k+q)=j+k+q by omega];exact hx) (by rw[show j+(k+q)=j+k+q by omega];exact hb)
 have e:(os.drop k).getD q 0=os.getD (k+q) 0:=by simp[aa,cO]
 rw[e];exact this
theorem lg:∀(k:Nat) {os:List Nat},nodup os=true->nodup (os.drop k)=true
 |0,os,h=>h
 |k+1,[],h=>by simpa using h
 |k+1,o::os,h=>by simpa using lg k (nodup_cons h).2
theorem jM(ho:Out w M0 βc L r obs v w' M β')(hA:∀b,(w.heap.size<=b\/∃i,i<L/\dZ βc i=some b)->A.w0.heap.size<=b\/A.uT b){ins:List Ob}(hL:ins.length=L)(hin:∀j,j<L->Own M0 βc w j (ins.getD j .dead)){E:Nat}{fx:Nat->Prop} :
 ∀(ms:List MK) (os:List Nat) (j nm:Nat) {s:St} {β:Lo} {tk:List Nat},di n A s a w' M β->ni s β w L βc obs β' tk->(∀q,j<=q->q∉tk)->dY ms (ins.drop j)=true->os.length=eD ms->nodup os=true->HP A s β βc fx os j->(∀q,q∈pf ms j->fx q) ->
  gn (dx ms os (obs.drop j) j nm).1->(∀m,nm<=m->m<E->s.us m=false)->nm+lR ms<=E ->
 ∃β2 tk',di n A {s with ob:=cD s.ob (dx ms os (obs.drop j) j nm).2.1,us:=eY s.us (sO ms nm)} a w' M β2/\ni {s with ob:=cD s.ob (dx ms os (obs.drop j) j nm).2.1,us:=eY s.us (sO ms nm)} β2 w L βc obs β' tk' /\
  (∀q,q∈tk'->q∈tk\/q<j+eD ms)/\(dx ms os (obs.drop j) j nm).2.2=(obs.drop (j+eD ms),nm+lR ms)/\(∀m,nm+lR ms<=m->m<E->eY s.us (sO ms nm) m=false)
 |[],os,j,nm,s,β,tk,g,hb,ht,hal,hol,hnd,hp,hfm,hk,hf,hE=>⟨β,tk,g,hb,fun q hq=>.inl hq,rfl,fun m h1 h2=>hf m h1 h2⟩
 |
  .vec::ms,os,j,nm,s,β,tk,g,hb,ht,hal,hol,hnd,hp,hfm,hk,hf,hE=>by
  have hal':dY ms (ins.drop (j+1))=true:=by
   rw[<-eA]
   cases e:ins.drop j with
   |nil=>rw[e]at hal;cases hal
   |cons x xs=>rw[e]at hal;cases x<;>first|(cases hal;done)|exact hal
  have et:os.tail=os.drop 1:=by rw[List.drop_one]
  have eb:dx (.vec::ms) os (obs.drop j) j nm=dx ms (os.drop 1) (obs.drop (j+1)) (j+1) nm:=by
   rw[<-eA,<-et];rfl
  rw[eb]at hk |-
  obtain⟨β2,tk',c1,c2,c3,c4,c5⟩:=jM ho hA hL hin ms (os.drop 1) (j+1) nm g hb (fun q hq=>ht q (by omega)) hal' (by simp[hol,eD]) (lg 1 hnd) (hp.drop 1) hfm hk hf hE
  refine⟨β2,tk',c1,c2,fun q hq=>?_,by rw[c4];simp only[eD];rw[show j+1+eD ms=j+(eD ms+1) by omega];rfl,c5⟩
  rcases c3 q hq with h|h
  ·exact .inl h
  ·exact .inr (by simp only[eD];omega)
 |
  .sn kz::ms,os,j,nm,s,β,tk,g,hb,ht,hal,hol,hnd,hp,hfm,hk,hf,hE=>by
  have hal':dY ms (ins.drop (j+1))=true:=by
   rw[<-eA]
   cases e:ins.drop j with
   |nil=>rw[e]at hal;cases hal
   |cons x xs=>rw[e]at hal;cases x<;>first|(cases hal;done)|exact hal
  have et:os.tail=os.drop 1:=by rw[List.drop_one]
  have eb:dx (.sn kz::ms) os (obs.drop j) j nm=dx ms (os.drop 1) (obs.drop (j+1)) (j+1) nm:=by
   rw[<-eA,<-et];rfl
  rw[eb]at hk |-
  obtain⟨β2,tk',c1,c2,c3,c4,c5⟩:=jM ho hA hL hin ms (os.drop 1) (j+1) nm g hb (fun q hq=>ht q (by omega)) hal' (by simp[hol,eD]) (lg 1 hnd) (hp.drop 1) hfm hk hf hE
  refine⟨β2,tk',c1,c2,fun q hq=>?_,by rw[c4];simp only[eD];rw[show j+1+eD ms=j+(eD ms+1) by omega];rfl,c5⟩
  rcases c3 q hq with h|h
  ·exact .inl h
  ·exact .inr (by simp only[eD];omega)
 |
  .cC gg ks::ms,os,j,nm,s,β,tk,g,hb,ht,hal,hol,hnd,hp,hfm,hk,hf,hE=>by
  have hins:∃es0,ins.getD j .dead=.vec (lf ks) es0/\j<L/\dY ms (ins.drop (j+1))=true:=by
   cases e:ins.drop j with
   |nil=>rw[e]at hal;cases hal
   |
    cons x xs =>
    rw[e]at hal
    cases x<;>first|(cases hal;done)|skip
    rename_i z es0
    simp only[dY,az]at hal
    have hz:=aE hal.1
    have e1:ins.getD j .dead=.vec z es0:=by rw[<-fj,e];rfl
    have e2:xs=ins.drop (j+1):=by rw[<-eA,e];rfl
    exact⟨es0,by rw[e1,hz],by rw[<-hL];exact fK (by rw[e1];intro h;cases h),by rw[<-e2];exact hal.2⟩
  obtain⟨es0,i1,i2,hal'⟩:=hins
  have hown0:=hin j i2
  rw[i1]at hown0
  obtain⟨v0,q0,_⟩:=hown0
  simp only[eD]at hol
  cases os with
  |nil=>simp only[aG]at hol;omega
  |
   cons p os =>
   have eb:dx (.cC gg ks::ms) (p::os) (obs.drop j) j nm=((obs.getD j .dead=.mv (lf ks) (obs.getD j .dead).es)::(dx ms os (obs.drop (j+1)) (j+1) nm).1,(p,some (.vec (lf ks) (obs.getD j .dead).es))::(dx ms os (obs.drop (j+1)) (j+1) nm).2.1,(dx ms os (obs.drop (j+1)) (j+1) nm).2.2):=by
    rw[<-fj,<-eA];rfl
   rw[eb]at hk |-
   obtain⟨hk1,hk3⟩:=hk
   have hj:j<obs.length:=fK (by rw[hk1];intro e;cases e)
   generalize hes:(obs.getD j .dead).es=es at *
   obtain⟨p1,p2,p3,p4⟩:=hp 0 _ (by simp) (hfm _ ai) (by rw[bX];exact q0)
   simp only[bp]at p1 p2 p3 p4
   have hsame:=ho.tq j _ _ _ i2 q0 hk1
   have hown:=ho.own j hj
   rw[hk1]at hown
   obtain⟨u,o1,o2,o3⟩:=hown
   rw[hsame]at o1;cases o1
   have hupd:cx β p (some (.vec v0 (lf ks)))=β:=by
    funext q
    by_cases e:q=p
    ·subst e;rw[aN,p3]
    ·rw[a6 _ _ _ _ e]
   obtain⟨g2,b2⟩:=g.take ho hA hb hj (ht j (aw _)) (by rw[hk1];rfl) hsame (m:=p) p1 (.inr p3) (fun b' hb'=>(p4 b' hb').symm) (x:=.vec (lf ks) es) ⟨_,aN _ _ _,o2,o3⟩
   rw[hupd]at g2 b2
   have hus:cx s.us p true=s.us:=vq p2
   simp only[hus]at g2 b2
   obtain⟨n1,n2⟩:=nodup_cons hnd
   obtain⟨β2,tk',e1,e2,e3,e4,e5⟩:=jM ho hA hL hin ms os (j+1) nm g2 b2 (fun q hq hq'=>by
    rcases aH.1 hq' with rfl|h
    ·omega
    ·exact ht q (by omega) h) hal' (by simp at hol;omega) n2 (fun q b hq hx hb=>by
    have hd:=(hp.drop 1) q b (by simpa using hq) hx hb
    have eo:((p::os).drop 1).getD q 0=os.getD q 0:=rfl
    rw[eo]at hd
    have hxp:os.getD q 0≠p:=fun e=>n1 (by
     rw[<-e]
     have:os.getD q 0=os[q]:=by simp[aa,hq]
     rw[this];exact bN _)
    obtain⟨x1,x2,x3,x4⟩:=hd
    refine⟨?_,x2,x3,x4⟩
    show cx s.ob p _ _=none
    rw[a6 _ _ _ _ hxp];exact x1) (fun q hq=>hfm q (al _ hq)) hk3 hf hE
   refine⟨β2,tk',e1,e2,fun q hq=>?_,by rw[e4];simp only[eD];rw[show j+1+eD ms=j+(eD ms+1) by omega];rfl,e5⟩
   rcases e3 q hq with h|h
   ·rcases aH.1 h with rfl|h
    ·exact .inr (by simp only[eD];omega)
    ·exact .inl h
   ·exact .inr (by simp only[eD];omega)
 |
  .obj ks::ms,os,j,nm,s,β,tk,g,hb,ht,hal,hol,hnd,hp,hfm,hk,hf,hE=>by
  have hins:∃cs,ins.getD j .dead=.cells cs/\j<L/\dY ms (ins.drop (j+1+bL ks))=true:=by
   cases e:ins.drop j with
   |nil=>rw[e]at hal;cases hal
   |
    cons x xs =>
    rw[e]at hal
    cases x<;>first|(cases hal;done)|skip
    rename_i cs
    simp only[dY,az]at hal
    have e1:ins.getD j .dead=.cells cs:=by rw[<-fj,e];rfl
    refine⟨cs,e1,by rw[<-hL];exact fK (by rw[e1];intro h;cases h),?_⟩
    have e2:xs=ins.drop (j+1):=by rw[<-eA,e];rfl
    have:=hal.2
    rw[e2,List.drop_drop]at this
    exact this
  obtain⟨cs0,i1,i2,hal'⟩:=hins
  have hown0:=hin j i2
  rw[i1]at hown0
  obtain⟨b0,_,_,q0,_⟩:=hown0
  simp only[eD]at hol
  cases os with
  |nil=>simp only[aG]at hol;omega
  |
   cons p os =>
   have eb:dx (.obj ks::ms) (p::os) (obs.drop j) j nm =
    ((
     (obs.drop j).headD .dead=.cells ((obs.drop j).headD .dead).cs)::aL ks ((obs.drop j).headD .dead).cs 0 (j+1) (obs.drop j).tail::(dx ms ((p::os).drop (bL ks+1)) (bQ ks ((obs.drop j).headD .dead).cs 0 (obs.drop j).tail nm).2.2.1 (j+1+bL ks) (bQ ks ((obs.drop j).headD .dead).cs 0 (obs.drop j).tail nm).2.2.2).1,
     (bQ ks ((obs.drop j).headD .dead).cs 0 (obs.drop j).tail nm).2.1++(p,some (.cells (bQ ks ((obs.drop j).headD .dead).cs 0 (obs.drop j).tail nm).1))::(dx ms ((p::os).drop (bL ks+1)) (bQ ks ((obs.drop j).headD .dead).cs 0 (obs.drop j).tail nm).2.2.1 (j+1+bL ks) (bQ ks ((obs.drop j).headD .dead).cs 0 (obs.drop j).tail nm).2.2.2).2.1,
     (dx ms ((p::os).drop (bL ks+1)) (bQ ks ((obs.drop j).headD .dead).cs 0 (obs.drop j).tail nm).2.2.1 (j+1+bL ks) (bQ ks ((obs.drop j).headD .dead).cs 0 (obs.drop j).tail nm).2.2.2).2.2):=rfl
   rw[fj,eA]at eb
   rw[eb]at hk |-
   obtain⟨hk1,hk2,hk3⟩:=hk
   have hj:j<obs.length:=fK (by rw[hk1];intro e;cases e)
   generalize hfull:(obs.getD j .dead).cs=full at *
   have hcE:nm+bL ks+lR ms<=E:=by simp only[lR]at hE;omega
   obtain⟨β1,tk1,c1,c2,c3,c4,c5,c6,c7,c8,c9⟩:=lz ho hA (E:=E) ks 0 (j+1) nm g hb (fun q hq=>ht q (by omega)) hk2 hf (by omega)
   rw[c5]at hk3 |-
   simp only at hk3 |-
   obtain⟨p1,p2,p3,p4⟩:=hp 0 _ (by simp) (hfm _ ai) (by rw[bX];exact q0)
   simp only[bp]at p1 p2 p3 p4
   have hpn:¬(nm<=p/\p<nm+bL ks):=fun h=>by have:=hf p h.1 (by omega);rw[p2]at this;cases this
   obtain⟨d1,d2,d3⟩:=c9 p hpn
   have hsame:=ho.same j b0 i2 q0
   have hown:=ho.own j hj
   rw[hk1]at hown
   obtain⟨b,vs,e,o1,o2,o3,o4,o5,o6⟩:=hown
   rw[hsame]at o1;cases o1
   have hβp:β1 p=some (.cells b0):=by rw[d3];exact p3
   have hupd:cx β1 p (some (.cells b0))=β1:=by
    funext q
    by_cases e:q=p
    ·subst e;rw[aN,hβp]
    ·rw[a6 _ _ _ _ e]
   have o3':vs.size=full.length:=o3
   obtain⟨g2,b2⟩:=c1.take ho hA c2 hj (fun h=>by
    rcases c3 j h with h|h
    ·exact ht j (aw _) h
    ·omega) (by rw[hk1];rfl) hsame (m:=p) (by exact d1.trans p1) (.inr hβp) (fun b' hb'=>(p4 b' hb').symm)
    (x:=.cells (bQ ks full 0 (obs.drop (j+1)) nm).1)
    ⟨b0,vs,e,aN _ _ _,o2,by rw[o3',c6,c7];omega,fun i hi=>by
     rw[hupd]
     have:=o4 i (by
      rw[c6]at hi;have:i<full.length:=by omega
      exact this)
     exact c8 i _ (by omega) (by rw[aZ];exact this),o5,o6⟩
   rw[hupd]at g2 b2
   have hus:cx (eY s.us (runN nm (bL ks))) p true=eY s.us (runN nm (bL ks)):=vq (d2.trans p2)
   simp only[hus]at g2 b2
   have hn2:=nodup_cons hnd
   obtain⟨β2,tk',e1,e2,e3,e4,e5⟩:=jM ho hA hL hin ms ((p::os).drop (bL ks+1)) (j+1+bL ks) (nm+bL ks) g2 b2 (fun q hq hq'=>by
    rcases aH.1 hq' with rfl|h
    ·omega
    ·rcases c3 q h with h|h
     ·exact ht q (by omega) h
     ·omega) hal' (by simp at hol |-;omega) (lg _ hnd) (fun q b hq hx hb=>by
    have hd:=(hp.drop (bL ks+1)) q b hq (by rw[show j+(bL ks+1)+q=j+1+bL ks+q by omega];exact hx) (by rw[show j+(bL ks+1)+q=j+1+bL ks+q by omega];exact hb)
    generalize hx:((p::os).drop (bL ks+1)).getD q 0=x at hd |-
    have hxp:x≠p:=fun e=>by
     subst e
     apply hn2.1
     rw[<-hx]
     simp only[List.drop_succ_cons,cm,au]at hq |-
     have:(os.drop (bL ks)).getD q 0=os[bL ks+q]'(by omega):=by simp[aa,cO,show bL ks+q<os.length by omega]
     rw[this];exact bN _
    obtain⟨x1,x2,x3,x4⟩:=hd
    have hxn:¬(nm<=x/\x<nm+bL ks):=fun h=>by have:=hf x h.1 (by omega);rw[x2]at this;cases this
    obtain⟨y1,y2,y3⟩:=c9 x hxn
    refine⟨?_,y2.trans x2,by rw[y3];exact x3,x4⟩
    show cx _ p _ x=none
    rw[a6 _ _ _ _ hxp];exact y1.trans x1) (fun q hq=>hfm q (al _ hq)) hk3 (fun m h1 h2=>by
    obtain⟨_,y2,_⟩:=c9 m (by omega)
    exact y2.trans (hf m (by omega) h2)) (by omega)
   have eob:cD s.ob ((bQ ks full 0 (obs.drop (j+1)) nm).2.1++(p,some (.cells (bQ ks full 0 (obs.drop (j+1)) nm).1))::(dx ms ((p::os).drop (bL ks+1)) (obs.drop (j+1+bL ks)) (j+1+bL ks) (nm+bL ks)).2.1) =
    cD (cx (cD s.ob (bQ ks full 0 (obs.drop (j+1)) nm).2.1) p (some (.cells (bQ ks full 0 (obs.drop (j+1)) nm).1))) (dx ms ((p::os).drop (bL ks+1)) (obs.drop (j+1+bL ks)) (j+1+bL ks) (nm+bL ks)).2.1:=by rw[mj];rfl
   have eus:eY s.us (sO (.obj ks::ms) nm)=eY (eY s.us (runN nm (bL ks))) (sO ms (nm+bL ks)):=nP _ _ _
   rw[eob,eus]
   refine⟨β2,tk',e1,e2,fun q hq=>?_,?_,fun m h1 h2=>e5 m (by simp only[lR]at h1;omega) h2⟩
   ·rcases e3 q hq with h|h
    ·rcases aH.1 h with rfl|h
     ·exact .inr (by simp only[eD];omega)
     ·rcases c3 q h with h|h
      ·exact .inl h
      ·exact .inr (by simp only[eD];omega)
    ·exact .inr (by simp only[eD];omega)
   ·rw[e4];simp only[eD,lR]
    rw[show j+1+bL ks+eD ms=j+(eD ms+1+bL ks) by omega,show nm+bL ks+lR ms=nm+(bL ks+lR ms) by omega]
end
end Go.VL
namespace Go.VL
open Go Go.RowKit
section
variable {P:Program} {M M0:Mem} {β β' βc:Lo} {w w':World} {n L:Nat} {A:jz} {s:St} {a:Act} {r:AV} {obs:List Ob} {v:Value}
theorem Dd(g:di n A s a w M β){m:Nat}(h:s.us m=false)(l:Loc):Lo.le β (cx β m (some l)):=fun o q hq=>by
 by_cases e:o=m
 ·subst e;rw[(g.us o h).1]at hq;cases hq
 ·rw[a6 _ _ _ _ e];exact hq
theorem dM:∀(ks:List CK) (cs:List AV) (i:Nat) (obs:List Ob) (nm:Nat),(bQ ks cs i obs nm).2.1.map (·.1)=runN nm (bL ks)/\(bQ ks cs i obs nm).2.2.2=nm+bL ks
 |[],cs,i,obs,nm=>⟨rfl,rfl⟩
 | .lk k::ks,cs,i,obs,nm=>dM ks cs (i+1) obs nm
 |
  .vec h::ks,cs,i,obs,nm=>by
  obtain⟨h1,h2⟩:=dM ks cs (i+1) obs.tail (nm+1)
  refine⟨?_,?_⟩
  ·show nm::(bQ ks cs (i+1) obs.tail (nm+1)).2.1.map (·.1)=_
   rw[h1];rfl
  ·show (bQ ks cs (i+1) obs.tail (nm+1)).2.2.2=_
   rw[h2];simp only[bL];omega
theorem kZ:∀(ks:List CK) (cs:List AV) (i:Nat) (obs:List Ob) (nm:Nat),(bQ ks cs i obs nm).2.2=(obs.drop (bL ks),nm+bL ks)
 |[],cs,i,obs,nm=>rfl
 | .lk k::ks,cs,i,obs,nm=>kZ ks cs (i+1) obs nm
 |
  .vec h::ks,cs,i,obs,nm=>by
  show (bQ ks cs (i+1) obs.tail (nm+1)).2.2=_
  rw[kZ ks cs (i+1) obs.tail (nm+1)]
  simp only[bL]
  rw[<-List.drop_one,List.drop_drop,show 1+bL ks=bL ks+1 by omega,show nm+1+bL ks=nm+(bL ks+1) by omega]
theorem nI{T:eE}{own:List Nat}{oa:List CK}:∀(ts:List Nat) (i j nm:Nat) (o:List Ob) (m:Nat),m∈(eu T own oa r ts i j o nm).2.2.map (·.1)->nm<=m
 |[],i,j,nm,o,m,hm=>by simp[eu]at hm
 |
  t::ts,i,j,nm,o,m,hm=>by
  simp only[eu]at hm
  cases ho:own.any (aJ i)with
  |
   true =>
   rw[ho]at hm
   cases ha:(T t).agg with
   |
    true =>
    rw[ha]at hm
    simp only[cond_true,List.map_append,aK,kZ]at hm
    rw[(dM _ _ _ _ _).1,nK]at hm
    rcases hm with hm|hm
    ·exact hm.1
    ·have:=nI _ _ _ _ _ _ hm;omega
   |
    false =>
    rw[ha]at hm
    simp only[cond_true,cond_false,bz,aH]at hm
    rcases hm with rfl|hm
    ·exact aw _
    ·exact Nat.le_of_succ_le (nI _ _ _ _ _ _ hm)
  |false=>rw[ho]at hm;exact nI _ _ _ _ _ _ hm
theorem vg{oa:List CK}(ho:Out w M0 βc L r obs v w' M β')(hA:∀b,(w.heap.size<=b\/∃i,i<L/\dZ βc i=some b)->A.w0.heap.size<=b\/A.uT b)(x:AV)(j nm:Nat){s:St}{β:Lo}{tk:List Nat}(g:di n A s a w' M β)(hb:ni s β w L βc obs β' tk)(ht:∀q,j<=q->q∉tk)
 (hp:x=.agg x.cs/\aL oa x.cs 0 j (obs.drop j)) (hf:∀m,m∈(bQ oa x.cs 0 (obs.drop j) nm).2.1.map (·.1)->s.us m=false) :
 ∃β2 tk',di n A {s with ob:=cD s.ob (bQ oa x.cs 0 (obs.drop j) nm).2.1,us:=eY s.us ((bQ oa x.cs 0 (obs.drop j) nm).2.1.map (·.1))} a w' M β2/\ni {s with ob:=cD s.ob (bQ oa x.cs 0 (obs.drop j) nm).2.1,us:=eY s.us ((bQ oa x.cs 0 (obs.drop j) nm).2.1.map (·.1))} β2 w L βc obs β' tk' /\
  (∀q,q∈tk'->q∈tk\/(j<=q/\q<j+bL oa))/\Lo.le β β2/\(∀u,bx M β' x u->bx M β2 (.agg (bQ oa x.cs 0 (obs.drop j) nm).1) u)/\∀m,nm+bL oa<=m->eY s.us ((bQ oa x.cs 0 (obs.drop j) nm).2.1.map (·.1)) m=s.us m:=by
 rw[(dM _ _ _ _ _).1]at hf |-
 obtain⟨β2,tk',c1,c2,c3,c4,c5,c6,c7,c8,c9⟩:=lz ho hA (E:=nm+bL oa) oa 0 j nm g hb ht hp.2 (fun m h1 h2=>hf m ((nK _ _ _).2 ⟨h1,h2⟩)) (aw _)
 refine⟨β2,tk',c1,c2,c3,c4,fun u hu=>?_,fun m hm=>(c9 m (by omega)).2.1⟩
 rw[hp.1]at hu
 obtain⟨us,rfl,hl,hr,hone⟩:=fM hu
 refine .agg _ _ _ (by omega) (fun i hi=>hone i (by omega)) fun i hi=>?_
 have:=c8 i (us.getD i undef) (by omega) (by rw[aZ];exact hr i (by omega))
 exact this
theorem mJ{T:eE}{own:List Nat}{oa:List CK}(ho:Out w M0 βc L r obs v w' M β')(hA:∀b,(w.heap.size<=b\/∃i,i<L/\dZ βc i=some b)->A.w0.heap.size<=b\/A.uT b){vs:List Value}{E:Nat} :
 ∀(ts:List Nat) (i j nm:Nat) {s:St} {β:Lo} {tk:List Nat},di n A s a w' M β->ni s β w L βc obs β' tk->(∀q,j<=q->q∉tk)->gn (eu T own oa r ts i j (obs.drop j) nm).1->(∀q,q<ts.length->bx M β' (r.comp (i+q)) (vs.getD (i+q) undef)) ->
  (∀m,m∈(eu T own oa r ts i j (obs.drop j) nm).2.2.map (·.1)->s.us m=false) ->
 ∃β2,di n A {s with ob:=cD s.ob (eu T own oa r ts i j (obs.drop j) nm).2.2,us:=eY s.us ((eu T own oa r ts i j (obs.drop j) nm).2.2.map (·.1))} a w' M β2/\Lo.le β β2/\(eu T own oa r ts i j (obs.drop j) nm).2.1.length=ts.length /\
  ∀q,q<ts.length->bx M β2 ((eu T own oa r ts i j (obs.drop j) nm).2.1.getD q .any) (vs.getD (i+q) undef)
 |[],i,j,nm,s,β,tk,g,hb,ht,hp,hr,hf=>⟨β,g,Lo.le.refl _,rfl,fun q hq=>by simp at hq⟩
 |
  t::ts,i,j,nm,s,β,tk,g,hb,ht,hp,hr,hf=>by
  have hr':∀q,q<ts.length->bx M β' (r.comp (i+1+q)) (vs.getD (i+1+q) undef):=fun q hq=>by
   have:=hr (q+1) (by simpa using hq)
   rw[show i+1+q=i+(q+1) by omega];exact this
  cases ho':own.any (aJ i)with
  |true =>
   cases hag:(T t).agg with
   |true =>
    have eb:eu T own oa r (t::ts) i j (obs.drop j) nm=((r.comp i=.agg (r.comp i).cs/\aL oa (r.comp i).cs 0 j (obs.drop j))::(eu T own oa r ts (i+1) (j+bL oa) (obs.drop (j+bL oa)) (nm+bL oa)).1,.agg (bQ oa (r.comp i).cs 0 (obs.drop j) nm).1::(eu T own oa r ts (i+1) (j+bL oa) (obs.drop (j+bL oa)) (nm+bL oa)).2.1,(bQ oa (r.comp i).cs 0 (obs.drop j) nm).2.1++(eu T own oa r ts (i+1) (j+bL oa) (obs.drop (j+bL oa)) (nm+bL oa)).2.2):=by
     simp only[eu,ho',hag,cond_true,kZ,List.drop_drop]
    rw[eb]at hp hf |-
    obtain⟨hp1,hp3⟩:=hp
    simp only[List.map_append,aK]at hf
    obtain⟨β1,tk',g1,b1,t1,hle,r1,hu⟩:=vg ho hA (r.comp i) j nm g hb ht hp1 (fun m hm=>hf m (.inl hm))
    obtain⟨β2,c1,c2,c3,c4⟩:=mJ ho hA (E:=E) ts (i+1) (j+bL oa) (nm+bL oa) g1 b1 (fun q hq hq'=>by
     rcases t1 q hq' with h|h
     ·exact ht q (by omega) h
     ·omega) hp3 hr' (fun m hm=>(hu m (nI _ _ _ _ _ _ hm)).trans (hf m (.inr hm)))
    refine⟨β2,?_,fun o q hq=>c2 o q (hle o q hq),by simp[c3],fun q hq=>?_⟩
    ·simp only[mj,List.map_append,nP];exact c1
    ·cases q with
     |zero=>simpa using(r1 _ (hr 0 (by simp))).mono (Mem.le.refl _) c2
     |
      succ q =>
      have:=c4 q (by simpa using hq)
      rw[show i+(q+1)=i+1+q by omega]
      simpa using this
   |false =>
    have eb:eu T own oa r (t::ts) i j (obs.drop j) nm=((r.comp i=.vec j/\obs.getD j .dead=.vec (qe T t) (obs.getD j .dead).es)::(eu T own oa r ts (i+1) (j+1) (obs.drop (j+1)) (nm+1)).1,.vec nm::(eu T own oa r ts (i+1) (j+1) (obs.drop (j+1)) (nm+1)).2.1,(nm,some (.vec (qe T t) (obs.getD j .dead).es))::(eu T own oa r ts (i+1) (j+1) (obs.drop (j+1)) (nm+1)).2.2):=by
     rw[<-fj,<-eA]
     simp only[eu,ho',hag,cond_true,cond_false]
    rw[eb]at hp hf |-
    obtain⟨⟨hp1,hp2⟩,hp3⟩:=hp
    have hj:j<obs.length:=fK (by rw[hp2];intro e;cases e)
    have hus:=hf nm (by simp)
    obtain⟨l,g1,b1,r1⟩:=g.uf ho hA hb hj (ht j (aw _)) hp2 hus
    have hle:=Dd g hus l
    by_cases hdup:nm∈(eu T own oa r ts (i+1) (j+1) (obs.drop (j+1)) (nm+1)).2.2.map (·.1)
    ·exfalso
     have:=nI _ _ _ _ _ _ hdup
     omega
    ·obtain⟨β2,c1,c2,c3,c4⟩:=mJ ho hA (E:=E) ts (i+1) (j+1) (nm+1) g1 b1 (fun q hq hq'=>by
      rcases aH.1 hq' with rfl|h
      ·omega
      ·exact ht q (by omega) h) hp3 hr' (fun m hm=>by
       show cx s.us nm true m=false
       rw[a6 _ _ _ _ (fun e=>hdup (by subst e;exact hm))];exact hf m (by simp at hm |-;exact .inr hm))
     refine⟨β2,c1,fun o q hq=>c2 o q (hle o q hq),by simp[c3],fun q hq=>?_⟩
     cases q with
     |
      zero =>
      have:=hr 0 (by simp)
      rw[bX,hp1]at this
      simpa using(r1 _ this).mono (Mem.le.refl _) c2
     |
      succ q =>
      have:=c4 q (by simpa using hq)
      rw[show i+(q+1)=i+1+q by omega]
      simpa using this
  |
   false =>
   have eb:eu T own oa r (t::ts) i j (obs.drop j) nm=(oI (T t) (r.comp i)::(eu T own oa r ts (i+1) j (obs.drop j) nm).1,mc (T t) (r.comp i)::(eu T own oa r ts (i+1) j (obs.drop j) nm).2.1,(eu T own oa r ts (i+1) j (obs.drop j) nm).2.2):=by
    simp only[eu,ho',cond_false]
   rw[eb]at hp hf |-
   obtain⟨hp1,hp3⟩:=hp
   obtain⟨β2,c1,c2,c3,c4⟩:=mJ ho hA (E:=E) ts (i+1) j nm g hb ht hp3 hr' hf
   refine⟨β2,c1,c2,by simp[c3],fun q hq=>?_⟩
   cases q with
   |zero=>simpa using od (β':=β2) t (hr 0 (by simp)) hp1
   |
    succ q =>
    have:=c4 q (by simpa using hq)
    rw[show i+(q+1)=i+1+q by omega]
    simpa using this
theorem sT{T:eE}{own:List Nat}{ow:List LK}{oa:List CK}(ho:Out w M0 βc L r obs v w' M β')(hA:∀b,(w.heap.size<=b\/∃i,i<L/\dZ βc i=some b)->A.w0.heap.size<=b\/A.uT b)(t j nm:Nat){s:St}{β:Lo}{tk:List Nat}(g:di n A s a w' M β)(hb:ni s β w L βc obs β' tk)
 (ht:∀q,j<=q->q∉tk) (hp:gn (dR T own ow oa t r j (obs.drop j) nm).1) (hf:∀m,m∈(dR T own ow oa t r j (obs.drop j) nm).2.2.map (·.1)->s.us m=false) :
 ∃β2,di n A {s with ob:=cD s.ob (dR T own ow oa t r j (obs.drop j) nm).2.2,us:=eY s.us ((dR T own ow oa t r j (obs.drop j) nm).2.2.map (·.1))} a w' M β2/\bx M β2 (dR T own ow oa t r j (obs.drop j) nm).2.1 v:=by
 have plain:(∀ts,(T t).k≠.tuple ts)->∃β2,di n A {s with ob:=cD s.ob (dR T own ow oa t r j (obs.drop j) nm).2.2,us:=eY s.us ((dR T own ow oa t r j (obs.drop j) nm).2.2.map (·.1))} a w' M β2/\bx M β2 (dR T own ow oa t r j (obs.drop j) nm).2.1 v:=fun h=>by
  by_cases hpt:(T t).k=.pt/\own.any (aJ 0)=true
  ·obtain⟨hk,ho'⟩:=hpt
   have eb:dR T own ow oa t r j (obs.drop j) nm=([r=.ref j 0/\obs.getD j .dead=.cells (obs.getD j .dead).cs/\(obs.getD j .dead).cs.length=ow.length/\bF ow (obs.getD j .dead).cs 0],.ref nm 0,[(nm,some (.cells (jh ow (obs.getD j .dead).cs 0)))]):=by
    rw[<-fj]
    unfold dR
    rw[hk];simp only[ho',cond_true]
   rw[eb]at hp hf |-
   obtain⟨⟨hp1,hp2,hp3,hp4⟩,_⟩:=hp
   have hj:j<obs.length:=fK (by rw[hp2];intro e;cases e)
   obtain⟨l,g1,r1⟩:=g.DH ho hA hb hj (ht j (aw _)) hp2 hp3 hp4 (hf nm (by simp))
   have:=ho.rep
   rw[hp1]at this
   exact⟨_,g1,r1 v this⟩
  have eb:dR T own ow oa t r j (obs.drop j) nm=bif own.any (aJ 0)then(bif (T t).agg then([r=.agg r.cs/\aL oa r.cs 0 j (obs.drop j)],.agg (bQ oa r.cs 0 (obs.drop j) nm).1,(bQ oa r.cs 0 (obs.drop j) nm).2.1)else([r=.vec j/\obs.getD j .dead=.vec (qe T t) (obs.getD j .dead).es],.vec nm,[(nm,some (.vec (qe T t) (obs.getD j .dead).es))]))
   else([oI (T t) r],mc (T t) r,[]):=by
   rw[<-fj]
   unfold dR
   cases hk:(T t).k<;>first|rfl|exact absurd hk (h _)|(cases ho':own.any (aJ 0)with|true=>exact absurd ⟨hk,ho'⟩ hpt|false=>rfl)
  rw[eb]at hp hf |-
  cases ho':own.any (aJ 0)with
  |
   true =>
   rw[ho']at hp hf
   cases hag:(T t).agg with
   |
    true =>
    rw[hag]at hp hf
    simp only[cond_true]at hp hf |-
    obtain⟨hp1,_⟩:=hp
    obtain⟨β1,tk',g1,b1,t1,hle,r1,hu⟩:=vg ho hA r j nm g hb ht hp1 hf
    exact⟨β1,g1,r1 v ho.rep⟩
   |false =>
   rw[hag]at hp hf
   simp only[cond_true,cond_false]at hp hf |-
   obtain⟨⟨hp1,hp2⟩,_⟩:=hp
   have hj:j<obs.length:=fK (by rw[hp2];intro e;cases e)
   obtain⟨l,g1,b1,r1⟩:=g.uf ho hA hb hj (ht j (aw _)) hp2 (hf nm (by simp))
   have:=ho.rep
   rw[hp1]at this
   exact⟨_,g1,r1 v this⟩
  |
   false =>
   rw[ho']at hp
   simp only[cond_false]at hp |-
   exact⟨β,g,od t ho.rep hp.1⟩
 by_cases htu:∃ts,(T t).k=.tuple ts
 ·obtain⟨ts,hk⟩:=htu
  cases ts with
  |
   nil =>
   have e:dR T own ow oa t r j (obs.drop j) nm=([],.any,[]):=by unfold dR;rw[hk]
   rw[e];exact⟨β,g,.any _ _⟩
  |
   cons t1 tl =>
   have e:dR T own ow oa t r j (obs.drop j) nm=(let q:=eu T own oa r (t1::tl) 0 j (obs.drop j) nm;((r=.cy ((bf (t1::tl).length).map r.comp))::q.1,.cy q.2.1,q.2.2)):=by unfold dR;rw[hk]
   rw[e]at hp hf |-
   obtain⟨hp1,hp2⟩:=hp
   have hr:=ho.rep
   rw[hp1]at hr
   have:∃vs:List Value,v=.tuple vs.toArray/\((bf (t1::tl).length).map r.comp).length=vs.length/\∀i,i<((bf (t1::tl).length).map r.comp).length->bx M β' (((bf (t1::tl).length).map r.comp).getD i .any) (vs.getD i undef):=by
    cases hr with|cy _ _ vs hl h=>exact⟨vs,rfl,hl,h⟩
   obtain⟨vs,rfl,hl,h⟩:=this
   simp only[cg,List.length_range]at hl h
   obtain⟨β2,c1,c2,c3,c4⟩:=mJ (T:=T) ho hA (E:=0) (vs:=vs) (t1::tl) 0 j nm g hb ht hp2 (fun q hq=>by
    have:=h q hq
    rw[aZ]
    have hq':q<tl.length+1:=by simpa using hq
    simpa[aa,List.getElem?_range hq']using this) hf
   exact⟨β2,c1,.cy _ _ _ (by rw[c3];exact hl) fun i hi=>by have:=c4 i (by omega);rw[aZ]at this;exact this⟩
 ·exact plain fun ts h=>htu ⟨ts,h⟩
end
end Go.VL
namespace Go.VL
open Go Go.RowKit
section
variable {P:Program} {M:Mem} {β:Lo} {w w':World} {n:Nat} {A:jz} {s:St} {a:Act}
theorem nh:∀(l:List (Nat×Option Ob)) (f:Nat->Option Ob) (o:Nat),o∉l.map (·.1)->cD f l o=f o
 |[],f,o,h=>rfl
 |
  (q,c)::l,f,o,h=>by
  show cD (cx f q c) l o=f o
  rw[nh l _ o (fun hh=>h (al _ hh)),a6 _ _ _ _ (fun e=>h (by rw[e];exact ai))]
theorem rl:∀(l:List Nat) (f:Nat->Bool) (o:Nat),o∉l->eY f l o=f o
 |[],f,o,h=>rfl
 |
  q::l,f,o,h=>by
  show eY (cx f q true) l o=f o
  rw[rl l _ o (fun hh=>h (al _ hh)),a6 _ _ _ _ (fun e=>h (by rw[e];exact ai))]
theorem n0:∀(ms:List MK) (nm m:Nat),m∈sO ms nm↔nm<=m/\m<nm+lR ms
 |[],nm,m=>by simp only[sO,lR,List.not_mem_nil,false_iff];omega
 | .vec::ms,nm,m=>n0 ms nm m
 | .sn kz::ms,nm,m=>n0 ms nm m
 | .cC _ _::ms,nm,m=>n0 ms nm m
 |
  .obj ks::ms,nm,m=>by
  simp only[sO,lR,aK,nK,n0 ms]
  omega
theorem lV{l:List Nat}{o:Nat}:fS l o=true↔o∈l:=by
 unfold fS
 rw[cf]
 exact⟨fun⟨x,hx,e⟩=>by rw[aE e];exact hx,fun h=>⟨o,h,Nat.beq_refl o⟩⟩
theorem um(ob:Nat->Option Ob)(os:List Nat):(fE ob os).map (·.1)=os:=by
 unfold fE;rw[List.map_map];exact List.map_id' os
theorem yG{t:TI}{r:AV}{v:Value}{M M':Mem}{β β0:Lo}(hs:AK t=true)(h:bx M' β0 r v)(hh:oI t r):bx M β (mc t r) v:=by
 simp only[AK,az,cc]at hs
 obtain⟨h1,h2⟩:=hs
 unfold oI at hh
 unfold mc
 rw[h1]at hh |-
 simp only[cond_false]at hh |-
 cases hk:Av t<;>rw[hk]at h2 hh<;>first|(cases h2;done)|skip
 ·obtain⟨n,rfl⟩:=hh;rw[dE h];exact .v _ _
 ·obtain⟨n,rfl⟩:=hh;rw[dE h];exact .b _ _
 ·obtain⟨n,rfl⟩:=hh;rw[dE h];exact .v _ _
theorem Ci{T:eE}{ow:List LK}{oa:List CK}{r:AV}{v:Value}{M M':Mem}{β β0:Lo}(t j:Nat)(obs:List Ob)(nm:Nat)(hs:HT T t=true)(h:bx M' β0 r v)(hp:gn (dR T [] ow oa t r j obs nm).1) :
 (dR T [] ow oa t r j obs nm).2.2=[]/\bx M β (dR T [] ow oa t r j obs nm).2.1 v:=by
 obtain⟨q1,_⟩:=Dr (T:=T) (β':=β) t j obs nm hp h
 refine⟨q1,?_⟩
 have plain:(∀ts,(T t).k≠.tuple ts)->bx M β (dR T [] ow oa t r j obs nm).2.1 v:=fun hn=>by
  have e:dR T [] ow oa t r j obs nm=([oI (T t) r],mc (T t) r,[]):=by
   unfold dR
   cases hk:(T t).k<;>first|rfl|exact absurd hk (hn _)
  have e2:HT T t=AK (T t):=by
   unfold HT
   cases hk:(T t).k<;>first|rfl|exact absurd hk (hn _)
  rw[e]at hp |-
  rw[e2]at hs
  exact yG hs h hp.1
 by_cases htu:∃ts,(T t).k=.tuple ts
 ·obtain⟨ts,hk⟩:=htu
  have hs':ts.all (fun u=>AK (T u))=true:=by unfold HT at hs;rw[hk]at hs;exact hs
  cases ts with
  |
   nil =>
   have e:dR T [] ow oa t r j obs nm=([],.any,[]):=by unfold dR;rw[hk]
   rw[e];exact .any _ _
  |
   cons t1 tl =>
   have e:dR T [] ow oa t r j obs nm=(let q:=eu T [] oa r (t1::tl) 0 j obs nm;((r=.cy ((bf (t1::tl).length).map r.comp))::q.1,.cy q.2.1,q.2.2)):=by unfold dR;rw[hk]
   rw[e]at hp |-
   obtain⟨hp1,hp2⟩:=hp
   rw[hp1]at h
   have:∃vs:List Value,v=.tuple vs.toArray/\((bf (t1::tl).length).map r.comp).length=vs.length/\∀i,i<((bf (t1::tl).length).map r.comp).length->bx M' β0 (((bf (t1::tl).length).map r.comp).getD i .any) (vs.getD i undef):=by
    cases h with|cy _ _ vs hl h=>exact⟨vs,rfl,hl,h⟩
   obtain⟨vs,rfl,hl,h⟩:=this
   simp only[cg,List.length_range]at hl h
   have go:∀(ts:List Nat) (i j nm:Nat) (obs:List Ob),ts.all (fun u=>AK (T u))=true->gn (eu T [] oa r ts i j obs nm).1->(∀q,q<ts.length->bx M' β0 (r.comp (i+q)) (vs.getD (i+q) undef)) ->
    (eu T [] oa r ts i j obs nm).2.1.length=ts.length/\∀q,q<ts.length->bx M β ((eu T [] oa r ts i j obs nm).2.1.getD q .any) (vs.getD (i+q) undef):=by
    intro ts
    induction ts with
    |nil=>intro i j nm obs _ _ _;exact⟨rfl,fun q hq=>by simp at hq⟩
    |
     cons t ts ih =>
     intro i j nm obs ha hp hr
     simp only[cT,az]at ha
     simp only[eu,List.any_nil,cond_false]at hp |-
     obtain⟨z1,z2⟩:=ih (i+1) j nm obs ha.2 hp.2 fun q hq=>by
      have:=hr (q+1) (by simpa using hq)
      rw[show i+(q+1)=i+1+q by omega]at this
      exact this
     refine⟨by simp[z1],fun q hq=>?_⟩
     cases q with
     |zero=>simpa using yG (M:=M) (β:=β) ha.1 (hr 0 (by simp)) hp.1
     |
      succ q =>
      have:=z2 q (by simpa using hq)
      rw[show i+(q+1)=i+1+q by omega]
      simpa using this
   obtain⟨z1,z2⟩:=go (t1::tl) 0 j nm obs hs' hp2 fun q hq=>by
    have:=h q hq
    rw[aZ]
    have hq':q<tl.length+1:=by simpa using hq
    simpa[aa,List.getElem?_range hq']using this
   exact .cy _ _ _ (by rw[z1];exact hl) fun i hi=>by have:=z2 i (by omega);rw[aZ]at this;exact this
 ·exact plain fun ts h=>htu ⟨ts,h⟩
theorem qV{t:TI}{r:AV}{v:Value}{M M':Mem}{β β0:Lo}(hs:AK t=true)(h:bx M' β0 r v)(hh:oI t r):bx M β r v:=by
 simp only[AK,az,cc]at hs
 obtain⟨h1,h2⟩:=hs
 unfold oI at hh
 rw[h1]at hh
 simp only[cond_false]at hh
 cases hk:Av t<;>rw[hk]at h2 hh<;>first|(cases h2;done)|skip
 ·obtain⟨n,rfl⟩:=hh;rw[dE h];exact .v _ _
 ·obtain⟨n,rfl⟩:=hh;rw[dE h];exact .v _ _
 ·obtain⟨n,rfl⟩:=hh;rw[dE h];exact .v _ _
theorem rV{o:Nat}{v:Value}{M M':Mem}{β:Lo}(h:bx M' β (.vec o) v):bx M β (.vec o) v:=by
 cases h with|vec _ _ _ sz ho h=>exact .vec _ _ _ sz ho h
theorem nE{M M':Mem}{β:Lo}:∀(ks:List CK) {full:List AV} {i j:Nat} {obs:List Ob},GF ks=true->aL ks full i j obs->full.length=i+ks.length/\∀q u,q<ks.length->bx M' β (full.getD (i+q) .any) u->bx M β (full.getD (i+q) .any) u
 |[],full,i,j,obs,hp,h=>⟨h,fun q u hq=>by simp at hq⟩
 |
  .lk k::ks,full,i,j,obs,hp,h=>by
  obtain⟨h1,h2⟩:=h
  simp only[GF,az]at hp
  obtain⟨q1,q2⟩:=nE ks hp.2 h2
  refine⟨by simp;omega,fun q u hq hr=>?_⟩
  cases q with
  |
   zero =>
   rw[bX]at hr |-
   cases k<;>first|(cases hp.1;done)|skip
   ·obtain⟨n,e⟩:=h1;rw[e]at hr |-;rw[dE hr];exact .v _ _
   ·obtain⟨n,e⟩:=h1;rw[e]at hr |-;rw[dE hr];exact .v _ _
   ·obtain⟨n,e⟩:=h1;rw[e]at hr |-;rw[dE hr];exact .v _ _
  |
   succ q =>
   have:=q2 q u (by simpa using hq)
   rw[show i+1+q=i+(q+1) by omega]at this
   exact this hr
 |
  .vec hz::ks,full,i,j,obs,hp,h=>by
  obtain⟨h1,_,h2⟩:=h
  obtain⟨q1,q2⟩:=nE ks (by simpa only[GF]using hp) h2
  refine⟨by simp;omega,fun q u hq hr=>?_⟩
  cases q with
  |
   zero =>
   rw[bX]at hr |-
   rw[h1]at hr |-;exact rV hr
  |
   succ q =>
   have:=q2 q u (by simpa using hq)
   rw[show i+1+q=i+(q+1) by omega]at this
   exact this hr
theorem tn{M M':Mem}{β:Lo}{oa:List CK}{x:AV}{u:Value}{j:Nat}{obs:List Ob}(hp:GF oa=true)(h:x=.agg x.cs/\aL oa x.cs 0 j obs)(hr:bx M' β x u):bx M β x u:=by
 obtain⟨q1,q2⟩:=nE (M:=M) (M':=M') (β:=β) oa hp h.2
 rw[h.1]at hr |-
 obtain⟨us,rfl,hl,hr,hone⟩:=fM hr
 refine .agg _ _ _ hl hone fun i hi=>?_
 have:=q2 i (us.getD i undef) (by omega)
 rw[aZ]at this
 exact this (hr i hi)
theorem yj{T:eE}{own:List Nat}{oa:List CK}{r:AV}{vs:List Value}{M M':Mem}{β:Lo}:∀(ts:List Nat) (i j nm:Nat) (obs:List Ob),Ic T own oa ts i=true->gn (eu T own oa r ts i j obs nm).1->(∀q,q<ts.length->bx M' β (r.comp (i+q)) (vs.getD (i+q) undef)) ->
 ∀q,q<ts.length->bx M β (r.comp (i+q)) (vs.getD (i+q) undef)
 |[],i,j,nm,obs,_,_,_,q,hq=>by simp at hq
 |
  t::ts,i,j,nm,obs,hs,hp,hr,q,hq=>by
  simp only[Ic,az]at hs
  have next:∀j' nm' obs',gn (eu T own oa r ts (i+1) j' obs' nm').1->(∀u,bx M' β (r.comp i) u->bx M β (r.comp i) u)->bx M β (r.comp (i+q)) (vs.getD (i+q) undef):=fun j' nm' obs' hp' h0=>by
   cases q with
   |zero=>exact h0 _ (by have:=hr 0 (by simp);simpa using this)
   |
    succ q =>
    have:=yj (M:=M) (M':=M') (β:=β) (vs:=vs) ts (i+1) j' nm' obs' hs.2 hp' (fun q hq=>by
     have:=hr (q+1) (by simpa using hq)
     rw[show i+1+q=i+(q+1) by omega];exact this) q (by simpa using hq)
    rw[show i+(q+1)=i+1+q by omega];exact this
  have hs1:=hs.1
  unfold Mf at hs1
  simp only[eu]at hp
  cases ho:own.any (aJ i)with
  |
   true =>
   rw[ho]at hp hs1
   cases ha:(T t).agg with
   |
    true =>
    rw[ha]at hp hs1
    simp only[cond_true]at hp hs1
    exact next _ _ _ hp.2 fun u hu=>tn hs1 hp.1 hu
   |
    false =>
    rw[ha]at hp
    simp only[cond_true,cond_false]at hp
    exact next _ _ _ hp.2 fun u hu=>by rw[hp.1.1]at hu |-;exact rV hu
  |
   false =>
   rw[ho]at hp hs1
   simp only[cond_false]at hp hs1
   exact next _ _ _ hp.2 fun u hu=>qV hs1 hu hp.1
theorem C7{T:eE}{own:List Nat}{ow:List LK}{oa:List CK}{r:AV}{v:Value}{M M':Mem}{β:Lo}(t j:Nat)(obs:List Ob)(nm:Nat)(hs:Fj T own oa t=true)(h:bx M' β r v)(hp:gn (dR T own ow oa t r j obs nm).1):bx M β r v:=by
 have plain:(∀ts,(T t).k≠.tuple ts)->bx M β r v:=fun hn=>by
  by_cases hpt:(T t).k=.pt
  ·unfold Fj at hs
   rw[hpt]at hs
   simp only[az,cc]at hs
   unfold dR at hp
   rw[hpt]at hp
   simp only[hs.1,cond_false]at hp
   exact qV hs.2 h hp.1
  ·have hs1:Mf T own oa 0 t=true:=by
    unfold Fj at hs
    cases hk:(T t).k<;>rw[hk]at hs<;>first|exact hs|exact absurd hk (hn _)|exact absurd hk hpt
   have hp1:gn (bif own.any (aJ 0)then(bif (T t).agg then [r=.agg r.cs/\aL oa r.cs 0 j obs]else [r=.vec j/\obs.headD .dead=.vec (qe T t) (obs.headD .dead).es])else [oI (T t) r]):=by
    unfold dR at hp
    cases hk:(T t).k<;>rw[hk]at hp<;>first|exact absurd hk (hn _)|exact absurd hk hpt|(cases ho:own.any (aJ 0)<;>rw[ho]at hp<;>cases ha:(T t).agg<;>rw[ha]at hp<;>exact hp)
   unfold Mf at hs1
   cases ho:own.any (aJ 0)with
   |
    true =>
    rw[ho]at hp1 hs1
    cases ha:(T t).agg with
    |true=>rw[ha]at hp1 hs1;exact tn hs1 hp1.1 h
    |
     false =>
     rw[ha]at hp1
     have:=hp1.1.1
     rw[this]at h |-;exact rV h
   |false=>rw[ho]at hp1 hs1;exact qV hs1 h hp1.1
 by_cases htu:∃ts,(T t).k=.tuple ts
 ·obtain⟨ts,hk⟩:=htu
  cases ts with
  |nil=>unfold Fj at hs;rw[hk]at hs;cases hs
  |
   cons t1 tl =>
   have hs':Ic T own oa (t1::tl) 0=true:=by unfold Fj at hs;rw[hk]at hs;exact hs
   have e:dR T own ow oa t r j obs nm=(let q:=eu T own oa r (t1::tl) 0 j obs nm;((r=.cy ((bf (t1::tl).length).map r.comp))::q.1,.cy q.2.1,q.2.2)):=by unfold dR;rw[hk]
   rw[e]at hp
   obtain⟨hp1,hp2⟩:=hp
   rw[hp1]at h |-
   have:∃vs:List Value,v=.tuple vs.toArray/\((bf (t1::tl).length).map r.comp).length=vs.length/\∀i,i<((bf (t1::tl).length).map r.comp).length->bx M' β (((bf (t1::tl).length).map r.comp).getD i .any) (vs.getD i undef):=by
    cases h with|cy _ _ vs hl h=>exact⟨vs,rfl,hl,h⟩
   obtain⟨vs,rfl,hl,h⟩:=this
   have z:=yj (M:=M) (M':=M') (β:=β) (vs:=vs) (t1::tl) 0 j nm obs hs' hp2 fun q hq=>by
    have:=h q (by simpa using hq)
    rw[aZ]
    have hq':q<tl.length+1:=by simpa using hq
    simpa[aa,List.getElem?_range hq']using this
   refine .cy _ _ _ hl fun i hi=>?_
   have hi':i<tl.length+1:=by simpa using hi
   have:=z i (by simpa using hi')
   rw[aZ]at this
   simpa[aa,List.getElem?_range hi']using this
 ·exact plain fun ts h=>htu ⟨ts,h⟩
theorem Out.plain{M1 M':Mem}{r:AV}{obs:List Ob}{v:Value}{βc β':Lo}(h:Out w M1 βc 0 r obs v w' M' β')(hM:M.le M1)(hp:∀x,x∈obs->dL x)(hr:bx M β' r v):Out w M βc 0 r obs v w' M β':=by
 have hno:∀b,(∀k,M'.c b k=none)->∀k,M.c b k=none:=fun b hb k=>by
  cases e:M.c b k with
  |none=>rfl
  |some u=>have:=h.le.c _ _ _ (hM.c _ _ _ e);rw[hb k]at this;cases this
 refine⟨Mem.le.refl _,⟨fun b k v hc=>h.agree _ _ _ (h.le.c _ _ _ (hM.c _ _ _ hc)),fun b hb=>h.agree.p _ (h.le.p _ (hM.p _ hb))⟩,hr,fun j hj=>?_,fun j b hj=>by omega,fun j l sz es hj=>by omega,h.apart,h.place,fun b k v hc=>.inl hc,⟨h.cC.os,h.cC.tape,h.cC.output,h.cC.size,h.cC.block⟩⟩
 have h1:=h.own j hj
 have h2:=hp (obs.getD j .dead) (by simp[aa,hj])
 cases e:obs.getD j .dead with
 |
  vec sz es =>
  rw[e]at h1 h2
  obtain⟨v,q1,q2,q3⟩:=h1
  refine⟨v,q1,q2,?_⟩
  rcases q3 with q3|⟨b,off,c,vs,e,r1,r2,r3,r4,r5,r6,r7⟩
  ·exact .inl q3
  ·refine .inr ⟨b,off,c,vs,e,r1,r2,r3,r4,fun i j hi hj=>?_,hno b r6,r7⟩
   have h3:=r5 i j hi hj
   have hl:=q2 i hi
   obtain⟨x,hx⟩:=h2 (es.getD i []) (by simp[aa,hi]) ((es.getD i []).getD j .any) (by
    have:j<(es.getD i []).length:=by omega
    rw[aa (l:=es.getD i []),bg this]
    exact bN _)
   rw[hx]at h3 |-
   rw[dE h3];exact .v _ _
 |cells cs=>rw[e]at h2;exact h2.elim
 |gW cs=>rw[e]at h2;exact h2.elim
 |l5 cs=>rw[e]at h2;exact h2.elim
 |mv sz cs=>rw[e]at h2;exact h2.elim
 |dead=>trivial
theorem di.looked(g:di n A s a w M β){M1:Mem}(hM:M.le M1){r:AV}{obs:List Ob}{v:Value}{M':Mem}{βc β':Lo}(h:Out w M1 βc 0 r obs v w' M' β'):di n A s a w' M β:=by
 have same:∀b,b<w.heap.size->w'.heap[b]?=w.heap[b]?:=fun b hb=>h.cC.block b hb (fun⟨i,hi,_⟩=>by omega)
 refine {g with agree:=⟨fun b k v hc=>h.agree _ _ _ (h.le.c _ _ _ (hM.c _ _ _ hc)),fun b hb=>h.agree.p _ (h.le.p _ (hM.p _ hb))⟩,own:=fun o x hx=>?_,cC:=?_}
 ·exact(g.own o x hx).mono (Mem.le.refl _) (Lo.le.refl _) fun b hl hb=>⟨same b ((g.own o x hx).lt hl hb),(g.own o x hx).Ae hl hb⟩
 ·exact g.cC.jT h.cC.os h.cC.tape h.cC.output h.cC.size fun b hlt _=>same b (Nat.lt_of_lt_of_le hlt g.cC.size)
theorem Bd{T:eE}{cfg:Nat->FC}(g:di n A s a w M β){o:Oper}{f f':Nat}{asq as':List AV}{ins:List Ob}{wr:List Nat}{k:AV->List Ob->List Prop×De}{vs:List Value}
 (hE:fR T cfg (ev s) s.ob o f asq=.c f' as' ins wr k) (hl:vs.length=asq.length) (hr:∀i,i<asq.length->bx M β (asq.getD i .any) (vs.getD i undef)) :
 f'=f/\∃M1 βc,M.le M1/\In w M1 βc as' ins vs/\∀v r obs w' M' β',Out w M1 βc ins.length r obs v w' M' β'->gn (k r obs).1->dK s n o.dst (k r obs).2=true->fT n A (s.app o.dst (k r obs).2) (a.put o.dst v) w':=by
 unfold fR at hE
 simp only at hE
 generalize hc:cfg (keyOf f asq)=c at hE
 split at hE
 ·rename_i as1 ins1 os fz hga
  cases hgd:(nodup os&&(!(os.any (fS fz))&&(dY (dF c.mu) ins1&&(lM s.ob c.mu os ins1 asq 0&&sc (dF c.mu) os ins1))))with
  |false=>rw[hgd]at hE;cases hE
  |
   true =>
   rw[hgd]at hE
   simp only[cond_true,zZ.c.injEq]at hE
   obtain⟨rfl,rfl,rfl,_,rfl⟩:=hE
   simp only[az,cc]at hgd
   obtain⟨hnd,hdj,hal,hclo,hkept⟩:=hgd
   have hdj':∀o,o∈os->o∉fz:=fun o ho hf=>by
    rw[List.any_eq_false]at hdj
    exact hdj o ho (lV.2 hf)
   refine⟨rfl,?_⟩
   obtain⟨M1,hM,g1⟩:=g.freeze fz
   have h0:∀o x,o∈os->s.ob o=some x->({s with ob:=cD s.ob (fE s.ob fz)}:St).ob o=some x:=fun o x ho hx=>by
    show cD s.ob (fE s.ob fz) o=some x
    rw[nh _ _ _ (by rw[um];exact hdj' o ho)];exact hx
   obtain⟨βc,U',f1,b1,b2,b3,b4,b5,b6,b7,b8,b9⟩:=nS g1 c.mu asq hga g1.fz h0 fV.nil (fun _ _=>rfl) hnd (fun _ _ hh=>by cases hh)
   simp only[aZ]at b4 b6
   have hnm:=oi c.mu asq hga
   have hown:∀j,j<ins1.length->Own M1 βc w j (ins1.getD j .dead):=fun j hj=>b1.own j _ (b6 j hj)
   obtain⟨fl1,fl2⟩:=oe (os:=os) (ins:=ins1) (fun j hj hc b hb=>by
    have h1:=hown j hj
    cases e:ins1.getD j .dead with
    |
     cells cs =>
     rw[e]at h1
     obtain⟨b',_,_,h2,_⟩:=h1
     have:=b9 j _ hj (.inl ⟨b',rfl⟩) (by rw[aZ];exact h2)
     rw[hb]at this;cases this;exact h2
    |_=>rw[e]at hc;cases hc) asq hga g1.fz hclo b8
   have hin:In w M1 βc (je c.mu as1 0) ins1 vs:=⟨by rw[hl,fl1,b7],fun i hi=>fl2 i _ (by omega) ((hr i (by omega)).mono hM (Lo.le.refl _)),g1.agree,hown,fun j hj=>b1.Nv j (b4 j hj),fun i j b hne hi hj hli hlj hb=>b1.apart i j _ _ b hne (b6 i hi) hli (b6 j hj) hlj hb⟩
   refine⟨M1,βc,hM,hin,fun v r obs w' M' β' hout hp hnew=>?_⟩
   cases hlt:vK T c.own c.oa ins1 o.type with
   |
    true =>
    rw[hlt]at hnew
    simp only[cond_true,aT]at hnew |-
    have hins:ins1=[]:=by
     unfold vK at hlt
     cases ins1 with
     |nil=>rfl
     |cons x xs=>simp at hlt
    subst hins
    have hos:os=[]:=bV hnm.1
    have hmu:dF c.mu=[]:=by
     cases hf:dF c.mu with
     |nil=>rfl
     |cons m ms=>rw[hf]at hal;cases m<;>cases hal
    subst hos
    cases hown':c.own with
    |
     cons x0 xs0 =>
     have hsc:Fj T c.own c.oa o.type=true:=by unfold vK at hlt;rw[hown']at hlt |-;simpa using hlt
     have hlN:vy T c.own c.oa [] o.type obs=[∀x,x∈obs->dL x]:=by
      unfold vy;rw[hlt,hown'];rfl
     rw[hmu]at hp hnew |-
     rw[<-hown']
     have hp':gn ((dR T c.own c.ow c.oa o.type r 0 obs (newName o.dst)).1++vy T c.own c.oa [] o.type obs):=hp
     rw[hlN]at hp'
     obtain⟨p1,p2⟩:=i6 hp'
     have hout1:Out w M βc 0 r obs v w' M β':=Out.plain hout hM p2.1 (C7 (M:=M) (β:=β') (T:=T) o.type 0 obs (newName o.dst) hsc hout.rep p1)
     have hA:∀b,(w.heap.size<=b\/∃i,i<0/\dZ βc i=some b)->A.w0.heap.size<=b\/A.uT b:=fun b hb=>by
      rcases hb with hb|⟨i,hi,hb⟩
      ·exact .inl (Nat.le_trans g.cC.size hb)
      ·omega
     have hback:ni s β w 0 βc obs β' []:=fun o x b hx hlv hb=>.inl ⟨(g.own o x hx).lt hlv hb,fun⟨i,hi,_⟩=>by omega⟩
     have hnd':(∀m,m∈(dR T c.own c.ow c.oa o.type r 0 obs (newName o.dst)).2.2.map (·.1)->s.us m=false):=by
      unfold dK at hnew
      simp only[az]at hnew
      obtain⟨⟨h1,_⟩,_⟩:=hnew
      rw[bM]at h1
      exact fun m hm=>by simpa using h1 m (by simpa[dx,sO]using hm)
     obtain⟨β3,d1,d2⟩:=sT (T:=T) hout1 hA o.type 0 (newName o.dst) (g.looked hM hout) hback (fun q hq hq'=>by cases hq') (by simpa using p1) (by simpa using hnd')
     have g5:=di.put d1 d2 (fN hnew)
     refine⟨M,β3,?_⟩
     have e:∀(vv:List Prop×AV×List (Nat×Option Ob)),s.app o.dst {val:=vv.2.1,cx:=p6 []++((dx [] [] obs 0 (newName o.dst)).2.1++vv.2.2),new:=sO [] (newName o.dst)++vv.2.2.map (·.1)} =
      {tm:=mU s.tm o.dst vv.2.1,ob:=cD s.ob vv.2.2,us:=eY s.us (vv.2.2.map (·.1))}:=fun vv=>by
      unfold St.app
      cases o.dst<;>rfl
     exact(e (dR T c.own c.ow c.oa o.type r 0 obs (newName o.dst))).symm ▸ g5
    |nil =>
    have hsc:HT T o.type=true:=by unfold vK at hlt;rw[hown']at hlt;simpa using hlt
    rw[hmu,hown']at hp hnew
    rw[hmu]
    obtain⟨q1,q2⟩:=Ci (M:=M) (β:=β) (T:=T) o.type 0 obs (newName o.dst) hsc hout.rep (by simpa[dx,vy]using hp)
    have g3:=di.put (g.looked hM hout) q2 (fN hnew)
    refine⟨M,β,?_⟩
    have e:s.app o.dst {val:=(dR T [] c.ow c.oa o.type r 0 obs (newName o.dst)).2.1,cx:=p6 []++((dx [] [] obs 0 (newName o.dst)).2.1++(dR T [] c.ow c.oa o.type r 0 obs (newName o.dst)).2.2),new:=sO [] (newName o.dst)++(dR T [] c.ow c.oa o.type r 0 obs (newName o.dst)).2.2.map (·.1)} = {s with tm:=mU s.tm o.dst (dR T [] c.ow c.oa o.type r 0 obs (newName o.dst)).2.1}:=by
     unfold St.app
     rw[q1]
     cases o.dst<;>rfl
    exact e ▸ g3
   |false =>
   rw[hlt]at hnew
   simp only[cond_false]at hnew |-
   have hsrc:∀i b,i<ins1.length->dZ βc i=some b->∃o x0,o∈os/\({s with ob:=cD s.ob (fE s.ob fz)}:St).ob o=some x0/\x0.live=true/\dZ β o=some b:=fun i b hi hb=>by
    obtain⟨o,x0,h1,h2,h3,h4⟩:=b1.src i _ b (b6 i hi) ((hnm.2 i hi).1) hb
    rcases b3 o h1 with h|h
    ·exact⟨o,x0,h,h2,h3,h4⟩
    ·cases h
   have g2:=g1.base hsrc hout
   have hA:∀b,(w.heap.size<=b\/∃i,i<ins1.length/\dZ βc i=some b)->A.w0.heap.size<=b\/A.uT b:=fun b hb=>by
    rcases hb with hb|⟨i,hi,hb⟩
    ·exact .inl (Nat.le_trans g.cC.size hb)
    ·obtain⟨o,x0,_,h2,h3,h4⟩:=hsrc i b hi hb
     exact g1.place o x0 b h2 h3 h4
   have hback:ni {s with ob:=gd os (cD s.ob (fE s.ob fz))} β w ins1.length βc obs β' []:=fun o x b hx hlv hb=>by
    obtain⟨ho,hx⟩:=gG hx
    refine .inl ⟨(g1.own o x hx).lt hlv hb,fun⟨i,hi,hb'⟩=>?_⟩
    obtain⟨o',x0,h1,h2,h3,h4⟩:=hsrc i b hi hb'
    exact g1.apart o' o x0 x b (fun e=>ho (by rw[<-e];exact h1)) h2 h3 hx hlv h4 hb
   have hnd':(∀m,m∈sO (dF c.mu) (newName o.dst)++(dR T c.own c.ow c.oa o.type r ins1.length (dx (dF c.mu) os obs 0 (newName o.dst)).2.2.1 (dx (dF c.mu) os obs 0 (newName o.dst)).2.2.2).2.2.map (·.1)->s.us m=false) /\
    nodup (sO (dF c.mu) (newName o.dst)++(dR T c.own c.ow c.oa o.type r ins1.length (dx (dF c.mu) os obs 0 (newName o.dst)).2.2.1 (dx (dF c.mu) os obs 0 (newName o.dst)).2.2.2).2.2.map (·.1))=true:=by
    unfold dK at hnew
    simp only[az]at hnew
    obtain⟨⟨h1,h2⟩,_⟩:=hnew
    rw[bM]at h1
    exact⟨fun m hm=>by simpa using h1 m hm,h2⟩
   obtain⟨hfr,hnn⟩:=hnd'
   obtain⟨p1,p2⟩:=i6 hp
   have hHP:HP A {s with ob:=gd os (cD s.ob (fE s.ob fz))} β βc (fun q=>q∈pf (dF c.mu) 0) os 0:=fun q l hq hx hb=>by
    rw[aZ]at hb hx
    have hq':q<ins1.length:=by rw[<-hnm.1];exact hq
    have hmem:os.getD q 0∈os:=by simp[aa,hq]
    have hk:=hkept
    unfold sc at hk
    rw[bM]at hk
    have hk:=hk q hx
    rw[bD]at hk
    obtain⟨⟨x,hx0⟩,hβ⟩:(∃x,({s with ob:=cD s.ob (fE s.ob fz)}:St).ob (os.getD q 0)=some x/\s.ob (os.getD q 0)=some x)/\β (os.getD q 0)=some l:=by
     rcases hk with hk|hk
     ·have hcells:∃cs,ins1.getD q .dead=.cells cs:=by
       cases e:ins1.getD q .dead<;>rw[e]at hk<;>first|(cases hk;done)|exact⟨_,rfl⟩
      obtain⟨cs,ecs⟩:=hcells
      obtain⟨cs',hcs'⟩:=(hnm.2 q hq').2.1 cs ecs
      have h1:=hown q hq'
      rw[ecs]at h1
      obtain⟨b,_,_,h2,_⟩:=h1
      rw[hb]at h2;cases h2
      exact⟨⟨_,h0 _ _ hmem hcs',hcs'⟩,b9 q _ hq' (.inl ⟨b,rfl⟩) (by rw[aZ];exact hb)⟩
     ·have hlt:=aQ hk
      obtain⟨x,hx1⟩:=(hnm.2 q hq').2.2 hlt
      exact⟨⟨x,h0 _ _ hmem hx1,hx1⟩,b9 q _ hq' (.inr hlt) (by rw[aZ];exact hb)⟩
    refine⟨?_,?_,hβ,fun b' hb'=>?_⟩
    ·show gd os _ _=none
     unfold gd;rw[lV.2 hmem];rfl
    ·cases hu:s.us (os.getD q 0)with
     |true=>rfl
     |false=>rw[(g.us _ hu).2]at hx0;cases hx0.2
    ·have:=(g.fix _ b' hb').2 _ hx0.2
     rw[hβ]at this;cases this;rfl
   have hlen:=iL _ _ hal
   obtain⟨β2,tk',c1,c2,c3,c4,c5⟩:=jM hout hA rfl hown (E:=newName o.dst+lR (dF c.mu)) (dF c.mu) os 0 (newName o.dst) g2 hback (fun q _ hq=>by cases hq) hal (by rw[hnm.1,hlen]) hnd hHP (fun q hq=>hq) p1
    (fun m h1 h2=>hfr m (aC _ ((n0 _ _ _).2 ⟨h1,h2⟩))) (aw _)
   simp only[bG,aZ]at c1 c2 c3 c4 c5
   obtain⟨n1,n2,n3⟩:=eF hnn
   rw[c4]at p2 hfr n3
   simp only at p2 hfr n3
   rw[<-hlen]at p2 hfr n3 c3
   obtain⟨β3,d1,d2⟩:=sT (T:=T) hout hA o.type ins1.length (newName o.dst+lR (dF c.mu)) c1 c2 (fun q hq hq'=>by
    rcases c3 q hq' with h|h
    ·cases h
    ·omega) (i6 p2).1 (fun m hm=>by
    show eY s.us _ m=false
    rw[rl _ _ _ (fun h=>n3 m h hm)]
    exact hfr m (aB _ hm))
   have g5:=di.put d1 d2 (fN hnew)
   refine⟨M',β3,?_⟩
   have e:∀(b:List Prop×List (Nat×Option Ob)×List Ob×Nat) (vv:List Prop×AV×List (Nat×Option Ob)),s.app o.dst {val:=vv.2.1,cx:=fE s.ob fz++(p6 os++(b.2.1++vv.2.2)),new:=sO (dF c.mu) (newName o.dst)++vv.2.2.map (·.1)} =
    {tm:=mU s.tm o.dst vv.2.1,ob:=cD (cD (gd os (cD s.ob (fE s.ob fz))) b.2.1) vv.2.2,us:=eY (eY s.us (sO (dF c.mu) (newName o.dst))) (vv.2.2.map (·.1))}:=fun b vv=>by
    unfold St.app
    simp only[mj,nP,sQ]
    cases o.dst<;>rfl
   simp only[e]
   rw[c4]
   simp only
   rw[<-hlen]
   exact g5
 ·cases hE
end
end Go.VL
namespace Go.VL
open Go Go.RowKit
section
variable {P:Program} {M:Mem} {β:Lo} {w w':World} {n:Nat} {A:jz} {s:St} {a:Act}
theorem oS{f:Nat}(h:Eh P f)(args:Array Value):(callFunc f args).run P w=.ok (.enter f args) w:=by
 obtain⟨fn,h1,h2,h3⟩:=h
 unfold callFunc
 simp only[Sem.run_bind,run_program,Result.andThen_ok,h1]
 rw[if_neg (by rw[h3];simp),if_neg (by rw[h2];simp)]
 rfl
theorem xL{T:eE}(hT:dc P T)(hB:lQ P A){cfg:Nat->FC}(g:di n A s a w M β)(o:Oper){K:List Nat->List Nat->St->Tree}{Φ:Nat->List AV->List Ob->Prop}(h:eU P n (wM T cfg n o s K) Φ)
 {Kw:Act->World->Prop} {Qw:Exit->Act->World->Prop} (hK:∀rd wr s' a' w',fT n A s' a' w'->eU P n (K rd wr s') Φ->Kw a' w'):o.wp P a w Kw Qw:=by
 unfold wM at h
 have plain:(∀d,jN T cfg (ev s) s.ob o=.d none d->dS T (ev s) s.ob o=.yes d)->(∀p d,jN T cfg (ev s) s.ob o=.d (some p) d->dS T (ev s) s.ob o=.ok p d)->(∀f asq ins wr k,jN T cfg (ev s) s.ob o≠.c f asq ins wr k)->o.wp P a w Kw Qw:=by
  intro h1 h2 h3
  have hop:=GO g hT o
  split at h
  ·exact h.elim
  ·rename_i p d he
   cases hn:dK s n o.dst d with
   |false=>rw[hn]at h;exact h.elim
   |
    true =>
    rw[hn]at h
    simp only[cond_true]at h
    cases p with
    |
     none =>
     rw[h1 d he]at hop
     exact Step.wp (hop hn) fun a' w' hg=>hK _ _ _ _ _ hg h
    |
     some p =>
     rw[h2 p d he]at hop
     exact Step.wp (hop h.1 hn) fun a' w' hg=>hK _ _ _ _ _ hg h.2
  ·rename_i f asq ins wr k he
   exact absurd he (h3 f asq ins wr k)
 have callC:∀(f:Nat) (asq:List AV) (vs:List Value),jN T cfg (ev s) s.ob o=fR T cfg (ev s) s.ob o f asq->vs.length=asq.length->(∀i,i<asq.length->bx M β (asq.getD i .any) (vs.getD i undef)) ->
  (Eh P f->(execOp a.eval o).run P w=.ok (.enter f vs.toArray) w)->o.wp P a w Kw Qw:=by
  intro f asq vs he hl hr hrun
  cases hE:fR T cfg (ev s) s.ob o f asq with
  |no=>rw[he,hE]at h;exact h.elim
  |
   d p d =>
   exfalso
   unfold fR at hE
   simp only at hE
   split at hE
   ·cases hgd:(nodup _&&_)with
    |true=>rw[hgd]at hE;cases hE
    |false=>rw[hgd]at hE;cases hE
   ·cases hE
  |
   c f' as' ins wr k =>
   obtain⟨rfl,M1,βc,hM1,hin,hback⟩:=Bd g hE hl hr
   rw[he,hE]at h
   simp only[eU]at h
   obtain⟨R,hS,_,hk⟩:=h
   unfold Oper.wp
   rw[hrun hS.1]
   show Calls P f' vs.toArray w _
   refine Calls.mono (hS.2 w M1 βc vs (hB.at g.cC (Mem.le.trans g.le hM1)) hin) fun e w' ⟨v,r,obs,M',β',he,hRr,hout⟩=>?_
   subst he
   obtain⟨hp,ht⟩:=gv.1 (hk r obs hRr)
   cases hn:dK s n o.dst (k r obs).2 with
   |false=>rw[hn]at ht;exact ht.elim
   |
    true =>
    rw[hn]at ht
    simp only[cond_true]at ht
    exact hK _ _ _ _ _ (hback v r obs w' M' β' hout hp hn) ht
 cases ho:o.op with
 |
  call c =>
  obtain⟨callee,xs,ts⟩:=c
  cases callee with
  |
   value x =>
   have he:jN T cfg (ev s) s.ob o=(match ev s x with
    | .v (.func (.func f) fi cap)=>bif aJ fi.size 0&&aJ cap.size 0 then fR T cfg (ev s) s.ob o f (xs.toList.map (ev s))else .no
    | .fn f cap=>fR T cfg (ev s) s.ob o f (xs.toList.map (ev s)++cap)
    |_=>.no):=by unfold jN;rw[ho];try rfl
   have hx:=g.ev x
   have harr:xs.map a.eval=(xs.toList.map a.eval).toArray:=by apply Array.ext';simp
   have hargs:∀i,i<(xs.toList.map (ev s)).length->bx M β ((xs.toList.map (ev s)).getD i .any) ((xs.toList.map a.eval).getD i undef):=by
    intro i hi
    have hi':i<xs.size:=by simpa using hi
    simp[aa,hi']
    exact g.ev _
   split at he
   ·rename_i f fi cap e
    rw[e]at hx
    cases hq:(aJ fi.size 0&&aJ cap.size 0)with
    |false=>rw[hq]at he;rw[he]at h;exact h.elim
    |
     true =>
     rw[hq]at he
     simp only[az]at hq
     have e1:fi = #[]:=Array.size_eq_zero_iff.1 (aE hq.1)
     have e2:cap = #[]:=Array.size_eq_zero_iff.1 (aE hq.2)
     subst e1;subst e2
     refine callC f _ (xs.toList.map a.eval) he (by simp) hargs fun hE=>?_
     simp only[execOp,ho,resolve,Sem.run_bind,dE hx,Deferred.ofValue,Sem.run_pure,Result.andThen_ok,invoke]
     rw[oS hE,harr]
     simp
   ·rename_i f cap e
    rw[e]at hx
    have:∃vs:List Value,a.eval x=.func (.func f) #[] vs.toArray/\cap.length=vs.length/\∀i,i<cap.length->bx M β (cap.getD i .any) (vs.getD i undef):=by
     generalize a.eval x=u at hx
     cases hx with|fn _ _ _ vs hl h=>exact⟨vs,rfl,hl,h⟩
    obtain⟨us,hu,hul,hur⟩:=this
    refine callC f _ (xs.toList.map a.eval++us) he (by simp[hul]) (fun i hi=>?_) fun hE=>?_
    ·rw[i7,i7]
     by_cases hi':i<(xs.toList.map (ev s)).length
     ·rw[if_pos hi',if_pos (by simpa using hi')];exact hargs i hi'
     ·rw[if_neg hi',if_neg (by simpa using hi')]
      rw[cg,cg]
      simp only[aq,cg]at hi hi'
      exact hur _ (by omega)
    ·simp only[execOp,ho,resolve,Sem.run_bind,hu,Deferred.ofValue,Sem.run_pure,Result.andThen_ok,invoke]
     rw[oS hE,harr]
     simp
   ·rw[he]at h;exact h.elim
  |
   builtin b =>
   have he:jN T cfg (ev s) s.ob o=(match dS T (ev s) s.ob o with| .ok p d=>.d (some p) d| .yes d=>.d none d| .no=>.no):=by unfold jN;rw[ho];try rfl
   refine plain (fun d hd=>?_) (fun p d hd=>?_) fun f asq ins wr k hd=>?_<;>rw[he]at hd<;>split at hd<;>cases hd<;>assumption
  |
   invoke r nm =>
   have he:jN T cfg (ev s) s.ob o=(match dS T (ev s) s.ob o with| .ok p d=>.d (some p) d| .yes d=>.d none d| .no=>.no):=by unfold jN;rw[ho];try rfl
   refine plain (fun d hd=>?_) (fun p d hd=>?_) fun f asq ins wr k hd=>?_<;>rw[he]at hd<;>split at hd<;>cases hd<;>assumption
 |
  _ =>
  have he:jN T cfg (ev s) s.ob o=(match dS T (ev s) s.ob o with| .ok p d=>.d (some p) d| .yes d=>.d none d| .no=>.no):=by unfold jN;rw[ho];try rfl
  refine plain (fun d hd=>?_) (fun p d hd=>?_) fun f asq ins wr k hd=>?_<;>rw[he]at hd<;>split at hd<;>cases hd<;>assumption
end
end Go.VL
namespace Go.VL
open Go Go.RowKit
section
variable {P:Program} {w w':World} {n:Nat} {A:jz} {s:St} {a:Act}
theorem rn{ops:Array Oper}{tmps:Array Value}{g t:Nat}(h:(ops.toList[g]?).map (·.dst)=some (some t)):yielded ops tmps g=match tmps[t]? with|some (.bool b)=>some b|_=>none:=by
 unfold yielded
 have e:ops[g]?=ops.toList[g]?:=by simp
 rw[e]
 cases hq:ops.toList[g]? with
 |none=>rw[hq]at h;cases h
 |some o=>rw[hq]at h;simp only[cu,Option.some.injEq]at h;simp only[e,hq,ba,h];rfl
theorem nJ{ops:Array Oper}{tmps:Array Value}{g t:Nat}{b:Bool}(h:(ops.toList[g]?).map (·.dst)=some (some t))(hv:tmps.getD t undef=.bool b):yielded ops tmps g=some b:=by
 rw[rn h]
 by_cases ht:t<tmps.size
 ·have:tmps[t]?=some (.bool b):=by
   have e:tmps.getD t undef=tmps[t]:=by simp[ht]
   rw[e]at hv;simp[ht,hv]
  rw[this]
 ·have:tmps.getD t undef=undef:=by simp[show tmps.size<=t by omega]
  rw[this]at hv;cases hv
theorem mY{ops:Array Oper}{tmps:Array Value}{g t:Nat}{vs:Array Value}(h:(ops.toList[g]?).map (·.dst)=some (some t))(hv:tmps.getD t undef=.tuple vs):yielded ops tmps g=none:=by
 rw[rn h]
 by_cases ht:t<tmps.size
 ·have:tmps[t]?=some (.tuple vs):=by
   have e:tmps.getD t undef=tmps[t]:=by simp[ht]
   rw[e]at hv;simp[ht,hv]
  rw[this]
 ·have:tmps[t]?=none:=by simp;omega
  rw[this]
theorem fT.test(h:fT n A s a w){t:Nat}{b:Bool}(ht:s.tm t=.b b):fT n A (s.set t (.v (.bool b))) a w/\a.tmps.getD t undef=.bool b:=by
 obtain⟨M,β,g⟩:=h
 have hv:a.tmps.getD t undef=.bool b:=by have:=g.tm t;rw[ht]at this;exact EI this
 refine⟨⟨M,β,{g with tm:=fun q=>?_}⟩,hv⟩
 show bx M β (cx s.tm t (.v (.bool b)) q) _
 by_cases e:q=t
 ·subst e;rw[aN,hv];exact .v _ _
 ·rw[a6 _ _ _ _ e];exact g.tm q
def Q2(s:St)(dst:Option Nat):St:=match dst with|some t=>s.set t (.v (.tuple #[]))|none=>s
theorem fT.skip(h:fT n A s a w){dst:Option Nat}(hd:∀t,dst=some t->t<n):fT n A (Q2 s dst) (a.put dst undef) w:=by
 obtain⟨M,β,g⟩:=h
 have:=di.put g (x:=.v (.tuple #[])) (v:=undef) (.v _ _) hd
 cases dst with
 |none=>exact⟨M,β,this⟩
 |some t=>exact⟨M,β,this⟩
theorem fT.bool(h:fT n A s a w){t:Nat}{b:Bool}(ht:s.tm t=.v (.bool b)):a.tmps.getD t undef=.bool b:=by
 obtain⟨M,β,g⟩:=h
 have:=g.tm t
 rw[ht]at this
 exact dE this
theorem fT.cy(h:fT n A s a w){t:Nat}{vs:Array Value}(ht:s.tm t=.v (.tuple vs)):a.tmps.getD t undef=.tuple vs:=by
 obtain⟨M,β,g⟩:=h
 have:=g.tm t
 rw[ht]at this
 exact dE this
theorem wK{T:eE}(hT:dc P T)(hB:lQ P A){cfg:Nat->FC}{ops:Array Oper}{draw:Bool}{K:St->Tree}{Φ:Nat->List AV->List Ob->Prop}{Q:Exit->Act->World->Prop}
 (hK:∀s a w,fT n A s a w->eU P n (K s) Φ->Q .normal a w) :
 ∀(rest:List Oper) (hist:List HE) (s:St) (a:Act) (w:World),fT n A s a w->eU P n (kH T cfg n draw ops.toList rest hist s K) Φ->wpList P ops Q rest a w
 |[],hist,s,a,w,g,h=>hK s a w g h
 |
  o::rest,hist,s,a,w,g,h=>by
  have run:∀s a w,fT n A s a w->eU P n (wM T cfg n o s fun rd wr s'=>bif !draw||((dw o).all (fun j=>cA j hist.length)&&jH ops.toList o rd wr hist (gZ o hist))then kH T cfg n draw ops.toList rest (hist++[⟨hist.length,o,rd,wr,gZ o hist⟩]) s' K else .fail) Φ ->
   o.wp P a w (wpList P ops Q rest) Q:=by
   intro s a w ⟨M,β,g⟩ h
   refine xL hT hB g o h fun rd wr s' a' w' g' h'=>?_
   cases hq:(!draw||((dw o).all (fun j=>cA j hist.length)&&jH ops.toList o rd wr hist (gZ o hist)))with
   |false=>rw[hq]at h';exact h'.elim
   |true=>rw[hq]at h';exact wK hT hB hK rest _ s' a' w' g' h'
  have skip:∀s a w,fT n A s a w->eU P n (bif (match o.dst with|some t=>cA t n|none=>true)&&(!draw||((dw o).all (fun j=>cA j hist.length)&&jH ops.toList o [] [] hist (gZ o hist)))then kH T cfg n draw ops.toList rest (hist++[⟨hist.length,o,[],[],gZ o hist⟩]) (match o.dst with|some t=>s.set t (.v (.tuple #[]))|none=>s) K else .fail) Φ ->
   wpList P ops Q rest (a.put o.dst undef) w:=by
   intro s a w g h
   cases hq:((match o.dst with|some t=>cA t n|none=>true)&&(!draw||((dw o).all (fun j=>cA j hist.length)&&jH ops.toList o [] [] hist (gZ o hist))))with
   |false=>rw[hq]at h;exact h.elim
   |
    true =>
    rw[hq]at h
    rw[az]at hq
    refine wK hT hB hK rest _ (Q2 s o.dst) _ w (g.skip fun t ht=>?_) h
    have:=hq.1
    rw[ht]at this
    have:=aQ this
    omega
  unfold wpList
  unfold kH at h
  simp only at h
  cases hg:o.guard with
  |
   none =>
   rw[hg]at h
   rw[if_pos (by simp[Region.wanted,hg])]
   exact .inl (run s a w g h)
  |
   some gw =>
   obtain⟨gi,want⟩:=gw
   rw[hg]at h
   simp only at h
   split at h
   ·rename_i t hdst
    have wantT:∀b,a.tmps.getD t undef=.bool b->Region.wanted o (yielded ops a.tmps)=(b==want):=by
     intro b hb
     have:=nJ (ops:=ops) hdst hb
     simp[Region.wanted,hg,this]
    split at h
    ·rename_i e
     have hb:=g.bool e
     cases want with
     |true=>rw[wantT _ hb,if_pos (by decide)];exact .inl (run s a w g h)
     |false=>rw[wantT _ hb,if_neg (by decide)];exact skip s a w g h
    ·rename_i e
     have hb:=g.bool e
     cases want with
     |true=>rw[wantT _ hb,if_neg (by decide)];exact skip s a w g h
     |false=>rw[wantT _ hb,if_pos (by decide)];exact .inl (run s a w g h)
    ·rename_i vs e
     have hb:=g.cy e
     have:=mY (ops:=ops) hdst hb
     rw[if_neg (by simp[Region.wanted,hg,this])]
     exact skip s a w g h
    ·rename_i b e
     obtain⟨g',hb⟩:=g.test e
     obtain⟨h1,h2⟩:=h
     cases b with
     |
      true =>
      have h1:=h1 rfl
      cases want with
      |true=>rw[wantT _ hb,if_pos (by decide)];exact .inl (run _ a w g' h1)
      |false=>rw[wantT _ hb,if_neg (by decide)];exact skip _ a w g' h1
     |
      false =>
      have h2:=h2 rfl
      cases want with
      |true=>rw[wantT _ hb,if_neg (by decide)];exact skip _ a w g' h2
      |false=>rw[wantT _ hb,if_pos (by decide)];exact .inl (run _ a w g' h2)
    ·exact h.elim
   ·exact h.elim
end
end Go.VL
namespace Go.VL
open Go Go.RowKit
section
variable {P:Program} {w w':World} {n:Nat} {A:jz} {s:St} {a:Act}
def Q3:Ex->Exit
 | .normal=>.normal
 | .exit i=>.exit i
 | .ret=>.ret
def yf(P:Program)(n:Nat)(A:jz)(T:eE)(cfg:Nat->FC)(Φ:Nat->List AV->List Ob->Prop):Prop :=
 ∀(id:Nat) (ops:Array Oper) (draw:Bool) (K:St->Tree) (Q:Exit->Act->World->Prop),(∀s a w,fT n A s a w->eU P n (K s) Φ->Q .normal a w) ->
  ∀s a w,fT n A s a w->eU P n (kH T cfg n draw ops.toList ops.toList [] s K) Φ->(Code.region id ops draw).wp P Q a w
theorem Aq:∀{l r:List Nat},Ir l r=true->l=r
 |[],[],_=>rfl
 |[],_::_,h=>by cases h
 |_::_,[],h=>by cases h
 |
  a::l,b::r,h=>by
  simp only[Ir,az]at h
  rw[aE h.1,Aq h.2]
theorem BK{T:eE}{cfg:Nat->FC}{Φ:Nat->List AV->List Ob->Prop}(hB:lQ P A)(hreg:yf P n A T cfg Φ)(lis:List (Nat×LI)){fx:List Nat}(hA:∀o b,A.fix o=some b->o∈fx) :
 ∀(c:Code) (s:St) (K:Ex->St->Tree) (Q:Exit->Act->World->Prop),(∀ex s a w,fT n A s a w->eU P n (K ex s) Φ->Q (Q3 ex) a w) ->
  ∀a w,fT n A s a w->eU P n (go T cfg n lis fx c s K) Φ->c.wp P Q a w:=by
 intro c
 induction c with
 |skip=>intro s K Q hK a w g h;exact wp_skip (hK .normal s a w g h)
 |region id ops draw=>intro s K Q hK a w g h;exact hreg id ops draw (K .normal) Q (fun s a w g h=>hK .normal s a w g h) s a w g h
 |
  seq x y ihx ihy =>
  intro s K Q hK a w g h
  refine wp_seq (ihx s _ _ ?_ a w g h)
  intro ex s' a' w' g' h'
  cases ex with
  |normal=>exact ihy s' K Q hK a' w' g' h'
  |exit i=>exact hK (.exit i) s' a' w' g' h'
  |ret=>exact hK .ret s' a' w' g' h'
 |
  cond c x y ihx ihy =>
  intro s K Q hK a w g h
  unfold go at h
  split at h
  ·rename_i t
   split at h
   ·rename_i e
    exact wp_cond_true (g.bool e) (ihx s K Q hK a w g h)
   ·rename_i e
    exact wp_cond_false (g.bool e) (ihy s K Q hK a w g h)
   ·rename_i b e
    obtain⟨g',hb⟩:=g.test e
    obtain⟨h1,h2⟩:=h
    cases b with
    |true=>exact wp_cond_true hb (ihx _ K Q hK a w g' (h1 rfl))
    |false=>exact wp_cond_false hb (ihy _ K Q hK a w g' (h2 rfl))
   ·exact h.elim
  ·exact wp_cond_true rfl (ihx s K Q hK a w g h)
  ·exact wp_cond_false rfl (ihy s K Q hK a w g h)
  ·exact h.elim
 |
  block id c ih =>
  intro s K Q hK a w g h
  refine wp_block (ih s _ _ ?_ a w g h)
  intro ex s' a' w' g' h'
  cases ex with
  |normal=>exact hK .normal s' a' w' g' h'
  |
   exit i =>
   show if i=id then _ else _
   cases e:aJ i id with
   |
    true =>
    simp only[e,cond_true]at h'
    rw[if_pos (aE e)]
    exact hK .normal s' a' w' g' h'
   |
    false =>
    simp only[e,cond_false]at h'
    rw[if_neg (fun h=>by subst h;rw[Nat.beq_refl]at e;cases e)]
    exact hK (.exit i) s' a' w' g' h'
  |ret=>exact hK .ret s' a' w' g' h'
 |
  loop c ih =>
  intro s K Q hK a w g h
  unfold go at h
  split at h
  ·rename_i li _
   cases hq:(Ir fx li.fx&&(ug fx li.xs&&ug fx li.rt))with
   |false=>rw[hq]at h;exact h.elim
   |
    true =>
    rw[hq]at h
    simp only[cond_true]at h
    simp only[az]at hq
    obtain⟨q1,q2,q3⟩:=hq
    have efx:=Aq q1
    split at h
    ·rename_i xs obs hcut
     obtain⟨R,hL,hx,hr⟩:=h
     obtain⟨M,β,g⟩:=g
     refine Code.wp_mono ?_ (hL A a w hB (by rw[<-efx];exact hA) ⟨s,M,β,g,hcut⟩).wp
     intro e a' w' hq
     cases e with
     |
      exit i =>
      obtain⟨rfl,ys,o,hR,s',M',β',g',hc'⟩:=hq
      obtain⟨p,t⟩:=gv.1 (hx ys o hR)
      exact hK (.exit li.ex) _ a' w' (wy g' q2 hA hc' p) t
     |
      ret =>
      obtain⟨ys,o,hR,s',M',β',g',hc'⟩:=hq
      obtain⟨p,t⟩:=gv.1 (hr ys o hR)
      exact hK .ret _ a' w' (wy g' q3 hA hc' p) t
     |_=>exact hq.elim
    ·exact h.elim
  ·exact h.elim
 |exit i=>intro s K Q hK a w g h;exact wp_exit (hK (.exit i) s a w g h)
 |label l=>intro s K Q hK a w g h;exact wp_label (hK .normal s a w g h)
 |ret=>intro s K Q hK a w g h;exact wp_ret (hK .ret s a w g h)
 |_=>intro s K Q hK a w g h;exact h.elim
theorem cH.step{T:eE}{cfg:Nat->FC}{lis:List (Nat×LI)}{c:Code}{li:LI}{xs:List AV}{obs:List Ob}{R:Nat->List AV->List Ob->Prop}
 (hreg:∀A,lQ P A->yf P n A T cfg fun tag ys o=>(tag=0->cH P n c li ys o R)/\(tag=1->R 1 ys o)/\(tag=2->R 2 ys o))
 (h:eU P n (round T cfg n lis c li xs obs) fun tag ys o=>(tag=0->cH P n c li ys o R)/\(tag=1->R 1 ys o)/\(tag=2->R 2 ys o)):cH P n c li xs obs R:=by
 intro A a w hB hA ⟨s,M,β,g,hcut⟩
 unfold round at h
 cases hq:ug li.fx li.hd with
 |false=>rw[hq]at h;exact h.elim
 |true =>
 rw[hq]at h
 simp only[Bool.not_true,cond_false]at h
 obtain⟨p,h⟩:=gv.1 h
 refine nA.G3 (BK hB (hreg A hB) lis hA c _ _ _ ?_ a w (wy g hq hA hcut p) h)
 intro ex s' a' w' ⟨M',β',g'⟩ h'
 cases ex with
 |
  normal =>
  simp only at h'
  split at h'
  ·rename_i ys o hc;exact(h'.1 rfl) A a' w' hB hA ⟨s',M',β',g',hc⟩
  ·exact h'.elim
 |
  exit i =>
  simp only at h'
  cases e:aJ i li.ex with
  |
   true =>
   simp only[e,cond_true]at h'
   split at h'
   ·rename_i ys o hc;exact⟨aE e,ys,o,h'.2.1 rfl,s',M',β',g',hc⟩
   ·exact h'.elim
  |false=>simp only[e,cond_false]at h';exact h'.elim
 |
  ret =>
  simp only at h'
  split at h'
  ·rename_i ys o hc;exact⟨ys,o,h'.2.2 rfl,s',M',β',g',hc⟩
  ·exact h'.elim
variable {M:Mem} {β:Lo}
theorem Cv{t:Nat}{v u:Value}(h:(Instr.loadAt t v).run P w=.ok u w):(do loadVar t (<-asAddr v):Sem Value).run P w=.ok u w:=by
 unfold Instr.loadAt at h
 cases v with
 |
  pointer ad =>
  cases ad with
  |none=>simp[Instr.sureAddr,Sem.run_bind]at h
  |some ad=>simpa[Instr.sureAddr,asAddr,Sem.run_bind]using h
 |_=>simp[Instr.sureAddr,Sem.run_bind]at h
def vP(tmps:Array Value):ResultVar->Sem Value
 | .tmp t=>pure (tmps.getD t undef)
 | .cell q t=>do loadVar t (<-asAddr (tmps.getD q undef))
theorem rB(F:Func)(tmps:Array Value):results F tmps=(do let vs <-F.results.mapM (vP tmps);pure (if h:vs.size=1 then vs[0]else .tuple vs)):=rfl
theorem oC{T:eE}(hT:dc P T)(g:di n A s a w M β):∀(rv:List ResultVar) {ps:List Prop} {asq:List AV},mn T s rv=some (ps,asq)->gn ps ->
 ∃vs:List Value,(rv.mapM (vP a.tmps)).run P w=.ok vs w/\asq.length=vs.length/\∀i,i<asq.length->bx M β (asq.getD i .any) (vs.getD i undef)
 |
  [],ps,asq,h,hp=>by
  simp only[mn,Option.some.injEq,Prod.mk.injEq]at h
  obtain⟨rfl,rfl⟩:=h
  exact⟨[],by simp,rfl,fun i hi=>by simp at hi⟩
 |
  .tmp t::r,ps,asq,h,hp=>by
  simp only[mn]at h
  cases e:mn T s r with
  |none=>rw[e]at h;cases h
  |
   some q =>
   rw[e]at h
   simp only[cu,Option.some.injEq,Prod.mk.injEq]at h
   obtain⟨rfl,rfl⟩:=h
   obtain⟨vs,h1,h2,h3⟩:=oC hT g r e hp
   refine⟨a.tmps.getD t undef::vs,?_,by simp[h2],fun i hi=>?_⟩
   ·simp only[List.mapM_cons,vP,Sem.run_bind,Sem.run_pure,Result.andThen_ok,h1]
   ·cases i with
    |zero=>simpa using g.tm t
    |succ i=>simpa using h3 i (by simpa using hi)
 |
  .cell q t::r,ps,asq,h,hp=>by
  simp only[mn]at h
  have hld:=sG (P:=P) hT g.own g.agree (t:=t) (g.tm q)
  have fin:∀(u:Value) (d:De) (p':List Prop) (as':List AV),mn T s r=some (p',as')->gn p'->asq=d.val::as'->(Instr.loadAt t (a.tmps.getD q undef)).run P w=.ok u w->bx M β d.val u ->
   ∃vs:List Value,((ResultVar.cell q t::r).mapM (vP a.tmps)).run P w=.ok vs w/\asq.length=vs.length/\∀i,i<asq.length->bx M β (asq.getD i .any) (vs.getD i undef):=by
   intro u d p' as' e hp' ea hu hr
   obtain⟨vs,h1,h2,h3⟩:=oC hT g r e hp'
   subst ea
   refine⟨u::vs,?_,by simp[h2],fun i hi=>?_⟩
   ·rw[List.mapM_cons,Sem.run_bind,vP,Cv hu]
    simp only[Result.andThen_ok,Sem.run_bind,h1,Sem.run_pure]
   ·cases i with
    |zero=>simpa using hr
    |succ i=>simpa using h3 i (by simpa using hi)
  split at h
  ·rename_i p d qq e1 e2
   cases h
   rw[e1]at hld
   obtain⟨u,h1,h2⟩:=(hld hp.1).2.2
   exact fin u d qq.1 qq.2 e2 hp.2 rfl h1 h2
  ·rename_i d qq e1 e2
   cases h
   rw[e1]at hld
   obtain⟨u,h1,h2⟩:=hld.2.2
   exact fin u d qq.1 qq.2 e2 hp rfl h1 h2
  ·cases h
theorem my:∀(asq:List AV) (i:Nat) (f:Nat->AV) (t:Nat),setArgs asq i f t=if i<=t/\t<i+asq.length then asq.getD (t-i) .any else f t
 |[],i,f,t=>by rw[if_neg (by simp only[aG];omega)];rfl
 |
  x::asq,i,f,t=>by
  rw[setArgs,my asq (i+1) _ t]
  simp only[au]
  by_cases h:i+1<=t/\t<i+1+asq.length
  ·rw[if_pos h,if_pos (by omega),show t-i=(t-(i+1))+1 by omega];rfl
  ·rw[if_neg h]
   by_cases e:t=i
   ·subst e;rw[aN,if_pos (by omega)];simp
   ·rw[a6 _ _ _ _ e,if_neg (by omega)]
theorem rI:∀(os:List Ob) (i:Nat) (f:Nat->Option Ob) (t:Nat),qW os i f t=if i<=t/\t<i+os.length then some (os.getD (t-i) .dead)else f t
 |[],i,f,t=>by rw[if_neg (by simp only[aG];omega)];rfl
 |
  x::os,i,f,t=>by
  rw[qW,rI os (i+1) _ t]
  simp only[au]
  by_cases h:i+1<=t/\t<i+1+os.length
  ·rw[if_pos h,if_pos (by omega),show t-i=(t-(i+1))+1 by omega];rfl
  ·rw[if_neg h]
   by_cases e:t=i
   ·subst e;rw[aN,if_pos (by omega)];simp
   ·rw[a6 _ _ _ _ e,if_neg (by omega)]
theorem mh(g:di n A s a w M β){ob0:Nat->Option Ob}:∀(ms:List MK) {obs:List Ob} {os:List Nat} {j:Nat},mB ob0 ms j=some (obs,os)->(∀o x,o∈os->ob0 o=some x->s.ob o=some x) ->
 ∀{U:List Nat} {f:Nat->Option Ob} {βc:Lo},fV s w M β U f βc->(∀m,j<=m->f m=none)->nodup os=true->(∀o,o∈os->o∉U) ->
 ∃βc' U' f',fV s w M β U' f' βc'/\Lo.le βc βc'/\(∀o,o∈U'->o∈os\/o∈U)/\(∀m,j+obs.length<=m->f' m=none)/\(∀m,m<j->f' m=f m)/\(∀q,q<obs.length->obs.getD q .dead=.dead\/f' (j+q)=some (obs.getD q .dead))/\obs.length=eD ms /\
  (∀q,q∈pf ms j->(∃x,s.ob q=some x)/\∃b,β q=some b/\βc' q=some b)/\(∀q sz es,q<obs.length->obs.getD q .dead=.mv sz es->j+q∈pf ms j)
 |
  [],obs,os,j,h,h0,U,f,βc,hB,hnm,hnd,hU=>by
  simp only[mB,Option.some.injEq,Prod.mk.injEq]at h
  obtain⟨rfl,rfl⟩:=h
  exact⟨βc,U,f,hB,Lo.le.refl _,fun o ho=>.inr ho,fun m hm=>hnm m (by simpa using hm),fun m _=>rfl,fun q hq=>(by simp at hq),rfl,fun q hq=>(by cases hq),fun q sz es hq=>(by simp at hq)⟩
 |
  .vec::ms,obs,os,j,h,h0,U,f,βc,hB,hnm,hnd,hU=>by
  simp only[mB]at h
  split at h
  ·rename_i obs1 os1 h1
   cases h
   obtain⟨n1,n2⟩:=nodup_cons hnd
   obtain⟨β3,U',f',b1,b2,b3,b4,b5,b6,b7,b8,b9⟩:=mh g ms h1 (fun o x ho=>h0 o x (al _ ho)) hB (fun m hm=>hnm m (by omega)) n2 (fun o ho=>hU o (al _ ho))
   refine⟨β3,U',f',b1,b2,fun o ho=>?_,fun m hm=>b4 m (by simp at hm;omega),fun m hm=>b5 m (by omega),fun q hq=>?_,by simp[eD,b7],b8,fun q sz es hq he=>?_⟩
   ·rcases b3 o ho with h|h
    ·exact .inl (al _ h)
    ·exact .inr h
   ·cases q with
    |zero=>exact .inl rfl
    |
     succ q =>
     have:=b6 q (by simpa using hq)
     rw[show j+(q+1)=j+1+q by omega]
     simpa using this
   ·cases q with
    |zero=>cases he
    |
     succ q =>
     have:=b9 q sz es (by simpa using hq) (by simpa using he)
     rw[show j+(q+1)=j+1+q by omega]
     exact this
  ·cases h
 |
  .sn kz::ms,obs,os,j,h,h0,U,f,βc,hB,hnm,hnd,hU=>by
  simp only[mB]at h
  split at h
  ·rename_i obs1 os1 h1
   cases h
   obtain⟨n1,n2⟩:=nodup_cons hnd
   obtain⟨β3,U',f',b1,b2,b3,b4,b5,b6,b7,b8,b9⟩:=mh g ms h1 (fun o x ho=>h0 o x (al _ ho)) hB (fun m hm=>hnm m (by omega)) n2 (fun o ho=>hU o (al _ ho))
   refine⟨β3,U',f',b1,b2,fun o ho=>?_,fun m hm=>b4 m (by simp at hm;omega),fun m hm=>b5 m (by omega),fun q hq=>?_,by simp[eD,b7],b8,fun q sz es hq he=>?_⟩
   ·rcases b3 o ho with h|h
    ·exact .inl (al _ h)
    ·exact .inr h
   ·cases q with
    |zero=>exact .inl rfl
    |
     succ q =>
     have:=b6 q (by simpa using hq)
     rw[show j+(q+1)=j+1+q by omega]
     simpa using this
   ·cases q with
    |zero=>cases he
    |
     succ q =>
     have:=b9 q sz es (by simpa using hq) (by simpa using he)
     rw[show j+(q+1)=j+1+q by omega]
     exact this
  ·cases h
 |
  .cC gg ks::ms,obs,os,j,h,h0,U,f,βc,hB,hnm,hnd,hU=>by
  simp only[mB]at h
  split at h
  ·rename_i sz es ho
   cases hz:aJ sz (lf ks)with
   |false=>rw[hz]at h;cases h
   |true =>
   rw[hz]at h
   simp only[cond_true]at h
   split at h
   ·rename_i obs1 os1 h1
    cases h
    obtain⟨n1,n2⟩:=nodup_cons hnd
    have ho:=h0 j _ ai ho
    obtain⟨v,q1,q2,q3⟩:=g.own j _ ho
    have hfj:=hnm j (aw _)
    have hB2:=hB.add g hfj (l:=.vec v sz) (x:=.mv sz es) ⟨v,aN _ _ _,q2,q3⟩ j (hU j ai) (fun b hb=>⟨_,ho,rfl,by simp[dZ,q1];exact hb⟩)
    obtain⟨β3,U',f',b1,b2,b3,b4,b5,b6,b7,b8,b9⟩:=mh g ms h1 (fun o x ho=>h0 o x (al _ ho)) hB2 (fun m hm=>by rw[a6 _ _ _ _ (by omega)];exact hnm m (by omega)) n2 (fun o hq hh=>by
     rcases aH.1 hh with rfl|hh
     ·exact n1 hq
     ·exact hU o (al _ hq) hh)
    refine⟨β3,U',f',b1,fun o l hl=>b2 o l (hB.le hfj _ o l hl),fun o ho=>?_,fun m hm=>b4 m (by simp at hm;omega),fun m hm=>(by rw[b5 m (by omega),a6 _ _ _ _ (by omega)]),fun q hq=>?_,by simp[eD,b7],fun q hq=>?_,fun q sz es hq he=>?_⟩
    ·rcases b3 o ho with h|h
     ·exact .inl (al _ h)
     ·rcases aH.1 h with rfl|h
      ·exact .inl ai
      ·exact .inr h
    ·cases q with
     |zero=>right;rw[bX,b5 j (by omega),aN];rfl
     |
      succ q =>
      have:=b6 q (by simpa using hq)
      rw[show j+(q+1)=j+1+q by omega]
      simpa using this
    ·rcases aH.1 hq with rfl|hq
     ·exact⟨⟨_,ho⟩,_,q1,b2 _ _ (aN _ _ _)⟩
     ·exact b8 q hq
    ·cases q with
     |zero=>exact ai
     |
      succ q =>
      have:=b9 q sz es (by simpa using hq) (by simpa using he)
      rw[show j+(q+1)=j+1+q by omega]
      exact al _ this
   ·cases h
  ·cases h
 |
  .obj ks::ms,obs,os,j,h,h0,U,f,βc,hB,hnm,hnd,hU=>by
  simp only[mB]at h
  split at h
  ·rename_i cs ho
   split at h
   ·rename_i asq obs1 os1 h1
    split at h
    ·rename_i obs2 os2 h2
     cases h
     have hnd':nodup (j::(os1++os2))=true:=by simpa using hnd
     obtain⟨n1,n2⟩:=nodup_cons hnd'
     obtain⟨n3,n4,n5⟩:=eF n2
     have hl1:=iK ks h1
     obtain⟨β3,U1,f1,b1,b2,b3,b4,b5,b6,b7,b8,_⟩:=jV g ks h1 (fun o x hh=>h0 o x (by simp[hh])) hB (fun m hm=>hnm m (by omega)) n3 (fun q hq=>hU q (by simp[hq]))
     have ho:=h0 j _ (by simp) ho
     obtain⟨b,vs,e,q1,q2,q3,q4,q5,q6⟩:=g.own j _ ho
     have hfj:f1 j=none:=by rw[b5 j (by omega)];exact hnm j (aw _)
     have hB2:=b1.add g hfj (l:=.cells b) (x:=.cells asq)
      ⟨b,vs,e,aN _ _ _,q2,by rw[q3,b7],fun i hi=>(b8 i _ (by omega) (q4 i (by omega))).mono (Mem.le.refl _) (b1.le hfj _),q5,q6⟩ j
      (fun hh=>by
       rcases b3 j hh with h|h
       ·exact n1 (aC _ h)
       ·exact hU j (by simp) h)
      (fun b' hb'=>by
       simp only[Loc.block,Option.some.injEq]at hb'
       subst hb'
       exact⟨_,ho,rfl,by simp[dZ,q1,Loc.block]⟩)
     obtain⟨β4,U2,f2,d1,d2,d3,d4,d5,d6,d7,d8,d9⟩:=mh g ms h2 (fun o x hh=>h0 o x (by simp[hh])) hB2 (fun m hm=>by
      rw[a6 _ _ _ _ (by omega)];exact b4 m (by omega)) n4 (fun o hh hh'=>by
      rcases aH.1 hh' with rfl|hh'
      ·exact n1 (aB _ hh)
      ·rcases b3 o hh' with h|h
       ·exact n5 o h hh
       ·exact hU o (by simp[hh]) h)
     refine⟨β4,U2,f2,d1,fun o l hl=>d2 o l (b1.le hfj _ o l (b2 o l hl)),fun o hh=>?_,fun m hm=>d4 m (by simp at hm;omega),fun m hm=>?_,fun q hq=>?_,by simp[eD,d7,hl1];omega,fun q hq=>?_,fun q sz es hq he=>?_⟩
     ·rcases d3 o hh with h|h
      ·exact .inl (by simp[h])
      ·rcases aH.1 h with rfl|h
       ·exact .inl (by simp)
       ·rcases b3 o h with h|h
        ·exact .inl (by simp[h])
        ·exact .inr h
     ·rw[d5 m (by omega),a6 _ _ _ _ (by omega)];exact b5 m (by omega)
     ·cases q with
      |zero=>right;rw[bX,d5 j (by omega),aN];rfl
      |
       succ q =>
       by_cases hlt:q<obs1.length
       ·right
        rw[d5 _ (by omega),a6 _ _ _ _ (by omega),show j+(q+1)=j+1+q by omega,b6 q hlt]
        simp[aa,a7,hlt]
       ·have:=d6 (q-obs1.length) (by simp at hq;omega)
        rw[show j+1+bL ks+(q-obs1.length)=j+(q+1) by omega]at this
        have e2:(Ob.cells asq::(obs1++obs2)).getD (q+1) .dead=obs2.getD (q-obs1.length) .dead:=by simp[aa,a7,hlt]
        have e3:(Ob.cells asq::obs1++obs2)=Ob.cells asq::(obs1++obs2):=rfl
        rw[e3,e2];exact this
     ·rcases aH.1 hq with rfl|hq
      ·exact⟨⟨_,ho⟩,_,q1,d2 _ _ (aN _ _ _)⟩
      ·exact d8 q hq
     ·cases q with
      |zero=>cases he
      |
       succ q =>
       by_cases hlt:q<obs1.length
       ·exfalso
        obtain⟨z,es',e⟩:=(jD ks h1).2.1 (obs1.getD q .dead) (by simp[aa,hlt])
        have e2:(Ob.cells asq::obs1++obs2).getD (q+1) .dead=obs1.getD q .dead:=by simp[aa,a7,hlt]
        rw[e2,e]at he;cases he
       ·have e2:(Ob.cells asq::obs1++obs2).getD (q+1) .dead=obs2.getD (q-obs1.length) .dead:=by simp[aa,a7,hlt]
        rw[e2]at he
        have:=d9 (q-obs1.length) sz es (by simp at hq;omega) he
        rw[show j+1+bL ks+(q-obs1.length)=j+(q+1) by omega]at this
        exact al _ this
    ·cases h
   ·cases h
  ·cases h
theorem qF{T:eE}(g:di n A s a w M β){s0:St}{own:List Nat}{oa:List CK}:∀(asq:List AV) {ts:List Nat} {i k:Nat} {xs:List AV} {obs:List Ob} {os fz:List Nat},sk T s0 own oa ts asq i k=some (xs,obs,os,fz)->Fz M β w s0.ob fz->(∀o x,o∈os->s0.ob o=some x->s.ob o=some x) ->
 ∀{U:List Nat} {f:Nat->Option Ob} {βc:Lo},fV s w M β U f βc->(∀m,k<=m->f m=none)->nodup os=true->(∀o,o∈os->o∉U) ->
 ∃βc' U' f',fV s w M β U' f' βc'/\Lo.le βc βc'/\(∀m,k+obs.length<=m->f' m=none)/\(∀m,m<k->f' m=f m)/\(∀q,q<obs.length->f' (k+q)=some (obs.getD q .dead))/\xs.length=asq.length /\
  ∀q v,q<asq.length->bx M β (asq.getD q .any) v->bx M βc' (xs.getD q .any) v
 |
  [],ts,i,k,xs,obs,os,fz,h,hz,h0,U,f,βc,hB,hnm,hnd,hU=>by
  simp only[sk,Option.some.injEq,Prod.mk.injEq]at h
  obtain⟨rfl,rfl,rfl,rfl⟩:=h
  exact⟨βc,U,f,hB,Lo.le.refl _,fun m hm=>hnm m (by simpa using hm),fun m _=>rfl,fun q hq=>(by simp at hq),rfl,fun q v hq=>(by simp at hq)⟩
 |
  c::asq,ts,i,k,xs,obs,os,fz,h,hz,h0,U,f,βc,hB,hnm,hnd,hU=>by
  have cont:∀(ra:AV) (xo:Ob) (o:Nat) (xs1:List AV) (obs1:List Ob) (os1:List Nat),sk T s0 own oa ts.tail asq (i+1) (k+1)=some (xs1,obs1,os1,fz)->xs=ra::xs1->obs=xo::obs1->os=o::os1->(∃β3,fV s w M β (o::U) (cx f k (some xo)) β3/\Lo.le βc β3/\∀v,bx M β c v->bx M β3 ra v) ->
   ∃βc' U' f',fV s w M β U' f' βc'/\Lo.le βc βc'/\(∀m,k+obs.length<=m->f' m=none)/\(∀m,m<k->f' m=f m)/\(∀q,q<obs.length->f' (k+q)=some (obs.getD q .dead))/\xs.length=(c::asq).length /\
    ∀q v,q<(c::asq).length->bx M β ((c::asq).getD q .any) v->bx M βc' (xs.getD q .any) v:=by
   intro ra xo o xs1 obs1 os1 h2 ea eo eos ⟨β3,c1,c2,c3⟩
   subst ea;subst eo;subst eos
   obtain⟨n1,n2⟩:=nodup_cons hnd
   obtain⟨β4,U',f',b1,b2,b4,b5,b6,b7,b8⟩:=qF g asq h2 hz (fun o x ho=>h0 o x (al _ ho)) c1 (fun m hm=>by rw[a6 _ _ _ _ (by omega)];exact hnm m (by omega)) n2 (fun q hq hh=>by
    rcases aH.1 hh with rfl|hh
    ·exact n1 hq
    ·exact hU q (al _ hq) hh)
   refine⟨β4,U',f',b1,fun o l hl=>b2 o l (c2 o l hl),fun m hm=>b4 m (by simp at hm;omega),fun m hm=>?_,fun q hq=>?_,by simp[b7],fun q v hq hr=>?_⟩
   ·rw[b5 m (by omega),a6 _ _ _ _ (by omega)]
   ·cases q with
    |zero=>rw[bX,b5 k (by omega),aN];rfl
    |
     succ q =>
     have:=b6 q (by simpa using hq)
     rw[show k+(q+1)=k+1+q by omega,this];rfl
   ·cases q with
    |zero=>simpa using(c3 v (by simpa using hr)).mono (Mem.le.refl _) b2
    |succ q=>simpa using b8 q v (by simpa using hq) (by simpa using hr)
  simp only[sk]at h
  cases ho:own.any (aJ i)with
  |
   true =>
   rw[ho]at h
   simp only[cond_true]at h
   split at h
   ·rename_i o
    split at h
    ·rename_i sz es xs1 obs1 os1 fz1 h1 h2
     cases h
     obtain⟨β3,c1,c2,c3,c4⟩:=fV.vec g hB (m:=k) (hnm k (aw _)) (hU o ai) (h0 _ _ ai h1)
     exact cont (.vec k) (.vec sz es) o xs1 obs1 os1 h2 rfl rfl rfl ⟨β3,c1,c2,c3⟩
    ·cases h
   ·rename_i o
    split at h
    ·rename_i cs hcs
     split at h
     ·rename_i as' xs1 obs1 os1 fz1 h1 h2
      cases h
      obtain⟨q1,q2⟩:=pA (M:=M) (β:=β) (w:=w) (ob:=s0.ob) (fun c a' os v=>gF eB c a' os v) _ _ _ h1 (fun o ho=>by cases ho)
      obtain⟨β3,c1,c2,c3⟩:=fV.obj g hB (m:=k) (asq:=as') (hnm k (aw _)) (hU o ai) (h0 _ _ ai hcs) q1 q2
      exact cont (.ref k 0) (.cells as') o xs1 obs1 os1 h2 rfl rfl rfl ⟨β3,c1,c2,c3⟩
     ·cases h
    ·cases h
   ·split at h
    ·rename_i xs1 obs1 os1 fz1 h2
     cases h
     obtain⟨β3,c1,c2,c3⟩:=fV.ud g hB (m:=k) (o:=4*eQ+k) (sz:=qe T (ts.headD 0)) (hnm k (aw _)) (hU _ ai)
     exact cont (.vec k) (.vec (qe T (ts.headD 0)) []) _ xs1 obs1 os1 h2 rfl rfl rfl ⟨β3,c1,c2,fun v hv=>by rw[dE hv];exact c3⟩
    ·cases h
   ·rename_i cs
    split at h
    ·rename_i as' ob' os' xs1 obs1 os1 fz1 h1 h2
     cases h
     have hlen:=iK oa h1
     obtain⟨n1,n2,n3⟩:=eF hnd
     obtain⟨β3,U3,f3,c1,c2,c3,c4,c5,c6,c7,c8,_⟩:=jV g oa h1 (fun o x ho=>h0 o x (aC _ ho)) hB hnm n1 (fun q hq=>hU q (aC _ hq))
     obtain⟨β4,U',f',b1,b2,b4,b5,b6,b7,b8⟩:=qF g asq h2 hz (fun o x ho=>h0 o x (aB _ ho)) c1 (fun m hm=>c4 m (by omega)) n2 (fun q hq hh=>by
      rcases c3 q hh with h|h
      ·exact n3 q h hq
      ·exact hU q (aB _ hq) h)
     refine⟨β4,U',f',b1,fun o l hl=>b2 o l (c2 o l hl),fun m hm=>b4 m (by simp at hm;omega),fun m hm=>?_,fun q hq=>?_,by simp[b7],fun q v hq hr=>?_⟩
     ·rw[b5 m (by omega)];exact c5 m hm
     ·by_cases hlt:q<ob'.length
      ·rw[b5 _ (by omega),c6 q hlt]
       simp[aa,a7,hlt]
      ·have:=b6 (q-ob'.length) (by simp at hq;omega)
       rw[show k+bL oa+(q-ob'.length)=k+q by omega]at this
       rw[this]
       simp[aa,a7,hlt]
     ·cases q with
      |
       zero =>
       have hr:bx M β (.agg cs) v:=by simpa using hr
       obtain⟨us,rfl,hl,hr,hone⟩:=fM hr
       have:bx M β4 (.agg as') (.agg us.toArray):=.agg _ _ _ (by omega) (fun i hi=>hone i (by omega)) fun i hi=>(c8 i _ (by omega) (hr i (by omega))).mono (Mem.le.refl _) b2
       simpa using this
      |succ q=>simpa using b8 q v (by simpa using hq) (by simpa using hr)
    ·cases h
   ·cases h
  |
   false =>
   rw[ho]at h
   simp only[cond_false]at h
   split at h
   ·rename_i x fz1 xs1 obs1 os1 fz2 h1 h2
    cases h
    obtain⟨β4,U',f',b1,b2,b4,b5,b6,b7,b8⟩:=qF g asq h2 hz.right h0 hB hnm hnd hU
    refine⟨β4,U',f',b1,b2,b4,b5,b6,by simp[b7],fun q v hq hr=>?_⟩
    cases q with
    |zero=>simpa using(gF _ _ _ _ _ h1 hz.left (by simpa using hr)).up
    |succ q=>simpa using b8 q v (by simpa using hq) (by simpa using hr)
   ·cases h
theorem Cl{T:eE}(hT:dc P T){cfg:Nat->FC}{lis:List (Nat×LI)}{fc:FC}{f:Nat}{F:Func}{asq:List AV}{ins:List Ob}{R:AV->List Ob->Prop}(hf:P.funcs[f]?=some F)(hnm:(F.name=="runtime.NumGoroutine")=false)
 (hreg:∀A,lQ P A->yf P F.ntmps A T cfg fun _ xs obs=>R (xs.headD .any) obs)
 (h:eU P F.ntmps (main T cfg lis fc F asq ins) fun _ xs obs=>R (xs.headD .any) obs):an P f asq ins R:=by
 unfold main at h
 cases hb:F.body with
 |none=>rw[hb]at h;exact h.elim
 |
  some c =>
  rw[hb]at h
  simp only at h
  cases hle:(Nat.ble asq.length F.ntmps&&dY (dF fc.mu) ins)with
  |false=>rw[hle]at h;exact h.elim
  |
   true =>
   rw[hle]at h
   simp only[cond_true]at h
   simp only[az]at hle
   obtain⟨hle,hal⟩:=hle
   have hle:=aQ hle
   have hlen:=iL _ _ hal
   refine⟨⟨F,hf,by simp[hb],hnm⟩,fun w M β vs hB hin=>?_⟩
   have hsz:vs.toArray.size=asq.length:=by simp[hin.len]
   let fx:=pf (dF fc.mu) 0
   let A:jz:=⟨w,M,fun b=>∃i,i<ins.length/\dZ β i=some b,fun o=>bif fS fx o then β o else none⟩
   have hA:∀o b,A.fix o=some b->o∈fx/\β o=some b:=fun o b hb=>by
    simp only[A]at hb
    cases hm:fS fx o with
    |false=>rw[hm]at hb;cases hb
    |
     true =>
     rw[hm]at hb
     simp only[cond_true]at hb
     exact⟨lV.1 hm,hb⟩
   have hob:∀o x,(enter asq ins).ob o=some x->o<ins.length/\x=ins.getD o .dead:=fun o x hx=>by
    have:qW ins 0 (fun _=>none) o=some x:=hx
    rw[rI]at this
    split at this
    ·rename_i hh;cases this;exact⟨by omega,by rw[Nat.sub_zero]⟩
    ·cases this
   have g0:di F.ntmps A (enter asq ins) {tmps:=vs.toArray++Array.replicate (F.ntmps-vs.toArray.size) undef,defers:=[]} w M β:=by
    refine {size:=by simp[hin.len];omega,defs:=rfl,tm:=fun t=>?_,le:=Mem.le.refl _,new:=fun b k v h=>.inl h,agree:=hin.agree,own:=fun o x h=>?_,place:=fun o x b h _ hb=>?_,apart:=fun o o' x x' b hne h hl h' hl' hb=>?_,us:=fun o hu=>?_,fix:=fun o b hb=>?_,cC:=⟨rfl,rfl,rfl,aw _,fun _ _ _=>rfl⟩}
    ·show bx M β (setArgs asq 0 (fun _=>.any) t) _
     rw[my]
     by_cases ht:t<asq.length
     ·rw[if_pos (by omega),Nat.sub_zero]
      have e:(vs.toArray++Array.replicate (F.ntmps-vs.toArray.size) undef).getD t undef=vs.getD t undef:=by
       have:t<vs.length:=by rw[hin.len];exact ht
       simp[Array.getElem?_append,this,aa]
      rw[e];exact hin.rep t ht
     ·rw[if_neg (by omega)];exact .any _ _
    ·obtain⟨h1,rfl⟩:=hob o x h;exact hin.own o h1
    ·obtain⟨h1,rfl⟩:=hob o x h;exact .inr ⟨o,h1,hb⟩
    ·obtain⟨h1,rfl⟩:=hob o x h;obtain⟨h2,rfl⟩:=hob o' x' h';exact hin.apart o o' b hne h1 h2 hl hl' hb
    ·have hge:ins.length<=o:=by
      have:cA o ins.length=false:=hu
      rcases Nat.lt_or_ge o ins.length with h|h
      ·have:cA o ins.length=true:=Nat.ble_eq_true_of_le h
       simp_all
      ·exact h
     refine⟨hin.none o hge,?_⟩
     cases e:(enter asq ins).ob o with
     |none=>rfl
     |some x=>obtain⟨h1,_⟩:=hob o x e;omega
    ·obtain⟨h1,h2⟩:=hA o b hb
     have:=(n7 _ _ _ h1).2
     exact⟨Nat.ble_eq_true_of_le (by omega),fun _ _=>h2⟩
   have hBA:lQ P A:=lQ.of hB fun b k v hc ⟨i,hi,hbi⟩=>by
    have:=(hin.own i hi).Ae (gH _ _ hal i hi) hbi k
    rw[this]at hc;cases hc
   refine calls_of_wp hf hb (BK (A:=A) hBA (hreg A hBA) lis (fun o b hb=>(hA o b hb).1) c _ _ _ ?_ _ w ⟨M,β,g0⟩ h)
   intro ex s a w' ⟨M',β',g⟩ h'
   have fin:eU P F.ntmps (finish T fc F.results.toList F.resultTypes.toList s) (fun _ xs obs=>R (xs.headD .any) obs) ->
    a.defers=[]/\∃v,(results F a.tmps).run P w'=.ok v w'/\∃v' r obs M'' β'',Ending.returned v=.returned v'/\R r obs/\Out w M β ins.length r obs v' w' M'' β'':=by
    intro h'
    unfold finish at h'
    split at h'
    ·rename_i ps as' hres
     split at h'
     ·rename_i obs' os' hkeep
      split at h'
      ·rename_i xs obs os fz hout
       cases hgd:(nodup (os'++os)&&!((os'++os).any (fS fz)))with
       |false=>rw[hgd]at h';exact h'.elim
       |true =>
       rw[hgd]at h'
       simp only[cond_true]at h'
       simp only[az,cc]at hgd
       obtain⟨hnd,hdj⟩:=hgd
       obtain⟨n1,n2,n3⟩:=eF hnd
       have hdj':∀o,o∈os'++os->o∉fz:=fun o ho hf=>by
        rw[List.any_eq_false]at hdj
        exact hdj o ho (lV.2 hf)
       obtain⟨hp,hR⟩:=gv.1 h'
       obtain⟨rs,h1,h2,h3⟩:=oC hT g F.results.toList hres hp
       obtain⟨M1,hM,g1⟩:=g.freeze fz
       have h0:∀o x,o∈os'++os->s.ob o=some x->({s with ob:=cD s.ob (fE s.ob fz)}:St).ob o=some x:=fun o x ho hx=>by
        show cD s.ob (fE s.ob fz) o=some x
        rw[nh _ _ _ (by rw[um];exact hdj' o ho)];exact hx
       obtain⟨β2,U2,f2,b1,b2,b3,b4,b5,b6,b7,b8,b9⟩:=mh g1 (dF fc.mu) hkeep (fun o x ho=>h0 o x (aC _ ho)) fV.nil (fun _ _=>rfl) n1 (fun _ _ hh=>by cases hh)
       simp only[aZ]at b4 b6
       obtain⟨β3,U3,f3,d1,d2,d4,d5,d6,d7,d8⟩:=qF (T:=T) g1 as' hout g1.fz (fun o x ho=>h0 o x (aB _ ho)) b1 b4 n2 (fun o ho hh=>by
        rcases b3 o hh with h|h
        ·exact n3 o h ho
        ·cases h)
       have hall:∀q,q<(obs'++obs).length->(obs'++obs).getD q .dead=.dead\/f3 q=some ((obs'++obs).getD q .dead):=fun q hq=>by
        by_cases hlt:q<obs'.length
        ·have e1:(obs'++obs).getD q .dead=obs'.getD q .dead:=by simp[aa,a7,hlt]
         rw[e1,d5 q hlt];exact b6 q hlt
        ·have e1:(obs'++obs).getD q .dead=obs.getD (q-obs'.length) .dead:=by simp[aa,a7,hlt]
         have:=d6 (q-obs'.length) (by simp at hq;omega)
         rw[show obs'.length+(q-obs'.length)=q by omega]at this
         rw[e1];exact .inr this
       have hlive:∀q,q<(obs'++obs).length->((obs'++obs).getD q .dead).live=true->f3 q=some ((obs'++obs).getD q .dead):=fun q hq hl=>by
        rcases hall q hq with h|h
        ·rw[h]at hl;cases hl
        ·exact h
       have hrep:∀i,i<xs.length->bx M1 β3 (xs.getD i .any) (rs.getD i undef):=fun i hi=>d8 i _ (by omega) ((h3 i (by omega)).mono hM (Lo.le.refl _))
       have hrun:(results F a.tmps).run P w'=.ok (if h:rs.toArray.size=1 then rs.toArray[0]else .tuple rs.toArray) w':=by
        rw[rB,Sem.run_bind,Array.mapM_eq_mapM_toList]
        simp only[Sem.run_map,h1]
        rfl
       have hkp:∀j l,j∈fx->β j=some l->β3 j=some l:=fun j l hmem hb=>by
        have hfix:A.fix j=some l:=by
         show (bif fS fx j then β j else none)=some l
         rw[lV.2 hmem,hb];rfl
        obtain⟨⟨x,hx⟩,b',q1,q2⟩:=b8 j hmem
        have:=(g1.fix j l hfix).2 x hx
        rw[q1]at this;cases this
        exact d2 _ _ q2
       refine⟨g.defs,_,hrun,_,_,obs'++obs,M1,β3,rfl,hR,?_⟩
       have hxl:xs.length=rs.length:=by omega
       refine⟨g1.le,g1.agree,?_,fun j hj=>?_,fun j b hj hb=>?_,fun j l sz es hj hb he=>?_,fun i j b hne hi hj hli hlj hb=>?_,fun j b hj hl hb=>?_,fun b k v hc=>g1.new b k v hc,⟨g1.cC.os,g1.cC.tape,g1.cC.output,g1.cC.size,g1.cC.block⟩⟩
       ·match xs,rs,hxl,hrep with
        |[],[],_,_=>exact .any _ _
        |[x],[r],_,hrep=>simpa using hrep 0 (by simp)
        |x::y::xs,r::q::rs,hl,hrep=>exact .cy _ _ _ (by simpa using hl) hrep
       ·rcases hall j hj with h|h
        ·rw[h];trivial
        ·exact d1.own j _ h
       ·have hcells:∃cs,ins.getD j .dead=.cells cs:=by
         have h1:=hin.own j hj
         have hl:=gH _ _ hal j hj
         cases e:ins.getD j .dead with
         |cells cs=>exact⟨cs,rfl⟩
         |vec z es=>rw[e]at h1;obtain⟨u,h2,_⟩:=h1;rw[hb]at h2;cases h2
         |mv z es=>rw[e]at h1;obtain⟨u,h2,_⟩:=h1;rw[hb]at h2;cases h2
         |_=>rw[e]at hl;cases hl
        obtain⟨cs,ecs⟩:=hcells
        have hmem:=jS _ _ 0 hal j cs hj ecs
        rw[aZ]at hmem
        exact hkp j _ hmem hb
       ·have hlt:j<obs'.length:=by omega
        have e1:(obs'++obs).getD j .dead=obs'.getD j .dead:=by simp[aa,a7,hlt]
        rw[e1]at he
        have hmem:=b9 j sz es hlt he
        rw[aZ]at hmem
        exact hkp j _ hmem hb
       ·exact d1.apart i j _ _ b hne (hlive i hi hli) hli (hlive j hj hlj) hlj hb
       ·obtain⟨o,x0,_,r2,r3,r4⟩:=d1.src j _ b (hlive j hj hl) hl hb
        exact g1.place o x0 b r2 r3 r4
      ·exact h'.elim
     ·exact h'.elim
    ·exact h'.elim
   cases ex with
   |normal=>exact fin h'
   |ret=>exact fin h'
   |exit i=>exact h'.elim
end
end Go.VL
namespace Go.VL
open Go Go.RowKit
section
variable {T:eE} {e e':Operand->AV} {ob ob':Nat->Option Ob}
theorem yH{fs:List (Nat×Nat)}{m:Nat}:∀{ps:List (Nat×Operand)},(∀p,p∈ps->e p.2=e' p.2)->qZ T fs m e ps=qZ T fs m e' ps
 |[],_=>rfl
 |
  p::ps,h=>by
  simp only[qZ]
  rw[h p ai,yH fun q hq=>h q (al _ hq)]
theorem xU{z m:Nat}:∀{ps:List (Nat×Operand)},(∀p,p∈ps->e p.2=e' p.2)->rT z m e ps=rT z m e' ps
 |[],_=>rfl
 |
  p::ps,h=>by
  simp only[rT]
  rw[h p ai,xU fun q hq=>h q (al _ hq)]
theorem uw{f:Nat->Nat}:∀{ps:List (Nat×Operand)} {cs:List AV},(∀p,p∈ps->e p.2=e' p.2)->ps.foldl (fun cs p=>ic cs (f p.1) (flat (e p.2))) cs=ps.foldl (fun cs p=>ic cs (f p.1) (flat (e' p.2))) cs
 |[],_,_=>rfl
 |
  p::ps,cs,h=>by
  simp only[List.foldl_cons]
  rw[h p ai,uw fun q hq=>h q (al _ hq)]
theorem Et:∀{ps:List (Nat×Operand)},(∀p,p∈ps->e p.2=e' p.2)->ps.map (fun p=>e p.2)=ps.map fun p=>e' p.2
 |[],_=>rfl
 |p::ps,h=>by simp only[bz];rw[h p ai,Et fun q hq=>h q (al _ hq)]
theorem Em:∀{ps:List (Nat×Operand)},(∀p,p∈ps->e p.2=e' p.2)->(ps.all fun p=>mS (e p.2))=ps.all fun p=>mS (e' p.2)
 |[],_=>rfl
 |p::ps,h=>by simp only[cT];rw[h p ai,Em fun q hq=>h q (al _ hq)]
theorem wX:∀{xs:List Operand},(∀x,x∈xs->e x=e' x)->xs.map e=xs.map e'
 |[],_=>rfl
 |x::xs,h=>by simp only[bz];rw[h x ai,wX fun q hq=>h q (al _ hq)]
theorem Di{lo:Option Operand}(h:∀x,lo=some x->e x=e' x):ik e lo=ik e' lo:=by
 cases lo with
 |none=>rfl
 |some x=>simp only[ik];rw[h x rfl]
theorem BN{n:Nat}{lo:Option Operand}(h:∀x,lo=some x->e x=e' x):gl e n lo=gl e' n lo:=by
 cases lo with
 |none=>rfl
 |some x=>simp only[gl];rw[h x rfl]
theorem MR(o:Oper)(h:∀x,x∈o.op.operands->e x=e' x):dS T e ob o=dS T e' ob o:=by
 cases ho:o.op with
 |move x=>have h1:=h x (by simp[ho,Op.operands]);unfold dS;rw[ho];simp only[h1]
 |assign x=>have h1:=h x (by simp[ho,Op.operands]);unfold dS;rw[ho];simp only[h1]
 |
  pick c x y =>
  have h1:=h c (by simp[ho,Op.operands]);have h2:=h x (by simp[ho,Op.operands]);have h3:=h y (by simp[ho,Op.operands])
  unfold dS;rw[ho];simp only[h1,h2,h3]
 |binOp op t x y t'=>have h1:=h x (by simp[ho,Op.operands]);have h2:=h y (by simp[ho,Op.operands]);unfold dS;rw[ho];simp only[h1,h2]
 |unOp op t x=>have h1:=h x (by simp[ho,Op.operands]);cases op<;>(unfold dS;rw[ho];try simp only[h1])
 |nilCheck x=>have h1:=h x (by simp[ho,Op.operands]);unfold dS;rw[ho];simp only[h1]
 |fieldAddr t x f=>have h1:=h x (by simp[ho,Op.operands]);unfold dS;rw[ho];simp only[h1]
 |field t x f=>have h1:=h x (by simp[ho,Op.operands]);unfold dS;rw[ho];simp only[h1]
 |load t x=>have h1:=h x (by simp[ho,Op.operands]);unfold dS;rw[ho];simp only[h1]
 |indexAddr t x i=>have h1:=h x (by simp[ho,Op.operands]);have h2:=h i (by simp[ho,Op.operands]);unfold dS;rw[ho];simp only[h1,h2]
 |index t x i=>have h1:=h x (by simp[ho,Op.operands]);have h2:=h i (by simp[ho,Op.operands]);unfold dS;rw[ho];simp only[h1,h2]
 |extract x i=>have h1:=h x (by simp[ho,Op.operands]);unfold dS;rw[ho];simp only[h1]
 |
  slice t x lo hi mx =>
  have h1:=h x (by simp[ho,Op.operands])
  have h2:ik e lo=ik e' lo:=Di fun y hy=>h y (by simp[ho,Op.operands,hy])
  have h3:∀n,gl e n hi=gl e' n hi:=fun n=>BN fun y hy=>h y (by simp[ho,Op.operands,hy])
  cases mx<;>(unfold dS;rw[ho];try simp only[h1,h2,h3])
 |convert st dt x=>have h1:=h x (by simp[ho,Op.operands]);unfold dS;rw[ho];simp only[h1]
 |
  build t ps =>
  have hp:∀p,p∈ps.toList->e p.2=e' p.2:=fun p hp=>h p.2 (by rw[ho];simp only[Op.operands,List.mem_toArray];exact bJ.2 ⟨p,hp,rfl⟩)
  unfold dS;rw[ho]
  simp only[yH hp,xU hp]
  congr 1
  split
  ·rename_i fs _;simp only[uw (f:=fun i=>(fs.getD i (0,0)).1) hp]
  ·rename_i m el _;simp only[uw (f:=fun i=>i*(T el).sz) hp]
  ·rfl
 |alloc t=>unfold dS;rw[ho]
 |box t x=>have h1:=h x (by simp[ho,Op.operands]);unfold dS;rw[ho];simp only[h1]
 |store t x y=>have h1:=h x (by simp[ho,Op.operands]);have h2:=h y (by simp[ho,Op.operands]);unfold dS;rw[ho];simp only[h1,h2]
 |
  buildSlice t m ps =>
  have hp:∀p,p∈ps.toList->e p.2=e' p.2:=fun p hp=>h p.2 (by rw[ho];simp only[Op.operands,List.mem_toArray];exact bJ.2 ⟨p,hp,rfl⟩)
  unfold dS;rw[ho]
  simp only[Et hp,Em hp]
 |makeSlice t l c=>have h1:=h l (by simp[ho,Op.operands]);unfold dS;rw[ho];simp only[h1]
 |
  call c =>
  obtain⟨callee,xs,ts⟩:=c
  have hx:∀x,x∈xs->e x=e' x:=fun x hx=>h x (by rw[ho];simp only[Op.operands,Call.operands];exact Array.mem_append.2 (.inr hx))
  have hl:∀x,x∈xs.toList->e x=e' x:=fun x h=>hx x (by simpa using h)
  cases callee with
  |
   builtin b =>
   cases b with
   |
    len =>
    unfold dS;rw[ho];simp only
    split
    ·rename_i x t hxs hts
     simp only[hl x (by rw[hxs];simp)]
    ·rfl
   |
    append =>
    unfold dS;rw[ho];simp only
    split
    ·rename_i x y t t' d hxs hts hd
     simp only[hl x (by rw[hxs];simp),hl y (by rw[hxs];simp)]
    ·rfl
   |
    max =>
    unfold dS;rw[ho];simp only
    split
    ·rename_i x y hxs
     simp only[hl x (by rw[hxs];simp),hl y (by rw[hxs];simp)]
    ·rfl
   |
    min =>
    unfold dS;rw[ho];simp only
    split
    ·rename_i x y hxs
     simp only[hl x (by rw[hxs];simp),hl y (by rw[hxs];simp)]
    ·rfl
   |_=>unfold dS;rw[ho]
  |_=>unfold dS;rw[ho]
 |
  makeFunc f fs cs =>
  have hl:∀x,x∈cs.toList->e x=e' x:=fun x hx=>h x (by rw[ho];simp only[Op.operands];exact Array.mem_append.2 (.inr (by simpa using hx)))
  cases f with
  |func f=>unfold dS;rw[ho];simp only[wX hl]
  |_=>unfold dS;rw[ho]
 |_=>unfold dS;rw[ho]
end
end Go.VL
namespace Go.VL
open Go Go.RowKit
section
variable {T:eE} {e:Operand->AV} {ob ob':Nat->Option Ob}
theorem BZ{f f':AV->Option (AV×List Nat)}(hf:∀c a os,f c=some (a,os)->(∀m,m∈os->ob' m=ob m)->f' c=some (a,os)):∀{cs:List AV} {asq:List (List AV)} {os:List Nat},uC f cs=some (asq,os)->(∀m,m∈os->ob' m=ob m)->uC f' cs=some (asq,os)
 |[],asq,os,h,_=>h
 |
  c::cs,asq,os,h,hm=>by
  unfold uC at h
  split at h
  ·rename_i a1 o1 a2 o2 h1 h2
   cases h
   have q1:=vk hf h1 fun m h=>hm m (aC _ h)
   have q2:=BZ hf h2 fun m h=>hm m (aB _ h)
   simp[uC,q1,q2]
  ·cases h
theorem wO:∀{os:List Nat},(∀m,m∈os->ob' m=ob m)->fE ob' os=fE ob os
 |[],_=>rfl
 |
  o::os,hm=>by
  show (o,cG (ob' o))::fE ob' os=(o,cG (ob o))::fE ob os
  rw[hm o ai,wO fun m h=>hm m (al _ h)]
theorem kQ{x:AV}{p:Option Prop}{es:List (List AV)}{os:List Nat}(h:fh ob x=some (p,es,os))(hm:∀m,m∈os->ob' m=ob m):fh ob' x=some (p,es,os):=by
 unfold fh at h |-
 split at h
 ·exact h
 ·exact h
 ·exact h
 ·rename_i o
  split at h
  ·rename_i sz es' ho;cases h;rw[hm o ai,ho]
  ·rename_i es' ho;cases h;rw[hm o ai,ho]
  ·cases h
 ·cases h
def s6:DR->List Nat
 | .no=>[]
 | .yes d=>d.rd++mr d
 | .ok _ d=>d.rd++mr d
def Same(ob ob':Nat->Option Ob)(r r':DR):Prop:=r=.no\/((∀m,m∈s6 r->ob' m=ob m)->r'=r)
theorem Same.refl(r:DR):Same ob ob' r r:=.inr fun _=>rfl
theorem ew{q:Bool}{r r':DR}(h:Same ob ob' r r'):Same ob ob' (dz q r) (dz q r'):=by
 cases q
 ·exact .inl rfl
 ·exact h
theorem jQ{q:Option Prop}{r:DR}:s6 (r.when q)=s6 r:=by
 cases q<;>cases r<;>rfl
theorem iu{r:DR}{o:Nat}{r':DR}(h:ob' o=ob o->r'=r.reads o):Same ob ob' (r.reads o) r':=by
 cases r with
 |no=>exact .inl rfl
 |yes d=>exact .inr fun hm=>h (hm o (by simp[DR.reads,s6]))
 |ok p d=>exact .inr fun hm=>h (hm o (by simp[DR.reads,s6]))
theorem A5(t:TI)(x:AV):Same ob ob' (loadAt ob t x) (loadAt ob' t x):=by
 unfold loadAt
 cases x<;>first|exact .refl _|skip
 ·rename_i o k
  simp only
  cases ho:ob o with
  |none=>exact .inl rfl
  |
   some y =>
   cases y<;>first|exact .inl rfl|skip
   ·exact iu fun h=>by rw[h,ho]
   ·exact iu fun h=>by rw[h,ho]
 ·rename_i o k
  simp only
  cases ho:ob o with
  |none=>exact .inl rfl
  |
   some y =>
   cases y<;>first|exact .inl rfl|skip
   ·exact iu fun h=>by rw[h,ho]
   ·exact iu fun h=>by rw[h,ho]
 ·rename_i o i k
  simp only
  cases ho:ob o with
  |none=>exact .inl rfl
  |
   some y =>
   cases y<;>first|exact .inl rfl|skip
   ·exact iu fun h=>by rw[h,ho]
   ·exact iu fun h=>by rw[h,ho]
theorem zT(t:TI)(x:AV)(i:Int):Same ob ob' (indexAt T ob t x i) (indexAt T ob' t x i):=by
 unfold indexAt
 cases hk:t.k<;>cases x<;>first|exact .refl _|skip
 rename_i el o
 refine ew ?_
 cases ho:ob o with
 |none=>exact .inl rfl
 |
  some y =>
  cases y<;>first|exact .inl rfl|skip
  ·rename_i sz es
   cases hz:aJ sz (T el).sz with
   |false=>left;show dz (aJ sz (T el).sz) _=_;rw[hz];rfl
   |
    true =>
    refine .inr fun hm=>?_
    have:=hm o (by show o∈s6 (dz (aJ sz (T el).sz) _);rw[hz];simp[dz,s6])
    rw[this,ho]
  ·refine .inr fun hm=>?_
   have:=hm o (by simp[s6])
   rw[this,ho]
theorem Ml(o:Oper):Same ob ob' (dS T e ob o) (dS T e ob' o):=by
 cases ho:o.op with
 |load t x=>unfold dS;rw[ho];exact A5 _ _
 |
  indexAddr t x i =>
  unfold dS;rw[ho]
  refine ew ?_
  try simp only
  split
  ·exact zT _ _ _
  ·exact .inl rfl
 |
  slice t x lo hi mx =>
  cases mx with
  |some m=>unfold dS;rw[ho];exact .inl rfl
  |
   none =>
   unfold dS;rw[ho]
   refine ew ?_
   try simp only
   split
   ·exact .refl _
   ·rename_i el o' hk hx
    refine ew ?_
    cases hob:ob o' with
    |none=>exact .inl rfl
    |
     some y =>
     cases y<;>first|exact .inl rfl|skip
     ·rename_i sz es
      try simp only
      cases hz:aJ sz (T el).sz with
      |false=>exact .inl rfl
      |
       true =>
       simp only[dz,cond_true]
       split
       ·rename_i l h hl hh
        refine .inr fun hm=>?_
        rw[hm o' (by simp[s6,mr]),hob]
        simp only[hz,cond_true,hl,hh]
       ·exact .inl rfl
     ·rename_i es
      try simp only
      split
      ·rename_i l h hl hh
       refine .inr fun hm=>?_
       rw[hm o' (by rw[jQ];simp[s6]),hob]
       simp only[hl,hh]
      ·exact .inl rfl
   ·rename_i el hk hnv
    refine ew ?_
    cases he:fh ob (e x)with
    |none=>exact .inl rfl
    |
     some q =>
     obtain⟨p,es,os⟩:=q
     try simp only
     split
     ·rename_i l h hl hh
      refine .inr fun hm=>?_
      rw[jQ,jQ]at hm
      rw[kQ he fun m hmm=>hm m (by simp[s6,hmm])]
      simp only[hl,hh]
     ·exact .inl rfl
   ·exact .inl rfl
 |
  convert st dt x =>
  unfold dS;rw[ho]
  refine ew ?_
  try simp only
  split
  ·refine ew ?_
   cases he:fh ob (e x)with
   |none=>exact .inl rfl
   |
    some q =>
    obtain⟨p,es,os⟩:=q
    try simp only
    refine .inr fun hm=>?_
    rw[jQ]at hm
    rw[kQ he fun m hmm=>hm m (by simp[s6,hmm])]
  ·exact .refl _
  ·exact .inl rfl
 |
  store t x y =>
  unfold dS;rw[ho]
  refine ew (ew ?_)
  try simp only
  split
  ·rename_i m k hx
   cases hob:ob m with
   |none=>exact .inl rfl
   |
    some z =>
    cases z<;>first|exact .inl rfl|skip
    rename_i cs
    try simp only
    cases hk:Nat.ble (k+(flat (e y)).length) cs.length with
    |false=>exact .inl rfl
    |
     true =>
     refine .inr fun hm=>?_
     rw[hm m (by simp[dz,s6,mr]),hob]
     simp only[hk]
  ·rename_i m k hx
   cases hob:ob m with
   |none=>exact .inl rfl
   |
    some z =>
    cases z<;>first|exact .inl rfl|skip
    refine .inr fun hm=>?_
    rw[hm m (by simp[s6,mr]),hob]
  ·rename_i m i k hx
   cases hob:ob m with
   |none=>exact .inl rfl
   |
    some z =>
    cases z<;>first|exact .inl rfl|skip
    try simp only
    split
    ·rename_i xs hf
     refine .inr fun hm=>?_
     rw[hm m (by simp[s6,mr]),hob]
     try simp only
     rw[vk (ob:=ob) (ob':=ob') (os:=[]) (fun c a os=>mf (ob:=ob) (ob':=ob') eB c a os) hf (fun m hmm=>by simp at hmm)]
    ·exact .inl rfl
  ·exact .inl rfl
 |
  buildSlice t m ps =>
  unfold dS;rw[ho]
  refine ew ?_
  try simp only
  split
  ·refine ew ?_
   split
   ·rename_i asq os hf
    rename_i el d _ _ _
    generalize hC:(ps.toList.map (·.1)==bf m&&Nat.ble (m*(T el).sz) 16777216&&asq.all (fun a=>aJ a.length (T el).sz)&&ps.toList.all fun p=>mS (e p.2))=C
    cases C with
    |false=>exact .inl rfl
    |
     true =>
     refine .inr fun hm=>?_
     have hos:∀q,q∈os->ob' q=ob q:=fun q hq=>hm q (by simp[dz,s6,mr,fE,hq])
     rw[BZ (ob:=ob) (ob':=ob') (fun c a os=>mf (ob:=ob) (ob':=ob') eB c a os) hf hos]
     simp only[wO hos,hC]
   ·exact .inl rfl
  ·exact .inl rfl
 |
  call c =>
  obtain⟨callee,xs,ts⟩:=c
  cases callee with
  |
   builtin b =>
   cases b with
   |
    len =>
    unfold dS;rw[ho];simp only
    split
    ·rename_i x t hxs hts
     refine ew ?_
     split
     ·exact .refl _
     ·exact .refl _
     ·cases he:fh ob (e x)with
      |none=>exact .inl rfl
      |
       some q =>
       obtain⟨p,es,os⟩:=q
       try simp only
       refine .inr fun hm=>?_
       rw[jQ]at hm
       rw[kQ he fun m hmm=>hm m (by simp[s6,hmm])]
     ·exact .inl rfl
    ·exact .inl rfl
   |
    append =>
    unfold dS;rw[ho];simp only
    split
    ·rename_i x y t t' d hxs hts hd
     refine ew ?_
     cases he:fh ob (e y)with
     |none=>left;split<;>first|rfl|(rename_i h;cases h)
     |
      some q =>
      obtain⟨p,fs,os⟩:=q
      cases hk:(T t).k<;>first|exact .inl rfl|skip
      rename_i el
      cases hb:((T el).kn&&cA 0 (T el).bytes)with
      |false=>left;show dz ((T el).kn&&cA 0 (T el).bytes) _=_;rw[hb];rfl
      |
       true =>
       show Same ob ob' (dz ((T el).kn&&cA 0 (T el).bytes) _) _
       rw[hb]
       simp only[dz,cond_true]
       split
       ·rename_i m hx
        cases hob:ob m with
        |none=>exact .inl rfl
        |
         some z =>
         cases z<;>first|exact .inl rfl|skip
         rename_i sz es
         cases hz:aJ sz (T el).sz with
         |false=>left;show cond (aJ sz (T el).sz) _ _=_;rw[hz];rfl
         |
          true =>
          show Same ob ob' (cond (aJ sz (T el).sz) _ _) _
          rw[hz]
          simp only[cond_true]
          refine .inr fun hm=>?_
          rw[jQ]at hm
          rw[kQ he fun q hq=>hm q (by simp[s6,hq])]
          simp only[hb,cond_true,hm m (by simp[s6,mr]),hob,hz]
       ·rename_i hx
        refine .inr fun hm=>?_
        rw[jQ]at hm
        rw[kQ he fun q hq=>hm q (by simp[s6,hq])]
        simp only[hb,cond_true]
       ·exact .inl rfl
    ·exact .inl rfl
   |_=>unfold dS;rw[ho];exact .refl _
  |_=>unfold dS;rw[ho];exact .refl _
 |unOp op t x=>cases op<;>(unfold dS;rw[ho];exact .refl _)
 |makeFunc f fs cs=>cases f<;>(unfold dS;rw[ho];exact .refl _)
 |_=>unfold dS;rw[ho];exact .refl _
end
end Go.VL
namespace Go.VL
open Go Go.RowKit
section
variable {T:eE} {cfg:Nat->FC} {e e':Operand->AV} {ob ob':Nat->Option Ob}
def Cf:zZ->List Nat
 | .d _ d=>d.rd
 |_=>[]
def zn:zZ->List Nat
 | .d _ d=>mr d
 | .c _ _ _ wr _=>wr
 | .no=>[]
theorem yn{ks:List CK}{cs asq:List AV}{obs:List Ob}{os:List Nat}{j:Nat}(h:oJ ob ks cs j=some (asq,obs,os))(hm:∀m,m∈os->ob' m=ob m):oJ ob' ks cs j=some (asq,obs,os):=by
 unfold oJ at h |-
 split at h
 ·rename_i as' sz es o h1
  split at h
  ·rename_i h2
   cases hb:aJ sz (lf ks)with
   |false=>rw[hb]at h;cases h
   |
    true =>
    rw[hb]at h;cases h
    rw[lu _ h1 hm]
    simp only[hm o ai,h2,hb,cond_true]
  ·cases h
 ·cases h
theorem xt{m:MK}{c c':AV}{obs:List Ob}{os:List Nat}{j:Nat}(h:nR ob m c j=some (c',obs,os))(hm:∀m,m∈os->ob' m=ob m):nR ob' m c j=some (c',obs,os):=by
 unfold nR at h |-
 split at h
 ·split at h
  ·rename_i ho;cases h;rw[hm _ ai,ho]
  ·cases h
 ·rename_i ks o
  split at h
  ·rename_i sz es ho
   cases hb:aJ sz (lf ks)with
   |false=>rw[hb]at h;cases h
   |
    true =>
    rw[hb]at h;cases h
    rw[hm _ ai,ho]
    simp only[hb,cond_true]
  ·cases h
 ·rename_i ks cs
  cases e:oJ ob ks cs j with
  |none=>rw[e]at h;cases h
  |
   some r =>
   obtain⟨as1,obs1,os1⟩:=r
   rw[e]at h;cases h
   have:=yn e hm
   rw[this]
 ·split at h
  ·rename_i ho
   split at h
   ·rename_i h1;cases h;rw[hm _ ai,ho];simp only;rw[lu _ h1 fun m hh=>hm m (al _ hh)]
   ·cases h
  ·cases h
 ·rename_i ks cs
  cases e:oJ ob ks cs j with
  |none=>rw[e]at h;cases h
  |
   some r =>
   obtain⟨as1,obs1,os1⟩:=r
   rw[e]at h;cases h
   have:=yn e hm
   rw[this]
 ·cases h
theorem qH:∀(ms:List (Option MK)) {cs asq:List AV} {obs:List Ob} {os:List Nat} {j:Nat},fp ob ms cs j=some (asq,obs,os)->(∀m,m∈os->ob' m=ob m)->fp ob' ms cs j=some (asq,obs,os)
 |
  [],cs,asq,obs,os,j,h,hm=>by
  cases cs with
  |nil=>exact h
  |cons c cs=>simp[fp]at h
 |
  none::ms,cs,asq,obs,os,j,h,hm=>by
  cases cs with
  |nil=>simp[fp]at h
  |
   cons c cs =>
   simp only[fp]at h |-
   split at h
   ·rename_i h1 h2;cases h;rw[EF h1,qH ms h2 hm]
   ·cases h
 |
  some m::ms,cs,asq,obs,os,j,h,hm=>by
  cases cs with
  |nil=>simp[fp]at h
  |
   cons c cs =>
   simp only[fp]at h |-
   split at h
   ·rename_i h1
    split at h
    ·rename_i h2;cases h
     rw[xt h1 fun m hh=>hm m (aC _ hh)]
     simp only
     rw[qH ms h2 fun m hh=>hm m (aB _ hh)]
    ·cases h
   ·cases h
theorem Cu{m:PK}{c c':AV}{obs:List Ob}{os:List Nat}{j:Nat}(h:m9 ob m c j=some (c',obs,os))(hm:∀m,m∈os->ob' m=ob m):m9 ob' m c j=some (c',obs,os):=by
 unfold m9 at h |-
 split at h
 ·exact xt h hm
 ·split at h
  ·rename_i h1;cases h;rw[qH _ h1 hm]
  ·cases h
 ·split at h
  ·rename_i h1 hg
   revert h
   cases hb:aJ _ _<;>intro h
   ·cases h
   ·cases h;rw[qH _ h1 hm,hg];simp only[hb,cond_true]
  ·cases h
 ·cases h
theorem Au{f:Nat}{c:AV}{l:List (Option Nat)}{fz:List Nat}(h:jY ob f c=some (l,fz))(hm:∀m,m∈fz->ob' m=ob m):jY ob' f c=some (l,fz):=by
 unfold jY at h |-
 split at h
 ·exact h
 ·rename_i o
  have key:∀f' caps,(bif aJ f' f then(oN o caps).map fun l=>(l,[o])else none)=some (l,fz)->fz=[o]:=fun f' caps h=>by
   cases hb:aJ f' f with
   |false=>rw[hb]at h;cases h
   |
    true =>
    rw[hb]at h
    cases e:oN o caps with
    |none=>rw[e]at h;cases h
    |some l'=>rw[e]at h;cases h;rfl
  split at h
  ·rename_i f' caps ho
   have:=hm o (by rw[key f' caps h];exact ai)
   simp only[this,ho];exact h
  ·rename_i f' caps ho
   have:=hm o (by rw[key f' caps h];exact ai)
   simp only[this,ho];exact h
  ·cases h
 ·cases h
theorem qw(mu:List (Nat×PK)):∀(asq:List AV) {i j:Nat} {as':List AV} {ins:List Ob} {os fz:List Nat},il ob mu asq i j=some (as',ins,os,fz)->(∀m,m∈os->ob' m=ob m)->(∀m,m∈fz->ob' m=ob m)->il ob' mu asq i j=some (as',ins,os,fz)
 |[],i,j,as',ins,os,fz,h,hm,hz=>h
 |
  c::asq,i,j,as',ins,os,fz,h,hm,hz=>by
  simp only[il]at h |-
  split at h
  ·split at h
   ·rename_i h1 h2;cases h
    rw[Au (ob:=ob) (ob':=ob') h1 fun m hh=>hz m (aC _ hh),qw mu asq h2 hm fun m hh=>hz m (aB _ hh)]
   ·cases h
  ·rename_i m hl
   split at h
   ·rename_i h1
    split at h
    ·rename_i h2;cases h
     rw[Cu h1 fun m hh=>hm m (aC _ hh)]
     simp only
     rw[qw mu asq h2 (fun m hh=>hm m (aB _ hh)) hz]
    ·cases h
   ·cases h
  ·split at h
   ·rename_i h1 h2;cases h
    rw[mf (ob:=ob) (ob':=ob') eB _ _ _ h1 fun m hh=>hz m (aC _ hh),qw mu asq h2 hm fun m hh=>hz m (aB _ hh)]
   ·cases h
theorem qz(mu:List (Nat×PK))(os0:List Nat)(ins0:List Ob):∀(asq:List AV) {i j:Nat} {as':List AV} {ins:List Ob} {os fz:List Nat},il ob mu asq i j=some (as',ins,os,fz)->(∀m,m∈fz->ob' m=ob m)->lM ob' mu os0 ins0 asq i=lM ob mu os0 ins0 asq i
 |[],i,j,as',ins,os,fz,h,hz=>rfl
 |
  c::asq,i,j,as',ins,os,fz,h,hz=>by
  simp only[il]at h
  split at h
  ·rename_i f js hl
   split at h
   ·rename_i h1 h2;cases h
    simp only[lM,hl]
    rw[Au (ob:=ob) (ob':=ob') h1 fun m hh=>hz m (aC _ hh),h1,qz mu os0 ins0 asq h2 fun m hh=>hz m (aB _ hh)]
   ·cases h
  ·rename_i m hne hl
   split at h
   ·split at h
    ·rename_i h2;cases h
     simp only[lM,hl]
     rw[qz mu os0 ins0 asq h2 hz]
     cases m<;>first|rfl|exact absurd rfl (hne _ _)
    ·cases h
   ·cases h
  ·rename_i hl
   split at h
   ·rename_i h1 h2;cases h
    simp only[lM,hl]
    rw[qz mu os0 ins0 asq h2 fun m hh=>hz m (aB _ hh)]
   ·cases h
theorem yg{o:Oper}{f:Nat}{asq:List AV}(hne:fR T cfg e ob o f asq≠.no)(hm:∀m,m∈zn (fR T cfg e ob o f asq)->ob' m=ob m):fR T cfg e' ob' o f asq=fR T cfg e ob o f asq:=by
 unfold fR at hne hm |-
 simp only at hne hm |-
 generalize cfg (keyOf f asq)=c at hne hm |-
 split at hne
 ·rename_i as' ins os fz h
  rw[h]at hm
  cases hq:(nodup os&&(!(os.any (fS fz))&&(dY (dF c.mu) ins&&(lM ob c.mu os ins asq 0&&sc (dF c.mu) os ins))))with
  |false=>rw[hq]at hne;exact absurd rfl hne
  |
   true =>
   simp only[hq,cond_true,zn]at hm
   have hz:∀m,m∈fz->ob' m=ob m:=fun m hh=>hm m (aC _ hh)
   have ho:∀m,m∈os->ob' m=ob m:=fun m hh=>hm m (aB _ (aC _ hh))
   rw[qw c.mu asq h ho hz]
   simp only[qz c.mu os ins asq h hz,hq,cond_true,wO hz]
 ·exact absurd rfl hne
theorem iX:∀(ms:List MK) (os:List Nat) (obs obs':List Ob) (j nm:Nat),(dx ms os obs j nm).2.1.map (·.1)=(dx ms os obs' j nm).2.1.map (·.1)/\(dx ms os obs j nm).2.2.2=(dx ms os obs' j nm).2.2.2
 |[],os,obs,obs',j,nm=>⟨rfl,rfl⟩
 | .vec::ms,os,obs,obs',j,nm=>iX ms os.tail obs.tail obs'.tail (j+1) nm
 | .sn kz::ms,os,obs,obs',j,nm=>iX ms os.tail obs.tail obs'.tail (j+1) nm
 |
  .cC g ks::ms,os,obs,obs',j,nm=>by
  obtain⟨h1,h2⟩:=iX ms os.tail obs.tail obs'.tail (j+1) nm
  exact⟨by simp only[dx,bz,h1],h2⟩
 |
  .obj ks::ms,os,obs,obs',j,nm=>by
  obtain⟨a1,a2⟩:=dM ks (obs.headD .dead).cs 0 obs.tail nm
  obtain⟨b1,b2⟩:=dM ks (obs'.headD .dead).cs 0 obs'.tail nm
  simp only[dx,List.map_append,bz,a1,b1,a2,b2]
  obtain⟨h1,h2⟩:=iX ms (os.drop (bL ks+1)) (bQ ks (obs.headD .dead).cs 0 obs.tail nm).2.2.1 (bQ ks (obs'.headD .dead).cs 0 obs'.tail nm).2.2.1 (j+1+bL ks) (nm+bL ks)
  exact⟨by rw[h1],h2⟩
theorem kX{own:List Nat}{oa:List CK}:∀(ts:List Nat) (r r':AV) (i j:Nat) (obs obs':List Ob) (nm:Nat),(eu T own oa r ts i j obs nm).2.2.map (·.1)=(eu T own oa r' ts i j obs' nm).2.2.map (·.1)
 |[],r,r',i,j,obs,obs',nm=>rfl
 |
  t::ts,r,r',i,j,obs,obs',nm=>by
  simp only[eu]
  cases own.any (aJ i)with
  |
   true =>
   cases (T t).agg with
   |
    true =>
    simp only[cond_true,List.map_append]
    rw[(dM _ _ _ _ _).1,(dM _ _ _ _ _).1,(dM _ _ _ _ _).2,(dM _ _ _ _ _).2,kX ts r r' (i+1) (j+bL oa) _ (bQ oa (r'.comp i).cs 0 obs' nm).2.2.1 (nm+bL oa)]
   |false=>simp only[cond_true,cond_false,bz];rw[kX ts r r' (i+1) (j+1) obs.tail obs'.tail (nm+1)]
  |false=>simp only[cond_false];exact kX ts r r' (i+1) j obs obs' nm
theorem w4{own:List Nat}{ow:List LK}{oa:List CK}(t:Nat)(r r':AV)(j:Nat)(obs obs':List Ob)(nm:Nat):(dR T own ow oa t r j obs nm).2.2.map (·.1)=(dR T own ow oa t r' j obs' nm).2.2.map (·.1):=by
 unfold dR
 split
 ·rfl
 ·exact kX _ _ _ _ _ _ _ _
 ·cases own.any (aJ 0)<;>rfl
 ·cases own.any (aJ 0)with
  |false=>rfl
  |
   true=>cases (T t).agg with
   |true=>simp only[cond_true];rw[(dM _ _ _ _ _).1,(dM _ _ _ _ _).1]
   |false=>rfl
theorem Ee(o:Oper)(hne:jN T cfg e ob o≠.no)(he:∀x,x∈o.op.operands->e x=e' x)(hr:∀m,m∈Cf (jN T cfg e ob o)->ob' m=ob m)(hw:∀m,m∈zn (jN T cfg e ob o)->ob' m=ob m) :
 jN T cfg e' ob' o=jN T cfg e ob o:=by
 have plain:(∀e ob,jN T cfg e ob o=match dS T e ob o with| .ok p d=>.d (some p) d| .yes d=>.d none d| .no=>.no)->jN T cfg e' ob' o=jN T cfg e ob o:=by
  intro h
  rw[h e ob]at hne hr hw |-
  rw[h e' ob',<-MR (ob:=ob') o he]
  have:=Ml (T:=T) (e:=e) (ob:=ob) (ob':=ob') o
  cases hq:dS T e ob o with
  |no=>rw[hq]at hne;exact absurd rfl hne
  |
   yes d =>
   rw[hq]at this hr hw
   rcases this with h|h
   ·cases h
   ·rw[h fun m hm=>by
     rcases aK.1 hm with hm|hm
     ·exact hr m hm
     ·exact hw m hm]
  |
   ok p d =>
   rw[hq]at this hr hw
   rcases this with h|h
   ·cases h
   ·rw[h fun m hm=>by
     rcases aK.1 hm with hm|hm
     ·exact hr m hm
     ·exact hw m hm]
 cases ho:o.op with
 |
  call c =>
  obtain⟨callee,xs,ts⟩:=c
  cases callee with
  |
   value x =>
   have hE:∀e ob,jN T cfg e ob o=(match e x with
    | .v (.func (.func f) fi cap)=>bif aJ fi.size 0&&aJ cap.size 0 then fR T cfg e ob o f (xs.toList.map e)else .no
    | .fn f cap=>fR T cfg e ob o f (xs.toList.map e++cap)
    |_=>.no):=fun e ob=>by unfold jN;rw[ho];try rfl
   have hx:e x=e' x:=he x (by rw[ho];simp[Op.operands,Call.operands])
   have hxs:xs.toList.map e=xs.toList.map e':=wX fun y hy=>he y (by rw[ho];simp only[Op.operands,Call.operands];exact Array.mem_append.2 (.inr (by simpa using hy)))
   rw[hE e ob]at hne hw |-
   rw[hE e' ob',<-hx,<-hxs]
   split at hne
   ·rename_i f fi cap h
    simp only[h]at hw |-
    cases hq:(aJ fi.size 0&&aJ cap.size 0)with
    |false=>rw[hq]at hne;exact absurd rfl hne
    |
     true =>
     rw[hq]at hne hw
     exact yg (e:=e) (e':=e') hne hw
   ·rename_i f cap h
    simp only[h]at hw |-
    exact yg (e:=e) (e':=e') hne hw
   ·exact absurd rfl hne
  |builtin b=>exact plain fun e ob=>by unfold jN;rw[ho];try rfl
  |invoke r nm=>exact plain fun e ob=>by unfold jN;rw[ho];try rfl
 |_=>exact plain fun e ob=>by unfold jN;rw[ho];try rfl
theorem fI:∀(l:List (Nat×Option Ob)) (f:Nat->Option Ob) (o:Nat),o∉l.map (·.1)->cD f l o=f o
 |[],f,o,_=>rfl
 |
  (q,c)::l,f,o,h=>by
  show cD (cx f q c) l o=f o
  rw[fI l _ o fun hh=>h (al _ hh),a6 _ _ _ _ fun e=>h (by subst e;exact ai)]
theorem tK:∀(l:List (Nat×Option Ob)) (f g:Nat->Option Ob) (o:Nat),o∈l.map (·.1)->cD f l o=cD g l o
 |[],f,g,o,h=>by cases h
 |
  (q,c)::l,f,g,o,h=>by
  show cD (cx f q c) l o=cD (cx g q c) l o
  by_cases hl:o∈l.map (·.1)
  ·exact tK l _ _ o hl
  ·rw[fI l _ o hl,fI l _ o hl]
   have:o=q:=by rcases aH.1 h with h|h;exact h;exact absurd h hl
   subst this;rw[aN,aN]
theorem zR{l r:List (Nat×Option Ob)}(h:∀o,o∈l.map (·.1)->o∉r.map (·.1))(f:Nat->Option Ob):cD (cD f l) r=cD (cD f r) l:=by
 funext o
 by_cases hl:o∈l.map (·.1)
 ·rw[fI r _ o (h o hl)]
  exact tK l _ _ o hl
 ·by_cases hr:o∈r.map (·.1)
  ·rw[fI l _ o hl]
   exact tK r _ _ o hr
  ·rw[fI r _ o hr,fI l _ o hl,fI l _ o hl,fI r _ o hr]
theorem kD:∀(l:List Nat) (f:Nat->Bool) (o:Nat),eY f l o=(f o||l.any (aJ o))
 |[],f,o=>by simp[eY]
 |
  q::l,f,o=>by
  rw[eY,kD l]
  simp only[cx,List.any_cons]
  cases aJ o q<;>simp
theorem yW(l r:List Nat)(f:Nat->Bool):eY (eY f l) r=eY (eY f r) l:=by
 funext o
 rw[kD,kD,kD,kD]
 cases f o<;>cases l.any (aJ o)<;>cases r.any (aJ o)<;>rfl
theorem km(s:St)(dst:Option Nat)(d:De):s.app dst d = {tm:=mU s.tm dst d.val,ob:=cD s.ob d.cx,us:=eY s.us d.new}:=by
 unfold St.app;cases dst<;>rfl
end
end Go.VL
namespace Go.VL
open Go Go.RowKit
section
variable {P:Program} {T:eE} {cfg:Nat->FC} {n:Nat} {all:List Oper}
def nb:AV->AV| .b b=>.v (.bool b)|a=>a
def dW(all:List Oper)(o:Oper)(s:St):St :=
 match dh o all with
 |[t]=>(match s.tm t with| .b b=>s.set t (.v (.bool b))|_=>s)
 |_=>s
def ta:De:={val:=.v (.tuple #[])}
def gE(T:eE)(cfg:Nat->FC)(all:List Oper)(o:Oper)(s:St):zZ :=
 match o.guard with
 |none=>jN T cfg (ev s) s.ob o
 |
  some (g,want)=>match (all[g]?).map (·.dst)with
  |
   some (some t)=>match nb (s.tm t)with
   | .v (.bool b)=>bif b==want then jN T cfg (ev (dW all o s)) s.ob o else .d none ta
   | .v (.tuple _)=>.d none ta
   |_=>.no
  |_=>.no
def lT(P:Program)(E:zZ)(X:De->Prop):Prop :=
 match E with
 | .no=>False
 | .d p d=>(∀q,p=some q->q)/\X d
 | .c f asq ins _ k=>∃R,an P f asq ins R/\(∃r obs,R r obs)/\∀r obs,R r obs->gn (k r obs).1/\X (k r obs).2
def pN:zZ->Bool| .c ..=>true|_=>false
theorem gq{E:zZ}{X Y:De->Prop}(h:lT P E X)(hxy:∀d,X d->Y d):lT P E Y:=by
 cases E with
 |no=>exact h
 |d p d=>exact⟨h.1,hxy d h.2⟩
 |
  c f asq ins wr k =>
  obtain⟨R,h1,h2,h3⟩:=h
  exact⟨R,h1,h2,fun r obs hr=>⟨(h3 r obs hr).1,hxy _ (h3 r obs hr).2⟩⟩
theorem kO{E:zZ}{X:De->Prop}(h:lT P E X):E≠.no/\∃d,X d:=by
 cases E with
 |no=>exact h.elim
 |d p d=>exact⟨by simp,d,h.2⟩
 |
  c f asq ins wr k =>
  obtain⟨R,h1,⟨r,obs,hr⟩,h3⟩:=h
  exact⟨by simp,_,(h3 r obs hr).2⟩
theorem yO{E F:zZ}{X:De->De->Prop}(hn:(pN E&&pN F)=false)(h:lT P E fun d=>lT P F fun d'=>X d d'):lT P F fun d'=>lT P E fun d=>X d d':=by
 cases E with
 |no=>exact h.elim
 |d p d=>exact gq h.2 fun d' hx=>⟨h.1,hx⟩
 |
  c f asq ins wr k =>
  cases F with
  |no=>obtain⟨R,h1,⟨r,obs,hr⟩,h3⟩:=h;exact(h3 r obs hr).2.elim
  |
   d p d =>
   obtain⟨R,h1,⟨r,obs,hr⟩,h3⟩:=h
   exact⟨(h3 r obs hr).2.1,R,h1,⟨r,obs,hr⟩,fun r obs hr=>⟨(h3 r obs hr).1,(h3 r obs hr).2.2⟩⟩
  |c f' as' ins' wr' k'=>cases hn
theorem yw{o:Oper}{s:St}(h:pN (gE T cfg all o s)=true):gO o=true:=by
 have key:∀e ob,pN (jN T cfg e ob o)=true->gO o=true:=by
  intro e ob h
  cases ho:o.op with
  |
   call c =>
   obtain⟨callee,xs,ts⟩:=c
   cases callee with
   |value x=>simp[gO,ho]
   |
    builtin b =>
    have:jN T cfg e ob o=match dS T e ob o with| .ok p d=>.d (some p) d| .yes d=>.d none d| .no=>.no:=by unfold jN;rw[ho];try rfl
    rw[this]at h
    split at h<;>cases h
   |
    invoke r nm =>
    have:jN T cfg e ob o=match dS T e ob o with| .ok p d=>.d (some p) d| .yes d=>.d none d| .no=>.no:=by unfold jN;rw[ho];try rfl
    rw[this]at h
    split at h<;>cases h
  |
   _ =>
   have:jN T cfg e ob o=match dS T e ob o with| .ok p d=>.d (some p) d| .yes d=>.d none d| .no=>.no:=by unfold jN;rw[ho];try rfl
   rw[this]at h
   split at h<;>cases h
 unfold gE at h
 split at h
 ·exact key _ _ h
 ·split at h
  ·split at h
   ·rename_i b _
    cases hq:(b==_)with
    |true=>rw[hq]at h;exact key _ _ h
    |false=>rw[hq]at h;cases h
   ·cases h
   ·cases h
  ·cases h
theorem p5{o:Oper}{g:Nat}{want:Bool}{t:Nat}(h1:o.guard=some (g,want))(h2:(all[g]?).map (·.dst)=some (some t)):dh o all=[t]:=by
 unfold dh;rw[h1];simp only[h2]
theorem nL{o:Oper}{t:Nat}(h:dh o all=[t])(s:St):dW all o s=match s.tm t with| .b b=>s.set t (.v (.bool b))|_=>s:=by
 unfold dW;rw[h]
theorem fO(o:Oper)(s:St):(dW all o s).ob=s.ob/\(dW all o s).us=s.us:=by
 unfold dW
 split
 ·split<;>exact⟨rfl,rfl⟩
 ·exact⟨rfl,rfl⟩
theorem lA(o:Oper)(s:St)(x:Nat):(dW all o s).tm x=if x∈dh o all then nb (s.tm x)else s.tm x:=by
 by_cases hg:∃t,dh o all=[t]
 ·obtain⟨t,hg⟩:=hg
  rw[nL hg,hg]
  cases hs:s.tm t with
  |
   b b =>
   simp only[St.set]
   by_cases e:x=t
   ·subst e;rw[aN,if_pos (by simp),hs];rfl
   ·rw[a6 _ _ _ _ e,if_neg (by simpa using e)]
  |
   _ =>
   simp only
   by_cases e:x=t
   ·subst e;rw[if_pos (by simp),hs];rfl
   ·rw[if_neg (by simpa using e)]
 ·have:dh o all=[]:=by
   unfold dh at hg |-
   split at hg
   ·rename_i g want h
    split at hg
    ·exact absurd ⟨_,rfl⟩ hg
    ·rfl
   ·rfl
  have e1:dW all o s=s:=by unfold dW;rw[this]
  rw[e1,this,if_neg (by simp)]
theorem Eo(a:AV):nb (nb a)=nb a:=by cases a<;>rfl
theorem rb{o:Oper}{t:Nat}(h:Operand.tmp t∈o.op.operands):t∈jO o:=by
 unfold jO
 exact List.mem_filterMap.2 ⟨.tmp t,by simpa using h,rfl⟩
theorem EK{s s1:St}{x:Operand}(h:∀t,x=.tmp t->s.tm t=s1.tm t):ev s x=ev s1 x:=by
 cases x with
 |tmp t=>exact h t rfl
 |_=>rfl
theorem LJ{o:Oper}{s s1:St}(hne:gE T cfg all o s1≠.no)(ht:∀t,t∈jO o->s.tm t=s1.tm t)(hg:∀t,t∈dh o all->nb (s.tm t)=nb (s1.tm t))
 (hr:∀m,m∈Cf (gE T cfg all o s1)->s.ob m=s1.ob m) (hw:∀m,m∈zn (gE T cfg all o s1)->s.ob m=s1.ob m):gE T cfg all o s=gE T cfg all o s1:=by
 unfold gE at hne hr hw |-
 cases hgd:o.guard with
 |
  none =>
  rw[hgd]at hne hr hw
  exact Ee o hne (fun x hx=>EK fun t e=>by subst e;exact(ht t (rb hx)).symm) hr hw
 |
  some gw =>
  obtain⟨g,want⟩:=gw
  rw[hgd]at hne hr hw
  simp only at hne hr hw |-
  split at hne
  ·rename_i t hd
   have hgt:=p5 hgd hd
   simp only[hd]at hr hw |-
   have e1:nb (s.tm t)=nb (s1.tm t):=hg t (by rw[hgt];simp)
   rw[e1]
   split at hne
   ·rename_i b hb
    simp only[hb]at hr hw |-
    cases hq:(b==want)with
    |false=>rfl
    |
     true =>
     rw[hq]at hne hr hw
     simp only[cond_true]at hne hr hw |-
     refine Ee o hne (fun x hx=>EK fun t' e=>?_) hr hw
     subst e
     have:=ht t' (rb hx)
     rw[lA,lA,this]
   ·rename_i vs hb
    simp only[hb]
   ·exact absurd rfl hne
  ·exact absurd rfl hne
end
end Go.VL
namespace Go.VL
open Go Go.RowKit
section
variable {P:Program} {T:eE} {cfg:Nat->FC} {n:Nat} {all:List Oper}
structure lO(all:List Oper)(p o:Oper)(rq wq rd wr:List Nat):Prop where
 nc:(gO p&&gO o)=false
 d1:∀x,x∈hD p->x∉jO o
 d2:∀x,x∈hD p->x∉dh o all
 d3:∀x,x∈hD p->x∉hD o
 d4:∀x,x∈hD o->x∉jO p
 d5:∀x,x∈hD o->x∉dh p all
 d6:∀x,x∈dh p all->x∉jO o
 d7:∀x,x∈dh o all->x∉jO p
 w1:∀x,x∈wr->x∉wq
 w2:∀x,x∈wr->x∉rq
 w3:∀x,x∈rd->x∉wq
theorem iQ{a b:List Nat}(h:qj a b=true):∀x,x∈a->x∉b:=by
 intro x hx hb
 simp only[qj,cc,List.any_eq_false]at h
 refine h x hx ?_
 simp only[fS,cf]
 exact⟨x,hb,Nat.beq_refl x⟩
theorem A3{p o:Oper}{rq wq rd wr:List Nat}(h:wH all p o rq wq rd wr=true):lO all p o rq wq rd wr:=by
 simp only[wH,Bu,az]at h
 obtain⟨h0,⟨h1,h2,h3,h4,h5,h6,h7⟩,h8,h9,h10⟩:=h
 exact⟨by cases q1:gO p<;>cases q2:gO o<;>simp_all,iQ h1,iQ h2,iQ h3,iQ h4,iQ h5,iQ h6,iQ h7,iQ h8,iQ h9,iQ h10⟩
theorem lO.symm{p o:Oper}{rq wq rd wr:List Nat}(h:lO all p o rq wq rd wr):lO all o p rd wr rq wq :=
 ⟨by rw[Bool.and_comm];exact h.nc,h.d4,h.d5,fun x h1 h2=>h.d3 x h2 h1,h.d1,h.d2,h.d7,h.d6,fun x h1 h2=>h.w1 x h2 h1,fun x h1 h2=>h.w3 x h2 h1,fun x h1 h2=>h.w2 x h2 h1⟩
theorem iO{tm:Nat->AV}{o:Oper}{v:AV}{x:Nat}(h:x∉hD o):mU tm o.dst v x=tm x:=by
 unfold hD at h
 cases hd:o.dst with
 |none=>rfl
 |some d=>rw[hd]at h;exact a6 _ _ _ _ (by simpa using h)
theorem xR{p o:Oper}{s:St}{d:De}{rq wq:List Nat}(ha:lO all p o rq wq (Cf (gE T cfg all o ((dW all p s).app p.dst d))) (zn (gE T cfg all o ((dW all p s).app p.dst d))))(hwd:∀m,m∈mr d->m∈wq)
 (hne:gE T cfg all o ((dW all p s).app p.dst d)≠.no):gE T cfg all o s=gE T cfg all o ((dW all p s).app p.dst d):=by
 have ob:∀m,m∉wq->s.ob m=((dW all p s).app p.dst d).ob m:=fun m hm=>by
  rw[km]
  show s.ob m=cD (dW all p s).ob d.cx m
  rw[fI _ _ _ fun h=>hm (hwd m h),(fO p s).1]
 refine LJ hne (fun t ht=>?_) (fun t ht=>?_) (fun m hm=>ob m (ha.w3 m hm)) fun m hm=>ob m (ha.w1 m hm)
 ·rw[km]
  show s.tm t=mU (dW all p s).tm p.dst d.val t
  rw[iO fun h=>ha.d1 t h ht,lA,if_neg fun h=>ha.d6 t h ht]
 ·rw[km]
  show nb (s.tm t)=nb (mU (dW all p s).tm p.dst d.val t)
  rw[iO fun h=>ha.d2 t h ht,lA]
  split
  ·rw[Eo]
  ·rfl
theorem xq{p o:Oper}{s:St}{d:De}{rq wq:List Nat}(ha:lO all p o rq wq (Cf (gE T cfg all o s)) (zn (gE T cfg all o s)))(hwd:∀m,m∈mr d->m∈wq)
 (hne:gE T cfg all o s≠.no):gE T cfg all o ((dW all p s).app p.dst d)=gE T cfg all o s:=by
 have ob:∀m,m∉wq->((dW all p s).app p.dst d).ob m=s.ob m:=fun m hm=>by
  rw[km]
  show cD (dW all p s).ob d.cx m=s.ob m
  rw[fI _ _ _ fun h=>hm (hwd m h),(fO p s).1]
 refine LJ hne (fun t ht=>?_) (fun t ht=>?_) (fun m hm=>ob m (ha.w3 m hm)) fun m hm=>ob m (ha.w1 m hm)
 ·rw[km]
  show mU (dW all p s).tm p.dst d.val t=s.tm t
  rw[iO fun h=>ha.d1 t h ht,lA,if_neg fun h=>ha.d6 t h ht]
 ·rw[km]
  show nb (mU (dW all p s).tm p.dst d.val t)=nb (s.tm t)
  rw[iO fun h=>ha.d2 t h ht,lA]
  split
  ·rw[Eo]
  ·rfl
theorem Bh{p o:Oper}{s:St}{d d':De}{rq wq rd wr:List Nat}(ha:lO all p o rq wq rd wr)(h1:∀m,m∈mr d->m∈wq)(h2:∀m,m∈mr d'->m∈wr) :
 (dW all p ((dW all o s).app o.dst d')).app p.dst d=(dW all o ((dW all p s).app p.dst d)).app o.dst d':=by
 have tmE:∀(q:Oper) (s:St) (e:De),(((dW all q s).app q.dst e).tm=mU (fun x=>if x∈dh q all then nb (s.tm x)else s.tm x) q.dst e.val):=fun q s e=>by
  rw[km]
  show mU (dW all q s).tm q.dst e.val=_
  congr 1
  funext x;exact lA q s x
 have obE:∀(q:Oper) (s:St) (e:De),((dW all q s).app q.dst e).ob=cD s.ob e.cx:=fun q s e=>by rw[km];show cD (dW all q s).ob e.cx=_;rw[(fO q s).1]
 have mF:∀(q:Oper) (s:St) (e:De),((dW all q s).app q.dst e).us=eY s.us e.new:=fun q s e=>by rw[km];show eY (dW all q s).us e.new=_;rw[(fO q s).2]
 have ext:∀(a b:St),a.tm=b.tm->a.ob=b.ob->a.us=b.us->a=b:=fun a b h1 h2 h3=>by cases a;cases b;simp_all
 refine ext _ _ ?_ ?_ ?_
 ·funext x
  have eL:=congrFun (tmE p ((dW all o s).app o.dst d') d) x
  have eR:=congrFun (tmE o ((dW all p s).app p.dst d) d') x
  have eO:=congrFun (tmE o s d') x
  have eP:=congrFun (tmE p s d) x
  have at1:∀(q:Oper) (tm:Nat->AV) (v:AV),x∈hD q->mU tm q.dst v x=v:=fun q tm v h=>by
   unfold hD at h
   cases hd:q.dst with
   |none=>rw[hd]at h;cases h
   |
    some y =>
    rw[hd]at h
    have:x=y:=by simpa using h
    subst this;exact aN _ _ _
  rw[eL,eR]
  by_cases hp:x∈hD p
  ·have ho:x∉hD o:=ha.d3 x hp
   have hg:x∉dh o all:=ha.d2 x hp
   rw[at1 p _ _ hp,iO ho,if_neg hg,eP,at1 p _ _ hp]
  ·by_cases ho:x∈hD o
   ·have hg:x∉dh p all:=ha.d5 x ho
    rw[at1 o _ _ ho,iO hp,if_neg hg,eO,at1 o _ _ ho]
   ·rw[iO hp,iO ho,eO,eP,iO ho,iO hp]
    by_cases g1:x∈dh p all<;>by_cases g2:x∈dh o all<;>simp[g1,g2]
 ·rw[obE,obE,obE,obE]
  exact zR (fun m hm hm'=>ha.w1 m (h2 m hm) (h1 m hm')) _
 ·rw[mF,mF,mF,mF]
  exact yW _ _ _
end
end Go.VL
namespace Go.VL
open Go Go.RowKit
section
variable {P:Program} {T:eE} {cfg:Nat->FC} {n:Nat} {all:List Oper}
theorem El{e:Operand->AV}{ob:Nat->Option Ob}{o:Oper}{f:Nat}{asq:List AV}{ins:List Ob}{wr:List Nat}{k:AV->List Ob->List Prop×De}(h:jN T cfg e ob o=.c f asq ins wr k):∃g l,fR T cfg e ob o g l=.c f asq ins wr k:=by
 have no:(∀e ob,jN T cfg e ob o=match dS T e ob o with| .ok p d=>.d (some p) d| .yes d=>.d none d| .no=>.no)->∃g l,fR T cfg e ob o g l=.c f asq ins wr k:=fun hh=>by
  rw[hh]at h;split at h<;>cases h
 cases ho:o.op with
 |
  call c =>
  obtain⟨callee,xs,ts⟩:=c
  cases callee with
  |
   value x =>
   have hE:jN T cfg e ob o=(match e x with
    | .v (.func (.func f) fi cap)=>bif aJ fi.size 0&&aJ cap.size 0 then fR T cfg e ob o f (xs.toList.map e)else .no
    | .fn f cap=>fR T cfg e ob o f (xs.toList.map e++cap)
    |_=>.no):=by unfold jN;rw[ho];try rfl
   rw[hE]at h
   split at h
   ·rename_i f' fi cap _
    cases hq:(aJ fi.size 0&&aJ cap.size 0)with
    |false=>rw[hq]at h;cases h
    |true=>rw[hq]at h;exact⟨_,_,h⟩
   ·exact⟨_,_,h⟩
   ·cases h
  |builtin b=>exact no fun e ob=>by unfold jN;rw[ho];try rfl
  |invoke r nm=>exact no fun e ob=>by unfold jN;rw[ho];try rfl
 |_=>exact no fun e ob=>by unfold jN;rw[ho];try rfl
theorem PQ{o:Oper}{s:St}{f:Nat}{asq:List AV}{ins:List Ob}{wr:List Nat}{k:AV->List Ob->List Prop×De}(h:gE T cfg all o s=.c f asq ins wr k):∃e g l,fR T cfg e s.ob o g l=.c f asq ins wr k:=by
 unfold gE at h
 split at h
 ·obtain⟨g,l,h⟩:=El h;exact⟨_,g,l,h⟩
 ·split at h
  ·split at h
   ·rename_i b _
    cases hq:(b==_)with
    |true=>rw[hq]at h;obtain⟨g,l,h⟩:=El h;exact⟨_,g,l,h⟩
    |false=>rw[hq]at h;cases h
   ·cases h
   ·cases h
  ·cases h
theorem qN{o:Oper}{s:St}{X:De->Prop}(h:lT P (gE T cfg all o s) X):lT P (gE T cfg all o s) fun d=>X d/\∀m,m∈mr d->m∈zn (gE T cfg all o s):=by
 cases hE:gE T cfg all o s with
 |no=>rw[hE]at h;exact h
 |d p d=>rw[hE]at h;exact⟨h.1,h.2,fun m hm=>hm⟩
 |
  c f asq ins wr k =>
  rw[hE]at h
  obtain⟨e,g,l,hq⟩:=PQ hE
  unfold fR at hq
  simp only at hq
  generalize cfg (keyOf g l)=c at hq
  split at hq
  ·rename_i as' ins' os fz hga
   cases hgd:(nodup os&&(!(os.any (fS fz))&&(dY (dF c.mu) ins'&&(lM s.ob c.mu os ins' l 0&&sc (dF c.mu) os ins'))))with
   |false=>rw[hgd]at hq;cases hq
   |
    true =>
    rw[hgd]at hq
    simp only[cond_true,zZ.c.injEq]at hq
    obtain⟨rfl,rfl,rfl,rfl,rfl⟩:=hq
    obtain⟨R,h1,h2,h3⟩:=h
    refine⟨R,h1,h2,fun r obs hr=>⟨(h3 r obs hr).1,(h3 r obs hr).2,fun m hm=>?_⟩⟩
    have e0:(p6 os).map (·.1)=os:=by unfold p6;rw[List.map_map];exact List.map_id' os
    obtain⟨n1,n2⟩:=iX (dF c.mu) os obs [] 0 (newName o.dst)
    have hsub:∀m,m∈(bif vK T c.own c.oa ins' o.type then []else fE s.ob fz).map (·.1)->m∈fz:=fun m hm=>by
     cases hl:vK T c.own c.oa ins' o.type with
     |true=>rw[hl]at hm;cases hm
     |false=>rw[hl]at hm;simpa only[cond_false,um]using hm
    simp only[mr,List.map_append,e0,n1]at hm
    have hm:m∈fz++(os++(List.map (·.1) (dx (dF c.mu) os [] 0 (newName o.dst)).2.1++List.map (·.1) (dR T c.own c.ow c.oa o.type r ins'.length (dx (dF c.mu) os obs 0 (newName o.dst)).2.2.1 (dx (dF c.mu) os obs 0 (newName o.dst)).2.2.2).2.2)):=by
     rcases aK.1 hm with hm|hm
     ·exact aC _ (hsub m hm)
     ·exact aB _ hm
    rw[n2,w4 (T:=T) (own:=c.own) o.type r .any ins'.length _ (dx (dF c.mu) os [] 0 (newName o.dst)).2.2.1]at hm
    simpa only[zn,List.map_append]using hm
  ·cases hq
structure It where
 i:Nat
 o:Oper
 uU:List Nat
def Seq(P:Program)(T:eE)(cfg:Nat->FC)(n:Nat)(all:List Oper)(Ψ:St->Prop):List It->List (It×List Nat×List Nat)->St->Prop
 |[],_,s=>Ψ s
 |t::r,H,s=>lT P (gE T cfg all t.o s) fun d=>dK (dW all t.o s) n t.o.dst d=true/\(∀j,j∈dw t.o->j<t.i) /\
  (∀h,h∈H->h.1.i∈t.uU\/lO all h.1.o t.o h.2.1 h.2.2 (Cf (gE T cfg all t.o s)) (zn (gE T cfg all t.o s))) /\
  Seq P T cfg n all Ψ r (H++[(t,Cf (gE T cfg all t.o s),zn (gE T cfg all t.o s))]) ((dW all t.o s).app t.o.dst d)
theorem Seq.Ja{Ψ:St->Prop}:∀(l:List It) {H H':List (It×List Nat×List Nat)} {s:St},(∀h,h∈H'->h∈H)->Seq P T cfg n all Ψ l H s->Seq P T cfg n all Ψ l H' s
 |[],_,_,_,_,h=>h
 |t::r,H,H',s,hs,h=>gq h fun d ⟨h1,h2,h3,h4⟩=>⟨h1,h2,fun q hq=>h3 q (hs q hq),Seq.Ja r (fun q hq=>by
  rcases aK.1 hq with hq|hq
  ·exact aC _ (hs q hq)
  ·exact aB _ hq) h4⟩
theorem Seq.back{Ψ:St->Prop}{t:It}{L2:List It}:∀(L1:List It) {H:List (It×List Nat×List Nat)} {s:St},Seq P T cfg n all Ψ (L1++t::L2) H s->(∀x,x∈L1->x.i∉t.uU) ->
 gE T cfg all t.o s≠.no/\(∀j,j∈dw t.o->j<t.i)/\∀h,h∈H->h.1.i∈t.uU\/lO all h.1.o t.o h.2.1 h.2.2 (Cf (gE T cfg all t.o s)) (zn (gE T cfg all t.o s))
 |
  [],H,s,h,_=>by
  obtain⟨h1,d,h2,h3,h4,_⟩:=kO h
  exact⟨h1,h3,h4⟩
 |
  p::L1,H,s,h,hl=>by
  obtain⟨h1,d,⟨h2,h3,h4,h5⟩,h6⟩:=kO (qN h)
  obtain⟨q1,q2,q3⟩:=Seq.back L1 h5 fun x hx=>hl x (al _ hx)
  have ha:=(q3 _ (aB _ (aS.2 rfl))).resolve_left (hl p ai)
  have e:=xR ha h6 q1
  rw[e]
  exact⟨q1,q2,fun h hh=>q3 h (aC _ hh)⟩
theorem iA{s:St}{dst:Option Nat}{d:De}:dK s n dst d=true↔(∀o,o∈d.new->s.us o=false)/\nodup d.new=true/\(match dst with|some t=>cA t n|none=>true)=true:=by
 unfold dK
 simp only[az,bM,cc,and_assoc]
 exact Iff.rfl
theorem wz(s:St)(dst:Option Nat)(d:De)(o:Nat):(s.app dst d).us o=(s.us o||d.new.any (aJ o)):=by
 rw[km];exact kD _ _ _
theorem Dw{l:List Nat}{o:Nat}(h:o∈l):l.any (aJ o)=true:=cf.2 ⟨o,h,Nat.beq_refl o⟩
theorem Seq.pull{Ψ:St->Prop}{t:It}{L2:List It}:∀(L1:List It) {H:List (It×List Nat×List Nat)} {s:St},Seq P T cfg n all Ψ (L1++t::L2) H s->(∀x,x∈L1->x.i∉t.uU) ->
 lT P (gE T cfg all t.o s) fun d=>dK (dW all t.o s) n t.o.dst d=true/\Seq P T cfg n all Ψ (L1++L2) H ((dW all t.o s).app t.o.dst d)
 |[],H,s,h,_=>gq h fun d ⟨h1,_,_,h4⟩=>⟨h1,Seq.Ja L2 (fun q hq=>aC _ hq) h4⟩
 |
  p::L1,H,s,h,hl=>by
  have hl':∀x,x∈L1->x.i∉t.uU:=fun x hx=>hl x (al _ hx)
  have hb:=Seq.back (p::L1) h hl
  have ha:lO all p.o t.o (Cf (gE T cfg all p.o s)) (zn (gE T cfg all p.o s)) (Cf (gE T cfg all t.o s)) (zn (gE T cfg all t.o s)):=by
   obtain⟨h1,d,⟨h2,h3,h4,h5⟩,h6⟩:=kO (qN h)
   obtain⟨q1,q2,q3⟩:=Seq.back L1 h5 hl'
   have ha:=(q3 _ (aB _ (aS.2 rfl))).resolve_left (hl p ai)
   rw[xR ha h6 q1];exact ha
  have hpne:gE T cfg all p.o s≠.no:=(kO h).1
  have step:=gq (qN h) fun d ⟨⟨h2,h3,h4,h5⟩,h6⟩=>(show _/\_ from ⟨(⟨h2,h3,h4,h6⟩:_/\_/\_/\_),by
   have e:=xq ha h6 hb.1
   have q:=Seq.pull L1 h5 hl'
   rw[e]at q
   have q2:=qN (o:=t.o) (s:=s) q
   exact q2⟩)
  have inner:=gq step fun d ⟨hA,hB⟩=>gq hB fun d' hx=>(show _/\_ from ⟨hA,hx⟩)
  have hnc:(pN (gE T cfg all p.o s)&&pN (gE T cfg all t.o s))=false:=by
   cases q1:pN (gE T cfg all p.o s)with
   |false=>rfl
   |
    true =>
    cases q2:pN (gE T cfg all t.o s)with
    |false=>rfl
    |true=>have:=ha.nc;rw[yw q1,yw q2]at this;cases this
  refine gq (yO hnc inner) fun d' hx=>?_
  obtain⟨_,d0,⟨g1,g2,g3,g4⟩,⟨g5,g6⟩,g7⟩:=kO hx
  have n1:=iA.1 g1
  have n2:=iA.1 g5
  refine⟨iA.2 ⟨fun o ho=>?_,n2.2.1,n2.2.2⟩,?_⟩
  ·have:=n2.1 o ho
   rw[(fO t.o _).2,wz,(fO p.o s).2]at this
   rw[(fO t.o s).2]
   cases q:s.us o with
   |false=>rfl
   |true=>rw[q]at this;cases this
  ·have e:=xq ha.symm g7 hpne
   show lT P (gE T cfg all p.o _) _
   rw[e]
   refine gq hx fun d ⟨⟨k1,k2,k3,k4⟩,⟨k5,k6⟩,k7⟩=>⟨?_,k2,k3,?_⟩
   ·have m1:=iA.1 k1
    have m2:=iA.1 k5
    refine iA.2 ⟨fun o ho=>?_,m1.2.1,m1.2.2⟩
    have p1:=m1.1 o ho
    rw[(fO p.o s).2]at p1
    rw[(fO p.o _).2,wz,(fO t.o s).2,p1]
    cases q:d'.new.any (aJ o)with
    |false=>rfl
    |
     true =>
     obtain⟨y,hy,hy'⟩:=cf.1 q
     have:=aE hy'
     subst this
     have:=m2.1 o hy
     rw[(fO t.o _).2,wz,Dw ho]at this
     simp at this
   ·rw[Bh ha k4 k7]
    exact k6
end
end Go.VL
namespace Go.VL
open Go Go.RowKit
section
variable {P:Program} {T:eE} {cfg:Nat->FC} {n:Nat} {A:jz} {a:Act} {w:World}
theorem xY(hT:dc P T)(hB:lQ P A){o:Oper}{s:St}{Y:St->Prop}(g:fT n A s a w)(h:lT P (jN T cfg (ev s) s.ob o) fun d=>dK s n o.dst d=true/\Y (s.app o.dst d))
 {Kw:Act->World->Prop} {Qw:Exit->Act->World->Prop} (hK:∀s' a' w',fT n A s' a' w'->Y s'->Kw a' w'):o.wp P a w Kw Qw:=by
 obtain⟨M,β,g⟩:=g
 refine xL (cfg:=cfg) hT hB g o (K:=fun _ _ s'=>.aj (Y s') (.done 0 [] [])) (Φ:=fun _ _ _=>True) ?_ fun rd wr s' a' w' g' h'=>hK s' a' w' g' h'.1
 unfold wM
 cases hE:jN T cfg (ev s) s.ob o with
 |no=>rw[hE]at h;exact h
 |
  d p d =>
  rw[hE]at h
  obtain⟨h1,h2,h3⟩:=h
  simp only[h2,cond_true]
  cases p with
  |none=>exact⟨h3,trivial⟩
  |some q=>exact⟨h1 q rfl,h3,trivial⟩
 |
  c f asq ins wr k =>
  rw[hE]at h
  obtain⟨R,h1,h2,h3⟩:=h
  refine⟨R,h1,h2,fun r obs hr=>gv.2 ⟨(h3 r obs hr).1,?_⟩⟩
  rw[(h3 r obs hr).2.1]
  exact⟨(h3 r obs hr).2.2,trivial⟩
theorem tf{all:List Oper}{o:Oper}(h:o.guard=none)(s:St):dW all o s=s:=by
 unfold dW dh;rw[h]
theorem fT.res{all:List Oper}{o:Oper}{s:St}(g:fT n A s a w):fT n A (dW all o s) a w:=by
 unfold dW
 split
 ·split
  ·rename_i b e;exact(g.test e).1
  ·exact g
 ·exact g
theorem u6(s:St)(dst:Option Nat):s.app dst ta=Q2 s dst:=by
 cases dst<;>rfl
theorem EX{ops:Array Oper}(hT:dc P T)(hB:lQ P A){o:Oper}{s:St}{Y:St->Prop}(g:fT n A s a w)(h:lT P (gE T cfg ops.toList o s) fun d=>dK (dW ops.toList o s) n o.dst d=true/\Y ((dW ops.toList o s).app o.dst d))
 {Kw:Act->World->Prop} {Qw:Exit->Act->World->Prop} (hK:∀s' a' w',fT n A s' a' w'->Y s'->Kw a' w'):if Region.wanted o (yielded ops a.tmps)then o.wp P a w Kw Qw else Kw (a.put o.dst undef) w:=by
 have skip:lT P (.d none ta) (fun d=>dK (dW ops.toList o s) n o.dst d=true/\Y ((dW ops.toList o s).app o.dst d))->Kw (a.put o.dst undef) w:=by
  intro⟨_,h1,h2⟩
  rw[u6]at h2
  exact hK _ _ _ (g.res.skip (fN h1)) h2
 unfold gE at h
 cases hg:o.guard with
 |
  none =>
  rw[hg]at h
  rw[if_pos (by simp[Region.wanted,hg])]
  rw[tf hg]at h
  exact xY hT hB g h hK
 |
  some gw =>
  obtain⟨gi,want⟩:=gw
  rw[hg]at h
  simp only at h
  split at h
  ·rename_i t hdst
   split at h
   ·rename_i b hb
    have hv:a.tmps.getD t undef=.bool b:=by
     cases hs:s.tm t with
     |v x=>rw[hs]at hb;simp only[nb,AV.v.injEq]at hb;rw[hb]at hs;exact g.bool hs
     |b q=>rw[hs]at hb;simp only[nb,AV.v.injEq,Value.bool.injEq]at hb;rw[hb]at hs;exact(g.test hs).2
     |_=>rw[hs]at hb;cases hb
    have hw:Region.wanted o (yielded ops a.tmps)=(b==want):=by
     have:=nJ (ops:=ops) hdst hv
     simp[Region.wanted,hg,this]
    rw[hw]
    cases hq:(b==want)with
    |
     true =>
     rw[hq]at h
     rw[if_pos rfl]
     simp only[cond_true]at h
     rw[<-(fO (all:=ops.toList) o s).1]at h
     exact xY hT hB g.res h hK
    |
     false =>
     rw[hq]at h
     rw[if_neg (by simp)]
     exact skip h
   ·rename_i vs hb
    have hs:s.tm t=.v (.tuple vs):=by
     cases hs:s.tm t with
     |v x=>rw[hs]at hb;exact hb
     |b q=>rw[hs]at hb;cases hb
     |_=>rw[hs]at hb;cases hb
    have:=mY (ops:=ops) hdst (g.cy hs)
    rw[if_neg (by simp[Region.wanted,hg,this])]
    exact skip h
   ·exact h.elim
  ·exact h.elim
def ny(o:Oper)(acc:List It):List Nat:=dw o++(acc.filter fun t=>fS (dw o) t.i).flatMap (·.uU)
def dO:List Oper->List It->List It
 |[],_=>[]
 |o::r,acc=>⟨acc.length,o,ny o acc⟩::dO r (acc++[⟨acc.length,o,ny o acc⟩])
def ib(h:It×List Nat×List Nat):HE:=⟨h.1.i,h.1.o,h.2.1,h.2.2,h.1.uU⟩
theorem HJ(o:Oper):∀(H:List (It×List Nat×List Nat)),gZ o (H.map ib)=ny o (H.map (·.1)):=by
 intro H
 unfold gZ ny
 congr 1
 induction H with
 |nil=>rfl
 |
  cons h H ih =>
  simp only[bz,List.filter_cons]
  have e:fS (dw o) (ib h).i=fS (dw o) h.1.i:=rfl
  rw[e]
  cases fS (dw o) h.1.i with
  |true=>simp only[if_true,List.flatMap_cons,ih];rfl
  |false=>simpa using ih
theorem vw{l:List Nat}{a:Nat}(h:fS l a=true):a∈l:=by
 obtain⟨x,hx,e⟩:=cf.1 h
 rw[aE e];exact hx
theorem Da{all:List Oper}{o:Oper}{rd wr:List Nat}{H:List (It×List Nat×List Nat)}{uU:List Nat}(h:jH all o rd wr (H.map ib) uU=true):∀q,q∈H->q.1.i∈uU\/lO all q.1.o o q.2.1 q.2.2 rd wr:=by
 intro q hq
 have:=bM.1 h (ib q) (bJ.2 ⟨q,hq,rfl⟩)
 rw[bD]at this
 rcases this with h|h
 ·exact .inl (vw h)
 ·exact .inr (A3 h)
theorem B5(ops:Array Oper){K:St->Tree}{Φ:Nat->List AV->List Ob->Prop}:∀(rest:List Oper) (H:List (It×List Nat×List Nat)) (s:St),eU P n (kH T cfg n true ops.toList rest (H.map ib) s K) Φ ->
 Seq P T cfg n ops.toList (fun s=>eU P n (K s) Φ) (dO rest (H.map (·.1))) H s
 |[],H,s,h=>h
 |
  o::rest,H,s,h=>by
  have hlen:(H.map ib).length=H.length:=by simp
  have cont:∀(rd wr:List Nat) (s':St),eU P n (bif !true||((dw o).all (fun j=>cA j (H.map ib).length)&&jH ops.toList o rd wr (H.map ib) (gZ o (H.map ib)))then kH T cfg n true ops.toList rest (H.map ib++[⟨(H.map ib).length,o,rd,wr,gZ o (H.map ib)⟩]) s' K else .fail) Φ ->
   (∀j,j∈dw o->j<H.length)/\(∀q,q∈H->q.1.i∈ny o (H.map (·.1))\/lO ops.toList q.1.o o q.2.1 q.2.2 rd wr) /\
   Seq P T cfg n ops.toList (fun s=>eU P n (K s) Φ) (dO rest (H.map (·.1)++[⟨H.length,o,ny o (H.map (·.1))⟩])) (H++[(⟨H.length,o,ny o (H.map (·.1))⟩,rd,wr)]) s':=by
   intro rd wr s' h
   cases hq:(!true||((dw o).all (fun j=>cA j (H.map ib).length)&&jH ops.toList o rd wr (H.map ib) (gZ o (H.map ib))))with
   |false=>rw[hq]at h;exact h.elim
   |
    true =>
    rw[hq]at h
    simp only[Bool.not_true,Bool.false_or,az,bM]at hq
    rw[HJ]at hq h
    refine⟨fun j hj=>by have:=aQ (hq.1 j hj);rw[hlen]at this;exact this,Da hq.2,?_⟩
    have:=B5 ops rest (H++[(⟨H.length,o,ny o (H.map (·.1))⟩,rd,wr)]) s' (by
     rw[hlen]at h
     simpa[ib]using h)
    simpa using this
  have hl1:(H.map (·.1)).length=H.length:=by simp
  have eit:dO (o::rest) (H.map (·.1))=⟨H.length,o,ny o (H.map (·.1))⟩::dO rest (H.map (·.1)++[⟨H.length,o,ny o (H.map (·.1))⟩]):=by rw[dO,hl1]
  rw[eit]
  have run:∀s1,s1=dW ops.toList o s->gE T cfg ops.toList o s=jN T cfg (ev s1) s1.ob o->eU P n (wM T cfg n o s1 fun rd wr s'=>bif !true||((dw o).all (fun j=>cA j (H.map ib).length)&&jH ops.toList o rd wr (H.map ib) (gZ o (H.map ib)))then kH T cfg n true ops.toList rest (H.map ib++[⟨(H.map ib).length,o,rd,wr,gZ o (H.map ib)⟩]) s' K else .fail) Φ ->
   Seq P T cfg n ops.toList (fun s=>eU P n (K s) Φ) (⟨H.length,o,ny o (H.map (·.1))⟩::dO rest (H.map (·.1)++[⟨H.length,o,ny o (H.map (·.1))⟩])) H s:=by
   intro s1 hs1 hgE h
   show lT P (gE T cfg ops.toList o s) _
   unfold wM at h
   simp only[hgE,<-hs1]
   cases hE:jN T cfg (ev s1) s1.ob o with
   |no=>rw[hE]at h;exact h
   |
    d p d =>
    rw[hE]at h
    cases hn:dK s1 n o.dst d with
    |false=>simp only[hn,cond_false]at h;exact h.elim
    |
     true =>
     simp only[hn,cond_true]at h
     cases p with
     |none=>obtain⟨c1,c2,c3⟩:=cont _ _ _ h;exact⟨fun q hq=>(by cases hq),hn,c1,c2,c3⟩
     |some q=>obtain⟨c1,c2,c3⟩:=cont _ _ _ h.2;exact⟨fun q' hq=>(by cases hq;exact h.1),hn,c1,c2,c3⟩
   |
    c f asq ins wr k =>
    rw[hE]at h
    obtain⟨R,h1,h2,h3⟩:=h
    refine⟨R,h1,h2,fun r obs hr=>?_⟩
    obtain⟨h4,h5⟩:=gv.1 (h3 r obs hr)
    cases hn:dK s1 n o.dst (k r obs).2 with
    |false=>simp only[hn,cond_false]at h5;exact h5.elim
    |
     true =>
     simp only[hn,cond_true]at h5
     obtain⟨c1,c2,c3⟩:=cont _ _ _ h5
     exact⟨h4,hn,c1,c2,c3⟩
  have skip:∀s1,s1=dW ops.toList o s->gE T cfg ops.toList o s=.d none ta->eU P n (bif (match o.dst with|some t=>cA t n|none=>true)&&(!true||((dw o).all (fun j=>cA j (H.map ib).length)&&jH ops.toList o [] [] (H.map ib) (gZ o (H.map ib))))then kH T cfg n true ops.toList rest (H.map ib++[⟨(H.map ib).length,o,[],[],gZ o (H.map ib)⟩]) (match o.dst with|some t=>s1.set t (.v (.tuple #[]))|none=>s1) K else .fail) Φ ->
   Seq P T cfg n ops.toList (fun s=>eU P n (K s) Φ) (⟨H.length,o,ny o (H.map (·.1))⟩::dO rest (H.map (·.1)++[⟨H.length,o,ny o (H.map (·.1))⟩])) H s:=by
   intro s1 hs1 hgE h
   show lT P (gE T cfg ops.toList o s) _
   simp only[hgE,<-hs1]
   cases hd:(match o.dst with|some t=>cA t n|none=>true)with
   |false=>simp only[hd,Bool.false_and,cond_false]at h;exact h.elim
   |
    true =>
    simp only[hd,cn]at h
    obtain⟨c1,c2,c3⟩:=cont [] [] _ h
    refine⟨fun q hq=>(by cases hq),iA.2 ⟨fun o ho=>(by cases ho),rfl,hd⟩,c1,c2,?_⟩
    rw[u6]
    exact c3
  unfold kH at h
  simp only at h
  cases hg:o.guard with
  |
   none =>
   rw[hg]at h
   exact run s (tf hg s).symm (by unfold gE;rw[hg]) h
  |
   some gw =>
   obtain⟨gi,want⟩:=gw
   rw[hg]at h
   simp only at h
   split at h
   ·rename_i t hdst
    have hgt:=p5 hg hdst
    have hgEb:∀b,nb (s.tm t)=.v (.bool b)->gE T cfg ops.toList o s=bif b==want then jN T cfg (ev (dW ops.toList o s)) s.ob o else .d none ta:=by
     intro b hb
     unfold gE
     rw[hg]
     simp only[hdst,hb]
    split at h
    ·rename_i e
     have hr:s=dW ops.toList o s:=by rw[nL hgt,e]
     have he:=hgEb true (by rw[e];rfl)
     rw[<-hr]at he
     cases want with
     |true=>exact run s hr he h
     |false=>exact skip s hr he h
    ·rename_i e
     have hr:s=dW ops.toList o s:=by rw[nL hgt,e]
     have he:=hgEb false (by rw[e];rfl)
     rw[<-hr]at he
     cases want with
     |true=>exact skip s hr he h
     |false=>exact run s hr he h
    ·rename_i vs e
     have hr:s=dW ops.toList o s:=by rw[nL hgt,e]
     refine skip s hr ?_ h
     unfold gE
     rw[hg]
     simp only[hdst,e,nb]
    ·rename_i b e
     have hr:s.set t (.v (.bool b))=dW ops.toList o s:=by rw[nL hgt,e]
     have he:=hgEb b (by rw[e];rfl)
     rw[<-(fO (all:=ops.toList) o s).1,<-hr]at he
     obtain⟨h1,h2⟩:=h
     cases b with
     |
      true =>
      cases want with
      |true=>exact run _ hr he (h1 rfl)
      |false=>exact skip _ hr he (h1 rfl)
     |
      false =>
      cases want with
      |true=>exact skip _ hr he (h2 rfl)
      |false=>exact run _ hr he (h2 rfl)
    ·exact h.elim
   ·exact h.elim
end
end Go.VL
namespace Go.VL
open Go Go.RowKit
section
variable {P:Program} {T:eE} {cfg:Nat->FC} {n:Nat} {A:jz}
theorem sU{o:Oper}{j:Nat}:j∈dw o↔∃e∈o.after,Region.binds .any e=true/\e.on=j:=by
 unfold dw
 rw[List.mem_filterMap]
 constructor
 ·rintro⟨e,he,h⟩
  refine⟨e,by simpa using he,?_⟩
  cases hg:e.ground<;>rw[hg]at h<;>simp only[Option.some.injEq,reduceCtorEq]at h<;>first|(cases h;done)|exact⟨by simp[Region.binds,hg],h⟩
 ·rintro⟨e,he,hb,rfl⟩
  refine⟨e,by simpa using he,?_⟩
  cases hg:e.ground<;>simp[Region.binds,hg]at hb |-
theorem sC:∀(l:List Oper) (acc:List It) (k:Nat) (o:Oper),l[k]?=some o->∃t,t∈dO l acc/\t.i=acc.length+k/\t.o=o
 |[],acc,k,o,h=>by simp at h
 |
  x::l,acc,0,o,h=>by
  simp only[List.getElem?_cons_zero,Option.some.injEq]at h
  exact⟨_,ai,rfl,h⟩
 |
  x::l,acc,k+1,o,h=>by
  obtain⟨t,h1,h2,h3⟩:=sC l (acc++[⟨acc.length,x,ny x acc⟩]) k o (by simpa using h)
  exact⟨t,al _ h1,by rw[h2];simp;omega,h3⟩
theorem mC:∀(l:List Oper) (acc:List It) (t:It),t∈dO l acc->∃k,l[k]?=some t.o/\t.i=acc.length+k
 |[],acc,t,h=>by cases h
 |
  x::l,acc,t,h=>by
  rcases aH.1 h with rfl|h
  ·exact⟨0,rfl,rfl⟩
  ·obtain⟨k,h1,h2⟩:=mC l _ t h
   exact⟨k+1,by simpa using h1,by rw[h2];simp;omega⟩
theorem nQ:∀(l:List Oper) (acc:List It),(dO l acc).Pairwise fun x y=>x.i<y.i
 |[],acc=>List.Pairwise.nil
 |
  x::l,acc=>by
  refine List.Pairwise.cons (fun y hy=>?_) (nQ l _)
  obtain⟨k,_,h2⟩:=mC l _ y hy
  rw[h2];simp;omega
theorem sJ:∀(l:List Oper) (acc:List It) (t:It),t∈dO l acc->∀j,j∈t.uU->j∈dw t.o\/∃t',(t'∈acc\/t'∈dO l acc)/\t'.i∈dw t.o/\j∈t'.uU
 |[],acc,t,h=>by cases h
 |
  x::l,acc,t,h=>by
  intro j hj
  rcases aH.1 h with rfl|h
  ·rcases aK.1 hj with hj|hj
   ·exact .inl hj
   ·obtain⟨t',h1,h2⟩:=List.mem_flatMap.1 hj
    obtain⟨h3,h4⟩:=List.mem_filter.1 h1
    exact .inr ⟨t',.inl h3,vw h4,h2⟩
  ·rcases sJ l _ t h j hj with h1|⟨t',h1,h2,h3⟩
   ·exact .inl h1
   ·refine .inr ⟨t',?_,h2,h3⟩
    rcases h1 with h1|h1
    ·rcases aK.1 h1 with h1|h1
     ·exact .inl h1
     ·exact .inr (by rw[aS.1 h1];exact ai)
    ·exact .inr (al _ h1)
theorem qI{listed:Array Bool}{i:Nat}(h:listed.getD i true=false):listed.getD i false=false:=by
 by_cases hi:i<listed.size
 ·simpa[hi]using h
 ·simp[show listed.size<=i by omega]at h
theorem Gm(hT:dc P T)(hB:lQ P A){ops:Array Oper}{Ψ:St->Prop}{Q:Exit->Act->World->Prop}(hK:∀s a w,fT n A s a w->Ψ s->Q .normal a w) :
 ∀(fuel:Nat) (listed:Array Bool) (L:List It) (s:St) (a:Act) (w:World),L.length<=fuel->listed.size=ops.size->(∀t,t∈L->t∈dO ops.toList []/\listed.getD t.i true=false)->(∀t,t∈dO ops.toList []->t∉L->listed.getD t.i false=true) ->
  L.Pairwise (fun x y=>x.i<y.i)->(∀t,t∈dO ops.toList []->listed.getD t.i false=true->∀j,j∈t.uU->listed.getD j false=true)->fT n A s a w->Seq P T cfg n ops.toList Ψ L [] s->wpAny P .any ops Q fuel listed a w:=by
 have item:∀j o,ops[j]?=some o->∃t,t∈dO ops.toList []/\t.i=j/\t.o=o:=fun j o h=>by
  obtain⟨t,h1,h2,h3⟩:=sC ops.toList [] j o (by simpa using h)
  exact⟨t,h1,by simpa using h2,h3⟩
 have opOf:∀t,t∈dO ops.toList []->ops[t.i]?=some t.o:=fun t ht=>by
  obtain⟨k,h1,h2⟩:=mC ops.toList [] t ht
  rw[h2];simpa using h1
 have done:∀(listed:Array Bool) (L:List It) (s:St) (a:Act) (w:World),(∀t,t∈L->t∈dO ops.toList []/\listed.getD t.i true=false)->(∀t,t∈dO ops.toList []->t∉L->listed.getD t.i false=true) ->
  L.Pairwise (fun x y=>x.i<y.i)->fT n A s a w->Seq P T cfg n ops.toList Ψ L [] s->Region.ready .any ops listed=[]->Q .normal a w:=by
  intro listed L s a w h1 h2 h3 g h hr
  cases L with
  |nil=>exact hK s a w g h
  |
   cons t L =>
   exfalso
   obtain⟨ht,hu⟩:=h1 t ai
   have hb:=Seq.back [] (L2:=L) h (fun x hx=>by cases hx)
   have:t.i∈Region.ready .any ops listed:=by
    rw[mem_ready]
    refine⟨hu,t.o,opOf t ht,fun e he hbd=>?_⟩
    have hlt:=hb.2.1 e.on (sU.2 ⟨e,he,hbd,rfl⟩)
    have hsz:t.i<ops.size:=(Array.getElem?_eq_some_iff.1 (opOf t ht)).1
    obtain⟨t',q1,q2,_⟩:=item e.on ops[e.on] (Array.getElem?_eq_getElem (by omega))
    rw[<-q2]
    refine h2 t' q1 fun hh=>?_
    rcases aH.1 hh with rfl|hh
    ·omega
    ·have:=(List.pairwise_cons.1 h3).1 t' hh;omega
   rw[hr]at this;cases this
 intro fuel
 induction fuel with
 |
  zero =>
  intro listed L s a w hl hs h1 h2 h3 h4 g h
  have:L=[]:=List.length_eq_zero_iff.1 (by omega)
  subst this
  refine⟨?_,hK s a w g h⟩
  cases hr:Region.ready .any ops listed with
  |nil=>rfl
  |
   cons j js =>
   exfalso
   have hj:j∈Region.ready .any ops listed:=by rw[hr];exact ai
   obtain⟨hu,o,ho,_⟩:=mem_ready.1 hj
   obtain⟨t,q1,q2,_⟩:=item j o ho
   have:=h2 t q1 (by simp)
   rw[q2,qI hu]at this;cases this
 |
  succ fuel ih =>
  intro listed L s a w hl hs h1 h2 h3 h4 g h
  refine⟨done listed L s a w h1 h2 h3 g h,fun j hj=>?_⟩
  obtain⟨hu,o,ho,hall⟩:=mem_ready.1 hj
  obtain⟨t,q1,q2,q3⟩:=item j o ho
  subst q2;subst q3
  have htL:t∈L:=by
   by_cases hh:t∈L
   ·exact hh
   ·have:=h2 t q1 hh
    rw[qI hu]at this;cases this
  obtain⟨L1,L2,rfl⟩:=List.append_of_mem htL
  have hedge:∀j,j∈dw t.o->listed.getD j false=true:=fun j hj=>by
   obtain⟨e,he,hb,rfl⟩:=sU.1 hj
   exact hall e he hb
  have hanc:∀j,j∈t.uU->listed.getD j false=true:=fun j hj=>by
   rcases sJ ops.toList [] t q1 j hj with hh|⟨t',hh,r1,r2⟩
   ·exact hedge j hh
   ·rcases hh with hh|hh
    ·cases hh
    ·exact h4 t' hh (hedge _ r1) j r2
  have hpull:=Seq.pull L1 h fun x hx hx'=>by
   have:=hanc _ hx'
   rw[qI (h1 x (aC _ hx)).2]at this;cases this
  have hlt:t.i<listed.size:=by rw[hs];exact(Array.getElem?_eq_some_iff.1 (opOf t q1)).1
  obtain⟨p1,p2,p3⟩:=List.pairwise_append.1 h3
  have p2':=List.pairwise_cons.1 p2
  have hne:∀x,x∈L1++L2->x.i≠t.i:=fun x hx=>by
   rcases aK.1 hx with hx|hx
   ·have:=p3 x hx t ai;omega
   ·have:=p2'.1 x hx;omega
  have next:=EX hT hB g hpull (Kw:=wpAny P .any ops Q fuel (listed.setIfInBounds t.i true)) (Qw:=Q) fun s' a' w' g' hY =>
   ih (listed.setIfInBounds t.i true) (L1++L2) s' a' w' (by simp at hl |-;omega) (by simpa using hs)
    (fun x hx=>by
     obtain⟨r1,r2⟩:=h1 x (by
      rcases aK.1 hx with hx|hx
      ·exact aC _ hx
      ·exact aB _ (al _ hx))
     exact⟨r1,by rw[getD_set_ne true (Ne.symm (hne x hx))];exact r2⟩)
    (fun x hx hn=>by
     by_cases e:x.i=t.i
     ·rw[e];simp[hlt]
     ·rw[getD_set_ne false (Ne.symm e)]
      refine h2 x hx fun hh=>?_
      rcases aK.1 hh with hh|hh
      ·exact hn (aC _ hh)
      ·rcases aH.1 hh with rfl|hh
       ·exact e rfl
       ·exact hn (aB _ hh))
    (List.pairwise_append.2 ⟨p1,p2'.2,fun x hx y hy=>p3 x hx y (al _ hy)⟩)
    (fun x hx hlx jj hja=>by
     by_cases e:x.i=t.i
     ·have:x=t:=by
       by_cases hxL:x∈L1++t::L2
       ·rcases aK.1 hxL with hh|hh
        ·exact absurd e (hne x (aC _ hh))
        ·rcases aH.1 hh with rfl|hh
         ·rfl
         ·exact absurd e (hne x (aB _ hh))
       ·have:=h2 x hx hxL
        rw[e,qI hu]at this;cases this
      subst this
      exact getD_set_true (hanc jj hja)
     ·rw[getD_set_ne false (Ne.symm e)]at hlx
      exact getD_set_true (h4 x hx hlx jj hja)) g' hY
  unfold wpOp
  rw[opOf t q1]
  simp only
  by_cases hw:Region.wanted t.o (yielded ops a.tmps)=true
  ·rw[if_pos hw]at next |-;exact .inl next
  ·rw[if_neg hw]at next |-;exact next
theorem xg(hT:dc P T)(hm:P.follows .mixedOrders=true)(hB:lQ P A)(Φ:Nat->List AV->List Ob->Prop):yf P n A T cfg Φ:=by
 intro id ops draw K Q hK s a w g h
 cases draw with
 |false=>exact wp_region_list (wK hT hB hK ops.toList [] s a w g h)
 |
  true =>
  refine wp_region_any hm ?_
  have hs:=B5 (H:=[]) ops ops.toList s h
  obtain⟨M,β,g⟩:=g
  have g':fT n A s a {w with drawn:=w.drawn+1}:=⟨M,β,{g with agree:=⟨g.agree.c,g.agree.p⟩,own:=fun o x hx=>(g.own o x hx).mono (Mem.le.refl _) (Lo.le.refl _) fun b hl hb=>⟨rfl,(g.own o x hx).Ae hl hb⟩,cC:=g.cC.jT rfl rfl rfl (aw _) fun _ _ _=>rfl}⟩
  refine Gm hT hB (Ψ:=fun s=>eU P n (K s) Φ) hK ops.size _ _ s a _ ?_ (by simp) (fun t ht=>⟨ht,?_⟩) (fun t ht hn=>absurd ht hn) (nQ _ _) (fun t ht hl=>?_) g' hs
  ·have:∀(l:List Oper) (acc:List It),(dO l acc).length=l.length:=fun l=>by
    induction l with
    |nil=>intro acc;rfl
    |cons x l ih=>intro acc;simp[dO,ih]
   rw[this];simp
  ·obtain⟨k,h1,h2⟩:=mC ops.toList [] t ht
   have:t.i<ops.size:=by
    rw[h2]
    have:=(List.getElem?_eq_some_iff.1 h1).1
    simpa using this
   simp[this]
  ·exfalso
   obtain⟨k,h1,h2⟩:=mC ops.toList [] t ht
   by_cases hi:t.i<ops.size
   ·simp[hi]at hl
   ·simp[show ops.size<=t.i by omega]at hl
end
end Go.VL
namespace Go.VL
open Go Go.RowKit
theorem u7{P:Program}:∀{l:List (Nat×TI)},(l.all fun p=>!p.2.kn||p.2.m8 P p.1)=true->dc P (yt l)
 |[],_,t,h=>by cases h
 |
  (j,m)::r,hl,t,h=>by
  simp only[cT,az,bD,cc]at hl
  unfold yt at h |-
  cases e:aJ j t with
  |
   true =>
   simp only[e,cond_true]at h |-
   have:=aE e
   subst this
   rcases hl.1 with h1|h1
   ·rw[h1]at h;cases h
   ·exact FR h1
  |
   false =>
   simp only[e,cond_false]at h |-
   exact u7 hl.2 t h
section
variable {P:Program} {T:eE} {cfg:Nat->FC} {lis:List (Nat×LI)}
theorem an.of(hT:dc P T)(hm:P.follows .mixedOrders=true){fc:FC}{f:Nat}{F:Func}{asq:List AV}{ins:List Ob}{R:AV->List Ob->Prop}(hf:P.funcs[f]?=some F)(hnm:(F.name=="runtime.NumGoroutine")=false)
 (h:eU P F.ntmps (main T cfg lis fc F asq ins) fun _ xs obs=>R (xs.headD .any) obs):an P f asq ins R :=
 Cl hT hf hnm (fun A hB=>xg hT hm hB _) h
theorem cH.of(hT:dc P T)(hm:P.follows .mixedOrders=true){n:Nat}{c:Code}{li:LI}{xs:List AV}{obs:List Ob}{R:Nat->List AV->List Ob->Prop}
 (h:eU P n (round T cfg n lis c li xs obs) fun tag ys o=>(tag=0->cH P n c li ys o R)/\(tag=1->R 1 ys o)/\(tag=2->R 2 ys o)):cH P n c li xs obs R :=
 cH.step (fun A hB=>xg hT hm hB _) h
theorem an.Nt(hT:dc P T)(hm:P.follows .mixedOrders=true){fc:FC}{f:Nat}{F:Func}{asq:List AV}{ins:List Ob}{R:AV->List Ob->Prop}{t:Tree}(hf:P.funcs[f]?=some F)(hnm:(F.name=="runtime.NumGoroutine")=false)(e:main T cfg lis fc F asq ins=t)
 (h:eU P F.ntmps t fun _ xs obs=>R (xs.headD .any) obs):an P f asq ins R:=an.of hT hm hf hnm (by rw[e];exact h)
theorem cH.Nt(hT:dc P T)(hm:P.follows .mixedOrders=true){n:Nat}{c:Code}{li:LI}{xs:List AV}{obs:List Ob}{R:Nat->List AV->List Ob->Prop}{t:Tree}(e:round T cfg n lis c li xs obs=t)
 (h:eU P n t fun tag ys o=>(tag=0->cH P n c li ys o R)/\(tag=1->R 1 ys o)/\(tag=2->R 2 ys o)):cH P n c li xs obs R:=cH.of hT hm (by rw[e];exact h)
theorem an.mono{f:Nat}{asq:List AV}{ins:List Ob}{R R':AV->List Ob->Prop}(h:an P f asq ins R)(hr:∀r obs,R r obs->R' r obs):an P f asq ins R' :=
 ⟨h.1,fun w M β vs hB hin=>Calls.mono (h.2 w M β vs hB hin) fun e w' ⟨v,r,obs,M',β',he,hR,ho⟩=>⟨v,r,obs,M',β',he,hr r obs hR,ho⟩⟩
end
end Go.VL
namespace Go.VL
open Go Go.RowKit
def BU(sel:Nat->Bool)(ids:Nat->Nat)(ob:Nat->Option Ob):Nat->AV->Option (AV×List Nat)
 |0,_=>none
 |
  n+1,a=>match a with
  |
   .ref o 0=>match ob o with
   |some (.cells (c::cs))=>(mz (BU sel ids ob n) (c::cs)).map fun r=>(bif sel o then .pid (ids o) r.1 else .ptr r.1,o::r.2)
   |_=>none
  | .x a=>some (a,[])
  | .agg cs=>(mz (BU sel ids ob n) cs).map fun r=>(.agg r.1,r.2)
  | .v x=>some (.v x,[])
  |_=>none
theorem AW{M:Mem}{β:Lo}{w:World}{sel:Nat->Bool}{ids:Nat->Nat}{ob:Nat->Option Ob}(hid:∀o c cs b,ob o=some (.cells (c::cs))->β o=some (.cells b)->ids o=b) :
 ∀(k:Nat) (c a':AV) (os:List Nat) (v:Value),BU sel ids ob k c=some (a',os)->Fz M β w ob os/\(∀o,o∈os->∀c cs b,ob o=some (.cells (c::cs))->β o=some (.cells b)->M.p b)->bx M β c v->bx M dm a' v
 |0,c,a',os,v,h,_,_=>by simp[BU]at h
 |
  k+1,c,a',os,v,h,⟨hz,hp⟩,hr=>by
  have ih:∀cs asq os,mz (BU sel ids ob k) cs=some (asq,os)->Fz M β w ob os->(∀o,o∈os->∀c cs b,ob o=some (.cells (c::cs))->β o=some (.cells b)->M.p b)->asq.length=cs.length/\∀i v,i<cs.length->bx M β (cs.getD i .any) v->bx M dm (asq.getD i .any) v:=by
   intro cs
   induction cs with
   |
    nil =>
    intro asq os h _ _
    simp[mz]at h
    obtain⟨rfl,rfl⟩:=h
    exact⟨rfl,fun i v hi=>by simp at hi⟩
   |
    cons c cs ihc =>
    intro asq os h hz hp
    unfold mz at h
    split at h
    ·rename_i a1 os1 as2 os2 h1 h2
     cases h
     obtain⟨q1,q2⟩:=ihc _ _ h2 hz.right (fun o ho=>hp o (aB _ ho))
     refine⟨by simp[q1],fun i v hi hr=>?_⟩
     cases i with
     |zero=>simpa using AW hid k _ _ _ _ h1 ⟨hz.left,fun o ho=>hp o (aC _ ho)⟩ (by simpa using hr)
     |succ i=>simpa using q2 i v (by simpa using hi) (by simpa using hr)
    ·cases h
  unfold BU at h
  split at h
  ·rename_i o
   split at h
   ·rename_i c0 cs0 ho
    cases e:mz (BU sel ids ob k) (c0::cs0)with
    |none=>rw[e]at h;cases h
    |
     some r =>
     rw[e]at h;cases h
     obtain⟨asq,os'⟩:=r
     obtain⟨b,us,h1,h2⟩:=hz o ai _ (by rw[ho];rfl)
     obtain⟨q1,q2⟩:=ih _ _ _ e (fun o' ho'=>hz o' (al _ ho')) (fun o' ho'=>hp o' (al _ ho'))
     cases hr with
     |
      ref _ _ _ b' hb =>
      rw[h1]at hb;cases hb
      simp only
      cases sel o with
      |
       true =>
       rw[hid o _ _ b ho h1]
       exact .pid _ _ _ us (hp o ai _ _ b ho h1) (fun i hi=>(h2 i (by omega)).1) fun i hi=>q2 i _ (by omega) (h2 i (by omega)).2
      |false=>exact .ptr _ _ _ _ us (fun i hi=>by simpa using(h2 i (by omega)).1) fun i hi=>q2 i _ (by omega) (h2 i (by omega)).2
   ·cases h
  ·cases h;cases hr with|x _ _ _ ho h=>exact h
  ·rename_i cs
   cases e:mz (BU sel ids ob k) cs with
   |none=>rw[e]at h;cases h
   |
    some r =>
    rw[e]at h;cases h
    obtain⟨q1,q2⟩:=ih cs _ _ (by rw[e]) hz hp
    cases hr with
    |
     agg _ _ vs hl ho h =>
     exact .agg _ _ _ (q1.trans hl) (fun i hi=>ho i (by omega)) fun i hi=>q2 i _ (by omega) (h i (by omega))
  ·cases h;cases hr;exact .v _ _
  ·cases h
theorem Ei{M:Mem}{β:Lo}{w:World}{sel:Nat->Bool}{ids:Nat->Nat}{ob:Nat->Option Ob}(hid:∀o c cs b,ob o=some (.cells (c::cs))->β o=some (.cells b)->ids o=b)(k:Nat) :
 ∀(cs asq:List AV) (os:List Nat),mz (BU sel ids ob k) cs=some (asq,os)->Fz M β w ob os->(∀o,o∈os->∀c cs b,ob o=some (.cells (c::cs))->β o=some (.cells b)->M.p b)->asq.length=cs.length/\∀i v,i<cs.length->bx M β (cs.getD i .any) v->bx M dm (asq.getD i .any) v
 |
  [],asq,os,h,_,_=>by
  simp[mz]at h
  obtain⟨rfl,rfl⟩:=h
  exact⟨rfl,fun i v hi=>by simp at hi⟩
 |
  c::cs,asq,os,h,hz,hp=>by
  unfold mz at h
  split at h
  ·rename_i a1 os1 as2 os2 h1 h2
   cases h
   obtain⟨q1,q2⟩:=Ei hid k cs _ _ h2 hz.right (fun o ho=>hp o (aB _ ho))
   refine⟨by simp[q1],fun i v hi hr=>?_⟩
   cases i with
   |zero=>simpa using AW hid k _ _ _ _ h1 ⟨hz.left,fun o ho=>hp o (aC _ ho)⟩ (by simpa using hr)
   |succ i=>simpa using q2 i v (by simpa using hi) (by simpa using hr)
  ·cases h
def yN(T:eE)(F:Func)(S:Nat->Prop)(sel:Nat->Bool)(R:AV->Prop)(s:St):Prop :=
 ∀ids:Nat->Nat,(∀o,¬S (ids o))->match mn T s F.results.toList with
  |
   some (p,as')=>(match mz (BU sel ids s.ob eB) as' with
   |some (xs,_)=>gn p/\R (match xs with|[]=>.any|[x]=>x|xs=>.cy xs)
   |none=>False)
  |none=>False
theorem yN.get{T:eE}{F:Func}{S:Nat->Prop}{sel:Nat->Bool}{R:AV->Prop}{s:St}(h:yN T F S sel R s)(ids:Nat->Nat)(hi:∀o,¬S (ids o)) :
 ∃p as' xs fz,mn T s F.results.toList=some (p,as')/\gn p/\mz (BU sel ids s.ob eB) as'=some (xs,fz)/\R (match xs with|[]=>.any|[x]=>x|xs=>.cy xs):=by
 have:=h ids hi
 split at this
 ·split at this
  ·rename_i h1 _ _ _ h2
   exact⟨_,_,_,_,h1,this.1,h2,this.2⟩
  ·exact this.elim
 ·exact this.elim
def Bj(T:eE)(cfg:Nat->FC)(F:Func)(c:Code)(asq:List AV)(S:Nat->Prop)(sel:Nat->Bool)(R:AV->Prop):Tree :=
 go T cfg F.ntmps [] [] c (enter asq []) fun e s=>match e with| .exit _=>.fail|_=>.aj (yN T F S sel R s) (.done 0 [] [])
theorem an.RU{P:Program}{T:eE}{cfg:Nat->FC}(hT:dc P T)(hm:P.follows .mixedOrders=true){f:Nat}{F:Func}{asq:List AV}{S:Nat->Prop}{sel:Nat->Bool}{R:AV->Prop}(hf:P.funcs[f]?=some F)(hnm:(F.name=="runtime.NumGoroutine")=false){c:Code}(hb:F.body=some c)(hle:Nat.ble asq.length F.ntmps=true)
 (hS:∀(M:Mem) (β:Lo) (vs:List Value),(∀i,i<asq.length->bx M β (asq.getD i .any) (vs.getD i undef))->∀b,S b->M.p b)
 (h:eU P F.ntmps (Bj T cfg F c asq S sel R) fun _ _ _=>True):an P f asq [] (fun r o=>R r/\o=[]):=by
 unfold Bj at h
 have hle:=aQ hle
 refine⟨⟨F,hf,by simp[hb],hnm⟩,fun w M β vs hB hin=>?_⟩
 let A:jz:=⟨w,M,fun b=>∃i,i<0/\dZ β i=some b,fun o=>none⟩
 have hβ:∀o,β o=none:=fun o=>hin.none o (dN _)
 have hob:∀o,(enter asq []).ob o=none:=fun o=>rfl
 have g0:di F.ntmps A (enter asq []) {tmps:=vs.toArray++Array.replicate (F.ntmps-vs.toArray.size) undef,defers:=[]} w M β:=by
  refine {size:=by simp[hin.len];omega,defs:=rfl,tm:=fun t=>?_,le:=Mem.le.refl _,new:=fun b k v h=>.inl h,agree:=hin.agree,own:=fun o x h=>?_,place:=fun o x b h _ hb=>?_,apart:=fun o o' x x' b hne h hl h' hl' hb=>?_,us:=fun o hu=>⟨hβ o,hob o⟩,fix:=fun o b hb=>(by cases hb),cC:=⟨rfl,rfl,rfl,aw _,fun _ _ _=>rfl⟩}
  ·show bx M β (setArgs asq 0 (fun _=>.any) t) _
   rw[my]
   by_cases ht:t<asq.length
   ·rw[if_pos (by omega),Nat.sub_zero]
    have e:(vs.toArray++Array.replicate (F.ntmps-vs.toArray.size) undef).getD t undef=vs.getD t undef:=by
     have:t<vs.length:=by rw[hin.len];exact ht
     simp[Array.getElem?_append,this,aa]
    rw[e];exact hin.rep t ht
   ·rw[if_neg (by omega)];exact .any _ _
  ·rw[hob o]at h;cases h
  ·rw[hob o]at h;cases h
  ·rw[hob o]at h;cases h
 have hS':∀b,S b->b<w.heap.size:=fun b hb=>by
  obtain⟨k,v,hc⟩:=M.pc b (hS M β vs hin.rep b hb)
  exact hin.agree.lt hc
 have hBA:lQ P A:=lQ.of hB fun b k v hc ⟨i,hi,hbi⟩=>by omega
 refine calls_of_wp hf hb (BK (A:=A) hBA (xg hT hm hBA _) [] (fx:=[]) (fun o b hb=>by cases hb) c _ _ _ ?_ _ w ⟨M,β,g0⟩ h)
 intro ex s a w' ⟨M',β',g⟩ h'
 have fin:yN T F S sel R s->a.defers=[]/\∃v,(results F a.tmps).run P w'=.ok v w'/\∃v' r obs M'' β'',Ending.returned v=.returned v'/\(R r/\obs=[])/\Out w M β 0 r obs v' w' M'' β'':=by
  intro hl
  let ids:Nat->Nat:=fun o=>match s.ob o,β' o with|some (.cells _),some (.cells b)=>b|_,_=>w.heap.size
  have hids:∀o,¬S (ids o):=fun o hSo=>by
   have hlt:=hS' _ hSo
   simp only[ids]at hlt
   split at hlt
   ·rename_i cs b e1 e2
    rcases g.place o _ b e1 rfl (by simp[dZ,e2,Loc.block])with h|⟨i,hi,_⟩
    ·exact absurd h (by show ¬w.heap.size<=b;omega)
    ·omega
   ·omega
  obtain⟨p,as',xs,fz,hres,hp,hfz,hR⟩:=hl.get ids hids
  obtain⟨rs,h1,h2,h3⟩:=oC hT g F.results.toList hres hp
  obtain⟨M1,hM,g1,hpp⟩:=g.xW fz
  obtain⟨q1,q2⟩:=Ei (M:=M1) (β:=β') (w:=w') (ids:=ids) (fun o c cs b e1 e2=>by simp only[ids,e1,e2]) eB as' xs fz hfz g1.fz (fun o ho c cs b e1 e2=>hpp o ho _ b e1 (by simp) e2)
  have hrep:∀i,i<xs.length->bx M1 dm (xs.getD i .any) (rs.getD i undef):=fun i hi=>q2 i _ (by omega) ((h3 i (by omega)).mono hM (Lo.le.refl _))
  have hrun:(results F a.tmps).run P w'=.ok (if h:rs.toArray.size=1 then rs.toArray[0]else .tuple rs.toArray) w':=by
   rw[rB,Sem.run_bind,Array.mapM_eq_mapM_toList]
   simp only[Sem.run_map,h1]
   rfl
  refine⟨g.defs,_,hrun,_,_,[],M1,dm,rfl,⟨hR,rfl⟩,?_⟩
  have hxl:xs.length=rs.length:=by omega
  refine⟨g1.le,g1.agree,?_,fun j hj=>(by simp at hj),fun j b hj hb=>(by omega),fun j l sz es hj=>(by omega),fun i j b hne hi=>(by simp at hi),fun j b hj=>(by simp at hj),fun b k v hc=>g1.new b k v hc,⟨g1.cC.os,g1.cC.tape,g1.cC.output,g1.cC.size,g1.cC.block⟩⟩
  match xs,rs,hxl,hrep with
  |[],[],_,_=>exact .any _ _
  |[x],[r],_,hrep=>simpa using hrep 0 (by simp)
  |x::y::xs,r::q::rs,hl,hrep=>exact .cy _ _ _ (by simpa using hl) hrep
 cases ex with
 |normal=>exact fin h'.1
 |ret=>exact fin h'.1
 |exit i=>exact h'.elim
end Go.VL
namespace Go.VL
open Go Go.RowKit
section
variable {P:Program} {n:Nat} {Q:Nat->List AV->List Ob->Prop}
abbrev bB(v:AV):AV->List Ob->Prop:=fun r o=>r=v/\o=[]
abbrev jX(t:Nat)(ys:List AV)(o:List Ob):Nat->List AV->List Ob->Prop:=fun t' ys' o'=>t'=t/\ys'=ys/\o'=o
theorem aO{f:Nat}{asq:List AV}{ins:List Ob}{k:AV->List Ob->Tree}{R:AV->List Ob->Prop}(h:an P f asq ins R)(hne:∃r o,R r o)(hk:∀r o,R r o->eU P n (k r o) Q):eU P n (.call f asq ins k) Q:=⟨R,h,hne,hk⟩
theorem ak{f:Nat}{asq:List AV}{k:AV->List Ob->Tree}{v:AV}(h:an P f asq [] (bB v))(hk:eU P n (k v []) Q):eU P n (.call f asq [] k) Q :=
 ⟨bB v,h,⟨v,[],rfl,rfl⟩,fun r o ⟨h1,h2⟩=>by rw[h1,h2];exact hk⟩
theorem mq{c:Code}{li:LI}{xs:List AV}{obs:List Ob}{kx kr:List AV->List Ob->Tree}{R:Nat->List AV->List Ob->Prop}(h:cH P n c li xs obs R)(h1:∀ys o,R 1 ys o->eU P n (kx ys o) Q)(h2:∀ys o,R 2 ys o->eU P n (kr ys o) Q):eU P n (.loop c li xs obs kx kr) Q:=⟨R,h,h1,h2⟩
theorem cX{c:Code}{li:LI}{xs:List AV}{obs:List Ob}{kx kr:List AV->List Ob->Tree}{ys:List AV}{o:List Ob}(h:cH P n c li xs obs (jX 1 ys o))(h1:eU P n (kx ys o) Q):eU P n (.loop c li xs obs kx kr) Q :=
 ⟨_,h,fun ys' o' ⟨_,e1,e2⟩=>by rw[e1,e2];exact h1,fun ys' o' ⟨e,_⟩=>by cases e⟩
end
abbrev pk(x:Nat×List AV×List Ob):Nat->List AV->List Ob->Prop:=fun t ys o=>(t,ys,o)=x
theorem fH{P:Program}{n:Nat}{Q:Nat->List AV->List Ob->Prop}{c:Code}{li:LI}{xs:List AV}{obs:List Ob}{kx kr:List AV->List Ob->Tree}{x:Nat×List AV×List Ob}(h:cH P n c li xs obs (pk x))(h1:∀ys o,x=(1,ys,o)->eU P n (kx ys o) Q)(h2:∀ys o,x=(2,ys,o)->eU P n (kr ys o) Q):eU P n (.loop c li xs obs kx kr) Q :=
 ⟨_,h,fun ys o e=>h1 ys o e.symm,fun ys o e=>h2 ys o e.symm⟩
def Ev(L:List AV->List Ob->Prop)(R:Nat->List AV->List Ob->Prop):Nat->List AV->List Ob->Prop:=fun tag ys o=>(tag=0->L ys o)/\(tag=1->R 1 ys o)/\(tag=2->R 2 ys o)
theorem L6{L:List AV->List Ob->Prop}{R:Nat->List AV->List Ob->Prop}{ys:List AV}{o:List Ob}:Ev L R 0 ys o=L ys o:=by simp[Ev]
theorem step1{L:List AV->List Ob->Prop}{R:Nat->List AV->List Ob->Prop}{ys:List AV}{o:List Ob}:Ev L R 1 ys o=R 1 ys o:=by simp[Ev]
theorem step2{L:List AV->List Ob->Prop}{R:Nat->List AV->List Ob->Prop}{ys:List AV}{o:List Ob}:Ev L R 2 ys o=R 2 ys o:=by simp[Ev]
section
variable {P:Program} {n:Nat} {Q:Nat->List AV->List Ob->Prop}
theorem FT{b:Bool}{y t:Tree}:eU P n (.test b y t) Q=((b=true->eU P n y Q)/\(b=false->eU P n t Q)):=rfl
theorem D8{p:Prop}[Decidable p]{y t:Tree}:eU P n (.test (decide p) y t) Q=((p->eU P n y Q)/\(¬p->eU P n t Q)):=by
 show ((decide p=true->_)/\(decide p=false->_))=_
 rw[decide_eq_true_eq,decide_eq_false_iff_not]
theorem DA{b:Bool}{y t:Tree}:eU P n (.test (!b) y t) Q=((b=false->eU P n y Q)/\(b=true->eU P n t Q)):=by
 show (((!b)=true->_)/\((!b)=false->_))=_
 rw[cc,Bool.not_eq_false']
theorem CI{α:Type}[BEq α]{a b:α}{y t:Tree}:eU P n (.test (a==b) y t) Q=(((a==b)=true->eU P n y Q)/\((a==b)=false->eU P n t Q)):=rfl
theorem BD{α:Type}[BEq α]{a b:α}{y t:Tree}:eU P n (.test (a != b) y t) Q=(((a != b)=true->eU P n y Q)/\((a != b)=false->eU P n t Q)):=rfl
theorem Cy{a:AV}{y t:Tree}:eU P n (.test a.toBool y t) Q=((a.toBool=true->eU P n y Q)/\(a.toBool=false->eU P n t Q)):=rfl
theorem Dg{a:AV}{y t:Tree}:eU P n (.test a.isNil y t) Q=((a.isNil=true->eU P n y Q)/\(a.isNil=false->eU P n t Q)):=rfl
theorem Fu{p:Prop}{t:Tree}:eU P n (.aj p t) Q=(p/\eU P n t Q):=rfl
theorem Gh{tag:Nat}{xs:List AV}{o:List Ob}:eU P n (.done tag xs o) Q=Q tag xs o:=rfl
end
def mk(l:List UInt8):ByteArray:=⟨l.toArray⟩
theorem kW(k:IntKind)(n:Int):LK.has (.int k) (.v (.int k n))=True:=eq_true ⟨n,rfl⟩
theorem B0(b:Bool):LK.has .bool (.v (.bool b))=True:=eq_true ⟨b,rfl⟩
theorem eh(s:ByteArray):LK.has .str (.v (.string s))=True:=eq_true ⟨s,rfl⟩
theorem ck(es:List (List AV)):LK.has .sl (.sl es)=True:=eq_true (.inr ⟨es,rfl⟩)
theorem bj:LK.has .sl (.v (.slice none 0 0))=True:=eq_true (.inl rfl)
theorem ca(cs:List AV):LK.has .ptr (.ptr cs)=True:=eq_true (.inr (.inl ⟨cs,rfl⟩))
theorem iT:LK.has .ptr (.v (.pointer none))=True:=eq_true (.inl rfl)
theorem yF(k:IntKind)(n:Int):(AV.v (.int k n)).toInt=n:=rfl
theorem uK(b:ByteArray):(AV.v (.string b)).toStr=b:=rfl
theorem Ac(b:Bool):(AV.v (.bool b)).toBool=b:=rfl
theorem BG(cs:List AV)(i:Nat):(AV.cy cs).comp i=cs.getD i .any:=rfl
theorem fY(es:List (List AV)):(AV.sl es).elems=es:=rfl
theorem zy:(AV.v (.slice none 0 0)).elems=[]:=rfl
theorem jv(cs:List AV):(AV.ptr cs).deref=cs:=rfl
theorem pB(cs:List AV):(AV.ptr cs).isNil=false:=rfl
theorem jr:(AV.v (.pointer none)).isNil=true:=rfl
theorem B9(cs:List AV):(AV.agg cs).cs=cs:=rfl
theorem B4(cs:List AV):(Ob.cells cs).cs=cs:=rfl
theorem Bo(z:Nat)(es:List (List AV)):(Ob.vec z es).es=es:=rfl
theorem wrap64(n:Int)(h:-9223372036854775808<=n)(h':n<9223372036854775808):IntKind.wrap .i64 n=n:=by
 simp[IntKind.wrap,IntKind.signed,IntKind.bits];omega
def Up(a' a:AV):Prop:=∀M β v,bx M β a' v->bx M β a v
theorem aA(a:AV):Up a a:=fun _ _ _ h=>h
theorem bT{a:AV}(h:LK.sl.has a):Up a (.x a):=fun M β v hr=>.x _ _ _ (Ap hr h) (kJ hr h)
theorem bA{a:AV}(h:LK.ptr.has a):Up a (.x a):=fun M β v hr=>.x _ _ _ (xO hr h) (kJ hr h)
theorem AU(b:Bool):Up (.v (.bool b)) (.b b):=fun M β v hr=>by cases hr;exact .b _ _
def wi:List AV->List AV->Prop
 |[],[]=>True
 |a::asq,b::bs=>Up a b/\wi asq bs
 |_,_=>False
theorem aD:wi [] []:=trivial
theorem ah{a b:AV}{asq bs:List AV}(h:Up a b)(hs:wi asq bs):wi (a::asq) (b::bs):=⟨h,hs⟩
theorem wi.get:∀{asq bs:List AV},wi asq bs->asq.length=bs.length/\∀i,i<bs.length->Up (asq.getD i .any) (bs.getD i .any)
 |[],[],_=>⟨rfl,fun i hi=>by cases hi⟩
 |
  a::asq,b::bs,h=>by
  obtain⟨h1,h2⟩:=wi.get h.2
  refine⟨by simp[h1],fun i hi=>?_⟩
  cases i with
  |zero=>simpa using h.1
  |succ i=>simpa using h2 i (by simpa using hi)
 |[],_::_,h=>h.elim
 |_::_,[],h=>h.elim
theorem cj{asq bs:List AV}(h:wi asq bs):Up (.agg asq) (.agg bs):=fun M β v hr=>by
 obtain⟨vs,rfl,hl,hr,ho⟩:=fM hr
 obtain⟨h1,h2⟩:=h.get
 exact .agg _ _ _ (by omega) (fun i hi=>ho i (by omega)) fun i hi=>h2 i hi M β _ (hr i (by omega))
theorem an.up{P:Program}{f:Nat}{asq bs:List AV}{ins:List Ob}{R:AV->List Ob->Prop}(h:wi asq bs)(hf:an P f bs ins R):an P f asq ins R :=
 ⟨hf.1,fun w M β vs hB hin=>hf.2 w M β vs hB {hin with len:=by rw[hin.len,h.get.1],rep:=fun i hi=>h.get.2 i hi _ _ _ (hin.rep i (by rw[h.get.1];exact hi))}⟩
def Be:Ob->Ob->Prop
 | .cells asq,.cells bs=>wi asq bs
 |x,y=>x=y
theorem eH(x:Ob):Be x x:=by
 cases x with
 |
  cells cs=>induction cs with
  |nil=>exact aD
  |cons c cs ih=>exact ah (aA c) ih
 |_=>rfl
theorem bU{asq bs:List AV}(h:wi asq bs):Be (.cells asq) (.cells bs):=h
def uZ:List Ob->List Ob->Prop
 |[],[]=>True
 |a::asq,b::bs=>Be a b/\uZ asq bs
 |_,_=>False
theorem ct:uZ [] []:=trivial
theorem bm{a b:Ob}{asq bs:List Ob}(h:Be a b)(hs:uZ asq bs):uZ (a::asq) (b::bs):=⟨h,hs⟩
theorem Be.eq{x y:Ob}(h:Be x y):x=y\/∃asq bs,x=.cells asq/\y=.cells bs/\wi asq bs:=by
 cases x with
 |
  cells asq =>
  cases y with
  |cells bs=>exact .inr ⟨asq,bs,rfl,rfl,h⟩
  |_=>cases h
 |_=>exact .inl h
theorem Be.live{x y:Ob}(h:Be x y):x.live=y.live:=by
 rcases h.eq with rfl|⟨asq,bs,rfl,rfl,_⟩<;>rfl
theorem Be.own{x y:Ob}(h:Be x y){M:Mem}{β:Lo}{w:World}{o:Nat}(hx:Own M β w o x):Own M β w o y:=by
 rcases h.eq with rfl|⟨asq,bs,rfl,rfl,hl⟩
 ·exact hx
 ·obtain⟨h1,h2⟩:=wi.get hl
  obtain⟨b,vs,e,q1,q2,q3,q4,q5⟩:=hx
  exact⟨b,vs,e,q1,q2,by omega,fun i hi=>h2 i hi _ _ _ (q4 i (by omega)),q5⟩
theorem uZ.get:∀{asq bs:List Ob},uZ asq bs->asq.length=bs.length/\∀i,i<bs.length->Be (asq.getD i .dead) (bs.getD i .dead)
 |[],[],_=>⟨rfl,fun i hi=>by cases hi⟩
 |
  a::asq,b::bs,h=>by
  obtain⟨h1,h2⟩:=uZ.get h.2
  refine⟨by simp[h1],fun i hi=>?_⟩
  cases i with
  |zero=>simpa using h.1
  |succ i=>simpa using h2 i (by simpa using hi)
 |[],_::_,h=>h.elim
 |_::_,[],h=>h.elim
theorem an.nf{P:Program}{f:Nat}{asq:List AV}{ins ins':List Ob}{R:AV->List Ob->Prop}(h:uZ ins ins')(hf:an P f asq ins' R):an P f asq ins R:=by
 obtain⟨hl,hg⟩:=h.get
 refine⟨hf.1,fun w M β vs hB hin=>?_⟩
 rw[hl]
 exact hf.2 w M β vs hB {hin with own:=fun j hj=>(hg j hj).own (hin.own j (by omega)),none:=fun j hj=>hin.none j (by omega),apart:=fun i j b hne hi hj hli hlj hb=>hin.apart i j b hne (by omega) (by omega) (by rw[(hg i hi).live];exact hli) (by rw[(hg j hj).live];exact hlj) hb}
end Go.VL
