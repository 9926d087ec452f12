/-
  Part of a proof: Go functions read by values, trees of functions, their contracts.
-/
import Derived.Test.YtmdlogdmjkfojaaGreatDoorP1
set_option linter.unusedVariables false
set_option linter.unusedSimpArgs false
open Bool renaming and_eq_true→aw,not_eq_true'→cf,or_eq_true→bn,true_and→bJ
open List renaming all_cons→cL,all_eq_true→bL,any_eq_true→bY,drop_zero→aX,flatMap_cons→cP,getD_cons_zero→bg,getD_eq_getElem?_getD→aa,getElem?_append→ba,getElem?_drop→cH,getElem?_eq_getElem→bo,getElem_mem→bE,length_append→al,length_cons→au,length_drop→cd,length_map→cI,length_nil→aG,map_cons→bp,mem_append→aM,mem_append_left→aB,mem_append_right→az,mem_cons→aH,mem_cons_of_mem→ak,mem_cons_self→ai,mem_flatMap→dq,mem_map→bZ,mem_singleton→aU,nil_append→aQ,range→bb
open Nat renaming add_zero→bU,beq→aJ,ble→fG,blt→cv,eq_of_beq_eq_true→aD,le_of_ble_eq_true→aP,le_refl→aq,lt_of_lt_of_le→cU,zero_add→aW,zero_le→dr
open Option renaming bind_some→ck,map_some→cr
namespace Go.VL
open Go Go.RowKit
section
variable {P:Program} {M:Mem} {β:Lo} {w w':World} {n:Nat} {A:jV} {s:St} {a:Act}
theorem u7(g:cW n A s a w M β){ob0:Nat->Option Ob}{m:MK}{c c':AV}{obs:List Ob}{os:List Nat}{j:Nat}(h:oN ob0 m c j=some (c',obs,os))(h0:∀o x,o∈os->ob0 o=some x->s.ob o=some x){U:List Nat}{f:Nat->Option Ob}{βc:Lo}
 (hB:gk s w M β U f βc) (hnm:∀m,j<=m->f m=none) (hnd:nodup os=true) (hU:∀o,o∈os->o∉U) :
 ∃βc' U' f',gk s w M β U' f' βc'/\Lo.le βc βc'/\(∀o,o∈U'->o∈os\/o∈U)/\(∀m,j+obs.length<=m->f' m=none)/\(∀m,m<j->f' m=f m)/\(∀q,q<obs.length->f' (j+q)=some (obs.getD q .dead)) /\
  (∀v,bu M β c v->bu M βc' c' v)/\Al β βc' os obs j:=by
 unfold oN at h
 split at h
 ·rename_i o
  split at h
  ·rename_i sz es ho
   cases h
   obtain⟨β3,c1,c2,c3,c4⟩:=gk.vec g hB (m:=j) (hnm j (aq _)) (hU o ai) (h0 _ _ ai ho)
   refine⟨β3,_,_,c1,c2,fun q hq=>?_,fun m hm=>?_,fun m hm=>?_,fun q hq=>?_,c3,fun q b hq _ hb=>?_⟩
   ·rcases aH.1 hq with rfl|hq
    ·exact .inl ai
    ·exact .inr hq
   ·rw[a6 _ _ _ _ (by simp at hm;omega)];exact hnm m (by simp at hm;omega)
   ·rw[a6 _ _ _ _ (by omega)]
   ·have:q=0:=by simp at hq;exact hq
    subst this;rw[bU,aN];rfl
   ·have:q=0:=by simp at hq;exact hq
    subst this
    rw[bU,c4]at hb;exact hb
  ·cases h
 ·rename_i ks o
  split at h
  ·rename_i sz es ho
   cases hbq:aJ sz (lL ks)with
   |false=>rw[hbq]at h;cases h
   |true =>
   rw[hbq]at h
   cases h
   obtain⟨β3,c1,c2,c3,c4⟩:=gk.vec g hB (m:=j) (hnm j (aq _)) (hU o ai) (h0 _ _ ai ho)
   refine⟨β3,_,_,c1,c2,fun q hq=>?_,fun m hm=>?_,fun m hm=>?_,fun q hq=>?_,c3,fun q b hq _ hb=>?_⟩
   ·rcases aH.1 hq with rfl|hq
    ·exact .inl ai
    ·exact .inr hq
   ·rw[a6 _ _ _ _ (by simp at hm;omega)];exact hnm m (by simp at hm;omega)
   ·rw[a6 _ _ _ _ (by omega)]
   ·have:q=0:=by simp at hq;exact hq
    subst this;rw[bU,aN];rfl
   ·have:q=0:=by simp at hq;exact hq
    subst this
    rw[bU,c4]at hb;exact hb
  ·cases h
 ·split at h
  ·rename_i as1 obs1 os1 h1
   cases h
   obtain⟨β3,U',f',b1,b2,b3,b4,b5,b6,b7,b8,b9⟩:=kR g _ (uS h1).1 h0 hB hnm hnd hU
   refine⟨β3,U',f',b1,b2,b3,b4,b5,b6,fun v hv=>?_,b9⟩
   obtain⟨vs,ev,hl,hr,ho⟩:=gv hv
   rw[ev]
   exact .agg _ _ _ (by omega) (fun i hi=>ho i (by omega)) fun i hi=>b8 i _ (by omega) (hr i (by omega))
  ·cases h
 ·rename_i ks o
  split at h
  ·rename_i cs ho
   split at h
   ·rename_i asq obs1 os1 h1
    cases h
    obtain⟨n1,n2⟩:=nodup_cons hnd
    obtain⟨β3,U',f',b1,b2,b3,b4,b5,b6,b7,b8,b9⟩:=kR g ks h1 (fun o x hh=>h0 o x (ak _ hh)) hB (fun m hm=>hnm m (by omega)) n2 (fun q hq=>hU q (ak _ hq))
    have ho:=h0 _ _ ai ho
    obtain⟨b,vs,e,q1,q2,q3,q4,q5,q6⟩:=g.own o _ ho
    have hfj:f' j=none:=by rw[b5 j (by omega)];exact hnm j (aq _)
    have hB2:=b1.add g hfj (l:=.cells b) (x:=.cells asq)
     ⟨b,vs,e,aN _ _ _,q2,by rw[q3,b7],fun i hi=>(b8 i _ (by omega) (q4 i (by omega))).mono (Mem.le.refl _) (b1.le hfj _),q5,q6⟩ o
     (fun hh=>by
      rcases b3 o hh with h|h
      ·exact n1 h
      ·exact hU o ai h)
     (fun b' hb'=>by
      simp only[Loc.block,Option.some.injEq]at hb'
      subst hb'
      exact⟨_,ho,rfl,by simp[dR,q1,Loc.block]⟩)
    refine⟨_,_,_,hB2,fun o l hl=>b1.le hfj _ o l (b2 o l hl),fun q hq=>?_,fun m hm=>?_,fun m hm=>?_,fun q hq=>?_,fun v hv=>?_,fun q b' hq hk hb=>?_⟩
    ·rcases aH.1 hq with rfl|hq
     ·exact .inl ai
     ·rcases b3 q hq with h|h
      ·exact .inl (ak _ h)
      ·exact .inr h
    ·simp at hm
     rw[a6 _ _ _ _ (by omega)];exact b4 m (by omega)
    ·rw[a6 _ _ _ _ (by omega)];exact b5 m (by omega)
    ·cases q with
     |zero=>rw[bU,aN];rfl
     |
      succ q =>
      rw[a6 _ _ _ _ (by omega),show j+(q+1)=j+1+q by omega,b6 q (by simpa using hq)];rfl
    ·obtain⟨b',r1,r2⟩:=lj hv
     rw[q1]at r1;cases r1
     rw[r2]
     exact .ref _ _ _ _ (aN _ _ _)
    ·cases q with
     |zero=>rw[bU,aN]at hb;cases hb;exact q1
     |
      succ q =>
      rw[a6 _ _ _ _ (by omega),show j+(q+1)=j+1+q by omega]at hb
      simpa using b9 q b' (by simpa using hq) (by simpa using hk) hb
   ·cases h
  ·cases h
 ·cases h
theorem rz(g:cW n A s a w M β){ob0:Nat->Option Ob}:∀(ms:List (Option MK)) {cs asq:List AV} {obs:List Ob} {os:List Nat} {j:Nat},fF ob0 ms cs j=some (asq,obs,os)->(∀o x,o∈os->ob0 o=some x->s.ob o=some x) ->
 ∀{U:List Nat} {f:Nat->Option Ob} {βc:Lo},gk s w M β U f βc->(∀m,j<=m->f m=none)->nodup os=true->(∀o,o∈os->o∉U) ->
 ∃βc' U' f',gk s w M β U' f' βc'/\Lo.le βc βc'/\(∀o,o∈U'->o∈os\/o∈U)/\(∀m,j+obs.length<=m->f' m=none)/\(∀m,m<j->f' m=f m)/\(∀q,q<obs.length->f' (j+q)=some (obs.getD q .dead))/\asq.length=cs.length /\
  (∀q v,q<cs.length->bu M β (cs.getD q .any) v->bu M βc' (asq.getD q .any) v)/\Al β βc' os obs j
 |
  [],cs,asq,obs,os,j,h,h0,U,f,βc,hB,hnm,hnd,hU=>by
  cases cs with
  |
   nil =>
   simp only[fF,Option.some.injEq,Prod.mk.injEq]at h
   obtain⟨rfl,rfl,rfl⟩:=h
   exact⟨βc,U,f,hB,Lo.le.refl _,fun o ho=>.inr ho,fun m hm=>hnm m (by simpa using hm),fun m _=>rfl,fun q hq=>(by simp at hq),rfl,fun q v hq=>(by simp at hq),.none⟩
  |cons c cs=>simp[fF]at h
 |
  none::ms,cs,asq,obs,os,j,h,h0,U,f,βc,hB,hnm,hnd,hU=>by
  cases cs with
  |nil=>simp[fF]at h
  |
   cons c cs =>
   simp only[fF]at h
   split at h
   ·rename_i a1 as1 obs1 os1 h1 h2
    cases h
    obtain⟨β3,U',f',b1,b2,b3,b4,b5,b6,b7,b8,b9⟩:=rz g ms h2 h0 hB hnm hnd hU
    refine⟨β3,U',f',b1,b2,b3,b4,b5,b6,by simp[b7],fun q v hq hr=>?_,b9⟩
    cases q with
    |zero=>simpa using(vL h1 (by simpa using hr)).up
    |succ q=>simpa using b8 q v (by simpa using hq) (by simpa using hr)
   ·cases h
 |
  some m::ms,cs,asq,obs,os,j,h,h0,U,f,βc,hB,hnm,hnd,hU=>by
  cases cs with
  |nil=>simp[fF]at h
  |
   cons c cs =>
   simp only[fF]at h
   split at h
   ·rename_i c' obs1 os1 h1
    split at h
    ·rename_i as1 obs2 os2 h2
     cases h
     obtain⟨n1,n2,n3⟩:=ew hnd
     obtain⟨β3,U1,f1,b1,b2,b3,b4,b5,b6,b7,b9⟩:=u7 g h1 (fun o x ho=>h0 o x (aB _ ho)) hB hnm n1 fun o ho=>hU o (aB _ ho)
     obtain⟨β4,U2,f2,d1,d2,d3,d4,d5,d6,d7,d8,d9⟩:=rz g ms h2 (fun o x ho=>h0 o x (az _ ho)) b1 b4 n2 fun o ho hh=>by
      rcases b3 o hh with h|h
      ·exact n3 o h ho
      ·exact hU o (az _ ho) h
     refine⟨β4,U2,f2,d1,fun o l hl=>d2 o l (b2 o l hl),fun o ho=>?_,fun m hm=>d4 m (by simp at hm;omega),fun m hm=>(d5 m (by omega)).trans (b5 m hm),fun q hq=>?_,by simp[d7],fun q v hq hr=>?_,b9.gf d2 (fun q hq=>qC (b1.own _ _ (b6 q hq)) ((oq h1).2 q hq).1) d9 (oq h1).1⟩
     ·rcases d3 o ho with h|h
      ·exact .inl (az _ h)
      ·rcases b3 o h with h|h
       ·exact .inl (aB _ h)
       ·exact .inr h
     ·by_cases hlt:q<obs1.length
      ·rw[d5 _ (by omega),b6 q hlt]
       simp[aa,ba,hlt]
      ·have:=d6 (q-obs1.length) (by simp at hq;omega)
       rw[show j+obs1.length+(q-obs1.length)=j+q by omega]at this
       rw[this]
       simp[aa,ba,hlt]
     ·cases q with
      |zero=>simpa using(b7 v (by simpa using hr)).mono (Mem.le.refl _) d2
      |succ q=>simpa using d8 q v (by simpa using hq) (by simpa using hr)
    ·cases h
   ·cases h
theorem AD(g:cW n A s a w M β){ob0:Nat->Option Ob}{m:PK}{c c':AV}{obs:List Ob}{os:List Nat}{j:Nat}(h:pH ob0 m c j=some (c',obs,os))(h0:∀o x,o∈os->ob0 o=some x->s.ob o=some x){U:List Nat}{f:Nat->Option Ob}{βc:Lo}
 (hB:gk s w M β U f βc) (hnm:∀m,j<=m->f m=none) (hnd:nodup os=true) (hU:∀o,o∈os->o∉U) :
 ∃βc' U' f',gk s w M β U' f' βc'/\Lo.le βc βc'/\(∀o,o∈U'->o∈os\/o∈U)/\(∀m,j+obs.length<=m->f' m=none)/\(∀m,m<j->f' m=f m)/\(∀q,q<obs.length->f' (j+q)=some (obs.getD q .dead)) /\
  (∀v,bu M β c v->bu M βc' c' v)/\Al β βc' os obs j:=by
 unfold pH at h
 split at h
 ·exact u7 g h h0 hB hnm hnd hU
 ·rename_i ms fn cap
  split at h
  ·rename_i asq obs' os' h1
   cases h
   obtain⟨β3,U',f',b1,b2,b3,b4,b5,b6,b7,b8,b9⟩:=rz g ms h1 h0 hB hnm hnd hU
   refine⟨β3,U',f',b1,b2,b3,b4,b5,b6,fun v hv=>?_,b9⟩
   cases hv with
   |fn _ _ _ vs hl hr=>exact .fn _ _ _ vs (by omega) fun i hi=>b8 i _ (by omega) (hr i (by omega))
  ·cases h
 ·cases h
theorem nU(g:cW n A s a w M β){ob0:Nat->Option Ob}(mu:List (Nat×PK)):∀(asq:List AV) {i j:Nat} {as':List AV} {ins:List Ob} {os fz:List Nat},iw ob0 mu asq i j=some (as',ins,os,fz)->Fz M β w ob0 fz->(∀o x,o∈os->ob0 o=some x->s.ob o=some x) ->
 ∀{U:List Nat} {f:Nat->Option Ob} {βc:Lo},gk s w M β U f βc->(∀m,j<=m->f m=none)->nodup os=true->(∀o,o∈os->o∉U) ->
 ∃βc' U' f',gk s w M β U' f' βc'/\Lo.le βc βc'/\(∀o,o∈U'->o∈os\/o∈U)/\(∀m,j+ins.length<=m->f' m=none)/\(∀m,m<j->f' m=f m)/\(∀q,q<ins.length->f' (j+q)=some (ins.getD q .dead))/\as'.length=asq.length /\
  (∀q v,q<asq.length->bu M β (asq.getD q .any) v->bu M βc' (as'.getD q .any) v)/\Al β βc' os ins j
 |
  [],i,j,as',ins,os,fz,h,hz,h0,U,f,βc,hB,hnm,hnd,hU=>by
  simp only[iw,Option.some.injEq,Prod.mk.injEq]at h
  obtain⟨rfl,rfl,rfl,rfl⟩:=h
  exact⟨βc,U,f,hB,Lo.le.refl _,fun o ho=>.inr ho,fun m hm=>hnm m (by simpa using hm),fun m _=>rfl,fun q hq=>(by simp at hq),rfl,fun q v hq=>(by simp at hq),.none⟩
 |
  c::asq,i,j,as',ins,os,fz,h,hz,h0,U,f,βc,hB,hnm,hnd,hU=>by
  simp only[iw]at h
  split at h
  ·split at h
   ·rename_i l1 f1 as1 ins2 os2 fz2 h1 h2
    cases h
    obtain⟨β4,U2,f2,d1,d2,d3,d4,d5,d6,d7,d8,d9⟩:=nU g mu asq h2 hz.right h0 hB hnm hnd hU
    refine⟨β4,U2,f2,d1,d2,d3,d4,d5,d6,by simp[d7],fun q v hq hr=>?_,d9⟩
    cases q with
    |zero=>simpa using bu.any _ _
    |succ q=>simpa using d8 q v (by simpa using hq) (by simpa using hr)
   ·cases h
  ·rename_i m hm
   split at h
   ·rename_i c' obs1 os1 h1
    split at h
    ·rename_i as1 ins2 os2 fz2 h2
     cases h
     obtain⟨n1,n2,n3⟩:=ew hnd
     obtain⟨β3,U1,f1,b1,b2,b3,b4,b5,b6,b7,b9⟩:=AD g h1 (fun o x ho=>h0 o x (aB _ ho)) hB hnm n1 fun o ho=>hU o (aB _ ho)
     obtain⟨β4,U2,f2,d1,d2,d3,d4,d5,d6,d7,d8,d9⟩:=nU g mu asq h2 hz (fun o x ho=>h0 o x (az _ ho)) b1 b4 n2 fun o ho hh=>by
      rcases b3 o hh with h|h
      ·exact n3 o h ho
      ·exact hU o (az _ ho) h
     refine⟨β4,U2,f2,d1,fun o l hl=>d2 o l (b2 o l hl),fun o ho=>?_,fun m hm=>d4 m (by simp at hm;omega),fun m hm=>(d5 m (by omega)).trans (b5 m hm),fun q hq=>?_,by simp[d7],fun q v hq hr=>?_,b9.gf d2 (fun q hq=>qC (b1.own _ _ (b6 q hq)) ((rm h1).2 q hq).1) d9 (rm h1).1⟩
     ·rcases d3 o ho with h|h
      ·exact .inl (az _ h)
      ·rcases b3 o h with h|h
       ·exact .inl (aB _ h)
       ·exact .inr h
     ·by_cases hlt:q<obs1.length
      ·rw[d5 _ (by omega),b6 q hlt]
       simp[aa,ba,hlt]
      ·have:=d6 (q-obs1.length) (by simp at hq;omega)
       rw[show j+obs1.length+(q-obs1.length)=j+q by omega]at this
       rw[this]
       simp[aa,ba,hlt]
     ·cases q with
      |zero=>simpa using(b7 v (by simpa using hr)).mono (Mem.le.refl _) d2
      |succ q=>simpa using d8 q v (by simpa using hq) (by simpa using hr)
    ·cases h
   ·cases h
  ·split at h
   ·rename_i c' f1 as1 ins2 os2 fz2 h1 h2
    cases h
    obtain⟨β4,U2,f2,d1,d2,d3,d4,d5,d6,d7,d8,d9⟩:=nU g mu asq h2 hz.right h0 hB hnm hnd hU
    refine⟨β4,U2,f2,d1,d2,d3,d4,d5,d6,by simp[d7],fun q v hq hr=>?_,d9⟩
    cases q with
    |zero=>simpa using(gL _ _ _ _ _ h1 hz.left (by simpa using hr)).up
    |succ q=>simpa using d8 q v (by simpa using hq) (by simpa using hr)
   ·cases h
theorem sD{o:Nat}:∀{caps:List AV} {l:List (Option Nat)},n8 o caps=some l->l.length=caps.length/\∀i,i<l.length->(l.getD i none=none->caps.getD i .any=.ref o 0)/\∀p,l.getD i none=some p->caps.getD i .any=.ref p 0
 |[],l,h=>by cases h;exact⟨rfl,fun i hi=>by simp at hi⟩
 |
  c::caps,l,h=>by
  unfold n8 at h
  split at h
  ·rename_i he;cases he
  ·rename_i p r he
   cases he
   cases e:n8 o caps with
   |none=>rw[e]at h;cases h
   |
    some l' =>
    rw[e]at h
    simp only[cr,Option.some.injEq]at h
    subst h
    obtain⟨q1,q2⟩:=sD e
    refine⟨by simp[q1],fun i hi=>?_⟩
    cases i with
    |
     zero =>
     simp only[bg]
     cases hb:aJ p o with
     |
      true =>
      simp only[cond_true]
      exact⟨fun _=>(by rw[aD hb]),fun q hq=>(by cases hq)⟩
     |
      false =>
      simp only[cond_false]
      exact⟨fun hq=>(by cases hq),fun q hq=>(by cases hq;rfl)⟩
    |succ i=>simpa using q2 i (by simpa using hi)
  ·cases h
theorem Dt{M:Mem}{β:Lo}{w:World}{ob:Nat->Option Ob}{f:Nat}{c:AV}{l:List (Option Nat)}{fz:List Nat}{v:Value}(h:rh ob f c=some (l,fz))(hz:Fz M β w ob fz)(hr:bu M β c v):bu M β (.fM f l) v:=by
 have key:∀o f' caps,cC (ob o)=some (.hG [.fn f' caps])->(bif aJ f' f then(n8 o caps).map fun l=>(l,[o])else none)=some (l,fz)->bu M β (.ref o 0) v->bu M β (.fM f l) v:=by
  intro o f' caps hfr h5 hr
  clear h
  cases hb:aJ f' f with
  |false=>rw[hb]at h5;cases h5
  |
   true =>
   rw[hb]at h5
   simp only[cond_true]at h5
   have:=aD hb
   subst this
   cases e:n8 o caps with
   |none=>rw[e]at h5;cases h5
   |
    some l' =>
    rw[e]at h5
    simp only[cr,Option.some.injEq,Prod.mk.injEq]at h5
    obtain⟨rfl,rfl⟩:=h5
    obtain⟨b,us,h1,h2⟩:=hz o ai _ hfr
    obtain⟨h3,h4⟩:=h2 0 (by simp)
    obtain⟨q1,q2⟩:=sD e
    obtain⟨b',r1,r2⟩:=lj hr
    rw[h1]at r1;cases r1
    subst r2
    simp only[bg]at h4
    cases hu:us 0 with
    |
     _ =>
     rw[hu]at h3 h4
     cases h4
     try (
      rename_i vs hl hrs
      refine .fM _ _ _ _ vs h3 (q1.trans hl) (fun i hi hn=>?_) fun i p hi hp=>?_
      ·have:=hrs i (by omega)
       rw[(q2 i hi).1 hn]at this
       obtain⟨b2,s1,s2⟩:=lj this
       rw[h1]at s1;cases s1;exact s2
      ·have:=hrs i (by omega)
       rw[(q2 i hi).2 p hp]at this
       exact lj this)
 unfold rh at h
 split at h
 ·rename_i f' js
  cases hb:aJ f' f with
  |false=>rw[hb]at h;cases h
  |
   true =>
   rw[hb]at h
   simp only[cond_true,Option.some.injEq,Prod.mk.injEq]at h
   obtain⟨rfl,rfl⟩:=h
   have:=aD hb
   subst this
   exact hr
 ·rename_i o
  split at h
  ·rename_i f' caps ho
   exact key o f' caps (by rw[ho];rfl) h hr
  ·rename_i f' caps ho
   exact key o f' caps (by rw[ho];rfl) h hr
  ·cases h
 ·cases h
theorem AK{M:Mem}{β βc:Lo}{os:List Nat}{ins:List Ob}{f:Nat}{js:List (Option Nat)}{v:Value}(h:bu M β (.fM f (js.map (Nx os))) v)(hk:js.all (N7 ins)=true)
 (ho:∀j,j<ins.length->(ins.getD j .dead).qu=true->∀b,β (os.getD j 0)=some (.cells b)->βc j=some (.cells b)):bu M βc (.fM f js) v:=by
 cases h with
 |
  fM _ _ _ b vs hc hl hs hoo =>
  have hg:∀i,i<js.length->(js.map (Nx os)).getD i none=Nx os (js.getD i none):=fun i hi=>by simp[aa,hi]
  refine .fM _ _ _ _ vs hc (by simpa using hl) (fun i hi e=>hs i (by simpa using hi) (by rw[hg i hi,e];rfl)) fun i j hi e=>?_
  obtain⟨b',q1,q2⟩:=hoo i (os.getD j 0) (by simpa using hi) (by rw[hg i hi,e];rfl)
  rw[bL]at hk
  have:=hk (some j) (by rw[<-e];simp[aa,hi])
  simp only[N7,aw]at this
  have hj:j<ins.length:=aP this.1
  exact⟨b',ho j hj this.2 b' q1,q2⟩
theorem nZ{M:Mem}{β βc:Lo}{w:World}{ob:Nat->Option Ob}{mu:List (Nat×PK)}{os:List Nat}{ins:List Ob}(ho:∀j,j<ins.length->(ins.getD j .dead).qu=true->∀b,β (os.getD j 0)=some (.cells b)->βc j=some (.cells b)) :
 ∀(asq:List AV) {i j:Nat} {as':List AV} {ins':List Ob} {os' fz:List Nat},iw ob mu asq i j=some (as',ins',os',fz)->Fz M β w ob fz->lR ob mu os ins asq i=true->(∀q v,q<asq.length->bu M β (asq.getD q .any) v->bu M βc (as'.getD q .any) v) ->
  (j5 mu as' i).length=as'.length/\∀q v,q<asq.length->bu M β (asq.getD q .any) v->bu M βc ((j5 mu as' i).getD q .any) v
 |
  [],i,j,as',ins',os',fz,h,hz,hk,hr=>by
  simp only[iw,Option.some.injEq,Prod.mk.injEq]at h
  obtain⟨rfl,rfl,rfl,rfl⟩:=h
  exact⟨rfl,fun q v hq=>by simp at hq⟩
 |
  c::asq,i,j,as',ins',os',fz,h,hz,hk,hr=>by
  simp only[iw]at h
  simp only[lR,aw]at hk
  obtain⟨hk1,hk2⟩:=hk
  split at h
  ·rename_i f js hm
   split at h
   ·rename_i l1 f1 as1 ins2 os2 fz2 h1 h2
    cases h
    obtain⟨q1,q2⟩:=nZ ho asq h2 hz.right hk2 (fun q v hq hv=>by simpa using hr (q+1) v (by simpa using hq) (by simpa using hv))
    have e:j5 mu (.any::as1) i=.fM f js::j5 mu as1 (i+1):=by rw[j5,hm]
    rw[e]
    refine⟨by simp[q1],fun q v hq hv=>?_⟩
    cases q with
    |
     zero =>
     rw[hm]at hk1
     simp only[h1,aw]at hk1
     have e2:=uj hk1.1
     have hc:=Dt h1 hz.left (show bu M β c v by simpa using hv)
     rw[e2]at hc
     simpa using AK hc hk1.2 ho
    |succ q=>simpa using q2 q v (by simpa using hq) (by simpa using hv)
   ·cases h
  ·rename_i m hne hm
   have hmm:∀x xs,j5 mu (x::xs) i=x::j5 mu xs (i+1):=fun x xs=>by
    rw[j5,hm]
    cases m<;>first|rfl|exact absurd rfl (hne _ _)
   split at h
   ·rename_i c' obs1 os1 h1
    split at h
    ·rename_i as1 ins2 os2 fz2 h2
     cases h
     obtain⟨q1,q2⟩:=nZ ho asq h2 hz hk2 (fun q v hq hv=>by simpa using hr (q+1) v (by simpa using hq) (by simpa using hv))
     rw[hmm]
     refine⟨by simp[q1],fun q v hq hv=>?_⟩
     cases q with
     |zero=>simpa using hr 0 v (by simp) hv
     |succ q=>simpa using q2 q v (by simpa using hq) (by simpa using hv)
    ·cases h
   ·cases h
  ·rename_i hm
   have hmm:∀x xs,j5 mu (x::xs) i=x::j5 mu xs (i+1):=fun x xs=>by rw[j5,hm]
   split at h
   ·rename_i c' f1 as1 ins2 os2 fz2 h1 h2
    cases h
    obtain⟨q1,q2⟩:=nZ ho asq h2 hz.right hk2 (fun q v hq hv=>by simpa using hr (q+1) v (by simpa using hq) (by simpa using hv))
    rw[hmm]
    refine⟨by simp[q1],fun q v hq hv=>?_⟩
    cases q with
    |zero=>simpa using hr 0 v (by simp) hv
    |succ q=>simpa using q2 q v (by simpa using hq) (by simpa using hv)
   ·cases h
end
end Go.VL
namespace Go.VL
open Go Go.RowKit
section
variable {P:Program} {M:Mem} {β:Lo} {w w':World} {n:Nat} {A:jV} {s:St} {a:Act}
def gn(os:List Nat)(f:Nat->Option Ob):Nat->Option Ob:=fun o=>bif gb os o then none else f o
theorem gY{os:List Nat}{f:Nat->Option Ob}{o:Nat}{x:Ob}(h:gn os f o=some x):o∉os/\f o=some x:=by
 unfold gn at h
 cases hm:gb os o with
 |true=>rw[hm]at h;cases h
 |
  false =>
  rw[hm]at h
  refine⟨fun ho=>?_,h⟩
  have:gb os o=true:=bY.2 ⟨o,ho,Nat.beq_refl o⟩
  rw[hm]at this;cases this
theorem cW.base(g:cW n A s a w M β){os:List Nat}{L:Nat}{βc:Lo}(hsrc:∀i b,i<L->dR βc i=some b->∃o x0,o∈os/\s.ob o=some x0/\x0.live=true/\dR β o=some b)
 {r:AV} {obs:List Ob} {v:Value} {M':Mem} {β':Lo} (h:Out w M βc L r obs v w' M' β'):cW n A {s with ob:=gn os s.ob} a w' M' β:=by
 have cA:∀b,b<w.heap.size->¬(∃i,i<L/\dR βc i=some b)->w'.heap[b]?=w.heap[b]?:=fun b hb hn=>h.cA.block b hb hn
 have inA:∀b,(∃i,i<L/\dR βc i=some b)->A.w0.heap.size<=b\/A.ur b:=fun b ⟨i,hi,hb⟩=>by
  obtain⟨o,x0,_,h2,h3,h4⟩:=hsrc i b hi hb
  exact g.place o x0 b h2 h3 h4
 have un:∀o x b,s.ob o=some x->x.live=true->o∉os->dR β o=some b->¬∃i,i<L/\dR βc i=some b:=fun o x b hx hl ho hb ⟨i,hi,hb'⟩=>by
  obtain⟨o',x0,h1,h2,h3,h4⟩:=hsrc i b hi hb'
  exact g.apart o' o x0 x b (fun e=>ho (by rw[<-e];exact h1)) h2 h3 hx hl h4 hb
 refine {size:=g.size,lZ:=g.lZ,tm:=fun t=>(g.tm t).mono h.le (Lo.le.refl _),le:=g.le.trans h.le,new:=fun b k v hc=>?_,agree:=h.agree,own:=fun o x hx=>?_,place:=fun o x b hx=>?_,apart:=fun o o' x x' b hne hx hl hx'=>?_,us:=fun o hu=>?_,fix:=g.G1 fun o y hy=>⟨y,(gY hy).2⟩,cA:=?_}
 ·rcases h.new b k v hc with h1|h1|h1
  ·exact g.new b k v h1
  ·exact .inr (.inl (Nat.le_trans g.cA.size h1))
  ·exact .inr (inA b h1)
 ·obtain⟨ho,hx⟩:=gY hx
  refine(g.own o x hx).mono h.le (Lo.le.refl _) fun b hl hb=>?_
  have hlt:=(g.own o x hx).lt hl hb
  have hn:=un o x b hx hl ho hb
  refine⟨cA b hlt hn,fun k=>?_⟩
  cases e:M'.c b k with
  |none=>rfl
  |
   some u =>
   rcases h.new b k u e with h1|h1|h1
   ·rw[(g.own o x hx).Bo hl hb k]at h1;cases h1
   ·omega
   ·exact absurd h1 hn
 ·exact g.place o x b (gY hx).2
 ·exact g.apart o o' x x' b hne (gY hx).2 hl (gY hx').2
 ·obtain⟨h1,h2⟩:=g.us o hu
  refine⟨h1,?_⟩
  show gn os s.ob o=none
  unfold gn;rw[h2];cases gb os o<;>rfl
 ·refine g.cA.jW h.cA.os h.cA.tape h.cA.output h.cA.size fun b hlt hn=>cA b (cU hlt g.cA.size) fun hh=>?_
  rcases inA b hh with h1|h1
  ·omega
  ·exact hn h1
end
end Go.VL
namespace Go.VL
open Go Go.RowKit
section
variable {P:Program} {M:Mem} {β:Lo} {w w':World} {n:Nat} {A:jV} {s:St} {a:Act}
theorem cW.P4(g:cW n A s a w M β){m:Nat}{l:Loc}{x:Ob}(hm:s.ob m=none)(HT:β m=none\/β m=some l)(hfx:∀b,A.fix m=some b->l=b)(hx:lY M (co β m (some l)) w m x)
 (hpl:∀b,l.block=some b->A.w0.heap.size<=b\/A.ur b) (hap:∀b,l.block=some b->x.live=true->∀o x',s.ob o=some x'->x'.live=true->dR β o≠some b) :
 cW n A {s with ob:=co s.ob m (some x),us:=co s.us m true} a w M (co β m (some l)):=by
 have hβ:Lo.le β (co β m (some l)):=fun o q hq=>by
  by_cases ho:o=m
  ·subst ho
   rcases HT with h|h
   ·rw[h]at hq;cases hq
   ·rw[h]at hq;cases hq;exact aN _ _ _
  ·rw[a6 _ _ _ _ ho];exact hq
 have hbd:∀o b,o≠m->dR (co β m (some l)) o=some b->dR β o=some b:=fun o b ho hb=>by
  unfold dR at hb |-;rw[a6 _ _ _ _ ho]at hb;exact hb
 have hdd:dR (co β m (some l)) m=l.block:=by unfold dR;rw[aN];rfl
 have hob:∀o y,o≠m->co s.ob m (some x) o=some y->s.ob o=some y:=fun o y ho hy=>by rw[a6 _ _ _ _ ho]at hy;exact hy
 refine {size:=g.size,lZ:=g.lZ,tm:=fun t=>(g.tm t).mono (Mem.le.refl _) hβ,le:=g.le,new:=g.new,agree:=g.agree,own:=fun o y hy=>?_,place:=fun o y b hy hlv hb=>?_,apart:=?_,us:=fun o hu=>?_,fix:=fun o b hf=>?_,cA:=g.cA}
 ·by_cases ho:o=m
  ·subst ho
   have:x=y:=by simpa[aN]using hy
   subst this;exact hx
  ·have hy':=hob o y ho hy
   exact(g.own o y hy').mono (Mem.le.refl _) hβ fun b hlv hb=>⟨rfl,(g.own o y hy').Bo hlv hb⟩
 ·by_cases ho:o=m
  ·subst ho;rw[hdd]at hb;exact hpl b hb
  ·exact g.place o y b (hob o y ho hy) hlv (hbd o b ho hb)
 ·intro o o' y y' b hne hy hlv hy' hlv' hb hb'
  by_cases ho:o=m
  ·subst ho
   have:x=y:=by simpa[aN]using hy
   subst this
   rw[hdd]at hb
   exact hap b hb hlv o' y' (hob o' y' (Ne.symm hne) hy') hlv' (hbd o' b (Ne.symm hne) hb')
  ·by_cases ho':o'=m
   ·subst ho'
    have:x=y':=by simpa[aN]using hy'
    subst this
    rw[hdd]at hb'
    exact hap b hb' hlv' o y (hob o y ho hy) hlv (hbd o b ho hb)
   ·exact g.apart o o' y y' b hne (hob o y ho hy) hlv (hob o' y' ho' hy') hlv' (hbd o b ho hb) (hbd o' b ho' hb')
 ·by_cases ho:o=m
  ·subst ho
   have:({s with ob:=co s.ob o (some x),us:=co s.us o true}:St).us o=true:=aN _ _ _
   rw[this]at hu;cases hu
  ·have hu':s.us o=false:=by simpa[a6 _ _ _ _ ho]using hu
   obtain⟨q1,q2⟩:=g.us o hu'
   refine⟨by rw[a6 _ _ _ _ ho];exact q1,?_⟩
   show co s.ob m (some x) o=none
   rw[a6 _ _ _ _ ho];exact q2
 ·by_cases ho:o=m
  ·subst ho
   exact⟨aN _ _ _,fun _ _=>by rw[aN,hfx b hf]⟩
  ·obtain⟨q1,q2⟩:=g.fix o b hf
   exact⟨by rw[<-q1];exact a6 _ _ _ _ ho,fun y hy=>by rw[a6 _ _ _ _ ho];exact q2 y (hob o y ho hy)⟩
end
end Go.VL
namespace Go.VL
open Go Go.RowKit
section
variable {P:Program} {M:Mem} {β:Lo} {w w':World} {n:Nat} {A:jV} {s:St} {a:Act}
def nK(s:St)(β:Lo)(w:World)(L:Nat)(βc:Lo)(obs:List Ob)(β':Lo)(tk:List Nat):Prop :=
 ∀o x b,s.ob o=some x->x.live=true->dR β o=some b->(b<w.heap.size/\¬∃i,i<L/\dR βc i=some b)\/∃q,q∈tk/\q<obs.length/\(obs.getD q .dead).live=true/\dR β' q=some b
theorem cW.take(g:cW n A s a w' M β){L:Nat}{βc:Lo}{M0:Mem}{r:AV}{obs:List Ob}{v:Value}{β':Lo}(ho:Out w M0 βc L r obs v w' M β')(hA:∀b,(w.heap.size<=b\/∃i,i<L/\dR βc i=some b)->A.w0.heap.size<=b\/A.ur b)
 {tk:List Nat} (hb:nK s β w L βc obs β' tk) {q m:Nat} (hq:q<obs.length) (hqt:q∉tk) (hlive:(obs.getD q .dead).live=true) {l:Loc} (hl:β' q=some l) (hm:s.ob m=none) (hm0:β m=none\/β m=some l) (hfx:∀b,A.fix m=some b->l=b)
 {x:Ob} (hx:lY M (co β m (some l)) w' m x) :
 cW n A {s with ob:=co s.ob m (some x),us:=co s.us m true} a w' M (co β m (some l))/\nK {s with ob:=co s.ob m (some x),us:=co s.us m true} (co β m (some l)) w L βc obs β' (q::tk):=by
 have hblk:∀b,l.block=some b->dR β' q=some b:=fun b hb=>by unfold dR;rw[hl];exact hb
 constructor
 ·refine g.P4 hm hm0 hfx hx (fun b hlb=>hA b ?_) fun b hlb _ o x' hox hl' hbo=>?_
  ·exact ho.place q b hq hlive (hblk b hlb)
  ·rcases hb o x' b hox hl' hbo with⟨h1,h2⟩|⟨q',h1,h2,h3,h4⟩
   ·rcases ho.place q b hq hlive (hblk b hlb)with h|h
    ·omega
    ·exact h2 h
   ·exact ho.apart q q' b (fun e=>hqt (by rw[e];exact h1)) hq h2 hlive h3 (hblk b hlb) h4
 ·intro o y b hy hly hbo
  by_cases e:o=m
  ·subst e
   have:dR (co β o (some l)) o=l.block:=by unfold dR;rw[aN];rfl
   rw[this]at hbo
   exact .inr ⟨q,ai,hq,hlive,hblk b hbo⟩
  ·have hy':s.ob o=some y:=by simpa[a6 _ _ _ _ e]using hy
   have hbo':dR β o=some b:=by unfold dR at hbo |-;rw[a6 _ _ _ _ e]at hbo;exact hbo
   rcases hb o y b hy' hly hbo' with h|⟨q',h1,h2,h3,h4⟩
   ·exact .inl h
   ·exact .inr ⟨q',ak _ h1,h2,h3,h4⟩
theorem cW.tx(g:cW n A s a w' M β){L:Nat}{βc:Lo}{M0:Mem}{r:AV}{obs:List Ob}{v:Value}{β':Lo}(ho:Out w M0 βc L r obs v w' M β')(hA:∀b,(w.heap.size<=b\/∃i,i<L/\dR βc i=some b)->A.w0.heap.size<=b\/A.ur b)
 {tk:List Nat} (hb:nK s β w L βc obs β' tk) {q m:Nat} (hq:q<obs.length) (hqt:q∉tk) {sz:Nat} {es:List (List AV)} (hob:obs.getD q .dead=.vec sz es) (hm:s.us m=false) :
 ∃l,cW n A {s with ob:=co s.ob m (some (.vec sz es)),us:=co s.us m true} a w' M (co β m (some l))/\nK {s with ob:=co s.ob m (some (.vec sz es)),us:=co s.us m true} (co β m (some l)) w L βc obs β' (q::tk) /\
  ∀v,bu M β' (.vec q) v->bu M (co β m (some l)) (.vec m) v:=by
 have hown:=ho.own q hq
 rw[hob]at hown
 obtain⟨u,h1,h2,h3⟩:=hown
 obtain⟨q1,q2⟩:=g.us m hm
 obtain⟨r1,r2⟩:=cW.take g ho hA hb hq hqt (by rw[hob];rfl) h1 q2 (.inl q1) (fun b hf=>by have:=(g.fix m b hf).1;rw[hm]at this;cases this) (x:=.vec sz es) ⟨u,aN _ _ _,h2,h3⟩
 refine⟨_,r1,r2,fun v hv=>?_⟩
 cases hv with
 |vec _ _ _ sz' hov hb=>rw[h1]at hb;cases hb;exact .vec _ _ _ _ hov (aN _ _ _)
theorem cW.Cd(g:cW n A s a w' M β){L:Nat}{βc:Lo}{M0:Mem}{r:AV}{obs:List Ob}{v:Value}{β':Lo}(ho:Out w M0 βc L r obs v w' M β')(hA:∀b,(w.heap.size<=b\/∃i,i<L/\dR βc i=some b)->A.w0.heap.size<=b\/A.ur b)
 {tk:List Nat} (hb:nK s β w L βc obs β' tk) {q m:Nat} (hq:q<obs.length) (hqt:q∉tk) {cs:List AV} (hob:obs.getD q .dead=.cells cs) {ks:List LK} (hlen:cs.length=ks.length) (hk:cc ks cs 0) (hm:s.us m=false) :
 ∃l,cW n A {s with ob:=co s.ob m (some (.cells (jn ks cs 0))),us:=co s.us m true} a w' M (co β m (some l))/\∀v,bu M β' (.ref q 0) v->bu M (co β m (some l)) (.ref m 0) v:=by
 have hown:=ho.own q hq
 rw[hob]at hown
 obtain⟨b,vs,e,h1,h2,h3,h4,h5,h6⟩:=hown
 obtain⟨q1,q2⟩:=g.us m hm
 obtain⟨r1,r2⟩:=cW.take g ho hA hb hq hqt (by rw[hob];rfl) h1 q2 (.inl q1) (fun b hf=>by have:=(g.fix m b hf).1;rw[hm]at this;cases this) (x:=.cells (jn ks cs 0))
  ⟨b,vs,e,aN _ _ _,h2,by rw[di];omega,fun i hi=>by
   rw[di]at hi
   have hg:=kT ks cs 0 i hk hi
   rw[kF ks cs 0 i hi]
   rw[aW]at hg |-
   exact LK.il (kC (h4 i (by omega)) hg) hg,h5,h6⟩
 refine⟨_,r1,fun v hv=>?_⟩
 cases hv with
 |ref _ _ _ b' hb=>rw[h1]at hb;cases hb;exact .ref _ _ _ _ (aN _ _ _)
end
end Go.VL
namespace Go.VL
open Go Go.RowKit
theorem oB:∀(l r:List Nat) (f:Nat->Bool),eK f (l++r)=eK (eK f l) r
 |[],r,f=>rfl
 |o::l,r,f=>oB l r _
theorem sV:∀(os:List Nat) (f:Nat->Option Ob),cy f (pO os)=gn os f
 |[],f=>by funext o;rfl
 |
  o::os,f=>by
  show cy (co f o none) (pO os)=_
  rw[sV os]
  funext q
  unfold gn
  by_cases e:q=o
  ·subst e
   have:gb (q::os) q=true:=by simp[gb,List.any_cons,Nat.beq_refl]
   rw[this,aN];cases gb os q<;>rfl
  ·have:gb (o::os) q=gb os q:=by
    have h:aJ q o=false:=by
     cases h:aJ q o with
     |false=>rfl
     |true=>exact absurd (aD h) e
    simp[gb,List.any_cons,h]
   rw[this,a6 _ _ _ _ e]
theorem oc:∀(k nm m:Nat),m∈runN nm k↔nm<=m/\m<nm+k
 |0,nm,m=>by simp only[runN,List.not_mem_nil,false_iff];omega
 |k+1,nm,m=>by simp only[runN,aH,oc k (nm+1) m];omega
theorem uz{f:Nat->Bool}{m:Nat}(h:f m=true):co f m true=f:=by
 funext q
 by_cases e:q=m
 ·subst e;rw[aN,h]
 ·rw[a6 _ _ _ _ e]
section
variable {P:Program} {M M0:Mem} {β β' βc:Lo} {w w':World} {n L:Nat} {A:jV} {s:St} {a:Act} {r:AV} {obs:List Ob} {v:Value}
theorem fe(obs:List Ob)(j:Nat):(obs.drop j).headD .dead=obs.getD j .dead:=by
 rw[List.headD_eq_head?_getD,List.head?_drop,aa]
theorem fK{obs:List Ob}{j:Nat}(h:obs.getD j .dead≠.dead):j<obs.length:=by
 rcases Nat.lt_or_ge j obs.length with h'|h'
 ·exact h'
 ·exact absurd (by simp[aa,h']) h
theorem eX(obs:List Ob)(j:Nat):(obs.drop j).tail=obs.drop (j+1):=by rw[List.tail_drop]
theorem lr(ho:Out w M0 βc L r obs v w' M β')(hA:∀b,(w.heap.size<=b\/∃i,i<L/\dR βc i=some b)->A.w0.heap.size<=b\/A.ur b){full:List AV}{E:Nat} :
 ∀(ks:List CK) (i j nm:Nat) {s:St} {β:Lo} {tk:List Nat},cW n A s a w' M β->nK s β w L βc obs β' tk->(∀q,j<=q->q∉tk)->aK ks full i j (obs.drop j)->(∀m,nm<=m->m<E->s.us m=false)->nm+bC ks<=E ->
 ∃β2 tk',cW n A {s with ob:=cy s.ob (bI ks full i (obs.drop j) nm).2.1,us:=eK s.us (runN nm (bC ks))} a w' M β2/\nK {s with ob:=cy s.ob (bI ks full i (obs.drop j) nm).2.1,us:=eK s.us (runN nm (bC ks))} β2 w L βc obs β' tk' /\
  (∀q,q∈tk'->q∈tk\/(j<=q/\q<j+bC ks))/\Lo.le β β2/\(bI ks full i (obs.drop j) nm).2.2=(obs.drop (j+bC ks),nm+bC ks)/\(bI ks full i (obs.drop j) nm).1.length=ks.length/\full.length=i+ks.length /\
  (∀q u,q<ks.length->bu M β' (full.getD (i+q) .any) u->bu M β2 ((bI ks full i (obs.drop j) nm).1.getD q .any) u) /\
  (∀m,¬(nm<=m/\m<nm+bC ks)->cy s.ob (bI ks full i (obs.drop j) nm).2.1 m=s.ob m/\eK s.us (runN nm (bC ks)) m=s.us m/\β2 m=β m)
 |[],i,j,nm,s,β,tk,g,hb,ht,hk,hf,hE=>⟨β,tk,g,hb,fun q hq=>.inl hq,Lo.le.refl _,rfl,rfl,hk,fun q u hq=>by simp at hq,fun m _=>⟨rfl,rfl,rfl⟩⟩
 |
  .lk k::ks,i,j,nm,s,β,tk,g,hb,ht,hk,hf,hE=>by
  obtain⟨hk1,hk2⟩:=hk
  obtain⟨β2,tk',c1,c2,c3,c4,c5,c6,c7,c8,c9⟩:=lr ho hA ks (i+1) j nm g hb ht hk2 hf hE
  refine⟨β2,tk',c1,c2,c3,c4,c5,by simp[bI,c6],by simp;omega,fun q u hq hr=>?_,c9⟩
  cases q with
  |
   zero =>
   show bu M β2 ((k.cast (full.getD i .any)::_).getD 0 .any) u
   rw[bg]
   exact LK.il (kC (by simpa using hr) hk1) hk1
  |
   succ q =>
   have:=c8 q u (by simpa using hq) (by rw[show i+1+q=i+(q+1) by omega];exact hr)
   simpa[bI]using this
 |
  .vec h::ks,i,j,nm,s,β,tk,g,hb,ht,hk,hf,hE=>by
  obtain⟨hk1,hk2,hk3⟩:=hk
  rw[fe]at hk2
  rw[eX]at hk3
  have hE':nm+bC ks+1<=E:=by simp only[bC]at hE;omega
  have hj:j<obs.length:=fK (by rw[hk2];intro e;cases e)
  have hus:=hf nm (aq _) (by omega)
  obtain⟨l,g1,b1,r1⟩:=g.tx ho hA hb hj (ht j (aq _)) hk2 hus
  have hn:=(g.us nm hus).1
  have hle:Lo.le β (co β nm (some l)):=fun o q hq=>by
   by_cases e:o=nm
   ·subst e;rw[hn]at hq;cases hq
   ·rw[a6 _ _ _ _ e];exact hq
  obtain⟨β2,tk',c1,c2,c3,c4,c5,c6,c7,c8,c9⟩:=lr ho hA ks (i+1) (j+1) (nm+1) (E:=E) g1 b1 (fun q hq hq'=>by
   rcases aH.1 hq' with rfl|h
   ·omega
   ·exact ht q (by omega) h) hk3 (fun m h1 h2=>by
    show co s.us nm true m=false
    rw[a6 _ _ _ _ (by omega)];exact hf m (by omega) h2) (by omega)
  have eb:bI (.vec h::ks) full i (obs.drop j) nm=(.vec nm::(bI ks full (i+1) (obs.drop (j+1)) (nm+1)).1,(nm,some (.vec h ((obs.getD j .dead).es)))::(bI ks full (i+1) (obs.drop (j+1)) (nm+1)).2.1,(bI ks full (i+1) (obs.drop (j+1)) (nm+1)).2.2):=by
   rw[<-fe,<-eX];rfl
  rw[eb]
  refine⟨β2,tk',c1,c2,fun q hq=>?_,fun o q hq=>c4 o q (hle o q hq),?_,by simp[c6],by simp;omega,fun q u hq hr=>?_,fun m hm=>?_⟩
  ·rcases c3 q hq with h|h
   ·rcases aH.1 h with rfl|h
    ·exact .inr ⟨aq _,by simp[bC]⟩
    ·exact .inl h
   ·exact .inr ⟨by omega,by simp only[bC];omega⟩
  ·rw[c5];simp only[bC]
   rw[show j+1+bC ks=j+(bC ks+1) by omega,show nm+1+bC ks=nm+(bC ks+1) by omega]
  ·cases q with
   |
    zero =>
    rw[bg]
    rw[bU,hk1]at hr
    exact(r1 u hr).mono (Mem.le.refl _) c4
   |
    succ q =>
    have:=c8 q u (by simpa using hq) (by rw[show i+1+q=i+(q+1) by omega];exact hr)
    simpa using this
  ·simp only[bC]at hm
   obtain⟨d1,d2,d3⟩:=c9 m (by omega)
   have hne:m≠nm:=by omega
   refine⟨?_,?_,?_⟩
   ·show cy (co s.ob nm _) _ m=_
    refine d1.trans ?_
    exact a6 _ _ _ _ hne
   ·show eK (co s.us nm true) _ m=_
    refine d2.trans ?_
    exact a6 _ _ _ _ hne
   ·rw[d3,a6 _ _ _ _ hne]
def fH:List MK->Nat
 |[]=>0
 | .vec::ms=>fH ms+1
 | .cA _ _::ms=>fH ms+1
 | .obj ks::ms=>fH ms+1+bC ks
def mE:List MK->Nat
 |[]=>0
 | .vec::ms=>mE ms
 | .cA _ _::ms=>mE ms
 | .obj ks::ms=>bC ks+mE ms
theorem jS:∀(ms:List MK) (obs:List Ob),dY ms obs=true->obs.length=fH ms
 |[],[],_=>rfl
 |[],_::_,h=>by cases h
 |
  .vec::ms,obs,h=>by
  cases obs with
  |nil=>cases h
  |cons x obs=>cases x<;>first|(cases h;done)|simp[fH,jS ms obs h]
 |
  .cA g ks::ms,obs,h=>by
  cases obs with
  |nil=>cases h
  |
   cons x obs =>
   cases x<;>first|(cases h;done)|skip
   simp only[dY,aw]at h
   simp[fH,jS ms obs h.2]
 |
  .obj ks::ms,obs,h=>by
  cases obs with
  |nil=>cases h
  |
   cons x obs =>
   cases x<;>first|(cases h;done)|skip
   simp only[dY,aw]at h
   have:=jS ms _ h.2
   have h1:=aP h.1.1
   simp only[cd]at this
   simp only[au,fH];omega
theorem lq:∀(ms:List MK) (obs:List Ob) (j:Nat),dY ms obs=true->∀q cs,q<obs.length->obs.getD q .dead=.cells cs->j+q∈qa ms j
 |[],[],j,_,q,cs,hq,_=>by simp at hq
 |[],_::_,_,h,_,_,_,_=>by cases h
 |
  .vec::ms,obs,j,h,q,cs,hq,hc=>by
  cases obs with
  |nil=>cases h
  |
   cons x obs =>
   cases x<;>first|(cases h;done)|skip
   cases q with
   |zero=>cases hc
   |
    succ q =>
    have:=lq ms obs (j+1) h q cs (by simpa using hq) (by simpa using hc)
    rw[show j+(q+1)=j+1+q by omega];exact this
 |
  .cA g ks::ms,obs,j,h,q,cs,hq,hc=>by
  cases obs with
  |nil=>cases h
  |
   cons x obs =>
   cases x<;>first|(cases h;done)|skip
   simp only[dY,aw]at h
   cases q with
   |zero=>cases hc
   |
    succ q =>
    have:=lq ms obs (j+1) h.2 q cs (by simpa using hq) (by simpa using hc)
    rw[show j+(q+1)=j+1+q by omega];exact ak _ this
 |
  .obj ks::ms,obs,j,h,q,cs,hq,hc=>by
  cases obs with
  |nil=>cases h
  |
   cons x obs =>
   cases x<;>first|(cases h;done)|skip
   simp only[dY,aw]at h
   obtain⟨⟨h1,h2⟩,h3⟩:=h
   have h1:=aP h1
   cases q with
   |zero=>exact ai
   |
    succ q =>
    have hq':q<obs.length:=by simpa using hq
    have hc':obs.getD q .dead=.cells cs:=by simpa using hc
    by_cases hlt:q<bC ks
    ·exfalso
     rw[bL]at h2
     have hm:obs.getD q .dead∈obs.take (bC ks):=by
      have:obs.getD q .dead=obs[q]:=by simp[aa,hq']
      rw[this]
      exact List.mem_take_iff_getElem.2 ⟨q,by omega,rfl⟩
     have:=h2 _ hm
     rw[hc']at this;cases this
    ·have:=lq ms _ (j+1+bC ks) h3 (q-bC ks) cs (by simp only[cd];omega) (by
      rw[<-hc']
      simp[aa,cH,show bC ks+(q-bC ks)=q by omega])
     rw[show j+(q+1)=j+1+bC ks+(q-bC ks) by omega]
     exact ak _ this
theorem iX:∀(ms:List MK) (obs:List Ob),dY ms obs=true->∀q,q<obs.length->(obs.getD q .dead).live=true
 |[],[],_,q,hq=>by simp at hq
 |[],_::_,h,_,_=>by cases h
 |
  .vec::ms,obs,h,q,hq=>by
  cases obs with
  |nil=>cases h
  |
   cons x obs =>
   cases x<;>first|(cases h;done)|skip
   cases q with
   |zero=>rfl
   |succ q=>simpa using iX ms obs h q (by simpa using hq)
 |
  .cA g ks::ms,obs,h,q,hq=>by
  cases obs with
  |nil=>cases h
  |
   cons x obs =>
   cases x<;>first|(cases h;done)|skip
   simp only[dY,aw]at h
   cases q with
   |zero=>rfl
   |succ q=>simpa using iX ms obs h.2 q (by simpa using hq)
 |
  .obj ks::ms,obs,h,q,hq=>by
  cases obs with
  |nil=>cases h
  |
   cons x obs =>
   cases x<;>first|(cases h;done)|skip
   simp only[dY,aw]at h
   obtain⟨⟨h1,h2⟩,h3⟩:=h
   cases q with
   |zero=>rfl
   |
    succ q =>
    have hq':q<obs.length:=by simpa using hq
    show (obs.getD q .dead).live=true
    by_cases hlt:q<bC ks
    ·rw[bL]at h2
     have e:obs.getD q .dead=obs[q]:=by simp[aa,hq']
     have:=h2 obs[q] (List.mem_take_iff_getElem.2 ⟨q,by omega,rfl⟩)
     rw[e]
     cases hx:obs[q]<;>rw[hx]at this<;>first|(cases this;done)|rfl
    ·have:=iX ms _ h3 (q-bC ks) (by simp only[cd];omega)
     rw[<-this]
     simp[aa,cH,show bC ks+(q-bC ks)=q by omega]
theorem qn:∀(ms:List MK) (j q:Nat),q∈qa ms j->j<=q/\q<j+fH ms
 |[],j,q,h=>by cases h
 |
  .vec::ms,j,q,h=>by
  have:=qn ms _ _ h
  simp only[fH];omega
 |
  .cA g ks::ms,j,q,h=>by
  simp only[fH]
  rcases aH.1 h with rfl|h
  ·omega
  ·have:=qn ms _ _ h
   omega
 |
  .obj ks::ms,j,q,h=>by
  simp only[fH]
  rcases aH.1 h with rfl|h
  ·omega
  ·have:=qn ms _ _ h
   omega
def HP(A:jV)(s:St)(β βc:Lo)(fx:Nat->Prop)(os:List Nat)(j:Nat):Prop :=
 ∀q b,q<os.length->fx (j+q)->βc (j+q)=some b->s.ob (os.getD q 0)=none/\s.us (os.getD q 0)=true/\β (os.getD q 0)=some b/\∀b',A.fix (os.getD q 0)=some b'->b'=b
theorem HP.drop{fx:Nat->Prop}{os:List Nat}{j:Nat}(h:HP A s β βc fx os j)(k:Nat):HP A s β βc fx (os.drop k) (j+k):=fun q b hq hx hb=>by
 simp only[cd]at hq
 have:=h (k+q) b (by omega) (by rw[show j+(k+q)=j+k+q by omega];exact hx) (by rw[show j+(k+q)=j+k+q by omega];exact hb)
 have e:(os.drop k).getD q 0=os.getD (k+q) 0:=by simp[aa,cH]
 rw[e];exact this
theorem np:∀(k:Nat) {os:List Nat},nodup os=true->nodup (os.drop k)=true
 |0,os,h=>h
 |k+1,[],h=>by simpa using h
 |k+1,o::os,h=>by simpa using np k (nodup_cons h).2
theorem lJ(ho:Out w M0 βc L r obs v w' M β')(hA:∀b,(w.heap.size<=b\/∃i,i<L/\dR βc i=some b)->A.w0.heap.size<=b\/A.ur b){ins:List Ob}(hL:ins.length=L)(hin:∀j,j<L->lY M0 βc w j (ins.getD j .dead)){E:Nat}{fx:Nat->Prop} :
 ∀(ms:List MK) (os:List Nat) (j nm:Nat) {s:St} {β:Lo} {tk:List Nat},cW n A s a w' M β->nK s β w L βc obs β' tk->(∀q,j<=q->q∉tk)->dY ms (ins.drop j)=true->os.length=fH ms->nodup os=true->HP A s β βc fx os j->(∀q,q∈qa ms j->fx q) ->
  gD (dC ms os (obs.drop j) j nm).1->(∀m,nm<=m->m<E->s.us m=false)->nm+mE ms<=E ->
 ∃β2 tk',cW n A {s with ob:=cy s.ob (dC ms os (obs.drop j) j nm).2.1,us:=eK s.us (ub ms nm)} a w' M β2/\nK {s with ob:=cy s.ob (dC ms os (obs.drop j) j nm).2.1,us:=eK s.us (ub ms nm)} β2 w L βc obs β' tk' /\
  (∀q,q∈tk'->q∈tk\/q<j+fH ms)/\(dC ms os (obs.drop j) j nm).2.2=(obs.drop (j+fH ms),nm+mE ms)/\(∀m,nm+mE ms<=m->m<E->eK s.us (ub ms nm) m=false)
 |[],os,j,nm,s,β,tk,g,hb,ht,hal,hol,hnd,hp,hfm,hk,hf,hE=>⟨β,tk,g,hb,fun q hq=>.inl hq,rfl,fun m h1 h2=>hf m h1 h2⟩
 |
  .vec::ms,os,j,nm,s,β,tk,g,hb,ht,hal,hol,hnd,hp,hfm,hk,hf,hE=>by
  have hal':dY ms (ins.drop (j+1))=true:=by
   rw[<-eX]
   cases e:ins.drop j with
   |nil=>rw[e]at hal;cases hal
   |cons x xs=>rw[e]at hal;cases x<;>first|(cases hal;done)|exact hal
  have et:os.tail=os.drop 1:=by rw[List.drop_one]
  have eb:dC (.vec::ms) os (obs.drop j) j nm=dC ms (os.drop 1) (obs.drop (j+1)) (j+1) nm:=by
   rw[<-eX,<-et];rfl
  rw[eb]at hk |-
  obtain⟨β2,tk',c1,c2,c3,c4,c5⟩:=lJ ho hA hL hin ms (os.drop 1) (j+1) nm g hb (fun q hq=>ht q (by omega)) hal' (by simp[hol,fH]) (np 1 hnd) (hp.drop 1) hfm hk hf hE
  refine⟨β2,tk',c1,c2,fun q hq=>?_,by rw[c4];simp only[fH];rw[show j+1+fH ms=j+(fH ms+1) by omega];rfl,c5⟩
  rcases c3 q hq with h|h
  ·exact .inl h
  ·exact .inr (by simp only[fH];omega)
 |
  .cA gg ks::ms,os,j,nm,s,β,tk,g,hb,ht,hal,hol,hnd,hp,hfm,hk,hf,hE=>by
  have hins:∃es0,ins.getD j .dead=.vec (lL ks) es0/\j<L/\dY ms (ins.drop (j+1))=true:=by
   cases e:ins.drop j with
   |nil=>rw[e]at hal;cases hal
   |
    cons x xs =>
    rw[e]at hal
    cases x<;>first|(cases hal;done)|skip
    rename_i z es0
    simp only[dY,aw]at hal
    have hz:=aD hal.1
    have e1:ins.getD j .dead=.vec z es0:=by rw[<-fe,e];rfl
    have e2:xs=ins.drop (j+1):=by rw[<-eX,e];rfl
    exact⟨es0,by rw[e1,hz],by rw[<-hL];exact fK (by rw[e1];intro h;cases h),by rw[<-e2];exact hal.2⟩
  obtain⟨es0,i1,i2,hal'⟩:=hins
  have hown0:=hin j i2
  rw[i1]at hown0
  obtain⟨v0,q0,_⟩:=hown0
  simp only[fH]at hol
  cases os with
  |nil=>simp only[aG]at hol;omega
  |
   cons p os =>
   have eb:dC (.cA gg ks::ms) (p::os) (obs.drop j) j nm=((obs.getD j .dead=.l8 (lL ks) (obs.getD j .dead).es)::(dC ms os (obs.drop (j+1)) (j+1) nm).1,(p,some (.vec (lL ks) (obs.getD j .dead).es))::(dC ms os (obs.drop (j+1)) (j+1) nm).2.1,(dC ms os (obs.drop (j+1)) (j+1) nm).2.2):=by
    rw[<-fe,<-eX];rfl
   rw[eb]at hk |-
   obtain⟨hk1,hk3⟩:=hk
   have hj:j<obs.length:=fK (by rw[hk1];intro e;cases e)
   generalize hes:(obs.getD j .dead).es=es at *
   obtain⟨p1,p2,p3,p4⟩:=hp 0 _ (by simp) (hfm _ ai) (by rw[bU];exact q0)
   simp only[bg]at p1 p2 p3 p4
   have hsame:=ho.w9 j _ _ _ i2 q0 hk1
   have hown:=ho.own j hj
   rw[hk1]at hown
   obtain⟨u,o1,o2,o3⟩:=hown
   rw[hsame]at o1;cases o1
   have hupd:co β p (some (.vec v0 (lL ks)))=β:=by
    funext q
    by_cases e:q=p
    ·subst e;rw[aN,p3]
    ·rw[a6 _ _ _ _ e]
   obtain⟨g2,b2⟩:=g.take ho hA hb hj (ht j (aq _)) (by rw[hk1];rfl) hsame (m:=p) p1 (.inr p3) (fun b' hb'=>(p4 b' hb').symm) (x:=.vec (lL ks) es) ⟨_,aN _ _ _,o2,o3⟩
   rw[hupd]at g2 b2
   have hus:co s.us p true=s.us:=uz p2
   simp only[hus]at g2 b2
   obtain⟨n1,n2⟩:=nodup_cons hnd
   obtain⟨β2,tk',e1,e2,e3,e4,e5⟩:=lJ ho hA hL hin ms os (j+1) nm g2 b2 (fun q hq hq'=>by
    rcases aH.1 hq' with rfl|h
    ·omega
    ·exact ht q (by omega) h) hal' (by simp at hol;omega) n2 (fun q b hq hx hb=>by
    have hd:=(hp.drop 1) q b (by simpa using hq) hx hb
    have eo:((p::os).drop 1).getD q 0=os.getD q 0:=rfl
    rw[eo]at hd
    have hxp:os.getD q 0≠p:=fun e=>n1 (by
     rw[<-e]
     have:os.getD q 0=os[q]:=by simp[aa,hq]
     rw[this];exact bE _)
    obtain⟨x1,x2,x3,x4⟩:=hd
    refine⟨?_,x2,x3,x4⟩
    show co s.ob p _ _=none
    rw[a6 _ _ _ _ hxp];exact x1) (fun q hq=>hfm q (ak _ hq)) hk3 hf hE
   refine⟨β2,tk',e1,e2,fun q hq=>?_,by rw[e4];simp only[fH];rw[show j+1+fH ms=j+(fH ms+1) by omega];rfl,e5⟩
   rcases e3 q hq with h|h
   ·rcases aH.1 h with rfl|h
    ·exact .inr (by simp only[fH];omega)
    ·exact .inl h
   ·exact .inr (by simp only[fH];omega)
 |
  .obj ks::ms,os,j,nm,s,β,tk,g,hb,ht,hal,hol,hnd,hp,hfm,hk,hf,hE=>by
  have hins:∃cs,ins.getD j .dead=.cells cs/\j<L/\dY ms (ins.drop (j+1+bC ks))=true:=by
   cases e:ins.drop j with
   |nil=>rw[e]at hal;cases hal
   |
    cons x xs =>
    rw[e]at hal
    cases x<;>first|(cases hal;done)|skip
    rename_i cs
    simp only[dY,aw]at hal
    have e1:ins.getD j .dead=.cells cs:=by rw[<-fe,e];rfl
    refine⟨cs,e1,by rw[<-hL];exact fK (by rw[e1];intro h;cases h),?_⟩
    have e2:xs=ins.drop (j+1):=by rw[<-eX,e];rfl
    have:=hal.2
    rw[e2,List.drop_drop]at this
    exact this
  obtain⟨cs0,i1,i2,hal'⟩:=hins
  have hown0:=hin j i2
  rw[i1]at hown0
  obtain⟨b0,_,_,q0,_⟩:=hown0
  simp only[fH]at hol
  cases os with
  |nil=>simp only[aG]at hol;omega
  |
   cons p os =>
   have eb:dC (.obj ks::ms) (p::os) (obs.drop j) j nm =
    ((
     (obs.drop j).headD .dead=.cells ((obs.drop j).headD .dead).cs)::aK ks ((obs.drop j).headD .dead).cs 0 (j+1) (obs.drop j).tail::(dC ms ((p::os).drop (bC ks+1)) (bI ks ((obs.drop j).headD .dead).cs 0 (obs.drop j).tail nm).2.2.1 (j+1+bC ks) (bI ks ((obs.drop j).headD .dead).cs 0 (obs.drop j).tail nm).2.2.2).1,
     (bI ks ((obs.drop j).headD .dead).cs 0 (obs.drop j).tail nm).2.1++(p,some (.cells (bI ks ((obs.drop j).headD .dead).cs 0 (obs.drop j).tail nm).1))::(dC ms ((p::os).drop (bC ks+1)) (bI ks ((obs.drop j).headD .dead).cs 0 (obs.drop j).tail nm).2.2.1 (j+1+bC ks) (bI ks ((obs.drop j).headD .dead).cs 0 (obs.drop j).tail nm).2.2.2).2.1,
     (dC ms ((p::os).drop (bC ks+1)) (bI ks ((obs.drop j).headD .dead).cs 0 (obs.drop j).tail nm).2.2.1 (j+1+bC ks) (bI ks ((obs.drop j).headD .dead).cs 0 (obs.drop j).tail nm).2.2.2).2.2):=rfl
   rw[fe,eX]at eb
   rw[eb]at hk |-
   obtain⟨hk1,hk2,hk3⟩:=hk
   have hj:j<obs.length:=fK (by rw[hk1];intro e;cases e)
   generalize hfull:(obs.getD j .dead).cs=full at *
   have hcE:nm+bC ks+mE ms<=E:=by simp only[mE]at hE;omega
   obtain⟨β1,tk1,c1,c2,c3,c4,c5,c6,c7,c8,c9⟩:=lr ho hA (E:=E) ks 0 (j+1) nm g hb (fun q hq=>ht q (by omega)) hk2 hf (by omega)
   rw[c5]at hk3 |-
   simp only at hk3 |-
   obtain⟨p1,p2,p3,p4⟩:=hp 0 _ (by simp) (hfm _ ai) (by rw[bU];exact q0)
   simp only[bg]at p1 p2 p3 p4
   have hpn:¬(nm<=p/\p<nm+bC ks):=fun h=>by have:=hf p h.1 (by omega);rw[p2]at this;cases this
   obtain⟨d1,d2,d3⟩:=c9 p hpn
   have hsame:=ho.same j b0 i2 q0
   have hown:=ho.own j hj
   rw[hk1]at hown
   obtain⟨b,vs,e,o1,o2,o3,o4,o5,o6⟩:=hown
   rw[hsame]at o1;cases o1
   have hβp:β1 p=some (.cells b0):=by rw[d3];exact p3
   have hupd:co β1 p (some (.cells b0))=β1:=by
    funext q
    by_cases e:q=p
    ·subst e;rw[aN,hβp]
    ·rw[a6 _ _ _ _ e]
   have o3':vs.size=full.length:=o3
   obtain⟨g2,b2⟩:=c1.take ho hA c2 hj (fun h=>by
    rcases c3 j h with h|h
    ·exact ht j (aq _) h
    ·omega) (by rw[hk1];rfl) hsame (m:=p) (by exact d1.trans p1) (.inr hβp) (fun b' hb'=>(p4 b' hb').symm)
    (x:=.cells (bI ks full 0 (obs.drop (j+1)) nm).1)
    ⟨b0,vs,e,aN _ _ _,o2,by rw[o3',c6,c7];omega,fun i hi=>by
     rw[hupd]
     have:=o4 i (by
      rw[c6]at hi;have:i<full.length:=by omega
      exact this)
     exact c8 i _ (by omega) (by rw[aW];exact this),o5,o6⟩
   rw[hupd]at g2 b2
   have hus:co (eK s.us (runN nm (bC ks))) p true=eK s.us (runN nm (bC ks)):=uz (d2.trans p2)
   simp only[hus]at g2 b2
   have hn2:=nodup_cons hnd
   obtain⟨β2,tk',e1,e2,e3,e4,e5⟩:=lJ ho hA hL hin ms ((p::os).drop (bC ks+1)) (j+1+bC ks) (nm+bC ks) g2 b2 (fun q hq hq'=>by
    rcases aH.1 hq' with rfl|h
    ·omega
    ·rcases c3 q h with h|h
     ·exact ht q (by omega) h
     ·omega) hal' (by simp at hol |-;omega) (np _ hnd) (fun q b hq hx hb=>by
    have hd:=(hp.drop (bC ks+1)) q b hq (by rw[show j+(bC ks+1)+q=j+1+bC ks+q by omega];exact hx) (by rw[show j+(bC ks+1)+q=j+1+bC ks+q by omega];exact hb)
    generalize hx:((p::os).drop (bC ks+1)).getD q 0=x at hd |-
    have hxp:x≠p:=fun e=>by
     subst e
     apply hn2.1
     rw[<-hx]
     simp only[List.drop_succ_cons,cd,au]at hq |-
     have:(os.drop (bC ks)).getD q 0=os[bC ks+q]'(by omega):=by simp[aa,cH,show bC ks+q<os.length by omega]
     rw[this];exact bE _
    obtain⟨x1,x2,x3,x4⟩:=hd
    have hxn:¬(nm<=x/\x<nm+bC ks):=fun h=>by have:=hf x h.1 (by omega);rw[x2]at this;cases this
    obtain⟨y1,y2,y3⟩:=c9 x hxn
    refine⟨?_,y2.trans x2,by rw[y3];exact x3,x4⟩
    show co _ p _ x=none
    rw[a6 _ _ _ _ hxp];exact y1.trans x1) (fun q hq=>hfm q (ak _ hq)) hk3 (fun m h1 h2=>by
    obtain⟨_,y2,_⟩:=c9 m (by omega)
    exact y2.trans (hf m (by omega) h2)) (by omega)
   have eob:cy s.ob ((bI ks full 0 (obs.drop (j+1)) nm).2.1++(p,some (.cells (bI ks full 0 (obs.drop (j+1)) nm).1))::(dC ms ((p::os).drop (bC ks+1)) (obs.drop (j+1+bC ks)) (j+1+bC ks) (nm+bC ks)).2.1) =
    cy (co (cy s.ob (bI ks full 0 (obs.drop (j+1)) nm).2.1) p (some (.cells (bI ks full 0 (obs.drop (j+1)) nm).1))) (dC ms ((p::os).drop (bC ks+1)) (obs.drop (j+1+bC ks)) (j+1+bC ks) (nm+bC ks)).2.1:=by rw[mg];rfl
   have eus:eK s.us (ub (.obj ks::ms) nm)=eK (eK s.us (runN nm (bC ks))) (ub ms (nm+bC ks)):=oB _ _ _
   rw[eob,eus]
   refine⟨β2,tk',e1,e2,fun q hq=>?_,?_,fun m h1 h2=>e5 m (by simp only[mE]at h1;omega) h2⟩
   ·rcases e3 q hq with h|h
    ·rcases aH.1 h with rfl|h
     ·exact .inr (by simp only[fH];omega)
     ·rcases c3 q h with h|h
      ·exact .inl h
      ·exact .inr (by simp only[fH];omega)
    ·exact .inr (by simp only[fH];omega)
   ·rw[e4];simp only[fH,mE]
    rw[show j+1+bC ks+fH ms=j+(fH ms+1+bC ks) by omega,show nm+bC ks+mE ms=nm+(bC ks+mE ms) by omega]
end
end Go.VL
namespace Go.VL
open Go Go.RowKit
section
variable {P:Program} {M M0:Mem} {β β' βc:Lo} {w w':World} {n L:Nat} {A:jV} {s:St} {a:Act} {r:AV} {obs:List Ob} {v:Value}
theorem CF(g:cW n A s a w M β){m:Nat}(h:s.us m=false)(l:Loc):Lo.le β (co β m (some l)):=fun o q hq=>by
 by_cases e:o=m
 ·subst e;rw[(g.us o h).1]at hq;cases hq
 ·rw[a6 _ _ _ _ e];exact hq
theorem dD:∀(ks:List CK) (cs:List AV) (i:Nat) (obs:List Ob) (nm:Nat),(bI ks cs i obs nm).2.1.map (·.1)=runN nm (bC ks)/\(bI ks cs i obs nm).2.2.2=nm+bC ks
 |[],cs,i,obs,nm=>⟨rfl,rfl⟩
 | .lk k::ks,cs,i,obs,nm=>dD ks cs (i+1) obs nm
 |
  .vec h::ks,cs,i,obs,nm=>by
  obtain⟨h1,h2⟩:=dD ks cs (i+1) obs.tail (nm+1)
  refine⟨?_,?_⟩
  ·show nm::(bI ks cs (i+1) obs.tail (nm+1)).2.1.map (·.1)=_
   rw[h1];rfl
  ·show (bI ks cs (i+1) obs.tail (nm+1)).2.2.2=_
   rw[h2];simp only[bC];omega
theorem lH:∀(ks:List CK) (cs:List AV) (i:Nat) (obs:List Ob) (nm:Nat),(bI ks cs i obs nm).2.2=(obs.drop (bC ks),nm+bC ks)
 |[],cs,i,obs,nm=>rfl
 | .lk k::ks,cs,i,obs,nm=>lH ks cs (i+1) obs nm
 |
  .vec h::ks,cs,i,obs,nm=>by
  show (bI ks cs (i+1) obs.tail (nm+1)).2.2=_
  rw[lH ks cs (i+1) obs.tail (nm+1)]
  simp only[bC]
  rw[<-List.drop_one,List.drop_drop,show 1+bC ks=bC ks+1 by omega,show nm+1+bC ks=nm+(bC ks+1) by omega]
theorem nY{T:eC}{own:List Nat}{oa:List CK}:∀(ts:List Nat) (i j nm:Nat) (o:List Ob) (m:Nat),m∈(eg T own oa r ts i j o nm).2.2.map (·.1)->nm<=m
 |[],i,j,nm,o,m,hm=>by simp[eg]at hm
 |
  t::ts,i,j,nm,o,m,hm=>by
  simp only[eg]at hm
  cases ho:own.any (aJ i)with
  |
   true =>
   rw[ho]at hm
   cases ha:(T t).agg with
   |
    true =>
    rw[ha]at hm
    simp only[cond_true,List.map_append,aM,lH]at hm
    rw[(dD _ _ _ _ _).1,oc]at hm
    rcases hm with hm|hm
    ·exact hm.1
    ·have:=nY _ _ _ _ _ _ hm;omega
   |
    false =>
    rw[ha]at hm
    simp only[cond_true,cond_false,bp,aH]at hm
    rcases hm with rfl|hm
    ·exact aq _
    ·exact Nat.le_of_succ_le (nY _ _ _ _ _ _ hm)
  |false=>rw[ho]at hm;exact nY _ _ _ _ _ _ hm
theorem uC{oa:List CK}(ho:Out w M0 βc L r obs v w' M β')(hA:∀b,(w.heap.size<=b\/∃i,i<L/\dR βc i=some b)->A.w0.heap.size<=b\/A.ur b)(x:AV)(j nm:Nat){s:St}{β:Lo}{tk:List Nat}(g:cW n A s a w' M β)(hb:nK s β w L βc obs β' tk)(ht:∀q,j<=q->q∉tk)
 (hp:x=.agg x.cs/\aK oa x.cs 0 j (obs.drop j)) (hf:∀m,m∈(bI oa x.cs 0 (obs.drop j) nm).2.1.map (·.1)->s.us m=false) :
 ∃β2 tk',cW n A {s with ob:=cy s.ob (bI oa x.cs 0 (obs.drop j) nm).2.1,us:=eK s.us ((bI oa x.cs 0 (obs.drop j) nm).2.1.map (·.1))} a w' M β2/\nK {s with ob:=cy s.ob (bI oa x.cs 0 (obs.drop j) nm).2.1,us:=eK s.us ((bI oa x.cs 0 (obs.drop j) nm).2.1.map (·.1))} β2 w L βc obs β' tk' /\
  (∀q,q∈tk'->q∈tk\/(j<=q/\q<j+bC oa))/\Lo.le β β2/\(∀u,bu M β' x u->bu M β2 (.agg (bI oa x.cs 0 (obs.drop j) nm).1) u)/\∀m,nm+bC oa<=m->eK s.us ((bI oa x.cs 0 (obs.drop j) nm).2.1.map (·.1)) m=s.us m:=by
 rw[(dD _ _ _ _ _).1]at hf |-
 obtain⟨β2,tk',c1,c2,c3,c4,c5,c6,c7,c8,c9⟩:=lr ho hA (E:=nm+bC oa) oa 0 j nm g hb ht hp.2 (fun m h1 h2=>hf m ((oc _ _ _).2 ⟨h1,h2⟩)) (aq _)
 refine⟨β2,tk',c1,c2,c3,c4,fun u hu=>?_,fun m hm=>(c9 m (by omega)).2.1⟩
 rw[hp.1]at hu
 obtain⟨us,rfl,hl,hr,hone⟩:=gv hu
 refine .agg _ _ _ (by omega) (fun i hi=>hone i (by omega)) fun i hi=>?_
 have:=c8 i (us.getD i undef) (by omega) (by rw[aW];exact hr i (by omega))
 exact this
theorem mP{T:eC}{own:List Nat}{oa:List CK}(ho:Out w M0 βc L r obs v w' M β')(hA:∀b,(w.heap.size<=b\/∃i,i<L/\dR βc i=some b)->A.w0.heap.size<=b\/A.ur b){vs:List Value}{E:Nat} :
 ∀(ts:List Nat) (i j nm:Nat) {s:St} {β:Lo} {tk:List Nat},cW n A s a w' M β->nK s β w L βc obs β' tk->(∀q,j<=q->q∉tk)->gD (eg T own oa r ts i j (obs.drop j) nm).1->(∀q,q<ts.length->bu M β' (r.comp (i+q)) (vs.getD (i+q) undef)) ->
  (∀m,m∈(eg T own oa r ts i j (obs.drop j) nm).2.2.map (·.1)->s.us m=false) ->
 ∃β2,cW n A {s with ob:=cy s.ob (eg T own oa r ts i j (obs.drop j) nm).2.2,us:=eK s.us ((eg T own oa r ts i j (obs.drop j) nm).2.2.map (·.1))} a w' M β2/\Lo.le β β2/\(eg T own oa r ts i j (obs.drop j) nm).2.1.length=ts.length /\
  ∀q,q<ts.length->bu M β2 ((eg T own oa r ts i j (obs.drop j) nm).2.1.getD q .any) (vs.getD (i+q) undef)
 |[],i,j,nm,s,β,tk,g,hb,ht,hp,hr,hf=>⟨β,g,Lo.le.refl _,rfl,fun q hq=>by simp at hq⟩
 |
  t::ts,i,j,nm,s,β,tk,g,hb,ht,hp,hr,hf=>by
  have hr':∀q,q<ts.length->bu M β' (r.comp (i+1+q)) (vs.getD (i+1+q) undef):=fun q hq=>by
   have:=hr (q+1) (by simpa using hq)
   rw[show i+1+q=i+(q+1) by omega];exact this
  cases ho':own.any (aJ i)with
  |true =>
   cases hag:(T t).agg with
   |true =>
    have eb:eg T own oa r (t::ts) i j (obs.drop j) nm=((r.comp i=.agg (r.comp i).cs/\aK oa (r.comp i).cs 0 j (obs.drop j))::(eg T own oa r ts (i+1) (j+bC oa) (obs.drop (j+bC oa)) (nm+bC oa)).1,.agg (bI oa (r.comp i).cs 0 (obs.drop j) nm).1::(eg T own oa r ts (i+1) (j+bC oa) (obs.drop (j+bC oa)) (nm+bC oa)).2.1,(bI oa (r.comp i).cs 0 (obs.drop j) nm).2.1++(eg T own oa r ts (i+1) (j+bC oa) (obs.drop (j+bC oa)) (nm+bC oa)).2.2):=by
     simp only[eg,ho',hag,cond_true,lH,List.drop_drop]
    rw[eb]at hp hf |-
    obtain⟨hp1,hp3⟩:=hp
    simp only[List.map_append,aM]at hf
    obtain⟨β1,tk',g1,b1,t1,hle,r1,hu⟩:=uC ho hA (r.comp i) j nm g hb ht hp1 (fun m hm=>hf m (.inl hm))
    obtain⟨β2,c1,c2,c3,c4⟩:=mP ho hA (E:=E) ts (i+1) (j+bC oa) (nm+bC oa) g1 b1 (fun q hq hq'=>by
     rcases t1 q hq' with h|h
     ·exact ht q (by omega) h
     ·omega) hp3 hr' (fun m hm=>(hu m (nY _ _ _ _ _ _ hm)).trans (hf m (.inr hm)))
    refine⟨β2,?_,fun o q hq=>c2 o q (hle o q hq),by simp[c3],fun q hq=>?_⟩
    ·simp only[mg,List.map_append,oB];exact c1
    ·cases q with
     |zero=>simpa using(r1 _ (hr 0 (by simp))).mono (Mem.le.refl _) c2
     |
      succ q =>
      have:=c4 q (by simpa using hq)
      rw[show i+(q+1)=i+1+q by omega]
      simpa using this
   |false =>
    have eb:eg T own oa r (t::ts) i j (obs.drop j) nm=((r.comp i=.vec j/\obs.getD j .dead=.vec (qc T t) (obs.getD j .dead).es)::(eg T own oa r ts (i+1) (j+1) (obs.drop (j+1)) (nm+1)).1,.vec nm::(eg T own oa r ts (i+1) (j+1) (obs.drop (j+1)) (nm+1)).2.1,(nm,some (.vec (qc T t) (obs.getD j .dead).es))::(eg T own oa r ts (i+1) (j+1) (obs.drop (j+1)) (nm+1)).2.2):=by
     rw[<-fe,<-eX]
     simp only[eg,ho',hag,cond_true,cond_false]
    rw[eb]at hp hf |-
    obtain⟨⟨hp1,hp2⟩,hp3⟩:=hp
    have hj:j<obs.length:=fK (by rw[hp2];intro e;cases e)
    have hus:=hf nm (by simp)
    obtain⟨l,g1,b1,r1⟩:=g.tx ho hA hb hj (ht j (aq _)) hp2 hus
    have hle:=CF g hus l
    by_cases hdup:nm∈(eg T own oa r ts (i+1) (j+1) (obs.drop (j+1)) (nm+1)).2.2.map (·.1)
    ·exfalso
     have:=nY _ _ _ _ _ _ hdup
     omega
    ·obtain⟨β2,c1,c2,c3,c4⟩:=mP ho hA (E:=E) ts (i+1) (j+1) (nm+1) g1 b1 (fun q hq hq'=>by
      rcases aH.1 hq' with rfl|h
      ·omega
      ·exact ht q (by omega) h) hp3 hr' (fun m hm=>by
       show co s.us nm true m=false
       rw[a6 _ _ _ _ (fun e=>hdup (by subst e;exact hm))];exact hf m (by simp at hm |-;exact .inr hm))
     refine⟨β2,c1,fun o q hq=>c2 o q (hle o q hq),by simp[c3],fun q hq=>?_⟩
     cases q with
     |
      zero =>
      have:=hr 0 (by simp)
      rw[bU,hp1]at this
      simpa using(r1 _ this).mono (Mem.le.refl _) c2
     |
      succ q =>
      have:=c4 q (by simpa using hq)
      rw[show i+(q+1)=i+1+q by omega]
      simpa using this
  |
   false =>
   have eb:eg T own oa r (t::ts) i j (obs.drop j) nm=(nP (T t) (r.comp i)::(eg T own oa r ts (i+1) j (obs.drop j) nm).1,l7 (T t) (r.comp i)::(eg T own oa r ts (i+1) j (obs.drop j) nm).2.1,(eg T own oa r ts (i+1) j (obs.drop j) nm).2.2):=by
    simp only[eg,ho',cond_false]
   rw[eb]at hp hf |-
   obtain⟨hp1,hp3⟩:=hp
   obtain⟨β2,c1,c2,c3,c4⟩:=mP ho hA (E:=E) ts (i+1) j nm g hb ht hp3 hr' hf
   refine⟨β2,c1,c2,by simp[c3],fun q hq=>?_⟩
   cases q with
   |zero=>simpa using nV (β':=β2) t (hr 0 (by simp)) hp1
   |
    succ q =>
    have:=c4 q (by simpa using hq)
    rw[show i+(q+1)=i+1+q by omega]
    simpa using this
theorem so{T:eC}{own:List Nat}{ow:List LK}{oa:List CK}(ho:Out w M0 βc L r obs v w' M β')(hA:∀b,(w.heap.size<=b\/∃i,i<L/\dR βc i=some b)->A.w0.heap.size<=b\/A.ur b)(t j nm:Nat){s:St}{β:Lo}{tk:List Nat}(g:cW n A s a w' M β)(hb:nK s β w L βc obs β' tk)
 (ht:∀q,j<=q->q∉tk) (hp:gD (dI T own ow oa t r j (obs.drop j) nm).1) (hf:∀m,m∈(dI T own ow oa t r j (obs.drop j) nm).2.2.map (·.1)->s.us m=false) :
 ∃β2,cW n A {s with ob:=cy s.ob (dI T own ow oa t r j (obs.drop j) nm).2.2,us:=eK s.us ((dI T own ow oa t r j (obs.drop j) nm).2.2.map (·.1))} a w' M β2/\bu M β2 (dI T own ow oa t r j (obs.drop j) nm).2.1 v:=by
 have plain:(∀ts,(T t).k≠.tuple ts)->∃β2,cW n A {s with ob:=cy s.ob (dI T own ow oa t r j (obs.drop j) nm).2.2,us:=eK s.us ((dI T own ow oa t r j (obs.drop j) nm).2.2.map (·.1))} a w' M β2/\bu M β2 (dI T own ow oa t r j (obs.drop j) nm).2.1 v:=fun h=>by
  by_cases hpt:(T t).k=.pt/\own.any (aJ 0)=true
  ·obtain⟨hk,ho'⟩:=hpt
   have eb:dI T own ow oa t r j (obs.drop j) nm=([r=.ref j 0/\obs.getD j .dead=.cells (obs.getD j .dead).cs/\(obs.getD j .dead).cs.length=ow.length/\cc ow (obs.getD j .dead).cs 0],.ref nm 0,[(nm,some (.cells (jn ow (obs.getD j .dead).cs 0)))]):=by
    rw[<-fe]
    unfold dI
    rw[hk];simp only[ho',cond_true]
   rw[eb]at hp hf |-
   obtain⟨⟨hp1,hp2,hp3,hp4⟩,_⟩:=hp
   have hj:j<obs.length:=fK (by rw[hp2];intro e;cases e)
   obtain⟨l,g1,r1⟩:=g.Cd ho hA hb hj (ht j (aq _)) hp2 hp3 hp4 (hf nm (by simp))
   have:=ho.s9
   rw[hp1]at this
   exact⟨_,g1,r1 v this⟩
  have eb:dI T own ow oa t r j (obs.drop j) nm=bif own.any (aJ 0)then(bif (T t).agg then([r=.agg r.cs/\aK oa r.cs 0 j (obs.drop j)],.agg (bI oa r.cs 0 (obs.drop j) nm).1,(bI oa r.cs 0 (obs.drop j) nm).2.1)else([r=.vec j/\obs.getD j .dead=.vec (qc T t) (obs.getD j .dead).es],.vec nm,[(nm,some (.vec (qc T t) (obs.getD j .dead).es))]))
   else([nP (T t) r],l7 (T t) r,[]):=by
   rw[<-fe]
   unfold dI
   cases hk:(T t).k<;>first|rfl|exact absurd hk (h _)|(cases ho':own.any (aJ 0)with|true=>exact absurd ⟨hk,ho'⟩ hpt|false=>rfl)
  rw[eb]at hp hf |-
  cases ho':own.any (aJ 0)with
  |
   true =>
   rw[ho']at hp hf
   cases hag:(T t).agg with
   |
    true =>
    rw[hag]at hp hf
    simp only[cond_true]at hp hf |-
    obtain⟨hp1,_⟩:=hp
    obtain⟨β1,tk',g1,b1,t1,hle,r1,hu⟩:=uC ho hA r j nm g hb ht hp1 hf
    exact⟨β1,g1,r1 v ho.s9⟩
   |false =>
   rw[hag]at hp hf
   simp only[cond_true,cond_false]at hp hf |-
   obtain⟨⟨hp1,hp2⟩,_⟩:=hp
   have hj:j<obs.length:=fK (by rw[hp2];intro e;cases e)
   obtain⟨l,g1,b1,r1⟩:=g.tx ho hA hb hj (ht j (aq _)) hp2 (hf nm (by simp))
   have:=ho.s9
   rw[hp1]at this
   exact⟨_,g1,r1 v this⟩
  |
   false =>
   rw[ho']at hp
   simp only[cond_false]at hp |-
   exact⟨β,g,nV t ho.s9 hp.1⟩
 by_cases htu:∃ts,(T t).k=.tuple ts
 ·obtain⟨ts,hk⟩:=htu
  cases ts with
  |
   nil =>
   have e:dI T own ow oa t r j (obs.drop j) nm=([],.any,[]):=by unfold dI;rw[hk]
   rw[e];exact⟨β,g,.any _ _⟩
  |
   cons t1 tl =>
   have e:dI T own ow oa t r j (obs.drop j) nm=(let q:=eg T own oa r (t1::tl) 0 j (obs.drop j) nm;((r=.cQ ((bb (t1::tl).length).map r.comp))::q.1,.cQ q.2.1,q.2.2)):=by unfold dI;rw[hk]
   rw[e]at hp hf |-
   obtain⟨hp1,hp2⟩:=hp
   have hr:=ho.s9
   rw[hp1]at hr
   have:∃vs:List Value,v=.tuple vs.toArray/\((bb (t1::tl).length).map r.comp).length=vs.length/\∀i,i<((bb (t1::tl).length).map r.comp).length->bu M β' (((bb (t1::tl).length).map r.comp).getD i .any) (vs.getD i undef):=by
    cases hr with|cQ _ _ vs hl h=>exact⟨vs,rfl,hl,h⟩
   obtain⟨vs,rfl,hl,h⟩:=this
   simp only[cI,List.length_range]at hl h
   obtain⟨β2,c1,c2,c3,c4⟩:=mP (T:=T) ho hA (E:=0) (vs:=vs) (t1::tl) 0 j nm g hb ht hp2 (fun q hq=>by
    have:=h q hq
    rw[aW]
    have hq':q<tl.length+1:=by simpa using hq
    simpa[aa,List.getElem?_range hq']using this) hf
   exact⟨β2,c1,.cQ _ _ _ (by rw[c3];exact hl) fun i hi=>by have:=c4 i (by omega);rw[aW]at this;exact this⟩
 ·exact plain fun ts h=>htu ⟨ts,h⟩
end
end Go.VL
namespace Go.VL
open Go Go.RowKit
section
variable {P:Program} {M:Mem} {β:Lo} {w w':World} {n:Nat} {A:jV} {s:St} {a:Act}
theorem nv:∀(l:List (Nat×Option Ob)) (f:Nat->Option Ob) (o:Nat),o∉l.map (·.1)->cy f l o=f o
 |[],f,o,h=>rfl
 |
  (q,c)::l,f,o,h=>by
  show cy (co f q c) l o=f o
  rw[nv l _ o (fun hh=>h (ak _ hh)),a6 _ _ _ _ (fun e=>h (by rw[e];exact ai))]
theorem rI:∀(l:List Nat) (f:Nat->Bool) (o:Nat),o∉l->eK f l o=f o
 |[],f,o,h=>rfl
 |
  q::l,f,o,h=>by
  show eK (co f q true) l o=f o
  rw[rI l _ o (fun hh=>h (ak _ hh)),a6 _ _ _ _ (fun e=>h (by rw[e];exact ai))]
theorem qx:∀(ms:List MK) (nm m:Nat),m∈ub ms nm↔nm<=m/\m<nm+mE ms
 |[],nm,m=>by simp only[ub,mE,List.not_mem_nil,false_iff];omega
 | .vec::ms,nm,m=>qx ms nm m
 | .cA _ _::ms,nm,m=>qx ms nm m
 |
  .obj ks::ms,nm,m=>by
  simp only[ub,mE,aM,oc,qx ms]
  omega
theorem mv{l:List Nat}{o:Nat}:gb l o=true↔o∈l:=by
 unfold gb
 rw[bY]
 exact⟨fun⟨x,hx,e⟩=>by rw[aD e];exact hx,fun h=>⟨o,h,Nat.beq_refl o⟩⟩
theorem ua(ob:Nat->Option Ob)(os:List Nat):(fI ob os).map (·.1)=os:=by
 unfold fI;rw[List.map_map];exact List.map_id' os
theorem yk{t:TI}{r:AV}{v:Value}{M M':Mem}{β β0:Lo}(hs:zP t=true)(h:bu M' β0 r v)(hh:nP t r):bu M β (l7 t r) v:=by
 simp only[zP,aw,cf]at hs
 obtain⟨h1,h2⟩:=hs
 unfold nP at hh
 unfold l7
 rw[h1]at hh |-
 simp only[cond_false]at hh |-
 cases hk:zZ t<;>rw[hk]at h2 hh<;>first|(cases h2;done)|skip
 ·obtain⟨n,rfl⟩:=hh;rw[dy h];exact .v _ _
 ·obtain⟨n,rfl⟩:=hh;rw[dy h];exact .b _ _
 ·obtain⟨n,rfl⟩:=hh;rw[dy h];exact .v _ _
theorem CN{T:eC}{ow:List LK}{oa:List CK}{r:AV}{v:Value}{M M':Mem}{β β0:Lo}(t j:Nat)(obs:List Ob)(nm:Nat)(hs:HL T t=true)(h:bu M' β0 r v)(hp:gD (dI T [] ow oa t r j obs nm).1) :
 (dI T [] ow oa t r j obs nm).2.2=[]/\bu M β (dI T [] ow oa t r j obs nm).2.1 v:=by
 obtain⟨q1,_⟩:=Dj (T:=T) (β':=β) t j obs nm hp h
 refine⟨q1,?_⟩
 have plain:(∀ts,(T t).k≠.tuple ts)->bu M β (dI T [] ow oa t r j obs nm).2.1 v:=fun hn=>by
  have e:dI T [] ow oa t r j obs nm=([nP (T t) r],l7 (T t) r,[]):=by
   unfold dI
   cases hk:(T t).k<;>first|rfl|exact absurd hk (hn _)
  have e2:HL T t=zP (T t):=by
   unfold HL
   cases hk:(T t).k<;>first|rfl|exact absurd hk (hn _)
  rw[e]at hp |-
  rw[e2]at hs
  exact yk hs h hp.1
 by_cases htu:∃ts,(T t).k=.tuple ts
 ·obtain⟨ts,hk⟩:=htu
  have hs':ts.all (fun u=>zP (T u))=true:=by unfold HL at hs;rw[hk]at hs;exact hs
  cases ts with
  |
   nil =>
   have e:dI T [] ow oa t r j obs nm=([],.any,[]):=by unfold dI;rw[hk]
   rw[e];exact .any _ _
  |
   cons t1 tl =>
   have e:dI T [] ow oa t r j obs nm=(let q:=eg T [] oa r (t1::tl) 0 j obs nm;((r=.cQ ((bb (t1::tl).length).map r.comp))::q.1,.cQ q.2.1,q.2.2)):=by unfold dI;rw[hk]
   rw[e]at hp |-
   obtain⟨hp1,hp2⟩:=hp
   rw[hp1]at h
   have:∃vs:List Value,v=.tuple vs.toArray/\((bb (t1::tl).length).map r.comp).length=vs.length/\∀i,i<((bb (t1::tl).length).map r.comp).length->bu M' β0 (((bb (t1::tl).length).map r.comp).getD i .any) (vs.getD i undef):=by
    cases h with|cQ _ _ vs hl h=>exact⟨vs,rfl,hl,h⟩
   obtain⟨vs,rfl,hl,h⟩:=this
   simp only[cI,List.length_range]at hl h
   have go:∀(ts:List Nat) (i j nm:Nat) (obs:List Ob),ts.all (fun u=>zP (T u))=true->gD (eg T [] oa r ts i j obs nm).1->(∀q,q<ts.length->bu M' β0 (r.comp (i+q)) (vs.getD (i+q) undef)) ->
    (eg T [] oa r ts i j obs nm).2.1.length=ts.length/\∀q,q<ts.length->bu M β ((eg T [] oa r ts i j obs nm).2.1.getD q .any) (vs.getD (i+q) undef):=by
    intro ts
    induction ts with
    |nil=>intro i j nm obs _ _ _;exact⟨rfl,fun q hq=>by simp at hq⟩
    |
     cons t ts ih =>
     intro i j nm obs ha hp hr
     simp only[cL,aw]at ha
     simp only[eg,List.any_nil,cond_false]at hp |-
     obtain⟨z1,z2⟩:=ih (i+1) j nm obs ha.2 hp.2 fun q hq=>by
      have:=hr (q+1) (by simpa using hq)
      rw[show i+(q+1)=i+1+q by omega]at this
      exact this
     refine⟨by simp[z1],fun q hq=>?_⟩
     cases q with
     |zero=>simpa using yk (M:=M) (β:=β) ha.1 (hr 0 (by simp)) hp.1
     |
      succ q =>
      have:=z2 q (by simpa using hq)
      rw[show i+(q+1)=i+1+q by omega]
      simpa using this
   obtain⟨z1,z2⟩:=go (t1::tl) 0 j nm obs hs' hp2 fun q hq=>by
    have:=h q hq
    rw[aW]
    have hq':q<tl.length+1:=by simpa using hq
    simpa[aa,List.getElem?_range hq']using this
   exact .cQ _ _ _ (by rw[z1];exact hl) fun i hi=>by have:=z2 i (by omega);rw[aW]at this;exact this
 ·exact plain fun ts h=>htu ⟨ts,h⟩
theorem ry{t:TI}{r:AV}{v:Value}{M M':Mem}{β β0:Lo}(hs:zP t=true)(h:bu M' β0 r v)(hh:nP t r):bu M β r v:=by
 simp only[zP,aw,cf]at hs
 obtain⟨h1,h2⟩:=hs
 unfold nP at hh
 rw[h1]at hh
 simp only[cond_false]at hh
 cases hk:zZ t<;>rw[hk]at h2 hh<;>first|(cases h2;done)|skip
 ·obtain⟨n,rfl⟩:=hh;rw[dy h];exact .v _ _
 ·obtain⟨n,rfl⟩:=hh;rw[dy h];exact .v _ _
 ·obtain⟨n,rfl⟩:=hh;rw[dy h];exact .v _ _
theorem rO{o:Nat}{v:Value}{M M':Mem}{β:Lo}(h:bu M' β (.vec o) v):bu M β (.vec o) v:=by
 cases h with|vec _ _ _ sz ho h=>exact .vec _ _ _ sz ho h
theorem nE{M M':Mem}{β:Lo}:∀(ks:List CK) {full:List AV} {i j:Nat} {obs:List Ob},EB ks=true->aK ks full i j obs->full.length=i+ks.length/\∀q u,q<ks.length->bu M' β (full.getD (i+q) .any) u->bu M β (full.getD (i+q) .any) u
 |[],full,i,j,obs,hp,h=>⟨h,fun q u hq=>by simp at hq⟩
 |
  .lk k::ks,full,i,j,obs,hp,h=>by
  obtain⟨h1,h2⟩:=h
  simp only[EB,aw]at hp
  obtain⟨q1,q2⟩:=nE ks hp.2 h2
  refine⟨by simp;omega,fun q u hq hr=>?_⟩
  cases q with
  |
   zero =>
   rw[bU]at hr |-
   cases k<;>first|(cases hp.1;done)|skip
   ·obtain⟨n,e⟩:=h1;rw[e]at hr |-;rw[dy hr];exact .v _ _
   ·obtain⟨n,e⟩:=h1;rw[e]at hr |-;rw[dy hr];exact .v _ _
   ·obtain⟨n,e⟩:=h1;rw[e]at hr |-;rw[dy hr];exact .v _ _
  |
   succ q =>
   have:=q2 q u (by simpa using hq)
   rw[show i+1+q=i+(q+1) by omega]at this
   exact this hr
 |
  .vec hz::ks,full,i,j,obs,hp,h=>by
  obtain⟨h1,_,h2⟩:=h
  obtain⟨q1,q2⟩:=nE ks (by simpa only[EB]using hp) h2
  refine⟨by simp;omega,fun q u hq hr=>?_⟩
  cases q with
  |
   zero =>
   rw[bU]at hr |-
   rw[h1]at hr |-;exact rO hr
  |
   succ q =>
   have:=q2 q u (by simpa using hq)
   rw[show i+1+q=i+(q+1) by omega]at this
   exact this hr
theorem tb{M M':Mem}{β:Lo}{oa:List CK}{x:AV}{u:Value}{j:Nat}{obs:List Ob}(hp:EB oa=true)(h:x=.agg x.cs/\aK oa x.cs 0 j obs)(hr:bu M' β x u):bu M β x u:=by
 obtain⟨q1,q2⟩:=nE (M:=M) (M':=M') (β:=β) oa hp h.2
 rw[h.1]at hr |-
 obtain⟨us,rfl,hl,hr,hone⟩:=gv hr
 refine .agg _ _ _ hl hone fun i hi=>?_
 have:=q2 i (us.getD i undef) (by omega)
 rw[aW]at this
 exact this (hr i hi)
theorem yq{T:eC}{own:List Nat}{oa:List CK}{r:AV}{vs:List Value}{M M':Mem}{β:Lo}:∀(ts:List Nat) (i j nm:Nat) (obs:List Ob),Ix T own oa ts i=true->gD (eg T own oa r ts i j obs nm).1->(∀q,q<ts.length->bu M' β (r.comp (i+q)) (vs.getD (i+q) undef)) ->
 ∀q,q<ts.length->bu M β (r.comp (i+q)) (vs.getD (i+q) undef)
 |[],i,j,nm,obs,_,_,_,q,hq=>by simp at hq
 |
  t::ts,i,j,nm,obs,hs,hp,hr,q,hq=>by
  simp only[Ix,aw]at hs
  have next:∀j' nm' obs',gD (eg T own oa r ts (i+1) j' obs' nm').1->(∀u,bu M' β (r.comp i) u->bu M β (r.comp i) u)->bu M β (r.comp (i+q)) (vs.getD (i+q) undef):=fun j' nm' obs' hp' h0=>by
   cases q with
   |zero=>exact h0 _ (by have:=hr 0 (by simp);simpa using this)
   |
    succ q =>
    have:=yq (M:=M) (M':=M') (β:=β) (vs:=vs) ts (i+1) j' nm' obs' hs.2 hp' (fun q hq=>by
     have:=hr (q+1) (by simpa using hq)
     rw[show i+1+q=i+(q+1) by omega];exact this) q (by simpa using hq)
    rw[show i+(q+1)=i+1+q by omega];exact this
  have hs1:=hs.1
  unfold J2 at hs1
  simp only[eg]at hp
  cases ho:own.any (aJ i)with
  |
   true =>
   rw[ho]at hp hs1
   cases ha:(T t).agg with
   |
    true =>
    rw[ha]at hp hs1
    simp only[cond_true]at hp hs1
    exact next _ _ _ hp.2 fun u hu=>tb hs1 hp.1 hu
   |
    false =>
    rw[ha]at hp
    simp only[cond_true,cond_false]at hp
    exact next _ _ _ hp.2 fun u hu=>by rw[hp.1.1]at hu |-;exact rO hu
  |
   false =>
   rw[ho]at hp hs1
   simp only[cond_false]at hp hs1
   exact next _ _ _ hp.2 fun u hu=>ry hs1 hu hp.1
theorem Cu{T:eC}{own:List Nat}{ow:List LK}{oa:List CK}{r:AV}{v:Value}{M M':Mem}{β:Lo}(t j:Nat)(obs:List Ob)(nm:Nat)(hs:Ey T own oa t=true)(h:bu M' β r v)(hp:gD (dI T own ow oa t r j obs nm).1):bu M β r v:=by
 have plain:(∀ts,(T t).k≠.tuple ts)->bu M β r v:=fun hn=>by
  by_cases hpt:(T t).k=.pt
  ·unfold Ey at hs
   rw[hpt]at hs
   simp only[aw,cf]at hs
   unfold dI at hp
   rw[hpt]at hp
   simp only[hs.1,cond_false]at hp
   exact ry hs.2 h hp.1
  ·have hs1:J2 T own oa 0 t=true:=by
    unfold Ey at hs
    cases hk:(T t).k<;>rw[hk]at hs<;>first|exact hs|exact absurd hk (hn _)|exact absurd hk hpt
   have hp1:gD (bif own.any (aJ 0)then(bif (T t).agg then [r=.agg r.cs/\aK oa r.cs 0 j obs]else [r=.vec j/\obs.headD .dead=.vec (qc T t) (obs.headD .dead).es])else [nP (T t) r]):=by
    unfold dI at hp
    cases hk:(T t).k<;>rw[hk]at hp<;>first|exact absurd hk (hn _)|exact absurd hk hpt|(cases ho:own.any (aJ 0)<;>rw[ho]at hp<;>cases ha:(T t).agg<;>rw[ha]at hp<;>exact hp)
   unfold J2 at hs1
   cases ho:own.any (aJ 0)with
   |
    true =>
    rw[ho]at hp1 hs1
    cases ha:(T t).agg with
    |true=>rw[ha]at hp1 hs1;exact tb hs1 hp1.1 h
    |
     false =>
     rw[ha]at hp1
     have:=hp1.1.1
     rw[this]at h |-;exact rO h
   |false=>rw[ho]at hp1 hs1;exact ry hs1 h hp1.1
 by_cases htu:∃ts,(T t).k=.tuple ts
 ·obtain⟨ts,hk⟩:=htu
  cases ts with
  |nil=>unfold Ey at hs;rw[hk]at hs;cases hs
  |
   cons t1 tl =>
   have hs':Ix T own oa (t1::tl) 0=true:=by unfold Ey at hs;rw[hk]at hs;exact hs
   have e:dI T own ow oa t r j obs nm=(let q:=eg T own oa r (t1::tl) 0 j obs nm;((r=.cQ ((bb (t1::tl).length).map r.comp))::q.1,.cQ q.2.1,q.2.2)):=by unfold dI;rw[hk]
   rw[e]at hp
   obtain⟨hp1,hp2⟩:=hp
   rw[hp1]at h |-
   have:∃vs:List Value,v=.tuple vs.toArray/\((bb (t1::tl).length).map r.comp).length=vs.length/\∀i,i<((bb (t1::tl).length).map r.comp).length->bu M' β (((bb (t1::tl).length).map r.comp).getD i .any) (vs.getD i undef):=by
    cases h with|cQ _ _ vs hl h=>exact⟨vs,rfl,hl,h⟩
   obtain⟨vs,rfl,hl,h⟩:=this
   have z:=yq (M:=M) (M':=M') (β:=β) (vs:=vs) (t1::tl) 0 j nm obs hs' hp2 fun q hq=>by
    have:=h q (by simpa using hq)
    rw[aW]
    have hq':q<tl.length+1:=by simpa using hq
    simpa[aa,List.getElem?_range hq']using this
   refine .cQ _ _ _ hl fun i hi=>?_
   have hi':i<tl.length+1:=by simpa using hi
   have:=z i (by simpa using hi')
   rw[aW]at this
   simpa[aa,List.getElem?_range hi']using this
 ·exact plain fun ts h=>htu ⟨ts,h⟩
theorem Out.plain{M1 M':Mem}{r:AV}{obs:List Ob}{v:Value}{βc β':Lo}(h:Out w M1 βc 0 r obs v w' M' β')(hM:M.le M1)(hp:∀x,x∈obs->kZ x)(hr:bu M β' r v):Out w M βc 0 r obs v w' M β':=by
 have hno:∀b,(∀k,M'.c b k=none)->∀k,M.c b k=none:=fun b hb k=>by
  cases e:M.c b k with
  |none=>rfl
  |some u=>have:=h.le.c _ _ _ (hM.c _ _ _ e);rw[hb k]at this;cases this
 refine⟨Mem.le.refl _,⟨fun b k v hc=>h.agree _ _ _ (h.le.c _ _ _ (hM.c _ _ _ hc)),fun b hb=>h.agree.p _ (h.le.p _ (hM.p _ hb))⟩,hr,fun j hj=>?_,fun j b hj=>by omega,fun j l sz es hj=>by omega,h.apart,h.place,fun b k v hc=>.inl hc,⟨h.cA.os,h.cA.tape,h.cA.output,h.cA.size,h.cA.block⟩⟩
 have h1:=h.own j hj
 have h2:=hp (obs.getD j .dead) (by simp[aa,hj])
 cases e:obs.getD j .dead with
 |
  vec sz es =>
  rw[e]at h1 h2
  obtain⟨v,q1,q2,q3⟩:=h1
  refine⟨v,q1,q2,?_⟩
  rcases q3 with q3|⟨b,off,c,vs,e,r1,r2,r3,r4,r5,r6,r7⟩
  ·exact .inl q3
  ·refine .inr ⟨b,off,c,vs,e,r1,r2,r3,r4,fun i j hi hj=>?_,hno b r6,r7⟩
   have h3:=r5 i j hi hj
   have hl:=q2 i hi
   obtain⟨x,hx⟩:=h2 (es.getD i []) (by simp[aa,hi]) ((es.getD i []).getD j .any) (by
    have:j<(es.getD i []).length:=by omega
    rw[aa (l:=es.getD i []),bo this]
    exact bE _)
   rw[hx]at h3 |-
   rw[dy h3];exact .v _ _
 |cells cs=>rw[e]at h2;exact h2.elim
 |hG cs=>rw[e]at h2;exact h2.elim
 |l5 cs=>rw[e]at h2;exact h2.elim
 |l8 sz cs=>rw[e]at h2;exact h2.elim
 |dead=>trivial
theorem cW.looked(g:cW n A s a w M β){M1:Mem}(hM:M.le M1){r:AV}{obs:List Ob}{v:Value}{M':Mem}{βc β':Lo}(h:Out w M1 βc 0 r obs v w' M' β'):cW n A s a w' M β:=by
 have same:∀b,b<w.heap.size->w'.heap[b]?=w.heap[b]?:=fun b hb=>h.cA.block b hb (fun⟨i,hi,_⟩=>by omega)
 refine {g with agree:=⟨fun b k v hc=>h.agree _ _ _ (h.le.c _ _ _ (hM.c _ _ _ hc)),fun b hb=>h.agree.p _ (h.le.p _ (hM.p _ hb))⟩,own:=fun o x hx=>?_,cA:=?_}
 ·exact(g.own o x hx).mono (Mem.le.refl _) (Lo.le.refl _) fun b hl hb=>⟨same b ((g.own o x hx).lt hl hb),(g.own o x hx).Bo hl hb⟩
 ·exact g.cA.jW h.cA.os h.cA.tape h.cA.output h.cA.size fun b hlt _=>same b (cU hlt g.cA.size)
theorem Af{T:eC}{cw:Nat->FC}(g:cW n A s a w M β){o:Oper}{f f':Nat}{asq as':List AV}{ins:List Ob}{wr:List Nat}{k:AV->List Ob->List Prop×De}{vs:List Value}
 (hE:fX T cw (ev s) s.ob o f asq=.c f' as' ins wr k) (hl:vs.length=asq.length) (hr:∀i,i<asq.length->bu M β (asq.getD i .any) (vs.getD i undef)) :
 f'=f/\∃M1 βc,M.le M1/\In w M1 βc as' ins vs/\∀v r obs w' M' β',Out w M1 βc ins.length r obs v w' M' β'->gD (k r obs).1->dA s n o.dst (k r obs).2=true->fY n A (s.gf o.dst (k r obs).2) (a.put o.dst v) w':=by
 unfold fX at hE
 simp only at hE
 generalize hc:cw (keyOf f asq)=c at hE
 split at hE
 ·rename_i as1 ins1 os fz hga
  cases hgd:(nodup os&&(!(os.any (gb fz))&&(dY (dB c.mu) ins1&&(lR s.ob c.mu os ins1 asq 0&&rJ (dB c.mu) os ins1))))with
  |false=>rw[hgd]at hE;cases hE
  |
   true =>
   rw[hgd]at hE
   simp only[cond_true,zH.c.injEq]at hE
   obtain⟨rfl,rfl,rfl,_,rfl⟩:=hE
   simp only[aw,cf]at hgd
   obtain⟨hnd,hdj,hal,hclo,hkept⟩:=hgd
   have hdj':∀o,o∈os->o∉fz:=fun o ho hf=>by
    rw[List.any_eq_false]at hdj
    exact hdj o ho (mv.2 hf)
   refine⟨rfl,?_⟩
   obtain⟨M1,hM,g1⟩:=g.freeze fz
   have h0:∀o x,o∈os->s.ob o=some x->({s with ob:=cy s.ob (fI s.ob fz)}:St).ob o=some x:=fun o x ho hx=>by
    show cy s.ob (fI s.ob fz) o=some x
    rw[nv _ _ _ (by rw[ua];exact hdj' o ho)];exact hx
   obtain⟨βc,U',f1,b1,b2,b3,b4,b5,b6,b7,b8,b9⟩:=nU g1 c.mu asq hga g1.fz h0 gk.nil (fun _ _=>rfl) hnd (fun _ _ hh=>by cases hh)
   simp only[aW]at b4 b6
   have hnm:=nQ c.mu asq hga
   have hown:∀j,j<ins1.length->lY M1 βc w j (ins1.getD j .dead):=fun j hj=>b1.own j _ (b6 j hj)
   obtain⟨fl1,fl2⟩:=nZ (os:=os) (ins:=ins1) (fun j hj hc b hb=>by
    have h1:=hown j hj
    cases e:ins1.getD j .dead with
    |
     cells cs =>
     rw[e]at h1
     obtain⟨b',_,_,h2,_⟩:=h1
     have:=b9 j _ hj (.inl ⟨b',rfl⟩) (by rw[aW];exact h2)
     rw[hb]at this;cases this;exact h2
    |_=>rw[e]at hc;cases hc) asq hga g1.fz hclo b8
   have hin:In w M1 βc (j5 c.mu as1 0) ins1 vs:=⟨by rw[hl,fl1,b7],fun i hi=>fl2 i _ (by omega) ((hr i (by omega)).mono hM (Lo.le.refl _)),g1.agree,hown,fun j hj=>b1.Nt j (b4 j hj),fun i j b hne hi hj hli hlj hb=>b1.apart i j _ _ b hne (b6 i hi) hli (b6 j hj) hlj hb⟩
   refine⟨M1,βc,hM,hin,fun v r obs w' M' β' hout hp hnew=>?_⟩
   cases hlt:vB T c.own c.oa ins1 o.type with
   |
    true =>
    rw[hlt]at hnew
    simp only[cond_true,aQ]at hnew |-
    have hins:ins1=[]:=by
     unfold vB at hlt
     cases ins1 with
     |nil=>rfl
     |cons x xs=>simp at hlt
    subst hins
    have hos:os=[]:=List.eq_nil_of_length_eq_zero hnm.1
    have hmu:dB c.mu=[]:=by
     cases hf:dB c.mu with
     |nil=>rfl
     |cons m ms=>rw[hf]at hal;cases m<;>cases hal
    subst hos
    cases hown':c.own with
    |
     cons x0 xs0 =>
     have hsc:Ey T c.own c.oa o.type=true:=by unfold vB at hlt;rw[hown']at hlt |-;simpa using hlt
     have hlN:uX T c.own c.oa [] o.type obs=[∀x,x∈obs->kZ x]:=by
      unfold uX;rw[hlt,hown'];rfl
     rw[hmu]at hp hnew |-
     rw[<-hown']
     have hp':gD ((dI T c.own c.ow c.oa o.type r 0 obs (cB o.dst)).1++uX T c.own c.oa [] o.type obs):=hp
     rw[hlN]at hp'
     obtain⟨p1,p2⟩:=i6 hp'
     have hout1:Out w M βc 0 r obs v w' M β':=Out.plain hout hM p2.1 (Cu (M:=M) (β:=β') (T:=T) o.type 0 obs (cB o.dst) hsc hout.s9 p1)
     have hA:∀b,(w.heap.size<=b\/∃i,i<0/\dR βc i=some b)->A.w0.heap.size<=b\/A.ur b:=fun b hb=>by
      rcases hb with hb|⟨i,hi,hb⟩
      ·exact .inl (Nat.le_trans g.cA.size hb)
      ·omega
     have hback:nK s β w 0 βc obs β' []:=fun o x b hx hlv hb=>.inl ⟨(g.own o x hx).lt hlv hb,fun⟨i,hi,_⟩=>by omega⟩
     have hnd':(∀m,m∈(dI T c.own c.ow c.oa o.type r 0 obs (cB o.dst)).2.2.map (·.1)->s.us m=false):=by
      unfold dA at hnew
      simp only[aw]at hnew
      obtain⟨⟨h1,_⟩,_⟩:=hnew
      rw[bL]at h1
      exact fun m hm=>by simpa using h1 m (by simpa[dC,ub]using hm)
     obtain⟨β3,d1,d2⟩:=so (T:=T) hout1 hA o.type 0 (cB o.dst) (g.looked hM hout) hback (fun q hq hq'=>by cases hq') (by simpa using p1) (by simpa using hnd')
     have g5:=cW.put d1 d2 (fU hnew)
     refine⟨M,β3,?_⟩
     have e:∀(vv:List Prop×AV×List (Nat×Option Ob)),s.gf o.dst {val:=vv.2.1,co:=pO []++((dC [] [] obs 0 (cB o.dst)).2.1++vv.2.2),new:=ub [] (cB o.dst)++vv.2.2.map (·.1)} =
      {tm:=nf s.tm o.dst vv.2.1,ob:=cy s.ob vv.2.2,us:=eK s.us (vv.2.2.map (·.1))}:=fun vv=>by
      unfold St.gf
      cases o.dst<;>rfl
     exact(e (dI T c.own c.ow c.oa o.type r 0 obs (cB o.dst))).symm ▸ g5
    |nil =>
    have hsc:HL T o.type=true:=by unfold vB at hlt;rw[hown']at hlt;simpa using hlt
    rw[hmu,hown']at hp hnew
    rw[hmu]
    obtain⟨q1,q2⟩:=CN (M:=M) (β:=β) (T:=T) o.type 0 obs (cB o.dst) hsc hout.s9 (by simpa[dC,uX]using hp)
    have g3:=cW.put (g.looked hM hout) q2 (fU hnew)
    refine⟨M,β,?_⟩
    have e:s.gf o.dst {val:=(dI T [] c.ow c.oa o.type r 0 obs (cB o.dst)).2.1,co:=pO []++((dC [] [] obs 0 (cB o.dst)).2.1++(dI T [] c.ow c.oa o.type r 0 obs (cB o.dst)).2.2),new:=ub [] (cB o.dst)++(dI T [] c.ow c.oa o.type r 0 obs (cB o.dst)).2.2.map (·.1)} = {s with tm:=nf s.tm o.dst (dI T [] c.ow c.oa o.type r 0 obs (cB o.dst)).2.1}:=by
     unfold St.gf
     rw[q1]
     cases o.dst<;>rfl
    exact e ▸ g3
   |false =>
   rw[hlt]at hnew
   simp only[cond_false]at hnew |-
   have hsrc:∀i b,i<ins1.length->dR βc i=some b->∃o x0,o∈os/\({s with ob:=cy s.ob (fI s.ob fz)}:St).ob o=some x0/\x0.live=true/\dR β o=some b:=fun i b hi hb=>by
    obtain⟨o,x0,h1,h2,h3,h4⟩:=b1.src i _ b (b6 i hi) ((hnm.2 i hi).1) hb
    rcases b3 o h1 with h|h
    ·exact⟨o,x0,h,h2,h3,h4⟩
    ·cases h
   have g2:=g1.base hsrc hout
   have hA:∀b,(w.heap.size<=b\/∃i,i<ins1.length/\dR βc i=some b)->A.w0.heap.size<=b\/A.ur b:=fun b hb=>by
    rcases hb with hb|⟨i,hi,hb⟩
    ·exact .inl (Nat.le_trans g.cA.size hb)
    ·obtain⟨o,x0,_,h2,h3,h4⟩:=hsrc i b hi hb
     exact g1.place o x0 b h2 h3 h4
   have hback:nK {s with ob:=gn os (cy s.ob (fI s.ob fz))} β w ins1.length βc obs β' []:=fun o x b hx hlv hb=>by
    obtain⟨ho,hx⟩:=gY hx
    refine .inl ⟨(g1.own o x hx).lt hlv hb,fun⟨i,hi,hb'⟩=>?_⟩
    obtain⟨o',x0,h1,h2,h3,h4⟩:=hsrc i b hi hb'
    exact g1.apart o' o x0 x b (fun e=>ho (by rw[<-e];exact h1)) h2 h3 hx hlv h4 hb
   have hnd':(∀m,m∈ub (dB c.mu) (cB o.dst)++(dI T c.own c.ow c.oa o.type r ins1.length (dC (dB c.mu) os obs 0 (cB o.dst)).2.2.1 (dC (dB c.mu) os obs 0 (cB o.dst)).2.2.2).2.2.map (·.1)->s.us m=false) /\
    nodup (ub (dB c.mu) (cB o.dst)++(dI T c.own c.ow c.oa o.type r ins1.length (dC (dB c.mu) os obs 0 (cB o.dst)).2.2.1 (dC (dB c.mu) os obs 0 (cB o.dst)).2.2.2).2.2.map (·.1))=true:=by
    unfold dA at hnew
    simp only[aw]at hnew
    obtain⟨⟨h1,h2⟩,_⟩:=hnew
    rw[bL]at h1
    exact⟨fun m hm=>by simpa using h1 m hm,h2⟩
   obtain⟨hfr,hnn⟩:=hnd'
   obtain⟨p1,p2⟩:=i6 hp
   have hHP:HP A {s with ob:=gn os (cy s.ob (fI s.ob fz))} β βc (fun q=>q∈qa (dB c.mu) 0) os 0:=fun q l hq hx hb=>by
    rw[aW]at hb hx
    have hq':q<ins1.length:=by rw[<-hnm.1];exact hq
    have hmem:os.getD q 0∈os:=by simp[aa,hq]
    have hk:=hkept
    unfold rJ at hk
    rw[bL]at hk
    have hk:=hk q hx
    rw[bn]at hk
    obtain⟨⟨x,hx0⟩,hβ⟩:(∃x,({s with ob:=cy s.ob (fI s.ob fz)}:St).ob (os.getD q 0)=some x/\s.ob (os.getD q 0)=some x)/\β (os.getD q 0)=some l:=by
     rcases hk with hk|hk
     ·have hcells:∃cs,ins1.getD q .dead=.cells cs:=by
       cases e:ins1.getD q .dead<;>rw[e]at hk<;>first|(cases hk;done)|exact⟨_,rfl⟩
      obtain⟨cs,ecs⟩:=hcells
      obtain⟨cs',hcs'⟩:=(hnm.2 q hq').2.1 cs ecs
      have h1:=hown q hq'
      rw[ecs]at h1
      obtain⟨b,_,_,h2,_⟩:=h1
      rw[hb]at h2;cases h2
      exact⟨⟨_,h0 _ _ hmem hcs',hcs'⟩,b9 q _ hq' (.inl ⟨b,rfl⟩) (by rw[aW];exact hb)⟩
     ·have hlt:=aP hk
      obtain⟨x,hx1⟩:=(hnm.2 q hq').2.2 hlt
      exact⟨⟨x,h0 _ _ hmem hx1,hx1⟩,b9 q _ hq' (.inr hlt) (by rw[aW];exact hb)⟩
    refine⟨?_,?_,hβ,fun b' hb'=>?_⟩
    ·show gn os _ _=none
     unfold gn;rw[mv.2 hmem];rfl
    ·cases hu:s.us (os.getD q 0)with
     |true=>rfl
     |false=>rw[(g.us _ hu).2]at hx0;cases hx0.2
    ·have:=(g.fix _ b' hb').2 _ hx0.2
     rw[hβ]at this;cases this;rfl
   have hlen:=jS _ _ hal
   obtain⟨β2,tk',c1,c2,c3,c4,c5⟩:=lJ hout hA rfl hown (E:=cB o.dst+mE (dB c.mu)) (dB c.mu) os 0 (cB o.dst) g2 hback (fun q _ hq=>by cases hq) hal (by rw[hnm.1,hlen]) hnd hHP (fun q hq=>hq) p1
    (fun m h1 h2=>hfr m (aB _ ((qx _ _ _).2 ⟨h1,h2⟩))) (aq _)
   simp only[aX,aW]at c1 c2 c3 c4 c5
   obtain⟨n1,n2,n3⟩:=ew hnn
   rw[c4]at p2 hfr n3
   simp only at p2 hfr n3
   rw[<-hlen]at p2 hfr n3 c3
   obtain⟨β3,d1,d2⟩:=so (T:=T) hout hA o.type ins1.length (cB o.dst+mE (dB c.mu)) c1 c2 (fun q hq hq'=>by
    rcases c3 q hq' with h|h
    ·cases h
    ·omega) (i6 p2).1 (fun m hm=>by
    show eK s.us _ m=false
    rw[rI _ _ _ (fun h=>n3 m h hm)]
    exact hfr m (az _ hm))
   have g5:=cW.put d1 d2 (fU hnew)
   refine⟨M',β3,?_⟩
   have e:∀(b:List Prop×List (Nat×Option Ob)×List Ob×Nat) (vv:List Prop×AV×List (Nat×Option Ob)),s.gf o.dst {val:=vv.2.1,co:=fI s.ob fz++(pO os++(b.2.1++vv.2.2)),new:=ub (dB c.mu) (cB o.dst)++vv.2.2.map (·.1)} =
    {tm:=nf s.tm o.dst vv.2.1,ob:=cy (cy (gn os (cy s.ob (fI s.ob fz))) b.2.1) vv.2.2,us:=eK (eK s.us (ub (dB c.mu) (cB o.dst))) (vv.2.2.map (·.1))}:=fun b vv=>by
    unfold St.gf
    simp only[mg,oB,sV]
    cases o.dst<;>rfl
   simp only[e]
   rw[c4]
   simp only
   rw[<-hlen]
   exact g5
 ·cases hE
end
end Go.VL
namespace Go.VL
open Go Go.RowKit
section
variable {P:Program} {M:Mem} {β:Lo} {w w':World} {n:Nat} {A:jV} {s:St} {a:Act}
theorem oU{f:Nat}(h:HM P f)(args:Array Value):(callFunc f args).run P w=.ok (.enter f args) w:=by
 obtain⟨fn,h1,h2,h3⟩:=h
 unfold callFunc
 simp only[Sem.run_bind,run_program,Result.andThen_ok,h1]
 rw[if_neg (by rw[h3];simp),if_neg (by rw[h2];simp)]
 rfl
theorem xA{T:eC}(hT:cT P T)(hB:l4 P A){cw:Nat->FC}(g:cW n A s a w M β)(o:Oper){K:List Nat->List Nat->St->Tree}{Φ:Nat->List AV->List Ob->Prop}(h:eF P n (wI T cw n o s K) Φ)
 {Kw:Act->World->Prop} {Qw:Exit->Act->World->Prop} (hK:∀rd wr s' a' w',fY n A s' a' w'->eF P n (K rd wr s') Φ->Kw a' w'):o.wp P a w Kw Qw:=by
 unfold wI at h
 have plain:(∀d,jK T cw (ev s) s.ob o=.d none d->dL T (ev s) s.ob o=.ff d)->(∀p d,jK T cw (ev s) s.ob o=.d (some p) d->dL T (ev s) s.ob o=.ok p d)->(∀f asq ins wr k,jK T cw (ev s) s.ob o≠.c f asq ins wr k)->o.wp P a w Kw Qw:=by
  intro h1 h2 h3
  have hop:=EN g hT o
  split at h
  ·exact h.elim
  ·rename_i p d he
   cases hn:dA s n o.dst d with
   |false=>rw[hn]at h;exact h.elim
   |
    true =>
    rw[hn]at h
    simp only[cond_true]at h
    cases p with
    |
     none =>
     rw[h1 d he]at hop
     exact Step.wp (hop hn) fun a' w' hg=>hK _ _ _ _ _ hg h
    |
     some p =>
     rw[h2 p d he]at hop
     exact Step.wp (hop h.1 hn) fun a' w' hg=>hK _ _ _ _ _ hg h.2
  ·rename_i f asq ins wr k he
   exact absurd he (h3 f asq ins wr k)
 have callC:∀(f:Nat) (asq:List AV) (vs:List Value),jK T cw (ev s) s.ob o=fX T cw (ev s) s.ob o f asq->vs.length=asq.length->(∀i,i<asq.length->bu M β (asq.getD i .any) (vs.getD i undef)) ->
  (HM P f->(execOp a.eval o).run P w=.ok (.enter f vs.toArray) w)->o.wp P a w Kw Qw:=by
  intro f asq vs he hl hr hrun
  cases hE:fX T cw (ev s) s.ob o f asq with
  |no=>rw[he,hE]at h;exact h.elim
  |
   d p d =>
   exfalso
   unfold fX at hE
   simp only at hE
   split at hE
   ·cases hgd:(nodup _&&_)with
    |true=>rw[hgd]at hE;cases hE
    |false=>rw[hgd]at hE;cases hE
   ·cases hE
  |
   c f' as' ins wr k =>
   obtain⟨rfl,M1,βc,hM1,hin,hback⟩:=Af g hE hl hr
   rw[he,hE]at h
   simp only[eF]at h
   obtain⟨R,hS,_,hk⟩:=h
   unfold Oper.wp
   rw[hrun hS.1]
   show Calls P f' vs.toArray w _
   refine Calls.mono (hS.2 w M1 βc vs (hB.at g.cA (Mem.le.trans g.le hM1)) hin) fun e w' ⟨v,r,obs,M',β',he,hRr,hout⟩=>?_
   subst he
   obtain⟨hp,ht⟩:=gN.1 (hk r obs hRr)
   cases hn:dA s n o.dst (k r obs).2 with
   |false=>rw[hn]at ht;exact ht.elim
   |
    true =>
    rw[hn]at ht
    simp only[cond_true]at ht
    exact hK _ _ _ _ _ (hback v r obs w' M' β' hout hp hn) ht
 cases ho:o.op with
 |
  call c =>
  obtain⟨callee,xs,ts⟩:=c
  cases callee with
  |
   value x =>
   have he:jK T cw (ev s) s.ob o=(match ev s x with
    | .v (.func (.func f) fi cap)=>bif aJ fi.size 0&&aJ cap.size 0 then fX T cw (ev s) s.ob o f (xs.toList.map (ev s))else .no
    | .fn f cap=>fX T cw (ev s) s.ob o f (xs.toList.map (ev s)++cap)
    |_=>.no):=by unfold jK;rw[ho];try rfl
   have hx:=g.ev x
   have harr:xs.map a.eval=(xs.toList.map a.eval).toArray:=by apply Array.ext';simp
   have hargs:∀i,i<(xs.toList.map (ev s)).length->bu M β ((xs.toList.map (ev s)).getD i .any) ((xs.toList.map a.eval).getD i undef):=by
    intro i hi
    have hi':i<xs.size:=by simpa using hi
    simp[aa,hi']
    exact g.ev _
   split at he
   ·rename_i f fi cap e
    rw[e]at hx
    cases hq:(aJ fi.size 0&&aJ cap.size 0)with
    |false=>rw[hq]at he;rw[he]at h;exact h.elim
    |
     true =>
     rw[hq]at he
     simp only[aw]at hq
     have e1:fi = #[]:=Array.size_eq_zero_iff.1 (aD hq.1)
     have e2:cap = #[]:=Array.size_eq_zero_iff.1 (aD hq.2)
     subst e1;subst e2
     refine callC f _ (xs.toList.map a.eval) he (by simp) hargs fun hE=>?_
     simp only[execOp,ho,resolve,Sem.run_bind,dy hx,Deferred.ofValue,Sem.run_pure,Result.andThen_ok,invoke]
     rw[oU hE,harr]
     simp
   ·rename_i f cap e
    rw[e]at hx
    have:∃vs:List Value,a.eval x=.func (.func f) #[] vs.toArray/\cap.length=vs.length/\∀i,i<cap.length->bu M β (cap.getD i .any) (vs.getD i undef):=by
     generalize a.eval x=u at hx
     cases hx with|fn _ _ _ vs hl h=>exact⟨vs,rfl,hl,h⟩
    obtain⟨us,hu,hul,hur⟩:=this
    refine callC f _ (xs.toList.map a.eval++us) he (by simp[hul]) (fun i hi=>?_) fun hE=>?_
    ·rw[ja,ja]
     by_cases hi':i<(xs.toList.map (ev s)).length
     ·rw[if_pos hi',if_pos (by simpa using hi')];exact hargs i hi'
     ·rw[if_neg hi',if_neg (by simpa using hi')]
      rw[cI,cI]
      simp only[al,cI]at hi hi'
      exact hur _ (by omega)
    ·simp only[execOp,ho,resolve,Sem.run_bind,hu,Deferred.ofValue,Sem.run_pure,Result.andThen_ok,invoke]
     rw[oU hE,harr]
     simp
   ·rw[he]at h;exact h.elim
  |
   builtin b =>
   have he:jK T cw (ev s) s.ob o=(match dL T (ev s) s.ob o with| .ok p d=>.d (some p) d| .ff d=>.d none d| .no=>.no):=by unfold jK;rw[ho];try rfl
   refine plain (fun d hd=>?_) (fun p d hd=>?_) fun f asq ins wr k hd=>?_<;>rw[he]at hd<;>split at hd<;>cases hd<;>assumption
  |
   invoke r nm =>
   have he:jK T cw (ev s) s.ob o=(match dL T (ev s) s.ob o with| .ok p d=>.d (some p) d| .ff d=>.d none d| .no=>.no):=by unfold jK;rw[ho];try rfl
   refine plain (fun d hd=>?_) (fun p d hd=>?_) fun f asq ins wr k hd=>?_<;>rw[he]at hd<;>split at hd<;>cases hd<;>assumption
 |
  _ =>
  have he:jK T cw (ev s) s.ob o=(match dL T (ev s) s.ob o with| .ok p d=>.d (some p) d| .ff d=>.d none d| .no=>.no):=by unfold jK;rw[ho];try rfl
  refine plain (fun d hd=>?_) (fun p d hd=>?_) fun f asq ins wr k hd=>?_<;>rw[he]at hd<;>split at hd<;>cases hd<;>assumption
end
end Go.VL
namespace Go.VL
open Go Go.RowKit
section
variable {P:Program} {w w':World} {n:Nat} {A:jV} {s:St} {a:Act}
theorem rN{ops:Array Oper}{tmps:Array Value}{g t:Nat}(h:(ops.toList[g]?).map (·.dst)=some (some t)):yielded ops tmps g=match tmps[t]? with|some (.bool b)=>some b|_=>none:=by
 unfold yielded
 have e:ops[g]?=ops.toList[g]?:=by simp
 rw[e]
 cases hq:ops.toList[g]? with
 |none=>rw[hq]at h;cases h
 |some o=>rw[hq]at h;simp only[cr,Option.some.injEq]at h;simp only[e,hq,ck,h];rfl
theorem ou{ops:Array Oper}{tmps:Array Value}{g t:Nat}{b:Bool}(h:(ops.toList[g]?).map (·.dst)=some (some t))(hv:tmps.getD t undef=.bool b):yielded ops tmps g=some b:=by
 rw[rN h]
 by_cases ht:t<tmps.size
 ·have:tmps[t]?=some (.bool b):=by
   have e:tmps.getD t undef=tmps[t]:=by simp[ht]
   rw[e]at hv;simp[ht,hv]
  rw[this]
 ·have:tmps.getD t undef=undef:=by simp[show tmps.size<=t by omega]
  rw[this]at hv;cases hv
theorem nn{ops:Array Oper}{tmps:Array Value}{g t:Nat}{vs:Array Value}(h:(ops.toList[g]?).map (·.dst)=some (some t))(hv:tmps.getD t undef=.tuple vs):yielded ops tmps g=none:=by
 rw[rN h]
 by_cases ht:t<tmps.size
 ·have:tmps[t]?=some (.tuple vs):=by
   have e:tmps.getD t undef=tmps[t]:=by simp[ht]
   rw[e]at hv;simp[ht,hv]
  rw[this]
 ·have:tmps[t]?=none:=by simp;omega
  rw[this]
theorem fY.test(h:fY n A s a w){t:Nat}{b:Bool}(ht:s.tm t=.b b):fY n A (s.set t (.v (.bool b))) a w/\a.tmps.getD t undef=.bool b:=by
 obtain⟨M,β,g⟩:=h
 have hv:a.tmps.getD t undef=.bool b:=by have:=g.tm t;rw[ht]at this;exact DP this
 refine⟨⟨M,β,{g with tm:=fun q=>?_}⟩,hv⟩
 show bu M β (co s.tm t (.v (.bool b)) q) _
 by_cases e:q=t
 ·subst e;rw[aN,hv];exact .v _ _
 ·rw[a6 _ _ _ _ e];exact g.tm q
def PV(s:St)(dst:Option Nat):St:=match dst with|some t=>s.set t (.v (.tuple #[]))|none=>s
theorem fY.skip(h:fY n A s a w){dst:Option Nat}(hd:∀t,dst=some t->t<n):fY n A (PV s dst) (a.put dst undef) w:=by
 obtain⟨M,β,g⟩:=h
 have:=cW.put g (x:=.v (.tuple #[])) (v:=undef) (.v _ _) hd
 cases dst with
 |none=>exact⟨M,β,this⟩
 |some t=>exact⟨M,β,this⟩
theorem fY.bool(h:fY n A s a w){t:Nat}{b:Bool}(ht:s.tm t=.v (.bool b)):a.tmps.getD t undef=.bool b:=by
 obtain⟨M,β,g⟩:=h
 have:=g.tm t
 rw[ht]at this
 exact dy this
theorem fY.cQ(h:fY n A s a w){t:Nat}{vs:Array Value}(ht:s.tm t=.v (.tuple vs)):a.tmps.getD t undef=.tuple vs:=by
 obtain⟨M,β,g⟩:=h
 have:=g.tm t
 rw[ht]at this
 exact dy this
theorem wQ{T:eC}(hT:cT P T)(hB:l4 P A){cw:Nat->FC}{ops:Array Oper}{draw:Bool}{K:St->Tree}{Φ:Nat->List AV->List Ob->Prop}{Q:Exit->Act->World->Prop}
 (hK:∀s a w,fY n A s a w->eF P n (K s) Φ->Q .normal a w) :
 ∀(rest:List Oper) (hist:List HE) (s:St) (a:Act) (w:World),fY n A s a w->eF P n (kN T cw n draw ops.toList rest hist s K) Φ->wpList P ops Q rest a w
 |[],hist,s,a,w,g,h=>hK s a w g h
 |
  o::rest,hist,s,a,w,g,h=>by
  have run:∀s a w,fY n A s a w->eF P n (wI T cw n o s fun rd wr s'=>bif !draw||((dc o).all (fun j=>cv j hist.length)&&jO ops.toList o rd wr hist (ig o hist))then kN T cw n draw ops.toList rest (hist++[⟨hist.length,o,rd,wr,ig o hist⟩]) s' K else .fail) Φ ->
   o.wp P a w (wpList P ops Q rest) Q:=by
   intro s a w ⟨M,β,g⟩ h
   refine xA hT hB g o h fun rd wr s' a' w' g' h'=>?_
   cases hq:(!draw||((dc o).all (fun j=>cv j hist.length)&&jO ops.toList o rd wr hist (ig o hist)))with
   |false=>rw[hq]at h';exact h'.elim
   |true=>rw[hq]at h';exact wQ hT hB hK rest _ s' a' w' g' h'
  have skip:∀s a w,fY n A s a w->eF P n (bif (match o.dst with|some t=>cv t n|none=>true)&&(!draw||((dc o).all (fun j=>cv j hist.length)&&jO ops.toList o [] [] hist (ig o hist)))then kN T cw n draw ops.toList rest (hist++[⟨hist.length,o,[],[],ig o hist⟩]) (match o.dst with|some t=>s.set t (.v (.tuple #[]))|none=>s) K else .fail) Φ ->
   wpList P ops Q rest (a.put o.dst undef) w:=by
   intro s a w g h
   cases hq:((match o.dst with|some t=>cv t n|none=>true)&&(!draw||((dc o).all (fun j=>cv j hist.length)&&jO ops.toList o [] [] hist (ig o hist))))with
   |false=>rw[hq]at h;exact h.elim
   |
    true =>
    rw[hq]at h
    rw[aw]at hq
    refine wQ hT hB hK rest _ (PV s o.dst) _ w (g.skip fun t ht=>?_) h
    have:=hq.1
    rw[ht]at this
    have:=aP this
    omega
  unfold wpList
  unfold kN at h
  simp only at h
  cases hg:o.guard with
  |
   none =>
   rw[hg]at h
   rw[if_pos (by simp[Region.wanted,hg])]
   exact .inl (run s a w g h)
  |
   some gw =>
   obtain⟨gi,want⟩:=gw
   rw[hg]at h
   simp only at h
   split at h
   ·rename_i t hdst
    have wantT:∀b,a.tmps.getD t undef=.bool b->Region.wanted o (yielded ops a.tmps)=(b==want):=by
     intro b hb
     have:=ou (ops:=ops) hdst hb
     simp[Region.wanted,hg,this]
    split at h
    ·rename_i e
     have hb:=g.bool e
     cases want with
     |true=>rw[wantT _ hb,if_pos (by decide)];exact .inl (run s a w g h)
     |false=>rw[wantT _ hb,if_neg (by decide)];exact skip s a w g h
    ·rename_i e
     have hb:=g.bool e
     cases want with
     |true=>rw[wantT _ hb,if_neg (by decide)];exact skip s a w g h
     |false=>rw[wantT _ hb,if_pos (by decide)];exact .inl (run s a w g h)
    ·rename_i vs e
     have hb:=g.cQ e
     have:=nn (ops:=ops) hdst hb
     rw[if_neg (by simp[Region.wanted,hg,this])]
     exact skip s a w g h
    ·rename_i b e
     obtain⟨g',hb⟩:=g.test e
     obtain⟨h1,h2⟩:=h
     cases b with
     |
      true =>
      have h1:=h1 rfl
      cases want with
      |true=>rw[wantT _ hb,if_pos (by decide)];exact .inl (run _ a w g' h1)
      |false=>rw[wantT _ hb,if_neg (by decide)];exact skip _ a w g' h1
     |
      false =>
      have h2:=h2 rfl
      cases want with
      |true=>rw[wantT _ hb,if_neg (by decide)];exact skip _ a w g' h2
      |false=>rw[wantT _ hb,if_pos (by decide)];exact .inl (run _ a w g' h2)
    ·exact h.elim
   ·exact h.elim
end
end Go.VL
namespace Go.VL
open Go Go.RowKit
section
variable {P:Program} {w w':World} {n:Nat} {A:jV} {s:St} {a:Act}
def Og:Ex->Exit
 | .normal=>.normal
 | .exit i=>.exit i
 | .ret=>.ret
def yp(P:Program)(n:Nat)(A:jV)(T:eC)(cw:Nat->FC)(Φ:Nat->List AV->List Ob->Prop):Prop :=
 ∀(id:Nat) (ops:Array Oper) (draw:Bool) (K:St->Tree) (Q:Exit->Act->World->Prop),(∀s a w,fY n A s a w->eF P n (K s) Φ->Q .normal a w) ->
  ∀s a w,fY n A s a w->eF P n (kN T cw n draw ops.toList ops.toList [] s K) Φ->(Code.region id ops draw).wp P Q a w
theorem AT:∀{l r:List Nat},Kh l r=true->l=r
 |[],[],_=>rfl
 |[],_::_,h=>by cases h
 |_::_,[],h=>by cases h
 |
  a::l,b::r,h=>by
  simp only[Kh,aw]at h
  rw[aD h.1,AT h.2]
theorem Bh{T:eC}{cw:Nat->FC}{Φ:Nat->List AV->List Ob->Prop}(hB:l4 P A)(hreg:yp P n A T cw Φ)(lis:List (Nat×LI)){fx:List Nat}(hA:∀o b,A.fix o=some b->o∈fx) :
 ∀(c:Code) (s:St) (K:Ex->St->Tree) (Q:Exit->Act->World->Prop),(∀ex s a w,fY n A s a w->eF P n (K ex s) Φ->Q (Og ex) a w) ->
  ∀a w,fY n A s a w->eF P n (go T cw n lis fx c s K) Φ->c.wp P Q a w:=by
 intro c
 induction c with
 |skip=>intro s K Q hK a w g h;exact wp_skip (hK .normal s a w g h)
 |region id ops draw=>intro s K Q hK a w g h;exact hreg id ops draw (K .normal) Q (fun s a w g h=>hK .normal s a w g h) s a w g h
 |
  seq x y ihx ihy =>
  intro s K Q hK a w g h
  refine wp_seq (ihx s _ _ ?_ a w g h)
  intro ex s' a' w' g' h'
  cases ex with
  |normal=>exact ihy s' K Q hK a' w' g' h'
  |exit i=>exact hK (.exit i) s' a' w' g' h'
  |ret=>exact hK .ret s' a' w' g' h'
 |
  cond c x y ihx ihy =>
  intro s K Q hK a w g h
  unfold go at h
  split at h
  ·rename_i t
   split at h
   ·rename_i e
    exact wp_cond_true (g.bool e) (ihx s K Q hK a w g h)
   ·rename_i e
    exact wp_cond_false (g.bool e) (ihy s K Q hK a w g h)
   ·rename_i b e
    obtain⟨g',hb⟩:=g.test e
    obtain⟨h1,h2⟩:=h
    cases b with
    |true=>exact wp_cond_true hb (ihx _ K Q hK a w g' (h1 rfl))
    |false=>exact wp_cond_false hb (ihy _ K Q hK a w g' (h2 rfl))
   ·exact h.elim
  ·exact wp_cond_true rfl (ihx s K Q hK a w g h)
  ·exact wp_cond_false rfl (ihy s K Q hK a w g h)
  ·exact h.elim
 |
  block id c ih =>
  intro s K Q hK a w g h
  refine wp_block (ih s _ _ ?_ a w g h)
  intro ex s' a' w' g' h'
  cases ex with
  |normal=>exact hK .normal s' a' w' g' h'
  |
   exit i =>
   show if i=id then _ else _
   cases e:aJ i id with
   |
    true =>
    simp only[e,cond_true]at h'
    rw[if_pos (aD e)]
    exact hK .normal s' a' w' g' h'
   |
    false =>
    simp only[e,cond_false]at h'
    rw[if_neg (fun h=>by subst h;rw[Nat.beq_refl]at e;cases e)]
    exact hK (.exit i) s' a' w' g' h'
  |ret=>exact hK .ret s' a' w' g' h'
 |
  loop c ih =>
  intro s K Q hK a w g h
  unfold go at h
  split at h
  ·rename_i li _
   cases hq:(Kh fx li.fx&&(uh fx li.xs&&uh fx li.rt))with
   |false=>rw[hq]at h;exact h.elim
   |
    true =>
    rw[hq]at h
    simp only[cond_true]at h
    simp only[aw]at hq
    obtain⟨q1,q2,q3⟩:=hq
    have efx:=AT q1
    split at h
    ·rename_i xs obs hcut
     obtain⟨R,hL,hx,hr⟩:=h
     obtain⟨M,β,g⟩:=g
     refine Code.wp_mono ?_ (hL A a w hB (by rw[<-efx];exact hA) ⟨s,M,β,g,hcut⟩).wp
     intro e a' w' hq
     cases e with
     |
      exit i =>
      obtain⟨rfl,ys,o,hR,s',M',β',g',hc'⟩:=hq
      obtain⟨p,t⟩:=gN.1 (hx ys o hR)
      exact hK (.exit li.ex) _ a' w' (wc g' q2 hA hc' p) t
     |
      ret =>
      obtain⟨ys,o,hR,s',M',β',g',hc'⟩:=hq
      obtain⟨p,t⟩:=gN.1 (hr ys o hR)
      exact hK .ret _ a' w' (wc g' q3 hA hc' p) t
     |_=>exact hq.elim
    ·exact h.elim
  ·exact h.elim
 |exit i=>intro s K Q hK a w g h;exact wp_exit (hK (.exit i) s a w g h)
 |label l=>intro s K Q hK a w g h;exact wp_label (hK .normal s a w g h)
 |ret=>intro s K Q hK a w g h;exact wp_ret (hK .ret s a w g h)
 |_=>intro s K Q hK a w g h;exact h.elim
theorem cn.step{T:eC}{cw:Nat->FC}{lis:List (Nat×LI)}{c:Code}{li:LI}{xs:List AV}{obs:List Ob}{R:Nat->List AV->List Ob->Prop}
 (hreg:∀A,l4 P A->yp P n A T cw fun tag ys o=>(tag=0->cn P n c li ys o R)/\(tag=1->R 1 ys o)/\(tag=2->R 2 ys o))
 (h:eF P n (round T cw n lis c li xs obs) fun tag ys o=>(tag=0->cn P n c li ys o R)/\(tag=1->R 1 ys o)/\(tag=2->R 2 ys o)):cn P n c li xs obs R:=by
 intro A a w hB hA ⟨s,M,β,g,hcut⟩
 unfold round at h
 cases hq:uh li.fx li.hd with
 |false=>rw[hq]at h;exact h.elim
 |true =>
 rw[hq]at h
 simp only[Bool.not_true,cond_false]at h
 obtain⟨p,h⟩:=gN.1 h
 refine ns.Gj (Bh hB (hreg A hB) lis hA c _ _ _ ?_ a w (wc g hq hA hcut p) h)
 intro ex s' a' w' ⟨M',β',g'⟩ h'
 cases ex with
 |
  normal =>
  simp only at h'
  split at h'
  ·rename_i ys o hc;exact(h'.1 rfl) A a' w' hB hA ⟨s',M',β',g',hc⟩
  ·exact h'.elim
 |
  exit i =>
  simp only at h'
  cases e:aJ i li.ex with
  |
   true =>
   simp only[e,cond_true]at h'
   split at h'
   ·rename_i ys o hc;exact⟨aD e,ys,o,h'.2.1 rfl,s',M',β',g',hc⟩
   ·exact h'.elim
  |false=>simp only[e,cond_false]at h';exact h'.elim
 |
  ret =>
  simp only at h'
  split at h'
  ·rename_i ys o hc;exact⟨ys,o,h'.2.2 rfl,s',M',β',g',hc⟩
  ·exact h'.elim
variable {M:Mem} {β:Lo}
theorem C9{t:Nat}{v u:Value}(h:(Instr.loadAt t v).run P w=.ok u w):(do loadVar t (<-asAddr v):Sem Value).run P w=.ok u w:=by
 unfold Instr.loadAt at h
 cases v with
 |
  pointer ad =>
  cases ad with
  |none=>simp[Instr.sureAddr,Sem.run_bind]at h
  |some ad=>simpa[Instr.sureAddr,asAddr,Sem.run_bind]using h
 |_=>simp[Instr.sureAddr,Sem.run_bind]at h
def vu(tmps:Array Value):ResultVar->Sem Value
 | .tmp t=>pure (tmps.getD t undef)
 | .cell q t=>do loadVar t (<-asAddr (tmps.getD q undef))
theorem qH(F:Func)(tmps:Array Value):results F tmps=(do let vs <-F.results.mapM (vu tmps);pure (if h:vs.size=1 then vs[0]else .tuple vs)):=rfl
theorem oA{T:eC}(hT:cT P T)(g:cW n A s a w M β):∀(rv:List ResultVar) {ps:List Prop} {asq:List AV},ma T s rv=some (ps,asq)->gD ps ->
 ∃vs:List Value,(rv.mapM (vu a.tmps)).run P w=.ok vs w/\asq.length=vs.length/\∀i,i<asq.length->bu M β (asq.getD i .any) (vs.getD i undef)
 |
  [],ps,asq,h,hp=>by
  simp only[ma,Option.some.injEq,Prod.mk.injEq]at h
  obtain⟨rfl,rfl⟩:=h
  exact⟨[],by simp,rfl,fun i hi=>by simp at hi⟩
 |
  .tmp t::r,ps,asq,h,hp=>by
  simp only[ma]at h
  cases e:ma T s r with
  |none=>rw[e]at h;cases h
  |
   some q =>
   rw[e]at h
   simp only[cr,Option.some.injEq,Prod.mk.injEq]at h
   obtain⟨rfl,rfl⟩:=h
   obtain⟨vs,h1,h2,h3⟩:=oA hT g r e hp
   refine⟨a.tmps.getD t undef::vs,?_,by simp[h2],fun i hi=>?_⟩
   ·simp only[List.mapM_cons,vu,Sem.run_bind,Sem.run_pure,Result.andThen_ok,h1]
   ·cases i with
    |zero=>simpa using g.tm t
    |succ i=>simpa using h3 i (by simpa using hi)
 |
  .cell q t::r,ps,asq,h,hp=>by
  simp only[ma]at h
  have hld:=sI (P:=P) hT g.own g.agree (t:=t) (g.tm q)
  have fin:∀(u:Value) (d:De) (p':List Prop) (as':List AV),ma T s r=some (p',as')->gD p'->asq=d.val::as'->(Instr.loadAt t (a.tmps.getD q undef)).run P w=.ok u w->bu M β d.val u ->
   ∃vs:List Value,((ResultVar.cell q t::r).mapM (vu a.tmps)).run P w=.ok vs w/\asq.length=vs.length/\∀i,i<asq.length->bu M β (asq.getD i .any) (vs.getD i undef):=by
   intro u d p' as' e hp' ea hu hr
   obtain⟨vs,h1,h2,h3⟩:=oA hT g r e hp'
   subst ea
   refine⟨u::vs,?_,by simp[h2],fun i hi=>?_⟩
   ·rw[List.mapM_cons,Sem.run_bind,vu,C9 hu]
    simp only[Result.andThen_ok,Sem.run_bind,h1,Sem.run_pure]
   ·cases i with
    |zero=>simpa using hr
    |succ i=>simpa using h3 i (by simpa using hi)
  split at h
  ·rename_i p d qq e1 e2
   cases h
   rw[e1]at hld
   obtain⟨u,h1,h2⟩:=(hld hp.1).2.2
   exact fin u d qq.1 qq.2 e2 hp.2 rfl h1 h2
  ·rename_i d qq e1 e2
   cases h
   rw[e1]at hld
   obtain⟨u,h1,h2⟩:=hld.2.2
   exact fin u d qq.1 qq.2 e2 hp rfl h1 h2
  ·cases h
theorem mw:∀(asq:List AV) (i:Nat) (f:Nat->AV) (t:Nat),mM asq i f t=if i<=t/\t<i+asq.length then asq.getD (t-i) .any else f t
 |[],i,f,t=>by rw[if_neg (by simp only[aG];omega)];rfl
 |
  x::asq,i,f,t=>by
  rw[mM,mw asq (i+1) _ t]
  simp only[au]
  by_cases h:i+1<=t/\t<i+1+asq.length
  ·rw[if_pos h,if_pos (by omega),show t-i=(t-(i+1))+1 by omega];rfl
  ·rw[if_neg h]
   by_cases e:t=i
   ·subst e;rw[aN,if_pos (by omega)];simp
   ·rw[a6 _ _ _ _ e,if_neg (by omega)]
theorem rb:∀(os:List Ob) (i:Nat) (f:Nat->Option Ob) (t:Nat),rE os i f t=if i<=t/\t<i+os.length then some (os.getD (t-i) .dead)else f t
 |[],i,f,t=>by rw[if_neg (by simp only[aG];omega)];rfl
 |
  x::os,i,f,t=>by
  rw[rE,rb os (i+1) _ t]
  simp only[au]
  by_cases h:i+1<=t/\t<i+1+os.length
  ·rw[if_pos h,if_pos (by omega),show t-i=(t-(i+1))+1 by omega];rfl
  ·rw[if_neg h]
   by_cases e:t=i
   ·subst e;rw[aN,if_pos (by omega)];simp
   ·rw[a6 _ _ _ _ e,if_neg (by omega)]
theorem oe(g:cW n A s a w M β){ob0:Nat->Option Ob}:∀(ms:List MK) {obs:List Ob} {os:List Nat} {j:Nat},n0 ob0 ms j=some (obs,os)->(∀o x,o∈os->ob0 o=some x->s.ob o=some x) ->
 ∀{U:List Nat} {f:Nat->Option Ob} {βc:Lo},gk s w M β U f βc->(∀m,j<=m->f m=none)->nodup os=true->(∀o,o∈os->o∉U) ->
 ∃βc' U' f',gk s w M β U' f' βc'/\Lo.le βc βc'/\(∀o,o∈U'->o∈os\/o∈U)/\(∀m,j+obs.length<=m->f' m=none)/\(∀m,m<j->f' m=f m)/\(∀q,q<obs.length->obs.getD q .dead=.dead\/f' (j+q)=some (obs.getD q .dead))/\obs.length=fH ms /\
  (∀q,q∈qa ms j->(∃x,s.ob q=some x)/\∃b,β q=some b/\βc' q=some b)/\(∀q sz es,q<obs.length->obs.getD q .dead=.l8 sz es->j+q∈qa ms j)
 |
  [],obs,os,j,h,h0,U,f,βc,hB,hnm,hnd,hU=>by
  simp only[n0,Option.some.injEq,Prod.mk.injEq]at h
  obtain⟨rfl,rfl⟩:=h
  exact⟨βc,U,f,hB,Lo.le.refl _,fun o ho=>.inr ho,fun m hm=>hnm m (by simpa using hm),fun m _=>rfl,fun q hq=>(by simp at hq),rfl,fun q hq=>(by cases hq),fun q sz es hq=>(by simp at hq)⟩
 |
  .vec::ms,obs,os,j,h,h0,U,f,βc,hB,hnm,hnd,hU=>by
  simp only[n0]at h
  split at h
  ·rename_i obs1 os1 h1
   cases h
   obtain⟨n1,n2⟩:=nodup_cons hnd
   obtain⟨β3,U',f',b1,b2,b3,b4,b5,b6,b7,b8,b9⟩:=oe g ms h1 (fun o x ho=>h0 o x (ak _ ho)) hB (fun m hm=>hnm m (by omega)) n2 (fun o ho=>hU o (ak _ ho))
   refine⟨β3,U',f',b1,b2,fun o ho=>?_,fun m hm=>b4 m (by simp at hm;omega),fun m hm=>b5 m (by omega),fun q hq=>?_,by simp[fH,b7],b8,fun q sz es hq he=>?_⟩
   ·rcases b3 o ho with h|h
    ·exact .inl (ak _ h)
    ·exact .inr h
   ·cases q with
    |zero=>exact .inl rfl
    |
     succ q =>
     have:=b6 q (by simpa using hq)
     rw[show j+(q+1)=j+1+q by omega]
     simpa using this
   ·cases q with
    |zero=>cases he
    |
     succ q =>
     have:=b9 q sz es (by simpa using hq) (by simpa using he)
     rw[show j+(q+1)=j+1+q by omega]
     exact this
  ·cases h
 |
  .cA gg ks::ms,obs,os,j,h,h0,U,f,βc,hB,hnm,hnd,hU=>by
  simp only[n0]at h
  split at h
  ·rename_i sz es ho
   cases hz:aJ sz (lL ks)with
   |false=>rw[hz]at h;cases h
   |true =>
   rw[hz]at h
   simp only[cond_true]at h
   split at h
   ·rename_i obs1 os1 h1
    cases h
    obtain⟨n1,n2⟩:=nodup_cons hnd
    have ho:=h0 j _ ai ho
    obtain⟨v,q1,q2,q3⟩:=g.own j _ ho
    have hfj:=hnm j (aq _)
    have hB2:=hB.add g hfj (l:=.vec v sz) (x:=.l8 sz es) ⟨v,aN _ _ _,q2,q3⟩ j (hU j ai) (fun b hb=>⟨_,ho,rfl,by simp[dR,q1];exact hb⟩)
    obtain⟨β3,U',f',b1,b2,b3,b4,b5,b6,b7,b8,b9⟩:=oe g ms h1 (fun o x ho=>h0 o x (ak _ ho)) hB2 (fun m hm=>by rw[a6 _ _ _ _ (by omega)];exact hnm m (by omega)) n2 (fun o hq hh=>by
     rcases aH.1 hh with rfl|hh
     ·exact n1 hq
     ·exact hU o (ak _ hq) hh)
    refine⟨β3,U',f',b1,fun o l hl=>b2 o l (hB.le hfj _ o l hl),fun o ho=>?_,fun m hm=>b4 m (by simp at hm;omega),fun m hm=>(by rw[b5 m (by omega),a6 _ _ _ _ (by omega)]),fun q hq=>?_,by simp[fH,b7],fun q hq=>?_,fun q sz es hq he=>?_⟩
    ·rcases b3 o ho with h|h
     ·exact .inl (ak _ h)
     ·rcases aH.1 h with rfl|h
      ·exact .inl ai
      ·exact .inr h
    ·cases q with
     |zero=>right;rw[bU,b5 j (by omega),aN];rfl
     |
      succ q =>
      have:=b6 q (by simpa using hq)
      rw[show j+(q+1)=j+1+q by omega]
      simpa using this
    ·rcases aH.1 hq with rfl|hq
     ·exact⟨⟨_,ho⟩,_,q1,b2 _ _ (aN _ _ _)⟩
     ·exact b8 q hq
    ·cases q with
     |zero=>exact ai
     |
      succ q =>
      have:=b9 q sz es (by simpa using hq) (by simpa using he)
      rw[show j+(q+1)=j+1+q by omega]
      exact ak _ this
   ·cases h
  ·cases h
 |
  .obj ks::ms,obs,os,j,h,h0,U,f,βc,hB,hnm,hnd,hU=>by
  simp only[n0]at h
  split at h
  ·rename_i cs ho
   split at h
   ·rename_i asq obs1 os1 h1
    split at h
    ·rename_i obs2 os2 h2
     cases h
     have hnd':nodup (j::(os1++os2))=true:=by simpa using hnd
     obtain⟨n1,n2⟩:=nodup_cons hnd'
     obtain⟨n3,n4,n5⟩:=ew n2
     have hl1:=iL ks h1
     obtain⟨β3,U1,f1,b1,b2,b3,b4,b5,b6,b7,b8,_⟩:=kR g ks h1 (fun o x hh=>h0 o x (by simp[hh])) hB (fun m hm=>hnm m (by omega)) n3 (fun q hq=>hU q (by simp[hq]))
     have ho:=h0 j _ (by simp) ho
     obtain⟨b,vs,e,q1,q2,q3,q4,q5,q6⟩:=g.own j _ ho
     have hfj:f1 j=none:=by rw[b5 j (by omega)];exact hnm j (aq _)
     have hB2:=b1.add g hfj (l:=.cells b) (x:=.cells asq)
      ⟨b,vs,e,aN _ _ _,q2,by rw[q3,b7],fun i hi=>(b8 i _ (by omega) (q4 i (by omega))).mono (Mem.le.refl _) (b1.le hfj _),q5,q6⟩ j
      (fun hh=>by
       rcases b3 j hh with h|h
       ·exact n1 (aB _ h)
       ·exact hU j (by simp) h)
      (fun b' hb'=>by
       simp only[Loc.block,Option.some.injEq]at hb'
       subst hb'
       exact⟨_,ho,rfl,by simp[dR,q1,Loc.block]⟩)
     obtain⟨β4,U2,f2,d1,d2,d3,d4,d5,d6,d7,d8,d9⟩:=oe g ms h2 (fun o x hh=>h0 o x (by simp[hh])) hB2 (fun m hm=>by
      rw[a6 _ _ _ _ (by omega)];exact b4 m (by omega)) n4 (fun o hh hh'=>by
      rcases aH.1 hh' with rfl|hh'
      ·exact n1 (az _ hh)
      ·rcases b3 o hh' with h|h
       ·exact n5 o h hh
       ·exact hU o (by simp[hh]) h)
     refine⟨β4,U2,f2,d1,fun o l hl=>d2 o l (b1.le hfj _ o l (b2 o l hl)),fun o hh=>?_,fun m hm=>d4 m (by simp at hm;omega),fun m hm=>?_,fun q hq=>?_,by simp[fH,d7,hl1];omega,fun q hq=>?_,fun q sz es hq he=>?_⟩
     ·rcases d3 o hh with h|h
      ·exact .inl (by simp[h])
      ·rcases aH.1 h with rfl|h
       ·exact .inl (by simp)
       ·rcases b3 o h with h|h
        ·exact .inl (by simp[h])
        ·exact .inr h
     ·rw[d5 m (by omega),a6 _ _ _ _ (by omega)];exact b5 m (by omega)
     ·cases q with
      |zero=>right;rw[bU,d5 j (by omega),aN];rfl
      |
       succ q =>
       by_cases hlt:q<obs1.length
       ·right
        rw[d5 _ (by omega),a6 _ _ _ _ (by omega),show j+(q+1)=j+1+q by omega,b6 q hlt]
        simp[aa,ba,hlt]
       ·have:=d6 (q-obs1.length) (by simp at hq;omega)
        rw[show j+1+bC ks+(q-obs1.length)=j+(q+1) by omega]at this
        have e2:(Ob.cells asq::(obs1++obs2)).getD (q+1) .dead=obs2.getD (q-obs1.length) .dead:=by simp[aa,ba,hlt]
        have e3:(Ob.cells asq::obs1++obs2)=Ob.cells asq::(obs1++obs2):=rfl
        rw[e3,e2];exact this
     ·rcases aH.1 hq with rfl|hq
      ·exact⟨⟨_,ho⟩,_,q1,d2 _ _ (aN _ _ _)⟩
      ·exact d8 q hq
     ·cases q with
      |zero=>cases he
      |
       succ q =>
       by_cases hlt:q<obs1.length
       ·exfalso
        obtain⟨z,es',e⟩:=(jR ks h1).2.1 (obs1.getD q .dead) (by simp[aa,hlt])
        have e2:(Ob.cells asq::obs1++obs2).getD (q+1) .dead=obs1.getD q .dead:=by simp[aa,ba,hlt]
        rw[e2,e]at he;cases he
       ·have e2:(Ob.cells asq::obs1++obs2).getD (q+1) .dead=obs2.getD (q-obs1.length) .dead:=by simp[aa,ba,hlt]
        rw[e2]at he
        have:=d9 (q-obs1.length) sz es (by simp at hq;omega) he
        rw[show j+1+bC ks+(q-obs1.length)=j+(q+1) by omega]at this
        exact ak _ this
    ·cases h
   ·cases h
  ·cases h
theorem qy{T:eC}(g:cW n A s a w M β){s0:St}{own:List Nat}{oa:List CK}:∀(asq:List AV) {ts:List Nat} {i k:Nat} {xs:List AV} {obs:List Ob} {os fz:List Nat},sb T s0 own oa ts asq i k=some (xs,obs,os,fz)->Fz M β w s0.ob fz->(∀o x,o∈os->s0.ob o=some x->s.ob o=some x) ->
 ∀{U:List Nat} {f:Nat->Option Ob} {βc:Lo},gk s w M β U f βc->(∀m,k<=m->f m=none)->nodup os=true->(∀o,o∈os->o∉U) ->
 ∃βc' U' f',gk s w M β U' f' βc'/\Lo.le βc βc'/\(∀m,k+obs.length<=m->f' m=none)/\(∀m,m<k->f' m=f m)/\(∀q,q<obs.length->f' (k+q)=some (obs.getD q .dead))/\xs.length=asq.length /\
  ∀q v,q<asq.length->bu M β (asq.getD q .any) v->bu M βc' (xs.getD q .any) v
 |
  [],ts,i,k,xs,obs,os,fz,h,hz,h0,U,f,βc,hB,hnm,hnd,hU=>by
  simp only[sb,Option.some.injEq,Prod.mk.injEq]at h
  obtain⟨rfl,rfl,rfl,rfl⟩:=h
  exact⟨βc,U,f,hB,Lo.le.refl _,fun m hm=>hnm m (by simpa using hm),fun m _=>rfl,fun q hq=>(by simp at hq),rfl,fun q v hq=>(by simp at hq)⟩
 |
  c::asq,ts,i,k,xs,obs,os,fz,h,hz,h0,U,f,βc,hB,hnm,hnd,hU=>by
  have cont:∀(ra:AV) (xo:Ob) (o:Nat) (xs1:List AV) (obs1:List Ob) (os1:List Nat),sb T s0 own oa ts.tail asq (i+1) (k+1)=some (xs1,obs1,os1,fz)->xs=ra::xs1->obs=xo::obs1->os=o::os1->(∃β3,gk s w M β (o::U) (co f k (some xo)) β3/\Lo.le βc β3/\∀v,bu M β c v->bu M β3 ra v) ->
   ∃βc' U' f',gk s w M β U' f' βc'/\Lo.le βc βc'/\(∀m,k+obs.length<=m->f' m=none)/\(∀m,m<k->f' m=f m)/\(∀q,q<obs.length->f' (k+q)=some (obs.getD q .dead))/\xs.length=(c::asq).length /\
    ∀q v,q<(c::asq).length->bu M β ((c::asq).getD q .any) v->bu M βc' (xs.getD q .any) v:=by
   intro ra xo o xs1 obs1 os1 h2 ea eo eos ⟨β3,c1,c2,c3⟩
   subst ea;subst eo;subst eos
   obtain⟨n1,n2⟩:=nodup_cons hnd
   obtain⟨β4,U',f',b1,b2,b4,b5,b6,b7,b8⟩:=qy g asq h2 hz (fun o x ho=>h0 o x (ak _ ho)) c1 (fun m hm=>by rw[a6 _ _ _ _ (by omega)];exact hnm m (by omega)) n2 (fun q hq hh=>by
    rcases aH.1 hh with rfl|hh
    ·exact n1 hq
    ·exact hU q (ak _ hq) hh)
   refine⟨β4,U',f',b1,fun o l hl=>b2 o l (c2 o l hl),fun m hm=>b4 m (by simp at hm;omega),fun m hm=>?_,fun q hq=>?_,by simp[b7],fun q v hq hr=>?_⟩
   ·rw[b5 m (by omega),a6 _ _ _ _ (by omega)]
   ·cases q with
    |zero=>rw[bU,b5 k (by omega),aN];rfl
    |
     succ q =>
     have:=b6 q (by simpa using hq)
     rw[show k+(q+1)=k+1+q by omega,this];rfl
   ·cases q with
    |zero=>simpa using(c3 v (by simpa using hr)).mono (Mem.le.refl _) b2
    |succ q=>simpa using b8 q v (by simpa using hq) (by simpa using hr)
  simp only[sb]at h
  cases ho:own.any (aJ i)with
  |
   true =>
   rw[ho]at h
   simp only[cond_true]at h
   split at h
   ·rename_i o
    split at h
    ·rename_i sz es xs1 obs1 os1 fz1 h1 h2
     cases h
     obtain⟨β3,c1,c2,c3,c4⟩:=gk.vec g hB (m:=k) (hnm k (aq _)) (hU o ai) (h0 _ _ ai h1)
     exact cont (.vec k) (.vec sz es) o xs1 obs1 os1 h2 rfl rfl rfl ⟨β3,c1,c2,c3⟩
    ·cases h
   ·rename_i o
    split at h
    ·rename_i cs hcs
     split at h
     ·rename_i as' xs1 obs1 os1 fz1 h1 h2
      cases h
      obtain⟨q1,q2⟩:=pi (M:=M) (β:=β) (w:=w) (ob:=s0.ob) (fun c a' os v=>gL ek c a' os v) _ _ _ h1 (fun o ho=>by cases ho)
      obtain⟨β3,c1,c2,c3⟩:=gk.obj g hB (m:=k) (asq:=as') (hnm k (aq _)) (hU o ai) (h0 _ _ ai hcs) q1 q2
      exact cont (.ref k 0) (.cells as') o xs1 obs1 os1 h2 rfl rfl rfl ⟨β3,c1,c2,c3⟩
     ·cases h
    ·cases h
   ·split at h
    ·rename_i xs1 obs1 os1 fz1 h2
     cases h
     obtain⟨β3,c1,c2,c3⟩:=gk.tP g hB (m:=k) (o:=4*eJ+k) (sz:=qc T (ts.headD 0)) (hnm k (aq _)) (hU _ ai)
     exact cont (.vec k) (.vec (qc T (ts.headD 0)) []) _ xs1 obs1 os1 h2 rfl rfl rfl ⟨β3,c1,c2,fun v hv=>by rw[dy hv];exact c3⟩
    ·cases h
   ·rename_i cs
    split at h
    ·rename_i as' ob' os' xs1 obs1 os1 fz1 h1 h2
     cases h
     have hlen:=iL oa h1
     obtain⟨n1,n2,n3⟩:=ew hnd
     obtain⟨β3,U3,f3,c1,c2,c3,c4,c5,c6,c7,c8,_⟩:=kR g oa h1 (fun o x ho=>h0 o x (aB _ ho)) hB hnm n1 (fun q hq=>hU q (aB _ hq))
     obtain⟨β4,U',f',b1,b2,b4,b5,b6,b7,b8⟩:=qy g asq h2 hz (fun o x ho=>h0 o x (az _ ho)) c1 (fun m hm=>c4 m (by omega)) n2 (fun q hq hh=>by
      rcases c3 q hh with h|h
      ·exact n3 q h hq
      ·exact hU q (az _ hq) h)
     refine⟨β4,U',f',b1,fun o l hl=>b2 o l (c2 o l hl),fun m hm=>b4 m (by simp at hm;omega),fun m hm=>?_,fun q hq=>?_,by simp[b7],fun q v hq hr=>?_⟩
     ·rw[b5 m (by omega)];exact c5 m hm
     ·by_cases hlt:q<ob'.length
      ·rw[b5 _ (by omega),c6 q hlt]
       simp[aa,ba,hlt]
      ·have:=b6 (q-ob'.length) (by simp at hq;omega)
       rw[show k+bC oa+(q-ob'.length)=k+q by omega]at this
       rw[this]
       simp[aa,ba,hlt]
     ·cases q with
      |
       zero =>
       have hr:bu M β (.agg cs) v:=by simpa using hr
       obtain⟨us,rfl,hl,hr,hone⟩:=gv hr
       have:bu M β4 (.agg as') (.agg us.toArray):=.agg _ _ _ (by omega) (fun i hi=>hone i (by omega)) fun i hi=>(c8 i _ (by omega) (hr i (by omega))).mono (Mem.le.refl _) b2
       simpa using this
      |succ q=>simpa using b8 q v (by simpa using hq) (by simpa using hr)
    ·cases h
   ·cases h
  |
   false =>
   rw[ho]at h
   simp only[cond_false]at h
   split at h
   ·rename_i x fz1 xs1 obs1 os1 fz2 h1 h2
    cases h
    obtain⟨β4,U',f',b1,b2,b4,b5,b6,b7,b8⟩:=qy g asq h2 hz.right h0 hB hnm hnd hU
    refine⟨β4,U',f',b1,b2,b4,b5,b6,by simp[b7],fun q v hq hr=>?_⟩
    cases q with
    |zero=>simpa using(gL _ _ _ _ _ h1 hz.left (by simpa using hr)).up
    |succ q=>simpa using b8 q v (by simpa using hq) (by simpa using hr)
   ·cases h
theorem BZ{T:eC}(hT:cT P T){cw:Nat->FC}{lis:List (Nat×LI)}{fc:FC}{f:Nat}{F:Func}{asq:List AV}{ins:List Ob}{R:AV->List Ob->Prop}(hf:P.funcs[f]?=some F)(hnm:(F.name=="runtime.NumGoroutine")=false)
 (hreg:∀A,l4 P A->yp P F.ntmps A T cw fun _ xs obs=>R (xs.headD .any) obs)
 (h:eF P F.ntmps (main T cw lis fc F asq ins) fun _ xs obs=>R (xs.headD .any) obs):ap P f asq ins R:=by
 unfold main at h
 cases hb:F.body with
 |none=>rw[hb]at h;exact h.elim
 |
  some c =>
  rw[hb]at h
  simp only at h
  cases hle:(fG asq.length F.ntmps&&dY (dB fc.mu) ins)with
  |false=>rw[hle]at h;exact h.elim
  |
   true =>
   rw[hle]at h
   simp only[cond_true]at h
   simp only[aw]at hle
   obtain⟨hle,hal⟩:=hle
   have hle:=aP hle
   have hlen:=jS _ _ hal
   refine⟨⟨F,hf,by simp[hb],hnm⟩,fun w M β vs hB hin=>?_⟩
   have hsz:vs.toArray.size=asq.length:=by simp[hin.len]
   let fx:=qa (dB fc.mu) 0
   let A:jV:=⟨w,M,fun b=>∃i,i<ins.length/\dR β i=some b,fun o=>bif gb fx o then β o else none⟩
   have hA:∀o b,A.fix o=some b->o∈fx/\β o=some b:=fun o b hb=>by
    simp only[A]at hb
    cases hm:gb fx o with
    |false=>rw[hm]at hb;cases hb
    |
     true =>
     rw[hm]at hb
     simp only[cond_true]at hb
     exact⟨mv.1 hm,hb⟩
   have hob:∀o x,(enter asq ins).ob o=some x->o<ins.length/\x=ins.getD o .dead:=fun o x hx=>by
    have:rE ins 0 (fun _=>none) o=some x:=hx
    rw[rb]at this
    split at this
    ·rename_i hh;cases this;exact⟨by omega,by rw[Nat.sub_zero]⟩
    ·cases this
   have g0:cW F.ntmps A (enter asq ins) {tmps:=vs.toArray++Array.replicate (F.ntmps-vs.toArray.size) undef,defers:=[]} w M β:=by
    refine {size:=by simp[hin.len];omega,lZ:=rfl,tm:=fun t=>?_,le:=Mem.le.refl _,new:=fun b k v h=>.inl h,agree:=hin.agree,own:=fun o x h=>?_,place:=fun o x b h _ hb=>?_,apart:=fun o o' x x' b hne h hl h' hl' hb=>?_,us:=fun o hu=>?_,fix:=fun o b hb=>?_,cA:=⟨rfl,rfl,rfl,aq _,fun _ _ _=>rfl⟩}
    ·show bu M β (mM asq 0 (fun _=>.any) t) _
     rw[mw]
     by_cases ht:t<asq.length
     ·rw[if_pos (by omega),Nat.sub_zero]
      have e:(vs.toArray++Array.replicate (F.ntmps-vs.toArray.size) undef).getD t undef=vs.getD t undef:=by
       have:t<vs.length:=by rw[hin.len];exact ht
       simp[Array.getElem?_append,this,aa]
      rw[e];exact hin.s9 t ht
     ·rw[if_neg (by omega)];exact .any _ _
    ·obtain⟨h1,rfl⟩:=hob o x h;exact hin.own o h1
    ·obtain⟨h1,rfl⟩:=hob o x h;exact .inr ⟨o,h1,hb⟩
    ·obtain⟨h1,rfl⟩:=hob o x h;obtain⟨h2,rfl⟩:=hob o' x' h';exact hin.apart o o' b hne h1 h2 hl hl' hb
    ·have hge:ins.length<=o:=by
      have:cv o ins.length=false:=hu
      rcases Nat.lt_or_ge o ins.length with h|h
      ·have:cv o ins.length=true:=Nat.ble_eq_true_of_le h
       simp_all
      ·exact h
     refine⟨hin.none o hge,?_⟩
     cases e:(enter asq ins).ob o with
     |none=>rfl
     |some x=>obtain⟨h1,_⟩:=hob o x e;omega
    ·obtain⟨h1,h2⟩:=hA o b hb
     have:=(qn _ _ _ h1).2
     exact⟨Nat.ble_eq_true_of_le (by omega),fun _ _=>h2⟩
   have hBA:l4 P A:=l4.of hB fun b k v hc ⟨i,hi,hbi⟩=>by
    have:=(hin.own i hi).Bo (iX _ _ hal i hi) hbi k
    rw[this]at hc;cases hc
   refine calls_of_wp hf hb (Bh (A:=A) hBA (hreg A hBA) lis (fun o b hb=>(hA o b hb).1) c _ _ _ ?_ _ w ⟨M,β,g0⟩ h)
   intro ex s a w' ⟨M',β',g⟩ h'
   have fin:eF P F.ntmps (finish T fc F.results.toList F.resultTypes.toList s) (fun _ xs obs=>R (xs.headD .any) obs) ->
    a.defers=[]/\∃v,(results F a.tmps).run P w'=.ok v w'/\∃v' r obs M'' β'',Ending.returned v=.returned v'/\R r obs/\Out w M β ins.length r obs v' w' M'' β'':=by
    intro h'
    unfold finish at h'
    split at h'
    ·rename_i ps as' hres
     split at h'
     ·rename_i obs' os' hkeep
      split at h'
      ·rename_i xs obs os fz hout
       cases hgd:(nodup (os'++os)&&!((os'++os).any (gb fz)))with
       |false=>rw[hgd]at h';exact h'.elim
       |true =>
       rw[hgd]at h'
       simp only[cond_true]at h'
       simp only[aw,cf]at hgd
       obtain⟨hnd,hdj⟩:=hgd
       obtain⟨n1,n2,n3⟩:=ew hnd
       have hdj':∀o,o∈os'++os->o∉fz:=fun o ho hf=>by
        rw[List.any_eq_false]at hdj
        exact hdj o ho (mv.2 hf)
       obtain⟨hp,hR⟩:=gN.1 h'
       obtain⟨rs,h1,h2,h3⟩:=oA hT g F.results.toList hres hp
       obtain⟨M1,hM,g1⟩:=g.freeze fz
       have h0:∀o x,o∈os'++os->s.ob o=some x->({s with ob:=cy s.ob (fI s.ob fz)}:St).ob o=some x:=fun o x ho hx=>by
        show cy s.ob (fI s.ob fz) o=some x
        rw[nv _ _ _ (by rw[ua];exact hdj' o ho)];exact hx
       obtain⟨β2,U2,f2,b1,b2,b3,b4,b5,b6,b7,b8,b9⟩:=oe g1 (dB fc.mu) hkeep (fun o x ho=>h0 o x (aB _ ho)) gk.nil (fun _ _=>rfl) n1 (fun _ _ hh=>by cases hh)
       simp only[aW]at b4 b6
       obtain⟨β3,U3,f3,d1,d2,d4,d5,d6,d7,d8⟩:=qy (T:=T) g1 as' hout g1.fz (fun o x ho=>h0 o x (az _ ho)) b1 b4 n2 (fun o ho hh=>by
        rcases b3 o hh with h|h
        ·exact n3 o h ho
        ·cases h)
       have hall:∀q,q<(obs'++obs).length->(obs'++obs).getD q .dead=.dead\/f3 q=some ((obs'++obs).getD q .dead):=fun q hq=>by
        by_cases hlt:q<obs'.length
        ·have e1:(obs'++obs).getD q .dead=obs'.getD q .dead:=by simp[aa,ba,hlt]
         rw[e1,d5 q hlt];exact b6 q hlt
        ·have e1:(obs'++obs).getD q .dead=obs.getD (q-obs'.length) .dead:=by simp[aa,ba,hlt]
         have:=d6 (q-obs'.length) (by simp at hq;omega)
         rw[show obs'.length+(q-obs'.length)=q by omega]at this
         rw[e1];exact .inr this
       have hlive:∀q,q<(obs'++obs).length->((obs'++obs).getD q .dead).live=true->f3 q=some ((obs'++obs).getD q .dead):=fun q hq hl=>by
        rcases hall q hq with h|h
        ·rw[h]at hl;cases hl
        ·exact h
       have hrep:∀i,i<xs.length->bu M1 β3 (xs.getD i .any) (rs.getD i undef):=fun i hi=>d8 i _ (by omega) ((h3 i (by omega)).mono hM (Lo.le.refl _))
       have hrun:(results F a.tmps).run P w'=.ok (if h:rs.toArray.size=1 then rs.toArray[0]else .tuple rs.toArray) w':=by
        rw[qH,Sem.run_bind,Array.mapM_eq_mapM_toList]
        simp only[Sem.run_map,h1]
        rfl
       have hkp:∀j l,j∈fx->β j=some l->β3 j=some l:=fun j l hmem hb=>by
        have hfix:A.fix j=some l:=by
         show (bif gb fx j then β j else none)=some l
         rw[mv.2 hmem,hb];rfl
        obtain⟨⟨x,hx⟩,b',q1,q2⟩:=b8 j hmem
        have:=(g1.fix j l hfix).2 x hx
        rw[q1]at this;cases this
        exact d2 _ _ q2
       refine⟨g.lZ,_,hrun,_,_,obs'++obs,M1,β3,rfl,hR,?_⟩
       have hxl:xs.length=rs.length:=by omega
       refine⟨g1.le,g1.agree,?_,fun j hj=>?_,fun j b hj hb=>?_,fun j l sz es hj hb he=>?_,fun i j b hne hi hj hli hlj hb=>?_,fun j b hj hl hb=>?_,fun b k v hc=>g1.new b k v hc,⟨g1.cA.os,g1.cA.tape,g1.cA.output,g1.cA.size,g1.cA.block⟩⟩
       ·match xs,rs,hxl,hrep with
        |[],[],_,_=>exact .any _ _
        |[x],[r],_,hrep=>simpa using hrep 0 (by simp)
        |x::y::xs,r::q::rs,hl,hrep=>exact .cQ _ _ _ (by simpa using hl) hrep
       ·rcases hall j hj with h|h
        ·rw[h];trivial
        ·exact d1.own j _ h
       ·have hcells:∃cs,ins.getD j .dead=.cells cs:=by
         have h1:=hin.own j hj
         have hl:=iX _ _ hal j hj
         cases e:ins.getD j .dead with
         |cells cs=>exact⟨cs,rfl⟩
         |vec z es=>rw[e]at h1;obtain⟨u,h2,_⟩:=h1;rw[hb]at h2;cases h2
         |l8 z es=>rw[e]at h1;obtain⟨u,h2,_⟩:=h1;rw[hb]at h2;cases h2
         |_=>rw[e]at hl;cases hl
        obtain⟨cs,ecs⟩:=hcells
        have hmem:=lq _ _ 0 hal j cs hj ecs
        rw[aW]at hmem
        exact hkp j _ hmem hb
       ·have hlt:j<obs'.length:=by omega
        have e1:(obs'++obs).getD j .dead=obs'.getD j .dead:=by simp[aa,ba,hlt]
        rw[e1]at he
        have hmem:=b9 j sz es hlt he
        rw[aW]at hmem
        exact hkp j _ hmem hb
       ·exact d1.apart i j _ _ b hne (hlive i hi hli) hli (hlive j hj hlj) hlj hb
       ·obtain⟨o,x0,_,r2,r3,r4⟩:=d1.src j _ b (hlive j hj hl) hl hb
        exact g1.place o x0 b r2 r3 r4
      ·exact h'.elim
     ·exact h'.elim
    ·exact h'.elim
   cases ex with
   |normal=>exact fin h'
   |ret=>exact fin h'
   |exit i=>exact h'.elim
end
end Go.VL
namespace Go.VL
open Go Go.RowKit
section
variable {T:eC} {e e':Operand->AV} {ob ob':Nat->Option Ob}
theorem xx{fs:List (Nat×Nat)}{m:Nat}:∀{ps:List (Nat×Operand)},(∀p,p∈ps->e p.2=e' p.2)->rR T fs m e ps=rR T fs m e' ps
 |[],_=>rfl
 |
  p::ps,h=>by
  simp only[rR]
  rw[h p ai,xx fun q hq=>h q (ak _ hq)]
theorem xf{z m:Nat}:∀{ps:List (Nat×Operand)},(∀p,p∈ps->e p.2=e' p.2)->qJ z m e ps=qJ z m e' ps
 |[],_=>rfl
 |
  p::ps,h=>by
  simp only[qJ]
  rw[h p ai,xf fun q hq=>h q (ak _ hq)]
theorem tv{f:Nat->Nat}:∀{ps:List (Nat×Operand)} {cs:List AV},(∀p,p∈ps->e p.2=e' p.2)->ps.foldl (fun cs p=>io cs (f p.1) (flat (e p.2))) cs=ps.foldl (fun cs p=>io cs (f p.1) (flat (e' p.2))) cs
 |[],_,_=>rfl
 |
  p::ps,cs,h=>by
  simp only[List.foldl_cons]
  rw[h p ai,tv fun q hq=>h q (ak _ hq)]
theorem D7:∀{ps:List (Nat×Operand)},(∀p,p∈ps->e p.2=e' p.2)->ps.map (fun p=>e p.2)=ps.map fun p=>e' p.2
 |[],_=>rfl
 |p::ps,h=>by simp only[bp];rw[h p ai,D7 fun q hq=>h q (ak _ hq)]
theorem DX:∀{ps:List (Nat×Operand)},(∀p,p∈ps->e p.2=e' p.2)->(ps.all fun p=>mZ (e p.2))=ps.all fun p=>mZ (e' p.2)
 |[],_=>rfl
 |p::ps,h=>by simp only[cL];rw[h p ai,DX fun q hq=>h q (ak _ hq)]
theorem wx:∀{xs:List Operand},(∀x,x∈xs->e x=e' x)->xs.map e=xs.map e'
 |[],_=>rfl
 |x::xs,h=>by simp only[bp];rw[h x ai,wx fun q hq=>h q (ak _ hq)]
theorem B3{lo:Option Operand}(h:∀x,lo=some x->e x=e' x):iv e lo=iv e' lo:=by
 cases lo with
 |none=>rfl
 |some x=>simp only[iv];rw[h x rfl]
theorem BG{n:Nat}{lo:Option Operand}(h:∀x,lo=some x->e x=e' x):gB e n lo=gB e' n lo:=by
 cases lo with
 |none=>rfl
 |some x=>simp only[gB];rw[h x rfl]
theorem Iy(o:Oper)(h:∀x,x∈o.op.operands->e x=e' x):dL T e ob o=dL T e' ob o:=by
 cases ho:o.op with
 |move x=>have h1:=h x (by simp[ho,Op.operands]);unfold dL;rw[ho];simp only[h1]
 |assign x=>have h1:=h x (by simp[ho,Op.operands]);unfold dL;rw[ho];simp only[h1]
 |
  pick c x y =>
  have h1:=h c (by simp[ho,Op.operands]);have h2:=h x (by simp[ho,Op.operands]);have h3:=h y (by simp[ho,Op.operands])
  unfold dL;rw[ho];simp only[h1,h2,h3]
 |binOp op t x y t'=>have h1:=h x (by simp[ho,Op.operands]);have h2:=h y (by simp[ho,Op.operands]);unfold dL;rw[ho];simp only[h1,h2]
 |unOp op t x=>have h1:=h x (by simp[ho,Op.operands]);cases op<;>(unfold dL;rw[ho];try simp only[h1])
 |nilCheck x=>have h1:=h x (by simp[ho,Op.operands]);unfold dL;rw[ho];simp only[h1]
 |fieldAddr t x f=>have h1:=h x (by simp[ho,Op.operands]);unfold dL;rw[ho];simp only[h1]
 |field t x f=>have h1:=h x (by simp[ho,Op.operands]);unfold dL;rw[ho];simp only[h1]
 |load t x=>have h1:=h x (by simp[ho,Op.operands]);unfold dL;rw[ho];simp only[h1]
 |indexAddr t x i=>have h1:=h x (by simp[ho,Op.operands]);have h2:=h i (by simp[ho,Op.operands]);unfold dL;rw[ho];simp only[h1,h2]
 |index t x i=>have h1:=h x (by simp[ho,Op.operands]);have h2:=h i (by simp[ho,Op.operands]);unfold dL;rw[ho];simp only[h1,h2]
 |extract x i=>have h1:=h x (by simp[ho,Op.operands]);unfold dL;rw[ho];simp only[h1]
 |
  slice t x lo hi mx =>
  have h1:=h x (by simp[ho,Op.operands])
  have h2:iv e lo=iv e' lo:=B3 fun y hy=>h y (by simp[ho,Op.operands,hy])
  have h3:∀n,gB e n hi=gB e' n hi:=fun n=>BG fun y hy=>h y (by simp[ho,Op.operands,hy])
  cases mx<;>(unfold dL;rw[ho];try simp only[h1,h2,h3])
 |convert st dt x=>have h1:=h x (by simp[ho,Op.operands]);unfold dL;rw[ho];simp only[h1]
 |
  build t ps =>
  have hp:∀p,p∈ps.toList->e p.2=e' p.2:=fun p hp=>h p.2 (by rw[ho];simp only[Op.operands,List.mem_toArray];exact bZ.2 ⟨p,hp,rfl⟩)
  unfold dL;rw[ho]
  simp only[xx hp,xf hp]
  congr 1
  split
  ·rename_i fs _;simp only[tv (f:=fun i=>(fs.getD i (0,0)).1) hp]
  ·rename_i m el _;simp only[tv (f:=fun i=>i*(T el).sz) hp]
  ·rfl
 |alloc t=>unfold dL;rw[ho]
 |box t x=>have h1:=h x (by simp[ho,Op.operands]);unfold dL;rw[ho];simp only[h1]
 |store t x y=>have h1:=h x (by simp[ho,Op.operands]);have h2:=h y (by simp[ho,Op.operands]);unfold dL;rw[ho];simp only[h1,h2]
 |
  buildSlice t m ps =>
  have hp:∀p,p∈ps.toList->e p.2=e' p.2:=fun p hp=>h p.2 (by rw[ho];simp only[Op.operands,List.mem_toArray];exact bZ.2 ⟨p,hp,rfl⟩)
  unfold dL;rw[ho]
  simp only[D7 hp,DX hp]
 |makeSlice t l c=>have h1:=h l (by simp[ho,Op.operands]);unfold dL;rw[ho];simp only[h1]
 |
  call c =>
  obtain⟨callee,xs,ts⟩:=c
  have hx:∀x,x∈xs->e x=e' x:=fun x hx=>h x (by rw[ho];simp only[Op.operands,Call.operands];exact Array.mem_append.2 (.inr hx))
  have hl:∀x,x∈xs.toList->e x=e' x:=fun x h=>hx x (by simpa using h)
  cases callee with
  |
   builtin b =>
   cases b with
   |
    len =>
    unfold dL;rw[ho];simp only
    split
    ·rename_i x t hxs hts
     simp only[hl x (by rw[hxs];simp)]
    ·rfl
   |
    append =>
    unfold dL;rw[ho];simp only
    split
    ·rename_i x y t t' d hxs hts hd
     simp only[hl x (by rw[hxs];simp),hl y (by rw[hxs];simp)]
    ·rfl
   |
    max =>
    unfold dL;rw[ho];simp only
    split
    ·rename_i x y hxs
     simp only[hl x (by rw[hxs];simp),hl y (by rw[hxs];simp)]
    ·rfl
   |
    min =>
    unfold dL;rw[ho];simp only
    split
    ·rename_i x y hxs
     simp only[hl x (by rw[hxs];simp),hl y (by rw[hxs];simp)]
    ·rfl
   |_=>unfold dL;rw[ho]
  |_=>unfold dL;rw[ho]
 |
  makeFunc f fs cs =>
  have hl:∀x,x∈cs.toList->e x=e' x:=fun x hx=>h x (by rw[ho];simp only[Op.operands];exact Array.mem_append.2 (.inr (by simpa using hx)))
  cases f with
  |func f=>unfold dL;rw[ho];simp only[wx hl]
  |_=>unfold dL;rw[ho]
 |_=>unfold dL;rw[ho]
end
end Go.VL
namespace Go.VL
open Go Go.RowKit
section
variable {T:eC} {e:Operand->AV} {ob ob':Nat->Option Ob}
theorem BN{f f':AV->Option (AV×List Nat)}(hf:∀c a os,f c=some (a,os)->(∀m,m∈os->ob' m=ob m)->f' c=some (a,os)):∀{cs:List AV} {asq:List (List AV)} {os:List Nat},tq f cs=some (asq,os)->(∀m,m∈os->ob' m=ob m)->tq f' cs=some (asq,os)
 |[],asq,os,h,_=>h
 |
  c::cs,asq,os,h,hm=>by
  unfold tq at h
  split at h
  ·rename_i a1 o1 a2 o2 h1 h2
   cases h
   have q1:=u3 hf h1 fun m h=>hm m (aB _ h)
   have q2:=BN hf h2 fun m h=>hm m (az _ h)
   simp[tq,q1,q2]
  ·cases h
theorem vQ:∀{os:List Nat},(∀m,m∈os->ob' m=ob m)->fI ob' os=fI ob os
 |[],_=>rfl
 |
  o::os,hm=>by
  show (o,cC (ob' o))::fI ob' os=(o,cC (ob o))::fI ob os
  rw[hm o ai,vQ fun m h=>hm m (ak _ h)]
theorem kL{x:AV}{p:Option Prop}{es:List (List AV)}{os:List Nat}(h:eZ ob x=some (p,es,os))(hm:∀m,m∈os->ob' m=ob m):eZ ob' x=some (p,es,os):=by
 unfold eZ at h |-
 split at h
 ·exact h
 ·exact h
 ·exact h
 ·rename_i o
  split at h
  ·rename_i sz es' ho;cases h;rw[hm o ai,ho]
  ·rename_i es' ho;cases h;rw[hm o ai,ho]
  ·cases h
 ·cases h
def sZ:DR->List Nat
 | .no=>[]
 | .ff d=>d.rd++ml d
 | .ok _ d=>d.rd++ml d
def Same(ob ob':Nat->Option Ob)(r r':DR):Prop:=r=.no\/((∀m,m∈sZ r->ob' m=ob m)->r'=r)
theorem Same.refl(r:DR):Same ob ob' r r:=.inr fun _=>rfl
theorem ef{q:Bool}{r r':DR}(h:Same ob ob' r r'):Same ob ob' (dm q r) (dm q r'):=by
 cases q
 ·exact .inl rfl
 ·exact h
theorem jN{q:Option Prop}{r:DR}:sZ (r.when q)=sZ r:=by
 cases q<;>cases r<;>rfl
theorem iF{r:DR}{o:Nat}{r':DR}(h:ob' o=ob o->r'=r.reads o):Same ob ob' (r.reads o) r':=by
 cases r with
 |no=>exact .inl rfl
 |ff d=>exact .inr fun hm=>h (hm o (by simp[DR.reads,sZ]))
 |ok p d=>exact .inr fun hm=>h (hm o (by simp[DR.reads,sZ]))
theorem BI(t:TI)(x:AV):Same ob ob' (loadAt ob t x) (loadAt ob' t x):=by
 unfold loadAt
 cases x<;>first|exact .refl _|skip
 ·rename_i o k
  simp only
  cases ho:ob o with
  |none=>exact .inl rfl
  |
   some y =>
   cases y<;>first|exact .inl rfl|skip
   ·exact iF fun h=>by rw[h,ho]
   ·exact iF fun h=>by rw[h,ho]
 ·rename_i o k
  simp only
  cases ho:ob o with
  |none=>exact .inl rfl
  |
   some y =>
   cases y<;>first|exact .inl rfl|skip
   ·exact iF fun h=>by rw[h,ho]
   ·exact iF fun h=>by rw[h,ho]
 ·rename_i o i k
  simp only
  cases ho:ob o with
  |none=>exact .inl rfl
  |
   some y =>
   cases y<;>first|exact .inl rfl|skip
   ·exact iF fun h=>by rw[h,ho]
   ·exact iF fun h=>by rw[h,ho]
theorem yV(t:TI)(x:AV)(i:Int):Same ob ob' (indexAt T ob t x i) (indexAt T ob' t x i):=by
 unfold indexAt
 cases hk:t.k<;>cases x<;>first|exact .refl _|skip
 rename_i el o
 refine ef ?_
 cases ho:ob o with
 |none=>exact .inl rfl
 |
  some y =>
  cases y<;>first|exact .inl rfl|skip
  ·rename_i sz es
   cases hz:aJ sz (T el).sz with
   |false=>left;show dm (aJ sz (T el).sz) _=_;rw[hz];rfl
   |
    true =>
    refine .inr fun hm=>?_
    have:=hm o (by show o∈sZ (dm (aJ sz (T el).sz) _);rw[hz];simp[dm,sZ])
    rw[this,ho]
  ·refine .inr fun hm=>?_
   have:=hm o (by simp[sZ])
   rw[this,ho]
theorem Jv(o:Oper):Same ob ob' (dL T e ob o) (dL T e ob' o):=by
 cases ho:o.op with
 |load t x=>unfold dL;rw[ho];exact BI _ _
 |
  indexAddr t x i =>
  unfold dL;rw[ho]
  refine ef ?_
  try simp only
  split
  ·exact yV _ _ _
  ·exact .inl rfl
 |
  slice t x lo hi mx =>
  cases mx with
  |some m=>unfold dL;rw[ho];exact .inl rfl
  |
   none =>
   unfold dL;rw[ho]
   refine ef ?_
   try simp only
   split
   ·exact .refl _
   ·rename_i el o' hk hx
    refine ef ?_
    cases hob:ob o' with
    |none=>exact .inl rfl
    |
     some y =>
     cases y<;>first|exact .inl rfl|skip
     ·rename_i sz es
      try simp only
      cases hz:aJ sz (T el).sz with
      |false=>exact .inl rfl
      |
       true =>
       simp only[dm,cond_true]
       split
       ·rename_i l h hl hh
        refine .inr fun hm=>?_
        rw[hm o' (by simp[sZ,ml]),hob]
        simp only[hz,cond_true,hl,hh]
       ·exact .inl rfl
     ·rename_i es
      try simp only
      split
      ·rename_i l h hl hh
       refine .inr fun hm=>?_
       rw[hm o' (by rw[jN];simp[sZ]),hob]
       simp only[hl,hh]
      ·exact .inl rfl
   ·rename_i el hk hnv
    refine ef ?_
    cases he:eZ ob (e x)with
    |none=>exact .inl rfl
    |
     some q =>
     obtain⟨p,es,os⟩:=q
     try simp only
     split
     ·rename_i l h hl hh
      refine .inr fun hm=>?_
      rw[jN,jN]at hm
      rw[kL he fun m hmm=>hm m (by simp[sZ,hmm])]
      simp only[hl,hh]
     ·exact .inl rfl
   ·exact .inl rfl
 |
  convert st dt x =>
  unfold dL;rw[ho]
  refine ef ?_
  try simp only
  split
  ·refine ef ?_
   cases he:eZ ob (e x)with
   |none=>exact .inl rfl
   |
    some q =>
    obtain⟨p,es,os⟩:=q
    try simp only
    refine .inr fun hm=>?_
    rw[jN]at hm
    rw[kL he fun m hmm=>hm m (by simp[sZ,hmm])]
  ·exact .refl _
  ·exact .inl rfl
 |
  store t x y =>
  unfold dL;rw[ho]
  refine ef (ef ?_)
  try simp only
  split
  ·rename_i m k hx
   cases hob:ob m with
   |none=>exact .inl rfl
   |
    some z =>
    cases z<;>first|exact .inl rfl|skip
    rename_i cs
    try simp only
    cases hk:fG (k+(flat (e y)).length) cs.length with
    |false=>exact .inl rfl
    |
     true =>
     refine .inr fun hm=>?_
     rw[hm m (by simp[dm,sZ,ml]),hob]
     simp only[hk]
  ·rename_i m k hx
   cases hob:ob m with
   |none=>exact .inl rfl
   |
    some z =>
    cases z<;>first|exact .inl rfl|skip
    refine .inr fun hm=>?_
    rw[hm m (by simp[sZ,ml]),hob]
  ·rename_i m i k hx
   cases hob:ob m with
   |none=>exact .inl rfl
   |
    some z =>
    cases z<;>first|exact .inl rfl|skip
    try simp only
    split
    ·rename_i xs hf
     refine .inr fun hm=>?_
     rw[hm m (by simp[sZ,ml]),hob]
     try simp only
     rw[u3 (ob:=ob) (ob':=ob') (os:=[]) (fun c a os=>mf (ob:=ob) (ob':=ob') ek c a os) hf (fun m hmm=>by simp at hmm)]
    ·exact .inl rfl
  ·exact .inl rfl
 |
  buildSlice t m ps =>
  unfold dL;rw[ho]
  refine ef ?_
  try simp only
  split
  ·refine ef ?_
   split
   ·rename_i asq os hf
    rename_i el d _ _ _
    generalize hC:(ps.toList.map (·.1)==bb m&&fG (m*(T el).sz) 16777216&&asq.all (fun a=>aJ a.length (T el).sz)&&ps.toList.all fun p=>mZ (e p.2))=C
    cases C with
    |false=>exact .inl rfl
    |
     true =>
     refine .inr fun hm=>?_
     have hos:∀q,q∈os->ob' q=ob q:=fun q hq=>hm q (by simp[dm,sZ,ml,fI,hq])
     rw[BN (ob:=ob) (ob':=ob') (fun c a os=>mf (ob:=ob) (ob':=ob') ek c a os) hf hos]
     simp only[vQ hos,hC]
   ·exact .inl rfl
  ·exact .inl rfl
 |
  call c =>
  obtain⟨callee,xs,ts⟩:=c
  cases callee with
  |
   builtin b =>
   cases b with
   |
    len =>
    unfold dL;rw[ho];simp only
    split
    ·rename_i x t hxs hts
     refine ef ?_
     split
     ·exact .refl _
     ·exact .refl _
     ·cases he:eZ ob (e x)with
      |none=>exact .inl rfl
      |
       some q =>
       obtain⟨p,es,os⟩:=q
       try simp only
       refine .inr fun hm=>?_
       rw[jN]at hm
       rw[kL he fun m hmm=>hm m (by simp[sZ,hmm])]
     ·exact .inl rfl
    ·exact .inl rfl
   |
    append =>
    unfold dL;rw[ho];simp only
    split
    ·rename_i x y t t' d hxs hts hd
     refine ef ?_
     cases he:eZ ob (e y)with
     |none=>left;split<;>first|rfl|(rename_i h;cases h)
     |
      some q =>
      obtain⟨p,fs,os⟩:=q
      cases hk:(T t).k<;>first|exact .inl rfl|skip
      rename_i el
      cases hb:((T el).kn&&cv 0 (T el).bytes)with
      |false=>left;show dm ((T el).kn&&cv 0 (T el).bytes) _=_;rw[hb];rfl
      |
       true =>
       show Same ob ob' (dm ((T el).kn&&cv 0 (T el).bytes) _) _
       rw[hb]
       simp only[dm,cond_true]
       split
       ·rename_i m hx
        cases hob:ob m with
        |none=>exact .inl rfl
        |
         some z =>
         cases z<;>first|exact .inl rfl|skip
         rename_i sz es
         cases hz:aJ sz (T el).sz with
         |false=>left;show cond (aJ sz (T el).sz) _ _=_;rw[hz];rfl
         |
          true =>
          show Same ob ob' (cond (aJ sz (T el).sz) _ _) _
          rw[hz]
          simp only[cond_true]
          refine .inr fun hm=>?_
          rw[jN]at hm
          rw[kL he fun q hq=>hm q (by simp[sZ,hq])]
          simp only[hb,cond_true,hm m (by simp[sZ,ml]),hob,hz]
       ·rename_i hx
        refine .inr fun hm=>?_
        rw[jN]at hm
        rw[kL he fun q hq=>hm q (by simp[sZ,hq])]
        simp only[hb,cond_true]
       ·exact .inl rfl
    ·exact .inl rfl
   |_=>unfold dL;rw[ho];exact .refl _
  |_=>unfold dL;rw[ho];exact .refl _
 |unOp op t x=>cases op<;>(unfold dL;rw[ho];exact .refl _)
 |makeFunc f fs cs=>cases f<;>(unfold dL;rw[ho];exact .refl _)
 |_=>unfold dL;rw[ho];exact .refl _
end
end Go.VL
namespace Go.VL
open Go Go.RowKit
section
variable {T:eC} {cw:Nat->FC} {e e':Operand->AV} {ob ob':Nat->Option Ob}
def DF:zH->List Nat
 | .d _ d=>d.rd
 |_=>[]
def yM:zH->List Nat
 | .d _ d=>ml d
 | .c _ _ _ wr _=>wr
 | .no=>[]
theorem Db{ks:List CK}{cs asq:List AV}{obs:List Ob}{os:List Nat}{j:Nat}(h:qD ob ks cs j=some (asq,obs,os))(hm:∀m,m∈os->ob' m=ob m):qD ob' ks cs j=some (asq,obs,os):=by
 unfold qD at h |-
 split at h
 ·rename_i as' sz es o h1
  split at h
  ·rename_i h2
   cases hb:aJ sz (lL ks)with
   |false=>rw[hb]at h;cases h
   |
    true =>
    rw[hb]at h;cases h
    rw[lG _ h1 hm]
    simp only[hm o ai,h2,hb,cond_true]
  ·cases h
 ·cases h
theorem xr{m:MK}{c c':AV}{obs:List Ob}{os:List Nat}{j:Nat}(h:oN ob m c j=some (c',obs,os))(hm:∀m,m∈os->ob' m=ob m):oN ob' m c j=some (c',obs,os):=by
 unfold oN at h |-
 split at h
 ·split at h
  ·rename_i ho;cases h;rw[hm _ ai,ho]
  ·cases h
 ·rename_i ks o
  split at h
  ·rename_i sz es ho
   cases hb:aJ sz (lL ks)with
   |false=>rw[hb]at h;cases h
   |
    true =>
    rw[hb]at h;cases h
    rw[hm _ ai,ho]
    simp only[hb,cond_true]
  ·cases h
 ·rename_i ks cs
  cases e:qD ob ks cs j with
  |none=>rw[e]at h;cases h
  |
   some r =>
   obtain⟨as1,obs1,os1⟩:=r
   rw[e]at h;cases h
   have:=Db e hm
   rw[this]
 ·split at h
  ·rename_i ho
   split at h
   ·rename_i h1;cases h;rw[hm _ ai,ho];simp only;rw[lG _ h1 fun m hh=>hm m (ak _ hh)]
   ·cases h
  ·cases h
 ·cases h
theorem tV:∀(ms:List (Option MK)) {cs asq:List AV} {obs:List Ob} {os:List Nat} {j:Nat},fF ob ms cs j=some (asq,obs,os)->(∀m,m∈os->ob' m=ob m)->fF ob' ms cs j=some (asq,obs,os)
 |
  [],cs,asq,obs,os,j,h,hm=>by
  cases cs with
  |nil=>exact h
  |cons c cs=>simp[fF]at h
 |
  none::ms,cs,asq,obs,os,j,h,hm=>by
  cases cs with
  |nil=>simp[fF]at h
  |
   cons c cs =>
   simp only[fF]at h |-
   split at h
   ·rename_i h1 h2;cases h;rw[D1 h1,tV ms h2 hm]
   ·cases h
 |
  some m::ms,cs,asq,obs,os,j,h,hm=>by
  cases cs with
  |nil=>simp[fF]at h
  |
   cons c cs =>
   simp only[fF]at h |-
   split at h
   ·rename_i h1
    split at h
    ·rename_i h2;cases h
     rw[xr h1 fun m hh=>hm m (aB _ hh)]
     simp only
     rw[tV ms h2 fun m hh=>hm m (az _ hh)]
    ·cases h
   ·cases h
theorem C8{m:PK}{c c':AV}{obs:List Ob}{os:List Nat}{j:Nat}(h:pH ob m c j=some (c',obs,os))(hm:∀m,m∈os->ob' m=ob m):pH ob' m c j=some (c',obs,os):=by
 unfold pH at h |-
 split at h
 ·exact xr h hm
 ·split at h
  ·rename_i h1;cases h;rw[tV _ h1 hm]
  ·cases h
 ·cases h
theorem BO{f:Nat}{c:AV}{l:List (Option Nat)}{fz:List Nat}(h:rh ob f c=some (l,fz))(hm:∀m,m∈fz->ob' m=ob m):rh ob' f c=some (l,fz):=by
 unfold rh at h |-
 split at h
 ·exact h
 ·rename_i o
  have key:∀f' caps,(bif aJ f' f then(n8 o caps).map fun l=>(l,[o])else none)=some (l,fz)->fz=[o]:=fun f' caps h=>by
   cases hb:aJ f' f with
   |false=>rw[hb]at h;cases h
   |
    true =>
    rw[hb]at h
    cases e:n8 o caps with
    |none=>rw[e]at h;cases h
    |some l'=>rw[e]at h;cases h;rfl
  split at h
  ·rename_i f' caps ho
   have:=hm o (by rw[key f' caps h];exact ai)
   simp only[this,ho];exact h
  ·rename_i f' caps ho
   have:=hm o (by rw[key f' caps h];exact ai)
   simp only[this,ho];exact h
  ·cases h
 ·cases h
theorem qz(mu:List (Nat×PK)):∀(asq:List AV) {i j:Nat} {as':List AV} {ins:List Ob} {os fz:List Nat},iw ob mu asq i j=some (as',ins,os,fz)->(∀m,m∈os->ob' m=ob m)->(∀m,m∈fz->ob' m=ob m)->iw ob' mu asq i j=some (as',ins,os,fz)
 |[],i,j,as',ins,os,fz,h,hm,hz=>h
 |
  c::asq,i,j,as',ins,os,fz,h,hm,hz=>by
  simp only[iw]at h |-
  split at h
  ·split at h
   ·rename_i h1 h2;cases h
    rw[BO (ob:=ob) (ob':=ob') h1 fun m hh=>hz m (aB _ hh),qz mu asq h2 hm fun m hh=>hz m (az _ hh)]
   ·cases h
  ·rename_i m hl
   split at h
   ·rename_i h1
    split at h
    ·rename_i h2;cases h
     rw[C8 h1 fun m hh=>hm m (aB _ hh)]
     simp only
     rw[qz mu asq h2 (fun m hh=>hm m (az _ hh)) hz]
    ·cases h
   ·cases h
  ·split at h
   ·rename_i h1 h2;cases h
    rw[mf (ob:=ob) (ob':=ob') ek _ _ _ h1 fun m hh=>hz m (aB _ hh),qz mu asq h2 hm fun m hh=>hz m (az _ hh)]
   ·cases h
theorem qB(mu:List (Nat×PK))(os0:List Nat)(ins0:List Ob):∀(asq:List AV) {i j:Nat} {as':List AV} {ins:List Ob} {os fz:List Nat},iw ob mu asq i j=some (as',ins,os,fz)->(∀m,m∈fz->ob' m=ob m)->lR ob' mu os0 ins0 asq i=lR ob mu os0 ins0 asq i
 |[],i,j,as',ins,os,fz,h,hz=>rfl
 |
  c::asq,i,j,as',ins,os,fz,h,hz=>by
  simp only[iw]at h
  split at h
  ·rename_i f js hl
   split at h
   ·rename_i h1 h2;cases h
    simp only[lR,hl]
    rw[BO (ob:=ob) (ob':=ob') h1 fun m hh=>hz m (aB _ hh),h1,qB mu os0 ins0 asq h2 fun m hh=>hz m (az _ hh)]
   ·cases h
  ·rename_i m hne hl
   split at h
   ·split at h
    ·rename_i h2;cases h
     simp only[lR,hl]
     rw[qB mu os0 ins0 asq h2 hz]
     cases m<;>first|rfl|exact absurd rfl (hne _ _)
    ·cases h
   ·cases h
  ·rename_i hl
   split at h
   ·rename_i h1 h2;cases h
    simp only[lR,hl]
    rw[qB mu os0 ins0 asq h2 fun m hh=>hz m (az _ hh)]
   ·cases h
theorem wY{o:Oper}{f:Nat}{asq:List AV}(hne:fX T cw e ob o f asq≠.no)(hm:∀m,m∈yM (fX T cw e ob o f asq)->ob' m=ob m):fX T cw e' ob' o f asq=fX T cw e ob o f asq:=by
 unfold fX at hne hm |-
 simp only at hne hm |-
 generalize cw (keyOf f asq)=c at hne hm |-
 split at hne
 ·rename_i as' ins os fz h
  rw[h]at hm
  cases hq:(nodup os&&(!(os.any (gb fz))&&(dY (dB c.mu) ins&&(lR ob c.mu os ins asq 0&&rJ (dB c.mu) os ins))))with
  |false=>rw[hq]at hne;exact absurd rfl hne
  |
   true =>
   simp only[hq,cond_true,yM]at hm
   have hz:∀m,m∈fz->ob' m=ob m:=fun m hh=>hm m (aB _ hh)
   have ho:∀m,m∈os->ob' m=ob m:=fun m hh=>hm m (az _ (aB _ hh))
   rw[qz c.mu asq h ho hz]
   simp only[qB c.mu os ins asq h hz,hq,cond_true,vQ hz]
 ·exact absurd rfl hne
theorem j4:∀(ms:List MK) (os:List Nat) (obs obs':List Ob) (j nm:Nat),(dC ms os obs j nm).2.1.map (·.1)=(dC ms os obs' j nm).2.1.map (·.1)/\(dC ms os obs j nm).2.2.2=(dC ms os obs' j nm).2.2.2
 |[],os,obs,obs',j,nm=>⟨rfl,rfl⟩
 | .vec::ms,os,obs,obs',j,nm=>j4 ms os.tail obs.tail obs'.tail (j+1) nm
 |
  .cA g ks::ms,os,obs,obs',j,nm=>by
  obtain⟨h1,h2⟩:=j4 ms os.tail obs.tail obs'.tail (j+1) nm
  exact⟨by simp only[dC,bp,h1],h2⟩
 |
  .obj ks::ms,os,obs,obs',j,nm=>by
  obtain⟨a1,a2⟩:=dD ks (obs.headD .dead).cs 0 obs.tail nm
  obtain⟨b1,b2⟩:=dD ks (obs'.headD .dead).cs 0 obs'.tail nm
  simp only[dC,List.map_append,bp,a1,b1,a2,b2]
  obtain⟨h1,h2⟩:=j4 ms (os.drop (bC ks+1)) (bI ks (obs.headD .dead).cs 0 obs.tail nm).2.2.1 (bI ks (obs'.headD .dead).cs 0 obs'.tail nm).2.2.1 (j+1+bC ks) (nm+bC ks)
  exact⟨by rw[h1],h2⟩
theorem lK{own:List Nat}{oa:List CK}:∀(ts:List Nat) (r r':AV) (i j:Nat) (obs obs':List Ob) (nm:Nat),(eg T own oa r ts i j obs nm).2.2.map (·.1)=(eg T own oa r' ts i j obs' nm).2.2.map (·.1)
 |[],r,r',i,j,obs,obs',nm=>rfl
 |
  t::ts,r,r',i,j,obs,obs',nm=>by
  simp only[eg]
  cases own.any (aJ i)with
  |
   true =>
   cases (T t).agg with
   |
    true =>
    simp only[cond_true,List.map_append]
    rw[(dD _ _ _ _ _).1,(dD _ _ _ _ _).1,(dD _ _ _ _ _).2,(dD _ _ _ _ _).2,lK ts r r' (i+1) (j+bC oa) _ (bI oa (r'.comp i).cs 0 obs' nm).2.2.1 (nm+bC oa)]
   |false=>simp only[cond_true,cond_false,bp];rw[lK ts r r' (i+1) (j+1) obs.tail obs'.tail (nm+1)]
  |false=>simp only[cond_false];exact lK ts r r' (i+1) j obs obs' nm
theorem wT{own:List Nat}{ow:List LK}{oa:List CK}(t:Nat)(r r':AV)(j:Nat)(obs obs':List Ob)(nm:Nat):(dI T own ow oa t r j obs nm).2.2.map (·.1)=(dI T own ow oa t r' j obs' nm).2.2.map (·.1):=by
 unfold dI
 split
 ·rfl
 ·exact lK _ _ _ _ _ _ _ _
 ·cases own.any (aJ 0)<;>rfl
 ·cases own.any (aJ 0)with
  |false=>rfl
  |
   true=>cases (T t).agg with
   |true=>simp only[cond_true];rw[(dD _ _ _ _ _).1,(dD _ _ _ _ _).1]
   |false=>rfl
theorem DV(o:Oper)(hne:jK T cw e ob o≠.no)(he:∀x,x∈o.op.operands->e x=e' x)(hr:∀m,m∈DF (jK T cw e ob o)->ob' m=ob m)(hw:∀m,m∈yM (jK T cw e ob o)->ob' m=ob m) :
 jK T cw e' ob' o=jK T cw e ob o:=by
 have plain:(∀e ob,jK T cw e ob o=match dL T e ob o with| .ok p d=>.d (some p) d| .ff d=>.d none d| .no=>.no)->jK T cw e' ob' o=jK T cw e ob o:=by
  intro h
  rw[h e ob]at hne hr hw |-
  rw[h e' ob',<-Iy (ob:=ob') o he]
  have:=Jv (T:=T) (e:=e) (ob:=ob) (ob':=ob') o
  cases hq:dL T e ob o with
  |no=>rw[hq]at hne;exact absurd rfl hne
  |
   ff d =>
   rw[hq]at this hr hw
   rcases this with h|h
   ·cases h
   ·rw[h fun m hm=>by
     rcases aM.1 hm with hm|hm
     ·exact hr m hm
     ·exact hw m hm]
  |
   ok p d =>
   rw[hq]at this hr hw
   rcases this with h|h
   ·cases h
   ·rw[h fun m hm=>by
     rcases aM.1 hm with hm|hm
     ·exact hr m hm
     ·exact hw m hm]
 cases ho:o.op with
 |
  call c =>
  obtain⟨callee,xs,ts⟩:=c
  cases callee with
  |
   value x =>
   have hE:∀e ob,jK T cw e ob o=(match e x with
    | .v (.func (.func f) fi cap)=>bif aJ fi.size 0&&aJ cap.size 0 then fX T cw e ob o f (xs.toList.map e)else .no
    | .fn f cap=>fX T cw e ob o f (xs.toList.map e++cap)
    |_=>.no):=fun e ob=>by unfold jK;rw[ho];try rfl
   have hx:e x=e' x:=he x (by rw[ho];simp[Op.operands,Call.operands])
   have hxs:xs.toList.map e=xs.toList.map e':=wx fun y hy=>he y (by rw[ho];simp only[Op.operands,Call.operands];exact Array.mem_append.2 (.inr (by simpa using hy)))
   rw[hE e ob]at hne hw |-
   rw[hE e' ob',<-hx,<-hxs]
   split at hne
   ·rename_i f fi cap h
    simp only[h]at hw |-
    cases hq:(aJ fi.size 0&&aJ cap.size 0)with
    |false=>rw[hq]at hne;exact absurd rfl hne
    |
     true =>
     rw[hq]at hne hw
     exact wY (e:=e) (e':=e') hne hw
   ·rename_i f cap h
    simp only[h]at hw |-
    exact wY (e:=e) (e':=e') hne hw
   ·exact absurd rfl hne
  |builtin b=>exact plain fun e ob=>by unfold jK;rw[ho];try rfl
  |invoke r nm=>exact plain fun e ob=>by unfold jK;rw[ho];try rfl
 |_=>exact plain fun e ob=>by unfold jK;rw[ho];try rfl
theorem fJ:∀(l:List (Nat×Option Ob)) (f:Nat->Option Ob) (o:Nat),o∉l.map (·.1)->cy f l o=f o
 |[],f,o,_=>rfl
 |
  (q,c)::l,f,o,h=>by
  show cy (co f q c) l o=f o
  rw[fJ l _ o fun hh=>h (ak _ hh),a6 _ _ _ _ fun e=>h (by subst e;exact ai)]
theorem uk:∀(l:List (Nat×Option Ob)) (f g:Nat->Option Ob) (o:Nat),o∈l.map (·.1)->cy f l o=cy g l o
 |[],f,g,o,h=>by cases h
 |
  (q,c)::l,f,g,o,h=>by
  show cy (co f q c) l o=cy (co g q c) l o
  by_cases hl:o∈l.map (·.1)
  ·exact uk l _ _ o hl
  ·rw[fJ l _ o hl,fJ l _ o hl]
   have:o=q:=by rcases aH.1 h with h|h;exact h;exact absurd h hl
   subst this;rw[aN,aN]
theorem yH{l r:List (Nat×Option Ob)}(h:∀o,o∈l.map (·.1)->o∉r.map (·.1))(f:Nat->Option Ob):cy (cy f l) r=cy (cy f r) l:=by
 funext o
 by_cases hl:o∈l.map (·.1)
 ·rw[fJ r _ o (h o hl)]
  exact uk l _ _ o hl
 ·by_cases hr:o∈r.map (·.1)
  ·rw[fJ l _ o hl]
   exact uk r _ _ o hr
  ·rw[fJ r _ o hr,fJ l _ o hl,fJ l _ o hl,fJ r _ o hr]
theorem kM:∀(l:List Nat) (f:Nat->Bool) (o:Nat),eK f l o=(f o||l.any (aJ o))
 |[],f,o=>by simp[eK]
 |
  q::l,f,o=>by
  rw[eK,kM l]
  simp only[co,List.any_cons]
  cases aJ o q<;>simp
theorem yW(l r:List Nat)(f:Nat->Bool):eK (eK f l) r=eK (eK f r) l:=by
 funext o
 rw[kM,kM,kM,kM]
 cases f o<;>cases l.any (aJ o)<;>cases r.any (aJ o)<;>rfl
theorem kp(s:St)(dst:Option Nat)(d:De):s.gf dst d = {tm:=nf s.tm dst d.val,ob:=cy s.ob d.co,us:=eK s.us d.new}:=by
 unfold St.gf;cases dst<;>rfl
end
end Go.VL
namespace Go.VL
open Go Go.RowKit
section
variable {P:Program} {T:eC} {cw:Nat->FC} {n:Nat} {all:List Oper}
def nb:AV->AV| .b b=>.v (.bool b)|a=>a
def dP(all:List Oper)(o:Oper)(s:St):St :=
 match cR o all with
 |[t]=>(match s.tm t with| .b b=>s.set t (.v (.bool b))|_=>s)
 |_=>s
def sw:De:={val:=.v (.tuple #[])}
def gE(T:eC)(cw:Nat->FC)(all:List Oper)(o:Oper)(s:St):zH :=
 match o.guard with
 |none=>jK T cw (ev s) s.ob o
 |
  some (g,want)=>match (all[g]?).map (·.dst)with
  |
   some (some t)=>match nb (s.tm t)with
   | .v (.bool b)=>bif b==want then jK T cw (ev (dP all o s)) s.ob o else .d none sw
   | .v (.tuple _)=>.d none sw
   |_=>.no
  |_=>.no
def l9(P:Program)(E:zH)(X:De->Prop):Prop :=
 match E with
 | .no=>False
 | .d p d=>(∀q,p=some q->q)/\X d
 | .c f asq ins _ k=>∃R,ap P f asq ins R/\(∃r obs,R r obs)/\∀r obs,R r obs->gD (k r obs).1/\X (k r obs).2
def pI:zH->Bool| .c ..=>true|_=>false
theorem gS{E:zH}{X Y:De->Prop}(h:l9 P E X)(hxy:∀d,X d->Y d):l9 P E Y:=by
 cases E with
 |no=>exact h
 |d p d=>exact⟨h.1,hxy d h.2⟩
 |
  c f asq ins wr k =>
  obtain⟨R,h1,h2,h3⟩:=h
  exact⟨R,h1,h2,fun r obs hr=>⟨(h3 r obs hr).1,hxy _ (h3 r obs hr).2⟩⟩
theorem kJ{E:zH}{X:De->Prop}(h:l9 P E X):E≠.no/\∃d,X d:=by
 cases E with
 |no=>exact h.elim
 |d p d=>exact⟨by simp,d,h.2⟩
 |
  c f asq ins wr k =>
  obtain⟨R,h1,⟨r,obs,hr⟩,h3⟩:=h
  exact⟨by simp,_,(h3 r obs hr).2⟩
theorem zu{E F:zH}{X:De->De->Prop}(hn:(pI E&&pI F)=false)(h:l9 P E fun d=>l9 P F fun d'=>X d d'):l9 P F fun d'=>l9 P E fun d=>X d d':=by
 cases E with
 |no=>exact h.elim
 |d p d=>exact gS h.2 fun d' hx=>⟨h.1,hx⟩
 |
  c f asq ins wr k =>
  cases F with
  |no=>obtain⟨R,h1,⟨r,obs,hr⟩,h3⟩:=h;exact(h3 r obs hr).2.elim
  |
   d p d =>
   obtain⟨R,h1,⟨r,obs,hr⟩,h3⟩:=h
   exact⟨(h3 r obs hr).2.1,R,h1,⟨r,obs,hr⟩,fun r obs hr=>⟨(h3 r obs hr).1,(h3 r obs hr).2.2⟩⟩
  |c f' as' ins' wr' k'=>cases hn
theorem yn{o:Oper}{s:St}(h:pI (gE T cw all o s)=true):ia o=true:=by
 have key:∀e ob,pI (jK T cw e ob o)=true->ia o=true:=by
  intro e ob h
  cases ho:o.op with
  |
   call c =>
   obtain⟨callee,xs,ts⟩:=c
   cases callee with
   |value x=>simp[ia,ho]
   |
    builtin b =>
    have:jK T cw e ob o=match dL T e ob o with| .ok p d=>.d (some p) d| .ff d=>.d none d| .no=>.no:=by unfold jK;rw[ho];try rfl
    rw[this]at h
    split at h<;>cases h
   |
    invoke r nm =>
    have:jK T cw e ob o=match dL T e ob o with| .ok p d=>.d (some p) d| .ff d=>.d none d| .no=>.no:=by unfold jK;rw[ho];try rfl
    rw[this]at h
    split at h<;>cases h
  |
   _ =>
   have:jK T cw e ob o=match dL T e ob o with| .ok p d=>.d (some p) d| .ff d=>.d none d| .no=>.no:=by unfold jK;rw[ho];try rfl
   rw[this]at h
   split at h<;>cases h
 unfold gE at h
 split at h
 ·exact key _ _ h
 ·split at h
  ·split at h
   ·rename_i b _
    cases hq:(b==_)with
    |true=>rw[hq]at h;exact key _ _ h
    |false=>rw[hq]at h;cases h
   ·cases h
   ·cases h
  ·cases h
theorem pK{o:Oper}{g:Nat}{want:Bool}{t:Nat}(h1:o.guard=some (g,want))(h2:(all[g]?).map (·.dst)=some (some t)):cR o all=[t]:=by
 unfold cR;rw[h1];simp only[h2]
theorem oh{o:Oper}{t:Nat}(h:cR o all=[t])(s:St):dP all o s=match s.tm t with| .b b=>s.set t (.v (.bool b))|_=>s:=by
 unfold dP;rw[h]
theorem fQ(o:Oper)(s:St):(dP all o s).ob=s.ob/\(dP all o s).us=s.us:=by
 unfold dP
 split
 ·split<;>exact⟨rfl,rfl⟩
 ·exact⟨rfl,rfl⟩
theorem k9(o:Oper)(s:St)(x:Nat):(dP all o s).tm x=if x∈cR o all then nb (s.tm x)else s.tm x:=by
 by_cases hg:∃t,cR o all=[t]
 ·obtain⟨t,hg⟩:=hg
  rw[oh hg,hg]
  cases hs:s.tm t with
  |
   b b =>
   simp only[St.set]
   by_cases e:x=t
   ·subst e;rw[aN,if_pos (by simp),hs];rfl
   ·rw[a6 _ _ _ _ e,if_neg (by simpa using e)]
  |
   _ =>
   simp only
   by_cases e:x=t
   ·subst e;rw[if_pos (by simp),hs];rfl
   ·rw[if_neg (by simpa using e)]
 ·have:cR o all=[]:=by
   unfold cR at hg |-
   split at hg
   ·rename_i g want h
    split at hg
    ·exact absurd ⟨_,rfl⟩ hg
    ·rfl
   ·rfl
  have e1:dP all o s=s:=by unfold dP;rw[this]
  rw[e1,this,if_neg (by simp)]
theorem Ec(a:AV):nb (nb a)=nb a:=by cases a<;>rfl
theorem ri{o:Oper}{t:Nat}(h:Operand.tmp t∈o.op.operands):t∈jQ o:=by
 unfold jQ
 exact List.mem_filterMap.2 ⟨.tmp t,by simpa using h,rfl⟩
theorem D5{s s1:St}{x:Operand}(h:∀t,x=.tmp t->s.tm t=s1.tm t):ev s x=ev s1 x:=by
 cases x with
 |tmp t=>exact h t rfl
 |_=>rfl
theorem KZ{o:Oper}{s s1:St}(hne:gE T cw all o s1≠.no)(ht:∀t,t∈jQ o->s.tm t=s1.tm t)(hg:∀t,t∈cR o all->nb (s.tm t)=nb (s1.tm t))
 (hr:∀m,m∈DF (gE T cw all o s1)->s.ob m=s1.ob m) (hw:∀m,m∈yM (gE T cw all o s1)->s.ob m=s1.ob m):gE T cw all o s=gE T cw all o s1:=by
 unfold gE at hne hr hw |-
 cases hgd:o.guard with
 |
  none =>
  rw[hgd]at hne hr hw
  exact DV o hne (fun x hx=>D5 fun t e=>by subst e;exact(ht t (ri hx)).symm) hr hw
 |
  some gw =>
  obtain⟨g,want⟩:=gw
  rw[hgd]at hne hr hw
  simp only at hne hr hw |-
  split at hne
  ·rename_i t hd
   have hgt:=pK hgd hd
   simp only[hd]at hr hw |-
   have e1:nb (s.tm t)=nb (s1.tm t):=hg t (by rw[hgt];simp)
   rw[e1]
   split at hne
   ·rename_i b hb
    simp only[hb]at hr hw |-
    cases hq:(b==want)with
    |false=>rfl
    |
     true =>
     rw[hq]at hne hr hw
     simp only[cond_true]at hne hr hw |-
     refine DV o hne (fun x hx=>D5 fun t' e=>?_) hr hw
     subst e
     have:=ht t' (ri hx)
     rw[k9,k9,this]
   ·rename_i vs hb
    simp only[hb]
   ·exact absurd rfl hne
  ·exact absurd rfl hne
end
end Go.VL
namespace Go.VL
open Go Go.RowKit
section
variable {P:Program} {T:eC} {cw:Nat->FC} {n:Nat} {all:List Oper}
structure lU(all:List Oper)(p o:Oper)(rq wq rd wr:List Nat):Prop where
 nc:(ia p&&ia o)=false
 d1:∀x,x∈ib p->x∉jQ o
 d2:∀x,x∈ib p->x∉cR o all
 d3:∀x,x∈ib p->x∉ib o
 d4:∀x,x∈ib o->x∉jQ p
 d5:∀x,x∈ib o->x∉cR p all
 d6:∀x,x∈cR p all->x∉jQ o
 d7:∀x,x∈cR o all->x∉jQ p
 w1:∀x,x∈wr->x∉wq
 w2:∀x,x∈wr->x∉rq
 w3:∀x,x∈rd->x∉wq
theorem iS{a b:List Nat}(h:qd a b=true):∀x,x∈a->x∉b:=by
 intro x hx hb
 simp only[qd,cf,List.any_eq_false]at h
 refine h x hx ?_
 simp only[gb,bY]
 exact⟨x,hb,Nat.beq_refl x⟩
theorem AA{p o:Oper}{rq wq rd wr:List Nat}(h:wU all p o rq wq rd wr=true):lU all p o rq wq rd wr:=by
 simp only[wU,Am,aw]at h
 obtain⟨h0,⟨h1,h2,h3,h4,h5,h6,h7⟩,h8,h9,h10⟩:=h
 exact⟨by cases q1:ia p<;>cases q2:ia o<;>simp_all,iS h1,iS h2,iS h3,iS h4,iS h5,iS h6,iS h7,iS h8,iS h9,iS h10⟩
theorem lU.symm{p o:Oper}{rq wq rd wr:List Nat}(h:lU all p o rq wq rd wr):lU all o p rd wr rq wq :=
 ⟨by rw[Bool.and_comm];exact h.nc,h.d4,h.d5,fun x h1 h2=>h.d3 x h2 h1,h.d1,h.d2,h.d7,h.d6,fun x h1 h2=>h.w1 x h2 h1,fun x h1 h2=>h.w3 x h2 h1,fun x h1 h2=>h.w2 x h2 h1⟩
theorem iQ{tm:Nat->AV}{o:Oper}{v:AV}{x:Nat}(h:x∉ib o):nf tm o.dst v x=tm x:=by
 unfold ib at h
 cases hd:o.dst with
 |none=>rfl
 |some d=>rw[hd]at h;exact a6 _ _ _ _ (by simpa using h)
theorem xc{p o:Oper}{s:St}{d:De}{rq wq:List Nat}(ha:lU all p o rq wq (DF (gE T cw all o ((dP all p s).gf p.dst d))) (yM (gE T cw all o ((dP all p s).gf p.dst d))))(hwd:∀m,m∈ml d->m∈wq)
 (hne:gE T cw all o ((dP all p s).gf p.dst d)≠.no):gE T cw all o s=gE T cw all o ((dP all p s).gf p.dst d):=by
 have ob:∀m,m∉wq->s.ob m=((dP all p s).gf p.dst d).ob m:=fun m hm=>by
  rw[kp]
  show s.ob m=cy (dP all p s).ob d.co m
  rw[fJ _ _ _ fun h=>hm (hwd m h),(fQ p s).1]
 refine KZ hne (fun t ht=>?_) (fun t ht=>?_) (fun m hm=>ob m (ha.w3 m hm)) fun m hm=>ob m (ha.w1 m hm)
 ·rw[kp]
  show s.tm t=nf (dP all p s).tm p.dst d.val t
  rw[iQ fun h=>ha.d1 t h ht,k9,if_neg fun h=>ha.d6 t h ht]
 ·rw[kp]
  show nb (s.tm t)=nb (nf (dP all p s).tm p.dst d.val t)
  rw[iQ fun h=>ha.d2 t h ht,k9]
  split
  ·rw[Ec]
  ·rfl
theorem yl{p o:Oper}{s:St}{d:De}{rq wq:List Nat}(ha:lU all p o rq wq (DF (gE T cw all o s)) (yM (gE T cw all o s)))(hwd:∀m,m∈ml d->m∈wq)
 (hne:gE T cw all o s≠.no):gE T cw all o ((dP all p s).gf p.dst d)=gE T cw all o s:=by
 have ob:∀m,m∉wq->((dP all p s).gf p.dst d).ob m=s.ob m:=fun m hm=>by
  rw[kp]
  show cy (dP all p s).ob d.co m=s.ob m
  rw[fJ _ _ _ fun h=>hm (hwd m h),(fQ p s).1]
 refine KZ hne (fun t ht=>?_) (fun t ht=>?_) (fun m hm=>ob m (ha.w3 m hm)) fun m hm=>ob m (ha.w1 m hm)
 ·rw[kp]
  show nf (dP all p s).tm p.dst d.val t=s.tm t
  rw[iQ fun h=>ha.d1 t h ht,k9,if_neg fun h=>ha.d6 t h ht]
 ·rw[kp]
  show nb (nf (dP all p s).tm p.dst d.val t)=nb (s.tm t)
  rw[iQ fun h=>ha.d2 t h ht,k9]
  split
  ·rw[Ec]
  ·rfl
theorem Ar{p o:Oper}{s:St}{d d':De}{rq wq rd wr:List Nat}(ha:lU all p o rq wq rd wr)(h1:∀m,m∈ml d->m∈wq)(h2:∀m,m∈ml d'->m∈wr) :
 (dP all p ((dP all o s).gf o.dst d')).gf p.dst d=(dP all o ((dP all p s).gf p.dst d)).gf o.dst d':=by
 have tmE:∀(q:Oper) (s:St) (e:De),(((dP all q s).gf q.dst e).tm=nf (fun x=>if x∈cR q all then nb (s.tm x)else s.tm x) q.dst e.val):=fun q s e=>by
  rw[kp]
  show nf (dP all q s).tm q.dst e.val=_
  congr 1
  funext x;exact k9 q s x
 have obE:∀(q:Oper) (s:St) (e:De),((dP all q s).gf q.dst e).ob=cy s.ob e.co:=fun q s e=>by rw[kp];show cy (dP all q s).ob e.co=_;rw[(fQ q s).1]
 have mS:∀(q:Oper) (s:St) (e:De),((dP all q s).gf q.dst e).us=eK s.us e.new:=fun q s e=>by rw[kp];show eK (dP all q s).us e.new=_;rw[(fQ q s).2]
 have ext:∀(a b:St),a.tm=b.tm->a.ob=b.ob->a.us=b.us->a=b:=fun a b h1 h2 h3=>by cases a;cases b;simp_all
 refine ext _ _ ?_ ?_ ?_
 ·funext x
  have eL:=congrFun (tmE p ((dP all o s).gf o.dst d') d) x
  have eR:=congrFun (tmE o ((dP all p s).gf p.dst d) d') x
  have eO:=congrFun (tmE o s d') x
  have eP:=congrFun (tmE p s d) x
  have at1:∀(q:Oper) (tm:Nat->AV) (v:AV),x∈ib q->nf tm q.dst v x=v:=fun q tm v h=>by
   unfold ib at h
   cases hd:q.dst with
   |none=>rw[hd]at h;cases h
   |
    some y =>
    rw[hd]at h
    have:x=y:=by simpa using h
    subst this;exact aN _ _ _
  rw[eL,eR]
  by_cases hp:x∈ib p
  ·have ho:x∉ib o:=ha.d3 x hp
   have hg:x∉cR o all:=ha.d2 x hp
   rw[at1 p _ _ hp,iQ ho,if_neg hg,eP,at1 p _ _ hp]
  ·by_cases ho:x∈ib o
   ·have hg:x∉cR p all:=ha.d5 x ho
    rw[at1 o _ _ ho,iQ hp,if_neg hg,eO,at1 o _ _ ho]
   ·rw[iQ hp,iQ ho,eO,eP,iQ ho,iQ hp]
    by_cases g1:x∈cR p all<;>by_cases g2:x∈cR o all<;>simp[g1,g2]
 ·rw[obE,obE,obE,obE]
  exact yH (fun m hm hm'=>ha.w1 m (h2 m hm) (h1 m hm')) _
 ·rw[mS,mS,mS,mS]
  exact yW _ _ _
end
end Go.VL
namespace Go.VL
open Go Go.RowKit
section
variable {P:Program} {T:eC} {cw:Nat->FC} {n:Nat} {all:List Oper}
theorem Ee{e:Operand->AV}{ob:Nat->Option Ob}{o:Oper}{f:Nat}{asq:List AV}{ins:List Ob}{wr:List Nat}{k:AV->List Ob->List Prop×De}(h:jK T cw e ob o=.c f asq ins wr k):∃g l,fX T cw e ob o g l=.c f asq ins wr k:=by
 have no:(∀e ob,jK T cw e ob o=match dL T e ob o with| .ok p d=>.d (some p) d| .ff d=>.d none d| .no=>.no)->∃g l,fX T cw e ob o g l=.c f asq ins wr k:=fun hh=>by
  rw[hh]at h;split at h<;>cases h
 cases ho:o.op with
 |
  call c =>
  obtain⟨callee,xs,ts⟩:=c
  cases callee with
  |
   value x =>
   have hE:jK T cw e ob o=(match e x with
    | .v (.func (.func f) fi cap)=>bif aJ fi.size 0&&aJ cap.size 0 then fX T cw e ob o f (xs.toList.map e)else .no
    | .fn f cap=>fX T cw e ob o f (xs.toList.map e++cap)
    |_=>.no):=by unfold jK;rw[ho];try rfl
   rw[hE]at h
   split at h
   ·rename_i f' fi cap _
    cases hq:(aJ fi.size 0&&aJ cap.size 0)with
    |false=>rw[hq]at h;cases h
    |true=>rw[hq]at h;exact⟨_,_,h⟩
   ·exact⟨_,_,h⟩
   ·cases h
  |builtin b=>exact no fun e ob=>by unfold jK;rw[ho];try rfl
  |invoke r nm=>exact no fun e ob=>by unfold jK;rw[ho];try rfl
 |_=>exact no fun e ob=>by unfold jK;rw[ho];try rfl
theorem OT{o:Oper}{s:St}{f:Nat}{asq:List AV}{ins:List Ob}{wr:List Nat}{k:AV->List Ob->List Prop×De}(h:gE T cw all o s=.c f asq ins wr k):∃e g l,fX T cw e s.ob o g l=.c f asq ins wr k:=by
 unfold gE at h
 split at h
 ·obtain⟨g,l,h⟩:=Ee h;exact⟨_,g,l,h⟩
 ·split at h
  ·split at h
   ·rename_i b _
    cases hq:(b==_)with
    |true=>rw[hq]at h;obtain⟨g,l,h⟩:=Ee h;exact⟨_,g,l,h⟩
    |false=>rw[hq]at h;cases h
   ·cases h
   ·cases h
  ·cases h
theorem qw{o:Oper}{s:St}{X:De->Prop}(h:l9 P (gE T cw all o s) X):l9 P (gE T cw all o s) fun d=>X d/\∀m,m∈ml d->m∈yM (gE T cw all o s):=by
 cases hE:gE T cw all o s with
 |no=>rw[hE]at h;exact h
 |d p d=>rw[hE]at h;exact⟨h.1,h.2,fun m hm=>hm⟩
 |
  c f asq ins wr k =>
  rw[hE]at h
  obtain⟨e,g,l,hq⟩:=OT hE
  unfold fX at hq
  simp only at hq
  generalize cw (keyOf g l)=c at hq
  split at hq
  ·rename_i as' ins' os fz hga
   cases hgd:(nodup os&&(!(os.any (gb fz))&&(dY (dB c.mu) ins'&&(lR s.ob c.mu os ins' l 0&&rJ (dB c.mu) os ins'))))with
   |false=>rw[hgd]at hq;cases hq
   |
    true =>
    rw[hgd]at hq
    simp only[cond_true,zH.c.injEq]at hq
    obtain⟨rfl,rfl,rfl,rfl,rfl⟩:=hq
    obtain⟨R,h1,h2,h3⟩:=h
    refine⟨R,h1,h2,fun r obs hr=>⟨(h3 r obs hr).1,(h3 r obs hr).2,fun m hm=>?_⟩⟩
    have e0:(pO os).map (·.1)=os:=by unfold pO;rw[List.map_map];exact List.map_id' os
    obtain⟨n1,n2⟩:=j4 (dB c.mu) os obs [] 0 (cB o.dst)
    have hsub:∀m,m∈(bif vB T c.own c.oa ins' o.type then []else fI s.ob fz).map (·.1)->m∈fz:=fun m hm=>by
     cases hl:vB T c.own c.oa ins' o.type with
     |true=>rw[hl]at hm;cases hm
     |false=>rw[hl]at hm;simpa only[cond_false,ua]using hm
    simp only[ml,List.map_append,e0,n1]at hm
    have hm:m∈fz++(os++(List.map (·.1) (dC (dB c.mu) os [] 0 (cB o.dst)).2.1++List.map (·.1) (dI T c.own c.ow c.oa o.type r ins'.length (dC (dB c.mu) os obs 0 (cB o.dst)).2.2.1 (dC (dB c.mu) os obs 0 (cB o.dst)).2.2.2).2.2)):=by
     rcases aM.1 hm with hm|hm
     ·exact aB _ (hsub m hm)
     ·exact az _ hm
    rw[n2,wT (T:=T) (own:=c.own) o.type r .any ins'.length _ (dC (dB c.mu) os [] 0 (cB o.dst)).2.2.1]at hm
    simpa only[yM,List.map_append]using hm
  ·cases hq
structure It where
 i:Nat
 o:Oper
 uu:List Nat
def Seq(P:Program)(T:eC)(cw:Nat->FC)(n:Nat)(all:List Oper)(Ψ:St->Prop):List It->List (It×List Nat×List Nat)->St->Prop
 |[],_,s=>Ψ s
 |t::r,H,s=>l9 P (gE T cw all t.o s) fun d=>dA (dP all t.o s) n t.o.dst d=true/\(∀j,j∈dc t.o->j<t.i) /\
  (∀h,h∈H->h.1.i∈t.uu\/lU all h.1.o t.o h.2.1 h.2.2 (DF (gE T cw all t.o s)) (yM (gE T cw all t.o s))) /\
  Seq P T cw n all Ψ r (H++[(t,DF (gE T cw all t.o s),yM (gE T cw all t.o s))]) ((dP all t.o s).gf t.o.dst d)
theorem Seq.JI{Ψ:St->Prop}:∀(l:List It) {H H':List (It×List Nat×List Nat)} {s:St},(∀h,h∈H'->h∈H)->Seq P T cw n all Ψ l H s->Seq P T cw n all Ψ l H' s
 |[],_,_,_,_,h=>h
 |t::r,H,H',s,hs,h=>gS h fun d ⟨h1,h2,h3,h4⟩=>⟨h1,h2,fun q hq=>h3 q (hs q hq),Seq.JI r (fun q hq=>by
  rcases aM.1 hq with hq|hq
  ·exact aB _ (hs q hq)
  ·exact az _ hq) h4⟩
theorem Seq.back{Ψ:St->Prop}{t:It}{L2:List It}:∀(L1:List It) {H:List (It×List Nat×List Nat)} {s:St},Seq P T cw n all Ψ (L1++t::L2) H s->(∀x,x∈L1->x.i∉t.uu) ->
 gE T cw all t.o s≠.no/\(∀j,j∈dc t.o->j<t.i)/\∀h,h∈H->h.1.i∈t.uu\/lU all h.1.o t.o h.2.1 h.2.2 (DF (gE T cw all t.o s)) (yM (gE T cw all t.o s))
 |
  [],H,s,h,_=>by
  obtain⟨h1,d,h2,h3,h4,_⟩:=kJ h
  exact⟨h1,h3,h4⟩
 |
  p::L1,H,s,h,hl=>by
  obtain⟨h1,d,⟨h2,h3,h4,h5⟩,h6⟩:=kJ (qw h)
  obtain⟨q1,q2,q3⟩:=Seq.back L1 h5 fun x hx=>hl x (ak _ hx)
  have ha:=(q3 _ (az _ (aU.2 rfl))).resolve_left (hl p ai)
  have e:=xc ha h6 q1
  rw[e]
  exact⟨q1,q2,fun h hh=>q3 h (aB _ hh)⟩
theorem iH{s:St}{dst:Option Nat}{d:De}:dA s n dst d=true↔(∀o,o∈d.new->s.us o=false)/\nodup d.new=true/\(match dst with|some t=>cv t n|none=>true)=true:=by
 unfold dA
 simp only[aw,bL,cf,and_assoc]
 exact Iff.rfl
theorem wy(s:St)(dst:Option Nat)(d:De)(o:Nat):(s.gf dst d).us o=(s.us o||d.new.any (aJ o)):=by
 rw[kp];exact kM _ _ _
theorem DC{l:List Nat}{o:Nat}(h:o∈l):l.any (aJ o)=true:=bY.2 ⟨o,h,Nat.beq_refl o⟩
theorem Seq.K7{Ψ:St->Prop}{t:It}{L2:List It}:∀(L1:List It) {H:List (It×List Nat×List Nat)} {s:St},Seq P T cw n all Ψ (L1++t::L2) H s->(∀x,x∈L1->x.i∉t.uu) ->
 l9 P (gE T cw all t.o s) fun d=>dA (dP all t.o s) n t.o.dst d=true/\Seq P T cw n all Ψ (L1++L2) H ((dP all t.o s).gf t.o.dst d)
 |[],H,s,h,_=>gS h fun d ⟨h1,_,_,h4⟩=>⟨h1,Seq.JI L2 (fun q hq=>aB _ hq) h4⟩
 |
  p::L1,H,s,h,hl=>by
  have hl':∀x,x∈L1->x.i∉t.uu:=fun x hx=>hl x (ak _ hx)
  have hb:=Seq.back (p::L1) h hl
  have ha:lU all p.o t.o (DF (gE T cw all p.o s)) (yM (gE T cw all p.o s)) (DF (gE T cw all t.o s)) (yM (gE T cw all t.o s)):=by
   obtain⟨h1,d,⟨h2,h3,h4,h5⟩,h6⟩:=kJ (qw h)
   obtain⟨q1,q2,q3⟩:=Seq.back L1 h5 hl'
   have ha:=(q3 _ (az _ (aU.2 rfl))).resolve_left (hl p ai)
   rw[xc ha h6 q1];exact ha
  have hpne:gE T cw all p.o s≠.no:=(kJ h).1
  have step:=gS (qw h) fun d ⟨⟨h2,h3,h4,h5⟩,h6⟩=>(show _/\_ from ⟨(⟨h2,h3,h4,h6⟩:_/\_/\_/\_),by
   have e:=yl ha h6 hb.1
   have q:=Seq.K7 L1 h5 hl'
   rw[e]at q
   have q2:=qw (o:=t.o) (s:=s) q
   exact q2⟩)
  have inner:=gS step fun d ⟨hA,hB⟩=>gS hB fun d' hx=>(show _/\_ from ⟨hA,hx⟩)
  have hnc:(pI (gE T cw all p.o s)&&pI (gE T cw all t.o s))=false:=by
   cases q1:pI (gE T cw all p.o s)with
   |false=>rfl
   |
    true =>
    cases q2:pI (gE T cw all t.o s)with
    |false=>rfl
    |true=>have:=ha.nc;rw[yn q1,yn q2]at this;cases this
  refine gS (zu hnc inner) fun d' hx=>?_
  obtain⟨_,d0,⟨g1,g2,g3,g4⟩,⟨g5,g6⟩,g7⟩:=kJ hx
  have n1:=iH.1 g1
  have n2:=iH.1 g5
  refine⟨iH.2 ⟨fun o ho=>?_,n2.2.1,n2.2.2⟩,?_⟩
  ·have:=n2.1 o ho
   rw[(fQ t.o _).2,wy,(fQ p.o s).2]at this
   rw[(fQ t.o s).2]
   cases q:s.us o with
   |false=>rfl
   |true=>rw[q]at this;cases this
  ·have e:=yl ha.symm g7 hpne
   show l9 P (gE T cw all p.o _) _
   rw[e]
   refine gS hx fun d ⟨⟨k1,k2,k3,k4⟩,⟨k5,k6⟩,k7⟩=>⟨?_,k2,k3,?_⟩
   ·have m1:=iH.1 k1
    have m2:=iH.1 k5
    refine iH.2 ⟨fun o ho=>?_,m1.2.1,m1.2.2⟩
    have p1:=m1.1 o ho
    rw[(fQ p.o s).2]at p1
    rw[(fQ p.o _).2,wy,(fQ t.o s).2,p1]
    cases q:d'.new.any (aJ o)with
    |false=>rfl
    |
     true =>
     obtain⟨y,hy,hy'⟩:=bY.1 q
     have:=aD hy'
     subst this
     have:=m2.1 o hy
     rw[(fQ t.o _).2,wy,DC ho]at this
     simp at this
   ·rw[Ar ha k4 k7]
    exact k6
end
end Go.VL
namespace Go.VL
open Go Go.RowKit
section
variable {P:Program} {T:eC} {cw:Nat->FC} {n:Nat} {A:jV} {a:Act} {w:World}
theorem yi(hT:cT P T)(hB:l4 P A){o:Oper}{s:St}{Y:St->Prop}(g:fY n A s a w)(h:l9 P (jK T cw (ev s) s.ob o) fun d=>dA s n o.dst d=true/\Y (s.gf o.dst d))
 {Kw:Act->World->Prop} {Qw:Exit->Act->World->Prop} (hK:∀s' a' w',fY n A s' a' w'->Y s'->Kw a' w'):o.wp P a w Kw Qw:=by
 obtain⟨M,β,g⟩:=g
 refine xA (cw:=cw) hT hB g o (K:=fun _ _ s'=>.aj (Y s') (.done 0 [] [])) (Φ:=fun _ _ _=>True) ?_ fun rd wr s' a' w' g' h'=>hK s' a' w' g' h'.1
 unfold wI
 cases hE:jK T cw (ev s) s.ob o with
 |no=>rw[hE]at h;exact h
 |
  d p d =>
  rw[hE]at h
  obtain⟨h1,h2,h3⟩:=h
  simp only[h2,cond_true]
  cases p with
  |none=>exact⟨h3,trivial⟩
  |some q=>exact⟨h1 q rfl,h3,trivial⟩
 |
  c f asq ins wr k =>
  rw[hE]at h
  obtain⟨R,h1,h2,h3⟩:=h
  refine⟨R,h1,h2,fun r obs hr=>gN.2 ⟨(h3 r obs hr).1,?_⟩⟩
  rw[(h3 r obs hr).2.1]
  exact⟨(h3 r obs hr).2.2,trivial⟩
theorem sf{all:List Oper}{o:Oper}(h:o.guard=none)(s:St):dP all o s=s:=by
 unfold dP cR;rw[h]
theorem fY.QR{all:List Oper}{o:Oper}{s:St}(g:fY n A s a w):fY n A (dP all o s) a w:=by
 unfold dP
 split
 ·split
  ·rename_i b e;exact(g.test e).1
  ·exact g
 ·exact g
theorem uV(s:St)(dst:Option Nat):s.gf dst sw=PV s dst:=by
 cases dst<;>rfl
theorem Ev{ops:Array Oper}(hT:cT P T)(hB:l4 P A){o:Oper}{s:St}{Y:St->Prop}(g:fY n A s a w)(h:l9 P (gE T cw ops.toList o s) fun d=>dA (dP ops.toList o s) n o.dst d=true/\Y ((dP ops.toList o s).gf o.dst d))
 {Kw:Act->World->Prop} {Qw:Exit->Act->World->Prop} (hK:∀s' a' w',fY n A s' a' w'->Y s'->Kw a' w'):if Region.wanted o (yielded ops a.tmps)then o.wp P a w Kw Qw else Kw (a.put o.dst undef) w:=by
 have skip:l9 P (.d none sw) (fun d=>dA (dP ops.toList o s) n o.dst d=true/\Y ((dP ops.toList o s).gf o.dst d))->Kw (a.put o.dst undef) w:=by
  intro⟨_,h1,h2⟩
  rw[uV]at h2
  exact hK _ _ _ (g.QR.skip (fU h1)) h2
 unfold gE at h
 cases hg:o.guard with
 |
  none =>
  rw[hg]at h
  rw[if_pos (by simp[Region.wanted,hg])]
  rw[sf hg]at h
  exact yi hT hB g h hK
 |
  some gw =>
  obtain⟨gi,want⟩:=gw
  rw[hg]at h
  simp only at h
  split at h
  ·rename_i t hdst
   split at h
   ·rename_i b hb
    have hv:a.tmps.getD t undef=.bool b:=by
     cases hs:s.tm t with
     |v x=>rw[hs]at hb;simp only[nb,AV.v.injEq]at hb;rw[hb]at hs;exact g.bool hs
     |b q=>rw[hs]at hb;simp only[nb,AV.v.injEq,Value.bool.injEq]at hb;rw[hb]at hs;exact(g.test hs).2
     |_=>rw[hs]at hb;cases hb
    have hw:Region.wanted o (yielded ops a.tmps)=(b==want):=by
     have:=ou (ops:=ops) hdst hv
     simp[Region.wanted,hg,this]
    rw[hw]
    cases hq:(b==want)with
    |
     true =>
     rw[hq]at h
     rw[if_pos rfl]
     simp only[cond_true]at h
     rw[<-(fQ (all:=ops.toList) o s).1]at h
     exact yi hT hB g.QR h hK
    |
     false =>
     rw[hq]at h
     rw[if_neg (by simp)]
     exact skip h
   ·rename_i vs hb
    have hs:s.tm t=.v (.tuple vs):=by
     cases hs:s.tm t with
     |v x=>rw[hs]at hb;exact hb
     |b q=>rw[hs]at hb;cases hb
     |_=>rw[hs]at hb;cases hb
    have:=nn (ops:=ops) hdst (g.cQ hs)
    rw[if_neg (by simp[Region.wanted,hg,this])]
    exact skip h
   ·exact h.elim
  ·exact h.elim
def nI(o:Oper)(acc:List It):List Nat:=dc o++(acc.filter fun t=>gb (dc o) t.i).flatMap (·.uu)
def dF:List Oper->List It->List It
 |[],_=>[]
 |o::r,acc=>⟨acc.length,o,nI o acc⟩::dF r (acc++[⟨acc.length,o,nI o acc⟩])
def iu(h:It×List Nat×List Nat):HE:=⟨h.1.i,h.1.o,h.2.1,h.2.2,h.1.uu⟩
theorem GI(o:Oper):∀(H:List (It×List Nat×List Nat)),ig o (H.map iu)=nI o (H.map (·.1)):=by
 intro H
 unfold ig nI
 congr 1
 induction H with
 |nil=>rfl
 |
  cons h H ih =>
  simp only[bp,List.filter_cons]
  have e:gb (dc o) (iu h).i=gb (dc o) h.1.i:=rfl
  rw[e]
  cases gb (dc o) h.1.i with
  |true=>simp only[if_true,cP,ih];rfl
  |false=>simpa using ih
theorem uW{l:List Nat}{a:Nat}(h:gb l a=true):a∈l:=by
 obtain⟨x,hx,e⟩:=bY.1 h
 rw[aD e];exact hx
theorem B9{all:List Oper}{o:Oper}{rd wr:List Nat}{H:List (It×List Nat×List Nat)}{uu:List Nat}(h:jO all o rd wr (H.map iu) uu=true):∀q,q∈H->q.1.i∈uu\/lU all q.1.o o q.2.1 q.2.2 rd wr:=by
 intro q hq
 have:=bL.1 h (iu q) (bZ.2 ⟨q,hq,rfl⟩)
 rw[bn]at this
 rcases this with h|h
 ·exact .inl (uW h)
 ·exact .inr (AA h)
theorem AL(ops:Array Oper){K:St->Tree}{Φ:Nat->List AV->List Ob->Prop}:∀(rest:List Oper) (H:List (It×List Nat×List Nat)) (s:St),eF P n (kN T cw n true ops.toList rest (H.map iu) s K) Φ ->
 Seq P T cw n ops.toList (fun s=>eF P n (K s) Φ) (dF rest (H.map (·.1))) H s
 |[],H,s,h=>h
 |
  o::rest,H,s,h=>by
  have hlen:(H.map iu).length=H.length:=by simp
  have cont:∀(rd wr:List Nat) (s':St),eF P n (bif !true||((dc o).all (fun j=>cv j (H.map iu).length)&&jO ops.toList o rd wr (H.map iu) (ig o (H.map iu)))then kN T cw n true ops.toList rest (H.map iu++[⟨(H.map iu).length,o,rd,wr,ig o (H.map iu)⟩]) s' K else .fail) Φ ->
   (∀j,j∈dc o->j<H.length)/\(∀q,q∈H->q.1.i∈nI o (H.map (·.1))\/lU ops.toList q.1.o o q.2.1 q.2.2 rd wr) /\
   Seq P T cw n ops.toList (fun s=>eF P n (K s) Φ) (dF rest (H.map (·.1)++[⟨H.length,o,nI o (H.map (·.1))⟩])) (H++[(⟨H.length,o,nI o (H.map (·.1))⟩,rd,wr)]) s':=by
   intro rd wr s' h
   cases hq:(!true||((dc o).all (fun j=>cv j (H.map iu).length)&&jO ops.toList o rd wr (H.map iu) (ig o (H.map iu))))with
   |false=>rw[hq]at h;exact h.elim
   |
    true =>
    rw[hq]at h
    simp only[Bool.not_true,Bool.false_or,aw,bL]at hq
    rw[GI]at hq h
    refine⟨fun j hj=>by have:=aP (hq.1 j hj);rw[hlen]at this;exact this,B9 hq.2,?_⟩
    have:=AL ops rest (H++[(⟨H.length,o,nI o (H.map (·.1))⟩,rd,wr)]) s' (by
     rw[hlen]at h
     simpa[iu]using h)
    simpa using this
  have hl1:(H.map (·.1)).length=H.length:=by simp
  have eit:dF (o::rest) (H.map (·.1))=⟨H.length,o,nI o (H.map (·.1))⟩::dF rest (H.map (·.1)++[⟨H.length,o,nI o (H.map (·.1))⟩]):=by rw[dF,hl1]
  rw[eit]
  have run:∀s1,s1=dP ops.toList o s->gE T cw ops.toList o s=jK T cw (ev s1) s1.ob o->eF P n (wI T cw n o s1 fun rd wr s'=>bif !true||((dc o).all (fun j=>cv j (H.map iu).length)&&jO ops.toList o rd wr (H.map iu) (ig o (H.map iu)))then kN T cw n true ops.toList rest (H.map iu++[⟨(H.map iu).length,o,rd,wr,ig o (H.map iu)⟩]) s' K else .fail) Φ ->
   Seq P T cw n ops.toList (fun s=>eF P n (K s) Φ) (⟨H.length,o,nI o (H.map (·.1))⟩::dF rest (H.map (·.1)++[⟨H.length,o,nI o (H.map (·.1))⟩])) H s:=by
   intro s1 hs1 hgE h
   show l9 P (gE T cw ops.toList o s) _
   unfold wI at h
   simp only[hgE,<-hs1]
   cases hE:jK T cw (ev s1) s1.ob o with
   |no=>rw[hE]at h;exact h
   |
    d p d =>
    rw[hE]at h
    cases hn:dA s1 n o.dst d with
    |false=>simp only[hn,cond_false]at h;exact h.elim
    |
     true =>
     simp only[hn,cond_true]at h
     cases p with
     |none=>obtain⟨c1,c2,c3⟩:=cont _ _ _ h;exact⟨fun q hq=>(by cases hq),hn,c1,c2,c3⟩
     |some q=>obtain⟨c1,c2,c3⟩:=cont _ _ _ h.2;exact⟨fun q' hq=>(by cases hq;exact h.1),hn,c1,c2,c3⟩
   |
    c f asq ins wr k =>
    rw[hE]at h
    obtain⟨R,h1,h2,h3⟩:=h
    refine⟨R,h1,h2,fun r obs hr=>?_⟩
    obtain⟨h4,h5⟩:=gN.1 (h3 r obs hr)
    cases hn:dA s1 n o.dst (k r obs).2 with
    |false=>simp only[hn,cond_false]at h5;exact h5.elim
    |
     true =>
     simp only[hn,cond_true]at h5
     obtain⟨c1,c2,c3⟩:=cont _ _ _ h5
     exact⟨h4,hn,c1,c2,c3⟩
  have skip:∀s1,s1=dP ops.toList o s->gE T cw ops.toList o s=.d none sw->eF P n (bif (match o.dst with|some t=>cv t n|none=>true)&&(!true||((dc o).all (fun j=>cv j (H.map iu).length)&&jO ops.toList o [] [] (H.map iu) (ig o (H.map iu))))then kN T cw n true ops.toList rest (H.map iu++[⟨(H.map iu).length,o,[],[],ig o (H.map iu)⟩]) (match o.dst with|some t=>s1.set t (.v (.tuple #[]))|none=>s1) K else .fail) Φ ->
   Seq P T cw n ops.toList (fun s=>eF P n (K s) Φ) (⟨H.length,o,nI o (H.map (·.1))⟩::dF rest (H.map (·.1)++[⟨H.length,o,nI o (H.map (·.1))⟩])) H s:=by
   intro s1 hs1 hgE h
   show l9 P (gE T cw ops.toList o s) _
   simp only[hgE,<-hs1]
   cases hd:(match o.dst with|some t=>cv t n|none=>true)with
   |false=>simp only[hd,Bool.false_and,cond_false]at h;exact h.elim
   |
    true =>
    simp only[hd,bJ]at h
    obtain⟨c1,c2,c3⟩:=cont [] [] _ h
    refine⟨fun q hq=>(by cases hq),iH.2 ⟨fun o ho=>(by cases ho),rfl,hd⟩,c1,c2,?_⟩
    rw[uV]
    exact c3
  unfold kN at h
  simp only at h
  cases hg:o.guard with
  |
   none =>
   rw[hg]at h
   exact run s (sf hg s).symm (by unfold gE;rw[hg]) h
  |
   some gw =>
   obtain⟨gi,want⟩:=gw
   rw[hg]at h
   simp only at h
   split at h
   ·rename_i t hdst
    have hgt:=pK hg hdst
    have hgEb:∀b,nb (s.tm t)=.v (.bool b)->gE T cw ops.toList o s=bif b==want then jK T cw (ev (dP ops.toList o s)) s.ob o else .d none sw:=by
     intro b hb
     unfold gE
     rw[hg]
     simp only[hdst,hb]
    split at h
    ·rename_i e
     have hr:s=dP ops.toList o s:=by rw[oh hgt,e]
     have he:=hgEb true (by rw[e];rfl)
     rw[<-hr]at he
     cases want with
     |true=>exact run s hr he h
     |false=>exact skip s hr he h
    ·rename_i e
     have hr:s=dP ops.toList o s:=by rw[oh hgt,e]
     have he:=hgEb false (by rw[e];rfl)
     rw[<-hr]at he
     cases want with
     |true=>exact skip s hr he h
     |false=>exact run s hr he h
    ·rename_i vs e
     have hr:s=dP ops.toList o s:=by rw[oh hgt,e]
     refine skip s hr ?_ h
     unfold gE
     rw[hg]
     simp only[hdst,e,nb]
    ·rename_i b e
     have hr:s.set t (.v (.bool b))=dP ops.toList o s:=by rw[oh hgt,e]
     have he:=hgEb b (by rw[e];rfl)
     rw[<-(fQ (all:=ops.toList) o s).1,<-hr]at he
     obtain⟨h1,h2⟩:=h
     cases b with
     |
      true =>
      cases want with
      |true=>exact run _ hr he (h1 rfl)
      |false=>exact skip _ hr he (h1 rfl)
     |
      false =>
      cases want with
      |true=>exact skip _ hr he (h2 rfl)
      |false=>exact run _ hr he (h2 rfl)
    ·exact h.elim
   ·exact h.elim
end
end Go.VL
namespace Go.VL
open Go Go.RowKit
section
variable {P:Program} {T:eC} {cw:Nat->FC} {n:Nat} {A:jV}
theorem sX{o:Oper}{j:Nat}:j∈dc o↔∃e∈o.after,Region.binds .any e=true/\e.on=j:=by
 unfold dc
 rw[List.mem_filterMap]
 constructor
 ·rintro⟨e,he,h⟩
  refine⟨e,by simpa using he,?_⟩
  cases hg:e.ground<;>rw[hg]at h<;>simp only[Option.some.injEq,reduceCtorEq]at h<;>first|(cases h;done)|exact⟨by simp[Region.binds,hg],h⟩
 ·rintro⟨e,he,hb,rfl⟩
  refine⟨e,by simpa using he,?_⟩
  cases hg:e.ground<;>simp[Region.binds,hg]at hb |-
theorem se:∀(l:List Oper) (acc:List It) (k:Nat) (o:Oper),l[k]?=some o->∃t,t∈dF l acc/\t.i=acc.length+k/\t.o=o
 |[],acc,k,o,h=>by simp at h
 |
  x::l,acc,0,o,h=>by
  simp only[List.getElem?_cons_zero,Option.some.injEq]at h
  exact⟨_,ai,rfl,h⟩
 |
  x::l,acc,k+1,o,h=>by
  obtain⟨t,h1,h2,h3⟩:=se l (acc++[⟨acc.length,x,nI x acc⟩]) k o (by simpa using h)
  exact⟨t,ak _ h1,by rw[h2];simp;omega,h3⟩
theorem mi:∀(l:List Oper) (acc:List It) (t:It),t∈dF l acc->∃k,l[k]?=some t.o/\t.i=acc.length+k
 |[],acc,t,h=>by cases h
 |
  x::l,acc,t,h=>by
  rcases aH.1 h with rfl|h
  ·exact⟨0,rfl,rfl⟩
  ·obtain⟨k,h1,h2⟩:=mi l _ t h
   exact⟨k+1,by simpa using h1,by rw[h2];simp;omega⟩
theorem oz:∀(l:List Oper) (acc:List It),(dF l acc).Pairwise fun x y=>x.i<y.i
 |[],acc=>List.Pairwise.nil
 |
  x::l,acc=>by
  refine List.Pairwise.cons (fun y hy=>?_) (oz l _)
  obtain⟨k,_,h2⟩:=mi l _ y hy
  rw[h2];simp;omega
theorem sU:∀(l:List Oper) (acc:List It) (t:It),t∈dF l acc->∀j,j∈t.uu->j∈dc t.o\/∃t',(t'∈acc\/t'∈dF l acc)/\t'.i∈dc t.o/\j∈t'.uu
 |[],acc,t,h=>by cases h
 |
  x::l,acc,t,h=>by
  intro j hj
  rcases aH.1 h with rfl|h
  ·rcases aM.1 hj with hj|hj
   ·exact .inl hj
   ·obtain⟨t',h1,h2⟩:=dq.1 hj
    obtain⟨h3,h4⟩:=List.mem_filter.1 h1
    exact .inr ⟨t',.inl h3,uW h4,h2⟩
  ·rcases sU l _ t h j hj with h1|⟨t',h1,h2,h3⟩
   ·exact .inl h1
   ·refine .inr ⟨t',?_,h2,h3⟩
    rcases h1 with h1|h1
    ·rcases aM.1 h1 with h1|h1
     ·exact .inl h1
     ·exact .inr (by rw[aU.1 h1];exact ai)
    ·exact .inr (ak _ h1)
theorem qA{listed:Array Bool}{i:Nat}(h:listed.getD i true=false):listed.getD i false=false:=by
 by_cases hi:i<listed.size
 ·simpa[hi]using h
 ·simp[show listed.size<=i by omega]at h
theorem Ho(hT:cT P T)(hB:l4 P A){ops:Array Oper}{Ψ:St->Prop}{Q:Exit->Act->World->Prop}(hK:∀s a w,fY n A s a w->Ψ s->Q .normal a w) :
 ∀(fuel:Nat) (listed:Array Bool) (L:List It) (s:St) (a:Act) (w:World),L.length<=fuel->listed.size=ops.size->(∀t,t∈L->t∈dF ops.toList []/\listed.getD t.i true=false)->(∀t,t∈dF ops.toList []->t∉L->listed.getD t.i false=true) ->
  L.Pairwise (fun x y=>x.i<y.i)->(∀t,t∈dF ops.toList []->listed.getD t.i false=true->∀j,j∈t.uu->listed.getD j false=true)->fY n A s a w->Seq P T cw n ops.toList Ψ L [] s->wpAny P .any ops Q fuel listed a w:=by
 have item:∀j o,ops[j]?=some o->∃t,t∈dF ops.toList []/\t.i=j/\t.o=o:=fun j o h=>by
  obtain⟨t,h1,h2,h3⟩:=se ops.toList [] j o (by simpa using h)
  exact⟨t,h1,by simpa using h2,h3⟩
 have opOf:∀t,t∈dF ops.toList []->ops[t.i]?=some t.o:=fun t ht=>by
  obtain⟨k,h1,h2⟩:=mi ops.toList [] t ht
  rw[h2];simpa using h1
 have done:∀(listed:Array Bool) (L:List It) (s:St) (a:Act) (w:World),(∀t,t∈L->t∈dF ops.toList []/\listed.getD t.i true=false)->(∀t,t∈dF ops.toList []->t∉L->listed.getD t.i false=true) ->
  L.Pairwise (fun x y=>x.i<y.i)->fY n A s a w->Seq P T cw n ops.toList Ψ L [] s->Region.ready .any ops listed=[]->Q .normal a w:=by
  intro listed L s a w h1 h2 h3 g h hr
  cases L with
  |nil=>exact hK s a w g h
  |
   cons t L =>
   exfalso
   obtain⟨ht,hu⟩:=h1 t ai
   have hb:=Seq.back [] (L2:=L) h (fun x hx=>by cases hx)
   have:t.i∈Region.ready .any ops listed:=by
    rw[mem_ready]
    refine⟨hu,t.o,opOf t ht,fun e he hbd=>?_⟩
    have hlt:=hb.2.1 e.on (sX.2 ⟨e,he,hbd,rfl⟩)
    have hsz:t.i<ops.size:=(Array.getElem?_eq_some_iff.1 (opOf t ht)).1
    obtain⟨t',q1,q2,_⟩:=item e.on ops[e.on] (Array.getElem?_eq_getElem (by omega))
    rw[<-q2]
    refine h2 t' q1 fun hh=>?_
    rcases aH.1 hh with rfl|hh
    ·omega
    ·have:=(List.pairwise_cons.1 h3).1 t' hh;omega
   rw[hr]at this;cases this
 intro fuel
 induction fuel with
 |
  zero =>
  intro listed L s a w hl hs h1 h2 h3 h4 g h
  have:L=[]:=List.length_eq_zero_iff.1 (by omega)
  subst this
  refine⟨?_,hK s a w g h⟩
  cases hr:Region.ready .any ops listed with
  |nil=>rfl
  |
   cons j js =>
   exfalso
   have hj:j∈Region.ready .any ops listed:=by rw[hr];exact ai
   obtain⟨hu,o,ho,_⟩:=mem_ready.1 hj
   obtain⟨t,q1,q2,_⟩:=item j o ho
   have:=h2 t q1 (by simp)
   rw[q2,qA hu]at this;cases this
 |
  succ fuel ih =>
  intro listed L s a w hl hs h1 h2 h3 h4 g h
  refine⟨done listed L s a w h1 h2 h3 g h,fun j hj=>?_⟩
  obtain⟨hu,o,ho,hall⟩:=mem_ready.1 hj
  obtain⟨t,q1,q2,q3⟩:=item j o ho
  subst q2;subst q3
  have htL:t∈L:=by
   by_cases hh:t∈L
   ·exact hh
   ·have:=h2 t q1 hh
    rw[qA hu]at this;cases this
  obtain⟨L1,L2,rfl⟩:=List.append_of_mem htL
  have hedge:∀j,j∈dc t.o->listed.getD j false=true:=fun j hj=>by
   obtain⟨e,he,hb,rfl⟩:=sX.1 hj
   exact hall e he hb
  have hanc:∀j,j∈t.uu->listed.getD j false=true:=fun j hj=>by
   rcases sU ops.toList [] t q1 j hj with hh|⟨t',hh,r1,r2⟩
   ·exact hedge j hh
   ·rcases hh with hh|hh
    ·cases hh
    ·exact h4 t' hh (hedge _ r1) j r2
  have hpull:=Seq.K7 L1 h fun x hx hx'=>by
   have:=hanc _ hx'
   rw[qA (h1 x (aB _ hx)).2]at this;cases this
  have hlt:t.i<listed.size:=by rw[hs];exact(Array.getElem?_eq_some_iff.1 (opOf t q1)).1
  obtain⟨p1,p2,p3⟩:=List.pairwise_append.1 h3
  have p2':=List.pairwise_cons.1 p2
  have hne:∀x,x∈L1++L2->x.i≠t.i:=fun x hx=>by
   rcases aM.1 hx with hx|hx
   ·have:=p3 x hx t ai;omega
   ·have:=p2'.1 x hx;omega
  have next:=Ev hT hB g hpull (Kw:=wpAny P .any ops Q fuel (listed.setIfInBounds t.i true)) (Qw:=Q) fun s' a' w' g' hY =>
   ih (listed.setIfInBounds t.i true) (L1++L2) s' a' w' (by simp at hl |-;omega) (by simpa using hs)
    (fun x hx=>by
     obtain⟨r1,r2⟩:=h1 x (by
      rcases aM.1 hx with hx|hx
      ·exact aB _ hx
      ·exact az _ (ak _ hx))
     exact⟨r1,by rw[getD_set_ne true (Ne.symm (hne x hx))];exact r2⟩)
    (fun x hx hn=>by
     by_cases e:x.i=t.i
     ·rw[e];simp[hlt]
     ·rw[getD_set_ne false (Ne.symm e)]
      refine h2 x hx fun hh=>?_
      rcases aM.1 hh with hh|hh
      ·exact hn (aB _ hh)
      ·rcases aH.1 hh with rfl|hh
       ·exact e rfl
       ·exact hn (az _ hh))
    (List.pairwise_append.2 ⟨p1,p2'.2,fun x hx y hy=>p3 x hx y (ak _ hy)⟩)
    (fun x hx hlx jj hja=>by
     by_cases e:x.i=t.i
     ·have:x=t:=by
       by_cases hxL:x∈L1++t::L2
       ·rcases aM.1 hxL with hh|hh
        ·exact absurd e (hne x (aB _ hh))
        ·rcases aH.1 hh with rfl|hh
         ·rfl
         ·exact absurd e (hne x (az _ hh))
       ·have:=h2 x hx hxL
        rw[e,qA hu]at this;cases this
      subst this
      exact getD_set_true (hanc jj hja)
     ·rw[getD_set_ne false (Ne.symm e)]at hlx
      exact getD_set_true (h4 x hx hlx jj hja)) g' hY
  unfold wpOp
  rw[opOf t q1]
  simp only
  by_cases hw:Region.wanted t.o (yielded ops a.tmps)=true
  ·rw[if_pos hw]at next |-;exact .inl next
  ·rw[if_neg hw]at next |-;exact next
theorem wL(hT:cT P T)(hm:P.follows .mixedOrders=true)(hB:l4 P A)(Φ:Nat->List AV->List Ob->Prop):yp P n A T cw Φ:=by
 intro id ops draw K Q hK s a w g h
 cases draw with
 |false=>exact wp_region_list (wQ hT hB hK ops.toList [] s a w g h)
 |
  true =>
  refine wp_region_any hm ?_
  have hs:=AL (H:=[]) ops ops.toList s h
  obtain⟨M,β,g⟩:=g
  have g':fY n A s a {w with drawn:=w.drawn+1}:=⟨M,β,{g with agree:=⟨g.agree.c,g.agree.p⟩,own:=fun o x hx=>(g.own o x hx).mono (Mem.le.refl _) (Lo.le.refl _) fun b hl hb=>⟨rfl,(g.own o x hx).Bo hl hb⟩,cA:=g.cA.jW rfl rfl rfl (aq _) fun _ _ _=>rfl}⟩
  refine Ho hT hB (Ψ:=fun s=>eF P n (K s) Φ) hK ops.size _ _ s a _ ?_ (by simp) (fun t ht=>⟨ht,?_⟩) (fun t ht hn=>absurd ht hn) (oz _ _) (fun t ht hl=>?_) g' hs
  ·have:∀(l:List Oper) (acc:List It),(dF l acc).length=l.length:=fun l=>by
    induction l with
    |nil=>intro acc;rfl
    |cons x l ih=>intro acc;simp[dF,ih]
   rw[this];simp
  ·obtain⟨k,h1,h2⟩:=mi ops.toList [] t ht
   have:t.i<ops.size:=by
    rw[h2]
    have:=(List.getElem?_eq_some_iff.1 h1).1
    simpa using this
   simp[this]
  ·exfalso
   obtain⟨k,h1,h2⟩:=mi ops.toList [] t ht
   by_cases hi:t.i<ops.size
   ·simp[hi]at hl
   ·simp[show ops.size<=t.i by omega]at hl
end
end Go.VL
namespace Go.VL
open Go Go.RowKit
theorem uL{P:Program}:∀{l:List (Nat×TI)},(l.all fun p=>!p.2.kn||p.2.v8 P p.1)=true->cT P (xB l)
 |[],_,t,h=>by cases h
 |
  (j,m)::r,hl,t,h=>by
  simp only[cL,aw,bn,cf]at hl
  unfold xB at h |-
  cases e:aJ j t with
  |
   true =>
   simp only[e,cond_true]at h |-
   have:=aD e
   subst this
   rcases hl.1 with h1|h1
   ·rw[h1]at h;cases h
   ·exact FK h1
  |
   false =>
   simp only[e,cond_false]at h |-
   exact uL hl.2 t h
section
variable {P:Program} {T:eC} {cw:Nat->FC} {lis:List (Nat×LI)}
theorem ap.of(hT:cT P T)(hm:P.follows .mixedOrders=true){fc:FC}{f:Nat}{F:Func}{asq:List AV}{ins:List Ob}{R:AV->List Ob->Prop}(hf:P.funcs[f]?=some F)(hnm:(F.name=="runtime.NumGoroutine")=false)
 (h:eF P F.ntmps (main T cw lis fc F asq ins) fun _ xs obs=>R (xs.headD .any) obs):ap P f asq ins R :=
 BZ hT hf hnm (fun A hB=>wL hT hm hB _) h
theorem cn.of(hT:cT P T)(hm:P.follows .mixedOrders=true){n:Nat}{c:Code}{li:LI}{xs:List AV}{obs:List Ob}{R:Nat->List AV->List Ob->Prop}
 (h:eF P n (round T cw n lis c li xs obs) fun tag ys o=>(tag=0->cn P n c li ys o R)/\(tag=1->R 1 ys o)/\(tag=2->R 2 ys o)):cn P n c li xs obs R :=
 cn.step (fun A hB=>wL hT hm hB _) h
theorem ap.Nr(hT:cT P T)(hm:P.follows .mixedOrders=true){fc:FC}{f:Nat}{F:Func}{asq:List AV}{ins:List Ob}{R:AV->List Ob->Prop}{t:Tree}(hf:P.funcs[f]?=some F)(hnm:(F.name=="runtime.NumGoroutine")=false)(e:main T cw lis fc F asq ins=t)
 (h:eF P F.ntmps t fun _ xs obs=>R (xs.headD .any) obs):ap P f asq ins R:=ap.of hT hm hf hnm (by rw[e];exact h)
theorem cn.Nr(hT:cT P T)(hm:P.follows .mixedOrders=true){n:Nat}{c:Code}{li:LI}{xs:List AV}{obs:List Ob}{R:Nat->List AV->List Ob->Prop}{t:Tree}(e:round T cw n lis c li xs obs=t)
 (h:eF P n t fun tag ys o=>(tag=0->cn P n c li ys o R)/\(tag=1->R 1 ys o)/\(tag=2->R 2 ys o)):cn P n c li xs obs R:=cn.of hT hm (by rw[e];exact h)
theorem ap.mono{f:Nat}{asq:List AV}{ins:List Ob}{R R':AV->List Ob->Prop}(h:ap P f asq ins R)(hr:∀r obs,R r obs->R' r obs):ap P f asq ins R' :=
 ⟨h.1,fun w M β vs hB hin=>Calls.mono (h.2 w M β vs hB hin) fun e w' ⟨v,r,obs,M',β',he,hR,ho⟩=>⟨v,r,obs,M',β',he,hr r obs hR,ho⟩⟩
end
end Go.VL
namespace Go.VL
open Go Go.RowKit
def Bn(sel:Nat->Bool)(ids:Nat->Nat)(ob:Nat->Option Ob):Nat->AV->Option (AV×List Nat)
 |0,_=>none
 |
  n+1,a=>match a with
  |
   .ref o 0=>match ob o with
   |some (.cells (c::cs))=>(mh (Bn sel ids ob n) (c::cs)).map fun r=>(bif sel o then .pid (ids o) r.1 else .ptr r.1,o::r.2)
   |_=>none
  | .x a=>some (a,[])
  | .agg cs=>(mh (Bn sel ids ob n) cs).map fun r=>(.agg r.1,r.2)
  | .v x=>some (.v x,[])
  |_=>none
theorem Bi{M:Mem}{β:Lo}{w:World}{sel:Nat->Bool}{ids:Nat->Nat}{ob:Nat->Option Ob}(hid:∀o c cs b,ob o=some (.cells (c::cs))->β o=some (.cells b)->ids o=b) :
 ∀(k:Nat) (c a':AV) (os:List Nat) (v:Value),Bn sel ids ob k c=some (a',os)->Fz M β w ob os/\(∀o,o∈os->∀c cs b,ob o=some (.cells (c::cs))->β o=some (.cells b)->M.p b)->bu M β c v->bu M dj a' v
 |0,c,a',os,v,h,_,_=>by simp[Bn]at h
 |
  k+1,c,a',os,v,h,⟨hz,hp⟩,hr=>by
  have ih:∀cs asq os,mh (Bn sel ids ob k) cs=some (asq,os)->Fz M β w ob os->(∀o,o∈os->∀c cs b,ob o=some (.cells (c::cs))->β o=some (.cells b)->M.p b)->asq.length=cs.length/\∀i v,i<cs.length->bu M β (cs.getD i .any) v->bu M dj (asq.getD i .any) v:=by
   intro cs
   induction cs with
   |
    nil =>
    intro asq os h _ _
    simp[mh]at h
    obtain⟨rfl,rfl⟩:=h
    exact⟨rfl,fun i v hi=>by simp at hi⟩
   |
    cons c cs ihc =>
    intro asq os h hz hp
    unfold mh at h
    split at h
    ·rename_i a1 os1 as2 os2 h1 h2
     cases h
     obtain⟨q1,q2⟩:=ihc _ _ h2 hz.right (fun o ho=>hp o (az _ ho))
     refine⟨by simp[q1],fun i v hi hr=>?_⟩
     cases i with
     |zero=>simpa using Bi hid k _ _ _ _ h1 ⟨hz.left,fun o ho=>hp o (aB _ ho)⟩ (by simpa using hr)
     |succ i=>simpa using q2 i v (by simpa using hi) (by simpa using hr)
    ·cases h
  unfold Bn at h
  split at h
  ·rename_i o
   split at h
   ·rename_i c0 cs0 ho
    cases e:mh (Bn sel ids ob k) (c0::cs0)with
    |none=>rw[e]at h;cases h
    |
     some r =>
     rw[e]at h;cases h
     obtain⟨asq,os'⟩:=r
     obtain⟨b,us,h1,h2⟩:=hz o ai _ (by rw[ho];rfl)
     obtain⟨q1,q2⟩:=ih _ _ _ e (fun o' ho'=>hz o' (ak _ ho')) (fun o' ho'=>hp o' (ak _ ho'))
     cases hr with
     |
      ref _ _ _ b' hb =>
      rw[h1]at hb;cases hb
      simp only
      cases sel o with
      |
       true =>
       rw[hid o _ _ b ho h1]
       exact .pid _ _ _ us (hp o ai _ _ b ho h1) (fun i hi=>(h2 i (by omega)).1) fun i hi=>q2 i _ (by omega) (h2 i (by omega)).2
      |false=>exact .ptr _ _ _ _ us (fun i hi=>by simpa using(h2 i (by omega)).1) fun i hi=>q2 i _ (by omega) (h2 i (by omega)).2
   ·cases h
  ·cases h;cases hr with|x _ _ _ ho h=>exact h
  ·rename_i cs
   cases e:mh (Bn sel ids ob k) cs with
   |none=>rw[e]at h;cases h
   |
    some r =>
    rw[e]at h;cases h
    obtain⟨q1,q2⟩:=ih cs _ _ (by rw[e]) hz hp
    cases hr with
    |
     agg _ _ vs hl ho h =>
     exact .agg _ _ _ (q1.trans hl) (fun i hi=>ho i (by omega)) fun i hi=>q2 i _ (by omega) (h i (by omega))
  ·cases h;cases hr;exact .v _ _
  ·cases h
theorem D0{M:Mem}{β:Lo}{w:World}{sel:Nat->Bool}{ids:Nat->Nat}{ob:Nat->Option Ob}(hid:∀o c cs b,ob o=some (.cells (c::cs))->β o=some (.cells b)->ids o=b)(k:Nat) :
 ∀(cs asq:List AV) (os:List Nat),mh (Bn sel ids ob k) cs=some (asq,os)->Fz M β w ob os->(∀o,o∈os->∀c cs b,ob o=some (.cells (c::cs))->β o=some (.cells b)->M.p b)->asq.length=cs.length/\∀i v,i<cs.length->bu M β (cs.getD i .any) v->bu M dj (asq.getD i .any) v
 |
  [],asq,os,h,_,_=>by
  simp[mh]at h
  obtain⟨rfl,rfl⟩:=h
  exact⟨rfl,fun i v hi=>by simp at hi⟩
 |
  c::cs,asq,os,h,hz,hp=>by
  unfold mh at h
  split at h
  ·rename_i a1 os1 as2 os2 h1 h2
   cases h
   obtain⟨q1,q2⟩:=D0 hid k cs _ _ h2 hz.right (fun o ho=>hp o (az _ ho))
   refine⟨by simp[q1],fun i v hi hr=>?_⟩
   cases i with
   |zero=>simpa using Bi hid k _ _ _ _ h1 ⟨hz.left,fun o ho=>hp o (aB _ ho)⟩ (by simpa using hr)
   |succ i=>simpa using q2 i v (by simpa using hi) (by simpa using hr)
  ·cases h
def yt(T:eC)(F:Func)(S:Nat->Prop)(sel:Nat->Bool)(R:AV->Prop)(s:St):Prop :=
 ∀ids:Nat->Nat,(∀o,¬S (ids o))->match ma T s F.results.toList with
  |
   some (p,as')=>(match mh (Bn sel ids s.ob ek) as' with
   |some (xs,_)=>gD p/\R (match xs with|[]=>.any|[x]=>x|xs=>.cQ xs)
   |none=>False)
  |none=>False
theorem yt.get{T:eC}{F:Func}{S:Nat->Prop}{sel:Nat->Bool}{R:AV->Prop}{s:St}(h:yt T F S sel R s)(ids:Nat->Nat)(hi:∀o,¬S (ids o)) :
 ∃p as' xs fz,ma T s F.results.toList=some (p,as')/\gD p/\mh (Bn sel ids s.ob ek) as'=some (xs,fz)/\R (match xs with|[]=>.any|[x]=>x|xs=>.cQ xs):=by
 have:=h ids hi
 split at this
 ·split at this
  ·rename_i h1 _ _ _ h2
   exact⟨_,_,_,_,h1,this.1,h2,this.2⟩
  ·exact this.elim
 ·exact this.elim
def zX(T:eC)(cw:Nat->FC)(F:Func)(c:Code)(asq:List AV)(S:Nat->Prop)(sel:Nat->Bool)(R:AV->Prop):Tree :=
 go T cw F.ntmps [] [] c (enter asq []) fun e s=>match e with| .exit _=>.fail|_=>.aj (yt T F S sel R s) (.done 0 [] [])
theorem ap.Q4{P:Program}{T:eC}{cw:Nat->FC}(hT:cT P T)(hm:P.follows .mixedOrders=true){f:Nat}{F:Func}{asq:List AV}{S:Nat->Prop}{sel:Nat->Bool}{R:AV->Prop}(hf:P.funcs[f]?=some F)(hnm:(F.name=="runtime.NumGoroutine")=false){c:Code}(hb:F.body=some c)(hle:fG asq.length F.ntmps=true)
 (hS:∀(M:Mem) (β:Lo) (vs:List Value),(∀i,i<asq.length->bu M β (asq.getD i .any) (vs.getD i undef))->∀b,S b->M.p b)
 (h:eF P F.ntmps (zX T cw F c asq S sel R) fun _ _ _=>True):ap P f asq [] (fun r o=>R r/\o=[]):=by
 unfold zX at h
 have hle:=aP hle
 refine⟨⟨F,hf,by simp[hb],hnm⟩,fun w M β vs hB hin=>?_⟩
 let A:jV:=⟨w,M,fun b=>∃i,i<0/\dR β i=some b,fun o=>none⟩
 have hβ:∀o,β o=none:=fun o=>hin.none o (dr _)
 have hob:∀o,(enter asq []).ob o=none:=fun o=>rfl
 have g0:cW F.ntmps A (enter asq []) {tmps:=vs.toArray++Array.replicate (F.ntmps-vs.toArray.size) undef,defers:=[]} w M β:=by
  refine {size:=by simp[hin.len];omega,lZ:=rfl,tm:=fun t=>?_,le:=Mem.le.refl _,new:=fun b k v h=>.inl h,agree:=hin.agree,own:=fun o x h=>?_,place:=fun o x b h _ hb=>?_,apart:=fun o o' x x' b hne h hl h' hl' hb=>?_,us:=fun o hu=>⟨hβ o,hob o⟩,fix:=fun o b hb=>(by cases hb),cA:=⟨rfl,rfl,rfl,aq _,fun _ _ _=>rfl⟩}
  ·show bu M β (mM asq 0 (fun _=>.any) t) _
   rw[mw]
   by_cases ht:t<asq.length
   ·rw[if_pos (by omega),Nat.sub_zero]
    have e:(vs.toArray++Array.replicate (F.ntmps-vs.toArray.size) undef).getD t undef=vs.getD t undef:=by
     have:t<vs.length:=by rw[hin.len];exact ht
     simp[Array.getElem?_append,this,aa]
    rw[e];exact hin.s9 t ht
   ·rw[if_neg (by omega)];exact .any _ _
  ·rw[hob o]at h;cases h
  ·rw[hob o]at h;cases h
  ·rw[hob o]at h;cases h
 have hS':∀b,S b->b<w.heap.size:=fun b hb=>by
  obtain⟨k,v,hc⟩:=M.pc b (hS M β vs hin.s9 b hb)
  exact hin.agree.lt hc
 have hBA:l4 P A:=l4.of hB fun b k v hc ⟨i,hi,hbi⟩=>by omega
 refine calls_of_wp hf hb (Bh (A:=A) hBA (wL hT hm hBA _) [] (fx:=[]) (fun o b hb=>by cases hb) c _ _ _ ?_ _ w ⟨M,β,g0⟩ h)
 intro ex s a w' ⟨M',β',g⟩ h'
 have fin:yt T F S sel R s->a.defers=[]/\∃v,(results F a.tmps).run P w'=.ok v w'/\∃v' r obs M'' β'',Ending.returned v=.returned v'/\(R r/\obs=[])/\Out w M β 0 r obs v' w' M'' β'':=by
  intro hl
  let ids:Nat->Nat:=fun o=>match s.ob o,β' o with|some (.cells _),some (.cells b)=>b|_,_=>w.heap.size
  have hids:∀o,¬S (ids o):=fun o hSo=>by
   have hlt:=hS' _ hSo
   simp only[ids]at hlt
   split at hlt
   ·rename_i cs b e1 e2
    rcases g.place o _ b e1 rfl (by simp[dR,e2,Loc.block])with h|⟨i,hi,_⟩
    ·exact absurd h (by show ¬w.heap.size<=b;omega)
    ·omega
   ·omega
  obtain⟨p,as',xs,fz,hres,hp,hfz,hR⟩:=hl.get ids hids
  obtain⟨rs,h1,h2,h3⟩:=oA hT g F.results.toList hres hp
  obtain⟨M1,hM,g1,hpp⟩:=g.xP fz
  obtain⟨q1,q2⟩:=D0 (M:=M1) (β:=β') (w:=w') (ids:=ids) (fun o c cs b e1 e2=>by simp only[ids,e1,e2]) ek as' xs fz hfz g1.fz (fun o ho c cs b e1 e2=>hpp o ho _ b e1 (by simp) e2)
  have hrep:∀i,i<xs.length->bu M1 dj (xs.getD i .any) (rs.getD i undef):=fun i hi=>q2 i _ (by omega) ((h3 i (by omega)).mono hM (Lo.le.refl _))
  have hrun:(results F a.tmps).run P w'=.ok (if h:rs.toArray.size=1 then rs.toArray[0]else .tuple rs.toArray) w':=by
   rw[qH,Sem.run_bind,Array.mapM_eq_mapM_toList]
   simp only[Sem.run_map,h1]
   rfl
  refine⟨g.lZ,_,hrun,_,_,[],M1,dj,rfl,⟨hR,rfl⟩,?_⟩
  have hxl:xs.length=rs.length:=by omega
  refine⟨g1.le,g1.agree,?_,fun j hj=>(by simp at hj),fun j b hj hb=>(by omega),fun j l sz es hj=>(by omega),fun i j b hne hi=>(by simp at hi),fun j b hj=>(by simp at hj),fun b k v hc=>g1.new b k v hc,⟨g1.cA.os,g1.cA.tape,g1.cA.output,g1.cA.size,g1.cA.block⟩⟩
  match xs,rs,hxl,hrep with
  |[],[],_,_=>exact .any _ _
  |[x],[r],_,hrep=>simpa using hrep 0 (by simp)
  |x::y::xs,r::q::rs,hl,hrep=>exact .cQ _ _ _ (by simpa using hl) hrep
 cases ex with
 |normal=>exact fin h'.1
 |ret=>exact fin h'.1
 |exit i=>exact h'.elim
end Go.VL
namespace Go.VL
open Go Go.RowKit
section
variable {P:Program} {n:Nat} {Q:Nat->List AV->List Ob->Prop}
abbrev bH(v:AV):AV->List Ob->Prop:=fun r o=>r=v/\o=[]
abbrev ga(t:Nat)(ys:List AV)(o:List Ob):Nat->List AV->List Ob->Prop:=fun t' ys' o'=>t'=t/\ys'=ys/\o'=o
theorem aV{f:Nat}{asq:List AV}{ins:List Ob}{k:AV->List Ob->Tree}{R:AV->List Ob->Prop}(h:ap P f asq ins R)(hne:∃r o,R r o)(hk:∀r o,R r o->eF P n (k r o) Q):eF P n (.call f asq ins k) Q:=⟨R,h,hne,hk⟩
theorem an{f:Nat}{asq:List AV}{k:AV->List Ob->Tree}{v:AV}(h:ap P f asq [] (bH v))(hk:eF P n (k v []) Q):eF P n (.call f asq [] k) Q :=
 ⟨bH v,h,⟨v,[],rfl,rfl⟩,fun r o ⟨h1,h2⟩=>by rw[h1,h2];exact hk⟩
theorem oC{c:Code}{li:LI}{xs:List AV}{obs:List Ob}{kx kr:List AV->List Ob->Tree}{R:Nat->List AV->List Ob->Prop}(h:cn P n c li xs obs R)(h1:∀ys o,R 1 ys o->eF P n (kx ys o) Q)(h2:∀ys o,R 2 ys o->eF P n (kr ys o) Q):eF P n (.loop c li xs obs kx kr) Q:=⟨R,h,h1,h2⟩
theorem cb{c:Code}{li:LI}{xs:List AV}{obs:List Ob}{kx kr:List AV->List Ob->Tree}{ys:List AV}{o:List Ob}(h:cn P n c li xs obs (ga 1 ys o))(h1:eF P n (kx ys o) Q):eF P n (.loop c li xs obs kx kr) Q :=
 ⟨_,h,fun ys' o' ⟨_,e1,e2⟩=>by rw[e1,e2];exact h1,fun ys' o' ⟨e,_⟩=>by cases e⟩
end
abbrev ru(x:Nat×List AV×List Ob):Nat->List AV->List Ob->Prop:=fun t ys o=>(t,ys,o)=x
theorem hH{P:Program}{n:Nat}{Q:Nat->List AV->List Ob->Prop}{c:Code}{li:LI}{xs:List AV}{obs:List Ob}{kx kr:List AV->List Ob->Tree}{x:Nat×List AV×List Ob}(h:cn P n c li xs obs (ru x))(h1:∀ys o,x=(1,ys,o)->eF P n (kx ys o) Q)(h2:∀ys o,x=(2,ys,o)->eF P n (kr ys o) Q):eF P n (.loop c li xs obs kx kr) Q :=
 ⟨_,h,fun ys o e=>h1 ys o e.symm,fun ys o e=>h2 ys o e.symm⟩
def CI(L:List AV->List Ob->Prop)(R:Nat->List AV->List Ob->Prop):Nat->List AV->List Ob->Prop:=fun tag ys o=>(tag=0->L ys o)/\(tag=1->R 1 ys o)/\(tag=2->R 2 ys o)
theorem Nk{L:List AV->List Ob->Prop}{R:Nat->List AV->List Ob->Prop}{ys:List AV}{o:List Ob}:CI L R 0 ys o=L ys o:=by simp[CI]
theorem step1{L:List AV->List Ob->Prop}{R:Nat->List AV->List Ob->Prop}{ys:List AV}{o:List Ob}:CI L R 1 ys o=R 1 ys o:=by simp[CI]
theorem step2{L:List AV->List Ob->Prop}{R:Nat->List AV->List Ob->Prop}{ys:List AV}{o:List Ob}:CI L R 2 ys o=R 2 ys o:=by simp[CI]
section
variable {P:Program} {n:Nat} {Q:Nat->List AV->List Ob->Prop}
theorem Hz{b:Bool}{y t:Tree}:eF P n (.test b y t) Q=((b=true->eF P n y Q)/\(b=false->eF P n t Q)):=rfl
theorem CS{p:Prop}[Decidable p]{y t:Tree}:eF P n (.test (decide p) y t) Q=((p->eF P n y Q)/\(¬p->eF P n t Q)):=by
 show ((decide p=true->_)/\(decide p=false->_))=_
 rw[decide_eq_true_eq,decide_eq_false_iff_not]
theorem CP{b:Bool}{y t:Tree}:eF P n (.test (!b) y t) Q=((b=false->eF P n y Q)/\(b=true->eF P n t Q)):=by
 show (((!b)=true->_)/\((!b)=false->_))=_
 rw[cf,Bool.not_eq_false']
theorem Dq{α:Type}[BEq α]{a b:α}{y t:Tree}:eF P n (.test (a==b) y t) Q=(((a==b)=true->eF P n y Q)/\((a==b)=false->eF P n t Q)):=rfl
theorem A7{α:Type}[BEq α]{a b:α}{y t:Tree}:eF P n (.test (a != b) y t) Q=(((a != b)=true->eF P n y Q)/\((a != b)=false->eF P n t Q)):=rfl
theorem C3{a:AV}{y t:Tree}:eF P n (.test a.toBool y t) Q=((a.toBool=true->eF P n y Q)/\(a.toBool=false->eF P n t Q)):=rfl
theorem Dh{a:AV}{y t:Tree}:eF P n (.test a.isNil y t) Q=((a.isNil=true->eF P n y Q)/\(a.isNil=false->eF P n t Q)):=rfl
theorem Hf{p:Prop}{t:Tree}:eF P n (.aj p t) Q=(p/\eF P n t Q):=rfl
theorem Et{tag:Nat}{xs:List AV}{o:List Ob}:eF P n (.done tag xs o) Q=Q tag xs o:=rfl
end
def mk(l:List UInt8):ByteArray:=⟨l.toArray⟩
theorem lg(k:IntKind)(n:Int):LK.has (.int k) (.v (.int k n))=True:=eq_true ⟨n,rfl⟩
theorem zR(b:Bool):LK.has .bool (.v (.bool b))=True:=eq_true ⟨b,rfl⟩
theorem eV(s:ByteArray):LK.has .str (.v (.string s))=True:=eq_true ⟨s,rfl⟩
theorem ci(es:List (List AV)):LK.has .sl (.sl es)=True:=eq_true (.inr ⟨es,rfl⟩)
theorem be:LK.has .sl (.v (.slice none 0 0))=True:=eq_true (.inl rfl)
theorem cu(cs:List AV):LK.has .ptr (.ptr cs)=True:=eq_true (.inr (.inl ⟨cs,rfl⟩))
theorem gp:LK.has .ptr (.v (.pointer none))=True:=eq_true (.inl rfl)
theorem xz(k:IntKind)(n:Int):(AV.v (.int k n)).toInt=n:=rfl
theorem tK(b:ByteArray):(AV.v (.string b)).ah=b:=rfl
theorem A8(b:Bool):(AV.v (.bool b)).toBool=b:=rfl
theorem AY(cs:List AV)(i:Nat):(AV.cQ cs).comp i=cs.getD i .any:=rfl
theorem fL(es:List (List AV)):(AV.sl es).aO=es:=rfl
theorem zk:(AV.v (.slice none 0 0)).aO=[]:=rfl
theorem jA(cs:List AV):(AV.ptr cs).deref=cs:=rfl
theorem pf(cs:List AV):(AV.ptr cs).isNil=false:=rfl
theorem jy:(AV.v (.pointer none)).isNil=true:=rfl
theorem zN(cs:List AV):(AV.agg cs).cs=cs:=rfl
theorem Bp(cs:List AV):(Ob.cells cs).cs=cs:=rfl
theorem BH(z:Nat)(es:List (List AV)):(Ob.vec z es).es=es:=rfl
theorem wrap64(n:Int)(h:-9223372036854775808<=n)(h':n<9223372036854775808):IntKind.wrap .i64 n=n:=by
 simp[IntKind.wrap,IntKind.signed,IntKind.bits];omega
def Up(a' a:AV):Prop:=∀M β v,bu M β a' v->bu M β a v
theorem aA(a:AV):Up a a:=fun _ _ _ h=>h
theorem ca{a:AV}(h:LK.sl.has a):Up a (.x a):=fun M β v hr=>.x _ _ _ (AR hr h) (kC hr h)
theorem bD{a:AV}(h:LK.ptr.has a):Up a (.x a):=fun M β v hr=>.x _ _ _ (wW hr h) (kC hr h)
theorem Gh(b:Bool):Up (.v (.bool b)) (.b b):=fun M β v hr=>by cases hr;exact .b _ _
def wR:List AV->List AV->Prop
 |[],[]=>True
 |a::asq,b::bs=>Up a b/\wR asq bs
 |_,_=>False
theorem aE:wR [] []:=trivial
theorem ag{a b:AV}{asq bs:List AV}(h:Up a b)(hs:wR asq bs):wR (a::asq) (b::bs):=⟨h,hs⟩
theorem wR.get:∀{asq bs:List AV},wR asq bs->asq.length=bs.length/\∀i,i<bs.length->Up (asq.getD i .any) (bs.getD i .any)
 |[],[],_=>⟨rfl,fun i hi=>by cases hi⟩
 |
  a::asq,b::bs,h=>by
  obtain⟨h1,h2⟩:=wR.get h.2
  refine⟨by simp[h1],fun i hi=>?_⟩
  cases i with
  |zero=>simpa using h.1
  |succ i=>simpa using h2 i (by simpa using hi)
 |[],_::_,h=>h.elim
 |_::_,[],h=>h.elim
theorem cF{asq bs:List AV}(h:wR asq bs):Up (.agg asq) (.agg bs):=fun M β v hr=>by
 obtain⟨vs,rfl,hl,hr,ho⟩:=gv hr
 obtain⟨h1,h2⟩:=h.get
 exact .agg _ _ _ (by omega) (fun i hi=>ho i (by omega)) fun i hi=>h2 i hi M β _ (hr i (by omega))
theorem ap.up{P:Program}{f:Nat}{asq bs:List AV}{ins:List Ob}{R:AV->List Ob->Prop}(h:wR asq bs)(hf:ap P f bs ins R):ap P f asq ins R :=
 ⟨hf.1,fun w M β vs hB hin=>hf.2 w M β vs hB {hin with len:=by rw[hin.len,h.get.1],s9:=fun i hi=>h.get.2 i hi _ _ _ (hin.s9 i (by rw[h.get.1];exact hi))}⟩
def zY:Ob->Ob->Prop
 | .cells asq,.cells bs=>wR asq bs
 |x,y=>x=y
theorem fg(x:Ob):zY x x:=by
 cases x with
 |
  cells cs=>induction cs with
  |nil=>exact aE
  |cons c cs ih=>exact ag (aA c) ih
 |_=>rfl
theorem bQ{asq bs:List AV}(h:wR asq bs):zY (.cells asq) (.cells bs):=h
def uT:List Ob->List Ob->Prop
 |[],[]=>True
 |a::asq,b::bs=>zY a b/\uT asq bs
 |_,_=>False
theorem cm:uT [] []:=trivial
theorem bi{a b:Ob}{asq bs:List Ob}(h:zY a b)(hs:uT asq bs):uT (a::asq) (b::bs):=⟨h,hs⟩
theorem zY.eq{x y:Ob}(h:zY x y):x=y\/∃asq bs,x=.cells asq/\y=.cells bs/\wR asq bs:=by
 cases x with
 |
  cells asq =>
  cases y with
  |cells bs=>exact .inr ⟨asq,bs,rfl,rfl,h⟩
  |_=>cases h
 |_=>exact .inl h
theorem zY.live{x y:Ob}(h:zY x y):x.live=y.live:=by
 rcases h.eq with rfl|⟨asq,bs,rfl,rfl,_⟩<;>rfl
theorem zY.own{x y:Ob}(h:zY x y){M:Mem}{β:Lo}{w:World}{o:Nat}(hx:lY M β w o x):lY M β w o y:=by
 rcases h.eq with rfl|⟨asq,bs,rfl,rfl,hl⟩
 ·exact hx
 ·obtain⟨h1,h2⟩:=wR.get hl
  obtain⟨b,vs,e,q1,q2,q3,q4,q5⟩:=hx
  exact⟨b,vs,e,q1,q2,by omega,fun i hi=>h2 i hi _ _ _ (q4 i (by omega)),q5⟩
theorem uT.get:∀{asq bs:List Ob},uT asq bs->asq.length=bs.length/\∀i,i<bs.length->zY (asq.getD i .dead) (bs.getD i .dead)
 |[],[],_=>⟨rfl,fun i hi=>by cases hi⟩
 |
  a::asq,b::bs,h=>by
  obtain⟨h1,h2⟩:=uT.get h.2
  refine⟨by simp[h1],fun i hi=>?_⟩
  cases i with
  |zero=>simpa using h.1
  |succ i=>simpa using h2 i (by simpa using hi)
 |[],_::_,h=>h.elim
 |_::_,[],h=>h.elim
theorem ap.nu{P:Program}{f:Nat}{asq:List AV}{ins ins':List Ob}{R:AV->List Ob->Prop}(h:uT ins ins')(hf:ap P f asq ins' R):ap P f asq ins R:=by
 obtain⟨hl,hg⟩:=h.get
 refine⟨hf.1,fun w M β vs hB hin=>?_⟩
 rw[hl]
 exact hf.2 w M β vs hB {hin with own:=fun j hj=>(hg j hj).own (hin.own j (by omega)),none:=fun j hj=>hin.none j (by omega),apart:=fun i j b hne hi hj hli hlj hb=>hin.apart i j b hne (by omega) (by omega) (by rw[(hg i hi).live];exact hli) (by rw[(hg j hj).live];exact hlj) hb}
end Go.VL
