/-
  Part of a proof: Go functions read by values, trees of functions, their contracts.
-/
import Derived.Test.YthcjhageibaepaaGreatDoorP6
set_option linter.unusedVariables false
set_option linter.unusedSimpArgs false
open Bool renaming eq_iff_iff→cA,or_eq_false_iff→cm
open Int renaming toNat_natCast→bF
open List renaming append_assoc→a6,cons_append→ba,drop_eq_getElem_cons→aT,drop_zero→bf,eq_nil_of_length_eq_zero→bS,flatMap_cons→cf,getD_cons_zero→bu,getD_eq_getElem?_getD→aa,getElem?_eq_getElem→bp,getElem_mem→bI,headD_cons→aL,length_map→ck,length_nil→aG,map_cons→bB,mem_append→aN,mem_append_left→aD,mem_append_right→aB,mem_cons_of_mem→al,mem_cons_self→ak,mem_map→bO,mem_singleton→aQ,nil_append→aS,tail_cons→bq
open Nat renaming le_refl→au
open Option renaming bind_eq_some_iff→bc,bind_some→a8,getD_some→cz,isSome_iff_exists→cc,isSome_none→bw,isSome_some→aX,map_some→cD
namespace Go.Proofs.Trees
open Go Go.VL Go.RowKit
theorem OV(l:List Hl)(hl:l.length<=1000)(h1:∀h,h∈l->h.1.cL.length<=900000)(h2:∀h,h∈l->h.2.cL.length<=900000):∀(k i:Nat) (out:List Hl),i+k=l.length->out.length<=i ->
 Gq [.sl (mB l),.v (.int .i64 (i:Int))] [.vec 2 (lV out)] (iq 1 [] [.vec 2 (lV (out++l.drop i))])
 |
  0,i,out,hi,ho=>by
  refine OQ _ _ _ ?_
  have:i=l.length:=by omega
  subst this
  simp only[Im,↓zq,zs,ae,fC,List.drop_length]
  exact⟨fun h=>by omega,fun _=>by simp[iq]⟩
 |
  k+1,i,out,hi,ho=>by
  have hlt:i<l.length:=by omega
  have hm:=bI hlt
  have t1:=Dg (l[i]).1.cN (mU _) (h1 _ hm)
  have t2:=Dg (l[i]).2.cN (mU _) (h2 _ hm)
  rw[dq]at t1 t2
  refine OQ _ _ _ ?_
  simp only[Im,↓zq,zs,ae,zt,fC,gF hlt,bH,aY]
  refine⟨fun _=>?_,fun h=>by omega⟩
  repeat refine⟨by omega,?_⟩
  refine aj t1 ?_
  simp only[↓zq,zs,ae,zt]
  repeat refine⟨by omega,?_⟩
  refine aj t2 ?_
  simp only[↓zq,zs,ae,zt,lR]
  refine⟨⟨fun c hc=>by simp at hc;rw[hc];rfl,by omega⟩,?_⟩
  rw[bA i (by omega),aT hlt]
  have:=OV l hl h1 h2 k (i+1) (out++[l[i]]) (by omega) (by simp;omega)
  rw[a6]at this
  simpa[lV]using this
theorem R1(l:List Hl)(hl:l.length<=1000)(h1:∀h,h∈l->h.1.cL.length<=900000)(h2:∀h,h∈l->h.2.cL.length<=900000):an Tryz.prog 73 [.sl (mB l)] [] (bJ (.sl (lV l))):=by
 refine SA _ ((cn _).mpr trivial) ?_
 unfold L8
 refine cF (OV l hl h1 h2 l.length 0 [] (by omega) (by simp)) ?_
 simp only[↓zq,zs,ae]
 exact⟨rfl,rfl⟩
theorem sB{a:Ty}{v:Vl}(h:Fo a v){k:Hl}(hk:k∈kids a v):k.1.cL.length<=900000/\k.2.cL.length<=900000:=by
 obtain⟨b1,b2⟩:=j3 h.il hk
 have h1:=jh _ b1
 have h2:=jh _ b2
 have h3:=zc hk
 have h4:=h.nd
 have h5:k.1.nodes<=4*v.nodes:=by
  cases v with
  |f w=>have:=(ir hk).2;simp only[Vl.nodes];omega
  |_=>cases hk
 omega
theorem JH{s d:Nm}{a:Ty}{x A B:E}{D:Ty}(z:ZT s d a x A B D)(v:Vl)(hv:Fo a v):an Tryz.prog 51 [.v (.string (mk s)),.v (.string (mk v.cL))] [] (bJ (.cI [.sl (lV (kids a v)),.v (.bool true)])):=by
 have hv2:nI s v.cL 100=some v:=by rw[z.cL hv.il hv.ty,if_pos hv.nd]
 have hP:=P3.of x A B
 have hn:=hv.nd
 obtain⟨v0,hv0,_⟩:=ui .nil z.hx (hv.fh z)
 have hkids:=P7 100 v x A B a z.body z.hx v0 hv0 (hv.fh z) (by omega)
 have hV:=P2.of (.atom [102]) v0.cN
 refine Rk _ _ ?_
 unfold JJ
 refine aP (GN s) (jP.ne _ _ (fun h=>h)) ?_
 rintro r o ⟨c,e,he,rfl,hh⟩
 rw[z.le]at hh
 obtain⟨e',he',hce⟩:=hh rfl
 cases he'
 rw[dq]at hce
 rw[hce,z.le]
 simp only[↓zq,zs,ae,zt,aM,bL]
 repeat refine⟨by omega,?_⟩
 refine aP (D5 v.cL) (jP.ne _ _ (fun h=>by simpa using h)) ?_
 rw[ri hv.il hn]
 rintro r o ⟨c,e,he,rfl,hh⟩
 obtain⟨e',he',hce⟩:=hh rfl
 cases he'
 rw[dq]at hce
 rw[hce]
 simp only[↓zq,zs,ae,zt,aM,aX]
 repeat refine⟨by omega,?_⟩
 refine⟨fun h=>by simp at h,fun _=>?_⟩
 refine aj (Aj s v.cL 100) ?_
 rw[hv2,hv0]
 simp only[toNat_one,bg,Vl.cN,bL,↓zq,zs,ae,zt,hP.1,hP.2.1,hP.2.2.1,hP.2.2.2,hV.1,hV.2.1,hV.2.2,aM,aY,aX]
 refine⟨fun h=>by simp at h,fun _=>?_⟩
 repeat refine⟨by omega,?_⟩
 refine aj hkids ?_
 simp only[↓zq,zs,ae]
 repeat refine⟨by omega,?_⟩
 have hlen:=ny a v
 have:=lK (kids a v)
 refine aj (R1 (kids a v) (by omega) (fun h hh=>(sB hv hh).1) (fun h hh=>(sB hv hh).2)) ?_
 rw[<-hv0]
 simp only[↓zq,zs,ae]
 exact⟨rfl,rfl⟩
theorem Sp(s:Nm)(pa:AV)(p:List Nm)(hp:cw pa p)(f:Nm):an Tryz.prog 50 [.agg [.v (.string (mk s)),pa,.v (.string (mk f))]] [] (bJ (.v (.int .i64 (ql s p f)))):=by
 refine PE _ _ _ hp.1 ?_
 unfold JV
 refine aj (Er s pa p hp f) ?_
 simp only[↓zq,zs,ae]
 unfold ql
 cases q:gq s p f with
 |none=>simp only[bw];exact⟨fun _=>⟨rfl,rfl⟩,fun h=>by simp at h⟩
 |
  some r =>
  obtain⟨l,v⟩:=r
  obtain⟨d,hs,rfl,rfl⟩:=nn q
  obtain⟨x,A,B,D,z⟩:=hs.z
  simp only[aX]
  refine⟨fun h=>by simp at h,fun _=>?_⟩
  refine aj (JH z v hs.i.qW) ?_
  simp only[↓zq,zs,ae,lR]
  exact⟨rfl,rfl⟩
end Go.Proofs.Trees
namespace Go.Proofs.Trees
open Go Go.VL Go.RowKit
theorem vP{a:Ty}{l l':List Vl}{v w:Vl}{k:Int}(h:yq a l v k=some (l',w)):∃q,q∈kids a v/\l'=l++[q.1]/\w=q.2/\q.1.nodes<=200/\l.length≠50/\0<=k/\(kids a v)[k.toNat]?=some q:=by
 unfold yq at h
 split at h
 ·cases h
 ·rename_i h0
  split at h
  ·rename_i h1
   split at h
   ·rename_i h2
    cases h
    have e:(kids a v).getD k.toNat (.u,.u)=(kids a v)[k.toNat]'h1.2:=by simp[aa,h1.2]
    rw[e]at h2 |-
    exact⟨_,bI _,rfl,rfl,h2,h0,h1.1,by simp[h1.2]⟩
   ·cases h
  ·cases h
theorem St.dn{s d:Nm}{a:Ty}{l l':List Vl}{v w:Vl}{k:Int}(h:St s d a l v)(hu:yq a l v k=some (l',w)):St s d a l' w/\qP a l' w=some (l,v)/\l'.length=l.length+1:=by
 obtain⟨q,hq,rfl,rfl,hn,h50,_,_⟩:=vP hu
 obtain⟨x,A,B,D,z⟩:=h.z
 obtain⟨t1,t2,t3⟩:=z.RF h.i.qW hq
 have hv:nI d q.1.cL 100=some q.1:=by rw[z.QU (j3 h.i.qW.il hq).1 t1,if_pos hn]
 have hlen:=h.len
 refine⟨⟨⟨x,A,B,D,z⟩,⟨fun c hc=>?_,t2⟩,fun c hc=>?_,by simp;omega⟩,(wL t3 h.i.qW.nd).1,by simp⟩
 ·rcases aN.1 hc with hc|hc
  ·exact h.i.ctx c hc
  ·simp only[aQ]at hc;subst hc;exact z.ctx hv
 ·rcases aN.1 hc with hc|hc
  ·exact h.each c hc
  ·simp only[aQ]at hc;subst hc;exact hv
noncomputable def Bn (s:Nm) (p:List Nm) (f:Nm) (k:Int):Option (List Vl×Vl):=(gq s p f).bind fun r=>yq (zA s) r.1 r.2 k
theorem St.gz{s d:Nm}{a:Ty}{l:List Vl}{v:Vl}(h:St s d a l v):GZ (some (l,v)):=h.i.gz (by have:=h.len;omega)
theorem CO(s:Nm)(p:List Nm)(f:Nm)(k:Int):GZ (Bn s p f k):=fun r hr=>by
 obtain⟨q,h1,h2⟩:=bc.1 hr
 obtain⟨d,hs,_⟩:=nn (l:=q.1) (v:=q.2) h1
 exact(hs.dn (l':=r.1) (w:=r.2) h2).1.gz r rfl
theorem xy{l:List Hl}{i:Nat}(h:i<l.length):(lV l).getD i []=[.v (.string (mk (l[i]).1.cL)),.v (.string (mk (l[i]).2.cL))]:=by simp[lV,aa,h]
theorem wQ{s:Nm}{p:List Nm}{f:Nm}{r:List Vl×Vl}(h:wB s p f=some r):∃d,cO s=some d/\St s d (zA s) r.1 r.2/\p=r.1.map (·.cL)/\f=r.2.cL:=by
 obtain⟨d,a,x,A,B,D,z,hz,hp,hf,hl,hza,_,hr⟩:=ng (l:=r.1) (v:=r.2) h
 rw[hza]
 exact⟨d,z.dl,⟨⟨x,A,B,D,z⟩,hz,nU hr hp,by rw[hp]at hl;simpa using hl⟩,hp,hf⟩
theorem E4{s d:Nm}{l:List Vl}{v:Vl}(hs:St s d (zA s) l v)(hd:cO s=some d)(hv:gq s (l.map (·.cL)) v.cL=some (l,v)){k:Int}(h0:0<=k)(hk:k.toNat<(kids (zA s) v).length) :
 gq s (l.map (·.cL)++[((kids (zA s) v)[k.toNat]).1.cL]) ((kids (zA s) v)[k.toNat]).2.cL=yq (zA s) l v k:=by
 rw[Ad hs hd hv (bI hk)]
 unfold yq
 by_cases h5:l.length=50
 ·rw[if_pos h5,if_pos h5]
 ·rw[if_neg h5,if_neg h5,if_pos (show 0<=k/\k.toNat<(kids (zA s) v).length from ⟨h0,hk⟩)]
  have hg2:(kids (zA s) v).getD k.toNat (.u,.u)=(kids (zA s) v)[k.toNat]:=by simp[aa,hk]
  rw[hg2]
theorem Re(s:Nm)(pa:AV)(p:List Nm)(hp:cw pa p)(f:Nm)(k:Int):an Tryz.prog 30 [.agg [.v (.string (mk s)),pa,.v (.string (mk f))],.v (.int .i64 k)] [] (D0 s (Bn s p f k)):=by
 refine Tc _ _ _ _ hp.1 ?_
 unfold Ku
 refine aj (Er s pa p hp f) ?_
 simp only[↓zq,zs,ae]
 unfold Bn
 cases q:gq s p f with
 |none=>simp only[bw];exact⟨fun _=>⟨rfl,rfl⟩,fun h=>by simp at h⟩
 |
  some r =>
  obtain⟨l,v⟩:=r
  obtain⟨d,hd,hs,rfl,rfl⟩:=wQ (gS q).1
  obtain⟨x,A,B,D,z⟩:=hs.z
  have hlen:l.length<=50:=hs.len
  have hnd:v.nodes<=200:=hs.i.qW.nd
  have hks:=ny (zA s) v
  have hks2:=lK (kids (zA s) v)
  simp only[aX,a8]
  refine⟨fun h=>by simp at h,fun _=>?_⟩
  refine aj (JH z v hs.i.qW) ?_
  simp only[↓zq,zs,ae,lR]
  rw[wrap64 (((kids (zA s) v).length:Int)-1) (by omega) (by omega)]
  refine aj (B3 k 0 _) ?_
  rw[show C5 k 0 (((kids (zA s) v).length:Int)-1)=decide (0<=k/\k<=((kids (zA s) v).length:Int)-1) by rw[cA];simp[C5]]
  simp only[↓zq,zs,ae,lR]
  by_cases hin:0<=k/\k<=((kids (zA s) v).length:Int)-1
  ·have hlt:k.toNat<(kids (zA s) v).length:=by omega
   refine⟨fun h=>(by exfalso;first|omega|(simp at h;omega)),fun _=>?_⟩
   simp only[xy hlt,↓zq,zs,ae,zt]
   repeat refine⟨by first|trivial|omega,?_⟩
   refine aV (HS _ pa hp _ (by simp;omega)) ?_
   simp only[↓zq,zs,ae,zt,Ob.es,aL]
   refine⟨dW _,?_⟩
   repeat refine⟨by first|trivial|omega,?_⟩
   have hdn:=Gg s (l.map (·.cL)++[((kids (zA s) v)[k.toNat]).1.cL]) ((kids (zA s) v)[k.toNat]).2.cL
   rw[E4 hs hd q hin.1 hlt]at hdn
   refine aV hdn ?_
   simp only[↓zq,zs,ae,zt,aI,Ob.es,aL,bq]
   exact⟨rfl,rfl⟩
  ·refine⟨fun _=>?_,fun h=>(by exfalso;first|omega|(simp at h;omega))⟩
   have:yq (zA s) l v k=none:=by
    unfold yq
    by_cases h5:l.length=50
    ·rw[if_pos h5]
    ·rw[if_neg h5,if_neg (by omega)]
   rw[this]
   exact⟨rfl,rfl⟩
end Go.Proofs.Trees
namespace Go.Proofs.Trees
open Go Go.VL Go.RowKit
def dZ(b:AV)(q:Nat)(s:Nm)(p:List Nm)(f:Nm):List Ob:=[.cells [b,.v (.int .i64 (q:Int))],PU,.cells [.v (.string (mk s)),.any,.v (.string (mk f))],.vec 1 (bG p)]
def Tp(b:AV)(q c:Nat):Nat->List AV->List Ob->Prop:=fun k ys ob=>k=1/\ys=[]/\∃(q':Nat) (s:Nm) (p:List Nm) (f:Nm),q<=q'/\q'<=q+c/\p.length<=51/\ob=dZ b q' s p f
theorem AZ(s:Nm)(p:List Nm)(f:Nm):-1<=ql s p f/\ql s p f<=1000:=by
 unfold ql
 cases q:gq s p f with
 |none=>simp
 |
  some r =>
  obtain⟨d,hs,_⟩:=nn (l:=r.1) (v:=r.2) q
  have h1:=ny (zA s) r.2
  have h2:=lK (kids (zA s) r.2)
  have h3:=hs.i.qW.nd
  simp only
  omega
theorem F4(b:AV)(l:List UInt8)(hb:sJ b l)(q0 C:Nat)(hC:q0+C<1000000000000):∀(k:Nat) (ok:Bool) (i n q:Nat) (s:Nm) (p:List Nm) (f:Nm),i+k=n->n<=100->q0<=q->q+k<=q0+C->p.length<=51 ->
 I0 [.v (.bool ok),.v (.int .i64 (n:Int)),.v (.int .i64 (i:Int))] (dZ b q s p f) (Tp b q0 C)
 |
  0,ok,i,n,q,s,p,f,hi,hn,hq0,hq,hp=>by
  refine OR _ _ _ _ _ _ _ _ _ _ _ ?_
  have:i=n:=by omega
  subst this
  simp only[HT,↓zq,zs,ae,zt,ae,bh,hb.has]
  refine⟨fun h=>by omega,fun _=>⟨rfl,rfl,q,s,p,f,by omega,by omega,hp,rfl⟩⟩
 |
  k+1,ok,i,n,q,s,p,f,hi,hn,hq0,hq,hp=>by
  refine OR _ _ _ _ _ _ _ _ _ _ _ ?_
  have hfar:pY=1000000000000000:=rfl
  simp only[HT,↓zq,zs,ae,zt,ae,bh,hb.has]
  refine⟨fun _=>⟨fun hok=>?_,fun _=>⟨rfl,rfl,q,s,p,f,by omega,by omega,hp,rfl⟩⟩,fun h=>by omega⟩
  refine aj (Sp s _ p (cw.of p) f) ?_
  have hm:=AZ s p f
  obtain⟨m,hm1,hm2⟩:∃m:Nat,(if ql s p f>1 then ql s p f else 1)=(m:Int)/\m<=1000:=by
   split
   ·exact⟨(ql s p f).toNat,by omega,by omega⟩
   ·exact⟨1,rfl,by omega⟩
  simp only[↓zq,zs,ae,hm1]
  refine aP (wv b l hb q m (by omega) (by omega)) (fe.ne ⟨0,rfl,fun h=>by omega,by omega⟩) ?_
  rintro r o ⟨q1,h1,h2,⟨j,rfl,_,_⟩,rfl⟩
  simp only[↓zq,zs,ae,zt,aI,hb.has]
  refine aV (Re s _ p (cw.of p) f (j:Int)) ?_
  have hl:=xp s (CO s p f (j:Int))
  simp only[↓zq,zs,ae,zt,aI,Ob.es,aL]
  rw[bA i (by omega)]
  refine⟨dW _,fun _=>?_,fun _=>?_⟩
  ·exact F4 b l hb q0 C hC k ok (i+1) n q1 _ _ _ (by omega) hn (by omega) (by omega) hl
  ·exact F4 b l hb q0 C hC k ok (i+1) n q1 _ _ _ (by omega) hn (by omega) (by omega) hp
def Po(b:AV)(p c:Nat):AV->List Ob->Prop:=fun r o=>∃(q:Nat) (s:Nm) (pth:List Nm) (f:Nm),p<=q/\q<=p+c/\pth.length<=52/\r=.agg [.v (.string (mk s)),.vec 1,.v (.string (mk f))]/\o=[.cells [b,.v (.int .i64 (q:Int))],.vec 1 (bG pth)]
theorem Po.ne(b:AV)(p c:Nat):∃r o,Po b p c r o:=⟨_,_,p,[],[],[],au _,by omega,by simp,rfl,rfl⟩
theorem RC(b:AV)(l:List UInt8)(hb:sJ b l)(p:Nat)(hp:p<100000000000):an Tryz.prog 31 [.ref 0 0] [.cells [b,.v (.int .i64 (p:Int))]] (Po b p 60000001000):=by
 have hfar:pY=1000000000000000:=rfl
 refine SZ _ _ hb.has ?_
 unfold J9
 refine aP (Qr b l hb p (by omega)) (fe.ne ⟨[],[],rfl⟩) ?_
 rintro r o ⟨q,h1,h2,⟨s,f,rfl⟩,rfl⟩
 simp only[↓zq,zs,ae,zt,aI,hb.has]
 refine aV (P4 s f) ?_
 have hl:=xp s (Ig s [] f)
 simp only[↓zq,zs,ae,zt,aI,Ob.es,aL]
 refine⟨dW _,?_⟩
 refine aP (wv b l hb q 4 (by omega) (by decide)) (fe.ne ⟨0,rfl,fun h=>by omega,by omega⟩) ?_
 rintro r o ⟨q1,g1,g2,⟨n,rfl,_,hn⟩,rfl⟩
 simp only[↓zq,zs,ae,zt,aI,hb.has]
 refine k9 (F4 b l hb q1 n (by omega) n _ 0 n q1 _ _ _ (by omega) (by omega) (by omega) (by omega) hl) (fun ys o e=>?_) (fun ys o e=>?_)
 ·obtain⟨_,rfl,q2,s2,p2,f2,e1,e2,e3,rfl⟩:=e
  simp only[dZ,↓zq,zs,ae,zt,ae,bh,hb.has,Ob.es,aL,bq,bf]
  refine aP (wv b l hb q2 20 (by omega) (by decide)) (fe.ne ⟨0,rfl,fun h=>by omega,by omega⟩) ?_
  rintro r o ⟨q3,d1,d2,⟨j,rfl,_,_⟩,rfl⟩
  simp only[↓zq,zs,ae,zt,aI,hb.has]
  have hsl:(bG p2).length=p2.length:=by simp[bG]
  have ap:bG p2++[[.v (.string (mk [117]))]]=bG (p2++[[117]]):=by simp[bG]
  refine⟨fun _=>⟨⟨fun c hc=>(by simp at hc;rw[hc];rfl),by simp;omega⟩,?_⟩,fun _=>⟨fun _=>?_,fun _=>⟨fun _=>?_,fun _=>?_⟩⟩⟩
  ·rw[ap];exact⟨q3,s2,_,f2,by omega,by omega,by simp;omega,rfl,rfl⟩
  ·exact⟨q3,s2,_,_,by omega,by omega,by omega,rfl,rfl⟩
  ·exact⟨q3,_,_,f2,by omega,by omega,by omega,rfl,rfl⟩
  ·exact⟨q3,s2,_,f2,by omega,by omega,by omega,rfl,rfl⟩
 ·exact absurd e.1 (by decide)
end Go.Proofs.Trees
namespace Go.Proofs.Trees
open Go Go.VL Go.RowKit
def Tm:AV->List Ob->Prop:=fun r o=>o=[]/\∃(s:Nm) (p:List Nm) (f:Nm),p.length<=52/\r=.agg [.v (.string (mk s)),.sl (bG p),.v (.string (mk f))]
theorem Tm.ne:∃r o,Tm r o:=⟨_,_,rfl,[],[],[],by simp,rfl⟩
theorem Qh:(0:Nat)<100000000000:=by decide
end Go.Proofs.Trees
namespace Go.Proofs.Trees
open Go Go.VL Go.RowKit
def Tk:AV->List Ob->Prop:=fun r o=>o=[]/\∃(s:Nm) (p:List Nm) (f:Nm) (k:Int),p.length<=52/\r=.cI [.agg [.v (.string (mk s)),.sl (bG p),.v (.string (mk f))],.v (.int .i64 k)]
theorem Tk.ne:∃r o,Tk r o:=⟨_,_,rfl,[],[],[],0,by simp,rfl⟩
def Pt:AV->List Ob->Prop:=fun r o=>o=[]/\∃(s:Nm) (p:List Nm) (f v:Nm),p.length<=52/\r=.cI [.agg [.v (.string (mk s)),.sl (bG p),.v (.string (mk f))],.v (.string (mk v))]
theorem Pt.ne:∃r o,Pt r o:=⟨_,_,rfl,[],[],[],[],by simp,rfl⟩
theorem QB(a:AV)(ha:yU a):an Tryz.prog 13 [a] [] Pt:=by
 refine Su _ ha.1 ?_
 unfold Kk
 have hfar:pY=1000000000000000:=rfl
 refine aP (Qb a ha) Pm.ne ?_
 rintro r o ⟨b,l,hb,rfl,rfl⟩
 simp only[↓zq,zs,ae,zt,hb.has]
 refine⟨by simp[bH,hb.has,mc],aP (RC b l hb 0 Qh) (Po.ne _ _ _) ?_⟩
 rintro r o ⟨q,s,p,f,_,h2,h3,rfl,rfl⟩
 simp only[↓zq,zs,ae,zt,aI,hb.has,bq,aL,Ob.es]
 refine aP (Hz b l hb q (by omega) s) (fe.ne ⟨[],rfl,by simp⟩) ?_
 rintro r o ⟨q1,b1,b2,⟨v,rfl,_⟩,rfl⟩
 simp only[↓zq,zs,ae,zt,aI,hb.has,bq,aL,Ob.es]
 exact⟨rfl,s,p,f,v,h3,rfl⟩
end Go.Proofs.Trees
namespace Go.Proofs.Trees
open Go Go.VL Go.RowKit
def Tn(n:Nat):AV->List Ob->Prop:=fun r o=>∃x:Int,r=.v (.int .i64 x)/\(0<=x->n<=1048576)
theorem Tn.ne(n:Nat):∃r o,Tn n r o:=⟨_,[],-1,rfl,fun h=>by omega⟩
end Go.Proofs.Trees
namespace Go.Proofs.Trees
open Go Go.VL Go.RowKit
def qp(a:AV)(l:List Nat):Prop:=LK.sl.has a/\a.elems=si l
theorem qp.of(l:List Nat):qp (.sl (si l)) l:=⟨(cn _).mpr trivial,rfl⟩
theorem qp.nil:qp (.v (.slice none 0 0)) []:=⟨(bh).mpr trivial,rfl⟩
theorem qp.len{a:AV}{l:List Nat}(h:qp a l):a.elems.length=l.length:=by rw[h.2,xT]
theorem qp.idx{a:AV}{l:List Nat}(h:qp a l){i:Nat}(hi:i<l.length):a.elems.getD i []=[.v (.int .i64 (l.getD i 0:Nat))]:=by
 rw[h.2];simp[si,aa,hi]
end Go.Proofs.Trees
namespace Go.Proofs.Trees
open Go Go.VL Go.RowKit
def eZ(l:List Int):List (List AV):=l.map fun k=>[.v (.int .i64 k)]
def mr(a:AV)(l:List Int):Prop:=LK.sl.has a/\a.elems=eZ l
theorem ns(l:List Int):(eZ l).length=l.length:=by simp[eZ]
theorem mr.of(l:List Int):mr (.sl (eZ l)) l:=⟨(cn _).mpr trivial,rfl⟩
theorem mr.nil:mr (.v (.slice none 0 0)) []:=⟨(bh).mpr trivial,rfl⟩
theorem mr.len{a:AV}{l:List Int}(h:mr a l):a.elems.length=l.length:=by rw[h.2,ns]
theorem mr.idx{a:AV}{l:List Int}(h:mr a l){i:Nat}(hi:i<l.length):a.elems.getD i []=[.v (.int .i64 (l.getD i 0))]:=by
 rw[h.2];simp[eZ,aa,hi]
theorem qu(l:List Int):∀x,x∈[Ob.vec 1 (eZ l)]->eD x:=by
 intro x hx
 simp only[aQ]at hx
 subst hx
 intro e he c hc
 simp only[eZ,bO]at he
 obtain⟨k,_,rfl⟩:=he
 simp only[aQ]at hc
 exact⟨_,hc⟩
end Go.Proofs.Trees
namespace Go.Proofs.Trees
open Go Go.VL Go.RowKit
abbrev ZO:=Option (List Vl×Vl)
def EB(s:Nm)(o:ZO):Prop:=∀r,o=some r->∃d,St s d (zA s) r.1 r.2
def Oo(a:Ty)(pl:List Int)(o:ZO):ZO:=pl.foldl (fun o k=>o.bind fun r=>yq a r.1 r.2 k) o
theorem EB.dn{s:Nm}{o:ZO}(h:EB s o)(k:Int):EB s (o.bind fun r=>yq (zA s) r.1 r.2 k):=fun r hr=>by
 obtain⟨q,h1,h2⟩:=bc.1 hr
 obtain⟨d,hs⟩:=h q h1
 exact⟨d,(hs.dn (l':=r.1) (w:=r.2) h2).1⟩
theorem EB.go{s:Nm}:∀{pl:List Int} {o:ZO},EB s o->EB s (Oo (zA s) pl o)
 |[],o,h=>h
 |k::pl,o,h=>EB.go (pl:=pl) (h.dn k)
theorem EB.gz{s:Nm}{o:ZO}(h:EB s o):GZ o:=fun r hr=>by
 obtain⟨d,hs⟩:=h r hr
 exact hs.gz r rfl
def Px(s:Nm)(o:ZO):Prop:=∀r,o=some r->gq s (r.1.map (·.cL)) r.2.cL=some r
theorem Px.dn{s:Nm}{o:ZO}(h:Px s o)(k:Int):Px s (o.bind fun r=>yq (zA s) r.1 r.2 k):=fun r hr=>by
 obtain⟨q,h1,h2⟩:=bc.1 hr
 have hq:=h q h1
 obtain⟨d,hd,hs,_⟩:=wQ (gS (l:=q.1) (v:=q.2) hq).1
 obtain⟨e,_,h3,h4,_,_,h0,h5⟩:=vP (l':=r.1) (w:=r.2) h2
 have hk:k.toNat<(kids (zA s) q.2).length:=by
  rcases Nat.lt_or_ge k.toNat (kids (zA s) q.2).length with h|h
  ·exact h
  ·rw[List.getElem?_eq_none h]at h5;cases h5
 have he:(kids (zA s) q.2)[k.toNat]=e:=by rw[bp hk]at h5;cases h5;rfl
 have:=E4 hs hd hq h0 hk
 rw[h2,he]at this
 obtain⟨l1,v1⟩:=r
 simp only at h3 h4 |-
 subst h3 h4
 rw[List.map_append]
 exact this
end Go.Proofs.Trees
namespace Go.Proofs.Trees
open Go Go.VL Go.RowKit
def wO(c:Nm):List Hl->Nat->Int
 |[],_=>-1
 |h::l,i=>if h.1.cL=c then(i:Int)else wO c l (i+1)
theorem Qv(q:Vl)(w:AV)(hw:LK.ptr.has w)(c:Nm)(hq:q.cL.length<=900000):an Tryz.prog 59 [.agg [q.cE,w],.ref 0 0] [.cells [.v (.string (mk c))]] (di (.v (.bool (decide (q.cL=c)))) [.cells [.v (.string (mk c))]]):=by
 refine SP _ _ _ ((aO _).mpr trivial) hw ?_
 unfold Km
 refine aj (D2 q hq) ?_
 simp only[↓zq,zs,ae,zt]
 refine⟨?_,rfl⟩
 congr 2
 rw[cA];simp
theorem Pc(c:Nm)(l:List Hl)(hl:l.length<=1000)(ht:∀h,h∈l->h.1.cL.length<=900000):∀(k i:Nat),i+k=l.length->Hd [.sl (iw l),.v (.int .i64 (l.length:Int)),.v (.int .i64 (i:Int))] [.cells [.v (.string (mk c))]]
 (nK (if wO c (l.drop i) i = -1 then(1,[],[.cells [.v (.string (mk c))]])else(2,[.v (.int .i64 (wO c (l.drop i) i))],[.cells [.v (.string (mk c))]])))
 |
  0,i,hi=>by
  refine LO _ _ _ _ ?_
  have:i=l.length:=by omega
  subst this
  simp only[GI,↓zq,zs,ae,zt,ae,List.drop_length,wO]
  exact⟨fun h=>by omega,fun _=>by simp[nK]⟩
 |
  k+1,i,hi=>by
  have hlt:i<l.length:=by omega
  refine LO _ _ _ _ ?_
  simp only[GI,↓zq,zs,ae,zt,ae,bH,ew,l7 hlt,aO,bF]
  refine⟨fun _=>?_,fun h=>by omega⟩
  repeat refine⟨by first|trivial|omega,?_⟩
  refine aV (Qv (l[i]).1 _ ((aO _).mpr trivial) c (ht _ (bI hlt))) ?_
  simp only[↓zq,zs,ae,zt,aI]
  rw[aT hlt,wO]
  by_cases h:(l[i]).1.cL=c
  ·simp only[if_pos h]
   refine⟨fun _=>?_,fun hn=>absurd h (by simpa using hn)⟩
   rw[if_neg (by omega)]
  ·simp only[if_neg h]
   refine⟨fun hp=>absurd (by simpa using hp) h,fun _=>?_⟩
   rw[bA i (by omega)]
   exact Pc c l hl ht k (i+1) (by omega)
theorem RA(c:Nm)(l:List Hl)(hl:l.length<=1000)(ht:∀h,h∈l->h.1.cL.length<=900000):an Tryz.prog 57 [.sl (iw l),.fn 59 [.ref 0 0]] [.cells [.v (.string (mk c))]] (di (.v (.int .i64 (wO c l 0))) [.cells [.v (.string (mk c))]]):=by
 refine Qz _ _ ((cn _).mpr trivial) ?_
 simp only[LN,↓zq,zs,ae,ew]
 have hloop:=Pc c l hl ht l.length 0 (by omega)
 rw[bf]at hloop
 refine fA hloop (fun ys o e=>?_) (fun ys o e=>?_)
 ·split at e
  ·rename_i h
   cases e
   simp only[↓zq,zs,ae,zt,ae]
   rw[h];exact⟨rfl,rfl⟩
  ·cases e
 ·split at e
  ·cases e
  ·cases e
   simp only[↓zq,zs,ae,zt,ae]
   exact⟨rfl,rfl⟩
theorem Fo.kt{a:Ty}{v:Vl}(h:Fo a v):(kids a v).length<=199/\(∀k,k∈kids a v->k.1.cL.length<=900000):=by
 refine⟨?_,fun k hk=>(sB h hk).1⟩
 have h1:=ny a v
 have h2:=lK (kids a v)
 have:=h.nd
 omega
theorem RN{s d:Nm}{a:Ty}{l l':List Vl}{v w c:Vl}(h:St s d a l v)(hu:qP a l v=some (l',w))(hc:l=l'++[c]):an Tryz.prog 35 [tR s a l v,tR s a l' w] [] (bJ (.v (.int .i64 (wO c.cL (kids a w) 0)))):=by
 have h':=h.up hu
 obtain⟨x,A,B,D,z⟩:=h.z
 have hlen:=h.len
 have hl1:l.length=l'.length+1:=by rw[hc];simp
 refine Qm _ _ ((cj _).mpr trivial) ((cj _).mpr trivial) ?_
 simp only[Nc,tR,↓zq,zs,ae,jO,aO,aF]
 repeat refine⟨by first|trivial|omega,?_⟩
 rw[wrap64 ((l.length:Int)-1) (by omega) (by omega)]
 have e1:((l.length:Int)-1).toNat=l'.length:=by omega
 have hg:(w7 l).getD l'.length []=[c.cE]:=by rw[uq (by omega)];simp[hc]
 simp only[e1,hg,↓zq,zs,ae,aO]
 repeat refine⟨by first|trivial|omega,?_⟩
 have hcx:=h.i.ctx c (by rw[hc];simp)
 refine aj (D2 c hcx.cL) ?_
 simp only[↓zq,zs,ae,zt,aO,aF]
 repeat refine⟨by first|trivial|omega,?_⟩
 have hnd:=h'.i.qW.nd
 refine aj (QP 100 w x A B a z.body z.hx (h'.i.qW.fh z) (by omega)) ?_
 simp only[↓zq,zs,ae,zt]
 have hk:=h'.i.qW.kt
 refine aV (RA c.cL (kids a w) (by omega) hk.2) ?_
 simp only[↓zq,zs,ae,zt,aI]
 exact⟨rfl,rfl⟩
def mg:Nat->Ty->List Vl->Vl->List Int
 |0,_,_,_=>[]
 |
  n+1,a,l,v=>match qP a l v with
  |some r=>mg n a r.1 r.2++[wO ((l.getLast?).getD .u).cL (kids a r.2) 0]
  |none=>[]
theorem v8:∀(n:Nat) (a:Ty) (l:List Vl) (v:Vl),(mg n a l v).length<=n
 |0,_,_,_=>by simp[mg]
 |
  n+1,a,l,v=>by
  unfold mg
  cases qP a l v with
  |none=>simp
  |some r=>have:=v8 n a r.1 r.2;simp;omega
def Sg(p q:List Int)(i:Nat):Prop:=q.length=p.length/\∀k,k<p.length->q.getD k 0=if k<i\/p.length-1-k<i then p.getD (p.length-1-k) 0 else p.getD k 0
theorem wa{l:List Int}{i j:Nat}(x:Int)(hj:j<l.length):(l.set i x).getD j 0=if i=j then x else l.getD j 0:=by
 simp only[aa,List.getElem?_set]
 split
 ·rename_i e;subst e;simp[hj]
 ·rfl
theorem JR(p:List Int)(hp:p.length<=1000000):∀(m i:Nat) (q:List Int),p.length<=m+2*i->i<=p.length->Sg p q i->G8 [.v (.int .i64 (i:Int)),.v (.int .i64 ((p.length:Int)-1-(i:Int)))] [.vec 1 (eZ q)] (iq 1 [] [.vec 1 (eZ p.reverse)])
 |
  m,i,q,hm,hi,hR=>by
  refine PI _ _ _ ?_
  by_cases hlt:(i:Int)<(p.length:Int)-1-(i:Int)
  ·have e2:((p.length:Int)-1-(i:Int)).toNat=p.length-1-i:=by omega
   have h1:i<q.length:=by rw[hR.1];omega
   have h2:p.length-1-i<q.length:=by rw[hR.1];omega
   have g1:(eZ q).getD i []=[.v (.int .i64 (q.getD i 0))]:=by simp[eZ,aa,h1]
   have g2:(eZ q).getD (p.length-1-i) []=[.v (.int .i64 (q.getD (p.length-1-i) 0))]:=by simp[eZ,aa,h2]
   have s1:(eZ q).set i [.v (.int .i64 (q.getD (p.length-1-i) 0))]=eZ (q.set i (q.getD (p.length-1-i) 0)):=by simp[eZ,List.map_set]
   have g3:(eZ (q.set i (q.getD (p.length-1-i) 0))).getD (p.length-1-i) []=[.v (.int .i64 (q.getD (p.length-1-i) 0))]:=by
    have hne:i≠p.length-1-i:=by omega
    simp[eZ,aa,List.getElem?_set,hne,h2]
   simp only[HW,↓zq,zs,ae,ns,bF,e2,g1,g2,List.set_cons_zero,bu,s1,g3]
   have s2:(eZ (q.set i (q.getD (p.length-1-i) 0))).set (p.length-1-i) [.v (.int .i64 (q.getD i 0))]=eZ ((q.set i (q.getD (p.length-1-i) 0)).set (p.length-1-i) (q.getD i 0)):=by simp[eZ,List.map_set]
   simp only[s2,List.length_set]
   have hl:=hR.1
   refine⟨fun _=>⟨⟨by omega,by omega⟩,⟨h2,by first|trivial|simp⟩,⟨by omega,by omega⟩,⟨h1,by first|trivial|simp⟩,⟨by omega,by omega⟩,⟨h1,by omega⟩,⟨by omega,by omega⟩,⟨h2,by omega⟩,?_⟩,fun h=>absurd hlt h⟩
   rw[bA i (by omega),wrap64 ((p.length:Int)-1-(i:Int)-1) (by omega) (by omega),show (p.length:Int)-1-(i:Int)-1=(p.length:Int)-1-((i+1:Nat):Int) by omega]
   match m,hm with
   |0,hm=>omega
   |
    m+1,hm =>
    refine JR p hp m (i+1) _ (by omega) (by omega) ⟨by simp[hl],fun k hk=>?_⟩
    rw[wa _ (by rw[List.length_set,hl];exact hk),wa _ (by rw[hl];exact hk)]
    have hi1:=hR.2 i (by omega)
    have hi2:=hR.2 (p.length-1-i) (by omega)
    have hi3:=hR.2 k hk
    rw[if_neg (by omega)]at hi1 hi2
    by_cases c1:p.length-1-i=k
    ·subst c1
     rw[if_pos rfl,if_pos (by omega),hi1]
     congr 1;omega
    ·rw[if_neg c1]
     by_cases c2:i=k
     ·subst c2
      rw[if_pos rfl,if_pos (by omega),hi2]
     ·rw[if_neg c2,hi3]
      by_cases c3:k<i\/p.length-1-k<i
      ·rw[if_pos c3,if_pos (by omega)]
      ·rw[if_neg c3,if_neg (by omega)]
  ·simp only[HW,↓zq,zs,ae]
   refine⟨fun h=>absurd h hlt,fun _=>?_⟩
   have:q=p.reverse:=by
    apply List.ext_getElem
    ·rw[hR.1,List.length_reverse]
    ·intro k h1 h2
     have hk:k<p.length:=by rw[<-hR.1];exact h1
     have:=hR.2 k hk
     have e1:q.getD k 0=q[k]:=by simp[aa,h1]
     rw[e1]at this
     rw[this,List.getElem_reverse]
     have e2:p.getD (p.length-1-k) 0=p[p.length-1-k]:=by simp[aa,show p.length-1-k<p.length by omega]
     split
     ·exact e2
     ·rename_i hn
      have:k=p.length-1-k:=by omega
      rw[<-e2,<-this]
   rw[this];exact⟨rfl,rfl,rfl⟩
theorem Q9(p:List Int)(hp:p.length<=1000000):an Tryz.prog 36 [.vec 0] [.vec 1 (eZ p)] (di .any [.kR 1 (eZ p.reverse)]):=by
 refine RH _ ?_
 unfold Pa
 rw[ns,wrap64 ((p.length:Int)-1) (by omega) (by omega)]
 have hloop:=JR p hp p.length 0 p (by omega) (by omega) ⟨rfl,fun k hk=>by rw[if_neg (by omega)]⟩
 rw[show (p.length:Int)-1-((0:Nat):Int)=(p.length:Int)-1 by omega]at hloop
 refine cF hloop ?_
 simp only[↓zq,zs,ae,Ob.es,aL]
 exact⟨rfl,rfl⟩
end Go.Proofs.Trees
namespace Go.Proofs.Trees
open Go Go.VL Go.RowKit
theorem qX{a:Ty}:∀(n:Nat) (l:List Vl) (v:Vl),l.length=n->(iO n a l v).isSome=true->∀c l',l=l'++[c]->∃w,qP a l v=some (l',w)/\(iO l'.length a l' w).isSome=true
 |0,l,v,hl,_,c,l',h=>by rw[h]at hl;simp at hl
 |
  n+1,l,v,hl,hs,c,l',h=>by
  rw[iO]at hs
  cases q:qP a l v with
  |none=>rw[q]at hs;cases hs
  |
   some r =>
   obtain⟨l1,w⟩:=r
   rw[q]at hs
   have h2:l1=l':=by
    unfold qP at q
    rw[h,List.getLast?_concat]at q
    simp only at q
    split at q
    ·cases q;simp
    ·cases q
   subst h2
   have hn:l1.length=n:=by rw[h]at hl;simpa using hl
   exact⟨w,rfl,by rw[hn];exact hs⟩
theorem rZ{d:Nm}:∀{l:List Vl},(∀c,c∈l->nI d c.cL 100=some c)->eI d (l.map (·.cL))=some l
 |[],_=>rfl
 |
  c::l,h=>by
  rw[bB,eI,h c ak,rZ fun x hx=>h x (al _ hx)]
theorem vZ(l:List Vl)(c:Vl):((l++[c]).getLast?).getD .u=c:=by rw[List.getLast?_concat];rfl
theorem re{a:Ty}{l l':List Vl}{v w c:Vl}(n:Nat)(hu:qP a l v=some (l',w))(hc:l=l'++[c]):mg (n+1) a l v=mg n a l' w++[wO c.cL (kids a w) 0]:=by
 rw[mg,hu];simp only[hc,vZ]
noncomputable def ua (s:Nm) (p:List Nm) (f:Nm):Option (List Int):=(gq s p f).map fun r=>mg r.1.length (zA s) r.1 r.2
def Rs(o:Option (List Int)):List Int:=o.getD []
theorem Mk(s d:Nm)(a:Ty):∀(n:Nat) (l:List Vl) (v:Vl) (out:List Int),l.length=n->St s d a l v->(iO n a l v).isSome=true->out.length+n<=1000 ->
 FA [tR s a l v] [.vec 1 (eZ out)] (iq 1 [] [.vec 1 (eZ (out++(mg n a l v).reverse))])
 |
  0,l,v,out,hl,h,_,ho=>by
  have:l=[]:=bS hl
  subst this
  refine Mm _ _ ?_
  simp only[Iu,tR,↓zq,zs,ae,jO,aG]
  refine⟨by omega,fun h=>by omega,fun _=>by simp[iq,mg]⟩
 |
  n+1,l,v,out,hl,h,hs,ho=>by
  have hne:l≠[]:=by rintro rfl;simp at hl
  have hlc:l=l.dropLast++[l.getLast hne]:=(List.dropLast_concat_getLast hne).symm
  obtain⟨w,hu,hs'⟩:=qX (n+1) l v hl hs _ _ hlc
  have hn:l.dropLast.length=n:=by rw[List.length_dropLast];omega
  rw[hn]at hs'
  refine Mm _ _ ?_
  have hup:=MH s a l v h.i h.len
  rw[hu]at hup
  have hix:=RN h hu hlc
  rw[re n hu hlc]
  generalize l.dropLast=l' at *
  generalize l.getLast hne=c at *
  simp only[Iu,oZ]at hup |-
  simp only[tR,↓zq,zs,ae,jO,hl]at hup hix |-
  refine⟨by omega,fun _=>?_,fun h=>by omega⟩
  refine aj hup ?_
  simp only[↓zq,zs,ae]
  refine aj hix ?_
  simp only[↓zq,zs,ae,ns]
  refine⟨⟨fun x hx=>by simp at hx;rw[hx];rfl,by simp;omega⟩,?_⟩
  have e:eZ out++[[.v (.int .i64 (wO c.cL (kids a w) 0))]]=eZ (out++[wO c.cL (kids a w) 0]):=by simp[eZ]
  rw[e,List.reverse_append,List.reverse_singleton,<-a6]
  exact Mk s d a n l' w _ hn (h.up hu) hs' (by simp;omega)
theorem Lh(s:Nm)(pa:AV)(p:List Nm)(hp:cw pa p)(f:Nm):an Tryz.prog 10 [.agg [.v (.string (mk s)),pa,.v (.string (mk f))]] [] (di (.cI [.vec 0,.v (.bool (ua s p f).isSome)]) [.vec 1 (eZ (Rs (ua s p f)))]):=by
 refine Sq _ _ _ hp.1 ?_
 unfold Ll
 refine aj (RD s pa p hp f) ?_
 simp only[↓zq,zs,ae,pQ]
 unfold ua
 cases q:gq s p f with
 |
  none =>
  simp only[oZ,↓zq,zs,ae,Option.map_none]
  exact⟨fun _=>⟨rfl,rfl⟩,fun h=>(by cases h)⟩
 |
  some r =>
  obtain⟨l,v⟩:=r
  obtain⟨d,hs,_⟩:=nn q
  have hlen:=hs.len
  have hcl:=(gS q).2
  have hloop:=Mk s d (zA s) l.length l v [] rfl hs hcl (by simp;omega)
  have hpl:=v8 l.length (zA s) l v
  simp only[oZ,cD]
  have hn:(tR s (zA s) l v).isNil=false:=rfl
  simp only[hn]
  refine⟨fun h=>(by cases h),fun _=>?_⟩
  refine cF hloop ?_
  simp only[↓zq,zs,ae,Ob.es,aL,aS]
  refine aV (Q9 (mg l.length (zA s) l v).reverse (by rw[List.length_reverse];omega)) ?_
  rw[List.reverse_reverse]
  simp only[↓zq,zs,ae,Ob.es,aL]
  exact⟨rfl,rfl⟩
end Go.Proofs.Trees
namespace Go.Proofs.Trees
open Go Go.VL Go.RowKit
def vq(l:List Hl):Prop:=(l.map (·.1)).Nodup
theorem rm:vq []:=List.nodup_nil
theorem EM(h:Hl):vq [h]:=by simp[vq]
theorem nv{g:Vl->Vl}(hg:∀x y,g x=g y->x=y){l:List Hl}(h:vq l):vq (eW g l):=by
 unfold vq eW at *
 rw[List.map_map]
 have:((fun x:Hl=>x.1)∘fun h:Hl=>(g h.1,h.2))=g∘(fun x:Hl=>x.1):=rfl
 rw[this,<-List.map_map]
 exact List.Pairwise.map _ (fun a b hab e=>hab (hg _ _ e)) h
theorem um{l r:List Hl}(hl:vq l)(hr:vq r)(h:∀x y,x∈l->y∈r->x.1≠y.1):vq (l++r):=by
 unfold vq at *
 rw[List.map_append,List.nodup_append]
 refine⟨hl,hr,?_⟩
 intro a ha b hb e
 obtain⟨x,hx,rfl⟩:=bO.1 ha
 obtain⟨y,hy,rfl⟩:=bO.1 hb
 exact h x y hx hy e
theorem wu{f:Hl->List Hl}:∀{l:List Hl},vq l->(∀h,h∈l->vq (f h))->(∀h k,h∈l->k∈l->h.1≠k.1->∀x y,x∈f h->y∈f k->x.1≠y.1)->vq (l.flatMap f)
 |[],_,_,_=>rm
 |
  h::l,hn,hf,hd=>by
  rw[cf]
  unfold vq at hn
  rw[bB,List.nodup_cons]at hn
  refine um (hf h ak) (wu (l:=l) hn.2 (fun k hk=>hf k (al _ hk)) fun a b ha hb=>hd a b (al _ ha) (al _ hb)) ?_
  intro x y hx hy
  obtain⟨k,hk,hy⟩:=List.mem_flatMap.1 hy
  refine hd h k ak (al _ hk) (fun e=>hn.1 ?_) x y hx hy
  rw[e];exact bO.2 ⟨k,hk,rfl⟩
theorem jF:∀(n:Nat) (t:Ty) (tg:Tg) (v:Vl),vq (dH n t tg v)
 |0,t,tg,v=>rm
 |
  n+1,t,tg,v=>by
  unfold dH
  split
  ·exact EM _
  ·unfold iZ
   split
   ·exact nv (fun x y e=>by cases e;rfl) (jF n _ _ _)
   ·exact nv (fun x y e=>by cases e;rfl) (jF n _ _ _)
   ·refine um (nv (fun x y e=>by cases e;rfl) (jF n _ _ _)) (nv (fun x y e=>by cases e;rfl) (jF n _ _ _)) fun x y hx hy e=>?_
    obtain⟨k,_,rfl⟩:=da hx
    obtain⟨k',_,rfl⟩:=da hy
    cases e
   ·refine um (nv (fun x y e=>by cases e;rfl) (jF n _ _ _)) (wu (jF n _ _ _) (fun h hh=>nv (fun x y e=>by cases e;rfl) (jF n _ _ _)) fun h k hh hk hne x y hx hy e=>?_) fun x y hx hy e=>?_
    ·obtain⟨a,_,rfl⟩:=da hx
     obtain⟨b,_,rfl⟩:=da hy
     injection e with e
     injection e with e
     injection e with e1 e2
     exact hne e1
    ·obtain⟨k,_,rfl⟩:=da hx
     obtain⟨h,_,hy⟩:=List.mem_flatMap.1 hy
     obtain⟨b,_,rfl⟩:=da hy
     cases e
   ·exact rm
end Go.Proofs.Trees
namespace Go.Proofs.Trees
open Go Go.VL Go.RowKit
abbrev kq(l:List Hl):List Vl:=l.map (·.2)
theorem bX(g:Vl->Vl)(l:List Hl):kq (eW g l)=kq l:=by simp[kq,eW,Function.comp_def]
theorem dy(l r:List Hl):kq (l++r)=kq l++kq r:=List.map_append
theorem DQ{l r:List Hl}(h:kq l=kq r):l.length=r.length:=by have:=congrArg List.length h;simpa[kq]using this
theorem jT{g:Vl->Vl}{L A B:List Hl}{c e:Vl}(h:eW g L=A++(c,e)::B):∃A0 c0 B0,L=A0++(c0,e)::B0/\A=eW g A0/\c=g c0/\B=eW g B0:=by
 unfold eW at *
 obtain⟨A0,R,rfl,rfl,h2⟩:=List.map_eq_append_iff.1 h
 obtain⟨y,B0,rfl,h3,rfl⟩:=List.map_eq_cons_iff.1 h2
 obtain⟨c0,e0⟩:=y
 cases h3
 exact⟨A0,c0,B0,rfl,rfl,rfl,rfl⟩
theorem p9{L1 L2 A B:List Hl}{y:Hl}(h:L1++L2=A++y::B):(∃B1,L1=A++y::B1/\B=B1++L2)\/∃A2,A=L1++A2/\L2=A2++y::B:=by
 rcases List.append_eq_append_iff.1 h with⟨xs,h1,h2⟩|⟨ys,h1,h2⟩
 ·exact .inr ⟨xs,h1,h2⟩
 ·cases ys with
  |nil=>exact .inr ⟨[],by simpa using h1.symm,by simpa using h2.symm⟩
  |
   cons z ys =>
   rw[ba]at h2
   cases h2
   exact .inl ⟨ys,h1,rfl⟩
theorem sE{f:Hl->List Hl}:∀{L A B:List Hl} {y:Hl},L.flatMap f=A++y::B->∃L1 h L2 A1 B1,L=L1++h::L2/\f h=A1++y::B1/\A=L1.flatMap f++A1/\B=B1++L2.flatMap f
 |[],A,B,y,h=>by simp at h
 |
  h::L,A,B,y,hh=>by
  rw[cf]at hh
  rcases p9 hh with⟨B1,h1,h2⟩|⟨A2,h1,h2⟩
  ·exact⟨[],h,L,A,B1,rfl,h1,rfl,h2⟩
  ·obtain⟨L1,h',L2,A1,B1,e1,e2,e3,e4⟩:=sE h2
   exact⟨h::L1,h',L2,A1,B1,by rw[e1];rfl,e2,by rw[h1,e3,cf,a6],e4⟩
theorem jZ(a:Ty)(tg:Tg)(g:Vl->Vl->Vl):∀{l r:List Hl},kq l=kq r->kq (l.flatMap fun h=>eW (g h.1) (bM (.rc a) tg h.2))=kq (r.flatMap fun h=>eW (g h.1) (bM (.rc a) tg h.2))
 |[],[],_=>rfl
 |[],_::_,h=>by simp[kq]at h
 |_::_,[],h=>by simp[kq]at h
 |
  x::l,y::r,h=>by
  simp only[kq,bB,List.cons.injEq]at h
  rw[cf,cf,dy,dy,bX,bX,h.1,jZ a tg g h.2]
theorem OW{a b:Tg}(h:a≠b):a.up≠b.up:=by
 intro e
 cases a<;>cases b<;>simp[Tg.up]at e<;>subst e<;>exact h rfl
theorem Bi(a:Tg):a.up≠.bd 0:=by cases a<;>simp[Tg.up]
theorem zl{t:Ty}{a b:Tg}(h:dT t a=true)(hn:b≠a):dT t b=false:=by
 cases t<;>cases a<;>simp[dT]at h
 ·subst h
  cases b with
  |nm s=>simp only[dT];exact decide_eq_false fun e=>hn (by rw[e])
  |bd k=>rfl
 ·subst h
  cases b with
  |nm s=>rfl
  |bd k=>simp only[dT];exact decide_eq_false fun e=>hn (by rw[e])
theorem wE{t:Ty}{a:Tg}(h:dT t a=true)(v:Vl):stuck t v=true:=by
 cases t<;>simp[dT]at h<;>(cases v<;>rfl)
theorem Dw{t:Ty}{a:Tg}(h:dT t a=true)(c x:Vl):cB t c x=x:=by
 cases t<;>simp[dT]at h
 ·exact jX _ c x
 ·exact nY _ c x
theorem jw:∀(n:Nat) (v:Vl),v.nodes<=n->∀(t:Ty) (tg:Tg) (A B:List Hl) (c e:Vl),bM t tg v=A++(c,e)::B->∀x:Vl,
 (∃A' B',bM t tg (cB t c x)=A'++(c,x)::B'/\kq A'=kq A/\kq B'=kq B)/\∀tg',tg'≠tg->kq (bM t tg' (cB t c x))=kq (bM t tg' v)
 |0,v,hn=>by have:=dk v;omega
 |
  n+1,v,hn=>by
  intro t tg A B c e hh x
  cases hat:dT t tg with
  |
   true =>
   rw[kh v hat]at hh
   have h1:A=[]:=by cases A with
    |nil=>rfl
    |cons y A=>simp at hh
   subst h1
   simp only[aS,List.cons.injEq,Prod.mk.injEq]at hh
   obtain⟨⟨rfl,rfl⟩,rfl⟩:=hh
   rw[Dw hat]
   refine⟨⟨[],[],kh x hat,rfl,rfl⟩,fun tg' hne=>?_⟩
   rw[dz (zl hat hne) (wE hat x),dz (zl hat hne) (wE hat v)]
  |
   false =>
   have hst:stuck t v=false:=by
    cases q:stuck t v with
    |false=>rfl
    |true=>rw[dz hat q]at hh;simp at hh
   unfold stuck at hst
   split at hst
   ·rename_i a b w
    simp only[Vl.nodes]at hn
    rw[ji]at hh
    obtain⟨A0,c0,B0,h0,rfl,rfl,rfl⟩:=jT hh
    obtain⟨⟨A',B',e1,e2,e3⟩,e4⟩:=jw n w (by omega) a tg A0 B0 c0 e h0 x
    refine⟨⟨eW .l A',eW .l B',?_,by rw[bX,bX,e2],by rw[bX,bX,e3]⟩,fun tg' hne=>?_⟩
    ·rw[cB,ji,e1];simp[eW]
    ·rw[cB,ji,ji,bX,bX,e4 tg' hne]
   ·rename_i a b w
    simp only[Vl.nodes]at hn
    rw[jo]at hh
    obtain⟨A0,c0,B0,h0,rfl,rfl,rfl⟩:=jT hh
    obtain⟨⟨A',B',e1,e2,e3⟩,e4⟩:=jw n w (by omega) b tg A0 B0 c0 e h0 x
    refine⟨⟨eW .r A',eW .r B',?_,by rw[bX,bX,e2],by rw[bX,bX,e3]⟩,fun tg' hne=>?_⟩
    ·rw[cB,jo,e1];simp[eW]
    ·rw[cB,jo,jo,bX,bX,e4 tg' hne]
   ·rename_i a b y z
    simp only[Vl.nodes]at hn
    rw[gk]at hh
    rcases p9 hh with⟨B1,h1,rfl⟩|⟨A2,rfl,h2⟩
    ·obtain⟨A0,c0,B0,h0,rfl,rfl,rfl⟩:=jT h1
     obtain⟨⟨A',B',e1,e2,e3⟩,e4⟩:=jw n y (by omega) a tg A0 B0 c0 e h0 x
     refine⟨⟨eW (fun c=>.l (.p c z)) A',eW (fun c=>.l (.p c z)) B'++eW (fun c=>.r (.p (cB a c0 x) c)) (bM b tg z),?_,by rw[bX,bX,e2],by rw[dy,dy,bX,bX,bX,bX,e3]⟩,fun tg' hne=>?_⟩
     ·rw[cB,gk,e1];simp[eW]
     ·rw[cB,gk,gk,dy,dy,bX,bX,bX,bX,e4 tg' hne]
    ·obtain⟨A0,c0,B0,h0,rfl,rfl,rfl⟩:=jT h2
     obtain⟨⟨A',B',e1,e2,e3⟩,e4⟩:=jw n z (by omega) b tg A0 B0 c0 e h0 x
     refine⟨⟨eW (fun c=>.l (.p c (cB b c0 x))) (bM a tg y)++eW (fun c=>.r (.p y c)) A',eW (fun c=>.r (.p y c)) B',?_,by rw[dy,dy,bX,bX,bX,bX,e2],by rw[bX,bX,e3]⟩,fun tg' hne=>?_⟩
     ·rw[cB,gk,e1];simp[eW]
     ·rw[cB,gk,gk,dy,dy,bX,bX,bX,bX,e4 tg' hne]
   ·rename_i a w
    simp only[Vl.nodes]at hn
    rw[gd]at hh
    rcases p9 hh with⟨B1,h1,rfl⟩|⟨A2,rfl,h2⟩
    ·obtain⟨A0,c0,B0,h0,rfl,rfl,rfl⟩:=jT h1
     obtain⟨⟨A',B',e1,e2,e3⟩,e4⟩:=jw n w (by omega) a tg.up A0 B0 c0 e h0 x
     have hb:=e4 (.bd 0) (Ne.symm (Bi tg))
     refine⟨⟨eW (fun c=>.f (.l c)) A',eW (fun c=>.f (.l c)) B'++(bM a (.bd 0) (cB a c0 x)).flatMap fun h=>eW (fun c=>.f (.r (.p h.1 c))) (bM (.rc a) tg h.2),?_,by rw[bX,bX,e2],?_⟩,fun tg' hne=>?_⟩
     ·rw[cB,gd,e1];simp[eW]
     ·rw[dy,dy,bX,bX,e3,jZ a tg (fun p c=>.f (.r (.p p c))) hb]
     ·rw[cB,gd,gd,dy,dy,bX,bX,e4 _ (OW hne),jZ a tg' (fun p c=>.f (.r (.p p c))) hb]
    ·obtain⟨L1,h,L2,A1,B1,g1,g2,rfl,rfl⟩:=sE h2
     obtain⟨A0,c0,B0,h0,rfl,rfl,rfl⟩:=jT g2
     obtain⟨hc,he⟩:=h
     have hsz:=(ir (t:=a) (tg:=.bd 0) (v:=w) (h:=(hc,he)) (by rw[g1];simp)).1
     simp only at hsz h0
     obtain⟨⟨A',B',e1,e2,e3⟩,e4⟩:=jw n he (by omega) (.rc a) tg A0 B0 c0 e h0 x
     obtain⟨⟨M1,M2,d1,d2,d3⟩,d4⟩:=jw n w (by omega) a (.bd 0) L1 L2 hc he g1 (cB (.rc a) c0 x)
     refine⟨⟨eW (fun c=>.f (.l c)) (bM a tg.up (cB a hc (cB (.rc a) c0 x)))++(M1.flatMap (fun h=>eW (fun c=>.f (.r (.p h.1 c))) (bM (.rc a) tg h.2))++eW (fun c=>.f (.r (.p hc c))) A'),eW (fun c=>.f (.r (.p hc c))) B'++M2.flatMap (fun h=>eW (fun c=>.f (.r (.p h.1 c))) (bM (.rc a) tg h.2)),?_,?_,?_⟩,fun tg' hne=>?_⟩
     ·rw[cB,gd,d1,List.flatMap_append,cf]
      simp only[e1]
      simp[eW]
     ·rw[dy,dy,dy,dy,bX,bX,bX,bX,d4 _ (Bi tg),e2,jZ a tg (fun p c=>.f (.r (.p p c))) d2]
     ·rw[dy,dy,bX,bX,e3,jZ a tg (fun p c=>.f (.r (.p p c))) d3]
     ·have hk:=e4 tg' hne
      rw[cB,gd,gd,dy,dy,bX,bX,d4 _ (Bi tg'),d1,g1,List.flatMap_append,List.flatMap_append,cf,cf,dy,dy,dy,dy,bX,bX,hk,jZ a tg' (fun p c=>.f (.r (.p p c))) d2,jZ a tg' (fun p c=>.f (.r (.p p c))) d3]
   ·cases hst
end Go.Proofs.Trees
namespace Go.Proofs.Trees
open Go Go.VL Go.RowKit
theorem yr(a:Ty)(v:Vl):vq (kids a v):=by
 cases v<;>first|exact jF _ _ _ _|exact rm
theorem xm:∀(l:List Hl) (i k:Nat) (q:Hl),vq l->(∀h,h∈l->h.1.il 100)->l[k]?=some q->wO q.1.cL l i=((i+k:Nat):Int)
 |[],i,k,q,_,_,h=>by simp at h
 |
  h::l,i,0,q,hn,hb,hk=>by
  simp only[List.getElem?_cons_zero,Option.some.injEq]at hk
  subst hk
  simp[wO]
 |
  h::l,i,k+1,q,hn,hb,hk=>by
  rw[List.getElem?_cons_succ]at hk
  have hm:q∈l:=List.mem_of_getElem? hk
  unfold vq at hn
  rw[bB,List.nodup_cons]at hn
  have hne:¬h.1.cL=q.1.cL:=fun e=>hn.1 (by
   have:=uT (hb h ak) (hb q (al _ hm)) e
   rw[this];exact bO.2 ⟨q,hm,rfl⟩)
  rw[wO,if_neg hne,xm l (i+1) k q hn.2 (fun x hx=>hb x (al _ hx)) hk]
  omega
theorem DN{a:Ty}{v:Vl}{k:Nat}{q:Hl}(hk:(kids a v)[k]?=some q)(x:Vl):(kids a (.f (cB a q.1 x)))[k]?=some (q.1,x):=by
 cases v with
 |
  f w =>
  have hk:(bM a (.bd 0) w)[k]?=some q:=hk
  obtain⟨hlt,he⟩:=List.getElem?_eq_some_iff.1 hk
  have hs:bM a (.bd 0) w=(bM a (.bd 0) w).take k++(q.1,q.2)::(bM a (.bd 0) w).drop (k+1):=by
   have:=List.take_append_drop k (bM a (.bd 0) w)
   rw[aT hlt,he]at this
   exact this.symm
  obtain⟨⟨A',B',e1,e2,_⟩,_⟩:=jw w.nodes w (au _) a (.bd 0) _ _ q.1 q.2 hs x
  show (bM a (.bd 0) (cB a q.1 x))[k]?=_
  have hl:A'.length=k:=by rw[DQ e2,List.length_take];omega
  rw[e1,List.getElem?_append_right (by omega),hl,Nat.sub_self];rfl
 |_=>simp[kids]at hk
end Go.Proofs.Trees
namespace Go.Proofs.Trees
open Go Go.VL Go.RowKit
def CW(x:Nm)(i:Nat)(tg tg':Tg):Prop:=(tg=.bd i/\tg'=.nm x)\/(∃s,s≠x/\tg=.nm s/\tg'=.nm s)\/∃j,j<i/\tg=.bd j/\tg'=.bd j
theorem CW.up{x:Nm}{i:Nat}{tg tg':Tg}(h:CW x i tg tg'):CW x (i+1) tg.up tg'.up:=by
 rcases h with⟨rfl,rfl⟩|⟨s,h,rfl,rfl⟩|⟨j,h,rfl,rfl⟩
 ·exact .inl ⟨rfl,rfl⟩
 ·exact .inr (.inl ⟨s,h,rfl,rfl⟩)
 ·exact .inr (.inr ⟨j+1,by omega,rfl,rfl⟩)
theorem C4{x:Nm}{i:Nat}{tg tg':Tg}(h:CW x i tg tg')(t:Ty)(hx:bn x t=false):dT (dC (.name x) t i) tg'=dT t tg:=by
 cases t with
 |
  bound k =>
  simp only[dC]
  rcases h with⟨rfl,rfl⟩|⟨s,h,rfl,rfl⟩|⟨j,h,rfl,rfl⟩
  ·split
   ·rename_i e;simp[dT,e]
   ·rename_i e;simp[dT,e]
  ·split
   ·simp[dT,Ne.symm h]
   ·simp[dT]
  ·split
   ·rename_i e;simp only[dT];exact(decide_eq_false (by omega)).symm
   ·simp[dT]
 |
  name n =>
  have hn:¬n=x:=by simpa[bn]using hx
  rcases h with⟨rfl,rfl⟩|⟨s,h,rfl,rfl⟩|⟨j,h,rfl,rfl⟩<;>simp[dC,dT,hn]
 |_=>rcases h with⟨rfl,rfl⟩|⟨s,h,rfl,rfl⟩|⟨j,h,rfl,rfl⟩<;>rfl
theorem fR(x:Nm):∀(n:Nat) (t:Ty) (i:Nat) (tg tg':Tg) (v:Vl),bn x t=false->CW x i tg tg'->dH n (dC (.name x) t i) tg' v=dH n t tg v
 |0,_,_,_,_,_,_,_=>rfl
 |
  n+1,t,i,tg,tg',v,hx,hr=>by
  rw[dH,dH,C4 hr t hx]
  split
  ·rfl
  ·cases t with
   |
    plus a b =>
    simp only[bn,cm]at hx
    cases v with
    |l w=>exact congrArg (eW .l) (fR x n a i tg tg' w hx.1 hr)
    |r w=>exact congrArg (eW .r) (fR x n b i tg tg' w hx.2 hr)
    |_=>rfl
   |
    times a b =>
    simp only[bn,cm]at hx
    cases v with
    |
     p y z =>
     simp only[dC,iZ]
     rw[fR x n a i tg tg' y hx.1 hr,fR x n b i tg tg' z hx.2 hr]
    |_=>rfl
   |
    rc a =>
    cases v with
    |
     f w =>
     simp only[dC,iZ]
     rw[fR x n a (i+1) tg.up tg'.up w hx hr.up,fR x n a (i+1) (.bd 0) (.bd 0) w hx (.inr (.inr ⟨0,by omega,rfl,rfl⟩))]
     congr 1
     refine jd fun h hh=>?_
     have:=fR x n (.rc a) i tg tg' h.2 hx hr
     simp only[dC]at this
     rw[this]
    |_=>rfl
   |
    bound k =>
    simp only[dC]
    split<;>(cases v<;>rfl)
   |_=>rfl
theorem pW{g:Vl->Vl}{l:List Hl}{c v:Vl}(h:(c,v)∈l):(g c,v)∈eW g l:=bO.2 ⟨_,h,rfl⟩
theorem qv(n:Nat):∀(m:Nat) (c:Vl),c.nodes<=m->∀(t:Ty) (s:Nm) (d:Ty) (σ:Nm->Option Ty),Dv t s d->C8 σ->jG t 0->vT n c (eT σ d)=true->∀(v:Vl) (k:Nat),(cB t c v).nodes<=k->(c,v)∈dH k t (.nm s) (cB t c v)
 |0,c,h=>by have:=dk c;omega
 |
  m+1,c,hm=>by
  intro t s d σ hd hσ hl hv v k hk
  have no:∀c,vT n c .zero=false:=fun c=>by cases c<;>rfl
  obtain⟨k,rfl⟩:∃j,k=j+1:=⟨k-1,by have:=dk (cB t c v);omega⟩
  cases hd with
  |zero=>rw[show eT σ .zero=.zero from rfl,no]at hv;cases hv
  |one=>rw[show eT σ .zero=.zero from rfl,no]at hv;cases hv
  |bound=>rw[show eT σ .zero=.zero from rfl,no]at hv;cases hv
  |qN=>rw[show eT σ .zero=.zero from rfl,no]at hv;cases hv
  |
   hit =>
   have hc:c=.u:=by
    have hv:vT n c .one=true:=hv
    cases c<;>first|rfl|simp[vT]at hv
   rw[jX,dH,if_pos (by simp[dT]),hc];exact ak
  |
   plus h1 h2 _ =>
   rcases ju hv with⟨w,rfl,hw⟩|⟨w,rfl,hw⟩
   ·simp only[Vl.nodes]at hm
    rename_i a b _ _
    simp only[cB,Vl.nodes]at hk
    have:=qv n m w (by omega) _ s _ σ h1 hσ hl.1 hw v k (by omega)
    exact pW (g:=.l) this
   ·simp only[Vl.nodes]at hm
    simp only[cB,Vl.nodes]at hk
    have:=qv n m w (by omega) _ s _ σ h2 hσ hl.2 hw v k (by omega)
    exact pW (g:=.r) this
  |
   times h1 h2 _ =>
   rcases ju hv with⟨w,rfl,hw⟩|⟨w,rfl,hw⟩
   ·obtain⟨x,y,rfl,hx,hy⟩:=gC hw
    simp only[Vl.nodes]at hm
    simp only[cB,Vl.nodes]at hk
    have:=qv n m x (by omega) _ s _ σ h1 hσ hl.1 hx v k (by omega)
    exact aD _ (pW (g:=fun c=>.l (.p c y)) this)
   ·obtain⟨x,y,rfl,hx,hy⟩:=gC hw
    simp only[Vl.nodes]at hm
    simp only[cB,Vl.nodes]at hk
    have:=qv n m y (by omega) _ s _ σ h2 hσ hl.2 hy v k (by omega)
    exact aB _ (pW (g:=fun c=>.r (.p x c)) this)
  |
   @rc a _ c0 d0 x hx hs h1 h2 hsz =>
   have lo:jG (dC (.name x) a 0) 0:=gP x a hl
   obtain⟨X,e1,e2⟩:=pe (x:=x) hσ hl (h1.lc lo) (h2.lc lo)
   have hv':=hv
   rw[e1]at hv'
   obtain⟨w,rfl,hw⟩:=BJ hv'
   rw[e2]at hw
   have hcl:=me hσ x (j6 hσ (.rc a) hl)
   rcases ju hw with⟨y,rfl,hy⟩|⟨y,rfl,hy⟩
   ·simp only[Vl.nodes]at hm
    simp only[cB,Vl.nodes]at hk
    have:=qv n m y (by omega) _ s _ _ h1 hcl lo hy v k (by rw[dO x y.nodes y a 0 v (au _)];omega)
    rw[dO x y.nodes y a 0 v (au _),fR x k a 0 (.nm s) (.nm s) _ hx (.inr (.inl ⟨s,Ne.symm hs,rfl,rfl⟩))]at this
    exact aD _ (pW (g:=fun c=>.f (.l c)) this)
   ·obtain⟨y,z,rfl,hy,hz⟩:=gC hy
    simp only[Vl.nodes]at hm
    simp only[cB,Vl.nodes]at hk
    have q1:=qv n m y (by omega) _ x _ _ h2 hcl lo hy (cB (.rc a) z v) k (by rw[dO x y.nodes y a 0 _ (au _)];omega)
    rw[dO x y.nodes y a 0 _ (au _),fR x k a 0 (.bd 0) (.nm x) _ hx (.inl ⟨rfl,rfl⟩)]at q1
    have hsz2:=(fp k a (.bd 0) _ _ q1).1
    have q2:=qv n m z (by omega) (.rc a) s _ σ (.rc x hx hs h1 h2 hsz) hσ hl hz v k (by simp only at hsz2;omega)
    exact aB _ (List.mem_flatMap.2 ⟨_,q1,pW (g:=fun c=>.f (.r (.p y c))) q2⟩)
theorem IJ{n:Nat}{a D:Ty}{x:Nm}(hx:bn x a=false)(hl:jG (.rc a) 0)(h:om a x=some D){c:Vl}(hc:vT n c D=true)(v:Vl):(c,v)∈kids a (.f (cB a c v)):=by
 simp only[om,bc,cT,eV]at h
 obtain⟨d,hd,_,rfl⟩:=h
 have lo:jG (dC (.name x) a 0) 0:=gP x a hl
 have hcl:=me sc x hl
 have e1:sub x (.rc a) d=eT (iS DZ x (.rc a)) d:=by
  have:=iv DZ x (.rc a) d
  rw[iR,iR]at this;exact this
 rw[e1]at hc
 have h1:=qv n c.nodes c (au _) _ x _ _ hd hcl lo hc v (cB a c v).nodes (by rw[dO x c.nodes c a 0 v (au _)];omega)
 rw[dO x c.nodes c a 0 v (au _),fR x _ a 0 (.bd 0) (.nm x) _ hx (.inl ⟨rfl,rfl⟩)]at h1
 exact h1
end Go.Proofs.Trees
namespace Go.Proofs.Trees
open Go Go.VL Go.RowKit
theorem ZT.hole{s d:Nm}{a:Ty}{x A B:E}{D:Ty}(z:ZT s d a x A B D){c:Nm}{w:Vl}(h:nI d c 100=some w)(v:Vl):(w,v)∈kids a (.f (cB a w v)):=by
 obtain⟨e,t,m,h1,h2,h3,h4,h5,h6,h7⟩:=pB h
 have hm:m=100:=by omega
 subst hm
 have:=uA h3
 rw[z.bk]at this;cases this
 rw[nu h4]at h7
 obtain⟨e2,he2,hw2,hte2,_,_⟩:=og z.y
 have hlc:jG (.rc a) 0:=hte2 ▸ hw2.qG.1
 exact IJ (uw z.y) hlc z.lp h7 v
end Go.Proofs.Trees
namespace Go.Proofs.Trees
open Go Go.VL Go.RowKit
theorem St.vd{s d:Nm}{a:Ty}{l l':List Vl}{v w c:Vl}(h:St s d a l v)(hu:qP a l v=some (l',w))(hc:l=l'++[c]):w=.f (cB a c v)/\∃k:Nat,(kids a w)[k]?=some (c,v)/\wO c.cL (kids a w) 0=(k:Int):=by
 obtain⟨x,A,B,D,z⟩:=h.z
 have h':=h.up hu
 obtain⟨_,_,c',hc',hw⟩:=uE h.i hu
 have e:c=c':=by rw[hc]at hc';exact List.singleton_inj.1 (List.append_cancel_left hc')
 subst e
 have hm:(c,v)∈kids a w:=by rw[hw];exact z.hole (h.each c (by rw[hc];simp)) v
 obtain⟨k,hk⟩:=List.getElem?_of_mem hm
 refine⟨hw,k,hk,?_⟩
 have:=xm (kids a w) 0 k _ (yr a w) (fun x hx=>(j3 h'.i.qW.il hx).1) hk
 simpa using this
theorem St.TO{s d:Nm}{a:Ty}{l:List Vl}{v w c:Vl}(h:St s d a l v){k:Hl}(hk:k∈kids a v)(hv:nI d k.1.cL 100=some k.1):k.1.nodes<=200:=by
 obtain⟨x,A,B,D,z⟩:=h.z
 obtain⟨t1,_,_⟩:=z.RF h.i.qW hk
 rw[z.QU (j3 h.i.qW.il hk).1 t1]at hv
 split at hv
 ·assumption
 ·cases hv
theorem St.back{s d:Nm}{a:Ty}{l l':List Vl}{v w c:Vl}(h:St s d a l v)(hu:qP a l v=some (l',w))(hc:l=l'++[c]):yq a l' w (wO c.cL (kids a w) 0)=some (l,v):=by
 obtain⟨_,k,hk,e⟩:=h.vd hu hc
 have hlen:=h.len
 have hm:=List.mem_of_getElem? hk
 have hn:c.nodes<=200:=(h.up hu).TO (w:=v) (c:=v) hm (h.each c (by rw[hc];simp))
 have hlt:k<(kids a w).length:=(List.getElem?_eq_some_iff.1 hk).1
 have hg:(kids a w).getD k (.u,.u)=(c,v):=by rw[aa,hk];rfl
 rw[e];unfold yq
 rw[if_neg (by rw[hc]at hlen;simp at hlen;omega),if_pos ⟨by omega,by simpa using hlt⟩,bF,hg,if_pos hn,hc]
theorem DL(a:Ty)(p:List Int)(k:Int)(o:ZO):Oo a (p++[k]) o=(Oo a p o).bind fun r=>yq a r.1 r.2 k:=by unfold Oo;rw[List.foldl_append];rfl
theorem CS{s d:Nm}{a:Ty}:∀(n:Nat) (l:List Vl) (v w:Vl),l.length=n->St s d a l v->iO n a l v=some w->Oo a (mg n a l v) (some ([],w))=some (l,v)/\St s d a [] w/\(mg n a l v).length=n/\∀k,k∈mg n a l v->0<=k
 |
  0,l,v,w,hl,h,hc=>by
  have:l=[]:=bS hl
  subst this
  rw[iO]at hc;cases hc
  exact⟨rfl,h,rfl,fun k hk=>by cases hk⟩
 |
  n+1,l,v,w,hl,h,hc=>by
  have hne:l≠[]:=by rintro rfl;simp at hl
  have hlc:l=l.dropLast++[l.getLast hne]:=(List.dropLast_concat_getLast hne).symm
  obtain⟨w1,hu,_⟩:=qX (n+1) l v hl (by rw[hc];rfl) _ _ hlc
  have hn:l.dropLast.length=n:=by rw[List.length_dropLast];omega
  rw[iO,hu]at hc
  obtain⟨g1,g2,g3,g4⟩:=CS n l.dropLast w1 w hn (h.up hu) hc
  rw[re n hu hlc]
  obtain⟨_,k,_,ek⟩:=h.vd hu hlc
  refine⟨?_,g2,by simp[g3],fun x hx=>?_⟩
  ·rw[DL,g1];exact h.back hu hlc
  ·rcases aN.1 hx with hx|hx
   ·exact g4 x hx
   ·simp only[aQ]at hx;rw[hx,ek];omega
theorem pZ{s:Nm}{p:List Nm}{f:Nm}{r:List Vl×Vl}(h:gq s p f=some r):∃d,cO s=some d/\St s d (zA s) r.1 r.2/\p=r.1.map (·.cL)/\f=r.2.cL/\∃w,tF (zA s) r.1 r.2=some w:=by
 obtain⟨h1,h2⟩:=gS (l:=r.1) (v:=r.2) h
 obtain⟨d,hd,hs,hp,hf⟩:=wQ h1
 obtain⟨w,hw⟩:=cc.1 h2
 exact⟨d,hd,hs,hp,hf,w,hw⟩
theorem Ah{s:Nm}{p:List Nm}{f:Nm}{pl:List Int}(h:ua s p f=some pl):pl.length=p.length:=by
 unfold ua at h
 cases q:gq s p f with
 |none=>rw[q]at h;cases h
 |
  some r =>
  obtain⟨d,hd,hs,hp,hf,w,hw⟩:=pZ q
  rw[q]at h
  have e:=(CS r.1.length r.1 r.2 w rfl hs hw).2.2.1
  cases h
  rw[hp,ck]
  omega
theorem yP{s d:Nm}{a:Ty}:∀(n:Nat) (l:List Vl) (v v2:Vl),l.length=n->St s d a l v->St s d a l v2->(iO n a l v).isSome=true->(iO n a l v2).isSome=true->mg n a l v=mg n a l v2
 |0,l,v,v2,hl,h,h',hc,hc'=>rfl
 |
  n+1,l,v,v2,hl,h,h',hc,hc'=>by
  have hne:l≠[]:=by rintro rfl;simp at hl
  have hlc:l=l.dropLast++[l.getLast hne]:=(List.dropLast_concat_getLast hne).symm
  obtain⟨w1,hu,hs1⟩:=qX (n+1) l v hl hc _ _ hlc
  obtain⟨w2,hu2,hs2⟩:=qX (n+1) l v2 hl hc' _ _ hlc
  have hn:l.dropLast.length=n:=by rw[List.length_dropLast];omega
  rw[hn]at hs1 hs2
  rw[re n hu hlc,re n hu2 hlc,yP n l.dropLast w1 w2 hn (h.up hu) (h'.up hu2) hs1 hs2]
  obtain⟨_,k,hk,ek⟩:=h.vd hu hlc
  obtain⟨ew2,k2,hk2,ek2⟩:=h'.vd hu2 hlc
  have:=DN hk v2
  simp only at this
  rw[<-ew2]at this
  have hix:=xm (kids a w2) 0 k _ (yr _ _) (fun x hx=>(j3 (h'.up hu2).i.qW.il hx).1) this
  rw[ek,hix];simp
theorem B6{s:Nm}{p:List Nm}{f g:Nm}{r:List Vl×Vl}(h:pw s p f g=some r):∃r0 pl,gq s p f=some r0/\p=r0.1.map (·.cL)/\f=r0.2.cL/\p=r.1.map (·.cL)/\g=r.2.cL/\pw s p g f=some r0/\ua s p f=some pl/\ua s p g=some pl/\p.length<=50:=by
 obtain⟨r0,h0,h1⟩:=bc.1 h
 obtain⟨d,hd,hs,hp,hf,w,hw⟩:=pZ h0
 obtain⟨d2,hd2,hs2,hp2,hf2,w2,hw2⟩:=pZ h1
 rw[hd]at hd2;cases hd2
 have e:r.1=r0.1:=by
  have h1:=rZ hs.each
  have h2:=rZ hs2.each
  rw[<-hp]at h1;rw[<-hp2,h1]at h2
  exact(Option.some.inj h2).symm
 have hc:mg r0.1.length (zA s) r0.1 r0.2=mg r.1.length (zA s) r.1 r.2:=by
  rw[e]at hs2 hw2 |-
  exact yP r0.1.length r0.1 r0.2 r.2 rfl hs hs2 (by unfold tF at hw;rw[hw];rfl) (by unfold tF at hw2;rw[hw2];rfl)
 refine⟨r0,mg r0.1.length (zA s) r0.1 r0.2,h0,hp,hf,hp2,hf2,?_,?_,?_,by rw[hp];simpa using hs.len⟩
 ·unfold pw;rw[h1];exact h0
 ·unfold ua;rw[h0];rfl
 ·unfold ua;rw[h1];simp[hc]
end Go.Proofs.Trees
namespace Go.Proofs.Trees
open Go Go.VL Go.RowKit
theorem Og(a b:AV)(l:List (List UInt8))(ha:cw a l)(hb:cw b l)(hl:l.length<=2000000):∀(m i:Nat),i+m=l.length->Gc [a,b,.v (.int .i64 (i:Int))] [] (iq 1 [] [])
 |
  0,i,hi=>by
  refine OK _ _ _ ?_
  simp only[F1,↓zq,zs,ae,ha.len]
  exact⟨ha.1,hb.1,ha.1,fun h=>by omega,fun _=>⟨rfl,rfl,rfl⟩⟩
 |
  m+1,i,hi=>by
  have hlt:i<l.length:=by omega
  refine OK _ _ _ ?_
  simp only[F1,↓zq,zs,ae,zt,ha.len,hb.len,ha.idx hlt,hb.idx hlt,bF]
  refine⟨ha.1,hb.1,ha.1,fun _=>⟨⟨ha.1,by omega,by omega⟩,by omega,⟨hb.1,by omega,by omega⟩,by omega,fun h=>by simp at h,fun _=>?_⟩,fun h=>by omega⟩
  rw[bA i (by omega)]
  exact Og a b l ha hb hl m (i+1) (by omega)
theorem Sl(a b:AV)(l:List (List UInt8))(ha:cw a l)(hb:cw b l)(hl:l.length<=2000000):an Tryz.prog 42 [a,b] [] (bJ (.v (.bool true))):=by
 refine Sx _ _ ha.1 hb.1 ?_
 simp only[Ki,↓zq,zs,ae,ha.len,hb.len]
 refine⟨ha.1,hb.1,fun h=>by simp at h,fun _=>?_⟩
 refine cF (Og a b l ha hb hl l.length 0 (by omega)) ?_
 simp[bJ,↓zq,zs,ae]
theorem N2(s f:(List UInt8))(x y:AV)(l:List (List UInt8))(hx:cw x l)(hy:cw y l)(hl:l.length<=2000000):an Tryz.prog 16 [.agg [.v (.string (mk s)),x,.v (.string (mk f))],.agg [.v (.string (mk s)),y,.v (.string (mk f))]] [] (bJ (.v (.bool true))):=by
 refine SQ _ _ _ _ _ _ hx.1 hy.1 ?_
 simp only[OA,↓zq,zs,ae,zt,bJ]
 refine⟨fun _=>⟨fun _=>?_,fun h=>absurd rfl h⟩,fun h=>absurd rfl h⟩
 refine aj (Sl x y l hx hy hl) ?_
 simp only[↓zq,zs,ae,zt]
end Go.Proofs.Trees
namespace Go.Proofs.Trees
open Go Go.VL Go.RowKit
theorem Mb(a b:AV)(l r:List Int)(ha:mr a l)(hb:mr b r)(he:l.length=r.length)(hl:l.length<=2000000):∀(m i:Nat),i+m=l.length->l.take i=r.take i->Iz [a,b,.v (.int .i64 (i:Int))] [] (nK (if l=r then(1,[],[])else(2,[.v (.bool false)],[])))
 |
  0,i,hi,ht=>by
  refine N3 _ _ _ ?_
  have:l=r:=by rw[List.take_of_length_le (by omega),List.take_of_length_le (by omega)]at ht;exact ht
  simp only[Hu,↓zq,zs,ae,ha.len]
  exact⟨ha.1,hb.1,ha.1,fun h=>by omega,fun _=>by simp[nK,this]⟩
 |
  m+1,i,hi,ht=>by
  have hlt:i<l.length:=by omega
  have hlt2:i<r.length:=by omega
  refine N3 _ _ _ ?_
  simp only[Hu,↓zq,zs,ae,zt,ha.len,hb.len,ha.idx hlt,hb.idx hlt2,bF]
  refine⟨ha.1,hb.1,ha.1,fun _=>⟨⟨ha.1,by omega,by omega⟩,by omega,⟨hb.1,by omega,by omega⟩,by omega,fun h=>?_,fun h=>?_⟩,fun h=>by omega⟩
  ·have:¬l=r:=fun e=>by subst e;exact h rfl
   simp[nK,this]
  ·rw[bA i (by omega)]
   refine Mb a b l r ha hb he hl m (i+1) (by omega) ?_
   have hg:l[i]=r[i]:=by simpa[aa,hlt,hlt2]using h
   rw[List.take_succ_eq_append_getElem hlt,List.take_succ_eq_append_getElem hlt2,ht,hg]
theorem P8(a b:AV)(l r:List Int)(ha:mr a l)(hb:mr b r)(hl:l.length<=2000000):an Tryz.prog 12 [a,b] [] (bJ (.v (.bool (decide (l=r))))):=by
 refine QF _ _ ha.1 hb.1 ?_
 simp only[Kx,↓zq,zs,ae,ha.len,hb.len]
 refine⟨ha.1,hb.1,fun h=>?_,fun h=>?_⟩
 ·have:¬l=r:=fun e=>by subst e;exact h rfl
  simp[this,bJ]
 ·refine fA (Mb a b l r ha hb (by omega) hl l.length 0 (by omega) (by simp)) (fun ys o e=>?_) (fun ys o e=>?_)
  ·split at e
   ·rename_i q;simp[↓zq,zs,ae,bJ,q]
   ·cases e
  ·split at e
   ·cases e
   ·rename_i q;cases e;simp[↓zq,zs,ae,bJ,q]
end Go.Proofs.Trees
namespace Go.Proofs.Trees
open Go Go.VL Go.RowKit
theorem SE(a:AV)(ha:yU a):an Tryz.prog 4 [a] [] (bJ (.v (.bool true))):=by
 refine Ss _ ha.1 ?_
 simp only[JB,↓zq,zs,ae,zt,bJ]
 refine⟨ha.1,fun _=>trivial,fun _=>?_⟩
 refine aP (QB a ha) Pt.ne ?_
 rintro r o ⟨rfl,s,p,f,g,hp,rfl⟩
 simp only[↓zq,zs,ae,zt,bH]
 have hl:=xp s (o:=pw s p f g) (DB s p f g)
 have EQ:=N2 (tZ s (pw s p f g)).1 (tZ s (pw s p f g)).2.2 _ _ _ (cw.of (tZ s (pw s p f g)).2.1) (cw.of (tZ s (pw s p f g)).2.1) (by omega)
 refine aV (JX s _ p (cw.of p) f g) ?_
 simp only[↓zq,zs,ae,zt,aI,Ob.es,aL]
 refine⟨dW _,?_⟩
 refine aV (RO s _ p (cw.of p) f g) ?_
 simp only[↓zq,zs,ae,zt,aI,Ob.es,aL]
 refine⟨dW _,fun h=>by simp at h,fun _=>?_⟩
 refine aj EQ ?_
 simp only[↓zq,zs,ae]
 cases hr:pw s p f g with
 |
  none =>
  rw[hr]at EQ
  refine⟨fun h=>by simp at h,fun _=>⟨fun _=>⟨fun _=>aj EQ ?_,fun h=>absurd rfl h⟩,fun h=>by simp at h⟩⟩
  simp only[↓zq,zs,ae]
 |
  some r =>
  obtain⟨r0,pl,h0,hpp,hff,hp2,hg2,hb,q1,q2,h50⟩:=B6 hr
  have hpl:pl.length<=2000000:=by have:=Ah q1;omega
  have W1:=JX s (.sl (bG p)) p (cw.of p) g f
  have W2:=Lh s (.sl (bG p)) p (cw.of p) f
  have W3:=Lh s (.sl (bG p)) p (cw.of p) g
  rw[hb]at W1
  rw[q1]at W2
  rw[q2]at W3
  have ez:tZ s (some r)=(s,p,g):=by simp only[tZ,<-hp2,<-hg2]
  rw[ez]
  refine⟨fun h=>by simp at h,fun _=>⟨fun h=>by simp at h,fun _=>aV W1 ?_⟩⟩
  simp only[↓zq,zs,ae,zt,aI,Ob.es,aL,aX]
  refine⟨dW _,aV W2 ?_⟩
  simp only[↓zq,zs,ae,zt,aI,Ob.es,aL,aX,Rs,cz]
  refine⟨qu _,aV W3 ?_⟩
  simp only[↓zq,zs,ae,zt,aI,Ob.es,aL,aX,Rs,cz]
  refine⟨qu _,fun _=>⟨fun _=>⟨fun _=>⟨fun _=>?_,fun h=>absurd rfl h⟩,fun h=>by simp at h⟩,fun h=>by simp at h⟩,fun h=>by simp at h⟩
  rw[hpp,hff]
  refine aj (N2 s r0.2.cL _ _ (r0.1.map (·.cL)) (cw.of _) (cw.of _) (by rw[hpp]at hp;omega)) ?_
  simp only[↓zq,zs,ae]
  refine⟨fun _=>?_,fun h=>by simp at h⟩
  refine aj (P8 _ _ pl pl (.of _) (.of _) hpl) ?_
  simp[↓zq,zs,ae]
end Go.Proofs.Trees
