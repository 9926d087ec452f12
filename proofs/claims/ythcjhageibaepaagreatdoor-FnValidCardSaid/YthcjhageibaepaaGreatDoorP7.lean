/-
  Part of a proof: Go functions read by values, trees of functions, their contracts.
-/
import Derived.Test.YthcjhageibaepaaGreatDoorP6
set_option linter.unusedVariables false
set_option linter.unusedSimpArgs false
open Bool renaming eq_iff_iff→cx,or_eq_false_iff→cg
open Int renaming toNat_natCast→bG
open List renaming append_assoc→a8,drop_eq_getElem_cons→aS,drop_zero→bb,eq_nil_of_length_eq_zero→bH,getD_cons_zero→bq,getD_eq_getElem?_getD→aa,getElem?_eq_getElem→bp,getElem_mem→bD,headD_cons→aO,length_map→cu,length_nil→aG,map_cons→bE,mem_append→aN,mem_append_left→aD,mem_append_right→aB,mem_cons_of_mem→al,mem_cons_self→ak,mem_map→bO,mem_singleton→aQ,nil_append→aU,tail_cons→bx
open Nat renaming le_refl→au
open Option renaming bind_eq_some_iff→bh,bind_none→bJ,bind_some→a7,getD_some→cD,isSome_iff_exists→bU,isSome_none→bA,isSome_some→aZ,map_some→ct
namespace Go.Proofs.Trees
open Go Go.VL Go.RowKit
theorem Jy{s d:Nm}{a:Ty}{x A B:E}{D:Ty}(z:ZT s d a x A B D)(v:Vl)(hv:Fo a v):an Tryz.prog 51 [.v (.string (mk s)),.v (.string (mk v.cF))] [] (bK (.cH [.sl (lW (kids a v)),.v (.bool true)])):=by
 have hv2:mn s v.cF 100=some v:=by rw[z.cF hv.hZ hv.ty,if_pos hv.nd]
 have hP:=P3.of x A B
 have hn:=hv.nd
 obtain⟨v0,hv0,_⟩:=tT .nil z.hx (hv.eY z)
 have hkids:=Q7 100 v x A B a z.body z.hx v0 hv0 (hv.eY z) (by omega)
 have hV:=P2.of (.atom [102]) v0.cL
 refine SM _ _ ?_
 unfold K0
 refine aP (IF s) (jF.ne _ _ (fun h=>h)) ?_
 rintro r o ⟨c,e,he,rfl,hh⟩
 rw[z.le]at hh
 obtain⟨e',he',hce⟩:=hh rfl
 cases he'
 rw[dm]at hce
 rw[hce,z.le]
 simp only[↓zq,zs,ae,zt,aL,bM]
 repeat refine⟨by omega,?_⟩
 refine aP (Et v.cF) (jF.ne _ _ (fun h=>by simpa using h)) ?_
 rw[qR hv.hZ hn]
 rintro r o ⟨c,e,he,rfl,hh⟩
 obtain⟨e',he',hce⟩:=hh rfl
 cases he'
 rw[dm]at hce
 rw[hce]
 simp only[↓zq,zs,ae,zt,aL,aZ]
 repeat refine⟨by omega,?_⟩
 refine⟨fun h=>by simp at h,fun _=>?_⟩
 refine aj (Ab s v.cF 100) ?_
 rw[hv2,hv0]
 simp only[toNat_one,bg,Vl.cL,bM,↓zq,zs,ae,zt,hP.1,hP.2.1,hP.2.2.1,hP.2.2.2,hV.1,hV.2.1,hV.2.2,aL,aX,aZ]
 refine⟨fun h=>by simp at h,fun _=>?_⟩
 repeat refine⟨by omega,?_⟩
 refine aj hkids ?_
 simp only[↓zq,zs,ae]
 repeat refine⟨by omega,?_⟩
 have hlen:=nh a v
 have:=lq (kids a v)
 refine aj (Qi (kids a v) (by omega) (fun h hh=>(re hv hh).1) (fun h hh=>(re hv hh).2)) ?_
 rw[<-hv0]
 simp only[↓zq,zs,ae]
 exact⟨rfl,rfl⟩
theorem Sl(s:Nm)(pa:AV)(p:List Nm)(hp:cy pa p)(f:Nm):an Tryz.prog 50 [.agg [.v (.string (mk s)),pa,.v (.string (mk f))]] [] (bK (.v (.int .i64 (qs s p f)))):=by
 refine Sc _ _ _ hp.1 ?_
 unfold Ow
 refine aj (O9 s pa p hp f) ?_
 simp only[↓zq,zs,ae]
 unfold qs
 cases q:ga s p f with
 |none=>simp only[bA];exact⟨fun _=>⟨rfl,rfl⟩,fun h=>by simp at h⟩
 |
  some r =>
  obtain⟨l,v⟩:=r
  obtain⟨d,hs,rfl,rfl⟩:=py q
  obtain⟨x,A,B,D,z⟩:=hs.z
  simp only[aZ]
  refine⟨fun h=>by simp at h,fun _=>?_⟩
  refine aj (Jy z v hs.i.nG) ?_
  simp only[↓zq,zs,ae,lH]
  exact⟨rfl,rfl⟩
end Go.Proofs.Trees
namespace Go.Proofs.Trees
open Go Go.VL Go.RowKit
theorem wv{a:Ty}{l l':List Vl}{v w:Vl}{k:Int}(h:u7 a l v k=some (l',w)):∃q,q∈kids a v/\l'=l++[q.1]/\w=q.2/\q.1.nodes<=200/\l.length≠50/\0<=k/\(kids a v)[k.toNat]?=some q:=by
 unfold u7 at h
 split at h
 ·cases h
 ·rename_i h0
  split at h
  ·rename_i h1
   split at h
   ·rename_i h2
    cases h
    have e:(kids a v).getD k.toNat (.u,.u)=(kids a v)[k.toNat]'h1.2:=by simp[aa,h1.2]
    rw[e]at h2 |-
    exact⟨_,bD _,rfl,rfl,h2,h0,h1.1,by simp[h1.2]⟩
   ·cases h
  ·cases h
theorem St.dn{s d:Nm}{a:Ty}{l l':List Vl}{v w:Vl}{k:Int}(h:St s d a l v)(hu:u7 a l v k=some (l',w)):St s d a l' w/\qF a l' w=some (l,v)/\l'.length=l.length+1:=by
 obtain⟨q,hq,rfl,rfl,hn,h50,_,_⟩:=wv hu
 obtain⟨x,A,B,D,z⟩:=h.z
 obtain⟨t1,t2,t3⟩:=z.Sj h.i.nG hq
 have hv:mn d q.1.cF 100=some q.1:=by rw[z.S3 (kO h.i.nG.hZ hq).1 t1,if_pos hn]
 have hlen:=h.len
 refine⟨⟨⟨x,A,B,D,z⟩,⟨fun c hc=>?_,t2⟩,fun c hc=>?_,by simp;omega⟩,(vB t3 h.i.nG.nd).1,by simp⟩
 ·rcases aN.1 hc with hc|hc
  ·exact h.i.ctx c hc
  ·simp only[aQ]at hc;subst hc;exact z.ctx hv
 ·rcases aN.1 hc with hc|hc
  ·exact h.each c hc
  ·simp only[aQ]at hc;subst hc;exact hv
theorem SC{s d:Nm}{a:Ty}{l:List Vl}{v:Vl}(h:St s d a l v)(k:Int):an Tryz.prog 44 [pC s a l v,.v (.int .i64 k)] [] (bK (oZ s a (u7 a l v k))):=by
 obtain⟨x,A,B,D,z⟩:=h.z
 have hnd:=h.i.nG.nd
 have hlen:=h.len
 refine Ox _ _ ((bZ _).mpr trivial) ?_
 simp only[H4,pC,↓zq,zs,ae,gy,aM,aE]
 refine⟨fun h=>(by cases h),fun _=>?_⟩
 repeat refine⟨by first|trivial|omega,?_⟩
 unfold u7
 refine⟨fun h5=>?_,fun h5=>?_⟩
 ·rw[if_pos (by omega)];exact⟨rfl,rfl⟩
 ·rw[if_neg (by omega)]
  repeat refine⟨by first|trivial|omega,?_⟩
  refine aj (LX 100 v x A B a z.body z.hx (h.i.nG.eY z) (by omega)) ?_
  have hkl:(gK (kids a v)).length=(kids a v).length:=by simp[gK]
  simp only[↓zq,zs,ae,hkl]
  refine⟨fun h0=>?_,fun h0=>⟨fun h1=>?_,fun h1=>?_⟩⟩
  ·rw[if_neg (by omega)];exact⟨rfl,rfl⟩
  ·rw[if_neg (by omega)];exact⟨rfl,rfl⟩
  ·have hlt:k.toNat<(kids a v).length:=by omega
   rw[if_pos ⟨by omega,hlt⟩]
   have hg:(gK (kids a v)).getD k.toNat []=[((kids a v)[k.toNat]).1.cE,((kids a v)[k.toNat]).2.cE]:=by simp[gK,aa,hlt]
   have hg2:(kids a v).getD k.toNat (.u,.u)=(kids a v)[k.toNat]:=by simp[aa,hlt]
   have hm:=bD hlt
   rw[hg2]
   have hctx:((kids a v)[k.toNat]).1.nodes<=4*v.nodes:=by
    cases v with
    |f w=>have:=(iD hm).2;simp only[Vl.nodes];omega
    |_=>simp[kids]at hlt
   generalize (kids a v)[k.toNat]=q at *
   simp only[hg,↓zq,zs,ae,aM]
   repeat refine⟨by first|trivial|omega,?_⟩
   refine aj (EO q.1 (by omega)) ?_
   simp only[↓zq,zs,ae,aM,aE,zt]
   refine⟨fun hb=>?_,fun hb=>?_⟩
   ·rw[if_neg (by omega)];exact⟨rfl,rfl⟩
   ·rw[if_pos (by omega)]
    repeat refine⟨by first|trivial|omega,?_⟩
    refine⟨⟨fun c hc=>?_,by simp[u5];omega⟩,?_⟩
    ·simp only[u5,bO]at hc
     obtain⟨y,_,rfl⟩:=hc;rfl
    repeat refine⟨by first|trivial|omega,?_⟩
    refine⟨⟨fun c hc=>by simp at hc;rw[hc];rfl,by simp[u5];omega⟩,?_⟩
    repeat refine⟨by first|trivial|omega,?_⟩
    refine⟨?_,rfl⟩
    simp only[oZ,pC,aU,ye]
theorem QK(s:Nm)(a:Ty)(o:Option (List Vl×Vl))(ho:∀r,o=some r->∃d,St s d a r.1 r.2)(k:Int):an Tryz.prog 44 [oZ s a o,.v (.int .i64 k)] [] (bK (oZ s a (o.bind fun r=>u7 a r.1 r.2 k))):=by
 cases o with
 |
  none =>
  refine Ox _ _ ((iF).mpr trivial) ?_
  simp only[H4,oZ,↓zq,zs,ae,bJ]
  exact⟨fun _=>⟨rfl,rfl⟩,fun h=>(by cases h)⟩
 |
  some r =>
  obtain⟨d,h⟩:=ho r rfl
  exact SC h k
noncomputable def AZ (s:Nm) (p:List Nm) (f:Nm) (k:Int):Option (List Vl×Vl):=(ga s p f).bind fun r=>u7 (zA s) r.1 r.2 k
theorem St.gz{s d:Nm}{a:Ty}{l:List Vl}{v:Vl}(h:St s d a l v):GZ (some (l,v)):=h.i.gz (by have:=h.len;omega)
theorem Ct(s:Nm)(p:List Nm)(f:Nm)(k:Int):GZ (AZ s p f k):=fun r hr=>by
 obtain⟨q,h1,h2⟩:=bh.1 hr
 obtain⟨d,hs,_⟩:=py (l:=q.1) (v:=q.2) h1
 exact(hs.dn (l':=r.1) (w:=r.2) h2).1.gz r rfl
theorem wO{l:List Hl}{i:Nat}(h:i<l.length):(lW l).getD i []=[.v (.string (mk (l[i]).1.cF)),.v (.string (mk (l[i]).2.cF))]:=by simp[lW,aa,h]
theorem uB{s:Nm}{p:List Nm}{f:Nm}{r:List Vl×Vl}(h:sE s p f=some r):∃d,cJ s=some d/\St s d (zA s) r.1 r.2/\p=r.1.map (·.cF)/\f=r.2.cF:=by
 obtain⟨d,a,x,A,B,D,z,hz,hp,hf,hl,hza,_,hr⟩:=mw (l:=r.1) (v:=r.2) h
 rw[hza]
 exact⟨d,z.dl,⟨⟨x,A,B,D,z⟩,hz,nS hr hp,by rw[hp]at hl;simpa using hl⟩,hp,hf⟩
theorem EW{s d:Nm}{l:List Vl}{v:Vl}(hs:St s d (zA s) l v)(hd:cJ s=some d)(hv:ga s (l.map (·.cF)) v.cF=some (l,v)){k:Int}(h0:0<=k)(hk:k.toNat<(kids (zA s) v).length) :
 ga s (l.map (·.cF)++[((kids (zA s) v)[k.toNat]).1.cF]) ((kids (zA s) v)[k.toNat]).2.cF=u7 (zA s) l v k:=by
 rw[zJ hs hd hv (bD hk)]
 unfold u7
 by_cases h5:l.length=50
 ·rw[if_pos h5,if_pos h5]
 ·rw[if_neg h5,if_neg h5,if_pos (show 0<=k/\k.toNat<(kids (zA s) v).length from ⟨h0,hk⟩)]
  have hg2:(kids (zA s) v).getD k.toNat (.u,.u)=(kids (zA s) v)[k.toNat]:=by simp[aa,hk]
  rw[hg2]
theorem S7(s:Nm)(pa:AV)(p:List Nm)(hp:cy pa p)(f:Nm)(k:Int):an Tryz.prog 30 [.agg [.v (.string (mk s)),pa,.v (.string (mk f))],.v (.int .i64 k)] [] (HY s (AZ s p f k)):=by
 refine Qz _ _ _ _ hp.1 ?_
 unfold OA
 refine aj (O9 s pa p hp f) ?_
 simp only[↓zq,zs,ae]
 unfold AZ
 cases q:ga s p f with
 |none=>simp only[bA];exact⟨fun _=>⟨rfl,rfl⟩,fun h=>by simp at h⟩
 |
  some r =>
  obtain⟨l,v⟩:=r
  obtain⟨d,hd,hs,rfl,rfl⟩:=uB (gb q).1
  obtain⟨x,A,B,D,z⟩:=hs.z
  have hlen:l.length<=50:=hs.len
  have hnd:v.nodes<=200:=hs.i.nG.nd
  have hks:=nh (zA s) v
  have hks2:=lq (kids (zA s) v)
  simp only[aZ,a7]
  refine⟨fun h=>by simp at h,fun _=>?_⟩
  refine aj (Jy z v hs.i.nG) ?_
  simp only[↓zq,zs,ae,lH]
  rw[wrap64 (((kids (zA s) v).length:Int)-1) (by omega) (by omega)]
  refine aj (AX k 0 _) ?_
  rw[show CM k 0 (((kids (zA s) v).length:Int)-1)=decide (0<=k/\k<=((kids (zA s) v).length:Int)-1) by rw[cx];simp[CM]]
  simp only[↓zq,zs,ae,lH]
  by_cases hin:0<=k/\k<=((kids (zA s) v).length:Int)-1
  ·have hlt:k.toNat<(kids (zA s) v).length:=by omega
   refine⟨fun h=>(by exfalso;first|omega|(simp at h;omega)),fun _=>?_⟩
   simp only[wO hlt,↓zq,zs,ae,zt]
   repeat refine⟨by first|trivial|omega,?_⟩
   refine aV (xh _ pa hp _ (by simp;omega)) ?_
   simp only[↓zq,zs,ae,zt,Ob.es,aO]
   refine⟨eB _,?_⟩
   repeat refine⟨by first|trivial|omega,?_⟩
   have hdn:=Oa s (l.map (·.cF)++[((kids (zA s) v)[k.toNat]).1.cF]) ((kids (zA s) v)[k.toNat]).2.cF
   rw[EW hs hd q hin.1 hlt]at hdn
   refine aV hdn ?_
   simp only[↓zq,zs,ae,zt,aK,Ob.es,aO,bx]
   exact⟨rfl,rfl⟩
  ·refine⟨fun _=>?_,fun h=>(by exfalso;first|omega|(simp at h;omega))⟩
   have:u7 (zA s) l v k=none:=by
    unfold u7
    by_cases h5:l.length=50
    ·rw[if_pos h5]
    ·rw[if_neg h5,if_neg (by omega)]
   rw[this]
   exact⟨rfl,rfl⟩
end Go.Proofs.Trees
namespace Go.Proofs.Trees
open Go Go.VL Go.RowKit
def dZ(b:AV)(q:Nat)(s:Nm)(p:List Nm)(f:Nm):List Ob:=[.cells [b,.v (.int .i64 (q:Int))],MO,.cells [.v (.string (mk s)),.any,.v (.string (mk f))],.vec 1 (bN p)]
def Tx(b:AV)(q c:Nat):Nat->List AV->List Ob->Prop:=fun k ys ob=>k=1/\ys=[]/\∃(q':Nat) (s:Nm) (p:List Nm) (f:Nm),q<=q'/\q'<=q+c/\p.length<=51/\ob=dZ b q' s p f
theorem Bs(s:Nm)(p:List Nm)(f:Nm):-1<=qs s p f/\qs s p f<=1000:=by
 unfold qs
 cases q:ga s p f with
 |none=>simp
 |
  some r =>
  obtain⟨d,hs,_⟩:=py (l:=r.1) (v:=r.2) q
  have h1:=nh (zA s) r.2
  have h2:=lq (kids (zA s) r.2)
  have h3:=hs.i.nG.nd
  simp only
  omega
theorem F7(b:AV)(l:List UInt8)(hb:ss b l)(q0 C:Nat)(hC:q0+C<1000000000000):∀(k:Nat) (ok:Bool) (i n q:Nat) (s:Nm) (p:List Nm) (f:Nm),i+k=n->n<=100->q0<=q->q+k<=q0+C->p.length<=51 ->
 HU [.v (.bool ok),.v (.int .i64 (n:Int)),.v (.int .i64 (i:Int))] (dZ b q s p f) (Tx b q0 C)
 |
  0,ok,i,n,q,s,p,f,hi,hn,hq0,hq,hp=>by
  refine JS _ _ _ _ _ _ _ _ _ _ _ ?_
  have:i=n:=by omega
  subst this
  simp only[HL,↓zq,zs,ae,zt,ae,bf,hb.has]
  refine⟨fun h=>by omega,fun _=>⟨rfl,rfl,q,s,p,f,by omega,by omega,hp,rfl⟩⟩
 |
  k+1,ok,i,n,q,s,p,f,hi,hn,hq0,hq,hp=>by
  refine JS _ _ _ _ _ _ _ _ _ _ _ ?_
  have hfar:qf=1000000000000000:=rfl
  simp only[HL,↓zq,zs,ae,zt,ae,bf,hb.has]
  refine⟨fun _=>⟨fun hok=>?_,fun _=>⟨rfl,rfl,q,s,p,f,by omega,by omega,hp,rfl⟩⟩,fun h=>by omega⟩
  refine aj (Sl s _ p (cy.of p) f) ?_
  have hm:=Bs s p f
  obtain⟨m,hm1,hm2⟩:∃m:Nat,(if qs s p f>1 then qs s p f else 1)=(m:Int)/\m<=1000:=by
   split
   ·exact⟨(qs s p f).toNat,by omega,by omega⟩
   ·exact⟨1,rfl,by omega⟩
  simp only[↓zq,zs,ae,hm1]
  refine aP (vq b l hb q m (by omega) (by omega)) (eV.ne ⟨0,rfl,fun h=>by omega,by omega⟩) ?_
  rintro r o ⟨q1,h1,h2,⟨j,rfl,_,_⟩,rfl⟩
  simp only[↓zq,zs,ae,zt,aK,hb.has]
  refine aV (S7 s _ p (cy.of p) f (j:Int)) ?_
  have hl:=Bt s (Ct s p f (j:Int))
  simp only[↓zq,zs,ae,zt,aK,Ob.es,aO]
  rw[bz i (by omega)]
  refine⟨eB _,fun _=>?_,fun _=>?_⟩
  ·exact F7 b l hb q0 C hC k ok (i+1) n q1 _ _ _ (by omega) hn (by omega) (by omega) hl
  ·exact F7 b l hb q0 C hC k ok (i+1) n q1 _ _ _ (by omega) hn (by omega) (by omega) hp
def Pa(b:AV)(p c:Nat):AV->List Ob->Prop:=fun r o=>∃(q:Nat) (s:Nm) (pth:List Nm) (f:Nm),p<=q/\q<=p+c/\pth.length<=52/\r=.agg [.v (.string (mk s)),.vec 1,.v (.string (mk f))]/\o=[.cells [b,.v (.int .i64 (q:Int))],.vec 1 (bN pth)]
theorem Pa.ne(b:AV)(p c:Nat):∃r o,Pa b p c r o:=⟨_,_,p,[],[],[],au _,by omega,by simp,rfl,rfl⟩
theorem Rq(b:AV)(l:List UInt8)(hb:ss b l)(p:Nat)(hp:p<100000000000):an Tryz.prog 31 [.ref 0 0] [.cells [b,.v (.int .i64 (p:Int))]] (Pa b p 60000001000):=by
 have hfar:qf=1000000000000000:=rfl
 refine Sa _ _ hb.has ?_
 unfold LR
 refine aP (P7 b l hb p (by omega)) (eV.ne ⟨[],[],rfl⟩) ?_
 rintro r o ⟨q,h1,h2,⟨s,f,rfl⟩,rfl⟩
 simp only[↓zq,zs,ae,zt,aK,hb.has]
 refine aV (QI s f) ?_
 have hl:=Bt s (Fh s [] f)
 simp only[↓zq,zs,ae,zt,aK,Ob.es,aO]
 refine⟨eB _,?_⟩
 refine aP (vq b l hb q 4 (by omega) (by decide)) (eV.ne ⟨0,rfl,fun h=>by omega,by omega⟩) ?_
 rintro r o ⟨q1,g1,g2,⟨n,rfl,_,hn⟩,rfl⟩
 simp only[↓zq,zs,ae,zt,aK,hb.has]
 refine lz (F7 b l hb q1 n (by omega) n _ 0 n q1 _ _ _ (by omega) (by omega) (by omega) (by omega) hl) (fun ys o e=>?_) (fun ys o e=>?_)
 ·obtain⟨_,rfl,q2,s2,p2,f2,e1,e2,e3,rfl⟩:=e
  simp only[dZ,↓zq,zs,ae,zt,ae,bf,hb.has,Ob.es,aO,bx,bb]
  refine aP (vq b l hb q2 20 (by omega) (by decide)) (eV.ne ⟨0,rfl,fun h=>by omega,by omega⟩) ?_
  rintro r o ⟨q3,d1,d2,⟨j,rfl,_,_⟩,rfl⟩
  simp only[↓zq,zs,ae,zt,aK,hb.has]
  have hsl:(bN p2).length=p2.length:=by simp[bN]
  have ap:bN p2++[[.v (.string (mk [117]))]]=bN (p2++[[117]]):=by simp[bN]
  refine⟨fun _=>⟨⟨fun c hc=>(by simp at hc;rw[hc];rfl),by simp;omega⟩,?_⟩,fun _=>⟨fun _=>?_,fun _=>⟨fun _=>?_,fun _=>?_⟩⟩⟩
  ·rw[ap];exact⟨q3,s2,_,f2,by omega,by omega,by simp;omega,rfl,rfl⟩
  ·exact⟨q3,s2,_,_,by omega,by omega,by omega,rfl,rfl⟩
  ·exact⟨q3,_,_,f2,by omega,by omega,by omega,rfl,rfl⟩
  ·exact⟨q3,s2,_,f2,by omega,by omega,by omega,rfl,rfl⟩
 ·exact absurd e.1 (by decide)
end Go.Proofs.Trees
namespace Go.Proofs.Trees
open Go Go.VL Go.RowKit
def Pj:AV->List Ob->Prop:=fun r o=>o=[]/\∃(s:Nm) (p:List Nm) (f:Nm),p.length<=52/\r=.agg [.v (.string (mk s)),.sl (bN p),.v (.string (mk f))]
theorem Pj.ne:∃r o,Pj r o:=⟨_,_,rfl,[],[],[],by simp,rfl⟩
theorem RV:(0:Nat)<100000000000:=by decide
theorem QH(a:AV)(ha:yX a):an Tryz.prog 21 [a] [] Pj:=by
 refine SV _ ha.1 ?_
 unfold Ll
 refine aP (S1 a ha) Pf.ne ?_
 rintro r o ⟨b,l,hb,rfl,rfl⟩
 simp only[↓zq,zs,ae,zt,hb.has]
 refine⟨by simp[bI,hb.has,l8],aP (Rq b l hb 0 RV) (Pa.ne _ _ _) ?_⟩
 rintro r o ⟨q,s,p,f,_,_,h3,rfl,rfl⟩
 simp only[↓zq,zs,ae,zt,aK,hb.has,bx,aO,Ob.es]
 exact⟨rfl,s,p,f,h3,rfl⟩
end Go.Proofs.Trees
namespace Go.Proofs.Trees
open Go Go.VL Go.RowKit
def Tb(n:Nat):AV->List Ob->Prop:=fun r o=>∃x:Int,r=.v (.int .i64 x)/\(0<=x->n<=1048576)
theorem Tb.ne(n:Nat):∃r o,Tb n r o:=⟨_,[],-1,rfl,fun h=>by omega⟩
end Go.Proofs.Trees
namespace Go.Proofs.Trees
open Go Go.VL Go.RowKit
def qj(a:AV)(l:List Nat):Prop:=LK.sl.has a/\a.elems=si l
theorem qj.of(l:List Nat):qj (.sl (si l)) l:=⟨(cf _).mpr trivial,rfl⟩
theorem qj.nil:qj (.v (.slice none 0 0)) []:=⟨(bf).mpr trivial,rfl⟩
theorem qj.len{a:AV}{l:List Nat}(h:qj a l):a.elems.length=l.length:=by rw[h.2,xq]
theorem qj.idx{a:AV}{l:List Nat}(h:qj a l){i:Nat}(hi:i<l.length):a.elems.getD i []=[.v (.int .i64 (l.getD i 0:Nat))]:=by
 rw[h.2];simp[si,aa,hi]
end Go.Proofs.Trees
namespace Go.Proofs.Trees
open Go Go.VL Go.RowKit
def eG(l:List Int):List (List AV):=l.map fun k=>[.v (.int .i64 k)]
def nD(a:AV)(l:List Int):Prop:=LK.sl.has a/\a.elems=eG l
theorem ng(l:List Int):(eG l).length=l.length:=by simp[eG]
theorem nD.of(l:List Int):nD (.sl (eG l)) l:=⟨(cf _).mpr trivial,rfl⟩
theorem nD.nil:nD (.v (.slice none 0 0)) []:=⟨(bf).mpr trivial,rfl⟩
theorem nD.len{a:AV}{l:List Int}(h:nD a l):a.elems.length=l.length:=by rw[h.2,ng]
theorem nD.idx{a:AV}{l:List Int}(h:nD a l){i:Nat}(hi:i<l.length):a.elems.getD i []=[.v (.int .i64 (l.getD i 0))]:=by
 rw[h.2];simp[eG,aa,hi]
theorem wz(l:List Int):∀x,x∈[Ob.vec 1 (eG l)]->fg x:=by
 intro x hx
 simp only[aQ]at hx
 subst hx
 intro e he c hc
 simp only[eG,bO]at he
 obtain⟨k,_,rfl⟩:=he
 simp only[aQ]at hc
 exact⟨_,hc⟩
end Go.Proofs.Trees
namespace Go.Proofs.Trees
open Go Go.VL Go.RowKit
abbrev ZO:=Option (List Vl×Vl)
def Az(s:Nm)(o:ZO):Prop:=∀r,o=some r->∃d,St s d (zA s) r.1 r.2
def DV(a:Ty)(pl:List Int)(o:ZO):ZO:=pl.foldl (fun o k=>o.bind fun r=>u7 a r.1 r.2 k) o
theorem Be(a:Ty)(k:Int)(pl:List Int)(o:ZO):DV a (k::pl) o=DV a pl (o.bind fun r=>u7 a r.1 r.2 k):=rfl
theorem Az.dn{s:Nm}{o:ZO}(h:Az s o)(k:Int):Az s (o.bind fun r=>u7 (zA s) r.1 r.2 k):=fun r hr=>by
 obtain⟨q,h1,h2⟩:=bh.1 hr
 obtain⟨d,hs⟩:=h q h1
 exact⟨d,(hs.dn (l':=r.1) (w:=r.2) h2).1⟩
theorem Az.go{s:Nm}:∀{pl:List Int} {o:ZO},Az s o->Az s (DV (zA s) pl o)
 |[],o,h=>h
 |k::pl,o,h=>Az.go (pl:=pl) (h.dn k)
theorem Az.gz{s:Nm}{o:ZO}(h:Az s o):GZ o:=fun r hr=>by
 obtain⟨d,hs⟩:=h r hr
 exact hs.gz r rfl
theorem yw(s:Nm)(p:List Nm)(f:Nm):Az s (sE s p f):=fun r hr=>by
 obtain⟨d,_,hs,_⟩:=uB hr
 exact⟨d,hs⟩
noncomputable def Pk (s f:Nm) (pl:List Int):ZO:=DV (zA s) pl (sE s [] f)
theorem Gx(s f:Nm)(pl:List Int):Az s (Pk s f pl):=(yw s [] f).go
theorem I2(s:Nm)(a:AV)(pl:List Int)(ha:nD a pl)(hl:pl.length<=2000000):∀(k i:Nat) (o:ZO),i+k=pl.length->Az s o ->
 HT [oZ s (zA s) o,a,.v (.int .i64 (pl.length:Int)),.v (.int .i64 (i:Int))] [MO] (gI 1 [oZ s (zA s) (DV (zA s) (pl.drop i) o)] [MO])
 |
  0,i,o,hi,ho=>by
  refine K7 _ _ _ _ _ _ _ ?_
  have:i=pl.length:=by omega
  subst this
  simp only[HC,↓zq,zs,ae,zt,ae,jZ,bf,List.drop_length]
  exact⟨ha.1,fun h=>by omega,fun _=>⟨rfl,rfl,rfl⟩⟩
 |
  k+1,i,o,hi,ho=>by
  have hlt:i<pl.length:=by omega
  refine K7 _ _ _ _ _ _ _ ?_
  simp only[HC,↓zq,zs,ae,zt,ae,jZ,bf,ha.len,ha.idx hlt,bG]
  refine⟨ha.1,fun _=>⟨⟨ha.1,by omega,by omega⟩,by omega,?_⟩,fun h=>by omega⟩
  refine aj (QK s (zA s) o ho _) ?_
  simp only[↓zq,zs,ae,jZ]
  have hd:pl.drop i=pl.getD i 0::pl.drop (i+1):=by rw[aS hlt];simp[aa,hlt]
  rw[bz i (by omega),hd,Be]
  exact I2 s a pl ha hl k (i+1) _ (by omega) (ho.dn _)
theorem PI(s f:Nm)(a:AV)(pl:List Int)(ha:nD a pl)(hl:pl.length<=2000000):an Tryz.prog 25 [.v (.string (mk s)),.v (.string (mk f)),a] [] (HY s (Pk s f pl)):=by
 refine Sk _ _ _ ha.1 ?_
 unfold Ni
 refine aj (KV s _ [] (cy.nil) f) ?_
 simp only[↓zq,zs,ae,zt,jZ,ha.len]
 refine⟨ha.1,?_⟩
 have hloop:=I2 s a pl ha hl pl.length 0 (sE s [] f) (by omega) (yw s [] f)
 rw[bb]at hloop
 refine cz hloop ?_
 simp only[↓zq,zs,ae,zt,ae,jZ,bf]
 refine aV (Sw s (zA s) _ (Gx s f pl).gz) ?_
 simp only[↓zq,zs,ae,zt,aK]
 exact⟨eB _,rfl,rfl⟩
def SG(s:Nm)(o:ZO):Prop:=∀r,o=some r->ga s (r.1.map (·.cF)) r.2.cF=some r
theorem SG.dn{s:Nm}{o:ZO}(h:SG s o)(k:Int):SG s (o.bind fun r=>u7 (zA s) r.1 r.2 k):=fun r hr=>by
 obtain⟨q,h1,h2⟩:=bh.1 hr
 have hq:=h q h1
 obtain⟨d,hd,hs,_⟩:=uB (gb (l:=q.1) (v:=q.2) hq).1
 obtain⟨e,_,h3,h4,_,_,h0,h5⟩:=wv (l':=r.1) (w:=r.2) h2
 have hk:k.toNat<(kids (zA s) q.2).length:=by
  rcases Nat.lt_or_ge k.toNat (kids (zA s) q.2).length with h|h
  ·exact h
  ·rw[List.getElem?_eq_none h]at h5;cases h5
 have he:(kids (zA s) q.2)[k.toNat]=e:=by rw[bp hk]at h5;cases h5;rfl
 have:=EW hs hd hq h0 hk
 rw[h2,he]at this
 obtain⟨l1,v1⟩:=r
 simp only at h3 h4 |-
 subst h3 h4
 rw[List.map_append]
 exact this
end Go.Proofs.Trees
namespace Go.Proofs.Trees
open Go Go.VL Go.RowKit
def wD(c:Nm):List Hl->Nat->Int
 |[],_=>-1
 |h::l,i=>if h.1.cF=c then(i:Int)else wD c l (i+1)
theorem Pw(q:Vl)(w:AV)(hw:LK.ptr.has w)(c:Nm)(hq:q.cF.length<=900000):an Tryz.prog 59 [.agg [q.cE,w],.ref 0 0] [.cells [.v (.string (mk c))]] (df (.v (.bool (decide (q.cF=c)))) [.cells [.v (.string (mk c))]]):=by
 refine Qs _ _ _ ((aM _).mpr trivial) hw ?_
 unfold Nx
 refine aj (CQ q hq) ?_
 simp only[↓zq,zs,ae,zt]
 refine⟨?_,rfl⟩
 congr 2
 rw[cx];simp
theorem Jo(c:Nm)(l:List Hl)(hl:l.length<=1000)(ht:∀h,h∈l->h.1.cF.length<=900000):∀(k i:Nat),i+k=l.length->FZ [.sl (gK l),.v (.int .i64 (l.length:Int)),.v (.int .i64 (i:Int))] [.cells [.v (.string (mk c))]]
 (po (if wD c (l.drop i) i = -1 then(1,[],[.cells [.v (.string (mk c))]])else(2,[.v (.int .i64 (wD c (l.drop i) i))],[.cells [.v (.string (mk c))]])))
 |
  0,i,hi=>by
  refine Ji _ _ _ _ ?_
  have:i=l.length:=by omega
  subst this
  simp only[G9,↓zq,zs,ae,zt,ae,List.drop_length,wD]
  exact⟨fun h=>by omega,fun _=>by simp[po]⟩
 |
  k+1,i,hi=>by
  have hlt:i<l.length:=by omega
  refine Ji _ _ _ _ ?_
  simp only[G9,↓zq,zs,ae,zt,ae,bI,ei,lC hlt,aM,bG]
  refine⟨fun _=>?_,fun h=>by omega⟩
  repeat refine⟨by first|trivial|omega,?_⟩
  refine aV (Pw (l[i]).1 _ ((aM _).mpr trivial) c (ht _ (bD hlt))) ?_
  simp only[↓zq,zs,ae,zt,aK]
  rw[aS hlt,wD]
  by_cases h:(l[i]).1.cF=c
  ·simp only[if_pos h]
   refine⟨fun _=>?_,fun hn=>absurd h (by simpa using hn)⟩
   rw[if_neg (by omega)]
  ·simp only[if_neg h]
   refine⟨fun hp=>absurd (by simpa using hp) h,fun _=>?_⟩
   rw[bz i (by omega)]
   exact Jo c l hl ht k (i+1) (by omega)
theorem Qx(c:Nm)(l:List Hl)(hl:l.length<=1000)(ht:∀h,h∈l->h.1.cF.length<=900000):an Tryz.prog 57 [.sl (gK l),.fn 59 [.ref 0 0]] [.cells [.v (.string (mk c))]] (df (.v (.int .i64 (wD c l 0))) [.cells [.v (.string (mk c))]]):=by
 refine Q1 _ _ ((cf _).mpr trivial) ?_
 simp only[I4,↓zq,zs,ae,ei]
 have hloop:=Jo c l hl ht l.length 0 (by omega)
 rw[bb]at hloop
 refine fF hloop (fun ys o e=>?_) (fun ys o e=>?_)
 ·split at e
  ·rename_i h
   cases e
   simp only[↓zq,zs,ae,zt,ae]
   rw[h];exact⟨rfl,rfl⟩
  ·cases e
 ·split at e
  ·cases e
  ·cases e
   simp only[↓zq,zs,ae,zt,ae]
   exact⟨rfl,rfl⟩
theorem Fo.kt{a:Ty}{v:Vl}(h:Fo a v):(kids a v).length<=199/\(∀k,k∈kids a v->k.1.cF.length<=900000):=by
 refine⟨?_,fun k hk=>(re h hk).1⟩
 have h1:=nh a v
 have h2:=lq (kids a v)
 have:=h.nd
 omega
theorem Q2{s d:Nm}{a:Ty}{l l':List Vl}{v w c:Vl}(h:St s d a l v)(hu:qF a l v=some (l',w))(hc:l=l'++[c]):an Tryz.prog 35 [pC s a l v,pC s a l' w] [] (bK (.v (.int .i64 (wD c.cF (kids a w) 0)))):=by
 have h':=h.up hu
 obtain⟨x,A,B,D,z⟩:=h.z
 have hlen:=h.len
 have hl1:l.length=l'.length+1:=by rw[hc];simp
 refine PZ _ _ ((bZ _).mpr trivial) ((bZ _).mpr trivial) ?_
 simp only[IZ,pC,↓zq,zs,ae,gy,aM,aE]
 repeat refine⟨by first|trivial|omega,?_⟩
 rw[wrap64 ((l.length:Int)-1) (by omega) (by omega)]
 have e1:((l.length:Int)-1).toNat=l'.length:=by omega
 have hg:(u5 l).getD l'.length []=[c.cE]:=by rw[um (by omega)];simp[hc]
 simp only[e1,hg,↓zq,zs,ae,aM]
 repeat refine⟨by first|trivial|omega,?_⟩
 have hcx:=h.i.ctx c (by rw[hc];simp)
 refine aj (CQ c hcx.cF) ?_
 simp only[↓zq,zs,ae,zt,aM,aE]
 repeat refine⟨by first|trivial|omega,?_⟩
 have hnd:=h'.i.nG.nd
 refine aj (LX 100 w x A B a z.body z.hx (h'.i.nG.eY z) (by omega)) ?_
 simp only[↓zq,zs,ae,zt]
 have hk:=h'.i.nG.kt
 refine aV (Qx c.cF (kids a w) (by omega) hk.2) ?_
 simp only[↓zq,zs,ae,zt,aK]
 exact⟨rfl,rfl⟩
def nY:Nat->Ty->List Vl->Vl->List Int
 |0,_,_,_=>[]
 |
  n+1,a,l,v=>match qF a l v with
  |some r=>nY n a r.1 r.2++[wD ((l.getLast?).getD .u).cF (kids a r.2) 0]
  |none=>[]
theorem wC:∀(n:Nat) (a:Ty) (l:List Vl) (v:Vl),(nY n a l v).length<=n
 |0,_,_,_=>by simp[nY]
 |
  n+1,a,l,v=>by
  unfold nY
  cases qF a l v with
  |none=>simp
  |some r=>have:=wC n a r.1 r.2;simp;omega
def Qp(p q:List Int)(i:Nat):Prop:=q.length=p.length/\∀k,k<p.length->q.getD k 0=if k<i\/p.length-1-k<i then p.getD (p.length-1-k) 0 else p.getD k 0
theorem vz{l:List Int}{i j:Nat}(x:Int)(hj:j<l.length):(l.set i x).getD j 0=if i=j then x else l.getD j 0:=by
 simp only[aa,List.getElem?_set]
 split
 ·rename_i e;subst e;simp[hj]
 ·rfl
theorem OL(p:List Int)(hp:p.length<=1000000):∀(m i:Nat) (q:List Int),p.length<=m+2*i->i<=p.length->Qp p q i->FV [.v (.int .i64 (i:Int)),.v (.int .i64 ((p.length:Int)-1-(i:Int)))] [.vec 1 (eG q)] (gI 1 [] [.vec 1 (eG p.reverse)])
 |
  m,i,q,hm,hi,hR=>by
  refine Qk _ _ _ ?_
  by_cases hlt:(i:Int)<(p.length:Int)-1-(i:Int)
  ·have e2:((p.length:Int)-1-(i:Int)).toNat=p.length-1-i:=by omega
   have h1:i<q.length:=by rw[hR.1];omega
   have h2:p.length-1-i<q.length:=by rw[hR.1];omega
   have g1:(eG q).getD i []=[.v (.int .i64 (q.getD i 0))]:=by simp[eG,aa,h1]
   have g2:(eG q).getD (p.length-1-i) []=[.v (.int .i64 (q.getD (p.length-1-i) 0))]:=by simp[eG,aa,h2]
   have s1:(eG q).set i [.v (.int .i64 (q.getD (p.length-1-i) 0))]=eG (q.set i (q.getD (p.length-1-i) 0)):=by simp[eG,List.map_set]
   have g3:(eG (q.set i (q.getD (p.length-1-i) 0))).getD (p.length-1-i) []=[.v (.int .i64 (q.getD (p.length-1-i) 0))]:=by
    have hne:i≠p.length-1-i:=by omega
    simp[eG,aa,List.getElem?_set,hne,h2]
   simp only[Hy,↓zq,zs,ae,ng,bG,e2,g1,g2,List.set_cons_zero,bq,s1,g3]
   have s2:(eG (q.set i (q.getD (p.length-1-i) 0))).set (p.length-1-i) [.v (.int .i64 (q.getD i 0))]=eG ((q.set i (q.getD (p.length-1-i) 0)).set (p.length-1-i) (q.getD i 0)):=by simp[eG,List.map_set]
   simp only[s2,List.length_set]
   have hl:=hR.1
   refine⟨fun _=>⟨⟨by omega,by omega⟩,⟨h2,by first|trivial|simp⟩,⟨by omega,by omega⟩,⟨h1,by first|trivial|simp⟩,⟨by omega,by omega⟩,⟨h1,by omega⟩,⟨by omega,by omega⟩,⟨h2,by omega⟩,?_⟩,fun h=>absurd hlt h⟩
   rw[bz i (by omega),wrap64 ((p.length:Int)-1-(i:Int)-1) (by omega) (by omega),show (p.length:Int)-1-(i:Int)-1=(p.length:Int)-1-((i+1:Nat):Int) by omega]
   match m,hm with
   |0,hm=>omega
   |
    m+1,hm =>
    refine OL p hp m (i+1) _ (by omega) (by omega) ⟨by simp[hl],fun k hk=>?_⟩
    rw[vz _ (by rw[List.length_set,hl];exact hk),vz _ (by rw[hl];exact hk)]
    have hi1:=hR.2 i (by omega)
    have hi2:=hR.2 (p.length-1-i) (by omega)
    have hi3:=hR.2 k hk
    rw[if_neg (by omega)]at hi1 hi2
    by_cases c1:p.length-1-i=k
    ·subst c1
     rw[if_pos rfl,if_pos (by omega),hi1]
     congr 1;omega
    ·rw[if_neg c1]
     by_cases c2:i=k
     ·subst c2
      rw[if_pos rfl,if_pos (by omega),hi2]
     ·rw[if_neg c2,hi3]
      by_cases c3:k<i\/p.length-1-k<i
      ·rw[if_pos c3,if_pos (by omega)]
      ·rw[if_neg c3,if_neg (by omega)]
  ·simp only[Hy,↓zq,zs,ae]
   refine⟨fun h=>absurd h hlt,fun _=>?_⟩
   have:q=p.reverse:=by
    apply List.ext_getElem
    ·rw[hR.1,List.length_reverse]
    ·intro k h1 h2
     have hk:k<p.length:=by rw[<-hR.1];exact h1
     have:=hR.2 k hk
     have e1:q.getD k 0=q[k]:=by simp[aa,h1]
     rw[e1]at this
     rw[this,List.getElem_reverse]
     have e2:p.getD (p.length-1-k) 0=p[p.length-1-k]:=by simp[aa,show p.length-1-k<p.length by omega]
     split
     ·exact e2
     ·rename_i hn
      have:k=p.length-1-k:=by omega
      rw[<-e2,<-this]
   rw[this];exact⟨rfl,rfl,rfl⟩
theorem S0(p:List Int)(hp:p.length<=1000000):an Tryz.prog 36 [.vec 0] [.vec 1 (eG p)] (df .any [.kI 1 (eG p.reverse)]):=by
 refine RH _ ?_
 unfold OP
 rw[ng,wrap64 ((p.length:Int)-1) (by omega) (by omega)]
 have hloop:=OL p hp p.length 0 p (by omega) (by omega) ⟨rfl,fun k hk=>by rw[if_neg (by omega)]⟩
 rw[show (p.length:Int)-1-((0:Nat):Int)=(p.length:Int)-1 by omega]at hloop
 refine cz hloop ?_
 simp only[↓zq,zs,ae,Ob.es,aO]
 exact⟨rfl,rfl⟩
end Go.Proofs.Trees
namespace Go.Proofs.Trees
open Go Go.VL Go.RowKit
theorem yE{a:Ty}:∀(n:Nat) (l:List Vl) (v:Vl),l.length=n->(iL n a l v).isSome=true->∀c l',l=l'++[c]->∃w,qF a l v=some (l',w)/\(iL l'.length a l' w).isSome=true
 |0,l,v,hl,_,c,l',h=>by rw[h]at hl;simp at hl
 |
  n+1,l,v,hl,hs,c,l',h=>by
  rw[iL]at hs
  cases q:qF a l v with
  |none=>rw[q]at hs;cases hs
  |
   some r =>
   obtain⟨l1,w⟩:=r
   rw[q]at hs
   have h2:l1=l':=by
    unfold qF at q
    rw[h,List.getLast?_concat]at q
    simp only at q
    split at q
    ·cases q;simp
    ·cases q
   subst h2
   have hn:l1.length=n:=by rw[h]at hl;simpa using hl
   exact⟨w,rfl,by rw[hn];exact hs⟩
theorem wy{d:Nm}:∀{l:List Vl},(∀c,c∈l->mn d c.cF 100=some c)->eC d (l.map (·.cF))=some l
 |[],_=>rfl
 |
  c::l,h=>by
  rw[bE,eC,h c ak,wy fun x hx=>h x (al _ hx)]
theorem C6{s d:Nm}{l:List Vl}{v:Vl}(hs:St s d (zA s) l v)(hd:cJ s=some d):ga s (l.map (·.cF)) v.cF=if(sG (zA s) l v).isSome=true then some (l,v)else none:=by
 obtain⟨x,A,B,D,z⟩:=hs.z
 have hlen:=hs.len
 have e1:mn s v.cF 100=some v:=by rw[z.cF hs.i.nG.hZ hs.i.nG.ty,if_pos hs.i.nG.nd]
 unfold ga
 rw[ua,hd]
 simp only[a7,z.l,e1,wy hs.each,cu,if_pos hlen,ct]
theorem v8(l:List Vl)(c:Vl):((l++[c]).getLast?).getD .u=c:=by rw[List.getLast?_concat];rfl
theorem yp{a:Ty}{l l':List Vl}{v w c:Vl}(n:Nat)(hu:qF a l v=some (l',w))(hc:l=l'++[c]):nY (n+1) a l v=nY n a l' w++[wD c.cF (kids a w) 0]:=by
 rw[nY,hu];simp only[hc,v8]
noncomputable def Bx (s:Nm) (p:List Nm) (f:Nm):Option (List Int):=(ga s p f).map fun r=>nY r.1.length (zA s) r.1 r.2
def S9(o:Option (List Int)):List Int:=o.getD []
theorem Ls(s d:Nm)(a:Ty):∀(n:Nat) (l:List Vl) (v:Vl) (out:List Int),l.length=n->St s d a l v->(iL n a l v).isSome=true->out.length+n<=1000 ->
 FQ [pC s a l v] [.vec 1 (eG out)] (gI 1 [] [.vec 1 (eG (out++(nY n a l v).reverse))])
 |
  0,l,v,out,hl,h,_,ho=>by
  have:l=[]:=bH hl
  subst this
  refine NC _ _ ?_
  simp only[Hi,pC,↓zq,zs,ae,gy,aG]
  refine⟨by omega,fun h=>by omega,fun _=>by simp[gI,nY]⟩
 |
  n+1,l,v,out,hl,h,hs,ho=>by
  have hne:l≠[]:=by rintro rfl;simp at hl
  have hlc:l=l.dropLast++[l.getLast hne]:=(List.dropLast_concat_getLast hne).symm
  obtain⟨w,hu,hs'⟩:=yE (n+1) l v hl hs _ _ hlc
  have hn:l.dropLast.length=n:=by rw[List.length_dropLast];omega
  rw[hn]at hs'
  refine NC _ _ ?_
  have hup:=G4 s a l v h.i h.len
  rw[hu]at hup
  have hix:=Q2 h hu hlc
  rw[yp n hu hlc]
  generalize l.dropLast=l' at *
  generalize l.getLast hne=c at *
  simp only[Hi,oZ]at hup |-
  simp only[pC,↓zq,zs,ae,gy,hl]at hup hix |-
  refine⟨by omega,fun _=>?_,fun h=>by omega⟩
  refine aj hup ?_
  simp only[↓zq,zs,ae]
  refine aj hix ?_
  simp only[↓zq,zs,ae,ng]
  refine⟨⟨fun x hx=>by simp at hx;rw[hx];rfl,by simp;omega⟩,?_⟩
  have e:eG out++[[.v (.int .i64 (wD c.cF (kids a w) 0))]]=eG (out++[wD c.cF (kids a w) 0]):=by simp[eG]
  rw[e,List.reverse_append,List.reverse_singleton,<-a8]
  exact Ls s d a n l' w _ hn (h.up hu) hs' (by simp;omega)
theorem RQ(s:Nm)(pa:AV)(p:List Nm)(hp:cy pa p)(f:Nm):an Tryz.prog 10 [.agg [.v (.string (mk s)),pa,.v (.string (mk f))]] [] (df (.cH [.vec 0,.v (.bool (Bx s p f).isSome)]) [.vec 1 (eG (S9 (Bx s p f)))]):=by
 refine Re _ _ _ hp.1 ?_
 unfold LD
 refine aj (Qa s pa p hp f) ?_
 simp only[↓zq,zs,ae,jZ]
 unfold Bx
 cases q:ga s p f with
 |
  none =>
  simp only[oZ,↓zq,zs,ae,Option.map_none]
  exact⟨fun _=>⟨rfl,rfl⟩,fun h=>(by cases h)⟩
 |
  some r =>
  obtain⟨l,v⟩:=r
  obtain⟨d,hs,_⟩:=py q
  have hlen:=hs.len
  have hcl:=(gb q).2
  have hloop:=Ls s d (zA s) l.length l v [] rfl hs hcl (by simp;omega)
  have hpl:=wC l.length (zA s) l v
  simp only[oZ,ct]
  have hn:(pC s (zA s) l v).isNil=false:=rfl
  simp only[hn]
  refine⟨fun h=>(by cases h),fun _=>?_⟩
  refine cz hloop ?_
  simp only[↓zq,zs,ae,Ob.es,aO,aU]
  refine aV (S0 (nY l.length (zA s) l v).reverse (by rw[List.length_reverse];omega)) ?_
  rw[List.reverse_reverse]
  simp only[↓zq,zs,ae,Ob.es,aO]
  exact⟨rfl,rfl⟩
end Go.Proofs.Trees
namespace Go.Proofs.Trees
open Go Go.VL Go.RowKit
def u3(l:List Hl):Prop:=(l.map (·.1)).Nodup
theorem qH:u3 []:=List.nodup_nil
theorem Di(h:Hl):u3 [h]:=by simp[u3]
theorem nj{g:Vl->Vl}(hg:∀x y,g x=g y->x=y){l:List Hl}(h:u3 l):u3 (iI g l):=by
 unfold u3 iI at *
 rw[List.map_map]
 have:((fun x:Hl=>x.1)∘fun h:Hl=>(g h.1,h.2))=g∘(fun x:Hl=>x.1):=rfl
 rw[this,<-List.map_map]
 exact List.Pairwise.map _ (fun a b hab e=>hab (hg _ _ e)) h
theorem uM{l r:List Hl}(hl:u3 l)(hr:u3 r)(h:∀x y,x∈l->y∈r->x.1≠y.1):u3 (l++r):=by
 unfold u3 at *
 rw[List.map_append,List.nodup_append]
 refine⟨hl,hr,?_⟩
 intro a ha b hb e
 obtain⟨x,hx,rfl⟩:=bO.1 ha
 obtain⟨y,hy,rfl⟩:=bO.1 hb
 exact h x y hx hy e
theorem wx{f:Hl->List Hl}:∀{l:List Hl},u3 l->(∀h,h∈l->u3 (f h))->(∀h k,h∈l->k∈l->h.1≠k.1->∀x y,x∈f h->y∈f k->x.1≠y.1)->u3 (l.flatMap f)
 |[],_,_,_=>qH
 |
  h::l,hn,hf,hd=>by
  rw[List.flatMap_cons]
  unfold u3 at hn
  rw[bE,List.nodup_cons]at hn
  refine uM (hf h ak) (wx (l:=l) hn.2 (fun k hk=>hf k (al _ hk)) fun a b ha hb=>hd a b (al _ ha) (al _ hb)) ?_
  intro x y hx hy
  obtain⟨k,hk,hy⟩:=List.mem_flatMap.1 hy
  refine hd h k ak (al _ hk) (fun e=>hn.1 ?_) x y hx hy
  rw[e];exact bO.2 ⟨k,hk,rfl⟩
theorem jx:∀(n:Nat) (t:Ty) (tg:Tg) (v:Vl),u3 (dC n t tg v)
 |0,t,tg,v=>qH
 |
  n+1,t,tg,v=>by
  unfold dC
  split
  ·exact Di _
  ·unfold iW
   split
   ·exact nj (fun x y e=>by cases e;rfl) (jx n _ _ _)
   ·exact nj (fun x y e=>by cases e;rfl) (jx n _ _ _)
   ·refine uM (nj (fun x y e=>by cases e;rfl) (jx n _ _ _)) (nj (fun x y e=>by cases e;rfl) (jx n _ _ _)) fun x y hx hy e=>?_
    obtain⟨k,_,rfl⟩:=cY hx
    obtain⟨k',_,rfl⟩:=cY hy
    cases e
   ·refine uM (nj (fun x y e=>by cases e;rfl) (jx n _ _ _)) (wx (jx n _ _ _) (fun h hh=>nj (fun x y e=>by cases e;rfl) (jx n _ _ _)) fun h k hh hk hne x y hx hy e=>?_) fun x y hx hy e=>?_
    ·obtain⟨a,_,rfl⟩:=cY hx
     obtain⟨b,_,rfl⟩:=cY hy
     injection e with e
     injection e with e
     injection e with e1 e2
     exact hne e1
    ·obtain⟨k,_,rfl⟩:=cY hx
     obtain⟨h,_,hy⟩:=List.mem_flatMap.1 hy
     obtain⟨b,_,rfl⟩:=cY hy
     cases e
   ·exact qH
end Go.Proofs.Trees
namespace Go.Proofs.Trees
open Go Go.VL Go.RowKit
theorem D8(a:Ty)(v:Vl):u3 (kids a v):=by
 cases v<;>first|exact jx _ _ _ _|exact qH
theorem BH:∀(l:List Hl) (i k:Nat) (q:Hl),u3 l->(∀h,h∈l->h.1.hZ 100)->l[k]?=some q->wD q.1.cF l i=((i+k:Nat):Int)
 |[],i,k,q,_,_,h=>by simp at h
 |
  h::l,i,0,q,hn,hb,hk=>by
  simp only[List.getElem?_cons_zero,Option.some.injEq]at hk
  subst hk
  simp[wD]
 |
  h::l,i,k+1,q,hn,hb,hk=>by
  rw[List.getElem?_cons_succ]at hk
  have hm:q∈l:=List.mem_of_getElem? hk
  unfold u3 at hn
  rw[bE,List.nodup_cons]at hn
  have hne:¬h.1.cF=q.1.cF:=fun e=>hn.1 (by
   have:=uW (hb h ak) (hb q (al _ hm)) e
   rw[this];exact bO.2 ⟨q,hm,rfl⟩)
  rw[wD,if_neg hne,BH l (i+1) k q hn.2 (fun x hx=>hb x (al _ hx)) hk]
  omega
end Go.Proofs.Trees
namespace Go.Proofs.Trees
open Go Go.VL Go.RowKit
def A4(x:Nm)(i:Nat)(tg tg':Tg):Prop:=(tg=.bd i/\tg'=.nm x)\/(∃s,s≠x/\tg=.nm s/\tg'=.nm s)\/∃j,j<i/\tg=.bd j/\tg'=.bd j
theorem A4.up{x:Nm}{i:Nat}{tg tg':Tg}(h:A4 x i tg tg'):A4 x (i+1) tg.up tg'.up:=by
 rcases h with⟨rfl,rfl⟩|⟨s,h,rfl,rfl⟩|⟨j,h,rfl,rfl⟩
 ·exact .inl ⟨rfl,rfl⟩
 ·exact .inr (.inl ⟨s,h,rfl,rfl⟩)
 ·exact .inr (.inr ⟨j+1,by omega,rfl,rfl⟩)
theorem Bk{x:Nm}{i:Nat}{tg tg':Tg}(h:A4 x i tg tg')(t:Ty)(hx:bn x t=false):eD (dy (.name x) t i) tg'=eD t tg:=by
 cases t with
 |
  bound k =>
  simp only[dy]
  rcases h with⟨rfl,rfl⟩|⟨s,h,rfl,rfl⟩|⟨j,h,rfl,rfl⟩
  ·split
   ·rename_i e;simp[eD,e]
   ·rename_i e;simp[eD,e]
  ·split
   ·simp[eD,Ne.symm h]
   ·simp[eD]
  ·split
   ·rename_i e;simp only[eD];exact(decide_eq_false (by omega)).symm
   ·simp[eD]
 |
  name n =>
  have hn:¬n=x:=by simpa[bn]using hx
  rcases h with⟨rfl,rfl⟩|⟨s,h,rfl,rfl⟩|⟨j,h,rfl,rfl⟩<;>simp[dy,eD,hn]
 |_=>rcases h with⟨rfl,rfl⟩|⟨s,h,rfl,rfl⟩|⟨j,h,rfl,rfl⟩<;>rfl
theorem fJ(x:Nm):∀(n:Nat) (t:Ty) (i:Nat) (tg tg':Tg) (v:Vl),bn x t=false->A4 x i tg tg'->dC n (dy (.name x) t i) tg' v=dC n t tg v
 |0,_,_,_,_,_,_,_=>rfl
 |
  n+1,t,i,tg,tg',v,hx,hr=>by
  rw[dC,dC,Bk hr t hx]
  split
  ·rfl
  ·cases t with
   |
    plus a b =>
    simp only[bn,cg]at hx
    cases v with
    |l w=>exact congrArg (iI .l) (fJ x n a i tg tg' w hx.1 hr)
    |r w=>exact congrArg (iI .r) (fJ x n b i tg tg' w hx.2 hr)
    |_=>rfl
   |
    times a b =>
    simp only[bn,cg]at hx
    cases v with
    |
     p y z =>
     simp only[dy,iW]
     rw[fJ x n a i tg tg' y hx.1 hr,fJ x n b i tg tg' z hx.2 hr]
    |_=>rfl
   |
    rc a =>
    cases v with
    |
     f w =>
     simp only[dy,iW]
     rw[fJ x n a (i+1) tg.up tg'.up w hx hr.up,fJ x n a (i+1) (.bd 0) (.bd 0) w hx (.inr (.inr ⟨0,by omega,rfl,rfl⟩))]
     congr 1
     refine iU fun h hh=>?_
     have:=fJ x n (.rc a) i tg tg' h.2 hx hr
     simp only[dy]at this
     rw[this]
    |_=>rfl
   |
    bound k =>
    simp only[dy]
    split<;>(cases v<;>rfl)
   |_=>rfl
theorem pO{g:Vl->Vl}{l:List Hl}{c v:Vl}(h:(c,v)∈l):(g c,v)∈iI g l:=bO.2 ⟨_,h,rfl⟩
theorem qt(n:Nat):∀(m:Nat) (c:Vl),c.nodes<=m->∀(t:Ty) (s:Nm) (d:Ty) (σ:Nm->Option Ty),Dv t s d->CO σ->jz t 0->vT n c (eS σ d)=true->∀(v:Vl) (k:Nat),(cW t c v).nodes<=k->(c,v)∈dC k t (.nm s) (cW t c v)
 |0,c,h=>by have:=du c;omega
 |
  m+1,c,hm=>by
  intro t s d σ hd hσ hl hv v k hk
  have no:∀c,vT n c .zero=false:=fun c=>by cases c<;>rfl
  obtain⟨k,rfl⟩:∃j,k=j+1:=⟨k-1,by have:=du (cW t c v);omega⟩
  cases hd with
  |zero=>rw[show eS σ .zero=.zero from rfl,no]at hv;cases hv
  |one=>rw[show eS σ .zero=.zero from rfl,no]at hv;cases hv
  |bound=>rw[show eS σ .zero=.zero from rfl,no]at hv;cases hv
  |qv=>rw[show eS σ .zero=.zero from rfl,no]at hv;cases hv
  |
   hit =>
   have hc:c=.u:=by
    have hv:vT n c .one=true:=hv
    cases c<;>first|rfl|simp[vT]at hv
   rw[kT,dC,if_pos (by simp[eD]),hc];exact ak
  |
   plus h1 h2 _ =>
   rcases ji hv with⟨w,rfl,hw⟩|⟨w,rfl,hw⟩
   ·simp only[Vl.nodes]at hm
    rename_i a b _ _
    simp only[cW,Vl.nodes]at hk
    have:=qt n m w (by omega) _ s _ σ h1 hσ hl.1 hw v k (by omega)
    exact pO (g:=.l) this
   ·simp only[Vl.nodes]at hm
    simp only[cW,Vl.nodes]at hk
    have:=qt n m w (by omega) _ s _ σ h2 hσ hl.2 hw v k (by omega)
    exact pO (g:=.r) this
  |
   times h1 h2 _ =>
   rcases ji hv with⟨w,rfl,hw⟩|⟨w,rfl,hw⟩
   ·obtain⟨x,y,rfl,hx,hy⟩:=gn hw
    simp only[Vl.nodes]at hm
    simp only[cW,Vl.nodes]at hk
    have:=qt n m x (by omega) _ s _ σ h1 hσ hl.1 hx v k (by omega)
    exact aD _ (pO (g:=fun c=>.l (.p c y)) this)
   ·obtain⟨x,y,rfl,hx,hy⟩:=gn hw
    simp only[Vl.nodes]at hm
    simp only[cW,Vl.nodes]at hk
    have:=qt n m y (by omega) _ s _ σ h2 hσ hl.2 hy v k (by omega)
    exact aB _ (pO (g:=fun c=>.r (.p x c)) this)
  |
   @rc a _ c0 d0 x hx hs h1 h2 hsz =>
   have lo:jz (dy (.name x) a 0) 0:=gG x a hl
   obtain⟨X,e1,e2⟩:=oK (x:=x) hσ hl (h1.lc lo) (h2.lc lo)
   have hv':=hv
   rw[e1]at hv'
   obtain⟨w,rfl,hw⟩:=AT hv'
   rw[e2]at hw
   have hcl:=lO hσ x (j9 hσ (.rc a) hl)
   rcases ji hw with⟨y,rfl,hy⟩|⟨y,rfl,hy⟩
   ·simp only[Vl.nodes]at hm
    simp only[cW,Vl.nodes]at hk
    have:=qt n m y (by omega) _ s _ _ h1 hcl lo hy v k (by rw[dM x y.nodes y a 0 v (au _)];omega)
    rw[dM x y.nodes y a 0 v (au _),fJ x k a 0 (.nm s) (.nm s) _ hx (.inr (.inl ⟨s,Ne.symm hs,rfl,rfl⟩))]at this
    exact aD _ (pO (g:=fun c=>.f (.l c)) this)
   ·obtain⟨y,z,rfl,hy,hz⟩:=gn hy
    simp only[Vl.nodes]at hm
    simp only[cW,Vl.nodes]at hk
    have q1:=qt n m y (by omega) _ x _ _ h2 hcl lo hy (cW (.rc a) z v) k (by rw[dM x y.nodes y a 0 _ (au _)];omega)
    rw[dM x y.nodes y a 0 _ (au _),fJ x k a 0 (.bd 0) (.nm x) _ hx (.inl ⟨rfl,rfl⟩)]at q1
    have hsz2:=(fj k a (.bd 0) _ _ q1).1
    have q2:=qt n m z (by omega) (.rc a) s _ σ (.rc x hx hs h1 h2 hsz) hσ hl hz v k (by simp only at hsz2;omega)
    exact aB _ (List.mem_flatMap.2 ⟨_,q1,pO (g:=fun c=>.f (.r (.p y c))) q2⟩)
theorem Hp{n:Nat}{a D:Ty}{x:Nm}(hx:bn x a=false)(hl:jz (.rc a) 0)(h:n9 a x=some D){c:Vl}(hc:vT n c D=true)(v:Vl):(c,v)∈kids a (.f (cW a c v)):=by
 simp only[n9,bh,cQ,eU]at h
 obtain⟨d,hd,_,rfl⟩:=h
 have lo:jz (dy (.name x) a 0) 0:=gG x a hl
 have hcl:=lO se x hl
 have e1:sub x (.rc a) d=eS (iT Eu x (.rc a)) d:=by
  have:=im Eu x (.rc a) d
  rw[i7,i7]at this;exact this
 rw[e1]at hc
 have h1:=qt n c.nodes c (au _) _ x _ _ hd hcl lo hc v (cW a c v).nodes (by rw[dM x c.nodes c a 0 v (au _)];omega)
 rw[dM x c.nodes c a 0 v (au _),fJ x _ a 0 (.bd 0) (.nm x) _ hx (.inl ⟨rfl,rfl⟩)]at h1
 exact h1
end Go.Proofs.Trees
namespace Go.Proofs.Trees
open Go Go.VL Go.RowKit
theorem ZT.hole{s d:Nm}{a:Ty}{x A B:E}{D:Ty}(z:ZT s d a x A B D){c:Nm}{w:Vl}(h:mn d c 100=some w)(v:Vl):(w,v)∈kids a (.f (cW a w v)):=by
 obtain⟨e,t,m,h1,h2,h3,h4,h5,h6,h7⟩:=oO h
 have hm:m=100:=by omega
 subst hm
 have:=uf h3
 rw[z.bk]at this;cases this
 rw[m8 h4]at h7
 obtain⟨e2,he2,hw2,hte2,_,_⟩:=nK z.y
 have hlc:jz (.rc a) 0:=hte2 ▸ hw2.qy.1
 exact Hp (uE z.y) hlc z.lp h7 v
end Go.Proofs.Trees
namespace Go.Proofs.Trees
open Go Go.VL Go.RowKit
theorem St.BF{s d:Nm}{a:Ty}{l l':List Vl}{v w c:Vl}(h:St s d a l v)(hu:qF a l v=some (l',w))(hc:l=l'++[c]):w=.f (cW a c v)/\∃k:Nat,(kids a w)[k]?=some (c,v)/\wD c.cF (kids a w) 0=(k:Int):=by
 obtain⟨x,A,B,D,z⟩:=h.z
 have h':=h.up hu
 obtain⟨_,_,c',hc',hw⟩:=rQ h.i hu
 have e:c=c':=by rw[hc]at hc';exact List.singleton_inj.1 (List.append_cancel_left hc')
 subst e
 have hm:(c,v)∈kids a w:=by rw[hw];exact z.hole (h.each c (by rw[hc];simp)) v
 obtain⟨k,hk⟩:=List.getElem?_of_mem hm
 refine⟨hw,k,hk,?_⟩
 have:=BH (kids a w) 0 k _ (D8 a w) (fun x hx=>(kO h'.i.nG.hZ hx).1) hk
 simpa using this
theorem St.Ti{s d:Nm}{a:Ty}{l:List Vl}{v w c:Vl}(h:St s d a l v){k:Hl}(hk:k∈kids a v)(hv:mn d k.1.cF 100=some k.1):k.1.nodes<=200:=by
 obtain⟨x,A,B,D,z⟩:=h.z
 obtain⟨t1,_,_⟩:=z.Sj h.i.nG hk
 rw[z.S3 (kO h.i.nG.hZ hk).1 t1]at hv
 split at hv
 ·assumption
 ·cases hv
theorem St.back{s d:Nm}{a:Ty}{l l':List Vl}{v w c:Vl}(h:St s d a l v)(hu:qF a l v=some (l',w))(hc:l=l'++[c]):u7 a l' w (wD c.cF (kids a w) 0)=some (l,v):=by
 obtain⟨_,k,hk,e⟩:=h.BF hu hc
 have hlen:=h.len
 have hm:=List.mem_of_getElem? hk
 have hn:c.nodes<=200:=(h.up hu).Ti (w:=v) (c:=v) hm (h.each c (by rw[hc];simp))
 have hlt:k<(kids a w).length:=(List.getElem?_eq_some_iff.1 hk).1
 have hg:(kids a w).getD k (.u,.u)=(c,v):=by rw[aa,hk];rfl
 rw[e];unfold u7
 rw[if_neg (by rw[hc]at hlen;simp at hlen;omega),if_pos ⟨by omega,by simpa using hlt⟩,bG,hg,if_pos hn,hc]
theorem Dc(a:Ty)(p:List Int)(k:Int)(o:ZO):DV a (p++[k]) o=(DV a p o).bind fun r=>u7 a r.1 r.2 k:=by unfold DV;rw[List.foldl_append];rfl
theorem Ca{s d:Nm}{a:Ty}:∀(n:Nat) (l:List Vl) (v w:Vl),l.length=n->St s d a l v->iL n a l v=some w->DV a (nY n a l v) (some ([],w))=some (l,v)/\St s d a [] w/\(nY n a l v).length=n/\∀k,k∈nY n a l v->0<=k
 |
  0,l,v,w,hl,h,hc=>by
  have:l=[]:=bH hl
  subst this
  rw[iL]at hc;cases hc
  exact⟨rfl,h,rfl,fun k hk=>by cases hk⟩
 |
  n+1,l,v,w,hl,h,hc=>by
  have hne:l≠[]:=by rintro rfl;simp at hl
  have hlc:l=l.dropLast++[l.getLast hne]:=(List.dropLast_concat_getLast hne).symm
  obtain⟨w1,hu,_⟩:=yE (n+1) l v hl (by rw[hc];rfl) _ _ hlc
  have hn:l.dropLast.length=n:=by rw[List.length_dropLast];omega
  rw[iL,hu]at hc
  obtain⟨g1,g2,g3,g4⟩:=Ca n l.dropLast w1 w hn (h.up hu) hc
  rw[yp n hu hlc]
  obtain⟨_,k,_,ek⟩:=h.BF hu hlc
  refine⟨?_,g2,by simp[g3],fun x hx=>?_⟩
  ·rw[Dc,g1];exact h.back hu hlc
  ·rcases aN.1 hx with hx|hx
   ·exact g4 x hx
   ·simp only[aQ]at hx;rw[hx,ek];omega
theorem zZ{s:Nm}{p:List Nm}{f:Nm}{r:List Vl×Vl}(h:ga s p f=some r):∃d,cJ s=some d/\St s d (zA s) r.1 r.2/\p=r.1.map (·.cF)/\f=r.2.cF/\∃w,sG (zA s) r.1 r.2=some w:=by
 obtain⟨h1,h2⟩:=gb (l:=r.1) (v:=r.2) h
 obtain⟨d,hd,hs,hp,hf⟩:=uB h1
 obtain⟨w,hw⟩:=bU.1 h2
 exact⟨d,hd,hs,hp,hf,w,hw⟩
theorem FL{s:Nm}{p:List Nm}{f:Nm}{r:List Vl×Vl}(h:ga s p f=some r):∃w pl,uF s p f=some w/\Bx s p f=some pl/\Pk s w pl=some r/\(mn s w 100).isSome=true/\pl.length=p.length/\(∀k,k∈pl->0<=k)/\p=r.1.map (·.cF)/\f=r.2.cF/\p.length<=50:=by
 obtain⟨d,hd,hs,hp,hf,w,hw⟩:=zZ h
 obtain⟨g1,g2,g3,g4⟩:=Ca r.1.length r.1 r.2 w rfl hs hw
 obtain⟨x,A,B,D,z⟩:=g2.z
 have e1:mn s w.cF 100=some w:=by rw[z.cF g2.i.nG.hZ g2.i.nG.ty,if_pos g2.i.nG.nd]
 have e2:sE s [] w.cF=some ([],w):=by
  rw[<-wt]
  have:=C6 g2 hd
  rw[show sG (zA s) [] w=some w from rfl]at this
  exact this
 refine⟨w.cF,nY r.1.length (zA s) r.1 r.2,?_,?_,?_,by rw[e1];rfl,by rw[g3,hp];simp,g4,hp,hf,by rw[hp];simpa using hs.len⟩
 ·unfold uF;rw[h];simp[hw]
 ·unfold Bx;rw[h];rfl
 ·unfold Pk;rw[e2];exact g1
end Go.Proofs.Trees
namespace Go.Proofs.Trees
open Go Go.VL Go.RowKit
theorem KP(a b:AV)(l:List (List UInt8))(ha:cy a l)(hb:cy b l)(hl:l.length<=2000000):∀(m i:Nat),i+m=l.length->Gg [a,b,.v (.int .i64 (i:Int))] [] (gI 1 [] [])
 |
  0,i,hi=>by
  refine Jh _ _ _ ?_
  simp only[Ha,↓zq,zs,ae,ha.len]
  exact⟨ha.1,hb.1,ha.1,fun h=>by omega,fun _=>⟨rfl,rfl,rfl⟩⟩
 |
  m+1,i,hi=>by
  have hlt:i<l.length:=by omega
  refine Jh _ _ _ ?_
  simp only[Ha,↓zq,zs,ae,zt,ha.len,hb.len,ha.idx hlt,hb.idx hlt,bG]
  refine⟨ha.1,hb.1,ha.1,fun _=>⟨⟨ha.1,by omega,by omega⟩,by omega,⟨hb.1,by omega,by omega⟩,by omega,fun h=>by simp at h,fun _=>?_⟩,fun h=>by omega⟩
  rw[bz i (by omega)]
  exact KP a b l ha hb hl m (i+1) (by omega)
theorem QU(a b:AV)(l:List (List UInt8))(ha:cy a l)(hb:cy b l)(hl:l.length<=2000000):an Tryz.prog 42 [a,b] [] (bK (.v (.bool true))):=by
 refine SP _ _ ha.1 hb.1 ?_
 simp only[Ot,↓zq,zs,ae,ha.len,hb.len]
 refine⟨ha.1,hb.1,fun h=>by simp at h,fun _=>?_⟩
 refine cz (KP a b l ha hb hl l.length 0 (by omega)) ?_
 simp[bK,↓zq,zs,ae]
theorem Qc(s f:(List UInt8))(x y:AV)(l:List (List UInt8))(hx:cy x l)(hy:cy y l)(hl:l.length<=2000000):an Tryz.prog 16 [.agg [.v (.string (mk s)),x,.v (.string (mk f))],.agg [.v (.string (mk s)),y,.v (.string (mk f))]] [] (bK (.v (.bool true))):=by
 refine RF _ _ _ _ _ _ hx.1 hy.1 ?_
 simp only[Mb,↓zq,zs,ae,zt,bK]
 refine⟨fun _=>⟨fun _=>?_,fun h=>absurd rfl h⟩,fun h=>absurd rfl h⟩
 refine aj (QU x y l hx hy hl) ?_
 simp only[↓zq,zs,ae,zt]
end Go.Proofs.Trees
namespace Go.Proofs.Trees
open Go Go.VL Go.RowKit
theorem RG(a:AV)(ha:yX a):an Tryz.prog 6 [a] [] (bK (.v (.bool true))):=by
 refine P1 _ ha.1 ?_
 simp only[M9,↓zq,zs,ae,zt,bK]
 refine⟨ha.1,fun _=>trivial,fun _=>?_⟩
 refine aP (QH a ha) Pj.ne ?_
 rintro r o ⟨rfl,s,p,f,hp,rfl⟩
 simp only[↓zq,zs,ae,zt,bI]
 refine aj (Q4 s _ p (cy.of p) f) ?_
 simp only[↓zq,zs,ae,zt]
 refine aj (O9 s _ p (cy.of p) f) ?_
 simp only[↓zq,zs,ae,zt]
 cases hr:ga s p f with
 |none=>simp
 |
  some r =>
  obtain⟨w,pl,e1,e2,e3,e4,e5,e6,e7,e8,e9⟩:=FL hr
  have W1:=PY s (.sl (bN p)) p (cy.of p) f
  have W2:=RQ s (.sl (bN p)) p (cy.of p) f
  have W3:=PI s w (.sl (eG pl)) pl ⟨(cf _).mpr trivial,fk _⟩ (by omega)
  rw[e1]at W1
  rw[e2]at W2
  rw[e3]at W3
  refine⟨fun h=>absurd rfl h,fun _=>⟨fun h=>by simp at h,fun _=>aj W1 ?_⟩⟩
  simp only[rB,↓zq,zs,ae,zt]
  refine aV W2 ?_
  simp only[↓zq,zs,ae,zt,Ob.es,aO,S9,cD,aZ]
  refine⟨wz _,aV W3 ?_⟩
  simp only[↓zq,zs,ae,zt,aK,Ob.es,aO,aZ]
  refine⟨eB _,fun _=>⟨fun _=>⟨fun _=>?_,fun h=>absurd h (by simp)⟩,fun h=>absurd h (by simp)⟩,fun h=>absurd h (by simp)⟩
  rw[e7,e8]
  refine aj (Qc s r.2.cF _ _ (r.1.map (·.cF)) (cy.of _) (cy.of _) (by rw[e7]at hp;omega)) ?_
  simp only[↓zq,zs,ae]
end Go.Proofs.Trees
