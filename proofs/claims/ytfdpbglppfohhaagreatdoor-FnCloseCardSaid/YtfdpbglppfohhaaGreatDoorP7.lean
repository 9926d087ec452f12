/-
  Part of a proof: Go functions read by values, trees of functions, their contracts.
-/
import Derived.Test.YtfdpbglppfohhaaGreatDoorP6
set_option linter.unusedVariables false
set_option linter.unusedSimpArgs false
open Bool renaming eq_iff_iff→cw,or_eq_false_iff→cj
open Int renaming toNat_natCast→bN
open List renaming append_assoc→bb,drop_eq_getElem_cons→aU,drop_zero→be,eq_nil_of_length_eq_zero→bG,getD_cons_zero→bq,getD_eq_getElem?_getD→aa,getElem?_eq_getElem→bp,getElem_mem→bD,headD_cons→aQ,length_map→cr,length_nil→aH,map_cons→bE,mem_append→aO,mem_append_left→aD,mem_append_right→aB,mem_cons_of_mem→al,mem_cons_self→ak,mem_map→bO,mem_singleton→aS,nil_append→aW,tail_cons→bz
open Nat renaming le_refl→au
open Option renaming bind_eq_some_iff→bi,bind_none→bH,bind_some→a7,getD_some→cz,isSome_iff_exists→bL,isSome_none→bu,isSome_some→aZ,map_some→ci
namespace Go.Proofs.Trees
open Go Go.VL Go.RowKit
def lO(l:List Hl):List (List AV):=l.map fun h=>[.v (.string (mk h.1.cE)),.v (.string (mk h.2.cE))]
theorem lF(l:List Hl):(lO l).length=l.length:=by simp[lO]
theorem Kp(l:List Hl)(hl:l.length<=1000)(h1:∀h,h∈l->h.1.cE.length<=900000)(h2:∀h,h∈l->h.2.cE.length<=900000):∀(k i:Nat) (out:List Hl),i+k=l.length->out.length<=i ->
 Is [.sl (mg l),.v (.int .i64 (i:Int))] [.vec 2 (lO out)] (gV 1 [] [.vec 2 (lO (out++l.drop i))])
 |
  0,i,out,hi,ho=>by
  refine I8 _ _ _ ?_
  have:i=l.length:=by omega
  subst this
  simp only[HJ,↓zq,zs,ac,fC,List.drop_length]
  exact⟨fun h=>by omega,fun _=>by simp[gV]⟩
 |
  k+1,i,out,hi,ho=>by
  have hlt:i<l.length:=by omega
  have hm:=bD hlt
  have t1:=C0 (l[i]).1.cL (mW _) (h1 _ hm)
  have t2:=C0 (l[i]).2.cL (mW _) (h2 _ hm)
  rw[dj]at t1 t2
  refine I8 _ _ _ ?_
  simp only[HJ,↓zq,zs,ac,zt,fC,gL hlt,bF,aY]
  refine⟨fun _=>?_,fun h=>by omega⟩
  repeat refine⟨by omega,?_⟩
  refine aj t1 ?_
  simp only[↓zq,zs,ac,zt]
  repeat refine⟨by omega,?_⟩
  refine aj t2 ?_
  simp only[↓zq,zs,ac,zt,lF]
  refine⟨⟨fun c hc=>by simp at hc;rw[hc];rfl,by omega⟩,?_⟩
  rw[bA i (by omega),aU hlt]
  have:=Kp l hl h1 h2 k (i+1) (out++[l[i]]) (by omega) (by simp;omega)
  rw[bb]at this
  simpa[lO]using this
theorem Rb(l:List Hl)(hl:l.length<=1000)(h1:∀h,h∈l->h.1.cE.length<=900000)(h2:∀h,h∈l->h.2.cE.length<=900000):an Tryz.prog 91 [.sl (mg l)] [] (bK (.sl (lO l))):=by
 refine Sr _ ((cg _).mpr trivial) ?_
 unfold OB
 refine cx (Kp l hl h1 h2 l.length 0 [] (by omega) (by simp)) ?_
 simp only[↓zq,zs,ac]
 exact⟨rfl,rfl⟩
theorem ri{a:Ty}{v:Vl}(h:Fo a v){k:Hl}(hk:k∈kids a v):k.1.cE.length<=900000/\k.2.cE.length<=900000:=by
 obtain⟨b1,b2⟩:=lr h.ic hk
 have h1:=jp _ b1
 have h2:=jp _ b2
 have h3:=yK hk
 have h4:=h.nd
 have h5:k.1.nodes<=4*v.nodes:=by
  cases v with
  |f w=>have:=(iE hk).2;simp only[Vl.nodes];omega
  |_=>cases hk
 omega
theorem Om{s d:Nm}{a:Ty}{x A B:E}{D:Ty}(z:ZT s d a x A B D)(v:Vl)(hv:Fo a v):an Tryz.prog 69 [.v (.string (mk s)),.v (.string (mk v.cE))] [] (bK (.cD [.sl (lO (kids a v)),.v (.bool true)])):=by
 have hv2:mf s v.cE 100=some v:=by rw[z.cE hv.ic hv.ty,if_pos hv.nd]
 have hP:=P3.of x A B
 have hn:=hv.nd
 obtain⟨v0,hv0,_⟩:=ux .nil z.hx (hv.ff z)
 have hkids:=Ps 100 v x A B a z.body z.hx v0 hv0 (hv.ff z) (by omega)
 have hV:=P2.of (.atom [102]) v0.cL
 refine Re _ _ ?_
 unfold Jf
 refine aR (F4 s) (jN.ne _ _ (fun h=>h)) ?_
 rintro r o ⟨c,e,he,rfl,hh⟩
 rw[z.le]at hh
 obtain⟨e',he',hce⟩:=hh rfl
 cases he'
 rw[dj]at hce
 rw[hce,z.le]
 simp only[↓zq,zs,ac,zt,aM,bM]
 repeat refine⟨by omega,?_⟩
 refine aR (Ds v.cE) (jN.ne _ _ (fun h=>by simpa using h)) ?_
 rw[qX hv.ic hn]
 rintro r o ⟨c,e,he,rfl,hh⟩
 obtain⟨e',he',hce⟩:=hh rfl
 cases he'
 rw[dj]at hce
 rw[hce]
 simp only[↓zq,zs,ac,zt,aM,aZ]
 repeat refine⟨by omega,?_⟩
 refine⟨fun h=>by simp at h,fun _=>?_⟩
 refine aj (z6 s v.cE 100) ?_
 rw[hv2,hv0]
 simp only[toNat_one,bh,Vl.cL,bM,↓zq,zs,ac,zt,hP.1,hP.2.1,hP.2.2.1,hP.2.2.2,hV.1,hV.2.1,hV.2.2,aM,aY,aZ]
 refine⟨fun h=>by simp at h,fun _=>?_⟩
 repeat refine⟨by omega,?_⟩
 refine aj hkids ?_
 simp only[↓zq,zs,ac]
 repeat refine⟨by omega,?_⟩
 have hlen:=ng a v
 have:=kV (kids a v)
 refine aj (Rb (kids a v) (by omega) (fun h hh=>(ri hv hh).1) (fun h hh=>(ri hv hh).2)) ?_
 rw[<-hv0]
 simp only[↓zq,zs,ac]
 exact⟨rfl,rfl⟩
theorem QH(s:Nm)(pa:AV)(p:List Nm)(hp:cH pa p)(f:Nm):an Tryz.prog 34 [.agg [.v (.string (mk s)),pa,.v (.string (mk f))]] [] (bK (.v (.int .i64 (qd s p f)))):=by
 refine Sx _ _ _ hp.1 ?_
 unfold Nl
 refine aj (CS s pa p hp f) ?_
 simp only[↓zq,zs,ac]
 unfold qd
 cases q:gm s p f with
 |none=>simp only[bu];exact⟨fun _=>⟨rfl,rfl⟩,fun h=>by simp at h⟩
 |
  some r =>
  obtain⟨l,v⟩:=r
  obtain⟨d,hs,rfl,rfl⟩:=nv q
  obtain⟨x,A,B,D,z⟩:=hs.z
  simp only[aZ]
  refine⟨fun h=>by simp at h,fun _=>?_⟩
  refine aj (Om z v hs.i.nH) ?_
  simp only[↓zq,zs,ac,lF]
  exact⟨rfl,rfl⟩
end Go.Proofs.Trees
namespace Go.Proofs.Trees
open Go Go.VL Go.RowKit
theorem vz{a:Ty}{l l':List Vl}{v w:Vl}{k:Int}(h:uZ a l v k=some (l',w)):∃q,q∈kids a v/\l'=l++[q.1]/\w=q.2/\q.1.nodes<=200/\l.length≠50/\0<=k/\(kids a v)[k.toNat]?=some q:=by
 unfold uZ at h
 split at h
 ·cases h
 ·rename_i h0
  split at h
  ·rename_i h1
   split at h
   ·rename_i h2
    cases h
    have e:(kids a v).getD k.toNat (.u,.u)=(kids a v)[k.toNat]'h1.2:=by simp[aa,h1.2]
    rw[e]at h2 |-
    exact⟨_,bD _,rfl,rfl,h2,h0,h1.1,by simp[h1.2]⟩
   ·cases h
  ·cases h
theorem St.dn{s d:Nm}{a:Ty}{l l':List Vl}{v w:Vl}{k:Int}(h:St s d a l v)(hu:uZ a l v k=some (l',w)):St s d a l' w/\qE a l' w=some (l,v)/\l'.length=l.length+1:=by
 obtain⟨q,hq,rfl,rfl,hn,h50,_,_⟩:=vz hu
 obtain⟨x,A,B,D,z⟩:=h.z
 obtain⟨t1,t2,t3⟩:=z.PA h.i.nH hq
 have hv:mf d q.1.cE 100=some q.1:=by rw[z.So (lr h.i.nH.ic hq).1 t1,if_pos hn]
 have hlen:=h.len
 refine⟨⟨⟨x,A,B,D,z⟩,⟨fun c hc=>?_,t2⟩,fun c hc=>?_,by simp;omega⟩,(vM t3 h.i.nH.nd).1,by simp⟩
 ·rcases aO.1 hc with hc|hc
  ·exact h.i.CI c hc
  ·simp only[aS]at hc;subst hc;exact z.CI hv
 ·rcases aO.1 hc with hc|hc
  ·exact h.each c hc
  ·simp only[aS]at hc;subst hc;exact hv
theorem Sb{s d:Nm}{a:Ty}{l:List Vl}{v:Vl}(h:St s d a l v)(k:Int):an Tryz.prog 59 [pE s a l v,.v (.int .i64 k)] [] (bK (oZ s a (uZ a l v k))):=by
 obtain⟨x,A,B,D,z⟩:=h.z
 have hnd:=h.i.nH.nd
 have hlen:=h.len
 refine NF _ _ ((cb _).mpr trivial) ?_
 simp only[FZ,pE,↓zq,zs,ac,gH,aN,aF]
 refine⟨fun h=>(by cases h),fun _=>?_⟩
 repeat refine⟨by first|trivial|omega,?_⟩
 unfold uZ
 refine⟨fun h5=>?_,fun h5=>?_⟩
 ·rw[if_pos (by omega)];exact⟨rfl,rfl⟩
 ·rw[if_neg (by omega)]
  repeat refine⟨by first|trivial|omega,?_⟩
  refine aj (LO 100 v x A B a z.body z.hx (h.i.nH.ff z) (by omega)) ?_
  have hkl:(gP (kids a v)).length=(kids a v).length:=by simp[gP]
  simp only[↓zq,zs,ac,hkl]
  refine⟨fun h0=>?_,fun h0=>⟨fun h1=>?_,fun h1=>?_⟩⟩
  ·rw[if_neg (by omega)];exact⟨rfl,rfl⟩
  ·rw[if_neg (by omega)];exact⟨rfl,rfl⟩
  ·have hlt:k.toNat<(kids a v).length:=by omega
   rw[if_pos ⟨by omega,hlt⟩]
   have hg:(gP (kids a v)).getD k.toNat []=[((kids a v)[k.toNat]).1.cA,((kids a v)[k.toNat]).2.cA]:=by simp[gP,aa,hlt]
   have hg2:(kids a v).getD k.toNat (.u,.u)=(kids a v)[k.toNat]:=by simp[aa,hlt]
   have hm:=bD hlt
   rw[hg2]
   have hctx:((kids a v)[k.toNat]).1.nodes<=4*v.nodes:=by
    cases v with
    |f w=>have:=(iE hm).2;simp only[Vl.nodes];omega
    |_=>simp[kids]at hlt
   generalize (kids a v)[k.toNat]=q at *
   simp only[hg,↓zq,zs,ac,aN]
   repeat refine⟨by first|trivial|omega,?_⟩
   refine aj (EC q.1 (by omega)) ?_
   simp only[↓zq,zs,ac,aN,aF,zt]
   refine⟨fun hb=>?_,fun hb=>?_⟩
   ·rw[if_neg (by omega)];exact⟨rfl,rfl⟩
   ·rw[if_pos (by omega)]
    repeat refine⟨by first|trivial|omega,?_⟩
    refine⟨⟨fun c hc=>?_,by simp[u5];omega⟩,?_⟩
    ·simp only[u5,bO]at hc
     obtain⟨y,_,rfl⟩:=hc;rfl
    repeat refine⟨by first|trivial|omega,?_⟩
    refine⟨⟨fun c hc=>by simp at hc;rw[hc];rfl,by simp[u5];omega⟩,?_⟩
    repeat refine⟨by first|trivial|omega,?_⟩
    refine⟨?_,rfl⟩
    simp only[oZ,pE,aW,zc]
theorem RS(s:Nm)(a:Ty)(o:Option (List Vl×Vl))(ho:∀r,o=some r->∃d,St s d a r.1 r.2)(k:Int):an Tryz.prog 59 [oZ s a o,.v (.int .i64 k)] [] (bK (oZ s a (o.bind fun r=>uZ a r.1 r.2 k))):=by
 cases o with
 |
  none =>
  refine NF _ _ ((iH).mpr trivial) ?_
  simp only[FZ,oZ,↓zq,zs,ac,bH]
  exact⟨fun _=>⟨rfl,rfl⟩,fun h=>(by cases h)⟩
 |
  some r =>
  obtain⟨d,h⟩:=ho r rfl
  exact Sb h k
noncomputable def AA (s:Nm) (p:List Nm) (f:Nm) (k:Int):Option (List Vl×Vl):=(gm s p f).bind fun r=>uZ (zA s) r.1 r.2 k
theorem St.gz{s d:Nm}{a:Ty}{l:List Vl}{v:Vl}(h:St s d a l v):GZ (some (l,v)):=h.i.gz (by have:=h.len;omega)
theorem BE(s:Nm)(p:List Nm)(f:Nm)(k:Int):GZ (AA s p f k):=fun r hr=>by
 obtain⟨q,h1,h2⟩:=bi.1 hr
 obtain⟨d,hs,_⟩:=nv (l:=q.1) (v:=q.2) h1
 exact(hs.dn (l':=r.1) (w:=r.2) h2).1.gz r rfl
theorem wJ{l:List Hl}{i:Nat}(h:i<l.length):(lO l).getD i []=[.v (.string (mk (l[i]).1.cE)),.v (.string (mk (l[i]).2.cE))]:=by simp[lO,aa,h]
theorem tW{s:Nm}{p:List Nm}{f:Nm}{r:List Vl×Vl}(h:sE s p f=some r):∃d,cI s=some d/\St s d (zA s) r.1 r.2/\p=r.1.map (·.cE)/\f=r.2.cE:=by
 obtain⟨d,a,x,A,B,D,z,hz,hp,hf,hl,hza,_,hr⟩:=mS (l:=r.1) (v:=r.2) h
 rw[hza]
 exact⟨d,z.dl,⟨⟨x,A,B,D,z⟩,hz,nS hr hp,by rw[hp]at hl;simpa using hl⟩,hp,hf⟩
theorem EI{s d:Nm}{l:List Vl}{v:Vl}(hs:St s d (zA s) l v)(hd:cI s=some d)(hv:gm s (l.map (·.cE)) v.cE=some (l,v)){k:Int}(h0:0<=k)(hk:k.toNat<(kids (zA s) v).length) :
 gm s (l.map (·.cE)++[((kids (zA s) v)[k.toNat]).1.cE]) ((kids (zA s) v)[k.toNat]).2.cE=uZ (zA s) l v k:=by
 rw[Ar hs hd hv (bD hk)]
 unfold uZ
 by_cases h5:l.length=50
 ·rw[if_pos h5,if_pos h5]
 ·rw[if_neg h5,if_neg h5,if_pos (show 0<=k/\k.toNat<(kids (zA s) v).length from ⟨h0,hk⟩)]
  have hg2:(kids (zA s) v).getD k.toNat (.u,.u)=(kids (zA s) v)[k.toNat]:=by simp[aa,hk]
  rw[hg2]
theorem PS(s:Nm)(pa:AV)(p:List Nm)(hp:cH pa p)(f:Nm)(k:Int):an Tryz.prog 57 [.agg [.v (.string (mk s)),pa,.v (.string (mk f))],.v (.int .i64 k)] [] (E6 s (AA s p f k)):=by
 refine Sp _ _ _ _ hp.1 ?_
 unfold Lg
 refine aj (CS s pa p hp f) ?_
 simp only[↓zq,zs,ac]
 unfold AA
 cases q:gm s p f with
 |none=>simp only[bu];exact⟨fun _=>⟨rfl,rfl⟩,fun h=>by simp at h⟩
 |
  some r =>
  obtain⟨l,v⟩:=r
  obtain⟨d,hd,hs,rfl,rfl⟩:=tW (fR q).1
  obtain⟨x,A,B,D,z⟩:=hs.z
  have hlen:l.length<=50:=hs.len
  have hnd:v.nodes<=200:=hs.i.nH.nd
  have hks:=ng (zA s) v
  have hks2:=kV (kids (zA s) v)
  simp only[aZ,a7]
  refine⟨fun h=>by simp at h,fun _=>?_⟩
  refine aj (Om z v hs.i.nH) ?_
  simp only[↓zq,zs,ac,lF]
  rw[wrap64 (((kids (zA s) v).length:Int)-1) (by omega) (by omega)]
  refine aj (AN k 0 _) ?_
  rw[show CM k 0 (((kids (zA s) v).length:Int)-1)=decide (0<=k/\k<=((kids (zA s) v).length:Int)-1) by rw[cw];simp[CM]]
  simp only[↓zq,zs,ac,lF]
  by_cases hin:0<=k/\k<=((kids (zA s) v).length:Int)-1
  ·have hlt:k.toNat<(kids (zA s) v).length:=by omega
   refine⟨fun h=>(by exfalso;first|omega|(simp at h;omega)),fun _=>?_⟩
   simp only[wJ hlt,↓zq,zs,ac,zt]
   repeat refine⟨by first|trivial|omega,?_⟩
   refine aX (wD _ pa hp _ (by simp;omega)) ?_
   simp only[↓zq,zs,ac,zt,Ob.es,aQ]
   refine⟨eF _,?_⟩
   repeat refine⟨by first|trivial|omega,?_⟩
   have hdn:=KA s (l.map (·.cE)++[((kids (zA s) v)[k.toNat]).1.cE]) ((kids (zA s) v)[k.toNat]).2.cE
   rw[EI hs hd q hin.1 hlt]at hdn
   refine aX hdn ?_
   simp only[↓zq,zs,ac,zt,aL,Ob.es,aQ,bz]
   exact⟨rfl,rfl⟩
  ·refine⟨fun _=>?_,fun h=>(by exfalso;first|omega|(simp at h;omega))⟩
   have:uZ (zA s) l v k=none:=by
    unfold uZ
    by_cases h5:l.length=50
    ·rw[if_pos h5]
    ·rw[if_neg h5,if_neg (by omega)]
   rw[this]
   exact⟨rfl,rfl⟩
end Go.Proofs.Trees
namespace Go.Proofs.Trees
open Go Go.VL Go.RowKit
def dZ(b:AV)(q:Nat)(s:Nm)(p:List Nm)(f:Nm):List Ob:=[.cells [b,.v (.int .i64 (q:Int))],Mq,.cells [.v (.string (mk s)),.any,.v (.string (mk f))],.vec 1 (bP p)]
def Tk(b:AV)(q c:Nat):Nat->List AV->List Ob->Prop:=fun k ys ob=>k=1/\ys=[]/\∃(q':Nat) (s:Nm) (p:List Nm) (f:Nm),q<=q'/\q'<=q+c/\p.length<=51/\ob=dZ b q' s p f
theorem A1(s:Nm)(p:List Nm)(f:Nm):-1<=qd s p f/\qd s p f<=1000:=by
 unfold qd
 cases q:gm s p f with
 |none=>simp
 |
  some r =>
  obtain⟨d,hs,_⟩:=nv (l:=r.1) (v:=r.2) q
  have h1:=ng (zA s) r.2
  have h2:=kV (kids (zA s) r.2)
  have h3:=hs.i.nH.nd
  simp only
  omega
theorem GA(b:AV)(l:List UInt8)(hb:su b l)(q0 C:Nat)(hC:q0+C<1000000000000):∀(k:Nat) (ok:Bool) (i n q:Nat) (s:Nm) (p:List Nm) (f:Nm),i+k=n->n<=100->q0<=q->q+k<=q0+C->p.length<=51 ->
 Gj [.v (.bool ok),.v (.int .i64 (n:Int)),.v (.int .i64 (i:Int))] (dZ b q s p f) (Tk b q0 C)
 |
  0,ok,i,n,q,s,p,f,hi,hn,hq0,hq,hp=>by
  refine Jd _ _ _ _ _ _ _ _ _ _ _ ?_
  have:i=n:=by omega
  subst this
  simp only[Iu,↓zq,zs,ac,zt,ac,bg,hb.has]
  refine⟨fun h=>by omega,fun _=>⟨rfl,rfl,q,s,p,f,by omega,by omega,hp,rfl⟩⟩
 |
  k+1,ok,i,n,q,s,p,f,hi,hn,hq0,hq,hp=>by
  refine Jd _ _ _ _ _ _ _ _ _ _ _ ?_
  have hfar:qc=1000000000000000:=rfl
  simp only[Iu,↓zq,zs,ac,zt,ac,bg,hb.has]
  refine⟨fun _=>⟨fun hok=>?_,fun _=>⟨rfl,rfl,q,s,p,f,by omega,by omega,hp,rfl⟩⟩,fun h=>by omega⟩
  refine aj (QH s _ p (cH.of p) f) ?_
  have hm:=A1 s p f
  obtain⟨m,hm1,hm2⟩:∃m:Nat,(if qd s p f>1 then qd s p f else 1)=(m:Int)/\m<=1000:=by
   split
   ·exact⟨(qd s p f).toNat,by omega,by omega⟩
   ·exact⟨1,rfl,by omega⟩
  simp only[↓zq,zs,ac,hm1]
  refine aR (vu b l hb q m (by omega) (by omega)) (fe.ne ⟨0,rfl,fun h=>by omega,by omega⟩) ?_
  rintro r o ⟨q1,h1,h2,⟨j,rfl,_,_⟩,rfl⟩
  simp only[↓zq,zs,ac,zt,aL,hb.has]
  refine aX (PS s _ p (cH.of p) f (j:Int)) ?_
  have hl:=BO s (BE s p f (j:Int))
  simp only[↓zq,zs,ac,zt,aL,Ob.es,aQ]
  rw[bA i (by omega)]
  refine⟨eF _,fun _=>?_,fun _=>?_⟩
  ·exact GA b l hb q0 C hC k ok (i+1) n q1 _ _ _ (by omega) hn (by omega) (by omega) hl
  ·exact GA b l hb q0 C hC k ok (i+1) n q1 _ _ _ (by omega) hn (by omega) (by omega) hp
def O0(b:AV)(p c:Nat):AV->List Ob->Prop:=fun r o=>∃(q:Nat) (s:Nm) (pth:List Nm) (f:Nm),p<=q/\q<=p+c/\pth.length<=52/\r=.agg [.v (.string (mk s)),.vec 1,.v (.string (mk f))]/\o=[.cells [b,.v (.int .i64 (q:Int))],.vec 1 (bP pth)]
theorem O0.ne(b:AV)(p c:Nat):∃r o,O0 b p c r o:=⟨_,_,p,[],[],[],au _,by omega,by simp,rfl,rfl⟩
theorem P8(b:AV)(l:List UInt8)(hb:su b l)(p:Nat)(hp:p<100000000000):an Tryz.prog 67 [.ref 0 0] [.cells [b,.v (.int .i64 (p:Int))]] (O0 b p 60000001000):=by
 have hfar:qc=1000000000000000:=rfl
 refine Sd _ _ hb.has ?_
 unfold LY
 refine aR (R9 b l hb p (by omega)) (fe.ne ⟨[],[],rfl⟩) ?_
 rintro r o ⟨q,h1,h2,⟨s,f,rfl⟩,rfl⟩
 simp only[↓zq,zs,ac,zt,aL,hb.has]
 refine aX (Sy s f) ?_
 have hl:=BO s (Gy s [] f)
 simp only[↓zq,zs,ac,zt,aL,Ob.es,aQ]
 refine⟨eF _,?_⟩
 refine aR (vu b l hb q 4 (by omega) (by decide)) (fe.ne ⟨0,rfl,fun h=>by omega,by omega⟩) ?_
 rintro r o ⟨q1,g1,g2,⟨n,rfl,_,hn⟩,rfl⟩
 simp only[↓zq,zs,ac,zt,aL,hb.has]
 refine lj (GA b l hb q1 n (by omega) n _ 0 n q1 _ _ _ (by omega) (by omega) (by omega) (by omega) hl) (fun ys o e=>?_) (fun ys o e=>?_)
 ·obtain⟨_,rfl,q2,s2,p2,f2,e1,e2,e3,rfl⟩:=e
  simp only[dZ,↓zq,zs,ac,zt,ac,bg,hb.has,Ob.es,aQ,bz,be]
  refine aR (vu b l hb q2 20 (by omega) (by decide)) (fe.ne ⟨0,rfl,fun h=>by omega,by omega⟩) ?_
  rintro r o ⟨q3,d1,d2,⟨j,rfl,_,_⟩,rfl⟩
  simp only[↓zq,zs,ac,zt,aL,hb.has]
  have hsl:(bP p2).length=p2.length:=by simp[bP]
  have ap:bP p2++[[.v (.string (mk [117]))]]=bP (p2++[[117]]):=by simp[bP]
  refine⟨fun _=>⟨⟨fun c hc=>(by simp at hc;rw[hc];rfl),by simp;omega⟩,?_⟩,fun _=>⟨fun _=>?_,fun _=>⟨fun _=>?_,fun _=>?_⟩⟩⟩
  ·rw[ap];exact⟨q3,s2,_,f2,by omega,by omega,by simp;omega,rfl,rfl⟩
  ·exact⟨q3,s2,_,_,by omega,by omega,by omega,rfl,rfl⟩
  ·exact⟨q3,_,_,f2,by omega,by omega,by omega,rfl,rfl⟩
  ·exact⟨q3,s2,_,f2,by omega,by omega,by omega,rfl,rfl⟩
 ·exact absurd e.1 (by decide)
end Go.Proofs.Trees
namespace Go.Proofs.Trees
open Go Go.VL Go.RowKit
def O1:AV->List Ob->Prop:=fun r o=>o=[]/\∃(s:Nm) (p:List Nm) (f:Nm),p.length<=52/\r=.agg [.v (.string (mk s)),.sl (bP p),.v (.string (mk f))]
theorem O1.ne:∃r o,O1 r o:=⟨_,_,rfl,[],[],[],by simp,rfl⟩
theorem Q3:(0:Nat)<100000000000:=by decide
theorem QX(a:AV)(ha:xS a):an Tryz.prog 36 [a] [] O1:=by
 refine QC _ ha.1 ?_
 unfold LB
 refine aR (SE a ha) O4.ne ?_
 rintro r o ⟨b,l,hb,rfl,rfl⟩
 simp only[↓zq,zs,ac,zt,hb.has]
 refine⟨by simp[bF,hb.has,lP],aR (P8 b l hb 0 Q3) (O0.ne _ _ _) ?_⟩
 rintro r o ⟨q,s,p,f,_,_,h3,rfl,rfl⟩
 simp only[↓zq,zs,ac,zt,aL,hb.has,bz,aQ,Ob.es]
 exact⟨rfl,s,p,f,h3,rfl⟩
end Go.Proofs.Trees
namespace Go.Proofs.Trees
open Go Go.VL Go.RowKit
def SV(n:Nat):AV->List Ob->Prop:=fun r o=>∃x:Int,r=.v (.int .i64 x)/\(0<=x->n<=1048576)
theorem SV.ne(n:Nat):∃r o,SV n r o:=⟨_,[],-1,rfl,fun h=>by omega⟩
end Go.Proofs.Trees
namespace Go.Proofs.Trees
open Go Go.VL Go.RowKit
def p9(a:AV)(l:List Nat):Prop:=LK.sl.has a/\a.aP=sj l
theorem p9.of(l:List Nat):p9 (.sl (sj l)) l:=⟨(cg _).mpr trivial,rfl⟩
theorem p9.nil:p9 (.v (.slice none 0 0)) []:=⟨(bg).mpr trivial,rfl⟩
theorem p9.len{a:AV}{l:List Nat}(h:p9 a l):a.aP.length=l.length:=by rw[h.2,wQ]
theorem p9.idx{a:AV}{l:List Nat}(h:p9 a l){i:Nat}(hi:i<l.length):a.aP.getD i []=[.v (.int .i64 (l.getD i 0:Nat))]:=by
 rw[h.2];simp[sj,aa,hi]
end Go.Proofs.Trees
namespace Go.Proofs.Trees
open Go Go.VL Go.RowKit
def eI(l:List Int):List (List AV):=l.map fun k=>[.v (.int .i64 k)]
def nM(a:AV)(l:List Int):Prop:=LK.sl.has a/\a.aP=eI l
theorem nt(l:List Int):(eI l).length=l.length:=by simp[eI]
theorem nM.of(l:List Int):nM (.sl (eI l)) l:=⟨(cg _).mpr trivial,rfl⟩
theorem nM.nil:nM (.v (.slice none 0 0)) []:=⟨(bg).mpr trivial,rfl⟩
theorem nM.len{a:AV}{l:List Int}(h:nM a l):a.aP.length=l.length:=by rw[h.2,nt]
theorem nM.idx{a:AV}{l:List Int}(h:nM a l){i:Nat}(hi:i<l.length):a.aP.getD i []=[.v (.int .i64 (l.getD i 0))]:=by
 rw[h.2];simp[eI,aa,hi]
theorem vm(l:List Int):∀x,x∈[Ob.vec 1 (eI l)]->fj x:=by
 intro x hx
 simp only[aS]at hx
 subst hx
 intro e he c hc
 simp only[eI,bO]at he
 obtain⟨k,_,rfl⟩:=he
 simp only[aS]at hc
 exact⟨_,hc⟩
end Go.Proofs.Trees
namespace Go.Proofs.Trees
open Go Go.VL Go.RowKit
abbrev ZO:=Option (List Vl×Vl)
def Ay(s:Nm)(o:ZO):Prop:=∀r,o=some r->∃d,St s d (zA s) r.1 r.2
def CU(a:Ty)(pl:List Int)(o:ZO):ZO:=pl.foldl (fun o k=>o.bind fun r=>uZ a r.1 r.2 k) o
theorem CB(a:Ty)(k:Int)(pl:List Int)(o:ZO):CU a (k::pl) o=CU a pl (o.bind fun r=>uZ a r.1 r.2 k):=rfl
theorem Ay.dn{s:Nm}{o:ZO}(h:Ay s o)(k:Int):Ay s (o.bind fun r=>uZ (zA s) r.1 r.2 k):=fun r hr=>by
 obtain⟨q,h1,h2⟩:=bi.1 hr
 obtain⟨d,hs⟩:=h q h1
 exact⟨d,(hs.dn (l':=r.1) (w:=r.2) h2).1⟩
theorem Ay.go{s:Nm}:∀{pl:List Int} {o:ZO},Ay s o->Ay s (CU (zA s) pl o)
 |[],o,h=>h
 |k::pl,o,h=>Ay.go (pl:=pl) (h.dn k)
theorem Ay.gz{s:Nm}{o:ZO}(h:Ay s o):GZ o:=fun r hr=>by
 obtain⟨d,hs⟩:=h r hr
 exact hs.gz r rfl
theorem xM(s:Nm)(p:List Nm)(f:Nm):Ay s (sE s p f):=fun r hr=>by
 obtain⟨d,_,hs,_⟩:=tW hr
 exact⟨d,hs⟩
noncomputable def OV (s f:Nm) (pl:List Int):ZO:=CU (zA s) pl (sE s [] f)
theorem HY(s f:Nm)(pl:List Int):Ay s (OV s f pl):=(xM s [] f).go
theorem Oo(s:Nm)(a:AV)(pl:List Int)(ha:nM a pl)(hl:pl.length<=2000000):∀(k i:Nat) (o:ZO),i+k=pl.length->Ay s o ->
 Gr [oZ s (zA s) o,a,.v (.int .i64 (pl.length:Int)),.v (.int .i64 (i:Int))] [Mq] (gV 1 [oZ s (zA s) (CU (zA s) (pl.drop i) o)] [Mq])
 |
  0,i,o,hi,ho=>by
  refine IY _ _ _ _ _ _ _ ?_
  have:i=pl.length:=by omega
  subst this
  simp only[Hr,↓zq,zs,ac,zt,ac,kG,bg,List.drop_length]
  exact⟨ha.1,fun h=>by omega,fun _=>⟨rfl,rfl,rfl⟩⟩
 |
  k+1,i,o,hi,ho=>by
  have hlt:i<pl.length:=by omega
  refine IY _ _ _ _ _ _ _ ?_
  simp only[Hr,↓zq,zs,ac,zt,ac,kG,bg,ha.len,ha.idx hlt,bN]
  refine⟨ha.1,fun _=>⟨⟨ha.1,by omega,by omega⟩,by omega,?_⟩,fun h=>by omega⟩
  refine aj (RS s (zA s) o ho _) ?_
  simp only[↓zq,zs,ac,kG]
  have hd:pl.drop i=pl.getD i 0::pl.drop (i+1):=by rw[aU hlt];simp[aa,hlt]
  rw[bA i (by omega),hd,CB]
  exact Oo s a pl ha hl k (i+1) _ (by omega) (ho.dn _)
theorem QQ(s f:Nm)(a:AV)(pl:List Int)(ha:nM a pl)(hl:pl.length<=2000000):an Tryz.prog 38 [.v (.string (mk s)),.v (.string (mk f)),a] [] (E6 s (OV s f pl)):=by
 refine P6 _ _ _ ha.1 ?_
 unfold NM
 refine aj (Je s _ [] (cH.nil) f) ?_
 simp only[↓zq,zs,ac,zt,kG,ha.len]
 refine⟨ha.1,?_⟩
 have hloop:=Oo s a pl ha hl pl.length 0 (sE s [] f) (by omega) (xM s [] f)
 rw[be]at hloop
 refine cx hloop ?_
 simp only[↓zq,zs,ac,zt,ac,kG,bg]
 refine aX (R4 s (zA s) _ (HY s f pl).gz) ?_
 simp only[↓zq,zs,ac,zt,aL]
 exact⟨eF _,rfl,rfl⟩
def Pr(s:Nm)(o:ZO):Prop:=∀r,o=some r->gm s (r.1.map (·.cE)) r.2.cE=some r
theorem Pr.dn{s:Nm}{o:ZO}(h:Pr s o)(k:Int):Pr s (o.bind fun r=>uZ (zA s) r.1 r.2 k):=fun r hr=>by
 obtain⟨q,h1,h2⟩:=bi.1 hr
 have hq:=h q h1
 obtain⟨d,hd,hs,_⟩:=tW (fR (l:=q.1) (v:=q.2) hq).1
 obtain⟨e,_,h3,h4,_,_,h0,h5⟩:=vz (l':=r.1) (w:=r.2) h2
 have hk:k.toNat<(kids (zA s) q.2).length:=by
  rcases Nat.lt_or_ge k.toNat (kids (zA s) q.2).length with h|h
  ·exact h
  ·rw[List.getElem?_eq_none h]at h5;cases h5
 have he:(kids (zA s) q.2)[k.toNat]=e:=by rw[bp hk]at h5;cases h5;rfl
 have:=EI hs hd hq h0 hk
 rw[h2,he]at this
 obtain⟨l1,v1⟩:=r
 simp only at h3 h4 |-
 subst h3 h4
 rw[List.map_append]
 exact this
end Go.Proofs.Trees
namespace Go.Proofs.Trees
open Go Go.VL Go.RowKit
def wz(c:Nm):List Hl->Nat->Int
 |[],_=>-1
 |h::l,i=>if h.1.cE=c then(i:Int)else wz c l (i+1)
theorem Rf(q:Vl)(w:AV)(hw:LK.ptr.has w)(c:Nm)(hq:q.cE.length<=900000):an Tryz.prog 77 [.agg [q.cA,w],.ref 0 0] [.cells [.v (.string (mk c))]] (dh (.v (.bool (decide (q.cE=c)))) [.cells [.v (.string (mk c))]]):=by
 refine RG _ _ _ ((aN _).mpr trivial) hw ?_
 unfold Oi
 refine aj (CL q hq) ?_
 simp only[↓zq,zs,ac,zt]
 refine⟨?_,rfl⟩
 congr 2
 rw[cw];simp
theorem KL(c:Nm)(l:List Hl)(hl:l.length<=1000)(ht:∀h,h∈l->h.1.cE.length<=900000):∀(k i:Nat),i+k=l.length->Gh [.sl (gP l),.v (.int .i64 (l.length:Int)),.v (.int .i64 (i:Int))] [.cells [.v (.string (mk c))]]
 (py (if wz c (l.drop i) i = -1 then(1,[],[.cells [.v (.string (mk c))]])else(2,[.v (.int .i64 (wz c (l.drop i) i))],[.cells [.v (.string (mk c))]])))
 |
  0,i,hi=>by
  refine I6 _ _ _ _ ?_
  have:i=l.length:=by omega
  subst this
  simp only[F8,↓zq,zs,ac,zt,ac,List.drop_length,wz]
  exact⟨fun h=>by omega,fun _=>by simp[py]⟩
 |
  k+1,i,hi=>by
  have hlt:i<l.length:=by omega
  refine I6 _ _ _ _ ?_
  simp only[F8,↓zq,zs,ac,zt,ac,bF,en,lN hlt,aN,bN]
  refine⟨fun _=>?_,fun h=>by omega⟩
  repeat refine⟨by first|trivial|omega,?_⟩
  refine aX (Rf (l[i]).1 _ ((aN _).mpr trivial) c (ht _ (bD hlt))) ?_
  simp only[↓zq,zs,ac,zt,aL]
  rw[aU hlt,wz]
  by_cases h:(l[i]).1.cE=c
  ·simp only[if_pos h]
   refine⟨fun _=>?_,fun hn=>absurd h (by simpa using hn)⟩
   rw[if_neg (by omega)]
  ·simp only[if_neg h]
   refine⟨fun hp=>absurd (by simpa using hp) h,fun _=>?_⟩
   rw[bA i (by omega)]
   exact KL c l hl ht k (i+1) (by omega)
theorem Px(c:Nm)(l:List Hl)(hl:l.length<=1000)(ht:∀h,h∈l->h.1.cE.length<=900000):an Tryz.prog 76 [.sl (gP l),.fn 77 [.ref 0 0]] [.cells [.v (.string (mk c))]] (dh (.v (.int .i64 (wz c l 0))) [.cells [.v (.string (mk c))]]):=by
 refine RV _ _ ((cg _).mpr trivial) ?_
 simp only[MR,↓zq,zs,ac,en]
 have hloop:=KL c l hl ht l.length 0 (by omega)
 rw[be]at hloop
 refine fI hloop (fun ys o e=>?_) (fun ys o e=>?_)
 ·split at e
  ·rename_i h
   cases e
   simp only[↓zq,zs,ac,zt,ac]
   rw[h];exact⟨rfl,rfl⟩
  ·cases e
 ·split at e
  ·cases e
  ·cases e
   simp only[↓zq,zs,ac,zt,ac]
   exact⟨rfl,rfl⟩
theorem Fo.kt{a:Ty}{v:Vl}(h:Fo a v):(kids a v).length<=199/\(∀k,k∈kids a v->k.1.cE.length<=900000):=by
 refine⟨?_,fun k hk=>(ri h hk).1⟩
 have h1:=ng a v
 have h2:=kV (kids a v)
 have:=h.nd
 omega
theorem Q6{s d:Nm}{a:Ty}{l l':List Vl}{v w c:Vl}(h:St s d a l v)(hu:qE a l v=some (l',w))(hc:l=l'++[c]):an Tryz.prog 47 [pE s a l v,pE s a l' w] [] (bK (.v (.int .i64 (wz c.cE (kids a w) 0)))):=by
 have h':=h.up hu
 obtain⟨x,A,B,D,z⟩:=h.z
 have hlen:=h.len
 have hl1:l.length=l'.length+1:=by rw[hc];simp
 refine QM _ _ ((cb _).mpr trivial) ((cb _).mpr trivial) ?_
 simp only[ME,pE,↓zq,zs,ac,gH,aN,aF]
 repeat refine⟨by first|trivial|omega,?_⟩
 rw[wrap64 ((l.length:Int)-1) (by omega) (by omega)]
 have e1:((l.length:Int)-1).toNat=l'.length:=by omega
 have hg:(u5 l).getD l'.length []=[c.cA]:=by rw[tU (by omega)];simp[hc]
 simp only[e1,hg,↓zq,zs,ac,aN]
 repeat refine⟨by first|trivial|omega,?_⟩
 have hcx:=h.i.CI c (by rw[hc];simp)
 refine aj (CL c hcx.cE) ?_
 simp only[↓zq,zs,ac,zt,aN,aF]
 repeat refine⟨by first|trivial|omega,?_⟩
 have hnd:=h'.i.nH.nd
 refine aj (LO 100 w x A B a z.body z.hx (h'.i.nH.ff z) (by omega)) ?_
 simp only[↓zq,zs,ac,zt]
 have hk:=h'.i.nH.kt
 refine aX (Px c.cE (kids a w) (by omega) hk.2) ?_
 simp only[↓zq,zs,ac,zt,aL]
 exact⟨rfl,rfl⟩
def nR:Nat->Ty->List Vl->Vl->List Int
 |0,_,_,_=>[]
 |
  n+1,a,l,v=>match qE a l v with
  |some r=>nR n a r.1 r.2++[wz ((l.getLast?).getD .u).cE (kids a r.2) 0]
  |none=>[]
theorem vQ:∀(n:Nat) (a:Ty) (l:List Vl) (v:Vl),(nR n a l v).length<=n
 |0,_,_,_=>by simp[nR]
 |
  n+1,a,l,v=>by
  unfold nR
  cases qE a l v with
  |none=>simp
  |some r=>have:=vQ n a r.1 r.2;simp;omega
def PN(p q:List Int)(i:Nat):Prop:=q.length=p.length/\∀k,k<p.length->q.getD k 0=if k<i\/p.length-1-k<i then p.getD (p.length-1-k) 0 else p.getD k 0
theorem wx{l:List Int}{i j:Nat}(x:Int)(hj:j<l.length):(l.set i x).getD j 0=if i=j then x else l.getD j 0:=by
 simp only[aa,List.getElem?_set]
 split
 ·rename_i e;subst e;simp[hj]
 ·rfl
theorem Lu(p:List Int)(hp:p.length<=1000000):∀(m i:Nat) (q:List Int),p.length<=m+2*i->i<=p.length->PN p q i->Hp [.v (.int .i64 (i:Int)),.v (.int .i64 ((p.length:Int)-1-(i:Int)))] [.vec 1 (eI q)] (gV 1 [] [.vec 1 (eI p.reverse)])
 |
  m,i,q,hm,hi,hR=>by
  refine RJ _ _ _ ?_
  by_cases hlt:(i:Int)<(p.length:Int)-1-(i:Int)
  ·have e2:((p.length:Int)-1-(i:Int)).toNat=p.length-1-i:=by omega
   have h1:i<q.length:=by rw[hR.1];omega
   have h2:p.length-1-i<q.length:=by rw[hR.1];omega
   have g1:(eI q).getD i []=[.v (.int .i64 (q.getD i 0))]:=by simp[eI,aa,h1]
   have g2:(eI q).getD (p.length-1-i) []=[.v (.int .i64 (q.getD (p.length-1-i) 0))]:=by simp[eI,aa,h2]
   have s1:(eI q).set i [.v (.int .i64 (q.getD (p.length-1-i) 0))]=eI (q.set i (q.getD (p.length-1-i) 0)):=by simp[eI,List.map_set]
   have g3:(eI (q.set i (q.getD (p.length-1-i) 0))).getD (p.length-1-i) []=[.v (.int .i64 (q.getD (p.length-1-i) 0))]:=by
    have hne:i≠p.length-1-i:=by omega
    simp[eI,aa,List.getElem?_set,hne,h2]
   simp only[Gk,↓zq,zs,ac,nt,bN,e2,g1,g2,List.set_cons_zero,bq,s1,g3]
   have s2:(eI (q.set i (q.getD (p.length-1-i) 0))).set (p.length-1-i) [.v (.int .i64 (q.getD i 0))]=eI ((q.set i (q.getD (p.length-1-i) 0)).set (p.length-1-i) (q.getD i 0)):=by simp[eI,List.map_set]
   simp only[s2,List.length_set]
   have hl:=hR.1
   refine⟨fun _=>⟨⟨by omega,by omega⟩,⟨h2,by first|trivial|simp⟩,⟨by omega,by omega⟩,⟨h1,by first|trivial|simp⟩,⟨by omega,by omega⟩,⟨h1,by omega⟩,⟨by omega,by omega⟩,⟨h2,by omega⟩,?_⟩,fun h=>absurd hlt h⟩
   rw[bA i (by omega),wrap64 ((p.length:Int)-1-(i:Int)-1) (by omega) (by omega),show (p.length:Int)-1-(i:Int)-1=(p.length:Int)-1-((i+1:Nat):Int) by omega]
   match m,hm with
   |0,hm=>omega
   |
    m+1,hm =>
    refine Lu p hp m (i+1) _ (by omega) (by omega) ⟨by simp[hl],fun k hk=>?_⟩
    rw[wx _ (by rw[List.length_set,hl];exact hk),wx _ (by rw[hl];exact hk)]
    have hi1:=hR.2 i (by omega)
    have hi2:=hR.2 (p.length-1-i) (by omega)
    have hi3:=hR.2 k hk
    rw[if_neg (by omega)]at hi1 hi2
    by_cases c1:p.length-1-i=k
    ·subst c1
     rw[if_pos rfl,if_pos (by omega),hi1]
     congr 1;omega
    ·rw[if_neg c1]
     by_cases c2:i=k
     ·subst c2
      rw[if_pos rfl,if_pos (by omega),hi2]
     ·rw[if_neg c2,hi3]
      by_cases c3:k<i\/p.length-1-k<i
      ·rw[if_pos c3,if_pos (by omega)]
      ·rw[if_neg c3,if_neg (by omega)]
  ·simp only[Gk,↓zq,zs,ac]
   refine⟨fun h=>absurd h hlt,fun _=>?_⟩
   have:q=p.reverse:=by
    apply List.ext_getElem
    ·rw[hR.1,List.length_reverse]
    ·intro k h1 h2
     have hk:k<p.length:=by rw[<-hR.1];exact h1
     have:=hR.2 k hk
     have e1:q.getD k 0=q[k]:=by simp[aa,h1]
     rw[e1]at this
     rw[this,List.getElem_reverse]
     have e2:p.getD (p.length-1-k) 0=p[p.length-1-k]:=by simp[aa,show p.length-1-k<p.length by omega]
     split
     ·exact e2
     ·rename_i hn
      have:k=p.length-1-k:=by omega
      rw[<-e2,<-this]
   rw[this];exact⟨rfl,rfl,rfl⟩
theorem Rk(p:List Int)(hp:p.length<=1000000):an Tryz.prog 48 [.vec 0] [.vec 1 (eI p)] (dh .any [.kH 1 (eI p.reverse)]):=by
 refine Sc _ ?_
 unfold K0
 rw[nt,wrap64 ((p.length:Int)-1) (by omega) (by omega)]
 have hloop:=Lu p hp p.length 0 p (by omega) (by omega) ⟨rfl,fun k hk=>by rw[if_neg (by omega)]⟩
 rw[show (p.length:Int)-1-((0:Nat):Int)=(p.length:Int)-1 by omega]at hloop
 refine cx hloop ?_
 simp only[↓zq,zs,ac,Ob.es,aQ]
 exact⟨rfl,rfl⟩
end Go.Proofs.Trees
namespace Go.Proofs.Trees
open Go Go.VL Go.RowKit
theorem ym{a:Ty}:∀(n:Nat) (l:List Vl) (v:Vl),l.length=n->(iO n a l v).isSome=true->∀c l',l=l'++[c]->∃w,qE a l v=some (l',w)/\(iO l'.length a l' w).isSome=true
 |0,l,v,hl,_,c,l',h=>by rw[h]at hl;simp at hl
 |
  n+1,l,v,hl,hs,c,l',h=>by
  rw[iO]at hs
  cases q:qE a l v with
  |none=>rw[q]at hs;cases hs
  |
   some r =>
   obtain⟨l1,w⟩:=r
   rw[q]at hs
   have h2:l1=l':=by
    unfold qE at q
    rw[h,List.getLast?_concat]at q
    simp only at q
    split at q
    ·cases q;simp
    ·cases q
   subst h2
   have hn:l1.length=n:=by rw[h]at hl;simpa using hl
   exact⟨w,rfl,by rw[hn];exact hs⟩
theorem wi{d:Nm}:∀{l:List Vl},(∀c,c∈l->mf d c.cE 100=some c)->eE d (l.map (·.cE))=some l
 |[],_=>rfl
 |
  c::l,h=>by
  rw[bE,eE,h c ak,wi fun x hx=>h x (al _ hx)]
theorem Es{s d:Nm}{l:List Vl}{v:Vl}(hs:St s d (zA s) l v)(hd:cI s=some d):gm s (l.map (·.cE)) v.cE=if(sG (zA s) l v).isSome=true then some (l,v)else none:=by
 obtain⟨x,A,B,D,z⟩:=hs.z
 have hlen:=hs.len
 have e1:mf s v.cE 100=some v:=by rw[z.cE hs.i.nH.ic hs.i.nH.ty,if_pos hs.i.nH.nd]
 unfold gm
 rw[uB,hd]
 simp only[a7,z.l,e1,wi hs.each,cr,if_pos hlen,ci]
theorem vn(l:List Vl)(c:Vl):((l++[c]).getLast?).getD .u=c:=by rw[List.getLast?_concat];rfl
theorem yL{a:Ty}{l l':List Vl}{v w c:Vl}(n:Nat)(hu:qE a l v=some (l',w))(hc:l=l'++[c]):nR (n+1) a l v=nR n a l' w++[wz c.cE (kids a w) 0]:=by
 rw[nR,hu];simp only[hc,vn]
noncomputable def Cp (s:Nm) (p:List Nm) (f:Nm):Option (List Int):=(gm s p f).map fun r=>nR r.1.length (zA s) r.1 r.2
def SW(o:Option (List Int)):List Int:=o.getD []
theorem I2(s d:Nm)(a:Ty):∀(n:Nat) (l:List Vl) (v:Vl) (out:List Int),l.length=n->St s d a l v->(iO n a l v).isSome=true->out.length+n<=1000 ->
 Fe [pE s a l v] [.vec 1 (eI out)] (gV 1 [] [.vec 1 (eI (out++(nR n a l v).reverse))])
 |
  0,l,v,out,hl,h,_,ho=>by
  have:l=[]:=bG hl
  subst this
  refine MY _ _ ?_
  simp only[If,pE,↓zq,zs,ac,gH,aH]
  refine⟨by omega,fun h=>by omega,fun _=>by simp[gV,nR]⟩
 |
  n+1,l,v,out,hl,h,hs,ho=>by
  have hne:l≠[]:=by rintro rfl;simp at hl
  have hlc:l=l.dropLast++[l.getLast hne]:=(List.dropLast_concat_getLast hne).symm
  obtain⟨w,hu,hs'⟩:=ym (n+1) l v hl hs _ _ hlc
  have hn:l.dropLast.length=n:=by rw[List.length_dropLast];omega
  rw[hn]at hs'
  refine MY _ _ ?_
  have hup:=Fg s a l v h.i h.len
  rw[hu]at hup
  have hix:=Q6 h hu hlc
  rw[yL n hu hlc]
  generalize l.dropLast=l' at *
  generalize l.getLast hne=c at *
  simp only[If,oZ]at hup |-
  simp only[pE,↓zq,zs,ac,gH,hl]at hup hix |-
  refine⟨by omega,fun _=>?_,fun h=>by omega⟩
  refine aj hup ?_
  simp only[↓zq,zs,ac]
  refine aj hix ?_
  simp only[↓zq,zs,ac,nt]
  refine⟨⟨fun x hx=>by simp at hx;rw[hx];rfl,by simp;omega⟩,?_⟩
  have e:eI out++[[.v (.int .i64 (wz c.cE (kids a w) 0))]]=eI (out++[wz c.cE (kids a w) 0]):=by simp[eI]
  rw[e,List.reverse_append,List.reverse_singleton,<-bb]
  exact I2 s d a n l' w _ hn (h.up hu) hs' (by simp;omega)
theorem Ry(s:Nm)(pa:AV)(p:List Nm)(hp:cH pa p)(f:Nm):an Tryz.prog 12 [.agg [.v (.string (mk s)),pa,.v (.string (mk f))]] [] (dh (.cD [.vec 0,.v (.bool (Cp s p f).isSome)]) [.vec 1 (eI (SW (Cp s p f)))]):=by
 refine QI _ _ _ hp.1 ?_
 unfold Ll
 refine aj (SX s pa p hp f) ?_
 simp only[↓zq,zs,ac,kG]
 unfold Cp
 cases q:gm s p f with
 |
  none =>
  simp only[oZ,↓zq,zs,ac,Option.map_none]
  exact⟨fun _=>⟨rfl,rfl⟩,fun h=>(by cases h)⟩
 |
  some r =>
  obtain⟨l,v⟩:=r
  obtain⟨d,hs,_⟩:=nv q
  have hlen:=hs.len
  have hcl:=(fR q).2
  have hloop:=I2 s d (zA s) l.length l v [] rfl hs hcl (by simp;omega)
  have hpl:=vQ l.length (zA s) l v
  simp only[oZ,ci]
  have hn:(pE s (zA s) l v).isNil=false:=rfl
  simp only[hn]
  refine⟨fun h=>(by cases h),fun _=>?_⟩
  refine cx hloop ?_
  simp only[↓zq,zs,ac,Ob.es,aQ,aW]
  refine aX (Rk (nR l.length (zA s) l v).reverse (by rw[List.length_reverse];omega)) ?_
  rw[List.reverse_reverse]
  simp only[↓zq,zs,ac,Ob.es,aQ]
  exact⟨rfl,rfl⟩
end Go.Proofs.Trees
namespace Go.Proofs.Trees
open Go Go.VL Go.RowKit
def u4(l:List Hl):Prop:=(l.map (·.1)).Nodup
theorem qN:u4 []:=List.nodup_nil
theorem Ei(h:Hl):u4 [h]:=by simp[u4]
theorem ns{g:Vl->Vl}(hg:∀x y,g x=g y->x=y){l:List Hl}(h:u4 l):u4 (iM g l):=by
 unfold u4 iM at *
 rw[List.map_map]
 have:((fun x:Hl=>x.1)∘fun h:Hl=>(g h.1,h.2))=g∘(fun x:Hl=>x.1):=rfl
 rw[this,<-List.map_map]
 exact List.Pairwise.map _ (fun a b hab e=>hab (hg _ _ e)) h
theorem tL{l r:List Hl}(hl:u4 l)(hr:u4 r)(h:∀x y,x∈l->y∈r->x.1≠y.1):u4 (l++r):=by
 unfold u4 at *
 rw[List.map_append,List.nodup_append]
 refine⟨hl,hr,?_⟩
 intro a ha b hb e
 obtain⟨x,hx,rfl⟩:=bO.1 ha
 obtain⟨y,hy,rfl⟩:=bO.1 hb
 exact h x y hx hy e
theorem vI{f:Hl->List Hl}:∀{l:List Hl},u4 l->(∀h,h∈l->u4 (f h))->(∀h k,h∈l->k∈l->h.1≠k.1->∀x y,x∈f h->y∈f k->x.1≠y.1)->u4 (l.flatMap f)
 |[],_,_,_=>qN
 |
  h::l,hn,hf,hd=>by
  rw[List.flatMap_cons]
  unfold u4 at hn
  rw[bE,List.nodup_cons]at hn
  refine tL (hf h ak) (vI (l:=l) hn.2 (fun k hk=>hf k (al _ hk)) fun a b ha hb=>hd a b (al _ ha) (al _ hb)) ?_
  intro x y hx hy
  obtain⟨k,hk,hy⟩:=List.mem_flatMap.1 hy
  refine hd h k ak (al _ hk) (fun e=>hn.1 ?_) x y hx hy
  rw[e];exact bO.2 ⟨k,hk,rfl⟩
theorem jy:∀(n:Nat) (t:Ty) (tg:Tg) (v:Vl),u4 (dE n t tg v)
 |0,t,tg,v=>qN
 |
  n+1,t,tg,v=>by
  unfold dE
  split
  ·exact Ei _
  ·unfold i7
   split
   ·exact ns (fun x y e=>by cases e;rfl) (jy n _ _ _)
   ·exact ns (fun x y e=>by cases e;rfl) (jy n _ _ _)
   ·refine tL (ns (fun x y e=>by cases e;rfl) (jy n _ _ _)) (ns (fun x y e=>by cases e;rfl) (jy n _ _ _)) fun x y hx hy e=>?_
    obtain⟨k,_,rfl⟩:=cZ hx
    obtain⟨k',_,rfl⟩:=cZ hy
    cases e
   ·refine tL (ns (fun x y e=>by cases e;rfl) (jy n _ _ _)) (vI (jy n _ _ _) (fun h hh=>ns (fun x y e=>by cases e;rfl) (jy n _ _ _)) fun h k hh hk hne x y hx hy e=>?_) fun x y hx hy e=>?_
    ·obtain⟨a,_,rfl⟩:=cZ hx
     obtain⟨b,_,rfl⟩:=cZ hy
     injection e with e
     injection e with e
     injection e with e1 e2
     exact hne e1
    ·obtain⟨k,_,rfl⟩:=cZ hx
     obtain⟨h,_,hy⟩:=List.mem_flatMap.1 hy
     obtain⟨b,_,rfl⟩:=cZ hy
     cases e
   ·exact qN
end Go.Proofs.Trees
namespace Go.Proofs.Trees
open Go Go.VL Go.RowKit
theorem CZ(a:Ty)(v:Vl):u4 (kids a v):=by
 cases v<;>first|exact jy _ _ _ _|exact qN
theorem B6:∀(l:List Hl) (i k:Nat) (q:Hl),u4 l->(∀h,h∈l->h.1.ic 100)->l[k]?=some q->wz q.1.cE l i=((i+k:Nat):Int)
 |[],i,k,q,_,_,h=>by simp at h
 |
  h::l,i,0,q,hn,hb,hk=>by
  simp only[List.getElem?_cons_zero,Option.some.injEq]at hk
  subst hk
  simp[wz]
 |
  h::l,i,k+1,q,hn,hb,hk=>by
  rw[List.getElem?_cons_succ]at hk
  have hm:q∈l:=List.mem_of_getElem? hk
  unfold u4 at hn
  rw[bE,List.nodup_cons]at hn
  have hne:¬h.1.cE=q.1.cE:=fun e=>hn.1 (by
   have:=tS (hb h ak) (hb q (al _ hm)) e
   rw[this];exact bO.2 ⟨q,hm,rfl⟩)
  rw[wz,if_neg hne,B6 l (i+1) k q hn.2 (fun x hx=>hb x (al _ hx)) hk]
  omega
end Go.Proofs.Trees
namespace Go.Proofs.Trees
open Go Go.VL Go.RowKit
def Ce(x:Nm)(i:Nat)(tg tg':Tg):Prop:=(tg=.bd i/\tg'=.nm x)\/(∃s,s≠x/\tg=.nm s/\tg'=.nm s)\/∃j,j<i/\tg=.bd j/\tg'=.bd j
theorem Ce.up{x:Nm}{i:Nat}{tg tg':Tg}(h:Ce x i tg tg'):Ce x (i+1) tg.up tg'.up:=by
 rcases h with⟨rfl,rfl⟩|⟨s,h,rfl,rfl⟩|⟨j,h,rfl,rfl⟩
 ·exact .inl ⟨rfl,rfl⟩
 ·exact .inr (.inl ⟨s,h,rfl,rfl⟩)
 ·exact .inr (.inr ⟨j+1,by omega,rfl,rfl⟩)
theorem Bf{x:Nm}{i:Nat}{tg tg':Tg}(h:Ce x i tg tg')(t:Ty)(hx:bn x t=false):eD (dA (.name x) t i) tg'=eD t tg:=by
 cases t with
 |
  bT k =>
  simp only[dA]
  rcases h with⟨rfl,rfl⟩|⟨s,h,rfl,rfl⟩|⟨j,h,rfl,rfl⟩
  ·split
   ·rename_i e;simp[eD,e]
   ·rename_i e;simp[eD,e]
  ·split
   ·simp[eD,Ne.symm h]
   ·simp[eD]
  ·split
   ·rename_i e;simp only[eD];exact(decide_eq_false (by omega)).symm
   ·simp[eD]
 |
  name n =>
  have hn:¬n=x:=by simpa[bn]using hx
  rcases h with⟨rfl,rfl⟩|⟨s,h,rfl,rfl⟩|⟨j,h,rfl,rfl⟩<;>simp[dA,eD,hn]
 |_=>rcases h with⟨rfl,rfl⟩|⟨s,h,rfl,rfl⟩|⟨j,h,rfl,rfl⟩<;>rfl
theorem fO(x:Nm):∀(n:Nat) (t:Ty) (i:Nat) (tg tg':Tg) (v:Vl),bn x t=false->Ce x i tg tg'->dE n (dA (.name x) t i) tg' v=dE n t tg v
 |0,_,_,_,_,_,_,_=>rfl
 |
  n+1,t,i,tg,tg',v,hx,hr=>by
  rw[dE,dE,Bf hr t hx]
  split
  ·rfl
  ·cases t with
   |
    plus a b =>
    simp only[bn,cj]at hx
    cases v with
    |l w=>exact congrArg (iM .l) (fO x n a i tg tg' w hx.1 hr)
    |r w=>exact congrArg (iM .r) (fO x n b i tg tg' w hx.2 hr)
    |_=>rfl
   |
    times a b =>
    simp only[bn,cj]at hx
    cases v with
    |
     p y z =>
     simp only[dA,i7]
     rw[fO x n a i tg tg' y hx.1 hr,fO x n b i tg tg' z hx.2 hr]
    |_=>rfl
   |
    rc a =>
    cases v with
    |
     f w =>
     simp only[dA,i7]
     rw[fO x n a (i+1) tg.up tg'.up w hx hr.up,fO x n a (i+1) (.bd 0) (.bd 0) w hx (.inr (.inr ⟨0,by omega,rfl,rfl⟩))]
     congr 1
     refine iT fun h hh=>?_
     have:=fO x n (.rc a) i tg tg' h.2 hx hr
     simp only[dA]at this
     rw[this]
    |_=>rfl
   |
    bT k =>
    simp only[dA]
    split<;>(cases v<;>rfl)
   |_=>rfl
theorem pT{g:Vl->Vl}{l:List Hl}{c v:Vl}(h:(c,v)∈l):(g c,v)∈iM g l:=bO.2 ⟨_,h,rfl⟩
theorem qk(n:Nat):∀(m:Nat) (c:Vl),c.nodes<=m->∀(t:Ty) (s:Nm) (d:Ty) (σ:Nm->Option Ty),Dv t s d->CJ σ->jC t 0->vT n c (eT σ d)=true->∀(v:Vl) (k:Nat),(cX t c v).nodes<=k->(c,v)∈dE k t (.nm s) (cX t c v)
 |0,c,h=>by have:=dw c;omega
 |
  m+1,c,hm=>by
  intro t s d σ hd hσ hl hv v k hk
  have no:∀c,vT n c .zero=false:=fun c=>by cases c<;>rfl
  obtain⟨k,rfl⟩:∃j,k=j+1:=⟨k-1,by have:=dw (cX t c v);omega⟩
  cases hd with
  |zero=>rw[show eT σ .zero=.zero from rfl,no]at hv;cases hv
  |one=>rw[show eT σ .zero=.zero from rfl,no]at hv;cases hv
  |bT=>rw[show eT σ .zero=.zero from rfl,no]at hv;cases hv
  |qF=>rw[show eT σ .zero=.zero from rfl,no]at hv;cases hv
  |
   hit =>
   have hc:c=.u:=by
    have hv:vT n c .one=true:=hv
    cases c<;>first|rfl|simp[vT]at hv
   rw[kT,dE,if_pos (by simp[eD]),hc];exact ak
  |
   plus h1 h2 _ =>
   rcases jk hv with⟨w,rfl,hw⟩|⟨w,rfl,hw⟩
   ·simp only[Vl.nodes]at hm
    rename_i a b _ _
    simp only[cX,Vl.nodes]at hk
    have:=qk n m w (by omega) _ s _ σ h1 hσ hl.1 hw v k (by omega)
    exact pT (g:=.l) this
   ·simp only[Vl.nodes]at hm
    simp only[cX,Vl.nodes]at hk
    have:=qk n m w (by omega) _ s _ σ h2 hσ hl.2 hw v k (by omega)
    exact pT (g:=.r) this
  |
   times h1 h2 _ =>
   rcases jk hv with⟨w,rfl,hw⟩|⟨w,rfl,hw⟩
   ·obtain⟨x,y,rfl,hx,hy⟩:=gy hw
    simp only[Vl.nodes]at hm
    simp only[cX,Vl.nodes]at hk
    have:=qk n m x (by omega) _ s _ σ h1 hσ hl.1 hx v k (by omega)
    exact aD _ (pT (g:=fun c=>.l (.p c y)) this)
   ·obtain⟨x,y,rfl,hx,hy⟩:=gy hw
    simp only[Vl.nodes]at hm
    simp only[cX,Vl.nodes]at hk
    have:=qk n m y (by omega) _ s _ σ h2 hσ hl.2 hy v k (by omega)
    exact aB _ (pT (g:=fun c=>.r (.p x c)) this)
  |
   @rc a _ c0 d0 x hx hs h1 h2 hsz =>
   have lo:jC (dA (.name x) a 0) 0:=gO x a hl
   obtain⟨X,e1,e2⟩:=oW (x:=x) hσ hl (h1.lc lo) (h2.lc lo)
   have hv':=hv
   rw[e1]at hv'
   obtain⟨w,rfl,hw⟩:=Bt hv'
   rw[e2]at hw
   have hcl:=lG hσ x (j2 hσ (.rc a) hl)
   rcases jk hw with⟨y,rfl,hy⟩|⟨y,rfl,hy⟩
   ·simp only[Vl.nodes]at hm
    simp only[cX,Vl.nodes]at hk
    have:=qk n m y (by omega) _ s _ _ h1 hcl lo hy v k (by rw[dK x y.nodes y a 0 v (au _)];omega)
    rw[dK x y.nodes y a 0 v (au _),fO x k a 0 (.nm s) (.nm s) _ hx (.inr (.inl ⟨s,Ne.symm hs,rfl,rfl⟩))]at this
    exact aD _ (pT (g:=fun c=>.f (.l c)) this)
   ·obtain⟨y,z,rfl,hy,hz⟩:=gy hy
    simp only[Vl.nodes]at hm
    simp only[cX,Vl.nodes]at hk
    have q1:=qk n m y (by omega) _ x _ _ h2 hcl lo hy (cX (.rc a) z v) k (by rw[dK x y.nodes y a 0 _ (au _)];omega)
    rw[dK x y.nodes y a 0 _ (au _),fO x k a 0 (.bd 0) (.nm x) _ hx (.inl ⟨rfl,rfl⟩)]at q1
    have hsz2:=(fk k a (.bd 0) _ _ q1).1
    have q2:=qk n m z (by omega) (.rc a) s _ σ (.rc x hx hs h1 h2 hsz) hσ hl hz v k (by simp only at hsz2;omega)
    exact aB _ (List.mem_flatMap.2 ⟨_,q1,pT (g:=fun c=>.f (.r (.p y c))) q2⟩)
theorem ID{n:Nat}{a D:Ty}{x:Nm}(hx:bn x a=false)(hl:jC (.rc a) 0)(h:oi a x=some D){c:Vl}(hc:vT n c D=true)(v:Vl):(c,v)∈kids a (.f (cX a c v)):=by
 simp only[oi,bi,cR,eS]at h
 obtain⟨d,hd,_,rfl⟩:=h
 have lo:jC (dA (.name x) a 0) 0:=gO x a hl
 have hcl:=lG rU x hl
 have e1:sub x (.rc a) d=eT (iV Eu x (.rc a)) d:=by
  have:=ir Eu x (.rc a) d
  rw[iS,iS]at this;exact this
 rw[e1]at hc
 have h1:=qk n c.nodes c (au _) _ x _ _ hd hcl lo hc v (cX a c v).nodes (by rw[dK x c.nodes c a 0 v (au _)];omega)
 rw[dK x c.nodes c a 0 v (au _),fO x _ a 0 (.bd 0) (.nm x) _ hx (.inl ⟨rfl,rfl⟩)]at h1
 exact h1
end Go.Proofs.Trees
namespace Go.Proofs.Trees
open Go Go.VL Go.RowKit
theorem ZT.PX{s d:Nm}{a:Ty}{x A B:E}{D:Ty}(z:ZT s d a x A B D){c:Nm}{w:Vl}(h:mf d c 100=some w)(v:Vl):(w,v)∈kids a (.f (cX a w v)):=by
 obtain⟨e,t,m,h1,h2,h3,h4,h5,h6,h7⟩:=ot h
 have hm:m=100:=by omega
 subst hm
 have:=uU h3
 rw[z.bk]at this;cases this
 rw[nq h4]at h7
 obtain⟨e2,he2,hw2,hte2,_,_⟩:=nQ z.y
 have hlc:jC (.rc a) 0:=hte2 ▸ hw2.qI.1
 exact ID (uL z.y) hlc z.lp h7 v
end Go.Proofs.Trees
namespace Go.Proofs.Trees
open Go Go.VL Go.RowKit
theorem St.By{s d:Nm}{a:Ty}{l l':List Vl}{v w c:Vl}(h:St s d a l v)(hu:qE a l v=some (l',w))(hc:l=l'++[c]):w=.f (cX a c v)/\∃k:Nat,(kids a w)[k]?=some (c,v)/\wz c.cE (kids a w) 0=(k:Int):=by
 obtain⟨x,A,B,D,z⟩:=h.z
 have h':=h.up hu
 obtain⟨_,_,c',hc',hw⟩:=rY h.i hu
 have e:c=c':=by rw[hc]at hc';exact List.singleton_inj.1 (List.append_cancel_left hc')
 subst e
 have hm:(c,v)∈kids a w:=by rw[hw];exact z.PX (h.each c (by rw[hc];simp)) v
 obtain⟨k,hk⟩:=List.getElem?_of_mem hm
 refine⟨hw,k,hk,?_⟩
 have:=B6 (kids a w) 0 k _ (CZ a w) (fun x hx=>(lr h'.i.nH.ic hx).1) hk
 simpa using this
theorem St.Ta{s d:Nm}{a:Ty}{l:List Vl}{v w c:Vl}(h:St s d a l v){k:Hl}(hk:k∈kids a v)(hv:mf d k.1.cE 100=some k.1):k.1.nodes<=200:=by
 obtain⟨x,A,B,D,z⟩:=h.z
 obtain⟨t1,_,_⟩:=z.PA h.i.nH hk
 rw[z.So (lr h.i.nH.ic hk).1 t1]at hv
 split at hv
 ·assumption
 ·cases hv
theorem St.back{s d:Nm}{a:Ty}{l l':List Vl}{v w c:Vl}(h:St s d a l v)(hu:qE a l v=some (l',w))(hc:l=l'++[c]):uZ a l' w (wz c.cE (kids a w) 0)=some (l,v):=by
 obtain⟨_,k,hk,e⟩:=h.By hu hc
 have hlen:=h.len
 have hm:=List.mem_of_getElem? hk
 have hn:c.nodes<=200:=(h.up hu).Ta (w:=v) (c:=v) hm (h.each c (by rw[hc];simp))
 have hlt:k<(kids a w).length:=(List.getElem?_eq_some_iff.1 hk).1
 have hg:(kids a w).getD k (.u,.u)=(c,v):=by rw[aa,hk];rfl
 rw[e];unfold uZ
 rw[if_neg (by rw[hc]at hlen;simp at hlen;omega),if_pos ⟨by omega,by simpa using hlt⟩,bN,hg,if_pos hn,hc]
theorem Dt(a:Ty)(p:List Int)(k:Int)(o:ZO):CU a (p++[k]) o=(CU a p o).bind fun r=>uZ a r.1 r.2 k:=by unfold CU;rw[List.foldl_append];rfl
theorem Cz{s d:Nm}{a:Ty}:∀(n:Nat) (l:List Vl) (v w:Vl),l.length=n->St s d a l v->iO n a l v=some w->CU a (nR n a l v) (some ([],w))=some (l,v)/\St s d a [] w/\(nR n a l v).length=n/\∀k,k∈nR n a l v->0<=k
 |
  0,l,v,w,hl,h,hc=>by
  have:l=[]:=bG hl
  subst this
  rw[iO]at hc;cases hc
  exact⟨rfl,h,rfl,fun k hk=>by cases hk⟩
 |
  n+1,l,v,w,hl,h,hc=>by
  have hne:l≠[]:=by rintro rfl;simp at hl
  have hlc:l=l.dropLast++[l.getLast hne]:=(List.dropLast_concat_getLast hne).symm
  obtain⟨w1,hu,_⟩:=ym (n+1) l v hl (by rw[hc];rfl) _ _ hlc
  have hn:l.dropLast.length=n:=by rw[List.length_dropLast];omega
  rw[iO,hu]at hc
  obtain⟨g1,g2,g3,g4⟩:=Cz n l.dropLast w1 w hn (h.up hu) hc
  rw[yL n hu hlc]
  obtain⟨_,k,_,ek⟩:=h.By hu hlc
  refine⟨?_,g2,by simp[g3],fun x hx=>?_⟩
  ·rw[Dt,g1];exact h.back hu hlc
  ·rcases aO.1 hx with hx|hx
   ·exact g4 x hx
   ·simp only[aS]at hx;rw[hx,ek];omega
theorem zF{s:Nm}{p:List Nm}{f:Nm}{r:List Vl×Vl}(h:gm s p f=some r):∃d,cI s=some d/\St s d (zA s) r.1 r.2/\p=r.1.map (·.cE)/\f=r.2.cE/\∃w,sG (zA s) r.1 r.2=some w:=by
 obtain⟨h1,h2⟩:=fR (l:=r.1) (v:=r.2) h
 obtain⟨d,hd,hs,hp,hf⟩:=tW h1
 obtain⟨w,hw⟩:=bL.1 h2
 exact⟨d,hd,hs,hp,hf,w,hw⟩
theorem GV{s:Nm}{p:List Nm}{f:Nm}{r:List Vl×Vl}(h:gm s p f=some r):∃w pl,od s p f=some w/\Cp s p f=some pl/\OV s w pl=some r/\(mf s w 100).isSome=true/\pl.length=p.length/\(∀k,k∈pl->0<=k)/\p=r.1.map (·.cE)/\f=r.2.cE/\p.length<=50:=by
 obtain⟨d,hd,hs,hp,hf,w,hw⟩:=zF h
 obtain⟨g1,g2,g3,g4⟩:=Cz r.1.length r.1 r.2 w rfl hs hw
 obtain⟨x,A,B,D,z⟩:=g2.z
 have e1:mf s w.cE 100=some w:=by rw[z.cE g2.i.nH.ic g2.i.nH.ty,if_pos g2.i.nH.nd]
 have e2:sE s [] w.cE=some ([],w):=by
  rw[<-wv]
  have:=Es g2 hd
  rw[show sG (zA s) [] w=some w from rfl]at this
  exact this
 refine⟨w.cE,nR r.1.length (zA s) r.1 r.2,?_,?_,?_,by rw[e1];rfl,by rw[g3,hp];simp,g4,hp,hf,by rw[hp];simpa using hs.len⟩
 ·unfold od;rw[h];simp[hw]
 ·unfold Cp;rw[h];rfl
 ·unfold OV;rw[e2];exact g1
end Go.Proofs.Trees
namespace Go.Proofs.Trees
open Go Go.VL Go.RowKit
theorem SH(a:AV)(ha:xS a):an Tryz.prog 8 [a] [] (bK (.v (.bool true))):=by
 refine QF _ ha.1 ?_
 simp only[MM,↓zq,zs,ac,zt,bK]
 refine⟨ha.1,fun _=>trivial,fun _=>?_⟩
 refine aR (QX a ha) O1.ne ?_
 rintro r o ⟨rfl,s,p,f,hp,rfl⟩
 simp only[↓zq,zs,ac,zt,bF]
 have WI:=SN s _ p (cH.of p) f
 have WS:=Qo s _ p (cH.of p) f
 rw[qV]at WI WS
 refine aj WI ?_
 simp only[↓zq,zs,ac,zt]
 refine aj WS ?_
 simp only[↓zq,zs,ac,zt]
 refine⟨fun h=>absurd rfl h,fun _=>⟨fun h=>absurd rfl h,fun _=>⟨fun _=>⟨fun _=>by simp,fun h=>absurd rfl h⟩,fun h=>?_⟩⟩⟩
 obtain⟨r,hr⟩:∃r,gm s p f=some r:=by
  unfold od at h
  cases q:gm s p f with
  |none=>rw[q]at h;cases h
  |some r=>exact⟨r,rfl⟩
 obtain⟨w,pl,e1,e2,e3,e4,e5,e6,e7,e8,e9⟩:=GV hr
 have WP:=Ry s _ p (cH.of p) f
 rw[e2]at WP
 rw[e1]
 refine aX WP ?_
 simp only[↓zq,zs,ac,zt,Ob.es,aQ,SW,cz,aZ]
 refine⟨vm _,?_⟩
 have WG:=QQ s w (.sl (eI pl)) pl ⟨(cg _).mpr trivial,fm _⟩ (by omega)
 rw[e3]at WG
 refine aX WG ?_
 simp only[↓zq,zs,ac,zt,aL,Ob.es,aQ,aZ]
 refine⟨eF _,fun _=>⟨fun _=>?_,fun h=>absurd h (by simp)⟩,fun h=>absurd h (by simp)⟩
 refine aj (Pj s w 100) ?_
 simp only[↓zq,zs,ac,e4]
 refine⟨fun _=>?_,fun h=>absurd h (by simp)⟩
 simp[tZ,e8]
end Go.Proofs.Trees
