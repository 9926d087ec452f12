/-
  Part of a proof: Go functions read by values, trees of functions, their contracts.
-/
import Derived.Test.YthcjhageibaepaaGreatDoorP6
set_option linter.unusedVariables false
set_option linter.unusedSimpArgs false
open Bool renaming eq_iff_iff→cy,or_eq_false_iff→ck
open Int renaming toNat_natCast→bM
open List renaming drop_eq_getElem_cons→aR,drop_zero→bb,eq_nil_of_length_eq_zero→ca,getD_eq_getElem?_getD→aa,getElem?_eq_getElem→bp,getElem_mem→bD,headD_cons→aO,length_cons→az,length_map→cj,map_cons→bE,mem_append_left→aD,mem_append_right→aB,mem_cons_of_mem→al,mem_cons_self→ak,mem_map→bQ,nil_append→aT,tail_cons→bq
open Nat renaming le_refl→au
open Option renaming bind_eq_some_iff→aX,bind_none→bI,bind_some→aW,isSome_iff_exists→cb,isSome_none→bu,isSome_some→aZ,map_some→cB
namespace Go.Proofs.Trees
open Go Go.VL Go.RowKit
theorem Ri{s d:Nm}{a:Ty}{l:List Vl}{v:Vl}(h:St s d a l v)(k:Int):an Tryz.prog 44 [u6 s a l v,.v (.int .i64 k)] [] (bJ (oZ s a (qP a l v k))):=by
 obtain⟨x,A,B,D,z⟩:=h.z
 have hnd:=h.i.mj.nd
 have hlen:=h.len
 refine Rx _ _ ((cd _).mpr trivial) ?_
 simp only[Kx,u6,↓zq,zs,ae,kf,aM,aE]
 refine⟨fun h=>(by cases h),fun _=>?_⟩
 repeat refine⟨by first|trivial|omega,?_⟩
 unfold qP
 refine⟨fun h5=>?_,fun h5=>?_⟩
 ·rw[if_pos (by omega)];exact⟨rfl,rfl⟩
 ·rw[if_neg (by omega)]
  repeat refine⟨by first|trivial|omega,?_⟩
  refine ai (JH 100 v x A B a z.body z.hx (h.i.mj.eX z) (by omega)) ?_
  have hkl:(gH (kids a v)).length=(kids a v).length:=by simp[gH]
  simp only[↓zq,zs,ae,hkl]
  refine⟨fun h0=>?_,fun h0=>⟨fun h1=>?_,fun h1=>?_⟩⟩
  ·rw[if_neg (by omega)];exact⟨rfl,rfl⟩
  ·rw[if_neg (by omega)];exact⟨rfl,rfl⟩
  ·have hlt:k.toNat<(kids a v).length:=by omega
   rw[if_pos ⟨by omega,hlt⟩]
   have hg:(gH (kids a v)).getD k.toNat []=[((kids a v)[k.toNat]).1.cA,((kids a v)[k.toNat]).2.cA]:=by simp[gH,aa,hlt]
   have hg2:(kids a v).getD k.toNat (.u,.u)=(kids a v)[k.toNat]:=by simp[aa,hlt]
   have hm:=bD hlt
   rw[hg2]
   have hctx:((kids a v)[k.toNat]).1.nodes<=4*v.nodes:=by
    cases v with
    |f w=>have:=(iB hm).2;simp only[Vl.nodes];omega
    |_=>simp[kids]at hlt
   generalize (kids a v)[k.toNat]=q at *
   simp only[hg,↓zq,zs,ae,aM]
   repeat refine⟨by first|trivial|omega,?_⟩
   refine ai (E2 q.1 (by omega)) ?_
   simp only[↓zq,zs,ae,aM,aE,zt]
   refine⟨fun hb=>?_,fun hb=>?_⟩
   ·rw[if_neg (by omega)];exact⟨rfl,rfl⟩
   ·rw[if_pos (by omega)]
    repeat refine⟨by first|trivial|omega,?_⟩
    refine⟨⟨fun c hc=>?_,by simp[vc];omega⟩,?_⟩
    ·simp only[vc,bQ]at hc
     obtain⟨y,_,rfl⟩:=hc;rfl
    repeat refine⟨by first|trivial|omega,?_⟩
    refine⟨⟨fun c hc=>by simp at hc;rw[hc];rfl,by simp[vc];omega⟩,?_⟩
    repeat refine⟨by first|trivial|omega,?_⟩
    refine⟨?_,rfl⟩
    simp only[oZ,u6,aT,xP]
noncomputable def wt (s:Nm) (p:List Nm) (f:Nm) (k:Int):Option (List Vl×Vl):=(fT s p f).bind fun r=>qP (zA s) r.1 r.2 k
theorem St.gz{s d:Nm}{a:Ty}{l:List Vl}{v:Vl}(h:St s d a l v):GZ (some (l,v)):=h.i.gz (by have:=h.len;omega)
theorem Cs(s:Nm)(p:List Nm)(f:Nm)(k:Int):GZ (wt s p f k):=fun r hr=>by
 obtain⟨q,h1,h2⟩:=aX.1 hr
 obtain⟨d,hs,_⟩:=nf (l:=q.1) (v:=q.2) h1
 exact(hs.dn (l':=r.1) (w:=r.2) h2).1.gz r rfl
theorem rA{l:List Hl}{i:Nat}(h:i<l.length):(kA l).getD i []=[.v (.string (mk (l[i]).1.cw)),.v (.string (mk (l[i]).2.cw))]:=by simp[kA,aa,h]
theorem uP{s:Nm}{p:List Nm}{f:Nm}{r:List Vl×Vl}(h:vF s p f=some r):∃d,cF s=some d/\St s d (zA s) r.1 r.2/\p=r.1.map (·.cw)/\f=r.2.cw:=by
 obtain⟨d,a,x,A,B,D,z,hz,hp,hf,hl,hza,_,hr⟩:=mJ (l:=r.1) (v:=r.2) h
 rw[hza]
 exact⟨d,z.dl,⟨⟨x,A,B,D,z⟩,hz,nR hr hp,by rw[hp]at hl;simpa using hl⟩,hp,hf⟩
theorem EU{s d:Nm}{l:List Vl}{v:Vl}(hs:St s d (zA s) l v)(hd:cF s=some d)(hv:fT s (l.map (·.cw)) v.cw=some (l,v)){k:Int}(h0:0<=k)(hk:k.toNat<(kids (zA s) v).length) :
 fT s (l.map (·.cw)++[((kids (zA s) v)[k.toNat]).1.cw]) ((kids (zA s) v)[k.toNat]).2.cw=qP (zA s) l v k:=by
 rw[Ad hs hd hv (bD hk)]
 unfold qP
 by_cases h5:l.length=50
 ·rw[if_pos h5,if_pos h5]
 ·rw[if_neg h5,if_neg h5,if_pos (show 0<=k/\k.toNat<(kids (zA s) v).length from ⟨h0,hk⟩)]
  have hg2:(kids (zA s) v).getD k.toNat (.u,.u)=(kids (zA s) v)[k.toNat]:=by simp[aa,hk]
  rw[hg2]
theorem Ks(s:Nm)(pa:AV)(p:List Nm)(hp:cm pa p)(f:Nm)(k:Int):an Tryz.prog 30 [.agg [.v (.string (mk s)),pa,.v (.string (mk f))],.v (.int .i64 k)] [] (CZ s (wt s p f k)):=by
 refine P0 _ _ _ _ hp.1 ?_
 unfold Mi
 refine ai (Ej s pa p hp f) ?_
 simp only[↓zq,zs,ae]
 unfold wt
 cases q:fT s p f with
 |none=>simp only[bu];exact⟨fun _=>⟨rfl,rfl⟩,fun h=>by simp at h⟩
 |
  some r =>
  obtain⟨l,v⟩:=r
  obtain⟨d,hd,hs,rfl,rfl⟩:=uP (fH q).1
  obtain⟨x,A,B,D,z⟩:=hs.z
  have hlen:l.length<=50:=hs.len
  have hnd:v.nodes<=200:=hs.i.mj.nd
  have hks:=nj (zA s) v
  have hks2:=kQ (kids (zA s) v)
  simp only[aZ,aW]
  refine⟨fun h=>by simp at h,fun _=>?_⟩
  refine ai (F5 z v hs.i.mj) ?_
  simp only[↓zq,zs,ae,iL]
  rw[wrap64 (((kids (zA s) v).length:Int)-1) (by omega) (by omega)]
  refine ai (zO k 0 _) ?_
  rw[show xS k 0 (((kids (zA s) v).length:Int)-1)=decide (0<=k/\k<=((kids (zA s) v).length:Int)-1) by rw[cy];simp[xS]]
  simp only[↓zq,zs,ae,iL]
  by_cases hin:0<=k/\k<=((kids (zA s) v).length:Int)-1
  ·have hlt:k.toNat<(kids (zA s) v).length:=by omega
   refine⟨fun h=>(by exfalso;first|omega|(simp at h;omega)),fun _=>?_⟩
   simp only[rA hlt,↓zq,zs,ae,zt]
   repeat refine⟨by first|trivial|omega,?_⟩
   refine aV (wI _ pa hp _ (by simp;omega)) ?_
   simp only[↓zq,zs,ae,zt,Ob.es,aO]
   refine⟨dx _,?_⟩
   repeat refine⟨by first|trivial|omega,?_⟩
   have hdn:=KM s (l.map (·.cw)++[((kids (zA s) v)[k.toNat]).1.cw]) ((kids (zA s) v)[k.toNat]).2.cw
   rw[EU hs hd q hin.1 hlt]at hdn
   refine aV hdn ?_
   simp only[↓zq,zs,ae,zt,aI,Ob.es,aO,bq]
   exact⟨rfl,rfl⟩
  ·refine⟨fun _=>?_,fun h=>(by exfalso;first|omega|(simp at h;omega))⟩
   have:qP (zA s) l v k=none:=by
    unfold qP
    by_cases h5:l.length=50
    ·rw[if_pos h5]
    ·rw[if_neg h5,if_neg (by omega)]
   rw[this]
   exact⟨rfl,rfl⟩
end Go.Proofs.Trees
namespace Go.Proofs.Trees
open Go Go.VL Go.RowKit
def dZ(b:AV)(q:Nat)(s:Nm)(p:List Nm)(f:Nm):List Ob:=[.cells [b,.v (.int .i64 (q:Int))],QG,.cells [.v (.string (mk s)),.any,.v (.string (mk f))],.vec 1 (bH p)]
def SU(b:AV)(q c:Nat):Nat->List AV->List Ob->Prop:=fun k ys ob=>k=1/\ys=[]/\∃(q':Nat) (s:Nm) (p:List Nm) (f:Nm),q<=q'/\q'<=q+c/\p.length<=51/\ob=dZ b q' s p f
theorem Ci(s:Nm)(p:List Nm)(f:Nm):-1<=qu s p f/\qu s p f<=1000:=by
 unfold qu
 cases q:fT s p f with
 |none=>simp
 |
  some r =>
  obtain⟨d,hs,_⟩:=nf (l:=r.1) (v:=r.2) q
  have h1:=nj (zA s) r.2
  have h2:=kQ (kids (zA s) r.2)
  have h3:=hs.i.mj.nd
  simp only
  omega
theorem Is(b:AV)(l:List UInt8)(hb:sB b l)(q0 C:Nat)(hC:q0+C<1000000000000):∀(k:Nat) (ok:Bool) (i n q:Nat) (s:Nm) (p:List Nm) (f:Nm),i+k=n->n<=100->q0<=q->q+k<=q0+C->p.length<=51 ->
 GD [.v (.bool ok),.v (.int .i64 (n:Int)),.v (.int .i64 (i:Int))] (dZ b q s p f) (SU b q0 C)
 |
  0,ok,i,n,q,s,p,f,hi,hn,hq0,hq,hp=>by
  refine MY _ _ _ _ _ _ _ _ _ _ _ ?_
  have:i=n:=by omega
  subst this
  simp only[GW,↓zq,zs,ae,zt,ae,bh,hb.has]
  refine⟨fun h=>by omega,fun _=>⟨rfl,rfl,q,s,p,f,by omega,by omega,hp,rfl⟩⟩
 |
  k+1,ok,i,n,q,s,p,f,hi,hn,hq0,hq,hp=>by
  refine MY _ _ _ _ _ _ _ _ _ _ _ ?_
  have hfar:p6=1000000000000000:=rfl
  simp only[GW,↓zq,zs,ae,zt,ae,bh,hb.has]
  refine⟨fun _=>⟨fun hok=>?_,fun _=>⟨rfl,rfl,q,s,p,f,by omega,by omega,hp,rfl⟩⟩,fun h=>by omega⟩
  refine ai (Ru s _ p (cm.of p) f) ?_
  have hm:=Ci s p f
  obtain⟨m,hm1,hm2⟩:∃m:Nat,(if qu s p f>1 then qu s p f else 1)=(m:Int)/\m<=1000:=by
   split
   ·exact⟨(qu s p f).toNat,by omega,by omega⟩
   ·exact⟨1,rfl,by omega⟩
  simp only[↓zq,zs,ae,hm1]
  refine aP (u4 b l hb q m (by omega) (by omega)) (eV.ne ⟨0,rfl,fun h=>by omega,by omega⟩) ?_
  rintro r o ⟨q1,h1,h2,⟨j,rfl,_,_⟩,rfl⟩
  simp only[↓zq,zs,ae,zt,aI,hb.has]
  refine aV (Ks s _ p (cm.of p) f (j:Int)) ?_
  have hl:=ub s (Cs s p f (j:Int))
  simp only[↓zq,zs,ae,zt,aI,Ob.es,aO]
  rw[bA i (by omega)]
  refine⟨dx _,fun _=>?_,fun _=>?_⟩
  ·exact Is b l hb q0 C hC k ok (i+1) n q1 _ _ _ (by omega) hn (by omega) (by omega) hl
  ·exact Is b l hb q0 C hC k ok (i+1) n q1 _ _ _ (by omega) hn (by omega) (by omega) hp
def OX(b:AV)(p c:Nat):AV->List Ob->Prop:=fun r o=>∃(q:Nat) (s:Nm) (pth:List Nm) (f:Nm),p<=q/\q<=p+c/\pth.length<=52/\r=.agg [.v (.string (mk s)),.vec 1,.v (.string (mk f))]/\o=[.cells [b,.v (.int .i64 (q:Int))],.vec 1 (bH pth)]
theorem OX.ne(b:AV)(p c:Nat):∃r o,OX b p c r o:=⟨_,_,p,[],[],[],au _,by omega,by simp,rfl,rfl⟩
theorem Sf(b:AV)(l:List UInt8)(hb:sB b l)(p:Nat)(hp:p<100000000000):an Tryz.prog 31 [.ref 0 0] [.cells [b,.v (.int .i64 (p:Int))]] (OX b p 60000001000):=by
 have hfar:p6=1000000000000000:=rfl
 refine SA _ _ hb.has ?_
 unfold Mr
 refine aP (Sp b l hb p (by omega)) (eV.ne ⟨[],[],rfl⟩) ?_
 rintro r o ⟨q,h1,h2,⟨s,f,rfl⟩,rfl⟩
 simp only[↓zq,zs,ae,zt,aI,hb.has]
 refine aV (R6 s f) ?_
 have hl:=ub s (FD s [] f)
 simp only[↓zq,zs,ae,zt,aI,Ob.es,aO]
 refine⟨dx _,?_⟩
 refine aP (u4 b l hb q 4 (by omega) (by decide)) (eV.ne ⟨0,rfl,fun h=>by omega,by omega⟩) ?_
 rintro r o ⟨q1,g1,g2,⟨n,rfl,_,hn⟩,rfl⟩
 simp only[↓zq,zs,ae,zt,aI,hb.has]
 refine kW (Is b l hb q1 n (by omega) n _ 0 n q1 _ _ _ (by omega) (by omega) (by omega) (by omega) hl) (fun ys o e=>?_) (fun ys o e=>?_)
 ·obtain⟨_,rfl,q2,s2,p2,f2,e1,e2,e3,rfl⟩:=e
  simp only[dZ,↓zq,zs,ae,zt,ae,bh,hb.has,Ob.es,aO,bq,bb]
  refine aP (u4 b l hb q2 20 (by omega) (by decide)) (eV.ne ⟨0,rfl,fun h=>by omega,by omega⟩) ?_
  rintro r o ⟨q3,d1,d2,⟨j,rfl,_,_⟩,rfl⟩
  simp only[↓zq,zs,ae,zt,aI,hb.has]
  have hsl:(bH p2).length=p2.length:=by simp[bH]
  have ap:bH p2++[[.v (.string (mk [117]))]]=bH (p2++[[117]]):=by simp[bH]
  refine⟨fun _=>⟨⟨fun c hc=>(by simp at hc;rw[hc];rfl),by simp;omega⟩,?_⟩,fun _=>⟨fun _=>?_,fun _=>⟨fun _=>?_,fun _=>?_⟩⟩⟩
  ·rw[ap];exact⟨q3,s2,_,f2,by omega,by omega,by simp;omega,rfl,rfl⟩
  ·exact⟨q3,s2,_,_,by omega,by omega,by omega,rfl,rfl⟩
  ·exact⟨q3,_,_,f2,by omega,by omega,by omega,rfl,rfl⟩
  ·exact⟨q3,s2,_,f2,by omega,by omega,by omega,rfl,rfl⟩
 ·exact absurd e.1 (by decide)
end Go.Proofs.Trees
namespace Go.Proofs.Trees
open Go Go.VL Go.RowKit
def SH:AV->List Ob->Prop:=fun r o=>o=[]/\∃(s:Nm) (p:List Nm) (f:Nm),p.length<=52/\r=.agg [.v (.string (mk s)),.sl (bH p),.v (.string (mk f))]
theorem SH.ne:∃r o,SH r o:=⟨_,_,rfl,[],[],[],by simp,rfl⟩
theorem Rz:(0:Nat)<100000000000:=by decide
end Go.Proofs.Trees
namespace Go.Proofs.Trees
open Go Go.VL Go.RowKit
def OW:AV->List Ob->Prop:=fun r o=>o=[]/\∃(s:Nm) (p:List Nm) (f:Nm) (k:Int),p.length<=52/\r=.cD [.agg [.v (.string (mk s)),.sl (bH p),.v (.string (mk f))],.v (.int .i64 k)]
theorem OW.ne:∃r o,OW r o:=⟨_,_,rfl,[],[],[],0,by simp,rfl⟩
def SJ:AV->List Ob->Prop:=fun r o=>o=[]/\∃(s:Nm) (p:List Nm) (f v:Nm),p.length<=52/\r=.cD [.agg [.v (.string (mk s)),.sl (bH p),.v (.string (mk f))],.v (.string (mk v))]
theorem SJ.ne:∃r o,SJ r o:=⟨_,_,rfl,[],[],[],[],by simp,rfl⟩
theorem Q5(a:AV)(ha:yZ a):an Tryz.prog 17 [a] [] OW:=by
 refine Pv _ ha.1 ?_
 unfold J6
 have hfar:p6=1000000000000000:=rfl
 refine aP (RX a ha) O0.ne ?_
 rintro r o ⟨b,l,hb,rfl,rfl⟩
 simp only[↓zq,zs,ae,zt,hb.has]
 refine⟨by simp[bF,hb.has,l5],aP (Sf b l hb 0 Rz) (OX.ne _ _ _) ?_⟩
 rintro r o ⟨q,s,p,f,_,h2,h3,rfl,rfl⟩
 simp only[↓zq,zs,ae,zt,aI,hb.has,bq,aO,Ob.es]
 refine aP (u4 b l hb q 3 (by omega) (by omega)) (eV.ne ⟨0,rfl,fun h=>by omega,by omega⟩) ?_
 rintro r o ⟨q1,b1,b2,⟨k,rfl,_,_⟩,rfl⟩
 simp only[↓zq,zs,ae,zt,aI,hb.has,bq,aO,Ob.es]
 exact⟨rfl,s,p,f,_,h3,rfl⟩
end Go.Proofs.Trees
namespace Go.Proofs.Trees
open Go Go.VL Go.RowKit
def SF(n:Nat):AV->List Ob->Prop:=fun r o=>∃x:Int,r=.v (.int .i64 x)/\(0<=x->n<=1048576)
theorem SF.ne(n:Nat):∃r o,SF n r o:=⟨_,[],-1,rfl,fun h=>by omega⟩
end Go.Proofs.Trees
namespace Go.Proofs.Trees
open Go Go.VL Go.RowKit
def qa(a:AV)(l:List Nat):Prop:=LK.sl.has a/\a.elems=rk l
theorem qa.of(l:List Nat):qa (.sl (rk l)) l:=⟨(cc _).mpr trivial,rfl⟩
theorem qa.nil:qa (.v (.slice none 0 0)) []:=⟨(bh).mpr trivial,rfl⟩
theorem qa.len{a:AV}{l:List Nat}(h:qa a l):a.elems.length=l.length:=by rw[h.2,xB]
theorem qa.idx{a:AV}{l:List Nat}(h:qa a l){i:Nat}(hi:i<l.length):a.elems.getD i []=[.v (.int .i64 (l.getD i 0:Nat))]:=by
 rw[h.2];simp[rk,aa,hi]
end Go.Proofs.Trees
namespace Go.Proofs.Trees
open Go Go.VL Go.RowKit
def vz(l:List Int):List (List AV):=l.map fun k=>[.v (.int .i64 k)]
def qh(a:AV)(l:List Int):Prop:=LK.sl.has a/\a.elems=vz l
theorem zG(l:List Int):(vz l).length=l.length:=by simp[vz]
theorem qh.of(l:List Int):qh (.sl (vz l)) l:=⟨(cc _).mpr trivial,rfl⟩
theorem qh.nil:qh (.v (.slice none 0 0)) []:=⟨(bh).mpr trivial,rfl⟩
theorem qh.len{a:AV}{l:List Int}(h:qh a l):a.elems.length=l.length:=by rw[h.2,zG]
theorem qh.idx{a:AV}{l:List Int}(h:qh a l){i:Nat}(hi:i<l.length):a.elems.getD i []=[.v (.int .i64 (l.getD i 0))]:=by
 rw[h.2];simp[vz,aa,hi]
end Go.Proofs.Trees
namespace Go.Proofs.Trees
open Go Go.VL Go.RowKit
abbrev ZO:=Option (List Vl×Vl)
def DX(s:Nm)(o:ZO):Prop:=∀r,o=some r->∃d,St s d (zA s) r.1 r.2
def SS(a:Ty)(pl:List Int)(o:ZO):ZO:=pl.foldl (fun o k=>o.bind fun r=>qP a r.1 r.2 k) o
theorem DX.dn{s:Nm}{o:ZO}(h:DX s o)(k:Int):DX s (o.bind fun r=>qP (zA s) r.1 r.2 k):=fun r hr=>by
 obtain⟨q,h1,h2⟩:=aX.1 hr
 obtain⟨d,hs⟩:=h q h1
 exact⟨d,(hs.dn (l':=r.1) (w:=r.2) h2).1⟩
theorem DX.go{s:Nm}:∀{pl:List Int} {o:ZO},DX s o->DX s (SS (zA s) pl o)
 |[],o,h=>h
 |k::pl,o,h=>DX.go (pl:=pl) (h.dn k)
theorem DX.gz{s:Nm}{o:ZO}(h:DX s o):GZ o:=fun r hr=>by
 obtain⟨d,hs⟩:=h r hr
 exact hs.gz r rfl
def O1(s:Nm)(o:ZO):Prop:=∀r,o=some r->fT s (r.1.map (·.cw)) r.2.cw=some r
theorem O1.dn{s:Nm}{o:ZO}(h:O1 s o)(k:Int):O1 s (o.bind fun r=>qP (zA s) r.1 r.2 k):=fun r hr=>by
 obtain⟨q,h1,h2⟩:=aX.1 hr
 have hq:=h q h1
 obtain⟨d,hd,hs,_⟩:=uP (fH (l:=q.1) (v:=q.2) hq).1
 obtain⟨e,_,h3,h4,_,_,h0,h5⟩:=rR (l':=r.1) (w:=r.2) h2
 have hk:k.toNat<(kids (zA s) q.2).length:=by
  rcases Nat.lt_or_ge k.toNat (kids (zA s) q.2).length with h|h
  ·exact h
  ·rw[List.getElem?_eq_none h]at h5;cases h5
 have he:(kids (zA s) q.2)[k.toNat]=e:=by rw[bp hk]at h5;cases h5;rfl
 have:=EU hs hd hq h0 hk
 rw[h2,he]at this
 obtain⟨l1,v1⟩:=r
 simp only at h3 h4 |-
 subst h3 h4
 rw[List.map_append]
 exact this
theorem BA{s:Nm}{r:List Vl×Vl}(h:fT s (r.1.map (·.cw)) r.2.cw=some r)(k:Int):wt s (r.1.map (·.cw)) r.2.cw k=qP (zA s) r.1 r.2 k:=by
 unfold wt;rw[h];rfl
end Go.Proofs.Trees
namespace Go.Proofs.Trees
open Go Go.VL Go.RowKit
def oc(c:Nm):List Hl->Nat->Int
 |[],_=>-1
 |h::l,i=>if h.1.cw=c then(i:Int)else oc c l (i+1)
theorem AG(c:Nm):∀(l:List Hl) (i:Nat),-1<=oc c l i/\oc c l i<(i:Int)+(l.length:Int)+1
 |[],i=>⟨by simp[oc],by simp[oc];omega⟩
 |
  h::l,i=>by
  have:=AG c l (i+1)
  unfold oc
  split
  ·exact⟨by omega,by simp;omega⟩
  ·refine⟨this.1,?_⟩
   have h2:=this.2
   rw[az];omega
theorem BD{c:Nm}{l:List Hl}{N:Nat}(h:l.length<=N):-1<=oc c l 0/\oc c l 0<(N:Int)+1:=by
 have:=AG c l 0
 exact⟨this.1,by omega⟩
theorem Qf(q:Vl)(w:AV)(hw:LK.ptr.has w)(c:Nm)(hq:q.cw.length<=900000):an Tryz.prog 59 [.agg [q.cA,w],.ref 0 0] [.cells [.v (.string (mk c))]] (dq (.v (.bool (decide (q.cw=c)))) [.cells [.v (.string (mk c))]]):=by
 refine Sg _ _ _ ((aM _).mpr trivial) hw ?_
 unfold K1
 refine ai (En q hq) ?_
 simp only[↓zq,zs,ae,zt]
 refine⟨?_,rfl⟩
 congr 2
 rw[cy];simp
theorem Ot(c:Nm)(l:List Hl)(hl:l.length<=1000)(ht:∀h,h∈l->h.1.cw.length<=900000):∀(k i:Nat),i+k=l.length->Gg [.sl (gH l),.v (.int .i64 (l.length:Int)),.v (.int .i64 (i:Int))] [.cells [.v (.string (mk c))]]
 (nU (if oc c (l.drop i) i = -1 then(1,[],[.cells [.v (.string (mk c))]])else(2,[.v (.int .i64 (oc c (l.drop i) i))],[.cells [.v (.string (mk c))]])))
 |
  0,i,hi=>by
  refine L8 _ _ _ _ ?_
  have:i=l.length:=by omega
  subst this
  simp only[Gs,↓zq,zs,ae,zt,ae,List.drop_length,oc]
  exact⟨fun h=>by omega,fun _=>by simp[nU]⟩
 |
  k+1,i,hi=>by
  have hlt:i<l.length:=by omega
  refine L8 _ _ _ _ ?_
  simp only[Gs,↓zq,zs,ae,zt,ae,bF,ep,lF hlt,aM,bM]
  refine⟨fun _=>?_,fun h=>by omega⟩
  repeat refine⟨by first|trivial|omega,?_⟩
  refine aV (Qf (l[i]).1 _ ((aM _).mpr trivial) c (ht _ (bD hlt))) ?_
  simp only[↓zq,zs,ae,zt,aI]
  rw[aR hlt,oc]
  by_cases h:(l[i]).1.cw=c
  ·simp only[if_pos h]
   refine⟨fun _=>?_,fun hn=>absurd h (by simpa using hn)⟩
   rw[if_neg (by omega)]
  ·simp only[if_neg h]
   refine⟨fun hp=>absurd (by simpa using hp) h,fun _=>?_⟩
   rw[bA i (by omega)]
   exact Ot c l hl ht k (i+1) (by omega)
theorem Rb(c:Nm)(l:List Hl)(hl:l.length<=1000)(ht:∀h,h∈l->h.1.cw.length<=900000):an Tryz.prog 57 [.sl (gH l),.fn 59 [.ref 0 0]] [.cells [.v (.string (mk c))]] (dq (.v (.int .i64 (oc c l 0))) [.cells [.v (.string (mk c))]]):=by
 refine Qb _ _ ((cc _).mpr trivial) ?_
 simp only[K5,↓zq,zs,ae,ep]
 have hloop:=Ot c l hl ht l.length 0 (by omega)
 rw[bb]at hloop
 refine fm hloop (fun ys o e=>?_) (fun ys o e=>?_)
 ·split at e
  ·rename_i h
   cases e
   simp only[↓zq,zs,ae,zt,ae]
   rw[h];exact⟨rfl,rfl⟩
  ·cases e
 ·split at e
  ·cases e
  ·cases e
   simp only[↓zq,zs,ae,zt,ae]
   exact⟨rfl,rfl⟩
theorem Fo.kt{a:Ty}{v:Vl}(h:Fo a v):(kids a v).length<=199/\(∀k,k∈kids a v->k.1.cw.length<=900000):=by
 refine⟨?_,fun k hk=>(rm h hk).1⟩
 have h1:=nj a v
 have h2:=kQ (kids a v)
 have:=h.nd
 omega
theorem RW{s d:Nm}{a:Ty}{l l':List Vl}{v w c:Vl}(h:St s d a l v)(hu:pB a l v=some (l',w))(hc:l=l'++[c]):an Tryz.prog 35 [u6 s a l v,u6 s a l' w] [] (bJ (.v (.int .i64 (oc c.cw (kids a w) 0)))):=by
 have h':=h.up hu
 obtain⟨x,A,B,D,z⟩:=h.z
 have hlen:=h.len
 have hl1:l.length=l'.length+1:=by rw[hc];simp
 refine Sn _ _ ((cd _).mpr trivial) ((cd _).mpr trivial) ?_
 simp only[Mz,u6,↓zq,zs,ae,kf,aM,aE]
 repeat refine⟨by first|trivial|omega,?_⟩
 rw[wrap64 ((l.length:Int)-1) (by omega) (by omega)]
 have e1:((l.length:Int)-1).toNat=l'.length:=by omega
 have hg:(vc l).getD l'.length []=[c.cA]:=by rw[uk (by omega)];simp[hc]
 simp only[e1,hg,↓zq,zs,ae,aM]
 repeat refine⟨by first|trivial|omega,?_⟩
 have hcx:=h.i.ctx c (by rw[hc];simp)
 refine ai (En c hcx.cw) ?_
 simp only[↓zq,zs,ae,zt,aM,aE]
 repeat refine⟨by first|trivial|omega,?_⟩
 have hnd:=h'.i.mj.nd
 refine ai (JH 100 w x A B a z.body z.hx (h'.i.mj.eX z) (by omega)) ?_
 simp only[↓zq,zs,ae,zt]
 have hk:=h'.i.mj.kt
 refine aV (Rb c.cw (kids a w) (by omega) hk.2) ?_
 simp only[↓zq,zs,ae,zt,aI]
 exact⟨rfl,rfl⟩
end Go.Proofs.Trees
namespace Go.Proofs.Trees
open Go Go.VL Go.RowKit
theorem Dq{a:Ty}:∀(n:Nat) (l:List Vl) (v:Vl),l.length=n->(jY n a l v).isSome=true->∀c l',l=l'++[c]->∃w,pB a l v=some (l',w)/\(jY l'.length a l' w).isSome=true
 |0,l,v,hl,_,c,l',h=>by rw[h]at hl;simp at hl
 |
  n+1,l,v,hl,hs,c,l',h=>by
  rw[jY]at hs
  cases q:pB a l v with
  |none=>rw[q]at hs;cases hs
  |
   some r =>
   obtain⟨l1,w⟩:=r
   rw[q]at hs
   have h2:l1=l':=by
    unfold pB at q
    rw[h,List.getLast?_concat]at q
    simp only at q
    split at q
    ·cases q;simp
    ·cases q
   subst h2
   have hn:l1.length=n:=by rw[h]at hl;simpa using hl
   exact⟨w,rfl,by rw[hn];exact hs⟩
theorem vR{d:Nm}:∀{l:List Vl},(∀c,c∈l->ng d c.cw 100=some c)->eG d (l.map (·.cw))=some l
 |[],_=>rfl
 |
  c::l,h=>by
  rw[bE,eG,h c ak,vR fun x hx=>h x (al _ hx)]
theorem DQ{s d:Nm}{l:List Vl}{v:Vl}(hs:St s d (zA s) l v)(hd:cF s=some d):fT s (l.map (·.cw)) v.cw=if(s8 (zA s) l v).isSome=true then some (l,v)else none:=by
 obtain⟨x,A,B,D,z⟩:=hs.z
 have hlen:=hs.len
 have e1:ng s v.cw 100=some v:=by rw[z.cw hs.i.mj.gZ hs.i.mj.ty,if_pos hs.i.mj.nd]
 unfold fT
 rw[uo,hd]
 simp only[aW,z.l,e1,vR hs.each,cj,if_pos hlen,cB]
theorem yt{s d:Nm}{l l':List Vl}{v w:Vl}(hs:St s d (zA s) l v)(hd:cF s=some d)(hv:fT s (l.map (·.cw)) v.cw=some (l,v))(hu:pB (zA s) l v=some (l',w)):fT s (l'.map (·.cw)) w.cw=some (l',w):=by
 rw[DQ (hs.up hu) hd]
 have h1:=(fH hv).2
 obtain⟨_,h2,_⟩:=mQ hs.i hu
 unfold s8 at h1 |-
 rw[<-h2,jY,hu]at h1
 exact if_pos h1
theorem mF(l:List Vl)(c:Vl):((l++[c]).getLast?).getD .u=c:=by rw[List.getLast?_concat];rfl
theorem LW(s c f:Nm)(pa:AV)(p:List Nm)(hp:cm pa (p++[c]))(hpl:p.length<=1000)(l:List Hl)(hl:l.length<=1000):∀(k i:Nat),i+k=l.length->FT [.sl (kA l),.v (.int .i64 (i:Int))] [.cells [.v (.string (mk s)),pa,.v (.string (mk f))]]
 (nU (if oc c (l.drop i) i = -1 then(1,[],[])else(2,[.v (.int .i64 (oc c (l.drop i) i))],[])))
 |
  0,i,hi=>by
  refine MH _ _ _ _ _ ?_
  have:i=l.length:=by omega
  subst this
  simp only[HV,↓zq,zs,ae,zt,ae,iL,List.drop_length,oc]
  exact⟨hp.1,fun h=>by omega,fun _=>by simp[nU]⟩
 |
  k+1,i,hi=>by
  have hlt:i<l.length:=by omega
  refine MH _ _ _ _ _ ?_
  have hpl2:(p++[c]).length=p.length+1:=by simp
  have e1:(((p.length+1:Nat):Int)-1).toNat=p.length:=by omega
  have hg:(p++[c]).getD p.length []=c:=by simp[aa]
  simp only[HV,↓zq,zs,ae,zt,ae,iL,rA hlt,bM,hp.len,hpl2]
  rw[wrap64 (((p.length+1:Nat):Int)-1) (by omega) (by omega),e1,hp.idx (by rw[hpl2];omega),hg]
  simp only[↓zq,zs,ae,zt]
  refine⟨hp.1,fun _=>?_,fun h=>by omega⟩
  refine⟨by omega,by omega,hp.1,⟨hp.1,by omega,by omega⟩,by omega,?_⟩
  rw[aR hlt,oc]
  by_cases h:(l[i]).1.cw=c
  ·simp only[if_pos h]
   refine⟨fun _=>?_,fun hn=>absurd h (by simpa using hn)⟩
   rw[if_neg (by omega)]
  ·simp only[if_neg h]
   refine⟨fun hp=>absurd (by simpa using hp) h,fun _=>?_⟩
   rw[bA i (by omega)]
   exact LW s c f pa p hp hpl l hl k (i+1) (by omega)
theorem RB{s d:Nm}{a:Ty}{l l':List Vl}{v w c:Vl}(h:St s d a l v)(hu:pB a l v=some (l',w))(hc:l=l'++[c])(pa:AV)(hp:cm pa (l.map (·.cw))):an Tryz.prog 37 [.agg [.v (.string (mk s)),pa,.v (.string (mk v.cw))]] [] (bJ (.v (.int .i64 (oc c.cw (kids a w) 0)))):=by
 have h':=h.up hu
 obtain⟨x,A,B,D,z⟩:=h.z
 have hlen':=h'.len
 have hk:=h'.i.mj.kt
 refine QW _ _ _ hp.1 ?_
 unfold Jd
 refine ai (Hm h pa hp) ?_
 rw[p7 hu]
 simp only[↓zq,zs,ae,zt,bF,cc]
 refine ai (F5 z w h'.i.mj) ?_
 simp only[↓zq,zs,ae]
 have hp':cm pa (l'.map (·.cw)++[c.cw]):=by rw[hc,List.map_append]at hp;exact hp
 have hloop:=LW s c.cw v.cw pa _ hp' (by simp;omega) (kids a w) (by omega) (kids a w).length 0 (by omega)
 rw[bb]at hloop
 refine fm hloop (fun ys o e=>?_) (fun ys o e=>?_)
 ·split at e
  ·rename_i hh
   cases e
   rw[hh];exact⟨rfl,rfl⟩
  ·cases e
 ·split at e
  ·cases e
  ·cases e
   simp only[↓zq,zs,ae]
   exact⟨rfl,rfl⟩
noncomputable def k9 (s:Nm) (p:List Nm) (f:Nm) (st:Int):ZO:=(fT s p f).bind fun r=>(pB (zA s) r.1 r.2).bind fun u=>qP (zA s) u.1 u.2 (oc ((r.1.getLast?).getD .u).cw (kids (zA s) u.2) 0+st)
theorem AH(s:Nm)(p:List Nm)(f:Nm)(st:Int):GZ (k9 s p f st):=fun r hr=>by
 obtain⟨q,h1,h2⟩:=aX.1 hr
 obtain⟨u,h3,h4⟩:=aX.1 h2
 obtain⟨d,hs,_⟩:=nf (l:=q.1) (v:=q.2) h1
 exact((hs.up (l':=u.1) (w:=u.2) h3).dn (l':=r.1) (w:=r.2) h4).1.gz r rfl
theorem xV{a:Ty}{l:List Vl}{v:Vl}{k:Int}(h:k<0):qP a l v k=none:=by
 unfold qP
 split
 ·rfl
 ·rw[if_neg (by omega)]
theorem za{a:Ty}{l:List Vl}{v:Vl}{k:Int}(hv:Fo a v)(h:199<=k):qP a l v k=none:=by
 have:=hv.kt.1
 unfold qP
 split
 ·rfl
 ·rw[if_neg (by omega)]
theorem KD(s:Nm)(pa:AV)(p:List Nm)(hp:cm pa p)(f:Nm)(st:Int):an Tryz.prog 18 [.agg [.v (.string (mk s)),pa,.v (.string (mk f))],.v (.int .i64 st)] [] (CZ s (k9 s p f st)):=by
 refine Si _ _ _ _ hp.1 ?_
 unfold N9
 refine ai (SG s pa p hp f) ?_
 simp only[↓zq,zs,ae,zt,mI]
 unfold k9
 cases q:fT s p f with
 |
  none =>
  refine ai (show an Tryz.prog 34 [oZ s (zA s) none] [] (bJ gp) from I6) ?_
  simp only[↓zq,zs,ae,zt,bI]
  exact⟨fun _=>⟨rfl,rfl⟩,fun h=>(by cases h)⟩
 |
  some r =>
  obtain⟨l,v⟩:=r
  obtain⟨d,hs,_⟩:=nf q
  refine ai (show an Tryz.prog 34 [oZ s (zA s) (some (l,v))] [] (bJ (oZ s (zA s) (pB (zA s) l v))) from F9 s (zA s) l v hs.i hs.len) ?_
  simp only[↓zq,zs,ae,zt,aW,mI]
  cases q2:pB (zA s) l v with
  |
   none =>
   simp only[oZ,↓zq,zs,ae,bI]
   exact⟨fun _=>⟨rfl,rfl⟩,fun h=>(by cases h)⟩
  |
   some u =>
   obtain⟨l',w⟩:=u
   obtain⟨_,_,c,hc,_⟩:=mQ hs.i q2
   have hs':=hs.up q2
   have hix:=RW hs q2 hc
   have hk:=hs'.i.mj.kt
   have hb:=BD (c:=c.cw) hk.1
   simp only[aW,hc,mF]
   rw[hc]at hix
   generalize hI:oc c.cw (kids (zA s) w) 0=I at *
   have hn:(oZ s (zA s) (some (l',w))).isNil=false:=rfl
   simp only[hn]
   refine⟨fun h=>(by cases h),fun _=>?_⟩
   refine ai (show an Tryz.prog 35 [oZ s (zA s) (some (l'++[c],v)),oZ s (zA s) (some (l',w))] [] (bJ (.v (.int .i64 I))) from hix) ?_
   simp only[↓zq,zs,ae,zt]
   rw[wrap64 (0-I) (by omega) (by omega)]
   refine⟨fun h1=>?_,fun h1=>⟨fun h2=>?_,fun h2=>?_⟩⟩
   ·rw[xV (by omega)];exact⟨rfl,rfl⟩
   ·rw[za hs'.i.mj (by omega)];exact⟨rfl,rfl⟩
   ·rw[wrap64 (I+st) (by omega) (by omega)]
    refine ai (show an Tryz.prog 44 [oZ s (zA s) (some (l',w)),.v (.int .i64 (I+st))] [] (bJ (oZ s (zA s) (qP (zA s) l' w (I+st)))) from Ri hs' (I+st)) ?_
    simp only[↓zq,zs,ae,zt,mI]
    have hgz:GZ (qP (zA s) l' w (I+st)):=fun r hr=>(hs'.dn (l':=r.1) (w:=r.2) hr).1.gz r rfl
    refine aV (JJ s (zA s) _ hgz) ?_
    simp only[↓zq,zs,ae,zt,aI]
    exact⟨dx _,rfl,rfl⟩
theorem Py(s:Nm)(pa:AV)(p:List Nm)(hp:cm pa p)(f:Nm)(st:Int):an Tryz.prog 19 [.agg [.v (.string (mk s)),pa,.v (.string (mk f))],.v (.int .i64 st)] [] (DM s (k9 s p f st)):=by
 refine RR _ _ _ _ hp.1 ?_
 unfold Ou
 refine ai (Ej s pa p hp f) ?_
 simp only[↓zq,zs,ae]
 unfold k9
 cases q:fT s p f with
 |none=>simp only[bu];exact⟨fun _=>DM.none s,fun h=>by simp at h⟩
 |
  some r =>
  obtain⟨l,v⟩:=r
  obtain⟨d,hd,hs,rfl,rfl⟩:=uP (fH q).1
  have hcl:=(fH q).2
  simp only[aZ,aW,hp.len,cj]
  refine⟨fun h=>by simp at h,fun _=>⟨hp.1,fun h0=>?_,fun h0=>?_⟩⟩
  ·have:l=[]:=ca (by simpa using h0)
   subst this
   exact DM.none s
  ·have hne:l≠[]:=by rintro rfl;simp at h0
   have hlc:l=l.dropLast++[l.getLast hne]:=(List.dropLast_concat_getLast hne).symm
   obtain⟨w,hu,_⟩:=Dq l.length l v rfl hcl _ _ hlc
   have hix:=RB hs hu hlc pa hp
   have hup:=Hm hs pa hp
   rw[p7 hu]at hup
   have hv':=yt hs hd q hu
   have hs':=hs.up hu
   have hk:=hs'.i.mj.kt
   have hb:=BD (c:=(l.getLast hne).cw) hk.1
   have hgl:(l.getLast?).getD .u=l.getLast hne:=by rw[List.getLast?_eq_some_getLast hne];rfl
   simp only[hu,aW,hgl]
   generalize l.dropLast=l' at *
   generalize l.getLast hne=c at *
   generalize hI:oc c.cw (kids (zA s) w) 0=I at *
   refine ai (zO st (-1000) 1000) ?_
   simp only[↓zq,zs,ae]
   by_cases hin:-1000<=st/\st<=1000
   ·rw[show xS st (-1000) 1000=true by simp[xS,hin]]
    refine⟨fun h=>by simp at h,fun _=>?_⟩
    refine ai hup ?_
    simp only[↓zq,zs,ae,zt,bF,cc]
    refine ai hix ?_
    simp only[↓zq,zs,ae,zt]
    rw[wrap64 (I+st) (by omega) (by omega)]
    have hdn:=Ks s _ _ (cm.of (l'.map (·.cw))) w.cw (I+st)
    rw[BA (r:=(l',w)) hv']at hdn
    refine aV hdn ?_
    simp only[↓zq,zs,ae,zt,aI,Ob.es,aO]
    exact⟨dx _,rfl,_,cm.of _,rfl⟩
   ·rw[show xS st (-1000) 1000=false by simp[xS];omega]
    refine⟨fun _=>?_,fun h=>by simp at h⟩
    have:qP (zA s) l' w (I+st)=none:=by
     by_cases h1:st < -1000
     ·exact xV (by omega)
     ·exact za hs'.i.mj (by omega)
    rw[this]
    exact DM.none s
end Go.Proofs.Trees
namespace Go.Proofs.Trees
open Go Go.VL Go.RowKit
def u7(l:List Hl):Prop:=(l.map (·.1)).Nodup
theorem qV:u7 []:=List.nodup_nil
theorem D0(h:Hl):u7 [h]:=by simp[u7]
theorem mY{g:Vl->Vl}(hg:∀x y,g x=g y->x=y){l:List Hl}(h:u7 l):u7 (iF g l):=by
 unfold u7 iF at *
 rw[List.map_map]
 have:((fun x:Hl=>x.1)∘fun h:Hl=>(g h.1,h.2))=g∘(fun x:Hl=>x.1):=rfl
 rw[this,<-List.map_map]
 exact List.Pairwise.map _ (fun a b hab e=>hab (hg _ _ e)) h
theorem ux{l r:List Hl}(hl:u7 l)(hr:u7 r)(h:∀x y,x∈l->y∈r->x.1≠y.1):u7 (l++r):=by
 unfold u7 at *
 rw[List.map_append,List.nodup_append]
 refine⟨hl,hr,?_⟩
 intro a ha b hb e
 obtain⟨x,hx,rfl⟩:=bQ.1 ha
 obtain⟨y,hy,rfl⟩:=bQ.1 hb
 exact h x y hx hy e
theorem wj{f:Hl->List Hl}:∀{l:List Hl},u7 l->(∀h,h∈l->u7 (f h))->(∀h k,h∈l->k∈l->h.1≠k.1->∀x y,x∈f h->y∈f k->x.1≠y.1)->u7 (l.flatMap f)
 |[],_,_,_=>qV
 |
  h::l,hn,hf,hd=>by
  rw[List.flatMap_cons]
  unfold u7 at hn
  rw[bE,List.nodup_cons]at hn
  refine ux (hf h ak) (wj (l:=l) hn.2 (fun k hk=>hf k (al _ hk)) fun a b ha hb=>hd a b (al _ ha) (al _ hb)) ?_
  intro x y hx hy
  obtain⟨k,hk,hy⟩:=List.mem_flatMap.1 hy
  refine hd h k ak (al _ hk) (fun e=>hn.1 ?_) x y hx hy
  rw[e];exact bQ.2 ⟨k,hk,rfl⟩
theorem jq:∀(n:Nat) (t:Ty) (tg:Tg) (v:Vl),u7 (dE n t tg v)
 |0,t,tg,v=>qV
 |
  n+1,t,tg,v=>by
  unfold dE
  split
  ·exact D0 _
  ·unfold i7
   split
   ·exact mY (fun x y e=>by cases e;rfl) (jq n _ _ _)
   ·exact mY (fun x y e=>by cases e;rfl) (jq n _ _ _)
   ·refine ux (mY (fun x y e=>by cases e;rfl) (jq n _ _ _)) (mY (fun x y e=>by cases e;rfl) (jq n _ _ _)) fun x y hx hy e=>?_
    obtain⟨k,_,rfl⟩:=cZ hx
    obtain⟨k',_,rfl⟩:=cZ hy
    cases e
   ·refine ux (mY (fun x y e=>by cases e;rfl) (jq n _ _ _)) (wj (jq n _ _ _) (fun h hh=>mY (fun x y e=>by cases e;rfl) (jq n _ _ _)) fun h k hh hk hne x y hx hy e=>?_) fun x y hx hy e=>?_
    ·obtain⟨a,_,rfl⟩:=cZ hx
     obtain⟨b,_,rfl⟩:=cZ hy
     injection e with e
     injection e with e
     injection e with e1 e2
     exact hne e1
    ·obtain⟨k,_,rfl⟩:=cZ hx
     obtain⟨h,_,hy⟩:=List.mem_flatMap.1 hy
     obtain⟨b,_,rfl⟩:=cZ hy
     cases e
   ·exact qV
end Go.Proofs.Trees
namespace Go.Proofs.Trees
open Go Go.VL Go.RowKit
theorem yN(a:Ty)(v:Vl):u7 (kids a v):=by
 cases v<;>first|exact jq _ _ _ _|exact qV
theorem xA:∀(l:List Hl) (i k:Nat) (q:Hl),u7 l->(∀h,h∈l->h.1.gZ 100)->l[k]?=some q->oc q.1.cw l i=((i+k:Nat):Int)
 |[],i,k,q,_,_,h=>by simp at h
 |
  h::l,i,0,q,hn,hb,hk=>by
  simp only[List.getElem?_cons_zero,Option.some.injEq]at hk
  subst hk
  simp[oc]
 |
  h::l,i,k+1,q,hn,hb,hk=>by
  rw[List.getElem?_cons_succ]at hk
  have hm:q∈l:=List.mem_of_getElem? hk
  unfold u7 at hn
  rw[bE,List.nodup_cons]at hn
  have hne:¬h.1.cw=q.1.cw:=fun e=>hn.1 (by
   have:=uF (hb h ak) (hb q (al _ hm)) e
   rw[this];exact bQ.2 ⟨q,hm,rfl⟩)
  rw[oc,if_neg hne,xA l (i+1) k q hn.2 (fun x hx=>hb x (al _ hx)) hk]
  omega
end Go.Proofs.Trees
namespace Go.Proofs.Trees
open Go Go.VL Go.RowKit
def CH(x:Nm)(i:Nat)(tg tg':Tg):Prop:=(tg=.bd i/\tg'=.nm x)\/(∃s,s≠x/\tg=.nm s/\tg'=.nm s)\/∃j,j<i/\tg=.bd j/\tg'=.bd j
theorem CH.up{x:Nm}{i:Nat}{tg tg':Tg}(h:CH x i tg tg'):CH x (i+1) tg.up tg'.up:=by
 rcases h with⟨rfl,rfl⟩|⟨s,h,rfl,rfl⟩|⟨j,h,rfl,rfl⟩
 ·exact .inl ⟨rfl,rfl⟩
 ·exact .inr (.inl ⟨s,h,rfl,rfl⟩)
 ·exact .inr (.inr ⟨j+1,by omega,rfl,rfl⟩)
theorem Cl{x:Nm}{i:Nat}{tg tg':Tg}(h:CH x i tg tg')(t:Ty)(hx:bn x t=false):eF (dC (.name x) t i) tg'=eF t tg:=by
 cases t with
 |
  bound k =>
  simp only[dC]
  rcases h with⟨rfl,rfl⟩|⟨s,h,rfl,rfl⟩|⟨j,h,rfl,rfl⟩
  ·split
   ·rename_i e;simp[eF,e]
   ·rename_i e;simp[eF,e]
  ·split
   ·simp[eF,Ne.symm h]
   ·simp[eF]
  ·split
   ·rename_i e;simp only[eF];exact(decide_eq_false (by omega)).symm
   ·simp[eF]
 |
  name n =>
  have hn:¬n=x:=by simpa[bn]using hx
  rcases h with⟨rfl,rfl⟩|⟨s,h,rfl,rfl⟩|⟨j,h,rfl,rfl⟩<;>simp[dC,eF,hn]
 |_=>rcases h with⟨rfl,rfl⟩|⟨s,h,rfl,rfl⟩|⟨j,h,rfl,rfl⟩<;>rfl
theorem fI(x:Nm):∀(n:Nat) (t:Ty) (i:Nat) (tg tg':Tg) (v:Vl),bn x t=false->CH x i tg tg'->dE n (dC (.name x) t i) tg' v=dE n t tg v
 |0,_,_,_,_,_,_,_=>rfl
 |
  n+1,t,i,tg,tg',v,hx,hr=>by
  rw[dE,dE,Cl hr t hx]
  split
  ·rfl
  ·cases t with
   |
    plus a b =>
    simp only[bn,ck]at hx
    cases v with
    |l w=>exact congrArg (iF .l) (fI x n a i tg tg' w hx.1 hr)
    |r w=>exact congrArg (iF .r) (fI x n b i tg tg' w hx.2 hr)
    |_=>rfl
   |
    times a b =>
    simp only[bn,ck]at hx
    cases v with
    |
     p y z =>
     simp only[dC,i7]
     rw[fI x n a i tg tg' y hx.1 hr,fI x n b i tg tg' z hx.2 hr]
    |_=>rfl
   |
    rc a =>
    cases v with
    |
     f w =>
     simp only[dC,i7]
     rw[fI x n a (i+1) tg.up tg'.up w hx hr.up,fI x n a (i+1) (.bd 0) (.bd 0) w hx (.inr (.inr ⟨0,by omega,rfl,rfl⟩))]
     congr 1
     refine iQ fun h hh=>?_
     have:=fI x n (.rc a) i tg tg' h.2 hx hr
     simp only[dC]at this
     rw[this]
    |_=>rfl
   |
    bound k =>
    simp only[dC]
    split<;>(cases v<;>rfl)
   |_=>rfl
theorem pM{g:Vl->Vl}{l:List Hl}{c v:Vl}(h:(c,v)∈l):(g c,v)∈iF g l:=bQ.2 ⟨_,h,rfl⟩
theorem ql(n:Nat):∀(m:Nat) (c:Vl),c.nodes<=m->∀(t:Ty) (s:Nm) (d:Ty) (σ:Nm->Option Ty),Dv t s d->CM σ->jx t 0->vT n c (eU σ d)=true->∀(v:Vl) (k:Nat),(cX t c v).nodes<=k->(c,v)∈dE k t (.nm s) (cX t c v)
 |0,c,h=>by have:=dw c;omega
 |
  m+1,c,hm=>by
  intro t s d σ hd hσ hl hv v k hk
  have no:∀c,vT n c .zero=false:=fun c=>by cases c<;>rfl
  obtain⟨k,rfl⟩:∃j,k=j+1:=⟨k-1,by have:=dw (cX t c v);omega⟩
  cases hd with
  |zero=>rw[show eU σ .zero=.zero from rfl,no]at hv;cases hv
  |one=>rw[show eU σ .zero=.zero from rfl,no]at hv;cases hv
  |bound=>rw[show eU σ .zero=.zero from rfl,no]at hv;cases hv
  |qx=>rw[show eU σ .zero=.zero from rfl,no]at hv;cases hv
  |
   hit =>
   have hc:c=.u:=by
    have hv:vT n c .one=true:=hv
    cases c<;>first|rfl|simp[vT]at hv
   rw[lq,dE,if_pos (by simp[eF]),hc];exact ak
  |
   plus h1 h2 _ =>
   rcases ji hv with⟨w,rfl,hw⟩|⟨w,rfl,hw⟩
   ·simp only[Vl.nodes]at hm
    rename_i a b _ _
    simp only[cX,Vl.nodes]at hk
    have:=ql n m w (by omega) _ s _ σ h1 hσ hl.1 hw v k (by omega)
    exact pM (g:=.l) this
   ·simp only[Vl.nodes]at hm
    simp only[cX,Vl.nodes]at hk
    have:=ql n m w (by omega) _ s _ σ h2 hσ hl.2 hw v k (by omega)
    exact pM (g:=.r) this
  |
   times h1 h2 _ =>
   rcases ji hv with⟨w,rfl,hw⟩|⟨w,rfl,hw⟩
   ·obtain⟨x,y,rfl,hx,hy⟩:=gr hw
    simp only[Vl.nodes]at hm
    simp only[cX,Vl.nodes]at hk
    have:=ql n m x (by omega) _ s _ σ h1 hσ hl.1 hx v k (by omega)
    exact aD _ (pM (g:=fun c=>.l (.p c y)) this)
   ·obtain⟨x,y,rfl,hx,hy⟩:=gr hw
    simp only[Vl.nodes]at hm
    simp only[cX,Vl.nodes]at hk
    have:=ql n m y (by omega) _ s _ σ h2 hσ hl.2 hy v k (by omega)
    exact aB _ (pM (g:=fun c=>.r (.p x c)) this)
  |
   @rc a _ c0 d0 x hx hs h1 h2 hsz =>
   have lo:jx (dC (.name x) a 0) 0:=gF x a hl
   obtain⟨X,e1,e2⟩:=oH (x:=x) hσ hl (h1.lc lo) (h2.lc lo)
   have hv':=hv
   rw[e1]at hv'
   obtain⟨w,rfl,hw⟩:=BV hv'
   rw[e2]at hw
   have hcl:=lK hσ x (j2 hσ (.rc a) hl)
   rcases ji hw with⟨y,rfl,hy⟩|⟨y,rfl,hy⟩
   ·simp only[Vl.nodes]at hm
    simp only[cX,Vl.nodes]at hk
    have:=ql n m y (by omega) _ s _ _ h1 hcl lo hy v k (by rw[dM x y.nodes y a 0 v (au _)];omega)
    rw[dM x y.nodes y a 0 v (au _),fI x k a 0 (.nm s) (.nm s) _ hx (.inr (.inl ⟨s,Ne.symm hs,rfl,rfl⟩))]at this
    exact aD _ (pM (g:=fun c=>.f (.l c)) this)
   ·obtain⟨y,z,rfl,hy,hz⟩:=gr hy
    simp only[Vl.nodes]at hm
    simp only[cX,Vl.nodes]at hk
    have q1:=ql n m y (by omega) _ x _ _ h2 hcl lo hy (cX (.rc a) z v) k (by rw[dM x y.nodes y a 0 _ (au _)];omega)
    rw[dM x y.nodes y a 0 _ (au _),fI x k a 0 (.bd 0) (.nm x) _ hx (.inl ⟨rfl,rfl⟩)]at q1
    have hsz2:=(fg k a (.bd 0) _ _ q1).1
    have q2:=ql n m z (by omega) (.rc a) s _ σ (.rc x hx hs h1 h2 hsz) hσ hl hz v k (by simp only at hsz2;omega)
    exact aB _ (List.mem_flatMap.2 ⟨_,q1,pM (g:=fun c=>.f (.r (.p y c))) q2⟩)
theorem G8{n:Nat}{a D:Ty}{x:Nm}(hx:bn x a=false)(hl:jx (.rc a) 0)(h:oe a x=some D){c:Vl}(hc:vT n c D=true)(v:Vl):(c,v)∈kids a (.f (cX a c v)):=by
 simp only[oe,aX,cR,eN]at h
 obtain⟨d,hd,_,rfl⟩:=h
 have lo:jx (dC (.name x) a 0) 0:=gF x a hl
 have hcl:=lK rZ x hl
 have e1:sub x (.rc a) d=eU (iW Dc x (.rc a)) d:=by
  have:=il Dc x (.rc a) d
  rw[iZ,iZ]at this;exact this
 rw[e1]at hc
 have h1:=ql n c.nodes c (au _) _ x _ _ hd hcl lo hc v (cX a c v).nodes (by rw[dM x c.nodes c a 0 v (au _)];omega)
 rw[dM x c.nodes c a 0 v (au _),fI x _ a 0 (.bd 0) (.nm x) _ hx (.inl ⟨rfl,rfl⟩)]at h1
 exact h1
end Go.Proofs.Trees
namespace Go.Proofs.Trees
open Go Go.VL Go.RowKit
theorem ZT.hole{s d:Nm}{a:Ty}{x A B:E}{D:Ty}(z:ZT s d a x A B D){c:Nm}{w:Vl}(h:ng d c 100=some w)(v:Vl):(w,v)∈kids a (.f (cX a w v)):=by
 obtain⟨e,t,m,h1,h2,h3,h4,h5,h6,h7⟩:=pg h
 have hm:m=100:=by omega
 subst hm
 have:=uN h3
 rw[z.bk]at this;cases this
 rw[mX h4]at h7
 obtain⟨e2,he2,hw2,hte2,_,_⟩:=nX z.y
 have hlc:jx (.rc a) 0:=hte2 ▸ hw2.qA.1
 exact G8 (uc z.y) hlc z.lp h7 v
end Go.Proofs.Trees
namespace Go.Proofs.Trees
open Go Go.VL Go.RowKit
theorem St.CJ{s d:Nm}{a:Ty}{l l':List Vl}{v w c:Vl}(h:St s d a l v)(hu:pB a l v=some (l',w))(hc:l=l'++[c]):w=.f (cX a c v)/\∃k:Nat,(kids a w)[k]?=some (c,v)/\oc c.cw (kids a w) 0=(k:Int):=by
 obtain⟨x,A,B,D,z⟩:=h.z
 have h':=h.up hu
 obtain⟨_,_,c',hc',hw⟩:=mQ h.i hu
 have e:c=c':=by rw[hc]at hc';exact List.singleton_inj.1 (List.append_cancel_left hc')
 subst e
 have hm:(c,v)∈kids a w:=by rw[hw];exact z.hole (h.each c (by rw[hc];simp)) v
 obtain⟨k,hk⟩:=List.getElem?_of_mem hm
 refine⟨hw,k,hk,?_⟩
 have:=xA (kids a w) 0 k _ (yN a w) (fun x hx=>(j6 h'.i.mj.gZ hx).1) hk
 simpa using this
theorem St.SL{s d:Nm}{a:Ty}{l:List Vl}{v w c:Vl}(h:St s d a l v){k:Hl}(hk:k∈kids a v)(hv:ng d k.1.cw 100=some k.1):k.1.nodes<=200:=by
 obtain⟨x,A,B,D,z⟩:=h.z
 obtain⟨t1,_,_⟩:=z.QB h.i.mj hk
 rw[z.P4 (j6 h.i.mj.gZ hk).1 t1]at hv
 split at hv
 ·assumption
 ·cases hv
theorem St.back{s d:Nm}{a:Ty}{l l':List Vl}{v w c:Vl}(h:St s d a l v)(hu:pB a l v=some (l',w))(hc:l=l'++[c]):qP a l' w (oc c.cw (kids a w) 0)=some (l,v):=by
 obtain⟨_,k,hk,e⟩:=h.CJ hu hc
 have hlen:=h.len
 have hm:=List.mem_of_getElem? hk
 have hn:c.nodes<=200:=(h.up hu).SL (w:=v) (c:=v) hm (h.each c (by rw[hc];simp))
 have hlt:k<(kids a w).length:=(List.getElem?_eq_some_iff.1 hk).1
 have hg:(kids a w).getD k (.u,.u)=(c,v):=by rw[aa,hk];rfl
 rw[e];unfold qP
 rw[if_neg (by rw[hc]at hlen;simp at hlen;omega),if_pos ⟨by omega,by simpa using hlt⟩,bM,hg,if_pos hn,hc]
theorem Ac{s:Nm}{p:List Nm}{f:Nm}{r:List Vl×Vl}(h:fT s p f=some r):∃d,cF s=some d/\St s d (zA s) r.1 r.2/\p=r.1.map (·.cw)/\f=r.2.cw/\∃w,s8 (zA s) r.1 r.2=some w:=by
 obtain⟨h1,h2⟩:=fH (l:=r.1) (v:=r.2) h
 obtain⟨d,hd,hs,hp,hf⟩:=uP h1
 obtain⟨w,hw⟩:=cb.1 h2
 exact⟨d,hd,hs,hp,hf,w,hw⟩
theorem As{s:Nm}{p:List Nm}{f:Nm}{st:Int}{r:List Vl×Vl}(h:k9 s p f st=some r):∃r0 u,fT s p f=some r0/\p=r0.1.map (·.cw)/\f=r0.2.cw/\k9 s (r.1.map (·.cw)) r.2.cw (0-st)=some r0/\Dd s p f=some u/\Dd s (r.1.map (·.cw)) r.2.cw=some u/\-1000<=st/\st<=1000:=by
 obtain⟨r0,h0,h1⟩:=aX.1 h
 obtain⟨u,h2,h3⟩:=aX.1 h1
 obtain⟨d,hd,hs,hp,hf,w,hw⟩:=Ac h0
 obtain⟨l,v⟩:=r0
 obtain⟨l1,v1⟩:=u
 obtain⟨l',v'⟩:=r
 simp only at h1 h2 h3 hs hp hf hw |-
 rw[hp,hf]at h0
 have hu:=yt hs hd h0 h2
 have hs1:=hs.up h2
 obtain⟨_,_,c,hc,_⟩:=mQ hs.i h2
 have hro:O1 s (some (l1,v1)):=fun q hq=>by cases hq;exact hu
 have hv:=hro.dn _ (l',v') h3
 simp only at hv
 obtain⟨g1,g2,_⟩:=hs1.dn h3
 obtain⟨q,hq,e1,e2,_,_,e3,e4⟩:=rR h3
 have hback:=hs.back h2 hc
 obtain⟨_,k,hk,ek⟩:=hs.CJ h2 hc
 have hlc:(l.getLast?).getD .u=c:=by rw[hc];exact mF _ _
 rw[hlc]at h3 e3 e4
 have hix:=xA (kids (zA s) v1) 0 _ q (yN _ _) (fun x hx=>(j6 hs1.i.mj.gZ hx).1) e4
 have hlt:(oc c.cw (kids (zA s) v1) 0+st).toNat<(kids (zA s) v1).length:=(List.getElem?_eq_some_iff.1 e4).1
 have hlt2:k<(kids (zA s) v1).length:=(List.getElem?_eq_some_iff.1 hk).1
 have hkt:=hs1.i.mj.kt.1
 refine⟨(l,v),(l1,v1),by rw[hp,hf];exact h0,hp,hf,?_,?_,?_,by omega,by omega⟩
 ·unfold k9
  rw[hv]
  simp only[aW,g2]
  have:(l'.getLast?).getD .u=q.1:=by rw[e1];exact mF _ _
  rw[this,hix,show ((0+(oc c.cw (kids (zA s) v1) 0+st).toNat:Nat):Int)+(0-st)=oc c.cw (kids (zA s) v1) 0 by omega]
  exact hback
 ·rw[hp,hf];unfold Dd;rw[h0];exact h2
 ·unfold Dd;rw[hv];exact g2
end Go.Proofs.Trees
namespace Go.Proofs.Trees
open Go Go.VL Go.RowKit
theorem Ms(a b:AV)(l:List (List UInt8))(ha:cm a l)(hb:cm b l)(hl:l.length<=2000000):∀(m i:Nat),i+m=l.length->G0 [a,b,.v (.int .i64 (i:Int))] [] (iG 1 [] [])
 |
  0,i,hi=>by
  refine Kl _ _ _ ?_
  simp only[F2,↓zq,zs,ae,ha.len]
  exact⟨ha.1,hb.1,ha.1,fun h=>by omega,fun _=>⟨rfl,rfl,rfl⟩⟩
 |
  m+1,i,hi=>by
  have hlt:i<l.length:=by omega
  refine Kl _ _ _ ?_
  simp only[F2,↓zq,zs,ae,zt,ha.len,hb.len,ha.idx hlt,hb.idx hlt,bM]
  refine⟨ha.1,hb.1,ha.1,fun _=>⟨⟨ha.1,by omega,by omega⟩,by omega,⟨hb.1,by omega,by omega⟩,by omega,fun h=>by simp at h,fun _=>?_⟩,fun h=>by omega⟩
  rw[bA i (by omega)]
  exact Ms a b l ha hb hl m (i+1) (by omega)
theorem Ra(a b:AV)(l:List (List UInt8))(ha:cm a l)(hb:cm b l)(hl:l.length<=2000000):an Tryz.prog 42 [a,b] [] (bJ (.v (.bool true))):=by
 refine Sl _ _ ha.1 hb.1 ?_
 simp only[OJ,↓zq,zs,ae,ha.len,hb.len]
 refine⟨ha.1,hb.1,fun h=>by simp at h,fun _=>?_⟩
 refine cJ (Ms a b l ha hb hl l.length 0 (by omega)) ?_
 simp[bJ,↓zq,zs,ae]
theorem Gf(s f:(List UInt8))(x y:AV)(l:List (List UInt8))(hx:cm x l)(hy:cm y l)(hl:l.length<=2000000):an Tryz.prog 16 [.agg [.v (.string (mk s)),x,.v (.string (mk f))],.agg [.v (.string (mk s)),y,.v (.string (mk f))]] [] (bJ (.v (.bool true))):=by
 refine Q6 _ _ _ _ _ _ hx.1 hy.1 ?_
 simp only[Ky,↓zq,zs,ae,zt,bJ]
 refine⟨fun _=>⟨fun _=>?_,fun h=>absurd rfl h⟩,fun h=>absurd rfl h⟩
 refine ai (Ra x y l hx hy hl) ?_
 simp only[↓zq,zs,ae,zt]
end Go.Proofs.Trees
namespace Go.Proofs.Trees
open Go Go.VL Go.RowKit
theorem Qe(a:AV)(ha:yZ a):an Tryz.prog 5 [a] [] (bJ (.v (.bool true))):=by
 refine O4 _ ha.1 ?_
 simp only[Je,↓zq,zs,ae,zt,bJ]
 refine⟨ha.1,fun _=>trivial,fun _=>?_⟩
 refine aP (Q5 a ha) OW.ne ?_
 rintro r o ⟨rfl,s,p,f,st,hp,rfl⟩
 simp only[↓zq,zs,ae,zt,bF]
 have hl:=ub s (o:=k9 s p f st) (AH s p f st)
 have EQ:=fun(w:AV) hw=>Gf (tZ s (k9 s p f st)).1 (tZ s (k9 s p f st)).2.2 _ w _ (cm.of (tZ s (k9 s p f st)).2.1) hw (by omega)
 refine aV (KD s _ p (cm.of p) f st) ?_
 simp only[↓zq,zs,ae,zt,aI,Ob.es,aO]
 refine⟨dx _,?_⟩
 refine aP (Py s _ p (cm.of p) f st) (DM.ne _ _) ?_
 rintro r o ⟨rfl,w,hw,rfl⟩
 simp only[↓zq,zs,ae,zt,bF]
 refine⟨hw.1,fun h=>by simp at h,fun _=>?_⟩
 refine ai (EQ w hw) ?_
 simp only[↓zq,zs,ae]
 cases hr:k9 s p f st with
 |
  none =>
  rw[hr]at EQ hw
  refine⟨fun h=>by simp at h,fun _=>⟨fun _=>⟨fun _=>ai (EQ w hw) ?_,fun h=>absurd rfl h⟩,fun h=>by simp at h⟩⟩
  simp only[↓zq,zs,ae]
 |
  some r =>
  obtain⟨r0,u,h0,hpp,hff,hb,u1,u2,b1,b2⟩:=As hr
  have Ho:r0.1.length<=52:=by rw[hpp]at hp;simpa using hp
  have W1:=KD s (.sl (bH (r.1.map (·.cw)))) _ (cm.of _) r.2.cw (0-st)
  have W2:=JB s (.sl (bH p)) p (cm.of p) f
  have W3:=JB s (.sl (bH (r.1.map (·.cw)))) _ (cm.of _) r.2.cw
  rw[hb]at W1
  rw[u1]at W2
  rw[u2]at W3
  rw[wrap64 _ (by omega) (by omega)]
  have hlu:=ub s (o:=some u) (by rw[<-u1];exact Bq s p f)
  refine⟨fun h=>by simp at h,fun _=>⟨fun h=>by simp at h,fun _=>aV W1 ?_⟩⟩
  simp only[↓zq,zs,ae,zt,aI,Ob.es,aO,aZ]
  refine⟨dx _,aV W2 ?_⟩
  simp only[↓zq,zs,ae,zt,aI,Ob.es,aO,aZ]
  refine⟨dx _,aV W3 ?_⟩
  simp only[↓zq,zs,ae,zt,aI,Ob.es,aO,aZ]
  refine⟨dx _,fun _=>⟨fun _=>⟨fun _=>?_,fun h=>by simp at h⟩,fun h=>by simp at h⟩,fun h=>by simp at h⟩
  rw[hpp,hff]
  refine ai (Gf s r0.2.cw _ _ (r0.1.map (·.cw)) (cm.of _) (cm.of _) (by simp;omega)) ?_
  simp only[↓zq,zs,ae]
  refine⟨fun _=>?_,fun h=>by simp at h⟩
  have hlu':u.1.length<=51:=by simpa[tZ]using hlu
  refine ai (Gf s u.2.cw _ _ (u.1.map (·.cw)) (cm.of _) (cm.of _) (by simpa using(by omega:u.1.length<=2000000))) ?_
  simp only[↓zq,zs,ae]
end Go.Proofs.Trees
