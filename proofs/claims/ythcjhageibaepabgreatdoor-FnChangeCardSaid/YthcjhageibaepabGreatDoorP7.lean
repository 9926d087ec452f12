/-
  Part of a proof: Go functions read by values, trees of functions, their contracts.
-/
import Derived.Test.YthcjhageibaepabGreatDoorP6
set_option linter.unusedVariables false
set_option linter.unusedSimpArgs false
open And renaming intro→aJ
open Bool renaming eq_iff_iff→cJ
open Int renaming tmod→dN,toNat_natCast→bF
open List renaming append_assoc→aY,cons_append→bj,drop_eq_getElem_cons→aL,drop_zero→aZ,flatMap_cons→bU,getD_eq_getElem?_getD→aa,getElem?_eq_getElem→a7,getElem_mem→bh,headD_cons→aM,length_append→an,length_cons→aw,length_map→cn,length_nil→aF,map_cons→bA,mem_append→aP,mem_cons→aI,mem_cons_of_mem→al,mem_cons_self→ak,mem_flatMap→dA,mem_map→bO,mem_singleton→aU,nil_append→aR,tail_cons→bx
open Nat renaming le_add_right→dj,le_refl→au,mul_le_mul_right→bg,zero_add→ba,zero_le→dM
open Option renaming bind_eq_some_iff→bc,bind_none→bC,bind_some→aS,getD_some→cH,isSome_iff_exists→a8,isSome_none→bf,isSome_some→a6,map_some→cz
open UInt8 renaming ofNat→bp
namespace Go.Proofs.Trees
open Go Go.VL Go.RowKit
theorem St.dn{s d:Nm}{a:Ty}{l l':List Vl}{v w:Vl}{k:Int}(h:St s d a l v)(hu:tH a l v k=some (l',w)):St s d a l' w/\vF a l' w=some (l,v)/\l'.length=l.length+1:=by
 obtain⟨q,hq,rfl,rfl,hn,h50,_,_⟩:=nL hu
 obtain⟨x,A,B,D,z⟩:=h.z
 obtain⟨t1,t2,t3⟩:=z.Jz h.i.rY hq
 have hv:mZ d q.1.cf 100=some q.1:=by rw[z.UZ (eD h.i.rY.fu hq).1 t1,if_pos hn]
 have hlen:=h.len
 refine⟨⟨⟨x,A,B,D,z⟩,⟨fun c hc=>?_,t2⟩,fun c hc=>?_,by simp;omega⟩,(sV t3 h.i.rY.nd).1,by simp⟩
 ·rcases aP.1 hc with hc|hc
  ·exact h.i.ctx c hc
  ·simp only[aU]at hc;subst hc;exact z.ctx hv
 ·rcases aP.1 hc with hc|hc
  ·exact h.each c hc
  ·simp only[aU]at hc;subst hc;exact hv
theorem R5{s d:Nm}{a:Ty}{l:List Vl}{v:Vl}(h:St s d a l v)(k:Int):aq Tryz.prog 64 [tC s a l v,.v (.int .i64 k)] [] (bN (oZ s a (tH a l v k))):=by
 obtain⟨x,A,B,D,z⟩:=h.z
 have hnd:=h.i.rY.nd
 have hlen:=h.len
 refine ND _ _ ((cm _).mpr trivial) ?_
 simp only[Jv,tC,↓zq,zs,af,j4,aO,aE]
 refine⟨fun h=>(by cases h),fun _=>?_⟩
 repeat refine⟨by first|trivial|omega,?_⟩
 unfold tH
 refine⟨fun h5=>?_,fun h5=>?_⟩
 ·rw[if_pos (by omega)];exact⟨rfl,rfl⟩
 ·rw[if_neg (by omega)]
  repeat refine⟨by first|trivial|omega,?_⟩
  refine aj (Jd 100 v x A B a z.body z.hx (h.i.rY.eF z) (by omega)) ?_
  have hkl:(gJ (kids a v)).length=(kids a v).length:=by simp[gJ]
  simp only[↓zq,zs,af,hkl]
  refine⟨fun h0=>?_,fun h0=>⟨fun h1=>?_,fun h1=>?_⟩⟩
  ·rw[if_neg (by omega)];exact⟨rfl,rfl⟩
  ·rw[if_neg (by omega)];exact⟨rfl,rfl⟩
  ·have hlt:k.toNat<(kids a v).length:=by omega
   rw[if_pos ⟨by omega,hlt⟩]
   have hg:(gJ (kids a v)).getD k.toNat []=[((kids a v)[k.toNat]).1.cI,((kids a v)[k.toNat]).2.cI]:=by simp[gJ,aa,hlt]
   have hg2:(kids a v).getD k.toNat (.u,.u)=(kids a v)[k.toNat]:=by simp[aa,hlt]
   have hm:=bh hlt
   rw[hg2]
   have hctx:((kids a v)[k.toNat]).1.nodes<=4*v.nodes:=by
    cases v with
    |f w=>have:=(gn hm).2;simp only[Vl.nodes];omega
    |_=>simp[kids]at hlt
   generalize (kids a v)[k.toNat]=q at *
   simp only[hg,↓zq,zs,af,aO]
   repeat refine⟨by first|trivial|omega,?_⟩
   refine aj (Gm q.1 (by omega)) ?_
   simp only[↓zq,zs,af,aO,aE,zt]
   refine⟨fun hb=>?_,fun hb=>?_⟩
   ·rw[if_neg (by omega)];exact⟨rfl,rfl⟩
   ·rw[if_pos (by omega)]
    repeat refine⟨by first|trivial|omega,?_⟩
    refine⟨⟨fun c hc=>?_,by simp[wU];omega⟩,?_⟩
    ·simp only[wU,bO]at hc
     obtain⟨y,_,rfl⟩:=hc;rfl
    repeat refine⟨by first|trivial|omega,?_⟩
    refine⟨⟨fun c hc=>by simp at hc;rw[hc];rfl,by simp[wU];omega⟩,?_⟩
    repeat refine⟨by first|trivial|omega,?_⟩
    refine⟨?_,rfl⟩
    simp only[oZ,tC,aR,zJ]
theorem RT(s:Nm)(a:Ty)(o:Option (List Vl×Vl))(ho:∀r,o=some r->∃d,St s d a r.1 r.2)(k:Int):aq Tryz.prog 64 [oZ s a o,.v (.int .i64 k)] [] (bN (oZ s a (o.bind fun r=>tH a r.1 r.2 k))):=by
 cases o with
 |
  none =>
  refine ND _ _ ((gU).mpr trivial) ?_
  simp only[Jv,oZ,↓zq,zs,af,bC]
  exact⟨fun _=>⟨rfl,rfl⟩,fun h=>(by cases h)⟩
 |
  some r =>
  obtain⟨d,h⟩:=ho r rfl
  exact R5 h k
noncomputable def zx (s:Nm) (p:List Nm) (f:Nm) (k:Int):Option (List Vl×Vl):=(ia s p f).bind fun r=>tH (zA s) r.1 r.2 k
theorem St.gz{s d:Nm}{a:Ty}{l:List Vl}{v:Vl}(h:St s d a l v):GZ (some (l,v)):=h.i.gz (by have:=h.len;omega)
theorem yi{l:List Hl}{i:Nat}(h:i<l.length):(mG l).getD i []=[.v (.string (mk (l[i]).1.cf)),.v (.string (mk (l[i]).2.cf))]:=by simp[mG,aa,h]
theorem oK{s:Nm}{p:List Nm}{f:Nm}{r:List Vl×Vl}(h:tA s p f=some r):∃d,cP s=some d/\St s d (zA s) r.1 r.2/\p=r.1.map (·.cf)/\f=r.2.cf:=by
 obtain⟨d,a,x,A,B,D,z,hz,hp,hf,hl,hza,_,hr⟩:=nu (l:=r.1) (v:=r.2) h
 rw[hza]
 exact⟨d,z.dl,⟨⟨x,A,B,D,z⟩,hz,oX hr hp,by rw[hp]at hl;simpa using hl⟩,hp,hf⟩
theorem GC{s d:Nm}{l:List Vl}{v:Vl}(hs:St s d (zA s) l v)(hd:cP s=some d)(hv:ia s (l.map (·.cf)) v.cf=some (l,v)){k:Int}(h0:0<=k)(hk:k.toNat<(kids (zA s) v).length) :
 ia s (l.map (·.cf)++[((kids (zA s) v)[k.toNat]).1.cf]) ((kids (zA s) v)[k.toNat]).2.cf=tH (zA s) l v k:=by
 rw[BD hs hd hv (bh hk)]
 unfold tH
 by_cases h5:l.length=50
 ·rw[if_pos h5,if_pos h5]
 ·rw[if_neg h5,if_neg h5,if_pos (show 0<=k/\k.toNat<(kids (zA s) v).length from ⟨h0,hk⟩)]
  have hg2:(kids (zA s) v).getD k.toNat (.u,.u)=(kids (zA s) v)[k.toNat]:=by simp[aa,hk]
  rw[hg2]
theorem S6(s:Nm)(pa:AV)(p:List Nm)(hp:cQ pa p)(f:Nm)(k:Int):aq Tryz.prog 89 [.agg [.v (.string (mk s)),pa,.v (.string (mk f))],.v (.int .i64 k)] [] (CM s (zx s p f k)):=by
 refine TP _ _ _ _ hp.1 ?_
 unfold Mu
 refine aj (F5 s pa p hp f) ?_
 simp only[↓zq,zs,af]
 unfold zx
 cases q:ia s p f with
 |none=>simp only[bf];exact⟨fun _=>⟨rfl,rfl⟩,fun h=>by simp at h⟩
 |
  some r =>
  obtain⟨l,v⟩:=r
  obtain⟨d,hd,hs,rfl,rfl⟩:=oK (im q).1
  obtain⟨x,A,B,D,z⟩:=hs.z
  have hlen:l.length<=50:=hs.len
  have hnd:v.nodes<=200:=hs.i.rY.nd
  have hks:=lZ (zA s) v
  have hks2:=lO (kids (zA s) v)
  simp only[a6,aS]
  refine⟨fun h=>by simp at h,fun _=>?_⟩
  refine aj (Sk z v hs.i.rY) ?_
  simp only[↓zq,zs,af,oO]
  rw[wrap64 (((kids (zA s) v).length:Int)-1) (by omega) (by omega)]
  refine aj (CL k 0 _) ?_
  rw[show Ed k 0 (((kids (zA s) v).length:Int)-1)=decide (0<=k/\k<=((kids (zA s) v).length:Int)-1) by rw[cJ];simp[Ed]]
  simp only[↓zq,zs,af,oO]
  by_cases hin:0<=k/\k<=((kids (zA s) v).length:Int)-1
  ·have hlt:k.toNat<(kids (zA s) v).length:=by omega
   refine⟨fun h=>(by exfalso;first|omega|(simp at h;omega)),fun _=>?_⟩
   simp only[yi hlt,↓zq,zs,af,zt]
   repeat refine⟨by first|trivial|omega,?_⟩
   refine aX (yj _ pa hp _ (by simp;omega)) ?_
   simp only[↓zq,zs,af,zt,Ob.es,aM]
   refine⟨dk _,?_⟩
   repeat refine⟨by first|trivial|omega,?_⟩
   have hdn:=IG s (l.map (·.cf)++[((kids (zA s) v)[k.toNat]).1.cf]) ((kids (zA s) v)[k.toNat]).2.cf
   rw[GC hs hd q hin.1 hlt]at hdn
   refine aX hdn ?_
   simp only[↓zq,zs,af,zt,aH,Ob.es,aM,bx]
   exact⟨rfl,rfl⟩
  ·refine⟨fun _=>?_,fun h=>(by exfalso;first|omega|(simp at h;omega))⟩
   have:tH (zA s) l v k=none:=by
    unfold tH
    by_cases h5:l.length=50
    ·rw[if_pos h5]
    ·rw[if_neg h5,if_neg (by omega)]
   rw[this]
   exact⟨rfl,rfl⟩
end Go.Proofs.Trees
namespace Go.Proofs.Trees
open Go Go.VL Go.RowKit
abbrev ZO:=Option (List Vl×Vl)
def BI(s:Nm)(o:ZO):Prop:=∀r,o=some r->∃d,St s d (zA s) r.1 r.2
def As(a:Ty)(pl:List Int)(o:ZO):ZO:=pl.foldl (fun o k=>o.bind fun r=>tH a r.1 r.2 k) o
theorem jI(a:Ty):∀pl,As a pl none=none
 |[]=>rfl
 |_::pl=>jI a pl
theorem nr(a:Ty)(k:Int)(pl:List Int)(o:ZO):As a (k::pl) o=As a pl (o.bind fun r=>tH a r.1 r.2 k):=rfl
theorem BI.dn{s:Nm}{o:ZO}(h:BI s o)(k:Int):BI s (o.bind fun r=>tH (zA s) r.1 r.2 k):=fun r hr=>by
 obtain⟨q,h1,h2⟩:=bc.1 hr
 obtain⟨d,hs⟩:=h q h1
 exact⟨d,(hs.dn (l':=r.1) (w:=r.2) h2).1⟩
theorem BI.go{s:Nm}:∀{pl:List Int} {o:ZO},BI s o->BI s (As (zA s) pl o)
 |[],o,h=>h
 |k::pl,o,h=>BI.go (pl:=pl) (h.dn k)
theorem BI.gz{s:Nm}{o:ZO}(h:BI s o):GZ o:=fun r hr=>by
 obtain⟨d,hs⟩:=h r hr
 exact hs.gz r rfl
theorem z7{a:Ty}:∀{pl:List Int} {l l':List Vl} {v w:Vl},As a pl (some (l,v))=some (l',w)->l.length<=50->l'.length=l.length+pl.length/\l'.length<=50
 |[],l,l',v,w,h,hl=>by cases h;exact⟨rfl,hl⟩
 |
  k::pl,l,l',v,w,h,hl=>by
  rw[nr]at h
  simp only[aS]at h
  cases q:tH a l v k with
  |none=>rw[q,jI]at h;cases h
  |
   some r =>
   obtain⟨l1,v1⟩:=r
   rw[q]at h
   obtain⟨_,_,e,_,_,h5,_⟩:=nL q
   have hl1:l1.length=l.length+1:=by rw[e];simp
   obtain⟨h1,h2⟩:=z7 h (by omega)
   exact⟨by rw[h1,hl1,aw];omega,h2⟩
theorem Af(s:Nm)(p:List Nm)(f:Nm):BI s (tA s p f):=fun r hr=>by
 obtain⟨d,_,hs,_⟩:=oK hr
 exact⟨d,hs⟩
noncomputable def GB (s f:Nm) (pl:List Int):ZO:=As (zA s) pl (tA s [] f)
theorem Kb(s f:Nm)(pl:List Int):BI s (GB s f pl):=(Af s [] f).go
theorem Lq(s:Nm)(a:AV)(pl:List Int)(ha:iC a pl)(hl:pl.length<=2000000):∀(k i:Nat) (o:ZO),i+k=pl.length->BI s o ->
 G7 [oZ s (zA s) o,a,.v (.int .i64 (pl.length:Int)),.v (.int .i64 (i:Int))] [Il] (gK 1 [oZ s (zA s) (As (zA s) (pl.drop i) o)] [Il])
 |
  0,i,o,hi,ho=>by
  refine P4 _ _ _ _ _ _ _ ?_
  have:i=pl.length:=by omega
  subst this
  simp only[HD,↓zq,zs,af,zt,af,kp,bo,List.drop_length]
  exact⟨ha.1,fun h=>by omega,fun _=>⟨rfl,rfl,rfl⟩⟩
 |
  k+1,i,o,hi,ho=>by
  have hlt:i<pl.length:=by omega
  refine P4 _ _ _ _ _ _ _ ?_
  simp only[HD,↓zq,zs,af,zt,af,kp,bo,ha.len,ha.idx hlt,bF]
  refine⟨ha.1,fun _=>⟨⟨ha.1,by omega,by omega⟩,by omega,?_⟩,fun h=>by omega⟩
  refine aj (RT s (zA s) o ho _) ?_
  simp only[↓zq,zs,af,kp]
  have hd:pl.drop i=pl.getD i 0::pl.drop (i+1):=by rw[aL hlt];simp[aa,hlt]
  rw[bB i (by omega),hd,nr]
  exact Lq s a pl ha hl k (i+1) _ (by omega) (ho.dn _)
theorem Un(s f:Nm)(a:AV)(pl:List Int)(ha:iC a pl)(hl:pl.length<=2000000):aq Tryz.prog 30 [.v (.string (mk s)),.v (.string (mk f)),a] [] (CM s (GB s f pl)):=by
 refine UE _ _ _ ha.1 ?_
 unfold N0
 refine aj (Ls s _ [] (cQ.nil) f) ?_
 simp only[↓zq,zs,af,zt,kp,ha.len]
 refine⟨ha.1,?_⟩
 have hloop:=Lq s a pl ha hl pl.length 0 (tA s [] f) (by omega) (Af s [] f)
 rw[aZ]at hloop
 refine cA hloop ?_
 simp only[↓zq,zs,af,zt,af,kp,bo]
 refine aX (Ot s (zA s) _ (Kb s f pl).gz) ?_
 simp only[↓zq,zs,af,zt,aH]
 exact⟨dk _,rfl,rfl⟩
def M8(s:Nm)(o:ZO):Prop:=∀r,o=some r->ia s (r.1.map (·.cf)) r.2.cf=some r
theorem M8.dn{s:Nm}{o:ZO}(h:M8 s o)(k:Int):M8 s (o.bind fun r=>tH (zA s) r.1 r.2 k):=fun r hr=>by
 obtain⟨q,h1,h2⟩:=bc.1 hr
 have hq:=h q h1
 obtain⟨d,hd,hs,_⟩:=oK (im (l:=q.1) (v:=q.2) hq).1
 obtain⟨e,_,h3,h4,_,_,h0,h5⟩:=nL (l':=r.1) (w:=r.2) h2
 have hk:k.toNat<(kids (zA s) q.2).length:=by
  rcases Nat.lt_or_ge k.toNat (kids (zA s) q.2).length with h|h
  ·exact h
  ·rw[List.getElem?_eq_none h]at h5;cases h5
 have he:(kids (zA s) q.2)[k.toNat]=e:=by rw[a7 hk]at h5;cases h5;rfl
 have:=GC hs hd hq h0 hk
 rw[h2,he]at this
 obtain⟨l1,v1⟩:=r
 simp only at h3 h4 |-
 subst h3 h4
 rw[List.map_append]
 exact this
theorem C4(s f:Nm):M8 s (tA s [] f):=fun r hr=>by
 obtain⟨d,_,_,h1,h2⟩:=oK hr
 rw[<-h1,<-h2,wu];exact hr
theorem Cu{s:Nm}{r:List Vl×Vl}(h:ia s (r.1.map (·.cf)) r.2.cf=some r)(k:Int):zx s (r.1.map (·.cf)) r.2.cf k=tH (zA s) r.1 r.2 k:=by
 unfold zx;rw[h];rfl
def RB(s:Nm)(o:ZO):Nat->List AV->List Ob->Prop:=fun k ys ob=>match o with
 |some r=>k=1/\ys=[]/\ob=[Il,.cells [.v (.string (mk s)),.any,.v (.string (mk r.2.cf))],.vec 1 (bX (r.1.map (·.cf)))]
 |none=>k=2/\ys=[.v (.bool false)]/\ob=[Il]
theorem Lu(s:Nm)(a:AV)(pl:List Int)(ha:iC a pl)(hl:pl.length<=50):∀(k i:Nat) (r:List Vl×Vl),i+k=pl.length->M8 s (some r) ->
 H6 [a,.v (.int .i64 (i:Int))] [Il,.cells [.v (.string (mk s)),.any,.v (.string (mk r.2.cf))],.vec 1 (bX (r.1.map (·.cf)))] (RB s (As (zA s) (pl.drop i) (some r)))
 |
  0,i,r,hi,ho=>by
  refine LB _ _ _ _ _ _ _ _ ?_
  have:i=pl.length:=by omega
  subst this
  simp only[Jp,↓zq,zs,af,zt,af,bo,ha.len,List.drop_length]
  exact⟨ha.1,ha.1,fun h=>by omega,fun _=>⟨rfl,rfl,rfl⟩⟩
 |
  k+1,i,r,hi,ho=>by
  have hlt:i<pl.length:=by omega
  refine LB _ _ _ _ _ _ _ _ ?_
  simp only[Jp,↓zq,zs,af,zt,af,bo,ha.len,ha.idx hlt,bF]
  refine⟨ha.1,ha.1,fun _=>⟨⟨ha.1,by omega,by omega⟩,by omega,?_⟩,fun h=>by omega⟩
  have hdn:=S6 s (.sl (bX (r.1.map (·.cf)))) _ (cQ.of _) r.2.cf (pl.getD i 0)
  rw[Cu (ho r rfl)]at hdn
  refine aX hdn ?_
  have hd:pl.drop i=pl.getD i 0::pl.drop (i+1):=by rw[aL hlt];simp[aa,hlt]
  rw[hd,nr]
  simp only[aS]
  have ho':=ho.dn (pl.getD i 0)
  simp only[aS]at ho'
  cases q:tH (zA s) r.1 r.2 (pl.getD i 0)with
  |
   none =>
   rw[jI]
   simp only[↓zq,zs,af,zt,aH,Ob.es,aM,bf]
   exact⟨dk _,fun _=>⟨rfl,rfl,rfl⟩,fun h=>by simp at h⟩
  |
   some r1 =>
   simp only[↓zq,zs,af,zt,aH,Ob.es,aM,a6]
   refine⟨dk _,fun h=>by simp at h,fun _=>?_⟩
   rw[bB i (by omega)]
   rw[q]at ho'
   exact Lu s a pl ha hl k (i+1) r1 (by omega) ho'
theorem Sg(s f:Nm)(a:AV)(pl:List Int)(ha:iC a pl):aq Tryz.prog 46 [.v (.string (mk s)),.v (.string (mk f)),a] [] (Ej s (GB s f pl)):=by
 refine RP _ _ _ ha.1 ?_
 unfold N8
 refine aX (Tp s f) ?_
 unfold GB
 have ho:=C4 s f
 cases q:tA s [] f with
 |
  none =>
  rw[jI]
  simp only[↓zq,zs,af,zt,aH,Ob.es,aM,bf]
  exact⟨dk _,fun _=>Ej.none s,fun h=>by simp at h⟩
 |
  some r =>
  rw[q]at ho
  obtain⟨d,_,hs,hn,_⟩:=oK q
  have hn0:r.1=[]:=List.map_eq_nil_iff.1 hn.symm
  simp only[↓zq,zs,af,zt,aH,Ob.es,aM,a6,ha.len]
  refine⟨dk _,fun h=>by simp at h,fun _=>⟨ha.1,fun h5=>?_,fun h5=>?_⟩⟩
  ·have:As (zA s) pl (some r)=none:=by
    cases q2:As (zA s) pl (some r)with
    |none=>rfl
    |
     some r2 =>
     obtain⟨h1,h2⟩:=z7 (l:=r.1) (v:=r.2) (l':=r2.1) (w:=r2.2) q2 (by rw[hn0];simp)
     omega
   rw[this]
   exact Ej.none s
  ·have hloop:=Lu s a pl ha (by omega) pl.length 0 r (by omega) ho
   rw[aZ]at hloop
   refine lM hloop (fun ys o e=>?_) (fun ys o e=>?_)
   ·unfold RB at e
    cases q2:As (zA s) pl (some r)with
    |none=>rw[q2]at e;exact absurd e.1 (by decide)
    |
     some r2 =>
     rw[q2]at e
     obtain⟨_,rfl,rfl⟩:=e
     simp only[↓zq,zs,af,zt,af,bo,Ob.es,aM,bx,aZ]
     exact⟨rfl,_,cQ.of _,rfl⟩
   ·unfold RB at e
    cases q2:As (zA s) pl (some r)with
    |some r2=>rw[q2]at e;exact absurd e.1 (by decide)
    |
     none =>
     rw[q2]at e
     obtain⟨_,rfl,rfl⟩:=e
     simp only[↓zq,zs,af,zt,af,bo]
     exact Ej.none s
end Go.Proofs.Trees
namespace Go.Proofs.Trees
open Go Go.VL Go.RowKit
def Ku(c:Nm):List Hl->Nat->Int
 |[],_=>-1
 |h::l,i=>if h.1.cf=c then(i:Int)else Ku c l (i+1)
def wX:Nat->Ty->List Vl->Vl->List Int
 |0,_,_,_=>[]
 |
  n+1,a,l,v=>match vF a l v with
  |some r=>wX n a r.1 r.2++[Ku ((l.getLast?).getD .u).cf (kids a r.2) 0]
  |none=>[]
end Go.Proofs.Trees
namespace Go.Proofs.Trees
open Go Go.VL Go.RowKit
theorem wR{d:Nm}:∀{l:List Vl},(∀c,c∈l->mZ d c.cf 100=some c)->eS d (l.map (·.cf))=some l
 |[],_=>rfl
 |
  c::l,h=>by
  rw[bA,eS,h c ak,wR fun x hx=>h x (al _ hx)]
theorem Fw{s d:Nm}{l:List Vl}{v:Vl}(hs:St s d (zA s) l v)(hd:cP s=some d):ia s (l.map (·.cf)) v.cf=if(rb (zA s) l v).isSome=true then some (l,v)else none:=by
 obtain⟨x,A,B,D,z⟩:=hs.z
 have hlen:=hs.len
 have e1:mZ s v.cf 100=some v:=by rw[z.cf hs.i.rY.fu hs.i.rY.ty,if_pos hs.i.rY.nd]
 unfold ia
 rw[vr,hd]
 simp only[aS,z.l,e1,wR hs.each,cn,if_pos hlen,cz]
theorem wj(l:List Vl)(c:Vl):((l++[c]).getLast?).getD .u=c:=by rw[List.getLast?_concat];rfl
theorem EJ{a:Ty}{l l':List Vl}{v w c:Vl}(n:Nat)(hu:vF a l v=some (l',w))(hc:l=l'++[c]):wX (n+1) a l v=wX n a l' w++[Ku c.cf (kids a w) 0]:=by
 rw[wX,hu];simp only[hc,wj]
end Go.Proofs.Trees
namespace Go.Proofs.Trees
open Go Go.VL Go.RowKit
def wa(l:List Hl):Prop:=(l.map (·.1)).Nodup
theorem rO:wa []:=List.nodup_nil
theorem EU(h:Hl):wa [h]:=by simp[wa]
theorem nV{g:Vl->Vl}(hg:∀x y,g x=g y->x=y){l:List Hl}(h:wa l):wa (fp g l):=by
 unfold wa fp at *
 rw[List.map_map]
 have:((fun x:Hl=>x.1)∘fun h:Hl=>(g h.1,h.2))=g∘(fun x:Hl=>x.1):=rfl
 rw[this,<-List.map_map]
 exact List.Pairwise.map _ (fun a b hab e=>hab (hg _ _ e)) h
theorem uT{l r:List Hl}(hl:wa l)(hr:wa r)(h:∀x y,x∈l->y∈r->x.1≠y.1):wa (l++r):=by
 unfold wa at *
 rw[List.map_append,List.nodup_append]
 refine⟨hl,hr,?_⟩
 intro a ha b hb e
 obtain⟨x,hx,rfl⟩:=bO.1 ha
 obtain⟨y,hy,rfl⟩:=bO.1 hb
 exact h x y hx hy e
theorem wN{f:Hl->List Hl}:∀{l:List Hl},wa l->(∀h,h∈l->wa (f h))->(∀h k,h∈l->k∈l->h.1≠k.1->∀x y,x∈f h->y∈f k->x.1≠y.1)->wa (l.flatMap f)
 |[],_,_,_=>rO
 |
  h::l,hn,hf,hd=>by
  rw[bU]
  unfold wa at hn
  rw[bA,List.nodup_cons]at hn
  refine uT (hf h ak) (wN (l:=l) hn.2 (fun k hk=>hf k (al _ hk)) fun a b ha hb=>hd a b (al _ ha) (al _ hb)) ?_
  intro x y hx hy
  obtain⟨k,hk,hy⟩:=dA.1 hy
  refine hd h k ak (al _ hk) (fun e=>hn.1 ?_) x y hx hy
  rw[e];exact bO.2 ⟨k,hk,rfl⟩
theorem jR:∀(n:Nat) (t:Ty) (tg:Tg) (v:Vl),wa (dY n t tg v)
 |0,t,tg,v=>rO
 |
  n+1,t,tg,v=>by
  unfold dY
  split
  ·exact EU _
  ·unfold jT
   split
   ·exact nV (fun x y e=>by cases e;rfl) (jR n _ _ _)
   ·exact nV (fun x y e=>by cases e;rfl) (jR n _ _ _)
   ·refine uT (nV (fun x y e=>by cases e;rfl) (jR n _ _ _)) (nV (fun x y e=>by cases e;rfl) (jR n _ _ _)) fun x y hx hy e=>?_
    obtain⟨k,_,rfl⟩:=cN hx
    obtain⟨k',_,rfl⟩:=cN hy
    cases e
   ·refine uT (nV (fun x y e=>by cases e;rfl) (jR n _ _ _)) (wN (jR n _ _ _) (fun h hh=>nV (fun x y e=>by cases e;rfl) (jR n _ _ _)) fun h k hh hk hne x y hx hy e=>?_) fun x y hx hy e=>?_
    ·obtain⟨a,_,rfl⟩:=cN hx
     obtain⟨b,_,rfl⟩:=cN hy
     injection e with e
     injection e with e
     injection e with e1 e2
     exact hne e1
    ·obtain⟨k,_,rfl⟩:=cN hx
     obtain⟨h,_,hy⟩:=dA.1 hy
     obtain⟨b,_,rfl⟩:=cN hy
     cases e
   ·exact rO
end Go.Proofs.Trees
namespace Go.Proofs.Trees
open Go Go.VL Go.RowKit
abbrev kR(l:List Hl):List Vl:=l.map (·.2)
theorem ca(g:Vl->Vl)(l:List Hl):kR (fp g l)=kR l:=by simp[kR,fp,Function.comp_def]
theorem dB(l r:List Hl):kR (l++r)=kR l++kR r:=List.map_append
theorem Ff{l r:List Hl}(h:kR l=kR r):l.length=r.length:=by have:=congrArg List.length h;simpa[kR]using this
theorem j9{g:Vl->Vl}{L A B:List Hl}{c e:Vl}(h:fp g L=A++(c,e)::B):∃A0 c0 B0,L=A0++(c0,e)::B0/\A=fp g A0/\c=g c0/\B=fp g B0:=by
 unfold fp at *
 obtain⟨A0,R,rfl,rfl,h2⟩:=List.map_eq_append_iff.1 h
 obtain⟨y,B0,rfl,h3,rfl⟩:=List.map_eq_cons_iff.1 h2
 obtain⟨c0,e0⟩:=y
 cases h3
 exact⟨A0,c0,B0,rfl,rfl,rfl,rfl⟩
theorem qG{L1 L2 A B:List Hl}{y:Hl}(h:L1++L2=A++y::B):(∃B1,L1=A++y::B1/\B=B1++L2)\/∃A2,A=L1++A2/\L2=A2++y::B:=by
 rcases List.append_eq_append_iff.1 h with⟨xs,h1,h2⟩|⟨ys,h1,h2⟩
 ·exact .inr ⟨xs,h1,h2⟩
 ·cases ys with
  |nil=>exact .inr ⟨[],by simpa using h1.symm,by simpa using h2.symm⟩
  |
   cons z ys =>
   rw[bj]at h2
   cases h2
   exact .inl ⟨ys,h1,rfl⟩
theorem se{f:Hl->List Hl}:∀{L A B:List Hl} {y:Hl},L.flatMap f=A++y::B->∃L1 h L2 A1 B1,L=L1++h::L2/\f h=A1++y::B1/\A=L1.flatMap f++A1/\B=B1++L2.flatMap f
 |[],A,B,y,h=>by simp at h
 |
  h::L,A,B,y,hh=>by
  rw[bU]at hh
  rcases qG hh with⟨B1,h1,h2⟩|⟨A2,h1,h2⟩
  ·exact⟨[],h,L,A,B1,rfl,h1,rfl,h2⟩
  ·obtain⟨L1,h',L2,A1,B1,e1,e2,e3,e4⟩:=se h2
   exact⟨h::L1,h',L2,A1,B1,by rw[e1];rfl,e2,by rw[h1,e3,bU,aY],e4⟩
theorem km(a:Ty)(tg:Tg)(g:Vl->Vl->Vl):∀{l r:List Hl},kR l=kR r->kR (l.flatMap fun h=>fp (g h.1) (bQ (.rc a) tg h.2))=kR (r.flatMap fun h=>fp (g h.1) (bQ (.rc a) tg h.2))
 |[],[],_=>rfl
 |[],_::_,h=>by simp[kR]at h
 |_::_,[],h=>by simp[kR]at h
 |
  x::l,y::r,h=>by
  simp only[kR,bA,List.cons.injEq]at h
  rw[bU,bU,dB,dB,ca,ca,h.1,km a tg g h.2]
theorem OP{a b:Tg}(h:a≠b):a.up≠b.up:=by
 intro e
 cases a<;>cases b<;>simp[Tg.up]at e<;>subst e<;>exact h rfl
theorem Cp(a:Tg):a.up≠.bd 0:=by cases a<;>simp[Tg.up]
theorem Ap{t:Ty}{a b:Tg}(h:eH t a=true)(hn:b≠a):eH t b=false:=by
 cases t<;>cases a<;>simp[eH]at h
 ·subst h
  cases b with
  |nm s=>simp only[eH];exact decide_eq_false fun e=>hn (by rw[e])
  |bd k=>rfl
 ·subst h
  cases b with
  |nm s=>rfl
  |bd k=>simp only[eH];exact decide_eq_false fun e=>hn (by rw[e])
theorem wF{t:Ty}{a:Tg}(h:eH t a=true)(v:Vl):stuck t v=true:=by
 cases t<;>simp[eH]at h<;>(cases v<;>rfl)
theorem F7{t:Ty}{a:Tg}(h:eH t a=true)(c x:Vl):cL t c x=x:=by
 cases t<;>simp[eH]at h
 ·exact l9 _ c x
 ·exact oU _ c x
theorem jM:∀(n:Nat) (v:Vl),v.nodes<=n->∀(t:Ty) (tg:Tg) (A B:List Hl) (c e:Vl),bQ t tg v=A++(c,e)::B->∀x:Vl,
 (∃A' B',bQ t tg (cL t c x)=A'++(c,x)::B'/\kR A'=kR A/\kR B'=kR B)/\∀tg',tg'≠tg->kR (bQ t tg' (cL t c x))=kR (bQ t tg' v)
 |0,v,hn=>by have:=cM v;omega
 |
  n+1,v,hn=>by
  intro t tg A B c e hh x
  cases hat:eH t tg with
  |
   true =>
   rw[kk v hat]at hh
   have h1:A=[]:=by cases A with
    |nil=>rfl
    |cons y A=>simp at hh
   subst h1
   simp only[aR,List.cons.injEq,Prod.mk.injEq]at hh
   obtain⟨⟨rfl,rfl⟩,rfl⟩:=hh
   rw[F7 hat]
   refine⟨⟨[],[],kk x hat,rfl,rfl⟩,fun tg' hne=>?_⟩
   rw[dE (Ap hat hne) (wF hat x),dE (Ap hat hne) (wF hat v)]
  |
   false =>
   have hst:stuck t v=false:=by
    cases q:stuck t v with
    |false=>rfl
    |true=>rw[dE hat q]at hh;simp at hh
   unfold stuck at hst
   split at hst
   ·rename_i a b w
    simp only[Vl.nodes]at hn
    rw[jA]at hh
    obtain⟨A0,c0,B0,h0,rfl,rfl,rfl⟩:=j9 hh
    obtain⟨⟨A',B',e1,e2,e3⟩,e4⟩:=jM n w (by omega) a tg A0 B0 c0 e h0 x
    refine⟨⟨fp .l A',fp .l B',?_,by rw[ca,ca,e2],by rw[ca,ca,e3]⟩,fun tg' hne=>?_⟩
    ·rw[cL,jA,e1];simp[fp]
    ·rw[cL,jA,jA,ca,ca,e4 tg' hne]
   ·rename_i a b w
    simp only[Vl.nodes]at hn
    rw[jw]at hh
    obtain⟨A0,c0,B0,h0,rfl,rfl,rfl⟩:=j9 hh
    obtain⟨⟨A',B',e1,e2,e3⟩,e4⟩:=jM n w (by omega) b tg A0 B0 c0 e h0 x
    refine⟨⟨fp .r A',fp .r B',?_,by rw[ca,ca,e2],by rw[ca,ca,e3]⟩,fun tg' hne=>?_⟩
    ·rw[cL,jw,e1];simp[fp]
    ·rw[cL,jw,jw,ca,ca,e4 tg' hne]
   ·rename_i a b y z
    simp only[Vl.nodes]at hn
    rw[gA]at hh
    rcases qG hh with⟨B1,h1,rfl⟩|⟨A2,rfl,h2⟩
    ·obtain⟨A0,c0,B0,h0,rfl,rfl,rfl⟩:=j9 h1
     obtain⟨⟨A',B',e1,e2,e3⟩,e4⟩:=jM n y (by omega) a tg A0 B0 c0 e h0 x
     refine⟨⟨fp (fun c=>.l (.p c z)) A',fp (fun c=>.l (.p c z)) B'++fp (fun c=>.r (.p (cL a c0 x) c)) (bQ b tg z),?_,by rw[ca,ca,e2],by rw[dB,dB,ca,ca,ca,ca,e3]⟩,fun tg' hne=>?_⟩
     ·rw[cL,gA,e1];simp[fp]
     ·rw[cL,gA,gA,dB,dB,ca,ca,ca,ca,e4 tg' hne]
    ·obtain⟨A0,c0,B0,h0,rfl,rfl,rfl⟩:=j9 h2
     obtain⟨⟨A',B',e1,e2,e3⟩,e4⟩:=jM n z (by omega) b tg A0 B0 c0 e h0 x
     refine⟨⟨fp (fun c=>.l (.p c (cL b c0 x))) (bQ a tg y)++fp (fun c=>.r (.p y c)) A',fp (fun c=>.r (.p y c)) B',?_,by rw[dB,dB,ca,ca,ca,ca,e2],by rw[ca,ca,e3]⟩,fun tg' hne=>?_⟩
     ·rw[cL,gA,e1];simp[fp]
     ·rw[cL,gA,gA,dB,dB,ca,ca,ca,ca,e4 tg' hne]
   ·rename_i a w
    simp only[Vl.nodes]at hn
    rw[gv]at hh
    rcases qG hh with⟨B1,h1,rfl⟩|⟨A2,rfl,h2⟩
    ·obtain⟨A0,c0,B0,h0,rfl,rfl,rfl⟩:=j9 h1
     obtain⟨⟨A',B',e1,e2,e3⟩,e4⟩:=jM n w (by omega) a tg.up A0 B0 c0 e h0 x
     have hb:=e4 (.bd 0) (Ne.symm (Cp tg))
     refine⟨⟨fp (fun c=>.f (.l c)) A',fp (fun c=>.f (.l c)) B'++(bQ a (.bd 0) (cL a c0 x)).flatMap fun h=>fp (fun c=>.f (.r (.p h.1 c))) (bQ (.rc a) tg h.2),?_,by rw[ca,ca,e2],?_⟩,fun tg' hne=>?_⟩
     ·rw[cL,gv,e1];simp[fp]
     ·rw[dB,dB,ca,ca,e3,km a tg (fun p c=>.f (.r (.p p c))) hb]
     ·rw[cL,gv,gv,dB,dB,ca,ca,e4 _ (OP hne),km a tg' (fun p c=>.f (.r (.p p c))) hb]
    ·obtain⟨L1,h,L2,A1,B1,g1,g2,rfl,rfl⟩:=se h2
     obtain⟨A0,c0,B0,h0,rfl,rfl,rfl⟩:=j9 g2
     obtain⟨hc,he⟩:=h
     have hsz:=(gn (t:=a) (tg:=.bd 0) (v:=w) (h:=(hc,he)) (by rw[g1];simp)).1
     simp only at hsz h0
     obtain⟨⟨A',B',e1,e2,e3⟩,e4⟩:=jM n he (by omega) (.rc a) tg A0 B0 c0 e h0 x
     obtain⟨⟨M1,M2,d1,d2,d3⟩,d4⟩:=jM n w (by omega) a (.bd 0) L1 L2 hc he g1 (cL (.rc a) c0 x)
     refine⟨⟨fp (fun c=>.f (.l c)) (bQ a tg.up (cL a hc (cL (.rc a) c0 x)))++(M1.flatMap (fun h=>fp (fun c=>.f (.r (.p h.1 c))) (bQ (.rc a) tg h.2))++fp (fun c=>.f (.r (.p hc c))) A'),fp (fun c=>.f (.r (.p hc c))) B'++M2.flatMap (fun h=>fp (fun c=>.f (.r (.p h.1 c))) (bQ (.rc a) tg h.2)),?_,?_,?_⟩,fun tg' hne=>?_⟩
     ·rw[cL,gv,d1,List.flatMap_append,bU]
      simp only[e1]
      simp[fp]
     ·rw[dB,dB,dB,dB,ca,ca,ca,ca,d4 _ (Cp tg),e2,km a tg (fun p c=>.f (.r (.p p c))) d2]
     ·rw[dB,dB,ca,ca,e3,km a tg (fun p c=>.f (.r (.p p c))) d3]
     ·have hk:=e4 tg' hne
      rw[cL,gv,gv,dB,dB,ca,ca,d4 _ (Cp tg'),d1,g1,List.flatMap_append,List.flatMap_append,bU,bU,dB,dB,dB,dB,ca,ca,hk,km a tg' (fun p c=>.f (.r (.p p c))) d2,km a tg' (fun p c=>.f (.r (.p p c))) d3]
   ·cases hst
end Go.Proofs.Trees
namespace Go.Proofs.Trees
open Go Go.VL Go.RowKit
theorem Es(a:Ty)(v:Vl):wa (kids a v):=by
 cases v<;>first|exact jR _ _ _ _|exact rO
theorem CH:∀(l:List Hl) (i k:Nat) (q:Hl),wa l->(∀h,h∈l->h.1.fu 100)->l[k]?=some q->Ku q.1.cf l i=((i+k:Nat):Int)
 |[],i,k,q,_,_,h=>by simp at h
 |
  h::l,i,0,q,hn,hb,hk=>by
  simp only[List.getElem?_cons_zero,Option.some.injEq]at hk
  subst hk
  simp[Ku]
 |
  h::l,i,k+1,q,hn,hb,hk=>by
  rw[List.getElem?_cons_succ]at hk
  have hm:q∈l:=List.mem_of_getElem? hk
  unfold wa at hn
  rw[bA,List.nodup_cons]at hn
  have hne:¬h.1.cf=q.1.cf:=fun e=>hn.1 (by
   have:=n6 (hb h ak) (hb q (al _ hm)) e
   rw[this];exact bO.2 ⟨q,hm,rfl⟩)
  rw[Ku,if_neg hne,CH l (i+1) k q hn.2 (fun x hx=>hb x (al _ hx)) hk]
  omega
theorem H9{s d:Nm}{a:Ty}{l l':List Vl}{v w:Vl}{k:Int}(h:St s d a l v)(hu:tH a l v k=some (l',w)):wX l'.length a l' w=wX l.length a l v++[k]/\rb a l' w=rb a l v:=by
 obtain⟨h1,h2,h3⟩:=h.dn hu
 obtain⟨q,hq,rfl,rfl,hn,h50,h0,hk⟩:=nL hu
 obtain⟨x,A,B,D,z⟩:=h.z
 obtain⟨t1,t2,t3⟩:=z.Jz h.i.rY hq
 refine⟨?_,(sV t3 h.i.rY.nd).2⟩
 rw[h3,EJ l.length h2 rfl,CH (kids a v) 0 k.toNat q (Es a v) (fun x hx=>(eD h.i.rY.fu hx).1) hk]
 congr 2
 omega
theorem Du{s d:Nm}{a:Ty}:∀(pl:List Int) (l l':List Vl) (v w:Vl),St s d a l v->As a pl (some (l,v))=some (l',w)->St s d a l' w/\wX l'.length a l' w=wX l.length a l v++pl/\rb a l' w=rb a l v
 |[],l,l',v,w,h,hg=>by cases hg;exact⟨h,by simp,rfl⟩
 |
  k::pl,l,l',v,w,h,hg=>by
  rw[nr,aS]at hg
  cases q:tH a l v k with
  |none=>simp only[q,jI]at hg;cases hg
  |
   some r =>
   obtain⟨l1,v1⟩:=r
   simp only[q]at hg
   obtain⟨e1,e2⟩:=H9 h q
   obtain⟨g1,g2,g3⟩:=Du pl l1 l' v1 w (h.dn q).1 hg
   exact⟨g1,by rw[g2,e1,aY];rfl,by rw[g3,e2]⟩
theorem Fg{a:Ty}{v:Vl}{k:Nat}{q:Hl}(hk:(kids a v)[k]?=some q)(x:Vl):(kids a (.f (cL a q.1 x)))[k]?=some (q.1,x):=by
 cases v with
 |
  f w =>
  have hk:(bQ a (.bd 0) w)[k]?=some q:=hk
  obtain⟨hlt,he⟩:=List.getElem?_eq_some_iff.1 hk
  have hs:bQ a (.bd 0) w=(bQ a (.bd 0) w).take k++(q.1,q.2)::(bQ a (.bd 0) w).drop (k+1):=by
   have:=List.take_append_drop k (bQ a (.bd 0) w)
   rw[aL hlt,he]at this
   exact this.symm
  obtain⟨⟨A',B',e1,e2,_⟩,_⟩:=jM w.nodes w (au _) a (.bd 0) _ _ q.1 q.2 hs x
  show (bQ a (.bd 0) (cL a q.1 x))[k]?=_
  have hl:A'.length=k:=by rw[Ff e2,List.length_take];omega
  rw[e1,List.getElem?_append_right (by omega),hl,Nat.sub_self];rfl
 |_=>simp[kids]at hk
end Go.Proofs.Trees
namespace Go.Proofs.Trees
open Go Go.VL Go.RowKit
theorem wv{s v:Nm}{l:List Pt}(h:gG s v=some l):∃w l',gM s v=some w/\l=(w,[])::l':=by
 unfold gG at h
 split at h
 ·rename_i a w h1 h2
  have hp:∃l',parts a w=(w,[])::l':=by
   unfold parts
   obtain⟨n,hn⟩:∃n,w.nodes=n+1:=⟨w.nodes-1,by have:=cM w;omega⟩
   rw[hn,jU]
   exact⟨_,rfl⟩
  obtain⟨l',hl'⟩:=hp
  split at h
  ·cases h;exact⟨w,l',h2,hl'⟩
  ·cases h
 ·cases h
end Go.Proofs.Trees
namespace Go.Proofs.Trees
open Go Go.VL Go.RowKit
def nk(l:List Pt):List (List AV):=l.map fun p=>[.sl (dX p.2),.v (.string (mk p.1.cf)),.v (.string (mk []))]
theorem l5(l:List Pt):(nk l).length=l.length:=by simp[nk]
theorem DA{l:List Pt}{i:Nat}(hi:i<l.length):(nk l).getD i []=[.sl (dX (l[i]).2),.v (.string (mk (l[i]).1.cf)),.v (.string (mk []))]:=by simp[nk,aa,hi]
theorem C7(out:List Pt)(p:Pt):nk out++[[.sl (dX p.2),.v (.string (mk p.1.cf)),.v (.string (mk []))]]=nk (out++[p]):=by simp[nk]
theorem SR(a b c:AV):cq 3 [[a,b,c]]:=fun x hx=>by simp at hx;rw[hx];rfl
def Gi(x A B:E)(a:Ty)(n:Nat)(q:Pt):Prop:=∀out:List Pt,out.length+q.1.nodes<=600->aq Tryz.prog 132 [.agg [.v (.string (mk [])),(E.list [x,A,B]).sp],.agg [.v (.string (mk q.1.cG.at)),q.1.cG.sp],.sl (dX q.2),.vec 0] [.vec 3 (nk out)] (dh (.vec 1) [.dead,.vec 3 (nk (mS n a out q))])
abbrev zi(n:Nat)(a:Ty):List Pt->Pt->List Pt:=fun o q=>if o.length<=100 then mS n a o q else o
theorem sZ(n:Nat)(a:Ty):∀(l:List Pt) (o:List Pt),100<o.length->l.foldl (zi n a) o=o
 |[],_,_=>rfl
 |q::l,o,h=>by rw[List.foldl_cons,zi,if_neg (by omega)];exact sZ n a l o h
theorem MP(x A B:E)(a:Ty)(n:Nat)(pl:List Nat)(hpl:pl.length<=1000)(l:List Hl)(hl:l.length<=1000)(ih:∀q,q∈m8 pl l 0->Gi x A B a n q)(hn:∀q,q∈m8 pl l 0->q.1.nodes<=n):∀(k i:Nat) (out:List Pt),i+k=l.length->out.length+jf (l.drop i)<=600->(∀q,q∈m8 pl (l.drop i) i->q∈m8 pl l 0) ->
 Hg [.sl (dX pl),.sl (kh l),.v (.int .i64 (i:Int))] [.cells [.v (.string (mk [])),(E.list [x,A,B]).sp],.vec 3 (nk out)] (gK 1 [] [.vec 3 (nk ((m8 pl (l.drop i) i).foldl (zi n a) out))])
 |
  0,i,out,hi,ho,hm=>by
  refine LG _ _ _ _ _ _ ?_
  have:i=l.length:=by omega
  subst this
  simp only[JJ,↓zq,zs,af,dZ,aV]
  exact⟨fun h=>by omega,fun _=>by simp[gK,m8]⟩
 |
  k+1,i,out,hi,ho,hm=>by
  have hlt:i<l.length:=by omega
  have hd:=A4 pl l hlt
  rw[hd]at hm |-
  have hq:=hm _ ak
  have hsum:jf (l.drop i)=(l[i]).2.nodes+jf (l.drop (i+1)):=by rw[aL hlt];rfl
  have hw:=(tn n a ((l[i]).2,pl++[i]) (hn _ hq) out).2.2.2
  have hp:=oS n a ((l[i]).2,pl++[i])
  simp only at hw hp
  refine LG _ _ _ _ _ _ ?_
  simp only[JJ,↓zq,zs,af,zt,dZ,eG hlt,aK,aV,aR,gl,oA,l5]
  refine⟨fun _=>⟨fun hle=>?_,fun hgt=>?_⟩,fun h=>by omega⟩
  ·repeat refine⟨by omega,?_⟩
   refine⟨⟨nA _,by omega⟩,⟨u5 _,by omega⟩,?_⟩
   have hcall:=ih _ hq out (by show out.length+(l[i]).2.nodes<=600;omega)
   refine aX hcall ?_
   simp only[↓zq,zs,af]
   rw[bB i (by omega),List.foldl_cons,show zi n a out ((l[i]).2,pl++[i])=mS n a out ((l[i]).2,pl++[i]) from if_pos (by omega)]
   exact MP x A B a n pl hpl l hl ih hn k (i+1) _ (by omega) (by omega) (fun q hq=>hm q (al _ hq))
  ·rw[sZ n a _ _ (by omega)]
   simp[gK]
theorem Nk(c:Nat)(x A B:E)(a:Ty)(hA:Ask B [.mk A.at (.list [x,A,B]) []] a)(hx:x.at=[114,101,99]):∀(n:Nat) (q:Pt),q.1.nodes<=n->n<=200->q.2.length+n<=200->q.1.fu 100->eF c q.1 (.list [x,A,B],[])=true->Gi x A B a n q
 |0,q,h,_,_,_,_=>by have:=cM q.1;omega
 |
  n+1,q,h,hn,hpl,hb,hv=>by
  intro out ho
  have hk:=lZ a q.1
  have hkl:=lO (kids a q.1)
  have htx:=eU q.1 hb
  obtain⟨w,hqw,hw⟩:=mI .nil hx hv
  have hP:=P3.of x A B
  have hW:=P2.of (.atom [102]) w.cG
  have hqe:q.1.cG=.list [.atom [102],w.cG]:=by rw[hqw];rfl
  have htext:=Eb q.1.cG (iR _) (by show q.1.cf.length<=900000;omega)
  rw[cU]at htext
  refine Ro _ _ _ _ _ _ ((aV _).mpr trivial) ((aV _).mpr trivial) ((cc _).mpr trivial) ?_
  unfold Ln
  refine aj htext ?_
  have ol:(out++[q]).length=out.length+1:=by simp
  rw[hqe]
  simp only[↓zq,zs,af,zt,l5,toNat_one,bn,hP.1,hP.2.1,hP.2.2.1,hP.2.2.2,hW.1,hW.2.1,hW.2.2,aK]
  refine⟨⟨SR _ _ _,by omega⟩,?_⟩
  repeat refine⟨by omega,?_⟩
  refine aj (Gd c q.1 x A B a hA hx w hqw hv (by omega)) ?_
  simp only[↓zq,zs,af]
  have hl:=MP x A B a n q.2 (by omega) (kids a q.1) (by omega) (fun r hr=>by
   obtain⟨k,h1,h2⟩:=nw hr
   have:=gd h1
   have hlen:r.2.length=q.2.length+1:=by
    have:∀(l:List Hl) (i:Nat),r∈m8 q.2 l i->r.2.length=q.2.length+1:=by
     intro l
     induction l with
     |nil=>intro i hh;cases hh
     |
      cons k l ih =>
      intro i hh
      rcases aI.1 hh with rfl|hh
      ·simp
      ·exact ih _ hh
    exact this _ _ hr
   exact Nk c x A B a hA hx n r (by rw[h2];omega) (by omega) (by omega) (by rw[h2];exact(eD hb h1).2) (by rw[h2];exact nn hA .nil hx hv h1)) (fun r hr=>by
   obtain⟨k,h1,h2⟩:=nw hr
   have:=gd h1
   rw[h2];omega) (kids a q.1).length 0 (out++[q]) (by omega) (by rw[A8,ol];omega) (fun r hr=>hr)
  rw[aZ]at hl
  rw[show nk out++[[.sl (dX q.2),.v (.string (mk (fh (.list [.atom [102],w.cG])))),.v (.string (mk []))]]=nk (out++[q]) by rw[<-hqe];exact C7 out q]
  refine cA hl ?_
  rw[mS];simp[↓zq,zs,af,dh]
theorem Uq(s v:List UInt8):aq Tryz.prog 93 [.v (.string (mk s)),.v (.string (mk v))] [] (MO nk s v):=by
 refine RD _ _ ?_
 unfold L7
 refine aQ (BO s) (iU.ne _ _ (fun h=>h)) ?_
 rintro r o ⟨c,d,hd,rfl,hh⟩
 have hhas:bE [.str,.sl] [.v (.string (mk c)),d] 0:=by simp[bE,dC,hd]
 simp only[↓zq,zs,af,zt]
 refine⟨hhas,?_⟩
 refine aQ (HY v) (iU.ne _ _ (fun h=>by cases hq:rp v<;>simp[hq]at h |-)) ?_
 rintro r o ⟨c',d',hd',rfl,hh'⟩
 have hhas':bE [.str,.sl] [.v (.string (mk c')),d'] 0:=by simp[bE,dC,hd']
 simp only[↓zq,zs,af,zt]
 have none1:gG s v=none->MO nk s v (.cv [.sl [],.v (.bool false)]) []:=fun hn=>⟨rfl,.sl [],(cc _).mpr trivial,by rw[hn];rfl,fun l hl=>by rw[hn]at hl;cases hl⟩
 refine⟨hhas',fun h=>none1 ?_,fun h=>?_⟩
 ·rw[m9]at h
  have:gy s=none:=by cases hq:gy s<;>simp[hq]at h |-
  unfold gG;rw[this]
 ·refine aj (FF s v 100) ?_
  simp only[↓zq,zs,af]
  refine⟨fun h2=>none1 ?_,fun h2=>?_⟩
  ·have:mZ s v 100=none:=by cases hq:mZ s v 100<;>simp[hq]at h2 |-
   have:gM s v=none:=by unfold gM;rw[this];cases gy s<;>rfl
   unfold gG;rw[this];cases gy s<;>rfl
  ·obtain⟨w,hw⟩:=a8.1 h2
   rw[m9]at h
   obtain⟨a0,ha0⟩:=a8.1 h
   have hlv:gM s v=some w:=by unfold gM;rw[ha0];exact hw
   obtain⟨a,x,A,B,L⟩:=fW hlv
   obtain⟨e,he,hce⟩:=hh (by rw[L.le];rfl)
   rw[L.le]at he;cases he
   obtain⟨e2,he2,hce2⟩:=hh' (by rw[L.v];rfl)
   rw[L.v]at he2;cases he2
   rw[hce,hce2,cU,cU]
   have hnd:=L.nodes
   obtain⟨p1,p2,p3⟩:=yz a w
   have hs:=Nk 100 x A B a L.body L.hx w.nodes (w,[]) (au _) hnd (by simp;omega) L.fu L.eF [] (by simp;omega)
   refine aX hs ?_
   simp only[↓zq,zs,af,l5]
   refine⟨rfl,.sl (nk (mS w.nodes a [] (w,[]))),(cc _).mpr trivial,?_,fun l hl=>?_⟩
   ·congr 4
    have:gG s v=if(parts a w).length<=100 then some (parts a w)else none:=by unfold gG;rw[L.l,hlv]
    rw[this]
    by_cases hc:(parts a w).length<=100
    ·rw[if_pos hc,p1 hc];simp;omega
    ·rw[if_neg hc];have:=p2 (by omega);simp;omega
   ·unfold gG at hl
    rw[L.l,hlv]at hl
    simp only at hl
    split at hl
    ·rename_i hc
     cases hl
     rw[p1 hc]
    ·cases hl
end Go.Proofs.Trees
namespace Go.Proofs.Trees
open Go Go.VL Go.RowKit
def rk(l:List UInt8):List (List AV):=l.map fun(x:UInt8)=>[.v (.int .u8 (x.toNat:Int))]
structure tL(b:AV)(l:List UInt8):Prop where
 has:LK.sl.has b
 el:b.elems=rk l
 len:l.length<=2000
theorem tL.ln{b:AV}{l:List UInt8}(h:tL b l):b.elems.length=l.length:=by rw[h.el];simp[rk]
theorem tL.get{b:AV}{l:List UInt8}(h:tL b l){i:Nat}(hi:i<l.length):b.elems.getD i []=[.v (.int .u8 ((l[i]).toNat:Int))]:=by rw[h.el];simp[rk,aa,hi]
def eV(b:AV)(p c:Nat)(X:AV->Prop):AV->List Ob->Prop:=fun r o=>∃q:Nat,p<=q/\q<=p+c/\X r/\o=[.cells [b,.v (.int .i64 (q:Int))]]
theorem eV.ne{b:AV}{p c:Nat}{X:AV->Prop}{r:AV}(h:X r):∃r o,eV b p c X r o:=⟨r,_,p,au _,dj _ _,h,rfl⟩
theorem EZ{a b:Int}(ha:0<=a)(hb:0<=b)(ha':a<9223372036854775808)(hb':b<9223372036854775808):∃W:Nat,BU .i64 a b=(W:Int):=by
 obtain⟨x,rfl⟩:∃x:Nat,a=(x:Int):=⟨a.toNat,by omega⟩
 obtain⟨y,rfl⟩:∃y:Nat,b=(y:Int):=⟨b.toNat,by omega⟩
 have e1:(BitVec.ofInt 64 (x:Int)).toNat=x:=by simp;omega
 have e2:(BitVec.ofInt 64 (y:Int)).toNat=y:=by simp;omega
 have hlt:x ^^^ y<2 ^ 63:=Nat.xor_lt_two_pow (by omega) (by omega)
 refine⟨x ^^^ y,?_⟩
 unfold BU
 have e3:(BitVec.ofInt (IntKind.bits .i64) (x:Int) ^^^ BitVec.ofInt (IntKind.bits .i64) (y:Int)).toNat=x ^^^ y:=by
  show (BitVec.ofInt 64 (x:Int) ^^^ BitVec.ofInt 64 (y:Int)).toNat=_
  rw[BitVec.toNat_xor,e1,e2]
 rw[e3,VL.wrap64]<;>omega
theorem zR(a b:Nat):Int.tdiv (a:Int) (b:Int)=((a/b:Nat):Int):=(Int.ofNat_tdiv a b).symm
theorem rJ(a b:Nat):dN (a:Int) (b:Int)=((a%b:Nat):Int):=(Int.ofNat_tmod a b).symm
theorem xf(n:Nat)(h:n<9223372036854775808):IntKind.wrap .i64 (n:Int)=(n:Int):=VL.wrap64 _ (by omega) (by omega)
def isNum(n:Nat):AV->Prop:=fun r=>∃k:Nat,r=.v (.int .i64 (k:Int))/\(1<=n->k<n)/\k<=n
abbrev rF:Nat:=1000000000000000
theorem xZ(b:AV)(l:List UInt8)(hb:tL b l)(p n:Nat)(hp:p<2*rF)(hn:n<rF):aq Tryz.prog 45 [.ref 0 0,.v (.int .i64 (n:Int))] [.cells [b,.v (.int .i64 (p:Int))]] (eV b p 1 (isNum n)):=by
 refine Sa _ _ _ hb.has ?_
 have e1:IntKind.wrap .i64 ((p:Int)+1)=((p+1:Nat):Int):=by rw[VL.wrap64]<;>simp[rF]at hp<;>omega
 have e2:IntKind.wrap .i64 (((p+1:Nat):Int)-1)=(p:Int):=by rw[VL.wrap64]<;>simp[rF]at hp<;>omega
 have fin:∀k:Nat,(1<=n->k<n)->k<=n->eV b p 1 (isNum n) (.v (.int .i64 (k:Int))) [.cells [b,.v (.int .i64 ((p+1:Nat):Int))]]:=fun k h h'=>⟨p+1,by omega,au _,⟨k,rfl,h,h'⟩,rfl⟩
 simp only[Qt,↓zq,zs,af,e1,e2,hb.ln,zR,rJ]
 refine⟨fun h=>fin 0 (fun h'=>by omega) (dM _),fun h=>⟨hb.has,fun h0=>fin 0 (fun h'=>by omega) (dM _),fun h0=>?_⟩⟩
 have hl:0<l.length:=by omega
 have hll:=hb.len
 refine⟨hb.has,fun hlt=>?_,fun hge=>?_⟩
 ·have hlt:p<l.length:=by omega
  have hx:=(l[p]).toNat_lt
  simp only[bF,hb.get hlt,hb.has,↓zq,zs,af]
  rw[xf _ (by omega),rJ]
  have:=fin ((l[p]).toNat%n) (fun h'=>Nat.mod_lt _ (by omega)) (Nat.le_of_lt (Nat.mod_lt _ (by omega)))
  repeat (first|exact this|refine⟨by omega,?_⟩)
 ·have h1:p%l.length<l.length:=Nat.mod_lt _ hl
  have e3:IntKind.wrap .i64 ((p:Int)*7)=((p*7:Nat):Int):=by rw[VL.wrap64]<;>simp[rF]at hp<;>omega
  have e4:IntKind.wrap .i64 (((p*7:Nat):Int)+3)=((p*7+3:Nat):Int):=by rw[VL.wrap64]<;>simp[rF]at hp<;>omega
  have h2:(p*7+3)%l.length<l.length:=Nat.mod_lt _ hl
  have hx:=(l[p%l.length]).toNat_lt
  have hy:=(l[(p*7+3)%l.length]).toNat_lt
  have hq:p/l.length<=p:=Nat.div_le_self _ _
  simp only[e3,e4,rJ,bF,hb.get h1,hb.get h2,hb.has,↓zq,zs,af]
  generalize hxx:(l[p%l.length]).toNat=x at hx |-
  generalize hyy:(l[(p*7+3)%l.length]).toNat=y at hy |-
  generalize hqq:p/l.length=q at hq |-
  have f1:IntKind.wrap .i64 ((x:Int))=(x:Int):=xf _ (by omega)
  have f2:IntKind.wrap .i64 ((y:Int))=(y:Int):=xf _ (by omega)
  have f3:IntKind.wrap .i64 ((x:Int)*131)=((x*131:Nat):Int):=by rw[VL.wrap64]<;>omega
  have f4:IntKind.wrap .i64 ((y:Int)*1117)=((y*1117:Nat):Int):=by rw[VL.wrap64]<;>omega
  have f5:IntKind.wrap .i64 (((x*131:Nat):Int)+((y*1117:Nat):Int))=((x*131+y*1117:Nat):Int):=by rw[VL.wrap64]<;>omega
  have f6:IntKind.wrap .i64 ((p:Int)*29)=((p*29:Nat):Int):=by rw[VL.wrap64]<;>simp[rF]at hp<;>omega
  have f7:IntKind.wrap .i64 (((x*131+y*1117:Nat):Int)+((p*29:Nat):Int))=((x*131+y*1117+p*29:Nat):Int):=by rw[VL.wrap64]<;>simp[rF]at hp<;>omega
  have f8:IntKind.wrap .i64 ((q:Int))=(q:Int):=xf _ (by simp[rF]at hp;omega)
  have f9:IntKind.wrap .i64 ((q:Int)*53)=((q*53:Nat):Int):=by rw[VL.wrap64]<;>simp[rF]at hp<;>omega
  have f10:IntKind.wrap .i64 (((x*131+y*1117+p*29:Nat):Int)+((q*53:Nat):Int))=((x*131+y*1117+p*29+q*53:Nat):Int):=by rw[VL.wrap64]<;>simp[rF]at hp<;>omega
  simp only[f1,f2,f3,f4,f5,f6,f7,f8,f9,f10]
  generalize hV:x*131+y*1117+p*29+q*53=V
  have hVl:V<1000000000000000000:=by simp[rF]at hp;omega
  have f11:IntKind.wrap .i64 (Int.tdiv (V:Int) 64)=((V/64:Nat):Int):=by
   have:Int.tdiv (V:Int) 64=((V/64:Nat):Int):=zR V 64
   rw[this,xf _ (by omega)]
  rw[f11]
  obtain⟨W,hW⟩:=EZ (a:=(V:Int)) (b:=((V/64:Nat):Int)) (by omega) (by omega) (by omega) (by omega)
  rw[hW,rJ]
  have:=fin (W%n) (fun h'=>Nat.mod_lt _ (by omega)) (Nat.le_of_lt (Nat.mod_lt _ (by omega)))
  repeat (first|exact this|refine⟨by omega,?_⟩)
def lG(L:List (List UInt8)):AV->Prop:=fun r=>∃s,s∈L/\r=.v (.string (mk s))
theorem E8(b:AV)(l:List UInt8)(hb:tL b l)(p:Nat)(hp:p<2*rF)(L:List (List UInt8))(a:AV)(ha:cQ a L)(hL:0<L.length)(hLl:L.length<1000000):aq Tryz.prog 94 [.ref 0 0,a] [.cells [b,.v (.int .i64 (p:Int))]] (eV b p 1 (lG L)):=by
 refine TV _ _ _ ha.1 hb.has ?_
 unfold LX
 simp only[↓zq,zs,af,ha.len]
 refine⟨ha.1,?_⟩
 have hpk:=xZ b l hb p L.length hp (by simp[rF];omega)
 refine aQ hpk (eV.ne ⟨0,rfl,fun h=>h,dM _⟩) ?_
 rintro r o ⟨q,h1,h2,⟨k,rfl,h3,h4⟩,rfl⟩
 have hk:=h3 hL
 simp only[↓zq,zs,af,zt,aH,hb.has,ha.idx hk,bF]
 refine⟨⟨ha.1,by omega⟩,?_⟩
 have:eV b p 1 (lG L) (.v (.string (mk (L.getD k [])))) [.cells [b,.v (.int .i64 (q:Int))]]:=⟨q,h1,h2,⟨_,by simp[aa,hk],rfl⟩,rfl⟩
 repeat (first|exact this|refine⟨by omega,?_⟩)
def gq(n:Nat):AV->Prop:=fun r=>∃s:List UInt8,r=.v (.string (mk s))/\s.length<=n
theorem lG.cf{L:List (List UInt8)}{n:Nat}(h:∀s,s∈L->s.length<=n){r:AV}(hr:lG L r):gq n r:=by
 obtain⟨s,h1,h2⟩:=hr;exact⟨s,h2,h s h1⟩
end Go.Proofs.Trees
namespace Go.Proofs.Trees
open Go Go.VL Go.RowKit
def ku:AV->List Ob->Prop:=fun r o=>o=[]/\∃b:Bool,r=.v (.bool b)
theorem ku.ne:∃r o,ku r o:=⟨_,_,rfl,true,rfl⟩
theorem ku.mk(b:Bool):ku (.v (.bool b)) []:=⟨rfl,b,rfl⟩
theorem ku.call{n:Nat}{f:Nat}{xs:List AV}{k:AV->List Ob->Tree}{Q:Nat->List AV->List Ob->Prop}(h:aq Tryz.prog f xs [] ku)(hk:∀b:Bool,fk Tryz.prog n (k (.v (.bool b)) []) Q):fk Tryz.prog n (.call f xs [] k) Q :=
 aQ h ku.ne (by rintro r o ⟨rfl,b,rfl⟩;exact hk b)
theorem PB{e:E}(h:Wf e):∀(l:List Nm) (a:AV),cQ a l->l.length+e.sz<100000->aq Tryz.prog 133 [.agg [.v (.string (mk e.at)),e.sp],a] [] ku:=by
 induction h with
 |
  @atom s hs =>
  intro l a ha hl
  simp only[E.sz]at hl
  refine FQ _ _ _ ((aV _).mpr trivial) ha.1 ?_
  simp only[Ds,eh,↓zq,zs,af]
  refine aj (AF s _ ((aV (.atom s)).mpr trivial) hs) ?_
  simp only[↓zq,zs,af,zt,ha.1]
  refine⟨fun h=>(by cases h),fun _=>⟨fun h=>(by cases h),fun _=>⟨fun h=>(by cases h),fun _=>⟨fun _=>.mk true,fun _=>?_⟩⟩⟩⟩
  refine aj (yd l a ha s (by omega)) ?_
  simp only[↓zq,zs,af]
  exact .mk _
 |
  @plus x y hx hy i1 i2 =>
  intro l a ha hl
  simp only[E.sz,E.jN]at hl
  refine FQ _ _ _ ((aV _).mpr trivial) ha.1 ?_
  have hP:=P3.of (.atom [43]) x y
  simp only[Ds,bL,toNat_one,bn,↓zq,zs,af,zt,hP.1,hP.2.1,hP.2.2.1,hP.2.2.2,aK]
  refine aj (pd [43] x y) ?_
  simp only[↓zq,zs,af,zt,ha.1,aK]
  refine⟨fun _=>⟨by omega,by omega,ku.call (i1 l a ha (by omega)) fun b=>?_⟩,fun h=>absurd rfl h⟩
  simp only[↓zq,zs,af]
  refine⟨fun _=>⟨by omega,by omega,ku.call (i2 l a ha (by omega)) fun b=>?_⟩,fun _=>.mk _⟩
  simp only[↓zq,zs,af]
  exact .mk _
 |
  @times x y hx hy i1 i2 =>
  intro l a ha hl
  simp only[E.sz,E.jN]at hl
  refine FQ _ _ _ ((aV _).mpr trivial) ha.1 ?_
  have hP:=P3.of (.atom [42]) x y
  simp only[Ds,bL,toNat_one,bn,↓zq,zs,af,zt,hP.1,hP.2.1,hP.2.2.1,hP.2.2.2,aK]
  refine aj (pd [42] x y) ?_
  simp only[↓zq,zs,af,zt,ha.1,aK]
  refine⟨fun h=>(by cases h),fun _=>⟨fun _=>⟨by omega,by omega,ku.call (i1 l a ha (by omega)) fun b=>?_⟩,fun h=>absurd rfl h⟩⟩
  simp only[↓zq,zs,af]
  refine⟨fun _=>.mk _,fun _=>⟨by omega,by omega,ku.call (i2 l a ha (by omega)) fun b=>?_⟩⟩
  simp only[↓zq,zs,af]
  exact .mk _
 |
  @rc n b hn hb i =>
  intro l a ha hl
  simp only[E.sz,E.jN]at hl
  refine FQ _ _ _ ((aV _).mpr trivial) ha.1 ?_
  have hP:=P3.of (.atom dL) (.atom n) b
  simp only[Ds,bL,toNat_one,bn,↓zq,zs,af,zt,hP.1,hP.2.1,hP.2.2.1,hP.2.2.2,aK]
  refine aj (pd dL (.atom n) b) ?_
  simp only[↓zq,zs,af,zt,ha.1,aK]
  refine⟨fun h=>(by cases h),fun _=>⟨fun h=>(by cases h),fun _=>⟨fun _=>⟨by omega,by omega,by omega,by omega,?_⟩,fun h=>absurd rfl h⟩⟩⟩
  refine aX (yj l a ha n (by omega)) ?_
  simp only[↓zq,zs,af,zt,Ob.es,aM]
  refine⟨dk _,?_⟩
  refine ku.call (i (l++[n]) _ (.of _) (by simp;omega)) fun b=>?_
  simp only[↓zq,zs,af]
  exact .mk _
def TC:AV->List Ob->Prop:=fun r o=>o=[]/\∃(g:E) (b:Bool),r=.cv [.agg [.v (.string (mk g.at)),g.sp],.v (.bool b)]/\Wf g/\g.dq<=400
theorem R4{n:Nm}{b:E}(hn:rQ n)(hb:Wf b)(hl:(E.list [.atom dL,.atom n,b]).dq<=400):aq Tryz.prog 135 [.agg [.v (.string (mk [])),(E.list [.atom dL,.atom n,b]).sp]] [] TC:=by
 have hw:Wf (.list [.atom dL,.atom n,b]):=.rc hn hb
 refine SZ _ _ ((aV _).mpr trivial) ?_
 have hP:=P3.of (.atom dL) (.atom n) b
 have hbl:b.dq<=400:=by simp only[E.dq,E.fm]at hl;omega
 simp only[P6,toNat_one,bn,↓zq,zs,af,zt,hP.1,hP.2.1,hP.2.2.1,hP.2.2.2,aK]
 refine⟨by omega,by omega,by omega,by omega,?_⟩
 have hf:=Po hn hb hw (by omega) (by omega)
 obtain⟨g,g1,g2,g3⟩:=PJ hn hb hw hbl hl
 simp only[bL]at hf g3
 refine aj hf ?_
 simp only[↓zq,zs,af,zt,aK]
 refine⟨fun h=>⟨rfl,_,false,rfl,hw,hl⟩,fun h=>?_⟩
 repeat refine⟨by omega,?_⟩
 refine aj g3 ?_
 simp only[↓zq,zs,af,zt,aK]
 refine⟨rfl,g,true,rfl,g1,?_⟩
 rw[g1.dq [],g2]
 simpa using h
end Go.Proofs.Trees
namespace Go.Proofs.Trees
open Go Go.VL Go.RowKit
def ky(n:Nat):AV->Prop:=fun r=>∃e:E,r=.agg [.v (.string (mk e.at)),e.sp]/\e.ok/\(fh e).length<=n
theorem ky.u(n:Nat)(h:1<=n):ky n (.agg [.v (.string (mk [117])),.v (.slice none 0 0)]):=⟨.atom [117],rfl,by simp[E.ok],by simpa[fh]using h⟩
def kI(b:AV)(d:Int)(e:E)(B C:Nat):Prop:=∀p:Nat,p+C<rF->aq Tryz.prog 95 [.ref 0 0,.agg [.v (.string (mk e.at)),e.sp],.v (.int .i64 d)] [.cells [b,.v (.int .i64 (p:Int))]] (eV b p C (ky B))
theorem kI.mono{b:AV}{d:Int}{e:E}{B C B' C':Nat}(h:kI b d e B C)(hB:B<=B')(hC:C<=C'):kI b d e B' C':=fun p hp=>aq.mono (h p (by omega)) fun r o ⟨q,h1,h2,⟨g,h3,h4,h5⟩,h6⟩=>⟨q,h1,by omega,⟨g,h3,h4,by omega⟩,h6⟩
theorem pY(b:AV)(p C B:Nat)(h:1<=B):∃r o,eV b p C (ky B) r o:=eV.ne (ky.u B h)
theorem U9(w:Nm)(e:E)(h:w.length=1):(fh (.list [.atom w,e])).length=(fh e).length+4:=by
 simp[fh,ew];omega
theorem Va(w:Nm)(e f:E)(h:w.length=1):(fh (.list [.atom w,e,f])).length=(fh e).length+(fh f).length+5:=by
 simp[fh,ew];omega
theorem Ov{b:AV}{p q q' C B:Nat}{w:Nm}{e:E}(hw:w.length=1)(h1:p<=q)(h2:q<=p+1)(h3:q<=q')(h4:q'<=q+C)(ho:e.ok)(hl:(fh e).length<=B) :
 eV b p (C+1) (ky (B+5)) (.agg [.v (.string (mk [])),(E.list [.atom w,e]).sp]) [.cells [b,.v (.int .i64 (q':Int))]] :=
 ⟨q',by omega,by omega,⟨.list [.atom w,e],rfl,⟨by intro h;rw[h]at hw;simp at hw,ho,trivial⟩,by rw[U9 w e hw];omega⟩,rfl⟩
theorem QH(b:AV)(l:List UInt8)(hb:tL b l)(d:Int){s:Nm}(hs:s≠[]):kI b d (.atom s) 5 1:=by
 intro p hp
 refine FB _ _ _ _ _ ((aV (.atom s)).mpr trivial) hb.has ?_
 simp only[DW,eh,↓zq,zs,af]
 refine aj (AF s _ ((aV (.atom s)).mpr trivial) hs) ?_
 simp only[↓zq,zs,af,zt]
 refine⟨fun h=>(by cases h),fun _=>⟨fun h=>(by cases h),fun _=>⟨fun h=>(by cases h),fun _=>⟨fun _=>?_,fun _=>?_⟩⟩⟩⟩
 ·exact⟨p,au _,by omega,ky.u 5 (by omega),rfl⟩
 ·refine aQ (xZ b l hb p 3 (by omega) (by decide)) (eV.ne ⟨0,rfl,fun h=>by omega,by omega⟩) ?_
  rintro r o ⟨q,h1,h2,⟨k,rfl,h3,h4⟩,rfl⟩
  have hk:k<3:=h3 (by omega)
  simp only[↓zq,zs,af,aH,hb.has]
  refine aj (BF (k+1) k (by omega) (by omega)) ?_
  have hd:dd k=[bp (48+k)]:=eX (by omega)
  simp only[↓zq,zs,af,zt,hd]
  refine⟨by simp,q,h1,h2,⟨.atom ([101]++[bp (48+k)]),rfl,by simp[E.ok],by simp[fh]⟩,rfl⟩
theorem ME(b:AV)(l:List UInt8)(hb:tL b l)(d:Int)(hd:-100000<=d/\d<=100000){n:Nm}{e:E}(hn:rQ n)(he:Wf e)(hl:(E.list [.atom dL,.atom n,e]).dq<=400)(B C:Nat)(ih:-12<=d->∀g,Wf g->g.dq<=400->kI b (d-1) g B C)(hB:1<=B):kI b d (.list [.atom dL,.atom n,e]) (B+5) (C+1):=by
 intro p hp
 refine FB _ _ _ _ _ ((aV _).mpr trivial) hb.has ?_
 have ed:IntKind.wrap .i64 (d-1)=d-1:=VL.wrap64 _ (by omega) (by omega)
 simp only[DW,bL,↓zq,zs,af,ed]
 refine aj (pd dL (.atom n) e) ?_
 simp only[↓zq,zs,af,zt]
 have hu:=R4 hn he hl
 refine⟨fun h=>(by cases h),fun _=>⟨fun h=>(by cases h),fun _=>⟨fun _=>?_,fun h=>absurd rfl h⟩⟩⟩
 refine aQ hu ⟨_,_,rfl,.atom [117],true,rfl,.atom (by simp),by simp[E.dq]⟩ ?_
 rintro r o ⟨rfl,g,c,rfl,g1,g2⟩
 have u:eV b p (C+1) (ky (B+5)) (.agg [.v (.string (mk [117])),.v (.slice none 0 0)]) [.cells [b,.v (.int .i64 (p:Int))]]:=⟨p,au _,by omega,ky.u _ (by omega),rfl⟩
 simp only[↓zq,zs,af,zt,aK]
 refine⟨fun _=>u,fun _=>⟨fun _=>u,fun hd2=>?_⟩⟩
 refine aQ (ih (by omega) g g1 g2 p (by omega)) (pY b p C B hB) ?_
 rintro r o ⟨q,h1,h2,⟨f,rfl,h4,h5⟩,rfl⟩
 simp only[↓zq,zs,af,zt,aH,hb.has,aK]
 repeat refine⟨by omega,?_⟩
 refine aj (xB [102] f) ?_
 simp only[↓zq,zs,af,zt,aH,hb.has,aK]
 have fin:=Ov (b:=b) (w:=[102]) rfl (au p) (by omega) h1 h2 h4 h5
 first|exact fin|exact⟨by omega,fin⟩
theorem KE(b:AV)(l:List UInt8)(hb:tL b l)(d:Int)(hd:-100000<=d/\d<=100000){x y:E}(hx:Wf x)(hy:Wf y)(B1 C1 B2 C2:Nat)(ix:kI b (d-1) x B1 C1)(iy:kI b (d-1) y B2 C2)(hB:1<=B1)(hB2:1<=B2):kI b d (.list [.atom [42],x,y]) (B1+B2+5) (C1+C2+1):=by
 intro p hp
 refine FB _ _ _ _ _ ((aV _).mpr trivial) hb.has ?_
 have ed:IntKind.wrap .i64 (d-1)=d-1:=VL.wrap64 _ (by omega) (by omega)
 have hP:=P3.of (.atom [42]) x y
 simp only[DW,bL,toNat_one,bn,↓zq,zs,af,zt,hP.1,hP.2.1,hP.2.2.1,hP.2.2.2,aK,ed]
 refine aj (pd [42] x y) ?_
 simp only[↓zq,zs,af,zt]
 refine⟨fun h=>(by cases h),fun _=>⟨fun _=>?_,fun h=>absurd rfl h⟩⟩
 refine⟨by omega,by omega,aQ (ix p (by omega)) (pY b p C1 B1 hB) ?_⟩
 rintro r o ⟨q,h1,h2,⟨f,rfl,h4,h5⟩,rfl⟩
 simp only[↓zq,zs,af,zt,aH,hb.has,aK]
 repeat refine⟨by omega,?_⟩
 refine aQ (iy q (by omega)) (pY b q C2 B2 hB2) ?_
 rintro r o ⟨q',g1,g2,⟨g,rfl,g4,g5⟩,rfl⟩
 simp only[↓zq,zs,af,zt,aH,hb.has,aK]
 repeat refine⟨by omega,?_⟩
 refine aj (xY [112] f g) ?_
 simp only[↓zq,zs,af,zt,aH,hb.has,aK]
 have fin:eV b p (C1+C2+1) (ky (B1+B2+5)) (.agg [.v (.string (mk [])),(E.list [.atom [112],f,g]).sp]) [.cells [b,.v (.int .i64 (q':Int))]]:=⟨q',by omega,by omega,⟨.list [.atom [112],f,g],rfl,⟨by simp[E.ok],h4,g4,trivial⟩,by rw[Va [112] f g rfl];omega⟩,rfl⟩
 first|exact fin|exact⟨by omega,fin⟩
theorem Nr(b:AV)(l:List UInt8)(hb:tL b l)(d:Int)(hd:-100000<=d/\d<=100000){x y:E}(hx:Wf x)(hy:Wf y)(hl:(E.list [.atom [43],x,y]).dq<=400)(B C:Nat)(ix:kI b (d-1) x B C)(iy:kI b (d-1) y B C)(hB:1<=B):kI b d (.list [.atom [43],x,y]) (B+5) (C+1):=by
 intro p hp
 refine FB _ _ _ _ _ ((aV _).mpr trivial) hb.has ?_
 have ed:IntKind.wrap .i64 (d-1)=d-1:=VL.wrap64 _ (by omega) (by omega)
 have hP:=P3.of (.atom [43]) x y
 simp only[E.dq,E.fm]at hl
 have s1:=hx.sz
 have s2:=hy.sz
 simp only[DW,bL,toNat_one,bn,↓zq,zs,af,zt,hP.1,hP.2.1,hP.2.2.1,hP.2.2.2,aK,ed]
 refine aj (pd [43] x y) ?_
 simp only[↓zq,zs,af,zt]
 refine⟨fun _=>?_,fun h=>absurd rfl h⟩
 refine aQ (xZ b l hb p 2 (by omega) (by decide)) (eV.ne ⟨0,rfl,fun h=>by omega,by omega⟩) ?_
 rintro r o ⟨q,h1,h2,⟨k,rfl,_,_⟩,rfl⟩
 simp only[↓zq,zs,af,zt,aH,hb.has,aK]
 have ex:=PB hx [] (.sl []) (.of []) (by simp;omega)
 have ey:=PB hy [] (.sl []) (.of []) (by simp;omega)
 have ax:=EW x hx.ok (by omega)
 have ay:=EW y hy.ok (by omega)
 rw[cU]at ax ay
 have lx:=ix q (by omega)
 have ly:=iy q (by omega)
 have t:=pY b q C B hB
 have leaf:∀(w:Nm) (q':Nat) (f:E),w.length=1->q<=q'->q'<=q+C->f.ok->(fh f).length<=B->eV b p (C+1) (ky (B+5)) (.agg [.v (.string (mk [])),(E.list [.atom w,f]).sp]) [.cells [b,.v (.int .i64 (q':Int))]]:=fun w q' f hw g1 g2 h4 h5=>Ov hw h1 h2 g1 g2 h4 h5
 repeat' first
  |intro _
  |refine⟨by omega,?_⟩
  |(
   with_reducible refine aQ lx t ?_
   rintro r o ⟨q',g1,g2,⟨f,rfl,h4,h5⟩,rfl⟩
   simp only[↓zq,zs,af,zt,aH,hb.has,aK]
   repeat refine⟨by omega,?_⟩
   refine aj (xB _ f) ?_
   simp only[↓zq,zs,af,zt,aH,hb.has,aK]
   have fin:=leaf [108] q' f rfl g1 g2 h4 h5
   first|exact fin|exact⟨by omega,fin⟩)
  |(
   with_reducible refine aQ ly t ?_
   rintro r o ⟨q',g1,g2,⟨f,rfl,h4,h5⟩,rfl⟩
   simp only[↓zq,zs,af,zt,aH,hb.has,aK]
   repeat refine⟨by omega,?_⟩
   refine aj (xB _ f) ?_
   simp only[↓zq,zs,af,zt,aH,hb.has,aK]
   have fin:=leaf [114] q' f rfl g1 g2 h4 h5
   first|exact fin|exact⟨by omega,fin⟩)
  |(with_reducible refine ku.call ex fun _=>?_;simp only[↓zq,zs,af,zt,aK])
  |(with_reducible refine ku.call ey fun _=>?_;simp only[↓zq,zs,af,zt,aK])
  |(with_reducible refine aj ax ?_;simp only[↓zq,zs,af,zt,aK])
  |(with_reducible refine aj ay ?_;simp only[↓zq,zs,af,zt,aK])
  |with_reducible refine aJ ?_ ?_
  |(exfalso;omega)
end Go.Proofs.Trees
namespace Go.Proofs.Trees
open Go Go.VL Go.RowKit
def oc:Nat->Nat
 |0=>2
 |d+1=>2*oc d+15
def od:Nat->Nat
 |0=>3
 |d+1=>2*od d+8
theorem T6(d:Nat):2<=oc d:=by cases d<;>simp only[oc]<;>omega
theorem T3(d:Nat):3<=od d:=by cases d<;>simp only[od]<;>omega
theorem JX:∀d:Nat,d<=10->oc d<=100000000
 |0,_=>by decide
 |1,_=>by decide
 |2,_=>by decide
 |3,_=>by decide
 |4,_=>by decide
 |5,_=>by decide
 |6,_=>by decide
 |7,_=>by decide
 |8,_=>by decide
 |9,_=>by decide
 |10,_=>by decide
 |d+11,h=>by omega
theorem BW(b:AV)(l:List UInt8)(hb:tL b l)(p:Nat)(hp:p<2*rF):aq Tryz.prog 68 [.ref 0 0] [.cells [b,.v (.int .i64 (p:Int))]] (eV b p 1 (gq 60)):=by
 refine Sf _ _ hb.has ?_
 unfold Lm
 refine aQ (E8 b l hb p hp _ _ (.of [_,_,_,_,_,_,_]) (by simp) (by simp)) (eV.ne ⟨_,ak,rfl⟩) ?_
 rintro r o ⟨q,h1,h2,hr,rfl⟩
 obtain⟨s,rfl,hs⟩:=lG.cf (n:=60) (by decide) hr
 simp only[↓zq,zs,af,aH,hb.has]
 exact⟨q,h1,h2,⟨s,rfl,hs⟩,rfl⟩
theorem ID(b:AV)(l:List UInt8)(hb:tL b l):∀(d:Nat),d<=10->∀(p:Nat) (ls:List (List UInt8)) (a:AV),cQ a ls->(∀s,s∈ls->s.length<=2)->ls.length+d<=100->p+od d<2*rF ->
 aq Tryz.prog 143 [.ref 0 0,a,.v (.int .i64 (d:Int))] [.cells [b,.v (.int .i64 (p:Int))]] (eV b p (od d) (gq (oc d))):=by
 intro d
 induction d with
 |
  zero =>
  intro hd p ls a ha hls hll hp
  simp only[od]at hp
  refine LF _ _ _ _ ha.1 hb.has ?_
  simp only[J6,↓zq,zs,af,ha.len]
  refine⟨fun _=>⟨ha.1,fun hpos=>?_,fun _=>?_⟩,fun h=>by omega⟩
  ·refine aQ (xZ b l hb p 3 (by omega) (by decide)) (eV.ne ⟨0,rfl,fun h=>by omega,by omega⟩) ?_
   rintro r o ⟨q1,h1,h2,⟨k,rfl,h3,h4⟩,rfl⟩
   simp only[↓zq,zs,af,aH,hb.has]
   refine⟨fun _=>⟨ha.1,?_⟩,fun _=>?_⟩
   ·refine aQ (xZ b l hb q1 ls.length (by omega) (by simp[rF];omega)) (eV.ne ⟨0,rfl,fun h=>by omega,by omega⟩) ?_
    rintro r o ⟨q2,g1,g2,⟨k2,rfl,g3,g4⟩,rfl⟩
    have hk:=g3 (by omega)
    simp only[↓zq,zs,af,aH,hb.has,bF,ha.idx hk]
    have:eV b p (od 0) (gq (oc 0)) (.v (.string (mk (ls.getD k2 [])))) [.cells [b,.v (.int .i64 (q2:Int))]]:=⟨q2,by omega,by simp only[od];omega,⟨_,rfl,by
     have:=hls (ls.getD k2 []) (by simp[aa,hk]);simp only[oc];omega⟩,rfl⟩
    refine⟨⟨ha.1,by omega⟩,?_⟩
    repeat (first|exact this|refine⟨by omega,?_⟩)
   ·refine aQ (E8 b l hb q1 (by omega) _ _ (.of [_,_,_,_,_,_]) (by simp) (by simp)) (eV.ne ⟨_,ak,rfl⟩) ?_
    rintro r o ⟨q2,g1,g2,hr,rfl⟩
    obtain⟨s,rfl,hs⟩:=lG.cf (n:=2) (by decide) hr
    simp only[↓zq,zs,af,aH,hb.has]
    exact⟨q2,by omega,by simp only[od];omega,⟨s,rfl,by simp only[oc];omega⟩,rfl⟩
  ·refine aQ (E8 b l hb p (by omega) _ _ (.of [_,_,_,_,_,_]) (by simp) (by simp)) (eV.ne ⟨_,ak,rfl⟩) ?_
   rintro r o ⟨q2,g1,g2,hr,rfl⟩
   obtain⟨s,rfl,hs⟩:=lG.cf (n:=2) (by decide) hr
   simp only[↓zq,zs,af,aH,hb.has]
   exact⟨q2,by omega,by simp only[od];omega,⟨s,rfl,by simp only[oc];omega⟩,rfl⟩
 |
  succ d ih =>
  intro hd p ls a ha hls hll hp
  simp only[od]at hp
  have hL:=T6 d
  have hC:=T3 d
  have ih:=ih (by omega)
  have hL8:=JX d (by omega)
  have ed:IntKind.wrap .i64 (((d+1:Nat):Int)-1)=(d:Int):=by rw[VL.wrap64]<;>omega
  refine LF _ _ _ _ ha.1 hb.has ?_
  simp only[J6,↓zq,zs,af,ha.len,ed]
  refine⟨fun h=>by omega,fun _=>?_⟩
  refine aQ (xZ b l hb p 4 (by omega) (by decide)) (eV.ne ⟨0,rfl,fun h=>by omega,by omega⟩) ?_
  rintro r o ⟨q0,a1,a2,⟨k0,rfl,_,_⟩,rfl⟩
  simp only[↓zq,zs,af,aH,hb.has]
  refine⟨fun _=>⟨ha.1,fun hpos=>?_,fun _=>?_⟩,fun _=>?_⟩
  ·refine aQ (xZ b l hb q0 3 (by omega) (by decide)) (eV.ne ⟨0,rfl,fun h=>by omega,by omega⟩) ?_
   rintro r o ⟨q1,h1,h2,⟨k,rfl,h3,h4⟩,rfl⟩
   simp only[↓zq,zs,af,aH,hb.has]
   refine⟨fun _=>⟨ha.1,?_⟩,fun _=>?_⟩
   ·refine aQ (xZ b l hb q1 ls.length (by omega) (by simp[rF];omega)) (eV.ne ⟨0,rfl,fun h=>by omega,by omega⟩) ?_
    rintro r o ⟨q2,g1,g2,⟨k2,rfl,g3,g4⟩,rfl⟩
    have hk:=g3 (by omega)
    simp only[↓zq,zs,af,aH,hb.has,bF,ha.idx hk]
    have:eV b p (od (d+1)) (gq (oc (d+1))) (.v (.string (mk (ls.getD k2 [])))) [.cells [b,.v (.int .i64 (q2:Int))]]:=⟨q2,by omega,by simp only[od];omega,⟨_,rfl,by
     have:=hls (ls.getD k2 []) (by simp[aa,hk]);simp only[oc];omega⟩,rfl⟩
    refine⟨⟨ha.1,by omega⟩,?_⟩
    repeat (first|exact this|refine⟨by omega,?_⟩)
   ·refine aQ (E8 b l hb q1 (by omega) _ _ (.of [_,_,_,_,_,_]) (by simp) (by simp)) (eV.ne ⟨_,ak,rfl⟩) ?_
    rintro r o ⟨q2,g1,g2,hr,rfl⟩
    obtain⟨s,rfl,hs⟩:=lG.cf (n:=2) (by decide) hr
    simp only[↓zq,zs,af,aH,hb.has]
    exact⟨q2,by omega,by simp only[od];omega,⟨s,rfl,by simp only[oc];omega⟩,rfl⟩
  ·refine aQ (E8 b l hb q0 (by omega) _ _ (.of [_,_,_,_,_,_]) (by simp) (by simp)) (eV.ne ⟨_,ak,rfl⟩) ?_
   rintro r o ⟨q2,g1,g2,hr,rfl⟩
   obtain⟨s,rfl,hs⟩:=lG.cf (n:=2) (by decide) hr
   simp only[↓zq,zs,af,aH,hb.has]
   exact⟨q2,by omega,by simp only[od];omega,⟨s,rfl,by simp only[oc];omega⟩,rfl⟩
  ·refine aQ (xZ b l hb q0 5 (by omega) (by decide)) (eV.ne ⟨0,rfl,fun h=>by omega,by omega⟩) ?_
   rintro r o ⟨q1,b1,b2,⟨k1,rfl,c3,_⟩,rfl⟩
   have hk1:=c3 (by omega)
   obtain rfl|rfl|rfl|rfl|rfl:k1=0\/k1=1\/k1=2\/k1=3\/k1=4:=by omega
   ·simp only[↓zq,zs,af,aH,hb.has]
    refine⟨fun _=>?_,fun h=>absurd rfl h⟩
    refine aQ (ih q1 ls a ha hls (by omega) (by omega)) (eV.ne ⟨[],rfl,by simp⟩) ?_
    rintro r o ⟨q2,d1,d2,⟨s1,rfl,d3⟩,rfl⟩
    simp only[↓zq,zs,af,zt,aH,hb.has,an]
    repeat refine⟨by first|omega|(simp only[an,aw,aF];omega),?_⟩
    refine aQ (ih q2 ls a ha hls (by omega) (by omega)) (eV.ne ⟨[],rfl,by simp⟩) ?_
    rintro r o ⟨q3,e1,e2,⟨s2,rfl,e3⟩,rfl⟩
    simp only[↓zq,zs,af,zt,aH,hb.has,an]
    have fin:∀s:List UInt8,s.length<=oc (d+1)->eV b p (od (d+1)) (gq (oc (d+1))) (.v (.string (mk s))) [.cells [b,.v (.int .i64 (q3:Int))]]:=fun s hs=>⟨q3,by omega,by simp only[od];omega,⟨s,rfl,hs⟩,rfl⟩
    repeat (first|exact fin _ (by simp only[an,aw,aF,oc];omega)|refine⟨by first|omega|(simp only[an,aw,aF];omega),?_⟩)
   ·simp only[↓zq,zs,af,aH,hb.has]
    refine⟨fun h=>by omega,fun _=>⟨fun _=>?_,fun h=>absurd rfl h⟩⟩
    refine aQ (ih q1 ls a ha hls (by omega) (by omega)) (eV.ne ⟨[],rfl,by simp⟩) ?_
    rintro r o ⟨q2,d1,d2,⟨s1,rfl,d3⟩,rfl⟩
    simp only[↓zq,zs,af,zt,aH,hb.has,an]
    repeat refine⟨by first|omega|(simp only[an,aw,aF];omega),?_⟩
    refine aQ (ih q2 ls a ha hls (by omega) (by omega)) (eV.ne ⟨[],rfl,by simp⟩) ?_
    rintro r o ⟨q3,e1,e2,⟨s2,rfl,e3⟩,rfl⟩
    simp only[↓zq,zs,af,zt,aH,hb.has,an]
    have fin:∀s:List UInt8,s.length<=oc (d+1)->eV b p (od (d+1)) (gq (oc (d+1))) (.v (.string (mk s))) [.cells [b,.v (.int .i64 (q3:Int))]]:=fun s hs=>⟨q3,by omega,by simp only[od];omega,⟨s,rfl,hs⟩,rfl⟩
    repeat (first|exact fin _ (by simp only[an,aw,aF,oc];omega)|refine⟨by first|omega|(simp only[an,aw,aF];omega),?_⟩)
   ·simp only[↓zq,zs,af,aH,hb.has]
    refine⟨fun h=>by omega,fun _=>⟨fun h=>by omega,fun _=>⟨fun _=>?_,fun h=>absurd rfl h⟩⟩⟩
    refine aQ (ih q1 ls a ha hls (by omega) (by omega)) (eV.ne ⟨[],rfl,by simp⟩) ?_
    rintro r o ⟨q2,d1,d2,⟨s1,rfl,d3⟩,rfl⟩
    simp only[↓zq,zs,af,zt,aH,hb.has,an]
    repeat refine⟨by first|omega|(simp only[an,aw,aF];omega),?_⟩
    refine aQ (ih q2 ls a ha hls (by omega) (by omega)) (eV.ne ⟨[],rfl,by simp⟩) ?_
    rintro r o ⟨q3,e1,e2,⟨s2,rfl,e3⟩,rfl⟩
    simp only[↓zq,zs,af,zt,aH,hb.has,an]
    have fin:∀s:List UInt8,s.length<=oc (d+1)->eV b p (od (d+1)) (gq (oc (d+1))) (.v (.string (mk s))) [.cells [b,.v (.int .i64 (q3:Int))]]:=fun s hs=>⟨q3,by omega,by simp only[od];omega,⟨s,rfl,hs⟩,rfl⟩
    repeat (first|exact fin _ (by simp only[an,aw,aF,oc];omega)|refine⟨by first|omega|(simp only[an,aw,aF];omega),?_⟩)
   ·simp only[↓zq,zs,af,aH,hb.has]
    refine⟨fun h=>by omega,fun _=>⟨fun h=>by omega,fun _=>⟨fun h=>by omega,fun _=>⟨fun _=>?_,fun h=>absurd rfl h⟩⟩⟩⟩
    refine aQ (ih q1 ls a ha hls (by omega) (by omega)) (eV.ne ⟨[],rfl,by simp⟩) ?_
    rintro r o ⟨q2,d1,d2,⟨s1,rfl,d3⟩,rfl⟩
    simp only[↓zq,zs,af,zt,aH,hb.has,an]
    repeat refine⟨by first|omega|(simp only[an,aw,aF];omega),?_⟩
    refine aQ (ih q2 ls a ha hls (by omega) (by omega)) (eV.ne ⟨[],rfl,by simp⟩) ?_
    rintro r o ⟨q3,e1,e2,⟨s2,rfl,e3⟩,rfl⟩
    simp only[↓zq,zs,af,zt,aH,hb.has,an]
    have fin:∀s:List UInt8,s.length<=oc (d+1)->eV b p (od (d+1)) (gq (oc (d+1))) (.v (.string (mk s))) [.cells [b,.v (.int .i64 (q3:Int))]]:=fun s hs=>⟨q3,by omega,by simp only[od];omega,⟨s,rfl,hs⟩,rfl⟩
    repeat (first|exact fin _ (by simp only[an,aw,aF,oc];omega)|refine⟨by first|omega|(simp only[an,aw,aF];omega),?_⟩)
   ·simp only[↓zq,zs,af,aH,hb.has]
    refine⟨fun h=>by omega,fun _=>⟨fun h=>by omega,fun _=>⟨fun h=>by omega,fun _=>⟨fun h=>by omega,fun _=>?_⟩⟩⟩⟩
    refine aQ (E8 b l hb q1 (by omega) _ _ (.of [_,_,_]) (by simp) (by simp)) (eV.ne ⟨_,ak,rfl⟩) ?_
    rintro r o ⟨q2,g1,g2,hr,rfl⟩
    obtain⟨s,rfl,hs⟩:=lG.cf (n:=2) (by decide) hr
    simp only[↓zq,zs,af,zt,aH,hb.has]
    repeat refine⟨by first|omega|(simp only[an,aw,aF];omega),?_⟩
    refine aX (yj ls a ha s (by omega)) ?_
    simp only[↓zq,zs,af,Ob.es,aM]
    refine⟨dk _,?_⟩
    refine aQ (ih q2 (ls++[s]) _ (.of _) (fun w hw=>by
     rcases aP.1 hw with hw|hw
     ·exact hls w hw
     ·simp at hw;rw[hw];exact hs) (by simp;omega) (by omega)) (eV.ne ⟨[],rfl,by simp⟩) ?_
    rintro r o ⟨q3,e1,e2,⟨s2,rfl,e3⟩,rfl⟩
    simp only[↓zq,zs,af,zt,aH,hb.has,an]
    have fin:∀s:List UInt8,s.length<=oc (d+1)->eV b p (od (d+1)) (gq (oc (d+1))) (.v (.string (mk s))) [.cells [b,.v (.int .i64 (q3:Int))]]:=fun s hs=>⟨q3,by omega,by simp only[od];omega,⟨s,rfl,hs⟩,rfl⟩
    repeat (first|exact fin _ (by simp only[an,aw,aF,oc];omega)|refine⟨by first|omega|(simp only[an,aw,aF];omega),?_⟩)
end Go.Proofs.Trees
namespace Go.Proofs.Trees
open Go Go.VL Go.RowKit
theorem eV.mono{b:AV}{p c c':Nat}{X Y:AV->Prop}(hc:c<=c')(h:∀r,X r->Y r){r:AV}{o:List Ob}(hr:eV b p c X r o):eV b p c' Y r o:=by
 obtain⟨q,h1,h2,h3,h4⟩:=hr;exact⟨q,h1,by omega,h r h3,h4⟩
theorem gq.le{n m:Nat}(h:n<=m){r:AV}(hr:gq n r):gq m r:=by obtain⟨s,h1,h2⟩:=hr;exact⟨s,h1,by omega⟩
theorem T2(b:AV)(l:List UInt8)(hb:tL b l)(p:Nat)(hp:p<rF):aq Tryz.prog 142 [.ref 0 0] [.cells [b,.v (.int .i64 (p:Int))]] (eV b p 100 (gq 200)):=by
 refine Ss _ _ hb.has ?_
 unfold QX
 have hfar:rF=1000000000000000:=rfl
 refine aQ (xZ b l hb p 12 (by omega) (by decide)) (eV.ne ⟨0,rfl,fun h=>by omega,by omega⟩) ?_
 rintro r o ⟨q,h1,h2,⟨k,rfl,_,_⟩,rfl⟩
 have kn:∀(c m:Nat) (r:AV) (o:List Ob),c<=90->m<=200->eV b q c (gq m) r o->∃q':Nat,∃s:List UInt8,r=.v (.string (mk s))/\o=[.cells [b,.v (.int .i64 (q':Int))]]/\eV b p 100 (gq 200) (.v (.string (mk s))) [.cells [b,.v (.int .i64 (q':Int))]]:=by
  rintro c m r o hc hm ⟨q',g1,g2,⟨s,rfl,hs⟩,rfl⟩
  exact⟨q',s,rfl,rfl,q',by omega,by omega,⟨s,rfl,by omega⟩,rfl⟩
 simp only[↓zq,zs,af,aH,hb.has]
 refine⟨fun _=>?_,fun _=>⟨fun _=>?_,fun _=>⟨fun _=>?_,fun _=>⟨fun _=>?_,fun _=>⟨fun _=>?_,fun _=>?_⟩⟩⟩⟩⟩
 ·refine aQ (E8 b l hb q (by omega) _ _ (.of [_,_,_,_,_,_,_,_,_]) (by simp) (by simp)) (eV.ne ⟨_,ak,rfl⟩) ?_
  intro r o hr
  obtain⟨q',s,rfl,rfl,hd⟩:=kn 1 20 r o (by omega) (by omega) (hr.mono (au _) fun r h=>lG.cf (n:=20) (by decide) h)
  simp only[↓zq,zs,af,aH,hb.has];exact hd
 ·refine aQ (BW b l hb q (by omega)) (eV.ne ⟨[],rfl,by simp⟩) ?_
  intro r o hr
  obtain⟨q',s,rfl,rfl,hd⟩:=kn _ _ r o (by omega) (by omega) hr
  simp only[↓zq,zs,af,aH,hb.has];exact hd
 ·refine aQ (BW b l hb q (by omega)) (eV.ne ⟨[],rfl,by simp⟩) ?_
  intro r o hr
  obtain⟨q',s,rfl,rfl,hd⟩:=kn _ _ r o (by omega) (by omega) hr
  simp only[↓zq,zs,af,aH,hb.has];exact hd
 ·refine aQ (BW b l hb q (by omega)) (eV.ne ⟨[],rfl,by simp⟩) ?_
  intro r o hr
  obtain⟨q',s,rfl,rfl,hd⟩:=kn _ _ r o (by omega) (by omega) hr
  simp only[↓zq,zs,af,aH,hb.has];exact hd
 ·refine aQ (ID b l hb 2 (by omega) q [[116],[116,49]] _ (cQ.of [[116],[116,49]]) (by decide) (by simp) (by simp[od];omega)) (eV.ne ⟨[],rfl,by simp⟩) ?_
  intro r o hr
  obtain⟨q',s,rfl,rfl,hd⟩:=kn _ _ r o (by simp[od]) (by simp[oc]) hr
  simp only[↓zq,zs,af,aH,hb.has];exact hd
 ·refine aQ (ID b l hb 3 (by omega) q [] _ (cQ.of []) (by simp) (by simp) (by simp[od];omega)) (eV.ne ⟨[],rfl,by simp⟩) ?_
  intro r o hr
  obtain⟨q',s,rfl,rfl,hd⟩:=kn _ _ r o (by simp[od]) (by simp[oc]) hr
  simp only[↓zq,zs,af,aH,hb.has];exact hd
def yY(a:AV):Prop:=LK.sl.has a/\∃l:List UInt8,a.elems=rk l
def Rc(r:AV)(o:List Ob):Prop:=∃(b:AV) (l:List UInt8),tL b l/\r=.ref 0 0/\o=[.cells [b,.v (.int .i64 0)]]
theorem Rc.ne:∃r o,Rc r o:=⟨_,_,.v (.slice none 0 0),[],⟨(bo).mpr trivial,rfl,by simp⟩,rfl,rfl⟩
theorem S8(a:AV)(ha:yY a):aq Tryz.prog 23 [a] [] Rc:=by
 obtain⟨hs,l,hl⟩:=ha
 have hln:a.elems.length=l.length:=by rw[hl];simp[rk]
 refine Tl _ hs ?_
 simp only[MU,↓zq,zs,af,hln]
 refine⟨hs,fun h=>⟨⟨hs,by omega⟩,?_⟩,fun h=>?_⟩
 ·refine⟨_,l.take 2000,⟨(cc _).mpr trivial,?_,?_⟩,rfl,rfl⟩
  ·rw[fy,hl];simp[rk]
  ·simp;omega
 ·exact⟨a,l,⟨hs,hl,by omega⟩,rfl,rfl⟩
end Go.Proofs.Trees
namespace Go.Proofs.Trees
open Go Go.VL Go.RowKit
theorem Dk(b:AV)(l:List UInt8)(hb:tL b l){e:E}(h:Wf e):∀d:Int,d<=-13->-50000+(e.sz:Int)<=d->e.dq<=400->kI b d e (5*e.sz) e.sz:=by
 induction h with
 |
  @atom s hs =>
  intro d h1 h2 h3
  exact(QH b l hb d hs).mono (by simp[E.sz]) (by simp[E.sz])
 |
  @plus x y hx hy i1 i2 =>
  intro d h1 h2 h3
  have h4:=h3
  simp only[E.sz,E.jN,E.dq,E.fm]at h2 h4 |-
  exact(Nr b l hb d (by omega) hx hy h3 (5*(x.sz+y.sz)+1) (x.sz+y.sz) ((i1 (d-1) (by omega) (by omega) (by omega)).mono (by omega) (by omega)) ((i2 (d-1) (by omega) (by omega) (by omega)).mono (by omega) (by omega)) (by omega)).mono (by omega) (by omega)
 |
  @times x y hx hy i1 i2 =>
  intro d h1 h2 h3
  have h4:=h3
  simp only[E.sz,E.jN,E.dq,E.fm]at h2 h4 |-
  exact(KE b l hb d (by omega) hx hy (5*x.sz+1) x.sz (5*y.sz+1) y.sz ((i1 (d-1) (by omega) (by omega) (by omega)).mono (by omega) (by omega)) ((i2 (d-1) (by omega) (by omega) (by omega)).mono (by omega) (by omega)) (by omega) (by omega)).mono (by omega) (by omega)
 |
  @rc n x hn hx i =>
  intro d h1 h2 h3
  simp only[E.sz,E.jN]at h2 |-
  exact(ME b l hb d (by omega) hn hx h3 1 0 (fun h=>absurd h (by omega)) (by omega)).mono (by omega) (by omega)
def qk:Nat->Nat
 |0=>6100
 |n+1=>2*qk n+5
theorem JG:∀n,6100<=qk n
 |0=>au _
 |n+1=>by have:=JG n;simp only[qk];omega
theorem yt:∀n k:Nat,qk (n+k)+5=2 ^ k*(qk n+5)
 |n,0=>by simp
 |
  n,k+1=>by
  have:=yt n k
  rw[show n+(k+1)=n+k+1 from rfl,qk,Nat.pow_succ,Nat.mul_comm (2 ^ k) 2,Nat.mul_assoc,<-this];omega
theorem B9{n m:Nat}(h:n<=m):qk n<=qk m:=by
 obtain⟨k,rfl⟩:=Nat.exists_eq_add_of_le h
 have:=yt n k
 have h2:1*(qk n+5)<=2 ^ k*(qk n+5):=bg _ Nat.one_le_two_pow
 omega
theorem LO:qk 22<=30000000000:=by
 have:=yt 0 22
 simp only[ba]at this
 have h0:qk 0=6100:=rfl
 rw[h0]at this
 omega
theorem yT(b:AV)(l:List UInt8)(hb:tL b l):∀n:Nat,n<=40->∀e,Wf e->e.dq<=400->kI b ((n:Int)-13) e (qk n) (qk n)
 |
  0,hn,e,h,hl=>by
  have:=h.sz
  exact(Dk b l hb h _ (by simp) (by simp;omega) hl).mono (by simp only[qk];omega) (by simp only[qk];omega)
 |
  n+1,hn,e,h,hl=>by
  have hb1:=JG n
  have ih:∀g,Wf g->g.dq<=400->kI b (((n+1:Nat):Int)-13-1) g (qk n) (qk n):=by
   rw[show ((n+1:Nat):Int)-13-1=(n:Int)-13 by omega];exact yT b l hb n (by omega)
  cases h with
  |@atom s hs=>exact(QH b l hb _ hs).mono (by simp only[qk];omega) (by simp only[qk];omega)
  |
   @plus x y hx hy =>
   have h4:=hl
   simp only[E.dq,E.fm]at h4
   exact(Nr b l hb _ (by omega) hx hy hl _ _ (ih x hx (by omega)) (ih y hy (by omega)) (by omega)).mono (by simp only[qk];omega) (by simp only[qk];omega)
  |
   @times x y hx hy =>
   simp only[E.dq,E.fm]at hl
   exact(KE b l hb _ (by omega) hx hy _ _ _ _ (ih x hx (by omega)) (ih y hy (by omega)) (by omega) (by omega)).mono (by simp only[qk];omega) (by simp only[qk];omega)
  |@rc m x hm hx=>exact(ME b l hb _ (by omega) hm hx hl _ _ (fun _=>ih) (by omega)).mono (by simp only[qk];omega) (by simp only[qk];omega)
theorem IN(b:AV)(l:List UInt8)(hb:tL b l)(p:Nat)(hp:p<100000000000000)(s:Nm):aq Tryz.prog 50 [.ref 0 0,.v (.string (mk s))] [.cells [b,.v (.int .i64 (p:Int))]] (eV b p 40000000000 (gq 40000000000)):=by
 refine Rf _ _ _ hb.has ?_
 have hfar:rF=1000000000000000:=rfl
 have oneL:∀(q:Nat) (r:AV) (o:List Ob),p<=q->q<=p+1->eV b q 1 (lG [[],[117],[101,48],[101,48,48],[101,49,48,48],[40,108,32,117,41],[40,112,32,117,41],[40,102,32,40,108,32,117,41,41],[40,120,32,117,41],[40,108,32,32,117,41]]) r o->∃q':Nat,∃t:List UInt8,r=.v (.string (mk t))/\o=[.cells [b,.v (.int .i64 (q':Int))]]/\eV b p 40000000000 (gq 40000000000) (.v (.string (mk t))) [.cells [b,.v (.int .i64 (q':Int))]]:=by
  rintro q r o h1 h2 ⟨q',g1,g2,hr,rfl⟩
  obtain⟨t,rfl,ht⟩:=lG.cf (n:=20) (by decide) hr
  exact⟨q',t,rfl,rfl,q',by omega,by omega,⟨t,rfl,by omega⟩,rfl⟩
 unfold OA
 refine aQ (Jb s) (iU.ne _ _ (fun h=>h)) ?_
 rintro r o ⟨c,d,hd,rfl,hh⟩
 have hhas:bE [.str,.sl] [.v (.string (mk c)),d] 0:=by simp[bE,dC,hd]
 simp only[↓zq,zs,af,zt]
 refine⟨hhas,fun h=>?_,fun h=>?_⟩
 ·refine aQ (E8 b l hb p (by omega) _ _ (.of [_,_,_,_,_,_,_,_,_,_]) (by simp) (by simp)) (eV.ne ⟨_,ak,rfl⟩) ?_
  intro r o hr
  obtain⟨q',t,rfl,rfl,hd⟩:=oneL p r o (au _) (by omega) hr
  simp only[↓zq,zs,af,aH,hb.has];exact hd
 ·obtain⟨e,he,hce⟩:=hh (by simpa using h)
  obtain⟨t,h1,hA,h3,h4,h5,_⟩:=ir he
  rw[cU]at hce
  simp only[AV.agg.injEq,List.cons.injEq,AV.v.injEq,Value.string.injEq,and_true]at hce
  obtain⟨hc1,rfl⟩:=hce
  have hc2:=mk_inj hc1
  subst hc2
  obtain⟨hw,hwt⟩:=kX e [] t hA.ok (by simp) hA.ty
  have hats:e.dq<=400:=by rw[hw.dq [],hwt];exact h5
  have hsz:=hw.sz
  refine aQ (xZ b l hb p 16 (by omega) (by decide)) (eV.ne ⟨0,rfl,fun h=>by omega,by omega⟩) ?_
  rintro r o ⟨q,h1,h2,⟨k,rfl,_,_⟩,rfl⟩
  simp only[↓zq,zs,af,aH,hb.has]
  refine⟨fun _=>?_,fun _=>?_⟩
  ·refine aQ (E8 b l hb q (by omega) _ _ (.of [_,_,_,_,_,_,_,_,_,_]) (by simp) (by simp)) (eV.ne ⟨_,ak,rfl⟩) ?_
   intro r o hr
   obtain⟨q',t,rfl,rfl,hd⟩:=oneL q r o h1 h2 hr
   simp only[↓zq,zs,af,aH,hb.has];exact hd
  ·obtain⟨w1,w2,_⟩:=yu (os:=[]) hw
   have hap:=Fl hw (.v (.slice none 0 0)) [] ⟨(bo).mpr trivial,rfl⟩ (by omega) (by simp) (by simp)
   refine aj hap ?_
   simp only[↓zq,zs,af,zt,aK]
   repeat refine⟨by omega,?_⟩
   have hats2:(Br e []).dq<=400:=by rw[w1.dq [],w2,<-hw.dq []];exact hats
   refine aQ (xZ b l hb q 5 (by omega) (by decide)) (eV.ne ⟨0,rfl,fun h=>by omega,by omega⟩) ?_
   rintro r o ⟨q1,g1,g2,⟨k1,rfl,c3,_⟩,rfl⟩
   have hk1:=c3 (by omega)
   simp only[↓zq,zs,af,zt,aH,hb.has,aK]
   have ed:IntKind.wrap .i64 (5+(k1:Int))=((18+k1:Nat):Int)-13:=by rw[VL.wrap64 _ (by omega) (by omega)];omega
   have hB:=LO
   have hB2:qk (18+k1)<=qk 22:=B9 (by omega)
   have hB3:=JG (18+k1)
   rw[ed]
   refine aQ (yT b l hb (18+k1) (by omega) (Br e []) w1 hats2 q1 (by omega)) (pY b q1 _ _ (by omega)) ?_
   rintro r o ⟨q2,d1,d2,⟨f,rfl,f1,f2⟩,rfl⟩
   simp only[↓zq,zs,af,zt,aH,hb.has,aK]
   repeat refine⟨by omega,?_⟩
   have ht:=FD (f.sz+1) f (by omega) f1 (by omega)
   rw[cU]at ht
   refine aj ht ?_
   simp only[↓zq,zs,af,zt,aH,hb.has,aK]
   exact⟨q2,by omega,by omega,⟨fh f,rfl,by omega⟩,rfl⟩
theorem Ug(b:AV)(l:List UInt8)(hb:tL b l)(p:Nat)(hp:p<100000000000000):aq Tryz.prog 105 [.ref 0 0] [.cells [b,.v (.int .i64 (p:Int))]] (eV b p 200 (gq 200)):=by
 refine SM _ _ hb.has ?_
 unfold MH
 have hfar:rF=1000000000000000:=rfl
 refine aQ (xZ b l hb p 8 (by omega) (by decide)) (eV.ne ⟨0,rfl,fun h=>by omega,by omega⟩) ?_
 rintro r o ⟨q,h1,h2,⟨k,rfl,_,_⟩,rfl⟩
 have kn:∀(c m:Nat) (r:AV) (o:List Ob),c<=190->m<=200->eV b q c (gq m) r o->∃q':Nat,∃s:List UInt8,r=.v (.string (mk s))/\o=[.cells [b,.v (.int .i64 (q':Int))]]/\eV b p 200 (gq 200) (.v (.string (mk s))) [.cells [b,.v (.int .i64 (q':Int))]]:=by
  rintro c m r o hc hm ⟨q',g1,g2,⟨s,rfl,hs⟩,rfl⟩
  exact⟨q',s,rfl,rfl,q',by omega,by omega,⟨s,rfl,by omega⟩,rfl⟩
 have sh:=ID b l hb 3 (by omega) q [] _ (cQ.of []) (by simp) (by simp) (by simp[od];omega)
 have ty:=T2 b l hb q (by omega)
 have kw:=BW b l hb q (by omega)
 simp only[↓zq,zs,af,aH,hb.has]
 refine⟨fun _=>?_,fun _=>⟨fun _=>?_,fun _=>⟨fun _=>?_,fun _=>⟨fun _=>?_,fun _=>?_⟩⟩⟩⟩
 ·refine aQ ty (eV.ne ⟨[],rfl,by simp⟩) ?_
  intro r o hr
  obtain⟨q',s,rfl,rfl,hd⟩:=kn _ _ r o (by omega) (by omega) hr
  simp only[↓zq,zs,af,aH,hb.has];exact hd
 ·refine aQ sh (eV.ne ⟨[],rfl,by simp⟩) ?_
  intro r o hr
  obtain⟨q',s,rfl,rfl,hd⟩:=kn _ _ r o (by simp[od]) (by simp[oc]) hr
  simp only[↓zq,zs,af,aH,hb.has];exact hd
 ·refine aQ sh (eV.ne ⟨[],rfl,by simp⟩) ?_
  intro r o hr
  obtain⟨q',s,rfl,rfl,hd⟩:=kn _ _ r o (by simp[od]) (by simp[oc]) hr
  simp only[↓zq,zs,af,aH,hb.has];exact hd
 ·refine aQ sh (eV.ne ⟨[],rfl,by simp⟩) ?_
  intro r o hr
  obtain⟨q',s,rfl,rfl,hd⟩:=kn _ _ r o (by simp[od]) (by simp[oc]) hr
  simp only[↓zq,zs,af,aH,hb.has];exact hd
 ·refine aQ kw (eV.ne ⟨[],rfl,by simp⟩) ?_
  intro r o hr
  obtain⟨q',s,rfl,rfl,hd⟩:=kn _ _ r o (by omega) (by omega) hr
  simp only[↓zq,zs,af,aH,hb.has];exact hd
def Qm:AV->Prop:=fun r=>∃s t:Nm,r=.cv [.v (.string (mk s)),.v (.string (mk t))]
theorem Sx(b:AV)(l:List UInt8)(hb:tL b l)(p:Nat)(hp:p<10000000000000):aq Tryz.prog 69 [.ref 0 0] [.cells [b,.v (.int .i64 (p:Int))]] (eV b p 50000000000 Qm):=by
 refine Rm _ _ hb.has ?_
 unfold Pb
 refine aQ (Ug b l hb p (by omega)) (eV.ne ⟨[],rfl,by simp⟩) ?_
 rintro r o ⟨q,h1,h2,⟨s,rfl,_⟩,rfl⟩
 simp only[↓zq,zs,af,aH,hb.has]
 refine aQ (IN b l hb q (by omega) s) (eV.ne ⟨[],rfl,by simp⟩) ?_
 rintro r o ⟨q1,g1,g2,⟨t,rfl,_⟩,rfl⟩
 simp only[↓zq,zs,af,aH,hb.has]
 exact⟨q1,by omega,by omega,⟨s,t,rfl⟩,rfl⟩
theorem US(b:AV)(l:List UInt8)(hb:tL b l)(p:Nat)(hp:p<1000000000000):aq Tryz.prog 33 [.ref 0 0] [.cells [b,.v (.int .i64 (p:Int))]] (eV b p 60000000000 Qm):=by
 refine Rx _ _ hb.has ?_
 unfold K1
 have hfar:rF=1000000000000000:=rfl
 refine aQ (BW b l hb p (by omega)) (eV.ne ⟨[],rfl,by simp⟩) ?_
 rintro r o ⟨q,h1,h2,⟨s,rfl,_⟩,rfl⟩
 simp only[↓zq,zs,af,aH,hb.has]
 refine aQ (xZ b l hb q 12 (by omega) (by decide)) (eV.ne ⟨0,rfl,fun h=>by omega,by omega⟩) ?_
 rintro r o ⟨q1,g1,g2,⟨k,rfl,_,_⟩,rfl⟩
 simp only[↓zq,zs,af,aH,hb.has]
 refine⟨fun _=>?_,fun _=>?_⟩
 ·refine aQ (Sx b l hb q1 (by omega)) (eV.ne ⟨[],[],rfl⟩) ?_
  rintro r o ⟨q2,e1,e2,⟨x,y,rfl⟩,rfl⟩
  simp only[↓zq,zs,af,zt,aH,hb.has]
  exact⟨q2,by omega,by omega,⟨x,y,rfl⟩,rfl⟩
 ·refine aQ (IN b l hb q1 (by omega) s) (eV.ne ⟨[],rfl,by simp⟩) ?_
  rintro r o ⟨q2,e1,e2,⟨t,rfl,_⟩,rfl⟩
  simp only[↓zq,zs,af,aH,hb.has]
  exact⟨q2,by omega,by omega,⟨s,t,rfl⟩,rfl⟩
end Go.Proofs.Trees
namespace Go.Proofs.Trees
open Go Go.VL Go.RowKit
abbrev pZ(p:List Nat):List Int:=p.map Int.ofNat
abbrev Ey(p:List Nat):AV:=.sl (dX p)
theorem ub(p:List Nat):iC (Ey p) (pZ p):=⟨(cc _).mpr trivial,by rw[fy,xE]⟩
theorem Ez(f:List Nat->AV){l:List Pt}{i:Nat}(hi:i<l.length):(gj f l).getD i []=[f (l[i]).2]:=by simp[gj,aa,hi]
theorem OG(l:List Pt)(hl:l.length<=1000):∀(k i:Nat) (out:List Pt),i+k=l.length->out.length+k<=1000 ->
 J3 [.sl (nk l),.v (.bool true),.v (.int .i64 (i:Int))] [.vec 1 (gj Ey out)] (gK 1 [.v (.bool true)] [.vec 1 (gj Ey (out++l.drop i))])
 |
  0,i,out,hi,ho=>by
  refine JW _ _ _ _ ?_
  have:i=l.length:=by omega
  subst this
  simp only[EC,↓zq,zs,af,l5]
  exact⟨fun h=>by omega,fun _=>by simp[gK]⟩
 |
  k+1,i,out,hi,ho=>by
  have hlt:i<l.length:=by omega
  refine JW _ _ _ _ ?_
  simp only[EC,↓zq,zs,af,zt,l5,DA hlt,j6]
  refine⟨fun _=>⟨fun _=>?_,fun h=>(by cases h)⟩,fun h=>by omega⟩
  repeat refine⟨by omega,?_⟩
  refine⟨⟨u5 _,by omega⟩,?_⟩
  have:=OG l hl k (i+1) (out++[l[i]]) (by omega) (by simp;omega)
  rw[bB i (by omega),aL hlt]
  rw[aY,<-uZ Ey out]at this
  exact this
theorem Tk(s v:Nm):aq Tryz.prog 49 [.v (.string (mk s)),.v (.string (mk v))] [] (bN (.cv [.sl (gj Ey ((gG s v).getD [])),.v (.bool (gG s v).isSome)])):=by
 refine SQ _ _ ?_
 unfold MI
 refine aQ (Uq s v) (MO.ne _ s v) ?_
 rintro r o ⟨rfl,x,hx,rfl,hl⟩
 cases h:gG s v with
 |
  none =>
  simp only[↓zq,zs,af,hx,bf]
  refine cA (ys:=[.v (.bool false)]) (o:=[.vec 1 []]) ?_ ?_
  ·refine JW _ _ _ _ ?_
   simp only[EC,↓zq,zs,af,hx]
   exact⟨fun _=>⟨fun h=>(by cases h),fun _=>⟨rfl,rfl,rfl⟩⟩,fun _=>⟨rfl,rfl,rfl⟩⟩
  ·simp[↓zq,zs,af,bN,h,gj,Ob.es]
 |
  some l =>
  rw[hl l h]
  have:=(ss h).1
  simp only[↓zq,zs,af,a6,l5]
  have:=OG l (by omega) l.length 0 [] (by omega) (by simp;omega)
  rw[aZ,aR]at this
  refine cA this ?_
  simp[↓zq,zs,af,bN,h,Ob.es]
end Go.Proofs.Trees
namespace Go.Proofs.Trees
open Go Go.VL Go.RowKit
noncomputable def rG (s f:Nm) (pl:List Int) (x y:Nm):Option Nm:=(GB s f pl).bind fun r=>if r.2.cf=x then(xO s (r.1.map (·.cf)) r.2.cf y).bind fun q=>qm s (q.1.map (·.cf)) q.2.cf else none
theorem Mt(s f:Nm)(a:AV)(pl:List Int)(ha:iC a pl)(hl:pl.length<=2000000)(x y:Nm):aq Tryz.prog 10 [.v (.string (mk s)),.v (.string (mk f)),.agg [a,.v (.string (mk x)),.v (.string (mk y))]] [] (bN (rI (rG s f pl x y))):=by
 refine Rk _ _ _ _ _ ha.1 ?_
 unfold P8
 refine aX (Un s f a pl ha hl) ?_
 unfold rG
 cases q:GB s f pl with
 |
  none =>
  simp only[↓zq,zs,af,zt,aH,Ob.es,aM,bf,bC]
  exact⟨dk _,fun _=>⟨rfl,rfl⟩,fun h=>by simp at h⟩
 |
  some r =>
  simp only[↓zq,zs,af,zt,aH,Ob.es,aM,a6,aS]
  refine⟨dk _,fun h=>by simp at h,fun _=>⟨fun hne=>?_,fun he=>?_⟩⟩
  ·rw[if_neg (by simpa using hne)];exact⟨rfl,rfl⟩
  ·rw[if_pos (by simpa using he)]
   refine aX (S5 s _ (r.1.map (·.cf)) (cQ.of _) r.2.cf y) ?_
   cases q2:xO s (r.1.map (·.cf)) r.2.cf y with
   |
    none =>
    simp only[↓zq,zs,af,zt,aH,Ob.es,aM,bf,bC]
    exact⟨dk _,fun _=>⟨rfl,rfl⟩,fun h=>by simp at h⟩
   |
    some r2 =>
    simp only[↓zq,zs,af,zt,aH,Ob.es,aM,a6,aS]
    refine⟨dk _,fun h=>by simp at h,fun _=>?_⟩
    have h3:=SB s _ (r2.1.map (·.cf)) (cQ.of _) r2.2.cf
    rw[mn]at h3
    refine aj h3 ?_
    simp only[↓zq,zs,af,zt]
    rw[mn];exact⟨rfl,rfl⟩
end Go.Proofs.Trees
namespace Go.Proofs.Trees
open Go Go.VL Go.RowKit
def rep(a:Ty):Vl->List Nat->Vl->Vl
 |v,[],gg=>gg
 |
  v,k::ks,gg=>match (kids a v)[k]? with
  |some h=>.f (cL a h.1 (rep a h.2 ks gg))
  |none=>v
theorem vG{s d:Nm}{a:Ty}{x A B:E}{D:Ty}(z:ZT s d a x A B D):∀(m:Nat) (v w:Vl),Fo a v->Fo a w->rep a v (kE m a v w).1 (kE m a v w).2.2=w/\rep a w (kE m a v w).1 (kE m a v w).2.1=v
 |0,v,w,hv,hw=>⟨rfl,rfl⟩
 |
  m+1,v,w,hv,hw=>by
  rw[kE,xR]
  split
  ·exact⟨rfl,rfl⟩
  ·rename_i hl
   have hl:(kids a v).length=(kids a w).length:=by omega
   split
   ·rename_i k hk
    split
    ·rename_i ht
     have hb:=kA (kids a v) (kids a w) 0 k (by rw[hk];exact ak)
     have h1:(kids a v)[k]?=some ((kids a v).getD k rj):=by
      rw[aa,a7 (by omega)];rfl
     have h2:(kids a w)[k]?=some ((kids a w).getD k rj):=by
      rw[aa,a7 (by omega)];rfl
     generalize (kids a v).getD k rj=q at *
     generalize (kids a w).getD k rj=q' at *
     have m1:q∈kids a v:=List.mem_of_getElem? h1
     have m2:q'∈kids a w:=List.mem_of_getElem? h2
     obtain⟨_,t2,t3⟩:=z.Jz hv m1
     obtain⟨_,u2,u3⟩:=z.Jz hw m2
     have hw2:Vl.f (cL a q.1 q'.2)=w:=n6 (ns 100 a q.1 q'.2 (eD hv.fu m1).1 u2.fu) hw.fu ht
     obtain⟨i1,i2⟩:=vG z m q.2 q'.2 t2 u2
     have h3:=Fg h1 q'.2
     rw[hw2,h2]at h3
     have h4:q'.1=q.1:=by have:=Option.some.inj h3;rw[this]
     refine⟨?_,?_⟩
     ·simp only[rep,h1,i1];exact hw2
     ·simp only[rep,h2,i2,h4];exact t3
    ·exact⟨rfl,rfl⟩
   ·exact⟨rfl,rfl⟩
theorem yp{s d:Nm}{a:Ty}{x A B:E}{D:Ty}(z:ZT s d a x A B D):∀(m:Nat) (v w:Vl),Fo a v->Fo a w->Fo a (kE m a v w).2.1/\Fo a (kE m a v w).2.2
 |0,v,w,hv,hw=>⟨hv,hw⟩
 |
  m+1,v,w,hv,hw=>by
  rw[kE,xR]
  split
  ·exact⟨hv,hw⟩
  ·rename_i hl
   have hl:(kids a v).length=(kids a w).length:=by omega
   split
   ·rename_i k hk
    split
    ·have hb:=kA (kids a v) (kids a w) 0 k (by rw[hk];exact ak)
     have m1:(kids a v).getD k rj∈kids a v:=by
      rw[aa,a7 (by omega)];exact bh _
     have m2:(kids a w).getD k rj∈kids a w:=by
      rw[aa,a7 (by omega)];exact bh _
     exact yp z m _ _ (z.Jz hv m1).2.1 (z.Jz hw m2).2.1
    ·exact⟨hv,hw⟩
   ·exact⟨hv,hw⟩
theorem B4{a:Ty}{l:List Vl}{c X:Vl}{n:Nat}{y:Vl}(h:j3 (n+1) a (l++[c]) X=some y):j3 n a l (.f (cL a c X))=some y:=by
 rw[j3]at h
 unfold vF at h
 rw[List.getLast?_concat]at h
 simp only[List.dropLast_concat]at h
 split at h
 ·exact h
 ·cases h
theorem Di{a:Ty}:∀(path:List Nat) (l l':List Vl) (v w gg y:Vl),As a (path.map Int.ofNat) (some (l,v))=some (l',w)->rb a l' gg=some y->rb a l (rep a v path gg)=some y
 |[],l,l',v,w,gg,y,h,hc=>by cases h;exact hc
 |
  k::path,l,l',v,w,gg,y,h,hc=>by
  rw[bA,nr,aS]at h
  cases q:tH a l v (Int.ofNat k)with
  |none=>simp only[q,jI]at h;cases h
  |
   some r =>
   obtain⟨l1,v1⟩:=r
   simp only[q]at h
   obtain⟨h',_,rfl,rfl,_,_,_,hk⟩:=nL q
   have hk:(kids a v)[k]?=some h':=hk
   have:=Di path (l++[h'.1]) l' h'.2 w gg y h hc
   unfold rb at this |-
   rw[an,List.length_singleton]at this
   simp only[rep,hk]
   exact B4 this
theorem z6{s f xo y g:Nm}{path:List Nat}{v gg:Vl}(hv:gM s f=some v)(hu:Fo (zA s) gg)(hy:y=gg.cf)(h:rG s f (path.map Int.ofNat) xo y=some g):g=(rep (zA s) v path gg).cf:=by
 subst hy
 unfold rG at h
 obtain⟨r,hr,h⟩:=bc.1 h
 obtain⟨l',w'⟩:=r
 split at h
 ·obtain⟨q,hq,h⟩:=bc.1 h
  unfold xO at hq
  obtain⟨_,_,hq⟩:=bc.1 hq
  unfold GB at hr
  cases q0:tA s [] f with
  |none=>rw[q0,jI]at hr;cases hr
  |
   some r0 =>
   obtain⟨l0,v0⟩:=r0
   obtain⟨d,hd,hs,hp,hf⟩:=oK q0
   have rj:l0=[]:=List.map_eq_nil_iff.1 hp.symm
   subst rj
   obtain⟨d',a',x',A',B',D',z',_,_,_,_,_,hlv,_⟩:=nu q0
   rw[hv]at hlv;cases hlv
   rw[q0]at hr
   obtain⟨g1,_,_⟩:=Du (path.map Int.ofNat) [] l' v w' hs hr
   have g2:St s d (zA s) l' gg:=⟨g1.z,⟨g1.i.ctx,hu⟩,g1.each,g1.len⟩
   simp only at hq h
   have hq':=hq
   rw[Fw g2 hd]at hq'
   split at hq'
   ·rename_i hc
    cases hq'
    unfold qm at h
    rw[hq,aS]at h
    obtain⟨y,hy,rfl⟩:=Option.map_eq_some_iff.1 h
    have:=Di path [] l' v w' gg y hr hy
    cases this;rfl
   ·cases hq'
 ·cases h
theorem AD{s f xo y g:Nm}{pl:List Int}(h:rG s f pl xo y=some g):∃d,cP s=some d:=by
 unfold rG at h
 obtain⟨r,hr,_⟩:=bc.1 h
 unfold GB at hr
 cases q:tA s [] f with
 |none=>rw[q,jI]at hr;cases hr
 |some r0=>obtain⟨d,hd,_⟩:=oK q;exact⟨d,hd⟩
end Go.Proofs.Trees
namespace Go.Proofs.Trees
open Go Go.VL Go.RowKit
theorem pQ{a:Ty}{v:Vl}{k:Nat}(h:k<(kids a v).length):(kids a v).getD k rj=(kids a v)[k]/\(kids a v).getD k rj∈kids a v:=by
 have e:(kids a v).getD k rj=(kids a v)[k]:=by simp[aa,h]
 exact⟨e,by rw[e];exact bh _⟩
theorem qj{a:Ty}{v:Vl}:(kids a v).length+1<=v.nodes:=by
 have:=lO (kids a v);have:=lZ a v;omega
theorem tM{a:Ty}{v:Vl}{h:Hl}(hh:h∈kids a v):h.1.nodes<=4*v.nodes:=by
 cases v with
 |f w=>have:=(gn hh).2;simp only[Vl.nodes];omega
 |_=>cases hh
theorem rS{a:Ty}{v:Vl}(hb:v.fu 100)(hn:v.nodes<=200){h:Hl}(hh:h∈kids a v):h.2.cf.length<=900000:=by
 have:=eU h.2 (eD hb hh).2
 have:=gd hh
 omega
theorem xn{a:Ty}{v w:Vl}(hb:v.fu 100)(hn:v.nodes<=200)(hb':w.fu 100)(hn':w.nodes<=200){h:Hl}(hh:h∈kids a v):(Vl.f (cL a h.1 w)).cf.length<=900000:=by
 have h1:=eU (Vl.f (cL a h.1 w)) (by exact ns 100 a h.1 w (eD hb hh).1 hb')
 have h2:=oY a h.1 w
 have h3:=tM hh
 simp only[Vl.nodes]at h1
 omega
theorem J7(a:Ty)(l r:List Hl)(hl:l.length<=1000)(hlr:l.length=r.length)(h1:∀h,h∈l->h.2.cf.length<=900000)(h2:∀h,h∈r->h.2.cf.length<=900000)(o n:List UInt8):∀(k i:Nat) (out:List Nat),i+k=l.length->out.length<=i ->
 IQ [(Ty.rc a).av,.sl (gJ l),.sl (gJ r),.sl (gJ l),.v (.int .i64 (l.length:Int)),.v (.int .i64 (i:Int))] [.cells [.v (.slice none 0 0),.v (.string (mk [])),.v (.string (mk []))],.cells [.any,.v (.string (mk o)),.v (.string (mk n))],.vec 1 [],.vec 1 (dX out)]
  (gK 1 [(Ty.rc a).av,.sl (gJ l),.sl (gJ r)] [.cells [.v (.slice none 0 0),.v (.string (mk [])),.v (.string (mk []))],.cells [.any,.v (.string (mk o)),.v (.string (mk n))],.vec 1 [],.vec 1 (dX (out++iB (l.drop i) (r.drop i) i))])
 |
  0,i,out,hi,ho=>by
  refine Lt _ _ _ _ _ _ _ _ _ _ _ _ _ ?_
  have:i=l.length:=by omega
  subst this
  simp only[Hv,↓zq,zs,af,dU,aE,af,List.drop_length]
  exact⟨fun h=>by omega,fun _=>by simp[gK,iB]⟩
 |
  k+1,i,out,hi,ho=>by
  have hlt:i<l.length:=by omega
  have hlt':i<r.length:=by omega
  refine Lt _ _ _ _ _ _ _ _ _ _ _ _ _ ?_
  simp only[Hv,↓zq,zs,af,zt,dU,aE,af,bE,ju hlt,ju hlt',aO,gl,oA]
  refine⟨fun _=>?_,fun h=>by omega⟩
  repeat refine⟨by omega,?_⟩
  refine aj (AE _ (h1 _ (bh hlt))) ?_
  simp only[↓zq,zs,af,zt,aO]
  repeat refine⟨by omega,?_⟩
  refine aj (AE _ (h2 _ (bh hlt'))) ?_
  simp only[↓zq,zs,af,zt,aO,gl,oA]
  rw[so l r hlt hlt',bB i (by omega)]
  refine⟨fun hne=>?_,fun he=>?_⟩
  ·rw[if_neg (by simpa using hne)]
   have:=J7 a l r hl hlr h1 h2 o n k (i+1) (out++[i]) (by omega) (by simp;omega)
   rw[aY]at this
   refine⟨⟨u5 _,by omega⟩,?_⟩
   exact this
  ·rw[if_pos (by simpa using he)]
   exact J7 a l r hl hlr h1 h2 o n k (i+1) out (by omega) (by omega)
abbrev Gz(r:HK):AV:=.agg [.vec 0,.v (.string (mk r.2.1.cf)),.v (.string (mk r.2.2.cf))]
theorem jl(l:List Nat):∀x,x∈[Ob.vec 1 (dX l)]->dP x:=by
 intro x hx
 simp only[aU]at hx
 subst hx
 intro e he c hc
 obtain⟨k,_,rfl⟩:=bO.1 he
 simp only[aU]at hc
 exact⟨_,hc⟩
theorem PR(x A B:E)(a:Ty)(hA:Ask B [.mk A.at (.list [x,A,B]) []] a)(hx:x.at=[114,101,99]):∀(n:Nat) (v w:Vl),v.nodes<=n->v.nodes<=200->w.nodes<=200->v.fu 100->w.fu 100->eF 100 v (.list [x,A,B],[])=true->eF 100 w (.list [x,A,B],[])=true ->
 aq Tryz.prog 25 [(Ty.rc a).av,v.cI,w.cI] [] (dh (Gz (kE n a v w)) [.vec 1 (dX (kE n a v w).1)])
 |0,v,w,h,_,_,_,_,_,_=>by have:=cM v;omega
 |
  n+1,v,w,h,hn,hn',hb,hb',hv,hv'=>by
  refine TF _ _ _ ((aE _).mpr trivial) ((aO _).mpr trivial) ((aO _).mpr trivial) ?_
  have t1:=eU v hb
  have t2:=eU w hb'
  have k1:=qj (a:=a) (v:=v)
  have k2:=qj (a:=a) (v:=w)
  unfold O8
  refine aj (AE v (by omega)) ?_
  simp only[↓zq,zs,af,zt]
  refine aj (AE w (by omega)) ?_
  simp only[↓zq,zs,af,zt]
  refine⟨fun he=>?_,fun hne=>?_⟩
  ·have:v=w:=n6 hb hb' (by simpa using he)
   subst this
   rw[xt]
   exact⟨rfl,rfl⟩
  refine aj (Jd 100 v x A B a hA hx hv (by omega)) ?_
  simp only[↓zq,zs,af,zt]
  refine aj (Jd 100 w x A B a hA hx hv' (by omega)) ?_
  simp only[↓zq,zs,af,zt,dU]
  rw[kE,xR]
  refine⟨fun hl=>?_,fun hl=>?_⟩
  ·rw[if_pos (by first|omega|(simp at hl;omega))]
   exact⟨rfl,rfl⟩
  have hl:(kids a v).length=(kids a w).length:=by first|omega|(simp at hl;omega)
  rw[if_neg (by omega)]
  have hloop:=J7 a (kids a v) (kids a w) (by omega) hl (fun h hh=>rS hb hn hh) (fun h hh=>rS hb' hn' hh) v.cf w.cf (kids a v).length 0 [] (by omega) (by simp)
  rw[aZ,aZ,aR]at hloop
  refine cA hloop ?_
  simp only[↓zq,zs,af,zt,af,aH,dU,aE,gl]
  have hbd:=kA (kids a v) (kids a w) 0
  generalize hD:iB (kids a v) (kids a w) 0=D at hbd |-
  match D,hbd with
  |[],hbd=>exact⟨fun _=>⟨rfl,rfl⟩,fun h=>by simp at h⟩
  |k::k2::D,hbd=>exact⟨fun _=>⟨rfl,rfl⟩,fun h=>by simp at h;omega⟩
  |
   [k],hbd =>
   obtain⟨_,b1,b2⟩:=hbd k ak
   have b1:k<(kids a v).length:=by omega
   have b2:k<(kids a w).length:=by omega
   obtain⟨e1,m1⟩:=pQ b1
   obtain⟨e2,m2⟩:=pQ b2
   refine⟨fun h=>by simp at h,fun _=>?_⟩
   have g0:((dX [k]).getD 0 []).getD 0 .any=.v (.int .i64 (k:Int)):=rfl
   have g00:((dX [k]).getD 0 []).length=1:=rfl
   have p2:=xn hb hn (eD hb' m2).2 (by have:=gd m2;omega) m1
   simp only[g0,g00,↓zq,zs,af,zt,vi,bF,ju b1,ju b2,aO,dU,aw,aF]
   repeat refine⟨by omega,?_⟩
   refine aj (Nf a (kids a v)[k].1 (kids a w)[k].2 (by rw[<-e1];exact y0 m1)) ?_
   simp only[↓zq,zs,af,zt,aO]
   rw[e1,e2]at p2
   refine aj (AE _ p2) ?_
   simp only[↓zq,zs,af,zt,aO,e1,e2]
   refine⟨fun hne=>?_,fun he=>?_⟩
   ·rw[if_neg (by simpa using hne)]
    exact⟨rfl,rfl⟩
   ·rw[if_pos (by simpa using he)]
    repeat refine⟨by omega,?_⟩
    rw[e1]at m1;rw[e2]at m2
    have s1:=gd m1
    have s2:=gd m2
    have hlen:=lV n a (kids a v)[k].2 (kids a w)[k].2 (by omega)
    refine aX (PR x A B a hA hx n (kids a v)[k].2 (kids a w)[k].2 (by omega) (by omega) (by omega) (eD hb m1).2 (eD hb' m2).2 (nn hA .nil hx hv m1) (nn hA .nil hx hv' m2)) ?_
    simp only[↓zq,zs,af,zt,aH,gl,aM,bx]
    refine⟨jl _,⟨nA _,by omega⟩,rfl,rfl⟩
end Go.Proofs.Trees
namespace Go.Proofs.Trees
open Go Go.VL Go.RowKit
def PG:List Nat->Int
 |[]=>-1
 |k::_=>(k:Int)
abbrev zb:Ob:=.cells [.v (.slice none 0 0),.v (.string (mk [])),.v (.string (mk []))]
abbrev Cn(o n:List UInt8):Ob:=.cells [.any,.v (.string (mk o)),.v (.string (mk n))]
def mi(s:List UInt8)(te:E)(l r:List Hl)(o n:List UInt8)(D:List Nat):Nat×List AV×List Ob :=
 if D.length<=1 then(1,[.v (.string (mk s)),.sl (kh l),.sl (kh r),.v (.int .i64 (PG D))],[.cells [.v (.string (mk [])),te.sp],zb,Cn o n,.vec 1 []])
 else(2,[],[Cn o n,.vec 1 []])
theorem IC(s:List UInt8)(te:E)(l r:List Hl)(hl:l.length<=1000)(hlr:l.length=r.length)(h1:∀h,h∈l->h.2.cf.length<=900000)(h2:∀h,h∈r->h.2.cf.length<=900000)(o n:List UInt8):∀(k i:Nat) (cur:List Nat),i+k=l.length->cur.length<=1->(∀j,j∈cur->j<=1000) ->
 FE [.v (.string (mk s)),.sl (kh l),.sl (kh r),.v (.int .i64 (PG cur)),.v (.int .i64 (i:Int))] [.cells [.v (.string (mk [])),te.sp],zb,Cn o n,.vec 1 []] (ox (mi s te l r o n (cur++iB (l.drop i) (r.drop i) i)))
 |
  0,i,cur,hi,hc,hj=>by
  refine Jh _ _ _ _ _ _ _ _ _ _ _ _ _ ?_
  have:i=l.length:=by omega
  subst this
  simp only[FM,↓zq,zs,af,dZ,aV,af,List.drop_length]
  refine⟨fun h=>by omega,fun _=>?_⟩
  rw[show cur++iB [] (r.drop l.length) l.length=cur by simp[iB],mi,if_pos hc]
 |
  k+1,i,cur,hi,hc,hj=>by
  have hlt:i<l.length:=by omega
  have hlt':i<r.length:=by omega
  have ht1:=Eb (l[i]).2.cG (iR _) (h1 _ (bh hlt))
  have ht2:=Eb (r[i]).2.cG (iR _) (h2 _ (bh hlt'))
  rw[cU]at ht1 ht2
  refine Jh _ _ _ _ _ _ _ _ _ _ _ _ _ ?_
  simp only[FM,↓zq,zs,af,zt,dZ,aV,af,bE,eG hlt,eG hlt']
  refine⟨fun _=>⟨fun _=>?_,fun h=>by simp at h;omega⟩,fun h=>by omega⟩
  repeat refine⟨by omega,?_⟩
  refine aj ht1 ?_
  simp only[↓zq,zs,af,zt]
  repeat refine⟨by omega,?_⟩
  refine aj ht2 ?_
  simp only[↓zq,zs,af,zt]
  rw[so l r hlt hlt',bB i (by omega)]
  refine⟨fun hne=>?_,fun he=>?_⟩
  ·rw[if_neg (by simpa using hne)]
   match cur,hc,hj with
   |
    [],hc,hj =>
    refine⟨fun h=>by simp[PG]at h,fun _=>?_⟩
    have:=IC s te l r hl hlr h1 h2 o n k (i+1) [i] (by omega) (by simp) (by simp;omega)
    exact this
   |
    [j],hc,hj =>
    refine⟨fun _=>?_,fun h=>by simp[PG]at h⟩
    rw[mi,if_neg (by simp)]
  ·rw[if_pos (by simpa using he)]
   exact IC s te l r hl hlr h1 h2 o n k (i+1) cur (by omega) hc hj
theorem Sz(s:List UInt8)(te:E)(l r:List Hl)(hlr:l.length≠r.length)(o n:List UInt8) :
 FE [.v (.string (mk s)),.sl (kh l),.sl (kh r),.v (.int .i64 (-1)),.v (.int .i64 0)] [.cells [.v (.string (mk [])),te.sp],zb,Cn o n,.vec 1 []] (ox (mi s te l r o n [])):=by
 refine Jh _ _ _ _ _ _ _ _ _ _ _ _ _ ?_
 simp only[FM,↓zq,zs,af,zt,dZ,aV,af,bE]
 exact⟨fun _=>⟨fun h=>by omega,fun _=>rfl⟩,fun _=>rfl⟩
theorem Qk(x A B:E)(a:Ty)(hA:Ask B [.mk A.at (.list [x,A,B]) []] a)(hx:x.at=[114,101,99]):∀(n:Nat) (v w:Vl),v.nodes<=n->v.nodes<=200->w.nodes<=200->v.fu 100->w.fu 100->eF 100 v (.list [x,A,B],[])=true->eF 100 w (.list [x,A,B],[])=true ->
 aq Tryz.prog 29 [.agg [.v (.string (mk [])),(E.list [x,A,B]).sp],.agg [.v (.string (mk v.cG.at)),v.cG.sp],.agg [.v (.string (mk w.cG.at)),w.cG.sp]] [] (dh (Gz (kE n a v w)) [.vec 1 (dX (kE n a v w).1)])
 |0,v,w,h,_,_,_,_,_,_=>by have:=cM v;omega
 |
  n+1,v,w,h,hn,hn',hb,hb',hv,hv'=>by
  have t1:=eU v hb
  have t2:=eU w hb'
  have k1:=qj (a:=a) (v:=v)
  have k2:=qj (a:=a) (v:=w)
  obtain⟨v0,rfl,hv0⟩:=mI .nil hx hv
  obtain⟨w0,rfl,hw0⟩:=mI .nil hx hv'
  have hP:=P3.of x A B
  have hV:=P2.of (.atom [102]) v0.cG
  have hW:=P2.of (.atom [102]) w0.cG
  have x1:=Eb (Vl.f v0).cG (iR _) (show (Vl.f v0).cf.length<=900000 by omega)
  have x2:=Eb (Vl.f w0).cG (iR _) (show (Vl.f w0).cf.length<=900000 by omega)
  have y1:=Gd 100 (.f v0) x A B a hA hx v0 rfl hv (by omega)
  have y2:=Gd 100 (.f w0) x A B a hA hx w0 rfl hv' (by omega)
  rw[cU]at x1 x2
  refine Su _ _ _ _ _ _ ((aV _).mpr trivial) ((aV _).mpr trivial) ((aV _).mpr trivial) ?_
  unfold QW
  refine aj x1 ?_
  simp only[↓zq,zs,af,zt]
  refine aj x2 ?_
  simp only[Vl.cG,bL,toNat_one,bn,↓zq,zs,af,zt,hP.1,hP.2.1,hP.2.2.1,hP.2.2.2,hV.1,hV.2.1,hV.2.2,hW.1,hW.2.1,hW.2.2,aK]
  repeat refine⟨by omega,?_⟩
  refine aj y1 ?_
  simp only[↓zq,zs,af,zt]
  repeat refine⟨by omega,?_⟩
  refine aj y2 ?_
  simp only[↓zq,zs,af,zt]
  rw[kE,xR]
  have whole:∀D:List Nat,D=[]->mi A.at (.list [x,A,B]) (kids a (.f v0)) (kids a (.f w0)) (Vl.f v0).cf (Vl.f w0).cf D=(1,[.v (.string (mk A.at)),.sl (kh (kids a (.f v0))),.sl (kh (kids a (.f w0))),.v (.int .i64 (-1))],[.cells [.v (.string (mk [])),(E.list [x,A,B]).sp],zb,Cn (Vl.f v0).cf (Vl.f w0).cf,.vec 1 []]):=by
   rintro D rfl;rfl
  by_cases hl:(kids a (.f v0)).length=(kids a (.f w0)).length
  ·rw[if_neg (by omega)]
   have hloop:=IC A.at (.list [x,A,B]) (kids a (.f v0)) (kids a (.f w0)) (by omega) hl (fun h hh=>rS hb hn hh) (fun h hh=>rS hb' hn' hh) (Vl.f v0).cf (Vl.f w0).cf (kids a (.f v0)).length 0 [] (by omega) (by simp) (fun j hj=>by cases hj)
   rw[aZ,aZ,aR]at hloop
   have hbd:=kA (kids a (.f v0)) (kids a (.f w0)) 0
   generalize hD:iB (kids a (.f v0)) (kids a (.f w0)) 0=D at hbd hloop |-
   match D,hbd with
   |
    [],hbd =>
    refine eC hloop (fun ys o e=>?_) (fun ys o e=>?_)
    ·rw[whole [] rfl]at e
     cases e
     simp only[↓zq,zs,af,zt,af,aH,aV]
     exact⟨fun _=>⟨rfl,rfl⟩,fun h=>by omega⟩
    ·rw[whole [] rfl]at e;cases e
   |
    k::k2::D,hbd =>
    refine eC hloop (fun ys o e=>?_) (fun ys o e=>?_)
    ·rw[mi,if_neg (by simp)]at e;cases e
    ·rw[mi,if_neg (by simp)]at e
     cases e
     simp only[↓zq,zs,af,zt,af,aH,aV]
     exact⟨rfl,rfl⟩
   |
    [k],hbd =>
    obtain⟨_,b1,b2⟩:=hbd k ak
    have b1:k<(kids a (.f v0)).length:=by omega
    have b2:k<(kids a (.f w0)).length:=by omega
    obtain⟨e1,m1⟩:=pQ b1
    obtain⟨e2,m2⟩:=pQ b2
    have p2:=xn hb hn (eD hb' m2).2 (by have:=gd m2;omega) m1
    refine eC hloop (fun ys o e=>?_) (fun ys o e=>?_)
    ·rw[mi,if_pos (by simp)]at e
     cases e
     simp only[↓zq,zs,af,zt,af,aH,aV,PG,bn,hP.1,hP.2.1,hP.2.2.1,hP.2.2.2,dZ,eG b1,eG b2,bF,aK,jQ]
     refine⟨fun h=>by omega,fun _=>?_⟩
     repeat refine⟨by omega,?_⟩
     refine aj (Fy (kids a (.f v0))[k].1.nodes (kids a (.f v0))[k].1 (au _) B _ a hA (by rw[<-e1];exact y0 m1) A.at (kids a (.f w0))[k].2) ?_
     simp only[↓zq,zs,af,zt,aK]
     repeat refine⟨by omega,?_⟩
     refine aj (xB _ _) ?_
     simp only[↓zq,zs,af,zt,aK]
     repeat refine⟨by omega,?_⟩
     rw[e1,e2]at p2
     have htx:=Eb (Vl.f (cL a (kids a (.f v0))[k].1 (kids a (.f w0))[k].2)).cG (iR _) p2
     rw[cU]at htx
     simp only[Vl.cG,bL]at htx
     refine aj htx ?_
     simp only[↓zq,zs,af,zt,aV,e1,e2,dZ,eG b1,eG b2,bF,aK,jQ]
     refine⟨fun hne=>?_,fun he=>?_⟩
     ·have hne':¬(Vl.f (cL a (kids a (.f v0))[k].1 (kids a (.f w0))[k].2)).cf=(Vl.f w0).cf:=hne
      rw[if_neg hne']
      exact⟨rfl,rfl⟩
     ·have he':(Vl.f (cL a (kids a (.f v0))[k].1 (kids a (.f w0))[k].2)).cf=(Vl.f w0).cf:=he
      rw[if_pos he']
      repeat refine⟨by omega,?_⟩
      rw[e1]at m1;rw[e2]at m2
      have s1:=gd m1
      have s2:=gd m2
      have hlen:=lV n a (kids a (.f v0))[k].2 (kids a (.f w0))[k].2 (by omega)
      refine aX (Qk x A B a hA hx n (kids a (.f v0))[k].2 (kids a (.f w0))[k].2 (by omega) (by omega) (by omega) (eD hb m1).2 (eD hb' m2).2 (nn hA .nil hx hv m1) (nn hA .nil hx hv' m2)) ?_
      simp only[↓zq,zs,af,zt,aH,gl,Ob.es,aM,bx]
      refine⟨jl _,⟨nA _,by omega⟩,rfl,rfl⟩
    ·rw[mi,if_pos (by simp)]at e;cases e
  ·rw[if_pos hl]
   refine eC (Sz A.at (.list [x,A,B]) (kids a (.f v0)) (kids a (.f w0)) hl (Vl.f v0).cf (Vl.f w0).cf) (fun ys o e=>?_) (fun ys o e=>?_)
   ·rw[whole [] rfl]at e
    cases e
    simp only[↓zq,zs,af,zt,af,aH,aV]
    exact⟨fun _=>⟨rfl,rfl⟩,fun h=>by omega⟩
   ·rw[whole [] rfl]at e;cases e
end Go.Proofs.Trees
namespace Go.Proofs.Trees
open Go Go.VL Go.RowKit
def gL(s a b:List UInt8):Option HK:=match gy s,gM s a,gM s b with
 |some t,some v,some w=>some (kE v.nodes t v w)
 |_,_,_=>none
def oh:Option HK->List Nat×List UInt8×List UInt8
 |some r=>(r.1,r.2.1.cf,r.2.2.cf)
 |none=>([],[],[])
theorem D4(s a b:List UInt8):(oh (gL s a b)).1.length<=1000:=by
 unfold gL
 split
 ·rename_i t v w h1 h2 h3
  obtain⟨a',x,A,B,L⟩:=fW h2
  have:=lV v.nodes t v w (au _)
  have:=L.nodes
  show (kE v.nodes t v w).1.length<=1000
  omega
 ·simp[oh]
theorem D8{s a b:List UInt8}{v w:Vl}(h:gM s a=some v)(h':gM s b=some w):∃t x A B,LV s a v t x A B/\LV s b w t x A B:=by
 obtain⟨t,x,A,B,L⟩:=fW h
 obtain⟨t',x',A',B',L'⟩:=fW h'
 have e1:=L.l
 rw[L'.l]at e1
 have e2:=L.ce
 rw[L'.ce]at e2
 cases e1;cases e2
 exact⟨_,_,_,_,L,L'⟩
theorem Tm(s a b:List UInt8):aq Tryz.prog 7 [.v (.string (mk s)),.v (.string (mk a)),.v (.string (mk b))] [] (dh (.cv [.agg [.vec 0,.v (.string (mk (oh (gL s a b)).2.1)),.v (.string (mk (oh (gL s a b)).2.2))],.v (.bool (gL s a b).isSome)]) [.vec 1 (dX (oh (gL s a b)).1)]):=by
 refine TG _ _ _ ?_
 unfold PE
 refine aj (H4 s a) ?_
 have hlt:LK.has .ptr (CJ s)=True:=by unfold CJ;split<;>simp[aE,gU]
 simp only[↓zq,zs,af,zt,hlt,fO]
 refine aj (H4 s b) ?_
 simp only[↓zq,zs,af,zt,hlt,fO]
 cases h1:gM s a with
 |
  none =>
  have:gL s a b=none:=by unfold gL;rw[h1];cases gy s<;>rfl
  rw[this]
  simp only[iT,↓zq,zs,af]
  exact⟨fun _=>⟨rfl,rfl⟩,fun h=>by cases h⟩
 |
  some v =>
  cases h2:gM s b with
  |
   none =>
   have:gL s a b=none:=by unfold gL;rw[h1,h2];cases gy s<;>rfl
   rw[this]
   simp only[iT,↓zq,zs,af,fg]
   exact⟨fun h=>by simp at h,fun _=>⟨fun _=>⟨rfl,rfl⟩,fun h=>by simp at h⟩⟩
  |
   some w =>
   obtain⟨t,x,A,B,L,L'⟩:=D8 h1 h2
   have e:gL s a b=some (kE v.nodes t v w):=by unfold gL;rw[h1,h2,L.l]
   have ht:CJ s=(Ty.rc t).av:=by unfold CJ;rw[L.l]
   rw[e,ht]
   have hlen:=lV v.nodes t v w (au _)
   simp only[iT,↓zq,zs,af,fg]
   refine⟨fun h=>by simp at h,fun _=>⟨fun h=>by simp at h,fun _=>?_⟩⟩
   refine aX (PR x A B t L.body L.hx v.nodes v w (au _) L.nodes L'.nodes L.fu L'.fu L.eF L'.eF) ?_
   simp only[↓zq,zs,af,zt,aH]
   exact⟨jl _,rfl,rfl⟩
theorem Rn(s a b:List UInt8):aq Tryz.prog 8 [.v (.string (mk s)),.v (.string (mk a)),.v (.string (mk b))] [] (dh (.cv [.agg [.vec 0,.v (.string (mk (oh (gL s a b)).2.1)),.v (.string (mk (oh (gL s a b)).2.2))],.v (.bool (gL s a b).isSome)]) [.vec 1 (dX (oh (gL s a b)).1)]):=by
 refine Ta _ _ _ ?_
 unfold LM
 refine aQ (BO s) (iU.ne _ _ (fun h=>h)) ?_
 rintro r o ⟨c,d,hd,rfl,hh⟩
 have hhas:bE [.str,.sl] [.v (.string (mk c)),d] 0:=by simp[bE,dC,hd]
 simp only[↓zq,zs,af,zt]
 have none1:gL s a b=none->dh (.cv [.agg [.vec 0,.v (.string (mk (oh (gL s a b)).2.1)),.v (.string (mk (oh (gL s a b)).2.2))],.v (.bool (gL s a b).isSome)]) [.vec 1 (dX (oh (gL s a b)).1)] (.cv [.agg [.vec 0,.v (.string (mk [])),.v (.string (mk []))],.v (.bool false)]) [.vec 1 []]:=fun h=>by rw[h];exact⟨rfl,rfl⟩
 refine⟨hhas,fun h=>none1 ?_,fun h=>?_⟩
 ·rw[m9]at h
  have:gy s=none:=by cases hq:gy s<;>simp[hq]at h |-
  unfold gL;rw[this]
 rw[m9]at h
 have hsome:∀v,(mZ s v 100).isSome=false->gM s v=none:=fun v h2=>by
  have:mZ s v 100=none:=by cases hq:mZ s v 100<;>simp[hq]at h2 |-
  unfold gM;rw[this];cases gy s<;>rfl
 refine aj (FF s a 100) ?_
 simp only[↓zq,zs,af]
 refine⟨fun h2=>none1 ?_,fun h2=>?_⟩
 ·unfold gL;rw[hsome a h2];cases gy s<;>rfl
 refine aj (FF s b 100) ?_
 simp only[↓zq,zs,af]
 refine⟨fun h3=>none1 ?_,fun h3=>?_⟩
 ·unfold gL;rw[hsome b h3];cases gy s<;>cases gM s a<;>rfl
 obtain⟨v,hv⟩:=a8.1 h2
 obtain⟨w,hw⟩:=a8.1 h3
 obtain⟨a0,ha0⟩:=a8.1 h
 have h1:gM s a=some v:=by unfold gM;rw[ha0];exact hv
 have h2:gM s b=some w:=by unfold gM;rw[ha0];exact hw
 obtain⟨t,x,A,B,L,L'⟩:=D8 h1 h2
 have e:gL s a b=some (kE v.nodes t v w):=by unfold gL;rw[h1,h2,L.l]
 have hlen:=lV v.nodes t v w (au _)
 refine aQ (HY a) (iU.ne _ _ (fun h=>by cases hq:rp a<;>simp[hq]at h |-)) ?_
 rintro r o ⟨c',d',hd',rfl,hh'⟩
 have hhas':bE [.str,.sl] [.v (.string (mk c')),d'] 0:=by simp[bE,dC,hd']
 simp only[↓zq,zs,af,zt]
 refine⟨hhas',?_⟩
 refine aQ (HY b) (iU.ne _ _ (fun h=>by cases hq:rp b<;>simp[hq]at h |-)) ?_
 rintro r o ⟨c2,d2,hd2,rfl,hh2⟩
 have hhas2:bE [.str,.sl] [.v (.string (mk c2)),d2] 0:=by simp[bE,dC,hd2]
 simp only[↓zq,zs,af,zt]
 refine⟨hhas2,?_⟩
 obtain⟨e0,he0,hc0⟩:=hh (by rw[L.le];rfl)
 rw[L.le]at he0;cases he0
 obtain⟨e1,he1,hc1⟩:=hh' (by rw[L.v];rfl)
 rw[L.v]at he1;cases he1
 obtain⟨e2,he2,hc2⟩:=hh2 (by rw[L'.v];rfl)
 rw[L'.v]at he2;cases he2
 rw[cU]at hc0 hc1 hc2
 simp only[bL]at hc0
 rw[hc0,hc1,hc2,e]
 refine aX (Qk x A B t L.body L.hx v.nodes v w (au _) L.nodes L'.nodes L.fu L'.fu L.eF L'.eF) ?_
 simp only[↓zq,zs,af,zt,aH]
 exact⟨jl _,rfl,rfl⟩
end Go.Proofs.Trees
namespace Go.Proofs.Trees
open Go Go.VL Go.RowKit
theorem Dz{s a b:Nm}{r:HK}(h:gL s a b=some r):(∀g,rG s a (pZ r.1) r.2.1.cf r.2.2.cf=some g->g=b)/\(∀g,rG s b (pZ r.1) r.2.2.cf r.2.1.cf=some g->g=a)/\(a=b->r.1=[]/\r.2.1.cf=a):=by
 unfold gL at h
 split at h
 ·rename_i t v w h1 h2 h3
  cases h
  obtain⟨t',x,A,B,L⟩:=fW h2
  obtain⟨t2,x2,A2,B2,L2⟩:=fW h3
  have e1:=L.l;rw[h1]at e1;cases e1
  have e2:=L2.l;rw[h1]at e2;cases e2
  have ha:zA s=t:=by unfold zA;rw[h1];rfl
  have fv:Fo t v:=⟨by rw[<-mc L.ask];exact L.eF,L.fu,L.nodes⟩
  have fw:Fo t w:=⟨by rw[<-mc L2.ask];exact L2.eF,L2.fu,L2.nodes⟩
  have av:a=v.cf:=n0 L.v
  have bw:b=w.cf:=n0 L2.v
  refine⟨fun g hg=>?_,fun g hg=>?_,fun hab=>?_⟩
  ·obtain⟨d,hd⟩:=AD hg
   obtain⟨x3,A3,B3,D3,z⟩:=ZT.of h1 hd
   have f2:=(yp z v.nodes v w fv fw).2
   rw[z6 h2 (by rw[ha];exact f2) rfl hg,ha,(vG z v.nodes v w fv fw).1,bw]
  ·obtain⟨d,hd⟩:=AD hg
   obtain⟨x3,A3,B3,D3,z⟩:=ZT.of h1 hd
   have f1:=(yp z v.nodes v w fv fw).1
   rw[z6 h3 (by rw[ha];exact f1) rfl hg,ha,(vG z v.nodes v w fv fw).2,av]
  ·have hvw:v=w:=n6 fv.fu fw.fu (by rw[<-av,<-bw];exact hab)
   subst hvw
   rw[xt];exact⟨rfl,av.symm⟩
 ·cases h
theorem Uy(x y:AV)(l:List Int)(o n:Nm)(hx:iC x l)(hy:iC y l)(hl:l.length<=2000000):aq Tryz.prog 9 [.agg [x,.v (.string (mk o)),.v (.string (mk n))],.agg [y,.v (.string (mk o)),.v (.string (mk n))]] [] (bN (.v (.bool true))):=by
 refine Ux _ _ _ _ _ _ hx.1 hy.1 ?_
 unfold Lk
 refine aj (Uh x y l l hx hy hl) ?_
 simp[↓zq,zs,af,zt,bN]
def t3:AV->Prop:=fun r=>∃s c v:Nm,r=.cv [.v (.string (mk s)),.v (.string (mk c)),.v (.string (mk v))]
theorem SL(b:AV)(l:List UInt8)(hb:tL b l):aq Tryz.prog 22 [.ref 0 0] [.cells [b,.v (.int .i64 0)]] (eV b 0 1000000000000 t3):=by
 refine SX _ _ hb.has ?_
 unfold OS
 have hfar:rF=1000000000000000:=rfl
 refine aQ (US b l hb 0 (by omega)) (eV.ne ⟨[],[],rfl⟩) ?_
 rintro r o ⟨q,a1,a2,⟨s,t,rfl⟩,rfl⟩
 simp only[↓zq,zs,af,zt,aH,hb.has]
 refine aj (Tk s t) ?_
 simp only[↓zq,zs,af,zt,aH,hb.has,j6]
 have pk:∀(q n:Nat),q<=1000000000000->n<=2000->aq Tryz.prog 45 [.ref 0 0,.v (.int .i64 (n:Int))] [.cells [b,.v (.int .i64 (q:Int))]] (eV b q 1 (isNum n)):=fun q n h1 h2=>xZ b l hb q n (by omega) (by omega)
 have ne:∀(q n:Nat),∃r o,eV b q 1 (isNum n) r o:=fun q n=>eV.ne ⟨0,rfl,fun h=>by omega,by omega⟩
 have vl:∀(q:Nat),q<=900000000000->aq Tryz.prog 50 [.ref 0 0,.v (.string (mk s))] [.cells [b,.v (.int .i64 (q:Int))]] (eV b q 40000000000 (gq 40000000000)):=fun q h1=>IN b l hb q (by omega) s
 have vne:∀(q:Nat),∃r o,eV b q 40000000000 (gq 40000000000) r o:=fun q=>eV.ne ⟨[],rfl,by simp⟩
 refine⟨fun hs=>?_,fun hs=>?_⟩
 ·obtain⟨ps,hp⟩:=a8.1 hs
  obtain⟨w,l',_,hl'⟩:=wv hp
  have hpl:=(ss hp).1
  refine aQ (pk q 5 (by omega) (by omega)) (ne q 5) ?_
  rintro r o ⟨q1,b1,b2,⟨k,rfl,_,_⟩,rfl⟩
  simp only[↓zq,zs,af,zt,aH,hb.has,hp,cH,j6]
  refine⟨fun _=>?_,fun _=>?_⟩
  ·refine aQ (pk q1 ps.length (by omega) (by omega)) (ne q1 _) ?_
   rintro r o ⟨q2,c1,c2,⟨k2,rfl,hk,_⟩,rfl⟩
   have hk:=hk (by rw[hl'];simp)
   simp only[↓zq,zs,af,zt,aH,hb.has,j6,bF,Ez _ hk,eq_true (ub (ps[k2]).2).1]
   repeat refine⟨by omega,?_⟩
   refine aQ (Sg s t _ _ (ub (ps[k2]).2)) (Ej.ne _ _) ?_
   rintro r o ⟨rfl,w1,hw1,rfl⟩
   simp only[↓zq,zs,af,zt,bE]
   refine⟨hw1.1,aQ (vl q2 (by omega)) (vne q2) ?_⟩
   rintro r o ⟨q3,d1,d2,⟨g,rfl,_⟩,rfl⟩
   simp only[↓zq,zs,af,zt,aH,hb.has]
   refine aX (Tc _ w1 _ hw1 _ g) ?_
   simp only[↓zq,zs,af,zt,aH,Ob.es,aM]
   refine⟨dk _,?_⟩
   have hcl:=fun(u:Nm×List Nm×Nm)=>RW u.1 (.sl (bX u.2.1)) u.2.1 (cQ.of _) u.2.2
   simp only[mn]at hcl
   refine aj (hcl _) ?_
   simp only[↓zq,zs,af,zt]
   have leaf:fk Tryz.prog 73 (.call 50 [.ref 0 0,.v (.string (mk s))] [.cells [b,.v (.int .i64 (q3:Int))]] fun r9 o9=>.ai ((o9.headD .dead)=.cells (o9.headD .dead).cs)<|.ai (LK.sl.has ((o9.headD .dead).cs.getD 0 .any)/\(LK.int .i64).has ((o9.headD .dead).cs.getD (0+1) .any)/\(o9.headD .dead).cs.length=0+1+1)<|.ai (LK.has .str r9)<|.done 0 [.cv [.v (.string (mk s)),.v (.string (mk t)),.v (.string r9.toStr)]] [.cells [((o9.headD .dead).cs.getD 0 .any),.v (.int .i64 (((o9.headD .dead).cs.getD 1 .any).toInt))]]) (fun _ xs obs=>eV b 0 1000000000000 t3 (xs.headD .any) obs):=by
    refine aQ (vl q3 (by omega)) (vne q3) ?_
    rintro r o ⟨q4,e1,e2,⟨g2,rfl,_⟩,rfl⟩
    simp only[↓zq,zs,af,zt,aH,hb.has]
    exact⟨q4,by omega,by omega,⟨s,t,g2,rfl⟩,rfl⟩
   refine⟨fun _=>⟨fun _=>⟨fun _=>⟨q3,by omega,by omega,⟨s,t,_,rfl⟩,rfl⟩,fun _=>leaf⟩,fun _=>leaf⟩,fun _=>leaf⟩
  ·refine aQ (vl q1 (by omega)) (vne q1) ?_
   rintro r o ⟨q4,e1,e2,⟨g2,rfl,_⟩,rfl⟩
   simp only[↓zq,zs,af,zt,aH,hb.has]
   exact⟨q4,by omega,by omega,⟨s,t,g2,rfl⟩,rfl⟩
 ·refine aQ (vl q (by omega)) (vne q) ?_
  rintro r o ⟨q4,e1,e2,⟨g2,rfl,_⟩,rfl⟩
  simp only[↓zq,zs,af,zt,aH,hb.has]
  exact⟨q4,by omega,by omega,⟨s,t,g2,rfl⟩,rfl⟩
theorem SF(a:AV)(ha:yY a):aq Tryz.prog 6 [a] [] (fun r o=>o=[]/\t3 r):=by
 refine UJ _ ha.1 ?_
 unfold Qn
 refine aQ (S8 a ha) Rc.ne ?_
 rintro r o ⟨b,l,hb,rfl,rfl⟩
 simp only[↓zq,zs,af,zt,hb.has]
 refine⟨by simp[bE,hb.has,mb],aQ (SL b l hb) (eV.ne ⟨[],[],[],rfl⟩) ?_⟩
 rintro r o ⟨q,_,_,⟨s,c,v,rfl⟩,rfl⟩
 simp only[↓zq,zs,af,zt,aH,hb.has]
 first|exact⟨rfl,s,c,v,rfl⟩|exact⟨s,c,v,rfl⟩|exact⟨trivial,s,c,v,rfl⟩
theorem SP(a:AV)(ha:yY a):aq Tryz.prog 3 [a] [] (bN (.v (.bool true))):=by
 refine RQ _ ha.1 ?_
 simp only[Pj,↓zq,zs,af,zt,bN]
 refine⟨ha.1,fun _=>trivial,fun _=>?_⟩
 refine aQ (SF a ha) ⟨_,_,rfl,[],[],[],rfl⟩ ?_
 rintro r o ⟨rfl,s,x,y,rfl⟩
 simp only[↓zq,zs,af,zt]
 have hlen:=D4 s x y
 have CS:=Rn s x y
 refine aX (Tm s x y) ?_
 simp only[↓zq,zs,af,zt,aH,Ob.es,aM]
 refine⟨jl _,?_⟩
 refine aX CS ?_
 simp only[↓zq,zs,af,zt,aH,Ob.es,aM]
 have EQ:=Uy (Ey (oh (gL s x y)).1) (Ey (oh (gL s x y)).1) _ (oh (gL s x y)).2.1 (oh (gL s x y)).2.2 (ub _) (ub _) (by simp;omega)
 refine⟨jl _,?_⟩
 refine⟨fun h=>by simp at h,fun _=>aj EQ ?_⟩
 simp only[↓zq,zs,af,zt]
 refine⟨fun h=>by simp at h,fun _=>⟨fun _=>⟨fun _=>aj EQ ?_,fun h=>absurd rfl h⟩,fun h=>?_⟩⟩
 ·simp only[↓zq,zs,af]
 ·obtain⟨r,hr⟩:=a8.1 h
  obtain⟨p1,p2,p3⟩:=Dz hr
  rw[hr]at hlen |-
  simp only[oh]at hlen |-
  have P1:=Mt s x (Ey r.1) _ (ub r.1) (by simp;omega) r.2.1.cf r.2.2.cf
  have P2:=Mt s y (Ey r.1) _ (ub r.1) (by simp;omega) r.2.2.cf r.2.1.cf
  rw[mn]at P1 P2
  refine aj P1 ?_
  simp only[↓zq,zs,af,zt]
  refine aj P2 ?_
  simp only[↓zq,zs,af,zt,gl]
  have f1:∀h:(rG s x (pZ r.1) r.2.1.cf r.2.2.cf).isSome=true,(rG s x (pZ r.1) r.2.1.cf r.2.2.cf).getD []=y:=fun h=>by
   obtain⟨g,hg⟩:=a8.1 h
   rw[hg];exact p1 g hg
  have f2:∀h:(rG s y (pZ r.1) r.2.2.cf r.2.1.cf).isSome=true,(rG s y (pZ r.1) r.2.2.cf r.2.1.cf).getD []=x:=fun h=>by
   obtain⟨g,hg⟩:=a8.1 h
   rw[hg];exact p2 g hg
  have e:(x≠y->True)/\(x=y->((r.1.length:Int)=0->AV.v (Value.bool (r.2.1.cf==x))=AV.v (Value.bool true))/\((r.1.length:Int)≠0->AV.v (Value.bool false)=AV.v (Value.bool true))):=by
   refine⟨fun _=>trivial,fun hxy=>?_⟩
   obtain⟨q1,q2⟩:=p3 hxy
   rw[q1,q2]
   exact⟨fun _=>by simp,fun h=>absurd rfl h⟩
  exact⟨fun _=>⟨fun _=>e,fun h2=>⟨fun _=>e,fun hn=>absurd (f2 h2) hn⟩⟩,fun h1=>⟨fun _=>⟨fun _=>e,fun h2=>⟨fun _=>e,fun hn=>absurd (f2 h2) hn⟩⟩,fun hn=>absurd (f1 h1) hn⟩⟩
end Go.Proofs.Trees
