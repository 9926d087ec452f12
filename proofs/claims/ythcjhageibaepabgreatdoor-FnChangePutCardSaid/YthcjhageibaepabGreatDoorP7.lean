/-
  Part of a proof: Go functions read by values, trees of functions, their contracts.
-/
import Derived.Test.YthcjhageibaepabGreatDoorP6
set_option linter.unusedVariables false
set_option linter.unusedSimpArgs false
open And renaming intro→aJ
open Bool renaming eq_iff_iff→cK,or_eq_false_iff→ct
open Int renaming tmod→dR,toNat_natCast→bx
open List renaming append_assoc→a6,cons_append→bf,drop_eq_getElem_cons→aM,drop_zero→a7,eq_nil_of_length_eq_zero→bO,flatMap_cons→bU,getD_eq_getElem?_getD→aa,getElem?_eq_getElem→bp,getElem_mem→bn,headD_cons→aK,length_append→an,length_cons→aw,length_map→cr,length_nil→aE,map_append→df,map_cons→bo,mem_append→aO,mem_append_left→aD,mem_append_right→aB,mem_cons→aI,mem_cons_of_mem→al,mem_cons_self→ak,mem_flatMap→dk,mem_map→bM,mem_singleton→aT,nil_append→aS,tail_cons→bB
open Nat renaming le_add_right→dm,le_refl→au,mul_le_mul_right→bg,zero_add→a8,zero_le→dQ
open Option renaming bind_eq_some_iff→aW,bind_none→bq,bind_some→aR,getD_some→cE,isSome_iff_exists→bb,isSome_none→ba,isSome_some→aU,map_some→cq
open UInt8 renaming ofNat→bu
namespace Go.Proofs.Trees
open Go Go.VL Go.RowKit
theorem St.dn{s d:Nm}{a:Ty}{l l':List Vl}{v w:Vl}{k:Int}(h:St s d a l v)(hu:rS a l v k=some (l',w)):St s d a l' w/\rY a l' w=some (l,v)/\l'.length=l.length+1:=by
 obtain⟨q,hq,rfl,rfl,hn,h50,_,_⟩:=lQ hu
 obtain⟨x,A,B,D,z⟩:=h.z
 obtain⟨t1,t2,t3⟩:=z.KJ h.i.nH hq
 have hv:mn d q.1.cf 100=some q.1:=by rw[z.To (en h.i.nH.fy hq).1 t1,if_pos hn]
 have hlen:=h.len
 refine⟨⟨⟨x,A,B,D,z⟩,⟨fun c hc=>?_,t2⟩,fun c hc=>?_,by simp;omega⟩,(tG t3 h.i.nH.nd).1,by simp⟩
 ·rcases aO.1 hc with hc|hc
  ·exact h.i.ctx c hc
  ·simp only[aT]at hc;subst hc;exact z.ctx hv
 ·rcases aO.1 hc with hc|hc
  ·exact h.each c hc
  ·simp only[aT]at hc;subst hc;exact hv
theorem SB{s d:Nm}{a:Ty}{l:List Vl}{v:Vl}(h:St s d a l v)(k:Int):aq Tryz.prog 64 [tQ s a l v,.v (.int .i64 k)] [] (bP (oZ s a (rS a l v k))):=by
 obtain⟨x,A,B,D,z⟩:=h.z
 have hnd:=h.i.nH.nd
 have hlen:=h.len
 refine MD _ _ ((cn _).mpr trivial) ?_
 simp only[Hm,tQ,↓zq,zs,ae,ke,aP,aF]
 refine⟨fun h=>(by cases h),fun _=>?_⟩
 repeat refine⟨by first|trivial|omega,?_⟩
 unfold rS
 refine⟨fun h5=>?_,fun h5=>?_⟩
 ·rw[if_pos (by omega)];exact⟨rfl,rfl⟩
 ·rw[if_neg (by omega)]
  repeat refine⟨by first|trivial|omega,?_⟩
  refine aj (JG 100 v x A B a z.body z.hx (h.i.nH.eS z) (by omega)) ?_
  have hkl:(gT (kids a v)).length=(kids a v).length:=by simp[gT]
  simp only[↓zq,zs,ae,hkl]
  refine⟨fun h0=>?_,fun h0=>⟨fun h1=>?_,fun h1=>?_⟩⟩
  ·rw[if_neg (by omega)];exact⟨rfl,rfl⟩
  ·rw[if_neg (by omega)];exact⟨rfl,rfl⟩
  ·have hlt:k.toNat<(kids a v).length:=by omega
   rw[if_pos ⟨by omega,hlt⟩]
   have hg:(gT (kids a v)).getD k.toNat []=[((kids a v)[k.toNat]).1.cJ,((kids a v)[k.toNat]).2.cJ]:=by simp[gT,aa,hlt]
   have hg2:(kids a v).getD k.toNat (.u,.u)=(kids a v)[k.toNat]:=by simp[aa,hlt]
   have hm:=bn hlt
   rw[hg2]
   have hctx:((kids a v)[k.toNat]).1.nodes<=4*v.nodes:=by
    cases v with
    |f w=>have:=(gu hm).2;simp only[Vl.nodes];omega
    |_=>simp[kids]at hlt
   generalize (kids a v)[k.toNat]=q at *
   simp only[hg,↓zq,zs,ae,aP]
   repeat refine⟨by first|trivial|omega,?_⟩
   refine aj (GK q.1 (by omega)) ?_
   simp only[↓zq,zs,ae,aP,aF,zt]
   refine⟨fun hb=>?_,fun hb=>?_⟩
   ·rw[if_neg (by omega)];exact⟨rfl,rfl⟩
   ·rw[if_pos (by omega)]
    repeat refine⟨by first|trivial|omega,?_⟩
    refine⟨⟨fun c hc=>?_,by simp[xd];omega⟩,?_⟩
    ·simp only[xd,bM]at hc
     obtain⟨y,_,rfl⟩:=hc;rfl
    repeat refine⟨by first|trivial|omega,?_⟩
    refine⟨⟨fun c hc=>by simp at hc;rw[hc];rfl,by simp[xd];omega⟩,?_⟩
    repeat refine⟨by first|trivial|omega,?_⟩
    refine⟨?_,rfl⟩
    simp only[oZ,tQ,aS,z6]
theorem Ut(s:Nm)(a:Ty)(o:Option (List Vl×Vl))(ho:∀r,o=some r->∃d,St s d a r.1 r.2)(k:Int):aq Tryz.prog 64 [oZ s a o,.v (.int .i64 k)] [] (bP (oZ s a (o.bind fun r=>rS a r.1 r.2 k))):=by
 cases o with
 |
  none =>
  refine MD _ _ ((ig).mpr trivial) ?_
  simp only[Hm,oZ,↓zq,zs,ae,bq]
  exact⟨fun _=>⟨rfl,rfl⟩,fun h=>(by cases h)⟩
 |
  some r =>
  obtain⟨d,h⟩:=ho r rfl
  exact SB h k
noncomputable def AD (s:Nm) (p:List Nm) (f:Nm) (k:Int):Option (List Vl×Vl):=(gU s p f).bind fun r=>rS (zA s) r.1 r.2 k
theorem St.gz{s d:Nm}{a:Ty}{l:List Vl}{v:Vl}(h:St s d a l v):GZ (some (l,v)):=h.i.gz (by have:=h.len;omega)
theorem xX{l:List Hl}{i:Nat}(h:i<l.length):(mC l).getD i []=[.v (.string (mk (l[i]).1.cf)),.v (.string (mk (l[i]).2.cf))]:=by simp[mC,aa,h]
theorem oS{s:Nm}{p:List Nm}{f:Nm}{r:List Vl×Vl}(h:tP s p f=some r):∃d,cP s=some d/\St s d (zA s) r.1 r.2/\p=r.1.map (·.cf)/\f=r.2.cf:=by
 obtain⟨d,a,x,A,B,D,z,hz,hp,hf,hl,hza,_,hr⟩:=lS (l:=r.1) (v:=r.2) h
 rw[hza]
 exact⟨d,z.dl,⟨⟨x,A,B,D,z⟩,hz,oK hr hp,by rw[hp]at hl;simpa using hl⟩,hp,hf⟩
theorem G0{s d:Nm}{l:List Vl}{v:Vl}(hs:St s d (zA s) l v)(hd:cP s=some d)(hv:gU s (l.map (·.cf)) v.cf=some (l,v)){k:Int}(h0:0<=k)(hk:k.toNat<(kids (zA s) v).length) :
 gU s (l.map (·.cf)++[((kids (zA s) v)[k.toNat]).1.cf]) ((kids (zA s) v)[k.toNat]).2.cf=rS (zA s) l v k:=by
 rw[BO hs hd hv (bn hk)]
 unfold rS
 by_cases h5:l.length=50
 ·rw[if_pos h5,if_pos h5]
 ·rw[if_neg h5,if_neg h5,if_pos (show 0<=k/\k.toNat<(kids (zA s) v).length from ⟨h0,hk⟩)]
  have hg2:(kids (zA s) v).getD k.toNat (.u,.u)=(kids (zA s) v)[k.toNat]:=by simp[aa,hk]
  rw[hg2]
theorem Ss(s:Nm)(pa:AV)(p:List Nm)(hp:cN pa p)(f:Nm)(k:Int):aq Tryz.prog 89 [.agg [.v (.string (mk s)),pa,.v (.string (mk f))],.v (.int .i64 k)] [] (D4 s (AD s p f k)):=by
 refine SR _ _ _ _ hp.1 ?_
 unfold M8
 refine aj (EY s pa p hp f) ?_
 simp only[↓zq,zs,ae]
 unfold AD
 cases q:gU s p f with
 |none=>simp only[ba];exact⟨fun _=>⟨rfl,rfl⟩,fun h=>by simp at h⟩
 |
  some r =>
  obtain⟨l,v⟩:=r
  obtain⟨d,hd,hs,rfl,rfl⟩:=oS (gB q).1
  obtain⟨x,A,B,D,z⟩:=hs.z
  have hlen:l.length<=50:=hs.len
  have hnd:v.nodes<=200:=hs.i.nH.nd
  have hks:=lU (zA s) v
  have hks2:=mf (kids (zA s) v)
  simp only[aU,aR]
  refine⟨fun h=>by simp at h,fun _=>?_⟩
  refine aj (SL z v hs.i.nH) ?_
  simp only[↓zq,zs,ae,py]
  rw[wrap64 (((kids (zA s) v).length:Int)-1) (by omega) (by omega)]
  refine aj (C9 k 0 _) ?_
  rw[show Eo k 0 (((kids (zA s) v).length:Int)-1)=decide (0<=k/\k<=((kids (zA s) v).length:Int)-1) by rw[cK];simp[Eo]]
  simp only[↓zq,zs,ae,py]
  by_cases hin:0<=k/\k<=((kids (zA s) v).length:Int)-1
  ·have hlt:k.toNat<(kids (zA s) v).length:=by omega
   refine⟨fun h=>(by exfalso;first|omega|(simp at h;omega)),fun _=>?_⟩
   simp only[xX hlt,↓zq,zs,ae,zt]
   repeat refine⟨by first|trivial|omega,?_⟩
   refine aY (yJ _ pa hp _ (by simp;omega)) ?_
   simp only[↓zq,zs,ae,zt,Ob.es,aK]
   refine⟨cW _,?_⟩
   repeat refine⟨by first|trivial|omega,?_⟩
   have hdn:=KF s (l.map (·.cf)++[((kids (zA s) v)[k.toNat]).1.cf]) ((kids (zA s) v)[k.toNat]).2.cf
   rw[G0 hs hd q hin.1 hlt]at hdn
   refine aY hdn ?_
   simp only[↓zq,zs,ae,zt,aH,Ob.es,aK,bB]
   exact⟨rfl,rfl⟩
  ·refine⟨fun _=>?_,fun h=>(by exfalso;first|omega|(simp at h;omega))⟩
   have:rS (zA s) l v k=none:=by
    unfold rS
    by_cases h5:l.length=50
    ·rw[if_pos h5]
    ·rw[if_neg h5,if_neg (by omega)]
   rw[this]
   exact⟨rfl,rfl⟩
end Go.Proofs.Trees
namespace Go.Proofs.Trees
open Go Go.VL Go.RowKit
abbrev ZO:=Option (List Vl×Vl)
def B4(s:Nm)(o:ZO):Prop:=∀r,o=some r->∃d,St s d (zA s) r.1 r.2
def vZ(a:Ty)(pl:List Int)(o:ZO):ZO:=pl.foldl (fun o k=>o.bind fun r=>rS a r.1 r.2 k) o
theorem i6(a:Ty):∀pl,vZ a pl none=none
 |[]=>rfl
 |_::pl=>i6 a pl
theorem mh(a:Ty)(k:Int)(pl:List Int)(o:ZO):vZ a (k::pl) o=vZ a pl (o.bind fun r=>rS a r.1 r.2 k):=rfl
theorem B4.dn{s:Nm}{o:ZO}(h:B4 s o)(k:Int):B4 s (o.bind fun r=>rS (zA s) r.1 r.2 k):=fun r hr=>by
 obtain⟨q,h1,h2⟩:=aW.1 hr
 obtain⟨d,hs⟩:=h q h1
 exact⟨d,(hs.dn (l':=r.1) (w:=r.2) h2).1⟩
theorem B4.go{s:Nm}:∀{pl:List Int} {o:ZO},B4 s o->B4 s (vZ (zA s) pl o)
 |[],o,h=>h
 |k::pl,o,h=>B4.go (pl:=pl) (h.dn k)
theorem B4.gz{s:Nm}{o:ZO}(h:B4 s o):GZ o:=fun r hr=>by
 obtain⟨d,hs⟩:=h r hr
 exact hs.gz r rfl
theorem Ab{a:Ty}:∀{pl:List Int} {l l':List Vl} {v w:Vl},vZ a pl (some (l,v))=some (l',w)->l.length<=50->l'.length=l.length+pl.length/\l'.length<=50
 |[],l,l',v,w,h,hl=>by cases h;exact⟨rfl,hl⟩
 |
  k::pl,l,l',v,w,h,hl=>by
  rw[mh]at h
  simp only[aR]at h
  cases q:rS a l v k with
  |none=>rw[q,i6]at h;cases h
  |
   some r =>
   obtain⟨l1,v1⟩:=r
   rw[q]at h
   obtain⟨_,_,e,_,_,h5,_⟩:=lQ q
   have hl1:l1.length=l.length+1:=by rw[e];simp
   obtain⟨h1,h2⟩:=Ab h (by omega)
   exact⟨by rw[h1,hl1,aw];omega,h2⟩
theorem Aq(s:Nm)(p:List Nm)(f:Nm):B4 s (tP s p f):=fun r hr=>by
 obtain⟨d,_,hs,_⟩:=oS hr
 exact⟨d,hs⟩
noncomputable def Eu (s f:Nm) (pl:List Int):ZO:=vZ (zA s) pl (tP s [] f)
theorem Jk(s f:Nm)(pl:List Int):B4 s (Eu s f pl):=(Aq s [] f).go
theorem Po(s:Nm)(a:AV)(pl:List Int)(ha:jf a pl)(hl:pl.length<=2000000):∀(k i:Nat) (o:ZO),i+k=pl.length->B4 s o ->
 Ji [oZ s (zA s) o,a,.v (.int .i64 (pl.length:Int)),.v (.int .i64 (i:Int))] [Jj] (gS 1 [oZ s (zA s) (vZ (zA s) (pl.drop i) o)] [Jj])
 |
  0,i,o,hi,ho=>by
  refine Mi _ _ _ _ _ _ _ ?_
  have:i=pl.length:=by omega
  subst this
  simp only[Hj,↓zq,zs,ae,zt,ae,kR,bm,List.drop_length]
  exact⟨ha.1,fun h=>by omega,fun _=>⟨rfl,rfl,rfl⟩⟩
 |
  k+1,i,o,hi,ho=>by
  have hlt:i<pl.length:=by omega
  refine Mi _ _ _ _ _ _ _ ?_
  simp only[Hj,↓zq,zs,ae,zt,ae,kR,bm,ha.len,ha.idx hlt,bx]
  refine⟨ha.1,fun _=>⟨⟨ha.1,by omega,by omega⟩,by omega,?_⟩,fun h=>by omega⟩
  refine aj (Ut s (zA s) o ho _) ?_
  simp only[↓zq,zs,ae,kR]
  have hd:pl.drop i=pl.getD i 0::pl.drop (i+1):=by rw[aM hlt];simp[aa,hlt]
  rw[bD i (by omega),hd,mh]
  exact Po s a pl ha hl k (i+1) _ (by omega) (ho.dn _)
theorem Tp(s f:Nm)(a:AV)(pl:List Int)(ha:jf a pl)(hl:pl.length<=2000000):aq Tryz.prog 30 [.v (.string (mk s)),.v (.string (mk f)),a] [] (D4 s (Eu s f pl)):=by
 refine Ts _ _ _ ha.1 ?_
 unfold Rb
 refine aj (O1 s _ [] (cN.nil) f) ?_
 simp only[↓zq,zs,ae,zt,kR,ha.len]
 refine⟨ha.1,?_⟩
 have hloop:=Po s a pl ha hl pl.length 0 (tP s [] f) (by omega) (Aq s [] f)
 rw[a7]at hloop
 refine cC hloop ?_
 simp only[↓zq,zs,ae,zt,ae,kR,bm]
 refine aY (OE s (zA s) _ (Jk s f pl).gz) ?_
 simp only[↓zq,zs,ae,zt,aH]
 exact⟨cW _,rfl,rfl⟩
def KY(s:Nm)(o:ZO):Prop:=∀r,o=some r->gU s (r.1.map (·.cf)) r.2.cf=some r
theorem KY.dn{s:Nm}{o:ZO}(h:KY s o)(k:Int):KY s (o.bind fun r=>rS (zA s) r.1 r.2 k):=fun r hr=>by
 obtain⟨q,h1,h2⟩:=aW.1 hr
 have hq:=h q h1
 obtain⟨d,hd,hs,_⟩:=oS (gB (l:=q.1) (v:=q.2) hq).1
 obtain⟨e,_,h3,h4,_,_,h0,h5⟩:=lQ (l':=r.1) (w:=r.2) h2
 have hk:k.toNat<(kids (zA s) q.2).length:=by
  rcases Nat.lt_or_ge k.toNat (kids (zA s) q.2).length with h|h
  ·exact h
  ·rw[List.getElem?_eq_none h]at h5;cases h5
 have he:(kids (zA s) q.2)[k.toNat]=e:=by rw[bp hk]at h5;cases h5;rfl
 have:=G0 hs hd hq h0 hk
 rw[h2,he]at this
 obtain⟨l1,v1⟩:=r
 simp only at h3 h4 |-
 subst h3 h4
 rw[df]
 exact this
theorem CI(s f:Nm):KY s (tP s [] f):=fun r hr=>by
 obtain⟨d,_,_,h1,h2⟩:=oS hr
 rw[<-h1,<-h2,w7];exact hr
theorem DT{s:Nm}{r:List Vl×Vl}(h:gU s (r.1.map (·.cf)) r.2.cf=some r)(k:Int):AD s (r.1.map (·.cf)) r.2.cf k=rS (zA s) r.1 r.2 k:=by
 unfold AD;rw[h];rfl
def TY(s:Nm)(o:ZO):Nat->List AV->List Ob->Prop:=fun k ys ob=>match o with
 |some r=>k=1/\ys=[]/\ob=[Jj,.cells [.v (.string (mk s)),.any,.v (.string (mk r.2.cf))],.vec 1 (bW (r.1.map (·.cf)))]
 |none=>k=2/\ys=[.v (.bool false)]/\ob=[Jj]
theorem MJ(s:Nm)(a:AV)(pl:List Int)(ha:jf a pl)(hl:pl.length<=50):∀(k i:Nat) (r:List Vl×Vl),i+k=pl.length->KY s (some r) ->
 I3 [a,.v (.int .i64 (i:Int))] [Jj,.cells [.v (.string (mk s)),.any,.v (.string (mk r.2.cf))],.vec 1 (bW (r.1.map (·.cf)))] (TY s (vZ (zA s) (pl.drop i) (some r)))
 |
  0,i,r,hi,ho=>by
  refine OD _ _ _ _ _ _ _ _ ?_
  have:i=pl.length:=by omega
  subst this
  simp only[Iq,↓zq,zs,ae,zt,ae,bm,ha.len,List.drop_length]
  exact⟨ha.1,ha.1,fun h=>by omega,fun _=>⟨rfl,rfl,rfl⟩⟩
 |
  k+1,i,r,hi,ho=>by
  have hlt:i<pl.length:=by omega
  refine OD _ _ _ _ _ _ _ _ ?_
  simp only[Iq,↓zq,zs,ae,zt,ae,bm,ha.len,ha.idx hlt,bx]
  refine⟨ha.1,ha.1,fun _=>⟨⟨ha.1,by omega,by omega⟩,by omega,?_⟩,fun h=>by omega⟩
  have hdn:=Ss s (.sl (bW (r.1.map (·.cf)))) _ (cN.of _) r.2.cf (pl.getD i 0)
  rw[DT (ho r rfl)]at hdn
  refine aY hdn ?_
  have hd:pl.drop i=pl.getD i 0::pl.drop (i+1):=by rw[aM hlt];simp[aa,hlt]
  rw[hd,mh]
  simp only[aR]
  have ho':=ho.dn (pl.getD i 0)
  simp only[aR]at ho'
  cases q:rS (zA s) r.1 r.2 (pl.getD i 0)with
  |
   none =>
   rw[i6]
   simp only[↓zq,zs,ae,zt,aH,Ob.es,aK,ba]
   exact⟨cW _,fun _=>⟨rfl,rfl,rfl⟩,fun h=>by simp at h⟩
  |
   some r1 =>
   simp only[↓zq,zs,ae,zt,aH,Ob.es,aK,aU]
   refine⟨cW _,fun h=>by simp at h,fun _=>?_⟩
   rw[bD i (by omega)]
   rw[q]at ho'
   exact MJ s a pl ha hl k (i+1) r1 (by omega) ho'
theorem NH(s f:Nm)(a:AV)(pl:List Int)(ha:jf a pl):aq Tryz.prog 46 [.v (.string (mk s)),.v (.string (mk f)),a] [] (Es s (Eu s f pl)):=by
 refine RT _ _ _ ha.1 ?_
 unfold Lk
 refine aY (TB s f) ?_
 unfold Eu
 have ho:=CI s f
 cases q:tP s [] f with
 |
  none =>
  rw[i6]
  simp only[↓zq,zs,ae,zt,aH,Ob.es,aK,ba]
  exact⟨cW _,fun _=>Es.none s,fun h=>by simp at h⟩
 |
  some r =>
  rw[q]at ho
  obtain⟨d,_,hs,hn,_⟩:=oS q
  have hn0:r.1=[]:=List.map_eq_nil_iff.1 hn.symm
  simp only[↓zq,zs,ae,zt,aH,Ob.es,aK,aU,ha.len]
  refine⟨cW _,fun h=>by simp at h,fun _=>⟨ha.1,fun h5=>?_,fun h5=>?_⟩⟩
  ·have:vZ (zA s) pl (some r)=none:=by
    cases q2:vZ (zA s) pl (some r)with
    |none=>rfl
    |
     some r2 =>
     obtain⟨h1,h2⟩:=Ab (l:=r.1) (v:=r.2) (l':=r2.1) (w:=r2.2) q2 (by rw[hn0];simp)
     omega
   rw[this]
   exact Es.none s
  ·have hloop:=MJ s a pl ha (by omega) pl.length 0 r (by omega) ho
   rw[a7]at hloop
   refine mi hloop (fun ys o e=>?_) (fun ys o e=>?_)
   ·unfold TY at e
    cases q2:vZ (zA s) pl (some r)with
    |none=>rw[q2]at e;exact absurd e.1 (by decide)
    |
     some r2 =>
     rw[q2]at e
     obtain⟨_,rfl,rfl⟩:=e
     simp only[↓zq,zs,ae,zt,ae,bm,Ob.es,aK,bB,a7]
     exact⟨rfl,_,cN.of _,rfl⟩
   ·unfold TY at e
    cases q2:vZ (zA s) pl (some r)with
    |some r2=>rw[q2]at e;exact absurd e.1 (by decide)
    |
     none =>
     rw[q2]at e
     obtain⟨_,rfl,rfl⟩:=e
     simp only[↓zq,zs,ae,zt,ae,bm]
     exact Es.none s
end Go.Proofs.Trees
namespace Go.Proofs.Trees
open Go Go.VL Go.RowKit
def G3(c:Nm):List Hl->Nat->Int
 |[],_=>-1
 |h::l,i=>if h.1.cf=c then(i:Int)else G3 c l (i+1)
def tf:Nat->Ty->List Vl->Vl->List Int
 |0,_,_,_=>[]
 |
  n+1,a,l,v=>match rY a l v with
  |some r=>tf n a r.1 r.2++[G3 ((l.getLast?).getD .u).cf (kids a r.2) 0]
  |none=>[]
end Go.Proofs.Trees
namespace Go.Proofs.Trees
open Go Go.VL Go.RowKit
theorem Ez{a:Ty}:∀(n:Nat) (l:List Vl) (v:Vl),l.length=n->(iR n a l v).isSome=true->∀c l',l=l'++[c]->∃w,rY a l v=some (l',w)/\(iR l'.length a l' w).isSome=true
 |0,l,v,hl,_,c,l',h=>by rw[h]at hl;simp at hl
 |
  n+1,l,v,hl,hs,c,l',h=>by
  rw[iR]at hs
  cases q:rY a l v with
  |none=>rw[q]at hs;cases hs
  |
   some r =>
   obtain⟨l1,w⟩:=r
   rw[q]at hs
   have h2:l1=l':=by
    unfold rY at q
    rw[h,List.getLast?_concat]at q
    simp only at q
    split at q
    ·cases q;simp
    ·cases q
   subst h2
   have hn:l1.length=n:=by rw[h]at hl;simpa using hl
   exact⟨w,rfl,by rw[hn];exact hs⟩
theorem xF{d:Nm}:∀{l:List Vl},(∀c,c∈l->mn d c.cf 100=some c)->eX d (l.map (·.cf))=some l
 |[],_=>rfl
 |
  c::l,h=>by
  rw[bo,eX,h c ak,xF fun x hx=>h x (al _ hx)]
theorem Fq{s d:Nm}{l:List Vl}{v:Vl}(hs:St s d (zA s) l v)(hd:cP s=some d):gU s (l.map (·.cf)) v.cf=if(qM (zA s) l v).isSome=true then some (l,v)else none:=by
 obtain⟨x,A,B,D,z⟩:=hs.z
 have hlen:=hs.len
 have e1:mn s v.cf 100=some v:=by rw[z.cf hs.i.nH.fy hs.i.nH.ty,if_pos hs.i.nH.nd]
 unfold gU
 rw[vX,hd]
 simp only[aR,z.l,e1,xF hs.each,cr,if_pos hlen,cq]
theorem w6(l:List Vl)(c:Vl):((l++[c]).getLast?).getD .u=c:=by rw[List.getLast?_concat];rfl
theorem zx{a:Ty}{l l':List Vl}{v w c:Vl}(n:Nat)(hu:rY a l v=some (l',w))(hc:l=l'++[c]):tf (n+1) a l v=tf n a l' w++[G3 c.cf (kids a w) 0]:=by
 rw[tf,hu];simp only[hc,w6]
end Go.Proofs.Trees
namespace Go.Proofs.Trees
open Go Go.VL Go.RowKit
def wu(l:List Hl):Prop:=(l.map (·.1)).Nodup
theorem sn:wu []:=List.nodup_nil
theorem E4(h:Hl):wu [h]:=by simp[wu]
theorem oj{g:Vl->Vl}(hg:∀x y,g x=g y->x=y){l:List Hl}(h:wu l):wu (fw g l):=by
 unfold wu fw at *
 rw[List.map_map]
 have:((fun x:Hl=>x.1)∘fun h:Hl=>(g h.1,h.2))=g∘(fun x:Hl=>x.1):=rfl
 rw[this,<-List.map_map]
 exact List.Pairwise.map _ (fun a b hab e=>hab (hg _ _ e)) h
theorem vR{l r:List Hl}(hl:wu l)(hr:wu r)(h:∀x y,x∈l->y∈r->x.1≠y.1):wu (l++r):=by
 unfold wu at *
 rw[df,List.nodup_append]
 refine⟨hl,hr,?_⟩
 intro a ha b hb e
 obtain⟨x,hx,rfl⟩:=bM.1 ha
 obtain⟨y,hy,rfl⟩:=bM.1 hb
 exact h x y hx hy e
theorem xk{f:Hl->List Hl}:∀{l:List Hl},wu l->(∀h,h∈l->wu (f h))->(∀h k,h∈l->k∈l->h.1≠k.1->∀x y,x∈f h->y∈f k->x.1≠y.1)->wu (l.flatMap f)
 |[],_,_,_=>sn
 |
  h::l,hn,hf,hd=>by
  rw[bU]
  unfold wu at hn
  rw[bo,List.nodup_cons]at hn
  refine vR (hf h ak) (xk (l:=l) hn.2 (fun k hk=>hf k (al _ hk)) fun a b ha hb=>hd a b (al _ ha) (al _ hb)) ?_
  intro x y hx hy
  obtain⟨k,hk,hy⟩:=dk.1 hy
  refine hd h k ak (al _ hk) (fun e=>hn.1 ?_) x y hx hy
  rw[e];exact bM.2 ⟨k,hk,rfl⟩
theorem j5:∀(n:Nat) (t:Ty) (tg:Tg) (v:Vl),wu (dA n t tg v)
 |0,t,tg,v=>sn
 |
  n+1,t,tg,v=>by
  unfold dA
  split
  ·exact E4 _
  ·unfold jd
   split
   ·exact oj (fun x y e=>by cases e;rfl) (j5 n _ _ _)
   ·exact oj (fun x y e=>by cases e;rfl) (j5 n _ _ _)
   ·refine vR (oj (fun x y e=>by cases e;rfl) (j5 n _ _ _)) (oj (fun x y e=>by cases e;rfl) (j5 n _ _ _)) fun x y hx hy e=>?_
    obtain⟨k,_,rfl⟩:=cM hx
    obtain⟨k',_,rfl⟩:=cM hy
    cases e
   ·refine vR (oj (fun x y e=>by cases e;rfl) (j5 n _ _ _)) (xk (j5 n _ _ _) (fun h hh=>oj (fun x y e=>by cases e;rfl) (j5 n _ _ _)) fun h k hh hk hne x y hx hy e=>?_) fun x y hx hy e=>?_
    ·obtain⟨a,_,rfl⟩:=cM hx
     obtain⟨b,_,rfl⟩:=cM hy
     injection e with e
     injection e with e
     injection e with e1 e2
     exact hne e1
    ·obtain⟨k,_,rfl⟩:=cM hx
     obtain⟨h,_,hy⟩:=dk.1 hy
     obtain⟨b,_,rfl⟩:=cM hy
     cases e
   ·exact sn
end Go.Proofs.Trees
namespace Go.Proofs.Trees
open Go Go.VL Go.RowKit
abbrev hG(l:List Hl):List Vl:=l.map (·.2)
theorem ca(g:Vl->Vl)(l:List Hl):hG (fw g l)=hG l:=by simp[hG,fw,Function.comp_def]
theorem dC(l r:List Hl):hG (l++r)=hG l++hG r:=df
theorem vH{l r:List Hl}(h:hG l=hG r):l.length=r.length:=by have:=congrArg List.length h;simpa[hG]using this
theorem kp{g:Vl->Vl}{L A B:List Hl}{c e:Vl}(h:fw g L=A++(c,e)::B):∃A0 c0 B0,L=A0++(c0,e)::B0/\A=fw g A0/\c=g c0/\B=fw g B0:=by
 unfold fw at *
 obtain⟨A0,R,rfl,rfl,h2⟩:=List.map_eq_append_iff.1 h
 obtain⟨y,B0,rfl,h3,rfl⟩:=List.map_eq_cons_iff.1 h2
 obtain⟨c0,e0⟩:=y
 cases h3
 exact⟨A0,c0,B0,rfl,rfl,rfl,rfl⟩
theorem rb{L1 L2 A B:List Hl}{y:Hl}(h:L1++L2=A++y::B):(∃B1,L1=A++y::B1/\B=B1++L2)\/∃A2,A=L1++A2/\L2=A2++y::B:=by
 rcases List.append_eq_append_iff.1 h with⟨xs,h1,h2⟩|⟨ys,h1,h2⟩
 ·exact .inr ⟨xs,h1,h2⟩
 ·cases ys with
  |nil=>exact .inr ⟨[],by simpa using h1.symm,by simpa using h2.symm⟩
  |
   cons z ys =>
   rw[bf]at h2
   cases h2
   exact .inl ⟨ys,h1,rfl⟩
theorem tu{f:Hl->List Hl}:∀{L A B:List Hl} {y:Hl},L.flatMap f=A++y::B->∃L1 h L2 A1 B1,L=L1++h::L2/\f h=A1++y::B1/\A=L1.flatMap f++A1/\B=B1++L2.flatMap f
 |[],A,B,y,h=>by simp at h
 |
  h::L,A,B,y,hh=>by
  rw[bU]at hh
  rcases rb hh with⟨B1,h1,h2⟩|⟨A2,h1,h2⟩
  ·exact⟨[],h,L,A,B1,rfl,h1,rfl,h2⟩
  ·obtain⟨L1,h',L2,A1,B1,e1,e2,e3,e4⟩:=tu h2
   exact⟨h::L1,h',L2,A1,B1,by rw[e1];rfl,e2,by rw[h1,e3,bU,a6],e4⟩
theorem kK(a:Ty)(tg:Tg)(g:Vl->Vl->Vl):∀{l r:List Hl},hG l=hG r->hG (l.flatMap fun h=>fw (g h.1) (bR (.rc a) tg h.2))=hG (r.flatMap fun h=>fw (g h.1) (bR (.rc a) tg h.2))
 |[],[],_=>rfl
 |[],_::_,h=>by simp[hG]at h
 |_::_,[],h=>by simp[hG]at h
 |
  x::l,y::r,h=>by
  simp only[hG,bo,List.cons.injEq]at h
  rw[bU,bU,dC,dC,ca,ca,h.1,kK a tg g h.2]
theorem N2{a b:Tg}(h:a≠b):a.up≠b.up:=by
 intro e
 cases a<;>cases b<;>simp[Tg.up]at e<;>subst e<;>exact h rfl
theorem DN(a:Tg):a.up≠.bd 0:=by cases a<;>simp[Tg.up]
theorem Av{t:Ty}{a b:Tg}(h:dY t a=true)(hn:b≠a):dY t b=false:=by
 cases t<;>cases a<;>simp[dY]at h
 ·subst h
  cases b with
  |nm s=>simp only[dY];exact decide_eq_false fun e=>hn (by rw[e])
  |bd k=>rfl
 ·subst h
  cases b with
  |nm s=>rfl
  |bd k=>simp only[dY];exact decide_eq_false fun e=>hn (by rw[e])
theorem xp{t:Ty}{a:Tg}(h:dY t a=true)(v:Vl):stuck t v=true:=by
 cases t<;>simp[dY]at h<;>(cases v<;>rfl)
theorem Gs{t:Ty}{a:Tg}(h:dY t a=true)(c x:Vl):cx t c x=x:=by
 cases t<;>simp[dY]at h
 ·exact kq _ c x
 ·exact px _ c x
theorem j3:∀(n:Nat) (v:Vl),v.nodes<=n->∀(t:Ty) (tg:Tg) (A B:List Hl) (c e:Vl),bR t tg v=A++(c,e)::B->∀x:Vl,
 (∃A' B',bR t tg (cx t c x)=A'++(c,x)::B'/\hG A'=hG A/\hG B'=hG B)/\∀tg',tg'≠tg->hG (bR t tg' (cx t c x))=hG (bR t tg' v)
 |0,v,hn=>by have:=cB v;omega
 |
  n+1,v,hn=>by
  intro t tg A B c e hh x
  cases hat:dY t tg with
  |
   true =>
   rw[kV v hat]at hh
   have h1:A=[]:=by cases A with
    |nil=>rfl
    |cons y A=>simp at hh
   subst h1
   simp only[aS,List.cons.injEq,Prod.mk.injEq]at hh
   obtain⟨⟨rfl,rfl⟩,rfl⟩:=hh
   rw[Gs hat]
   refine⟨⟨[],[],kV x hat,rfl,rfl⟩,fun tg' hne=>?_⟩
   rw[dF (Av hat hne) (xp hat x),dF (Av hat hne) (xp hat v)]
  |
   false =>
   have hst:stuck t v=false:=by
    cases q:stuck t v with
    |false=>rfl
    |true=>rw[dF hat q]at hh;simp at hh
   unfold stuck at hst
   split at hst
   ·rename_i a b w
    simp only[Vl.nodes]at hn
    rw[jM]at hh
    obtain⟨A0,c0,B0,h0,rfl,rfl,rfl⟩:=kp hh
    obtain⟨⟨A',B',e1,e2,e3⟩,e4⟩:=j3 n w (by omega) a tg A0 B0 c0 e h0 x
    refine⟨⟨fw .l A',fw .l B',?_,by rw[ca,ca,e2],by rw[ca,ca,e3]⟩,fun tg' hne=>?_⟩
    ·rw[cx,jM,e1];simp[fw]
    ·rw[cx,jM,jM,ca,ca,e4 tg' hne]
   ·rename_i a b w
    simp only[Vl.nodes]at hn
    rw[jR]at hh
    obtain⟨A0,c0,B0,h0,rfl,rfl,rfl⟩:=kp hh
    obtain⟨⟨A',B',e1,e2,e3⟩,e4⟩:=j3 n w (by omega) b tg A0 B0 c0 e h0 x
    refine⟨⟨fw .r A',fw .r B',?_,by rw[ca,ca,e2],by rw[ca,ca,e3]⟩,fun tg' hne=>?_⟩
    ·rw[cx,jR,e1];simp[fw]
    ·rw[cx,jR,jR,ca,ca,e4 tg' hne]
   ·rename_i a b y z
    simp only[Vl.nodes]at hn
    rw[gH]at hh
    rcases rb hh with⟨B1,h1,rfl⟩|⟨A2,rfl,h2⟩
    ·obtain⟨A0,c0,B0,h0,rfl,rfl,rfl⟩:=kp h1
     obtain⟨⟨A',B',e1,e2,e3⟩,e4⟩:=j3 n y (by omega) a tg A0 B0 c0 e h0 x
     refine⟨⟨fw (fun c=>.l (.p c z)) A',fw (fun c=>.l (.p c z)) B'++fw (fun c=>.r (.p (cx a c0 x) c)) (bR b tg z),?_,by rw[ca,ca,e2],by rw[dC,dC,ca,ca,ca,ca,e3]⟩,fun tg' hne=>?_⟩
     ·rw[cx,gH,e1];simp[fw]
     ·rw[cx,gH,gH,dC,dC,ca,ca,ca,ca,e4 tg' hne]
    ·obtain⟨A0,c0,B0,h0,rfl,rfl,rfl⟩:=kp h2
     obtain⟨⟨A',B',e1,e2,e3⟩,e4⟩:=j3 n z (by omega) b tg A0 B0 c0 e h0 x
     refine⟨⟨fw (fun c=>.l (.p c (cx b c0 x))) (bR a tg y)++fw (fun c=>.r (.p y c)) A',fw (fun c=>.r (.p y c)) B',?_,by rw[dC,dC,ca,ca,ca,ca,e2],by rw[ca,ca,e3]⟩,fun tg' hne=>?_⟩
     ·rw[cx,gH,e1];simp[fw]
     ·rw[cx,gH,gH,dC,dC,ca,ca,ca,ca,e4 tg' hne]
   ·rename_i a w
    simp only[Vl.nodes]at hn
    rw[gJ]at hh
    rcases rb hh with⟨B1,h1,rfl⟩|⟨A2,rfl,h2⟩
    ·obtain⟨A0,c0,B0,h0,rfl,rfl,rfl⟩:=kp h1
     obtain⟨⟨A',B',e1,e2,e3⟩,e4⟩:=j3 n w (by omega) a tg.up A0 B0 c0 e h0 x
     have hb:=e4 (.bd 0) (Ne.symm (DN tg))
     refine⟨⟨fw (fun c=>.f (.l c)) A',fw (fun c=>.f (.l c)) B'++(bR a (.bd 0) (cx a c0 x)).flatMap fun h=>fw (fun c=>.f (.r (.p h.1 c))) (bR (.rc a) tg h.2),?_,by rw[ca,ca,e2],?_⟩,fun tg' hne=>?_⟩
     ·rw[cx,gJ,e1];simp[fw]
     ·rw[dC,dC,ca,ca,e3,kK a tg (fun p c=>.f (.r (.p p c))) hb]
     ·rw[cx,gJ,gJ,dC,dC,ca,ca,e4 _ (N2 hne),kK a tg' (fun p c=>.f (.r (.p p c))) hb]
    ·obtain⟨L1,h,L2,A1,B1,g1,g2,rfl,rfl⟩:=tu h2
     obtain⟨A0,c0,B0,h0,rfl,rfl,rfl⟩:=kp g2
     obtain⟨hc,he⟩:=h
     have hsz:=(gu (t:=a) (tg:=.bd 0) (v:=w) (h:=(hc,he)) (by rw[g1];simp)).1
     simp only at hsz h0
     obtain⟨⟨A',B',e1,e2,e3⟩,e4⟩:=j3 n he (by omega) (.rc a) tg A0 B0 c0 e h0 x
     obtain⟨⟨M1,M2,d1,d2,d3⟩,d4⟩:=j3 n w (by omega) a (.bd 0) L1 L2 hc he g1 (cx (.rc a) c0 x)
     refine⟨⟨fw (fun c=>.f (.l c)) (bR a tg.up (cx a hc (cx (.rc a) c0 x)))++(M1.flatMap (fun h=>fw (fun c=>.f (.r (.p h.1 c))) (bR (.rc a) tg h.2))++fw (fun c=>.f (.r (.p hc c))) A'),fw (fun c=>.f (.r (.p hc c))) B'++M2.flatMap (fun h=>fw (fun c=>.f (.r (.p h.1 c))) (bR (.rc a) tg h.2)),?_,?_,?_⟩,fun tg' hne=>?_⟩
     ·rw[cx,gJ,d1,List.flatMap_append,bU]
      simp only[e1]
      simp[fw]
     ·rw[dC,dC,dC,dC,ca,ca,ca,ca,d4 _ (DN tg),e2,kK a tg (fun p c=>.f (.r (.p p c))) d2]
     ·rw[dC,dC,ca,ca,e3,kK a tg (fun p c=>.f (.r (.p p c))) d3]
     ·have hk:=e4 tg' hne
      rw[cx,gJ,gJ,dC,dC,ca,ca,d4 _ (DN tg'),d1,g1,List.flatMap_append,List.flatMap_append,bU,bU,dC,dC,dC,dC,ca,ca,hk,kK a tg' (fun p c=>.f (.r (.p p c))) d2,kK a tg' (fun p c=>.f (.r (.p p c))) d3]
   ·cases hst
end Go.Proofs.Trees
namespace Go.Proofs.Trees
open Go Go.VL Go.RowKit
theorem zF(a:Ty)(v:Vl):wu (kids a v):=by
 cases v<;>first|exact j5 _ _ _ _|exact sn
theorem xV:∀(l:List Hl) (i k:Nat) (q:Hl),wu l->(∀h,h∈l->h.1.fy 100)->l[k]?=some q->G3 q.1.cf l i=((i+k:Nat):Int)
 |[],i,k,q,_,_,h=>by simp at h
 |
  h::l,i,0,q,hn,hb,hk=>by
  simp only[List.getElem?_cons_zero,Option.some.injEq]at hk
  subst hk
  simp[G3]
 |
  h::l,i,k+1,q,hn,hb,hk=>by
  rw[List.getElem?_cons_succ]at hk
  have hm:q∈l:=List.mem_of_getElem? hk
  unfold wu at hn
  rw[bo,List.nodup_cons]at hn
  have hne:¬h.1.cf=q.1.cf:=fun e=>hn.1 (by
   have:=n0 (hb h ak) (hb q (al _ hm)) e
   rw[this];exact bM.2 ⟨q,hm,rfl⟩)
  rw[G3,if_neg hne,xV l (i+1) k q hn.2 (fun x hx=>hb x (al _ hx)) hk]
  omega
theorem HW{s d:Nm}{a:Ty}{l l':List Vl}{v w:Vl}{k:Int}(h:St s d a l v)(hu:rS a l v k=some (l',w)):tf l'.length a l' w=tf l.length a l v++[k]/\qM a l' w=qM a l v:=by
 obtain⟨h1,h2,h3⟩:=h.dn hu
 obtain⟨q,hq,rfl,rfl,hn,h50,h0,hk⟩:=lQ hu
 obtain⟨x,A,B,D,z⟩:=h.z
 obtain⟨t1,t2,t3⟩:=z.KJ h.i.nH hq
 refine⟨?_,(tG t3 h.i.nH.nd).2⟩
 rw[h3,zx l.length h2 rfl,xV (kids a v) 0 k.toNat q (zF a v) (fun x hx=>(en h.i.nH.fy hx).1) hk]
 congr 2
 omega
theorem CY{s d:Nm}{a:Ty}:∀(pl:List Int) (l l':List Vl) (v w:Vl),St s d a l v->vZ a pl (some (l,v))=some (l',w)->St s d a l' w/\tf l'.length a l' w=tf l.length a l v++pl/\qM a l' w=qM a l v
 |[],l,l',v,w,h,hg=>by cases hg;exact⟨h,by simp,rfl⟩
 |
  k::pl,l,l',v,w,h,hg=>by
  rw[mh,aR]at hg
  cases q:rS a l v k with
  |none=>simp only[q,i6]at hg;cases hg
  |
   some r =>
   obtain⟨l1,v1⟩:=r
   simp only[q]at hg
   obtain⟨e1,e2⟩:=HW h q
   obtain⟨g1,g2,g3⟩:=CY pl l1 l' v1 w (h.dn q).1 hg
   exact⟨g1,by rw[g2,e1,a6];rfl,by rw[g3,e2]⟩
end Go.Proofs.Trees
namespace Go.Proofs.Trees
open Go Go.VL Go.RowKit
theorem xb{s v:Nm}{l:List Pt}(h:gL s v=some l):∃w l',gA s v=some w/\l=(w,[])::l':=by
 unfold gL at h
 split at h
 ·rename_i a w h1 h2
  have hp:∃l',parts a w=(w,[])::l':=by
   unfold parts
   obtain⟨n,hn⟩:∃n,w.nodes=n+1:=⟨w.nodes-1,by have:=cB w;omega⟩
   rw[hn,j7]
   exact⟨_,rfl⟩
  obtain⟨l',hl'⟩:=hp
  split at h
  ·cases h;exact⟨w,l',h2,hl'⟩
  ·cases h
 ·cases h
end Go.Proofs.Trees
namespace Go.Proofs.Trees
open Go Go.VL Go.RowKit
def nK(l:List Pt):List (List AV):=l.map fun p=>[.sl (dN p.2),.v (.string (mk p.1.cf)),.v (.string (mk []))]
theorem mb(l:List Pt):(nK l).length=l.length:=by simp[nK]
theorem CL{l:List Pt}{i:Nat}(hi:i<l.length):(nK l).getD i []=[.sl (dN (l[i]).2),.v (.string (mk (l[i]).1.cf)),.v (.string (mk []))]:=by simp[nK,aa,hi]
theorem CZ(out:List Pt)(p:Pt):nK out++[[.sl (dN p.2),.v (.string (mk p.1.cf)),.v (.string (mk []))]]=nK (out++[p]):=by simp[nK]
theorem TH(a b c:AV):ck 3 [[a,b,c]]:=fun x hx=>by simp at hx;rw[hx];rfl
def Gv(x A B:E)(a:Ty)(n:Nat)(q:Pt):Prop:=∀out:List Pt,out.length+q.1.nodes<=600->aq Tryz.prog 132 [.agg [.v (.string (mk [])),(E.list [x,A,B]).sp],.agg [.v (.string (mk q.1.cI.at)),q.1.cI.sp],.sl (dN q.2),.vec 0] [.vec 3 (nK out)] (di (.vec 1) [.dead,.vec 3 (nK (na n a out q))])
abbrev zB(n:Nat)(a:Ty):List Pt->Pt->List Pt:=fun o q=>if o.length<=100 then na n a o q else o
theorem tC(n:Nat)(a:Ty):∀(l:List Pt) (o:List Pt),100<o.length->l.foldl (zB n a) o=o
 |[],_,_=>rfl
 |q::l,o,h=>by rw[List.foldl_cons,zB,if_neg (by omega)];exact tC n a l o h
theorem O8(x A B:E)(a:Ty)(n:Nat)(pl:List Nat)(hpl:pl.length<=1000)(l:List Hl)(hl:l.length<=1000)(ih:∀q,q∈np pl l 0->Gv x A B a n q)(hn:∀q,q∈np pl l 0->q.1.nodes<=n):∀(k i:Nat) (out:List Pt),i+k=l.length->out.length+jE (l.drop i)<=600->(∀q,q∈np pl (l.drop i) i->q∈np pl l 0) ->
 J5 [.sl (dN pl),.sl (kG l),.v (.int .i64 (i:Int))] [.cells [.v (.string (mk [])),(E.list [x,A,B]).sp],.vec 3 (nK out)] (gS 1 [] [.vec 3 (nK ((np pl (l.drop i) i).foldl (zB n a) out))])
 |
  0,i,out,hi,ho,hm=>by
  refine PR _ _ _ _ _ _ ?_
  have:i=l.length:=by omega
  subst this
  simp only[G9,↓zq,zs,ae,eg,aX]
  exact⟨fun h=>by omega,fun _=>by simp[gS,np]⟩
 |
  k+1,i,out,hi,ho,hm=>by
  have hlt:i<l.length:=by omega
  have hd:=Bm pl l hlt
  rw[hd]at hm |-
  have hq:=hm _ ak
  have hsum:jE (l.drop i)=(l[i]).2.nodes+jE (l.drop (i+1)):=by rw[aM hlt];rfl
  have hw:=(sD n a ((l[i]).2,pl++[i]) (hn _ hq) out).2.2.2
  have hp:=o0 n a ((l[i]).2,pl++[i])
  simp only at hw hp
  refine PR _ _ _ _ _ _ ?_
  simp only[G9,↓zq,zs,ae,zt,eg,eN hlt,aL,aX,aS,fQ,oJ,mb]
  refine⟨fun _=>⟨fun hle=>?_,fun hgt=>?_⟩,fun h=>by omega⟩
  ·repeat refine⟨by omega,?_⟩
   refine⟨⟨nT _,by omega⟩,⟨wm _,by omega⟩,?_⟩
   have hcall:=ih _ hq out (by show out.length+(l[i]).2.nodes<=600;omega)
   refine aY hcall ?_
   simp only[↓zq,zs,ae]
   rw[bD i (by omega),List.foldl_cons,show zB n a out ((l[i]).2,pl++[i])=na n a out ((l[i]).2,pl++[i]) from if_pos (by omega)]
   exact O8 x A B a n pl hpl l hl ih hn k (i+1) _ (by omega) (by omega) (fun q hq=>hm q (al _ hq))
  ·rw[tC n a _ _ (by omega)]
   simp[gS]
theorem Mr(c:Nat)(x A B:E)(a:Ty)(hA:Ask B [.mk A.at (.list [x,A,B]) []] a)(hx:x.at=[114,101,99]):∀(n:Nat) (q:Pt),q.1.nodes<=n->n<=200->q.2.length+n<=200->q.1.fy 100->eS c q.1 (.list [x,A,B],[])=true->Gv x A B a n q
 |0,q,h,_,_,_,_=>by have:=cB q.1;omega
 |
  n+1,q,h,hn,hpl,hb,hv=>by
  intro out ho
  have hk:=lU a q.1
  have hkl:=mf (kids a q.1)
  have htx:=eZ q.1 hb
  obtain⟨w,hqw,hw⟩:=mL .nil hx hv
  have hP:=P3.of x A B
  have hW:=P2.of (.atom [102]) w.cI
  have hqe:q.1.cI=.list [.atom [102],w.cI]:=by rw[hqw];rfl
  have htext:=En q.1.cI (jh _) (by show q.1.cf.length<=900000;omega)
  rw[cT]at htext
  refine Um _ _ _ _ _ _ ((aX _).mpr trivial) ((aX _).mpr trivial) ((cc _).mpr trivial) ?_
  unfold MX
  refine aj htext ?_
  have ol:(out++[q]).length=out.length+1:=by simp
  rw[hqe]
  simp only[↓zq,zs,ae,zt,mb,toNat_one,bj,hP.1,hP.2.1,hP.2.2.1,hP.2.2.2,hW.1,hW.2.1,hW.2.2,aL]
  refine⟨⟨TH _ _ _,by omega⟩,?_⟩
  repeat refine⟨by omega,?_⟩
  refine aj (FK c q.1 x A B a hA hx w hqw hv (by omega)) ?_
  simp only[↓zq,zs,ae]
  have hl:=O8 x A B a n q.2 (by omega) (kids a q.1) (by omega) (fun r hr=>by
   obtain⟨k,h1,h2⟩:=nI hr
   have:=fT h1
   have hlen:r.2.length=q.2.length+1:=by
    have:∀(l:List Hl) (i:Nat),r∈np q.2 l i->r.2.length=q.2.length+1:=by
     intro l
     induction l with
     |nil=>intro i hh;cases hh
     |
      cons k l ih =>
      intro i hh
      rcases aI.1 hh with rfl|hh
      ·simp
      ·exact ih _ hh
    exact this _ _ hr
   exact Mr c x A B a hA hx n r (by rw[h2];omega) (by omega) (by omega) (by rw[h2];exact(en hb h1).2) (by rw[h2];exact nF hA .nil hx hv h1)) (fun r hr=>by
   obtain⟨k,h1,h2⟩:=nI hr
   have:=fT h1
   rw[h2];omega) (kids a q.1).length 0 (out++[q]) (by omega) (by rw[AZ,ol];omega) (fun r hr=>hr)
  rw[a7]at hl
  rw[show nK out++[[.sl (dN q.2),.v (.string (mk (fD (.list [.atom [102],w.cI])))),.v (.string (mk []))]]=nK (out++[q]) by rw[<-hqe];exact CZ out q]
  refine cC hl ?_
  rw[na];simp[↓zq,zs,ae,di]
theorem Ue(s v:List UInt8):aq Tryz.prog 93 [.v (.string (mk s)),.v (.string (mk v))] [] (QM nK s v):=by
 refine RH _ _ ?_
 unfold KM
 refine aQ (DU s) (iT.ne _ _ (fun h=>h)) ?_
 rintro r o ⟨c,d,hd,rfl,hh⟩
 have hhas:bC [.str,.sl] [.v (.string (mk c)),d] 0:=by simp[bC,dD,hd]
 simp only[↓zq,zs,ae,zt]
 refine⟨hhas,?_⟩
 refine aQ (Jr v) (iT.ne _ _ (fun h=>by cases hq:rM v<;>simp[hq]at h |-)) ?_
 rintro r o ⟨c',d',hd',rfl,hh'⟩
 have hhas':bC [.str,.sl] [.v (.string (mk c')),d'] 0:=by simp[bC,dD,hd']
 simp only[↓zq,zs,ae,zt]
 have none1:gL s v=none->QM nK s v (.cm [.sl [],.v (.bool false)]) []:=fun hn=>⟨rfl,.sl [],(cc _).mpr trivial,by rw[hn];rfl,fun l hl=>by rw[hn]at hl;cases hl⟩
 refine⟨hhas',fun h=>none1 ?_,fun h=>?_⟩
 ·rw[nN]at h
  have:gD s=none:=by cases hq:gD s<;>simp[hq]at h |-
  unfold gL;rw[this]
 ·refine aj (F7 s v 100) ?_
  simp only[↓zq,zs,ae]
  refine⟨fun h2=>none1 ?_,fun h2=>?_⟩
  ·have:mn s v 100=none:=by cases hq:mn s v 100<;>simp[hq]at h2 |-
   have:gA s v=none:=by unfold gA;rw[this];cases gD s<;>rfl
   unfold gL;rw[this];cases gD s<;>rfl
  ·obtain⟨w,hw⟩:=bb.1 h2
   rw[nN]at h
   obtain⟨a0,ha0⟩:=bb.1 h
   have hlv:gA s v=some w:=by unfold gA;rw[ha0];exact hw
   obtain⟨a,x,A,B,L⟩:=iM hlv
   obtain⟨e,he,hce⟩:=hh (by rw[L.le];rfl)
   rw[L.le]at he;cases he
   obtain⟨e2,he2,hce2⟩:=hh' (by rw[L.v];rfl)
   rw[L.v]at he2;cases he2
   rw[hce,hce2,cT,cT]
   have hnd:=L.nodes
   obtain⟨p1,p2,p3⟩:=yB a w
   have hs:=Mr 100 x A B a L.body L.hx w.nodes (w,[]) (au _) hnd (by simp;omega) L.fy L.eS [] (by simp;omega)
   refine aY hs ?_
   simp only[↓zq,zs,ae,mb]
   refine⟨rfl,.sl (nK (na w.nodes a [] (w,[]))),(cc _).mpr trivial,?_,fun l hl=>?_⟩
   ·congr 4
    have:gL s v=if(parts a w).length<=100 then some (parts a w)else none:=by unfold gL;rw[L.l,hlv]
    rw[this]
    by_cases hc:(parts a w).length<=100
    ·rw[if_pos hc,p1 hc];simp;omega
    ·rw[if_neg hc];have:=p2 (by omega);simp;omega
   ·unfold gL at hl
    rw[L.l,hlv]at hl
    simp only at hl
    split at hl
    ·rename_i hc
     cases hl
     rw[p1 hc]
    ·cases hl
end Go.Proofs.Trees
namespace Go.Proofs.Trees
open Go Go.VL Go.RowKit
def rE(l:List UInt8):List (List AV):=l.map fun(x:UInt8)=>[.v (.int .u8 (x.toNat:Int))]
structure tT(b:AV)(l:List UInt8):Prop where
 has:LK.sl.has b
 el:b.elems=rE l
 len:l.length<=2000
theorem tT.ln{b:AV}{l:List UInt8}(h:tT b l):b.elems.length=l.length:=by rw[h.el];simp[rE]
theorem tT.get{b:AV}{l:List UInt8}(h:tT b l){i:Nat}(hi:i<l.length):b.elems.getD i []=[.v (.int .u8 ((l[i]).toNat:Int))]:=by rw[h.el];simp[rE,aa,hi]
def e9(b:AV)(p c:Nat)(X:AV->Prop):AV->List Ob->Prop:=fun r o=>∃q:Nat,p<=q/\q<=p+c/\X r/\o=[.cells [b,.v (.int .i64 (q:Int))]]
theorem e9.ne{b:AV}{p c:Nat}{X:AV->Prop}{r:AV}(h:X r):∃r o,e9 b p c X r o:=⟨r,_,p,au _,dm _ _,h,rfl⟩
theorem Fx{a b:Int}(ha:0<=a)(hb:0<=b)(ha':a<9223372036854775808)(hb':b<9223372036854775808):∃W:Nat,CX .i64 a b=(W:Int):=by
 obtain⟨x,rfl⟩:∃x:Nat,a=(x:Int):=⟨a.toNat,by omega⟩
 obtain⟨y,rfl⟩:∃y:Nat,b=(y:Int):=⟨b.toNat,by omega⟩
 have e1:(BitVec.ofInt 64 (x:Int)).toNat=x:=by simp;omega
 have e2:(BitVec.ofInt 64 (y:Int)).toNat=y:=by simp;omega
 have hlt:x ^^^ y<2 ^ 63:=Nat.xor_lt_two_pow (by omega) (by omega)
 refine⟨x ^^^ y,?_⟩
 unfold CX
 have e3:(BitVec.ofInt (IntKind.bits .i64) (x:Int) ^^^ BitVec.ofInt (IntKind.bits .i64) (y:Int)).toNat=x ^^^ y:=by
  show (BitVec.ofInt 64 (x:Int) ^^^ BitVec.ofInt 64 (y:Int)).toNat=_
  rw[BitVec.toNat_xor,e1,e2]
 rw[e3,VL.wrap64]<;>omega
theorem AH(a b:Nat):Int.tdiv (a:Int) (b:Int)=((a/b:Nat):Int):=(Int.ofNat_tdiv a b).symm
theorem sd(a b:Nat):dR (a:Int) (b:Int)=((a%b:Nat):Int):=(Int.ofNat_tmod a b).symm
theorem xJ(n:Nat)(h:n<9223372036854775808):IntKind.wrap .i64 (n:Int)=(n:Int):=VL.wrap64 _ (by omega) (by omega)
def isNum(n:Nat):AV->Prop:=fun r=>∃k:Nat,r=.v (.int .i64 (k:Int))/\(1<=n->k<n)/\k<=n
abbrev rl:Nat:=1000000000000000
theorem xQ(b:AV)(l:List UInt8)(hb:tT b l)(p n:Nat)(hp:p<2*rl)(hn:n<rl):aq Tryz.prog 45 [.ref 0 0,.v (.int .i64 (n:Int))] [.cells [b,.v (.int .i64 (p:Int))]] (e9 b p 1 (isNum n)):=by
 refine Uh _ _ _ hb.has ?_
 have e1:IntKind.wrap .i64 ((p:Int)+1)=((p+1:Nat):Int):=by rw[VL.wrap64]<;>simp[rl]at hp<;>omega
 have e2:IntKind.wrap .i64 (((p+1:Nat):Int)-1)=(p:Int):=by rw[VL.wrap64]<;>simp[rl]at hp<;>omega
 have fin:∀k:Nat,(1<=n->k<n)->k<=n->e9 b p 1 (isNum n) (.v (.int .i64 (k:Int))) [.cells [b,.v (.int .i64 ((p+1:Nat):Int))]]:=fun k h h'=>⟨p+1,by omega,au _,⟨k,rfl,h,h'⟩,rfl⟩
 simp only[Ly,↓zq,zs,ae,e1,e2,hb.ln,AH,sd]
 refine⟨fun h=>fin 0 (fun h'=>by omega) (dQ _),fun h=>⟨hb.has,fun h0=>fin 0 (fun h'=>by omega) (dQ _),fun h0=>?_⟩⟩
 have hl:0<l.length:=by omega
 have hll:=hb.len
 refine⟨hb.has,fun hlt=>?_,fun hge=>?_⟩
 ·have hlt:p<l.length:=by omega
  have hx:=(l[p]).toNat_lt
  simp only[bx,hb.get hlt,hb.has,↓zq,zs,ae]
  rw[xJ _ (by omega),sd]
  have:=fin ((l[p]).toNat%n) (fun h'=>Nat.mod_lt _ (by omega)) (Nat.le_of_lt (Nat.mod_lt _ (by omega)))
  repeat (first|exact this|refine⟨by omega,?_⟩)
 ·have h1:p%l.length<l.length:=Nat.mod_lt _ hl
  have e3:IntKind.wrap .i64 ((p:Int)*7)=((p*7:Nat):Int):=by rw[VL.wrap64]<;>simp[rl]at hp<;>omega
  have e4:IntKind.wrap .i64 (((p*7:Nat):Int)+3)=((p*7+3:Nat):Int):=by rw[VL.wrap64]<;>simp[rl]at hp<;>omega
  have h2:(p*7+3)%l.length<l.length:=Nat.mod_lt _ hl
  have hx:=(l[p%l.length]).toNat_lt
  have hy:=(l[(p*7+3)%l.length]).toNat_lt
  have hq:p/l.length<=p:=Nat.div_le_self _ _
  simp only[e3,e4,sd,bx,hb.get h1,hb.get h2,hb.has,↓zq,zs,ae]
  generalize hxx:(l[p%l.length]).toNat=x at hx |-
  generalize hyy:(l[(p*7+3)%l.length]).toNat=y at hy |-
  generalize hqq:p/l.length=q at hq |-
  have f1:IntKind.wrap .i64 ((x:Int))=(x:Int):=xJ _ (by omega)
  have f2:IntKind.wrap .i64 ((y:Int))=(y:Int):=xJ _ (by omega)
  have f3:IntKind.wrap .i64 ((x:Int)*131)=((x*131:Nat):Int):=by rw[VL.wrap64]<;>omega
  have f4:IntKind.wrap .i64 ((y:Int)*1117)=((y*1117:Nat):Int):=by rw[VL.wrap64]<;>omega
  have f5:IntKind.wrap .i64 (((x*131:Nat):Int)+((y*1117:Nat):Int))=((x*131+y*1117:Nat):Int):=by rw[VL.wrap64]<;>omega
  have f6:IntKind.wrap .i64 ((p:Int)*29)=((p*29:Nat):Int):=by rw[VL.wrap64]<;>simp[rl]at hp<;>omega
  have f7:IntKind.wrap .i64 (((x*131+y*1117:Nat):Int)+((p*29:Nat):Int))=((x*131+y*1117+p*29:Nat):Int):=by rw[VL.wrap64]<;>simp[rl]at hp<;>omega
  have f8:IntKind.wrap .i64 ((q:Int))=(q:Int):=xJ _ (by simp[rl]at hp;omega)
  have f9:IntKind.wrap .i64 ((q:Int)*53)=((q*53:Nat):Int):=by rw[VL.wrap64]<;>simp[rl]at hp<;>omega
  have f10:IntKind.wrap .i64 (((x*131+y*1117+p*29:Nat):Int)+((q*53:Nat):Int))=((x*131+y*1117+p*29+q*53:Nat):Int):=by rw[VL.wrap64]<;>simp[rl]at hp<;>omega
  simp only[f1,f2,f3,f4,f5,f6,f7,f8,f9,f10]
  generalize hV:x*131+y*1117+p*29+q*53=V
  have hVl:V<1000000000000000000:=by simp[rl]at hp;omega
  have f11:IntKind.wrap .i64 (Int.tdiv (V:Int) 64)=((V/64:Nat):Int):=by
   have:Int.tdiv (V:Int) 64=((V/64:Nat):Int):=AH V 64
   rw[this,xJ _ (by omega)]
  rw[f11]
  obtain⟨W,hW⟩:=Fx (a:=(V:Int)) (b:=((V/64:Nat):Int)) (by omega) (by omega) (by omega) (by omega)
  rw[hW,sd]
  have:=fin (W%n) (fun h'=>Nat.mod_lt _ (by omega)) (Nat.le_of_lt (Nat.mod_lt _ (by omega)))
  repeat (first|exact this|refine⟨by omega,?_⟩)
def l6(L:List (List UInt8)):AV->Prop:=fun r=>∃s,s∈L/\r=.v (.string (mk s))
theorem Gq(b:AV)(l:List UInt8)(hb:tT b l)(p:Nat)(hp:p<2*rl)(L:List (List UInt8))(a:AV)(ha:cN a L)(hL:0<L.length)(hLl:L.length<1000000):aq Tryz.prog 94 [.ref 0 0,a] [.cells [b,.v (.int .i64 (p:Int))]] (e9 b p 1 (l6 L)):=by
 refine Uc _ _ _ ha.1 hb.has ?_
 unfold KO
 simp only[↓zq,zs,ae,ha.len]
 refine⟨ha.1,?_⟩
 have hpk:=xQ b l hb p L.length hp (by simp[rl];omega)
 refine aQ hpk (e9.ne ⟨0,rfl,fun h=>h,dQ _⟩) ?_
 rintro r o ⟨q,h1,h2,⟨k,rfl,h3,h4⟩,rfl⟩
 have hk:=h3 hL
 simp only[↓zq,zs,ae,zt,aH,hb.has,ha.idx hk,bx]
 refine⟨⟨ha.1,by omega⟩,?_⟩
 have:e9 b p 1 (l6 L) (.v (.string (mk (L.getD k [])))) [.cells [b,.v (.int .i64 (q:Int))]]:=⟨q,h1,h2,⟨_,by simp[aa,hk],rfl⟩,rfl⟩
 repeat (first|exact this|refine⟨by omega,?_⟩)
def gr(n:Nat):AV->Prop:=fun r=>∃s:List UInt8,r=.v (.string (mk s))/\s.length<=n
theorem l6.cf{L:List (List UInt8)}{n:Nat}(h:∀s,s∈L->s.length<=n){r:AV}(hr:l6 L r):gr n r:=by
 obtain⟨s,h1,h2⟩:=hr;exact⟨s,h2,h s h1⟩
end Go.Proofs.Trees
namespace Go.Proofs.Trees
open Go Go.VL Go.RowKit
def kA:AV->List Ob->Prop:=fun r o=>o=[]/\∃b:Bool,r=.v (.bool b)
theorem kA.ne:∃r o,kA r o:=⟨_,_,rfl,true,rfl⟩
theorem kA.mk(b:Bool):kA (.v (.bool b)) []:=⟨rfl,b,rfl⟩
theorem kA.call{n:Nat}{f:Nat}{xs:List AV}{k:AV->List Ob->Tree}{Q:Nat->List AV->List Ob->Prop}(h:aq Tryz.prog f xs [] kA)(hk:∀b:Bool,fC Tryz.prog n (k (.v (.bool b)) []) Q):fC Tryz.prog n (.call f xs [] k) Q :=
 aQ h kA.ne (by rintro r o ⟨rfl,b,rfl⟩;exact hk b)
theorem Nt{e:E}(h:Wf e):∀(l:List Nm) (a:AV),cN a l->l.length+e.sz<100000->aq Tryz.prog 133 [.agg [.v (.string (mk e.at)),e.sp],a] [] kA:=by
 induction h with
 |
  @atom s hs =>
  intro l a ha hl
  simp only[E.sz]at hl
  refine F0 _ _ _ ((aX _).mpr trivial) ha.1 ?_
  simp only[DH,ej,↓zq,zs,ae]
  refine aj (Bh s _ ((aX (.atom s)).mpr trivial) hs) ?_
  simp only[↓zq,zs,ae,zt,ha.1]
  refine⟨fun h=>(by cases h),fun _=>⟨fun h=>(by cases h),fun _=>⟨fun h=>(by cases h),fun _=>⟨fun _=>.mk true,fun _=>?_⟩⟩⟩⟩
  refine aj (yS l a ha s (by omega)) ?_
  simp only[↓zq,zs,ae]
  exact .mk _
 |
  @plus x y hx hy i1 i2 =>
  intro l a ha hl
  simp only[E.sz,E.jZ]at hl
  refine F0 _ _ _ ((aX _).mpr trivial) ha.1 ?_
  have hP:=P3.of (.atom [43]) x y
  simp only[DH,bL,toNat_one,bj,↓zq,zs,ae,zt,hP.1,hP.2.1,hP.2.2.1,hP.2.2.2,aL]
  refine aj (pA [43] x y) ?_
  simp only[↓zq,zs,ae,zt,ha.1,aL]
  refine⟨fun _=>⟨by omega,by omega,kA.call (i1 l a ha (by omega)) fun b=>?_⟩,fun h=>absurd rfl h⟩
  simp only[↓zq,zs,ae]
  refine⟨fun _=>⟨by omega,by omega,kA.call (i2 l a ha (by omega)) fun b=>?_⟩,fun _=>.mk _⟩
  simp only[↓zq,zs,ae]
  exact .mk _
 |
  @times x y hx hy i1 i2 =>
  intro l a ha hl
  simp only[E.sz,E.jZ]at hl
  refine F0 _ _ _ ((aX _).mpr trivial) ha.1 ?_
  have hP:=P3.of (.atom [42]) x y
  simp only[DH,bL,toNat_one,bj,↓zq,zs,ae,zt,hP.1,hP.2.1,hP.2.2.1,hP.2.2.2,aL]
  refine aj (pA [42] x y) ?_
  simp only[↓zq,zs,ae,zt,ha.1,aL]
  refine⟨fun h=>(by cases h),fun _=>⟨fun _=>⟨by omega,by omega,kA.call (i1 l a ha (by omega)) fun b=>?_⟩,fun h=>absurd rfl h⟩⟩
  simp only[↓zq,zs,ae]
  refine⟨fun _=>.mk _,fun _=>⟨by omega,by omega,kA.call (i2 l a ha (by omega)) fun b=>?_⟩⟩
  simp only[↓zq,zs,ae]
  exact .mk _
 |
  @rc n b hn hb i =>
  intro l a ha hl
  simp only[E.sz,E.jZ]at hl
  refine F0 _ _ _ ((aX _).mpr trivial) ha.1 ?_
  have hP:=P3.of (.atom dP) (.atom n) b
  simp only[DH,bL,toNat_one,bj,↓zq,zs,ae,zt,hP.1,hP.2.1,hP.2.2.1,hP.2.2.2,aL]
  refine aj (pA dP (.atom n) b) ?_
  simp only[↓zq,zs,ae,zt,ha.1,aL]
  refine⟨fun h=>(by cases h),fun _=>⟨fun h=>(by cases h),fun _=>⟨fun _=>⟨by omega,by omega,by omega,by omega,?_⟩,fun h=>absurd rfl h⟩⟩⟩
  refine aY (yJ l a ha n (by omega)) ?_
  simp only[↓zq,zs,ae,zt,Ob.es,aK]
  refine⟨cW _,?_⟩
  refine kA.call (i (l++[n]) _ (.of _) (by simp;omega)) fun b=>?_
  simp only[↓zq,zs,ae]
  exact .mk _
def Tl:AV->List Ob->Prop:=fun r o=>o=[]/\∃(g:E) (b:Bool),r=.cm [.agg [.v (.string (mk g.at)),g.sp],.v (.bool b)]/\Wf g/\g.dr<=400
theorem UL{n:Nm}{b:E}(hn:sa n)(hb:Wf b)(hl:(E.list [.atom dP,.atom n,b]).dr<=400):aq Tryz.prog 135 [.agg [.v (.string (mk [])),(E.list [.atom dP,.atom n,b]).sp]] [] Tl:=by
 have hw:Wf (.list [.atom dP,.atom n,b]):=.rc hn hb
 refine Uq _ _ ((aX _).mpr trivial) ?_
 have hP:=P3.of (.atom dP) (.atom n) b
 have hbl:b.dr<=400:=by simp only[E.dr,E.fA]at hl;omega
 simp only[Ll,toNat_one,bj,↓zq,zs,ae,zt,hP.1,hP.2.1,hP.2.2.1,hP.2.2.2,aL]
 refine⟨by omega,by omega,by omega,by omega,?_⟩
 have hf:=QQ hn hb hw (by omega) (by omega)
 obtain⟨g,g1,g2,g3⟩:=LX hn hb hw hbl hl
 simp only[bL]at hf g3
 refine aj hf ?_
 simp only[↓zq,zs,ae,zt,aL]
 refine⟨fun h=>⟨rfl,_,false,rfl,hw,hl⟩,fun h=>?_⟩
 repeat refine⟨by omega,?_⟩
 refine aj g3 ?_
 simp only[↓zq,zs,ae,zt,aL]
 refine⟨rfl,g,true,rfl,g1,?_⟩
 rw[g1.dr [],g2]
 simpa using h
end Go.Proofs.Trees
namespace Go.Proofs.Trees
open Go Go.VL Go.RowKit
def kM(n:Nat):AV->Prop:=fun r=>∃e:E,r=.agg [.v (.string (mk e.at)),e.sp]/\e.ok/\(fD e).length<=n
theorem kM.u(n:Nat)(h:1<=n):kM n (.agg [.v (.string (mk [117])),.v (.slice none 0 0)]):=⟨.atom [117],rfl,by simp[E.ok],by simpa[fD]using h⟩
def kX(b:AV)(d:Int)(e:E)(B C:Nat):Prop:=∀p:Nat,p+C<rl->aq Tryz.prog 95 [.ref 0 0,.agg [.v (.string (mk e.at)),e.sp],.v (.int .i64 d)] [.cells [b,.v (.int .i64 (p:Int))]] (e9 b p C (kM B))
theorem kX.mono{b:AV}{d:Int}{e:E}{B C B' C':Nat}(h:kX b d e B C)(hB:B<=B')(hC:C<=C'):kX b d e B' C':=fun p hp=>aq.mono (h p (by omega)) fun r o ⟨q,h1,h2,⟨g,h3,h4,h5⟩,h6⟩=>⟨q,h1,by omega,⟨g,h3,h4,by omega⟩,h6⟩
theorem pK(b:AV)(p C B:Nat)(h:1<=B):∃r o,e9 b p C (kM B) r o:=e9.ne (kM.u B h)
theorem Vt(w:Nm)(e:E)(h:w.length=1):(fD (.list [.atom w,e])).length=(fD e).length+4:=by
 simp[fD,eF];omega
theorem Vy(w:Nm)(e f:E)(h:w.length=1):(fD (.list [.atom w,e,f])).length=(fD e).length+(fD f).length+5:=by
 simp[fD,eF];omega
theorem Oh{b:AV}{p q q' C B:Nat}{w:Nm}{e:E}(hw:w.length=1)(h1:p<=q)(h2:q<=p+1)(h3:q<=q')(h4:q'<=q+C)(ho:e.ok)(hl:(fD e).length<=B) :
 e9 b p (C+1) (kM (B+5)) (.agg [.v (.string (mk [])),(E.list [.atom w,e]).sp]) [.cells [b,.v (.int .i64 (q':Int))]] :=
 ⟨q',by omega,by omega,⟨.list [.atom w,e],rfl,⟨by intro h;rw[h]at hw;simp at hw,ho,trivial⟩,by rw[Vt w e hw];omega⟩,rfl⟩
theorem Mp(b:AV)(l:List UInt8)(hb:tT b l)(d:Int){s:Nm}(hs:s≠[]):kX b d (.atom s) 5 1:=by
 intro p hp
 refine FG _ _ _ _ _ ((aX (.atom s)).mpr trivial) hb.has ?_
 simp only[CF,ej,↓zq,zs,ae]
 refine aj (Bh s _ ((aX (.atom s)).mpr trivial) hs) ?_
 simp only[↓zq,zs,ae,zt]
 refine⟨fun h=>(by cases h),fun _=>⟨fun h=>(by cases h),fun _=>⟨fun h=>(by cases h),fun _=>⟨fun _=>?_,fun _=>?_⟩⟩⟩⟩
 ·exact⟨p,au _,by omega,kM.u 5 (by omega),rfl⟩
 ·refine aQ (xQ b l hb p 3 (by omega) (by decide)) (e9.ne ⟨0,rfl,fun h=>by omega,by omega⟩) ?_
  rintro r o ⟨q,h1,h2,⟨k,rfl,h3,h4⟩,rfl⟩
  have hk:k<3:=h3 (by omega)
  simp only[↓zq,zs,ae,aH,hb.has]
  refine aj (A6 (k+1) k (by omega) (by omega)) ?_
  have hd:dd k=[bu (48+k)]:=fg (by omega)
  simp only[↓zq,zs,ae,zt,hd]
  refine⟨by simp,q,h1,h2,⟨.atom ([101]++[bu (48+k)]),rfl,by simp[E.ok],by simp[fD]⟩,rfl⟩
theorem Pa(b:AV)(l:List UInt8)(hb:tT b l)(d:Int)(hd:-100000<=d/\d<=100000){n:Nm}{e:E}(hn:sa n)(he:Wf e)(hl:(E.list [.atom dP,.atom n,e]).dr<=400)(B C:Nat)(ih:-12<=d->∀g,Wf g->g.dr<=400->kX b (d-1) g B C)(hB:1<=B):kX b d (.list [.atom dP,.atom n,e]) (B+5) (C+1):=by
 intro p hp
 refine FG _ _ _ _ _ ((aX _).mpr trivial) hb.has ?_
 have ed:IntKind.wrap .i64 (d-1)=d-1:=VL.wrap64 _ (by omega) (by omega)
 simp only[CF,bL,↓zq,zs,ae,ed]
 refine aj (pA dP (.atom n) e) ?_
 simp only[↓zq,zs,ae,zt]
 have hu:=UL hn he hl
 refine⟨fun h=>(by cases h),fun _=>⟨fun h=>(by cases h),fun _=>⟨fun _=>?_,fun h=>absurd rfl h⟩⟩⟩
 refine aQ hu ⟨_,_,rfl,.atom [117],true,rfl,.atom (by simp),by simp[E.dr]⟩ ?_
 rintro r o ⟨rfl,g,c,rfl,g1,g2⟩
 have u:e9 b p (C+1) (kM (B+5)) (.agg [.v (.string (mk [117])),.v (.slice none 0 0)]) [.cells [b,.v (.int .i64 (p:Int))]]:=⟨p,au _,by omega,kM.u _ (by omega),rfl⟩
 simp only[↓zq,zs,ae,zt,aL]
 refine⟨fun _=>u,fun _=>⟨fun _=>u,fun hd2=>?_⟩⟩
 refine aQ (ih (by omega) g g1 g2 p (by omega)) (pK b p C B hB) ?_
 rintro r o ⟨q,h1,h2,⟨f,rfl,h4,h5⟩,rfl⟩
 simp only[↓zq,zs,ae,zt,aH,hb.has,aL]
 repeat refine⟨by omega,?_⟩
 refine aj (xS [102] f) ?_
 simp only[↓zq,zs,ae,zt,aH,hb.has,aL]
 have fin:=Oh (b:=b) (w:=[102]) rfl (au p) (by omega) h1 h2 h4 h5
 first|exact fin|exact⟨by omega,fin⟩
theorem OQ(b:AV)(l:List UInt8)(hb:tT b l)(d:Int)(hd:-100000<=d/\d<=100000){x y:E}(hx:Wf x)(hy:Wf y)(B1 C1 B2 C2:Nat)(ix:kX b (d-1) x B1 C1)(iy:kX b (d-1) y B2 C2)(hB:1<=B1)(hB2:1<=B2):kX b d (.list [.atom [42],x,y]) (B1+B2+5) (C1+C2+1):=by
 intro p hp
 refine FG _ _ _ _ _ ((aX _).mpr trivial) hb.has ?_
 have ed:IntKind.wrap .i64 (d-1)=d-1:=VL.wrap64 _ (by omega) (by omega)
 have hP:=P3.of (.atom [42]) x y
 simp only[CF,bL,toNat_one,bj,↓zq,zs,ae,zt,hP.1,hP.2.1,hP.2.2.1,hP.2.2.2,aL,ed]
 refine aj (pA [42] x y) ?_
 simp only[↓zq,zs,ae,zt]
 refine⟨fun h=>(by cases h),fun _=>⟨fun _=>?_,fun h=>absurd rfl h⟩⟩
 refine⟨by omega,by omega,aQ (ix p (by omega)) (pK b p C1 B1 hB) ?_⟩
 rintro r o ⟨q,h1,h2,⟨f,rfl,h4,h5⟩,rfl⟩
 simp only[↓zq,zs,ae,zt,aH,hb.has,aL]
 repeat refine⟨by omega,?_⟩
 refine aQ (iy q (by omega)) (pK b q C2 B2 hB2) ?_
 rintro r o ⟨q',g1,g2,⟨g,rfl,g4,g5⟩,rfl⟩
 simp only[↓zq,zs,ae,zt,aH,hb.has,aL]
 repeat refine⟨by omega,?_⟩
 refine aj (yY [112] f g) ?_
 simp only[↓zq,zs,ae,zt,aH,hb.has,aL]
 have fin:e9 b p (C1+C2+1) (kM (B1+B2+5)) (.agg [.v (.string (mk [])),(E.list [.atom [112],f,g]).sp]) [.cells [b,.v (.int .i64 (q':Int))]]:=⟨q',by omega,by omega,⟨.list [.atom [112],f,g],rfl,⟨by simp[E.ok],h4,g4,trivial⟩,by rw[Vy [112] f g rfl];omega⟩,rfl⟩
 first|exact fin|exact⟨by omega,fin⟩
theorem M5(b:AV)(l:List UInt8)(hb:tT b l)(d:Int)(hd:-100000<=d/\d<=100000){x y:E}(hx:Wf x)(hy:Wf y)(hl:(E.list [.atom [43],x,y]).dr<=400)(B C:Nat)(ix:kX b (d-1) x B C)(iy:kX b (d-1) y B C)(hB:1<=B):kX b d (.list [.atom [43],x,y]) (B+5) (C+1):=by
 intro p hp
 refine FG _ _ _ _ _ ((aX _).mpr trivial) hb.has ?_
 have ed:IntKind.wrap .i64 (d-1)=d-1:=VL.wrap64 _ (by omega) (by omega)
 have hP:=P3.of (.atom [43]) x y
 simp only[E.dr,E.fA]at hl
 have s1:=hx.sz
 have s2:=hy.sz
 simp only[CF,bL,toNat_one,bj,↓zq,zs,ae,zt,hP.1,hP.2.1,hP.2.2.1,hP.2.2.2,aL,ed]
 refine aj (pA [43] x y) ?_
 simp only[↓zq,zs,ae,zt]
 refine⟨fun _=>?_,fun h=>absurd rfl h⟩
 refine aQ (xQ b l hb p 2 (by omega) (by decide)) (e9.ne ⟨0,rfl,fun h=>by omega,by omega⟩) ?_
 rintro r o ⟨q,h1,h2,⟨k,rfl,_,_⟩,rfl⟩
 simp only[↓zq,zs,ae,zt,aH,hb.has,aL]
 have ex:=Nt hx [] (.sl []) (.of []) (by simp;omega)
 have ey:=Nt hy [] (.sl []) (.of []) (by simp;omega)
 have ax:=FO x hx.ok (by omega)
 have ay:=FO y hy.ok (by omega)
 rw[cT]at ax ay
 have lx:=ix q (by omega)
 have ly:=iy q (by omega)
 have t:=pK b q C B hB
 have leaf:∀(w:Nm) (q':Nat) (f:E),w.length=1->q<=q'->q'<=q+C->f.ok->(fD f).length<=B->e9 b p (C+1) (kM (B+5)) (.agg [.v (.string (mk [])),(E.list [.atom w,f]).sp]) [.cells [b,.v (.int .i64 (q':Int))]]:=fun w q' f hw g1 g2 h4 h5=>Oh hw h1 h2 g1 g2 h4 h5
 repeat' first
  |intro _
  |refine⟨by omega,?_⟩
  |(
   with_reducible refine aQ lx t ?_
   rintro r o ⟨q',g1,g2,⟨f,rfl,h4,h5⟩,rfl⟩
   simp only[↓zq,zs,ae,zt,aH,hb.has,aL]
   repeat refine⟨by omega,?_⟩
   refine aj (xS _ f) ?_
   simp only[↓zq,zs,ae,zt,aH,hb.has,aL]
   have fin:=leaf [108] q' f rfl g1 g2 h4 h5
   first|exact fin|exact⟨by omega,fin⟩)
  |(
   with_reducible refine aQ ly t ?_
   rintro r o ⟨q',g1,g2,⟨f,rfl,h4,h5⟩,rfl⟩
   simp only[↓zq,zs,ae,zt,aH,hb.has,aL]
   repeat refine⟨by omega,?_⟩
   refine aj (xS _ f) ?_
   simp only[↓zq,zs,ae,zt,aH,hb.has,aL]
   have fin:=leaf [114] q' f rfl g1 g2 h4 h5
   first|exact fin|exact⟨by omega,fin⟩)
  |(with_reducible refine kA.call ex fun _=>?_;simp only[↓zq,zs,ae,zt,aL])
  |(with_reducible refine kA.call ey fun _=>?_;simp only[↓zq,zs,ae,zt,aL])
  |(with_reducible refine aj ax ?_;simp only[↓zq,zs,ae,zt,aL])
  |(with_reducible refine aj ay ?_;simp only[↓zq,zs,ae,zt,aL])
  |with_reducible refine aJ ?_ ?_
  |(exfalso;omega)
end Go.Proofs.Trees
namespace Go.Proofs.Trees
open Go Go.VL Go.RowKit
def ot:Nat->Nat
 |0=>2
 |d+1=>2*ot d+15
def ox:Nat->Nat
 |0=>3
 |d+1=>2*ox d+8
theorem Sr(d:Nat):2<=ot d:=by cases d<;>simp only[ot]<;>omega
theorem SO(d:Nat):3<=ox d:=by cases d<;>simp only[ox]<;>omega
theorem Ic:∀d:Nat,d<=10->ot d<=100000000
 |0,_=>by decide
 |1,_=>by decide
 |2,_=>by decide
 |3,_=>by decide
 |4,_=>by decide
 |5,_=>by decide
 |6,_=>by decide
 |7,_=>by decide
 |8,_=>by decide
 |9,_=>by decide
 |10,_=>by decide
 |d+11,h=>by omega
theorem D1(b:AV)(l:List UInt8)(hb:tT b l)(p:Nat)(hp:p<2*rl):aq Tryz.prog 68 [.ref 0 0] [.cells [b,.v (.int .i64 (p:Int))]] (e9 b p 1 (gr 60)):=by
 refine S7 _ _ hb.has ?_
 unfold Lh
 refine aQ (Gq b l hb p hp _ _ (.of [_,_,_,_,_,_,_]) (by simp) (by simp)) (e9.ne ⟨_,ak,rfl⟩) ?_
 rintro r o ⟨q,h1,h2,hr,rfl⟩
 obtain⟨s,rfl,hs⟩:=l6.cf (n:=60) (by decide) hr
 simp only[↓zq,zs,ae,aH,hb.has]
 exact⟨q,h1,h2,⟨s,rfl,hs⟩,rfl⟩
theorem Ho(b:AV)(l:List UInt8)(hb:tT b l):∀(d:Nat),d<=10->∀(p:Nat) (ls:List (List UInt8)) (a:AV),cN a ls->(∀s,s∈ls->s.length<=2)->ls.length+d<=100->p+ox d<2*rl ->
 aq Tryz.prog 143 [.ref 0 0,a,.v (.int .i64 (d:Int))] [.cells [b,.v (.int .i64 (p:Int))]] (e9 b p (ox d) (gr (ot d))):=by
 intro d
 induction d with
 |
  zero =>
  intro hd p ls a ha hls hll hp
  simp only[ox]at hp
  refine OZ _ _ _ _ ha.1 hb.has ?_
  simp only[IN,↓zq,zs,ae,ha.len]
  refine⟨fun _=>⟨ha.1,fun hpos=>?_,fun _=>?_⟩,fun h=>by omega⟩
  ·refine aQ (xQ b l hb p 3 (by omega) (by decide)) (e9.ne ⟨0,rfl,fun h=>by omega,by omega⟩) ?_
   rintro r o ⟨q1,h1,h2,⟨k,rfl,h3,h4⟩,rfl⟩
   simp only[↓zq,zs,ae,aH,hb.has]
   refine⟨fun _=>⟨ha.1,?_⟩,fun _=>?_⟩
   ·refine aQ (xQ b l hb q1 ls.length (by omega) (by simp[rl];omega)) (e9.ne ⟨0,rfl,fun h=>by omega,by omega⟩) ?_
    rintro r o ⟨q2,g1,g2,⟨k2,rfl,g3,g4⟩,rfl⟩
    have hk:=g3 (by omega)
    simp only[↓zq,zs,ae,aH,hb.has,bx,ha.idx hk]
    have:e9 b p (ox 0) (gr (ot 0)) (.v (.string (mk (ls.getD k2 [])))) [.cells [b,.v (.int .i64 (q2:Int))]]:=⟨q2,by omega,by simp only[ox];omega,⟨_,rfl,by
     have:=hls (ls.getD k2 []) (by simp[aa,hk]);simp only[ot];omega⟩,rfl⟩
    refine⟨⟨ha.1,by omega⟩,?_⟩
    repeat (first|exact this|refine⟨by omega,?_⟩)
   ·refine aQ (Gq b l hb q1 (by omega) _ _ (.of [_,_,_,_,_,_]) (by simp) (by simp)) (e9.ne ⟨_,ak,rfl⟩) ?_
    rintro r o ⟨q2,g1,g2,hr,rfl⟩
    obtain⟨s,rfl,hs⟩:=l6.cf (n:=2) (by decide) hr
    simp only[↓zq,zs,ae,aH,hb.has]
    exact⟨q2,by omega,by simp only[ox];omega,⟨s,rfl,by simp only[ot];omega⟩,rfl⟩
  ·refine aQ (Gq b l hb p (by omega) _ _ (.of [_,_,_,_,_,_]) (by simp) (by simp)) (e9.ne ⟨_,ak,rfl⟩) ?_
   rintro r o ⟨q2,g1,g2,hr,rfl⟩
   obtain⟨s,rfl,hs⟩:=l6.cf (n:=2) (by decide) hr
   simp only[↓zq,zs,ae,aH,hb.has]
   exact⟨q2,by omega,by simp only[ox];omega,⟨s,rfl,by simp only[ot];omega⟩,rfl⟩
 |
  succ d ih =>
  intro hd p ls a ha hls hll hp
  simp only[ox]at hp
  have hL:=Sr d
  have hC:=SO d
  have ih:=ih (by omega)
  have hL8:=Ic d (by omega)
  have ed:IntKind.wrap .i64 (((d+1:Nat):Int)-1)=(d:Int):=by rw[VL.wrap64]<;>omega
  refine OZ _ _ _ _ ha.1 hb.has ?_
  simp only[IN,↓zq,zs,ae,ha.len,ed]
  refine⟨fun h=>by omega,fun _=>?_⟩
  refine aQ (xQ b l hb p 4 (by omega) (by decide)) (e9.ne ⟨0,rfl,fun h=>by omega,by omega⟩) ?_
  rintro r o ⟨q0,a1,a2,⟨k0,rfl,_,_⟩,rfl⟩
  simp only[↓zq,zs,ae,aH,hb.has]
  refine⟨fun _=>⟨ha.1,fun hpos=>?_,fun _=>?_⟩,fun _=>?_⟩
  ·refine aQ (xQ b l hb q0 3 (by omega) (by decide)) (e9.ne ⟨0,rfl,fun h=>by omega,by omega⟩) ?_
   rintro r o ⟨q1,h1,h2,⟨k,rfl,h3,h4⟩,rfl⟩
   simp only[↓zq,zs,ae,aH,hb.has]
   refine⟨fun _=>⟨ha.1,?_⟩,fun _=>?_⟩
   ·refine aQ (xQ b l hb q1 ls.length (by omega) (by simp[rl];omega)) (e9.ne ⟨0,rfl,fun h=>by omega,by omega⟩) ?_
    rintro r o ⟨q2,g1,g2,⟨k2,rfl,g3,g4⟩,rfl⟩
    have hk:=g3 (by omega)
    simp only[↓zq,zs,ae,aH,hb.has,bx,ha.idx hk]
    have:e9 b p (ox (d+1)) (gr (ot (d+1))) (.v (.string (mk (ls.getD k2 [])))) [.cells [b,.v (.int .i64 (q2:Int))]]:=⟨q2,by omega,by simp only[ox];omega,⟨_,rfl,by
     have:=hls (ls.getD k2 []) (by simp[aa,hk]);simp only[ot];omega⟩,rfl⟩
    refine⟨⟨ha.1,by omega⟩,?_⟩
    repeat (first|exact this|refine⟨by omega,?_⟩)
   ·refine aQ (Gq b l hb q1 (by omega) _ _ (.of [_,_,_,_,_,_]) (by simp) (by simp)) (e9.ne ⟨_,ak,rfl⟩) ?_
    rintro r o ⟨q2,g1,g2,hr,rfl⟩
    obtain⟨s,rfl,hs⟩:=l6.cf (n:=2) (by decide) hr
    simp only[↓zq,zs,ae,aH,hb.has]
    exact⟨q2,by omega,by simp only[ox];omega,⟨s,rfl,by simp only[ot];omega⟩,rfl⟩
  ·refine aQ (Gq b l hb q0 (by omega) _ _ (.of [_,_,_,_,_,_]) (by simp) (by simp)) (e9.ne ⟨_,ak,rfl⟩) ?_
   rintro r o ⟨q2,g1,g2,hr,rfl⟩
   obtain⟨s,rfl,hs⟩:=l6.cf (n:=2) (by decide) hr
   simp only[↓zq,zs,ae,aH,hb.has]
   exact⟨q2,by omega,by simp only[ox];omega,⟨s,rfl,by simp only[ot];omega⟩,rfl⟩
  ·refine aQ (xQ b l hb q0 5 (by omega) (by decide)) (e9.ne ⟨0,rfl,fun h=>by omega,by omega⟩) ?_
   rintro r o ⟨q1,b1,b2,⟨k1,rfl,c3,_⟩,rfl⟩
   have hk1:=c3 (by omega)
   obtain rfl|rfl|rfl|rfl|rfl:k1=0\/k1=1\/k1=2\/k1=3\/k1=4:=by omega
   ·simp only[↓zq,zs,ae,aH,hb.has]
    refine⟨fun _=>?_,fun h=>absurd rfl h⟩
    refine aQ (ih q1 ls a ha hls (by omega) (by omega)) (e9.ne ⟨[],rfl,by simp⟩) ?_
    rintro r o ⟨q2,d1,d2,⟨s1,rfl,d3⟩,rfl⟩
    simp only[↓zq,zs,ae,zt,aH,hb.has,an]
    repeat refine⟨by first|omega|(simp only[an,aw,aE];omega),?_⟩
    refine aQ (ih q2 ls a ha hls (by omega) (by omega)) (e9.ne ⟨[],rfl,by simp⟩) ?_
    rintro r o ⟨q3,e1,e2,⟨s2,rfl,e3⟩,rfl⟩
    simp only[↓zq,zs,ae,zt,aH,hb.has,an]
    have fin:∀s:List UInt8,s.length<=ot (d+1)->e9 b p (ox (d+1)) (gr (ot (d+1))) (.v (.string (mk s))) [.cells [b,.v (.int .i64 (q3:Int))]]:=fun s hs=>⟨q3,by omega,by simp only[ox];omega,⟨s,rfl,hs⟩,rfl⟩
    repeat (first|exact fin _ (by simp only[an,aw,aE,ot];omega)|refine⟨by first|omega|(simp only[an,aw,aE];omega),?_⟩)
   ·simp only[↓zq,zs,ae,aH,hb.has]
    refine⟨fun h=>by omega,fun _=>⟨fun _=>?_,fun h=>absurd rfl h⟩⟩
    refine aQ (ih q1 ls a ha hls (by omega) (by omega)) (e9.ne ⟨[],rfl,by simp⟩) ?_
    rintro r o ⟨q2,d1,d2,⟨s1,rfl,d3⟩,rfl⟩
    simp only[↓zq,zs,ae,zt,aH,hb.has,an]
    repeat refine⟨by first|omega|(simp only[an,aw,aE];omega),?_⟩
    refine aQ (ih q2 ls a ha hls (by omega) (by omega)) (e9.ne ⟨[],rfl,by simp⟩) ?_
    rintro r o ⟨q3,e1,e2,⟨s2,rfl,e3⟩,rfl⟩
    simp only[↓zq,zs,ae,zt,aH,hb.has,an]
    have fin:∀s:List UInt8,s.length<=ot (d+1)->e9 b p (ox (d+1)) (gr (ot (d+1))) (.v (.string (mk s))) [.cells [b,.v (.int .i64 (q3:Int))]]:=fun s hs=>⟨q3,by omega,by simp only[ox];omega,⟨s,rfl,hs⟩,rfl⟩
    repeat (first|exact fin _ (by simp only[an,aw,aE,ot];omega)|refine⟨by first|omega|(simp only[an,aw,aE];omega),?_⟩)
   ·simp only[↓zq,zs,ae,aH,hb.has]
    refine⟨fun h=>by omega,fun _=>⟨fun h=>by omega,fun _=>⟨fun _=>?_,fun h=>absurd rfl h⟩⟩⟩
    refine aQ (ih q1 ls a ha hls (by omega) (by omega)) (e9.ne ⟨[],rfl,by simp⟩) ?_
    rintro r o ⟨q2,d1,d2,⟨s1,rfl,d3⟩,rfl⟩
    simp only[↓zq,zs,ae,zt,aH,hb.has,an]
    repeat refine⟨by first|omega|(simp only[an,aw,aE];omega),?_⟩
    refine aQ (ih q2 ls a ha hls (by omega) (by omega)) (e9.ne ⟨[],rfl,by simp⟩) ?_
    rintro r o ⟨q3,e1,e2,⟨s2,rfl,e3⟩,rfl⟩
    simp only[↓zq,zs,ae,zt,aH,hb.has,an]
    have fin:∀s:List UInt8,s.length<=ot (d+1)->e9 b p (ox (d+1)) (gr (ot (d+1))) (.v (.string (mk s))) [.cells [b,.v (.int .i64 (q3:Int))]]:=fun s hs=>⟨q3,by omega,by simp only[ox];omega,⟨s,rfl,hs⟩,rfl⟩
    repeat (first|exact fin _ (by simp only[an,aw,aE,ot];omega)|refine⟨by first|omega|(simp only[an,aw,aE];omega),?_⟩)
   ·simp only[↓zq,zs,ae,aH,hb.has]
    refine⟨fun h=>by omega,fun _=>⟨fun h=>by omega,fun _=>⟨fun h=>by omega,fun _=>⟨fun _=>?_,fun h=>absurd rfl h⟩⟩⟩⟩
    refine aQ (ih q1 ls a ha hls (by omega) (by omega)) (e9.ne ⟨[],rfl,by simp⟩) ?_
    rintro r o ⟨q2,d1,d2,⟨s1,rfl,d3⟩,rfl⟩
    simp only[↓zq,zs,ae,zt,aH,hb.has,an]
    repeat refine⟨by first|omega|(simp only[an,aw,aE];omega),?_⟩
    refine aQ (ih q2 ls a ha hls (by omega) (by omega)) (e9.ne ⟨[],rfl,by simp⟩) ?_
    rintro r o ⟨q3,e1,e2,⟨s2,rfl,e3⟩,rfl⟩
    simp only[↓zq,zs,ae,zt,aH,hb.has,an]
    have fin:∀s:List UInt8,s.length<=ot (d+1)->e9 b p (ox (d+1)) (gr (ot (d+1))) (.v (.string (mk s))) [.cells [b,.v (.int .i64 (q3:Int))]]:=fun s hs=>⟨q3,by omega,by simp only[ox];omega,⟨s,rfl,hs⟩,rfl⟩
    repeat (first|exact fin _ (by simp only[an,aw,aE,ot];omega)|refine⟨by first|omega|(simp only[an,aw,aE];omega),?_⟩)
   ·simp only[↓zq,zs,ae,aH,hb.has]
    refine⟨fun h=>by omega,fun _=>⟨fun h=>by omega,fun _=>⟨fun h=>by omega,fun _=>⟨fun h=>by omega,fun _=>?_⟩⟩⟩⟩
    refine aQ (Gq b l hb q1 (by omega) _ _ (.of [_,_,_]) (by simp) (by simp)) (e9.ne ⟨_,ak,rfl⟩) ?_
    rintro r o ⟨q2,g1,g2,hr,rfl⟩
    obtain⟨s,rfl,hs⟩:=l6.cf (n:=2) (by decide) hr
    simp only[↓zq,zs,ae,zt,aH,hb.has]
    repeat refine⟨by first|omega|(simp only[an,aw,aE];omega),?_⟩
    refine aY (yJ ls a ha s (by omega)) ?_
    simp only[↓zq,zs,ae,Ob.es,aK]
    refine⟨cW _,?_⟩
    refine aQ (ih q2 (ls++[s]) _ (.of _) (fun w hw=>by
     rcases aO.1 hw with hw|hw
     ·exact hls w hw
     ·simp at hw;rw[hw];exact hs) (by simp;omega) (by omega)) (e9.ne ⟨[],rfl,by simp⟩) ?_
    rintro r o ⟨q3,e1,e2,⟨s2,rfl,e3⟩,rfl⟩
    simp only[↓zq,zs,ae,zt,aH,hb.has,an]
    have fin:∀s:List UInt8,s.length<=ot (d+1)->e9 b p (ox (d+1)) (gr (ot (d+1))) (.v (.string (mk s))) [.cells [b,.v (.int .i64 (q3:Int))]]:=fun s hs=>⟨q3,by omega,by simp only[ox];omega,⟨s,rfl,hs⟩,rfl⟩
    repeat (first|exact fin _ (by simp only[an,aw,aE,ot];omega)|refine⟨by first|omega|(simp only[an,aw,aE];omega),?_⟩)
end Go.Proofs.Trees
namespace Go.Proofs.Trees
open Go Go.VL Go.RowKit
theorem e9.mono{b:AV}{p c c':Nat}{X Y:AV->Prop}(hc:c<=c')(h:∀r,X r->Y r){r:AV}{o:List Ob}(hr:e9 b p c X r o):e9 b p c' Y r o:=by
 obtain⟨q,h1,h2,h3,h4⟩:=hr;exact⟨q,h1,by omega,h r h3,h4⟩
theorem gr.le{n m:Nat}(h:n<=m){r:AV}(hr:gr n r):gr m r:=by obtain⟨s,h1,h2⟩:=hr;exact⟨s,h1,by omega⟩
theorem Si(b:AV)(l:List UInt8)(hb:tT b l)(p:Nat)(hp:p<rl):aq Tryz.prog 142 [.ref 0 0] [.cells [b,.v (.int .i64 (p:Int))]] (e9 b p 100 (gr 200)):=by
 refine Tt _ _ hb.has ?_
 unfold N1
 have hfar:rl=1000000000000000:=rfl
 refine aQ (xQ b l hb p 12 (by omega) (by decide)) (e9.ne ⟨0,rfl,fun h=>by omega,by omega⟩) ?_
 rintro r o ⟨q,h1,h2,⟨k,rfl,_,_⟩,rfl⟩
 have kn:∀(c m:Nat) (r:AV) (o:List Ob),c<=90->m<=200->e9 b q c (gr m) r o->∃q':Nat,∃s:List UInt8,r=.v (.string (mk s))/\o=[.cells [b,.v (.int .i64 (q':Int))]]/\e9 b p 100 (gr 200) (.v (.string (mk s))) [.cells [b,.v (.int .i64 (q':Int))]]:=by
  rintro c m r o hc hm ⟨q',g1,g2,⟨s,rfl,hs⟩,rfl⟩
  exact⟨q',s,rfl,rfl,q',by omega,by omega,⟨s,rfl,by omega⟩,rfl⟩
 simp only[↓zq,zs,ae,aH,hb.has]
 refine⟨fun _=>?_,fun _=>⟨fun _=>?_,fun _=>⟨fun _=>?_,fun _=>⟨fun _=>?_,fun _=>⟨fun _=>?_,fun _=>?_⟩⟩⟩⟩⟩
 ·refine aQ (Gq b l hb q (by omega) _ _ (.of [_,_,_,_,_,_,_,_,_]) (by simp) (by simp)) (e9.ne ⟨_,ak,rfl⟩) ?_
  intro r o hr
  obtain⟨q',s,rfl,rfl,hd⟩:=kn 1 20 r o (by omega) (by omega) (hr.mono (au _) fun r h=>l6.cf (n:=20) (by decide) h)
  simp only[↓zq,zs,ae,aH,hb.has];exact hd
 ·refine aQ (D1 b l hb q (by omega)) (e9.ne ⟨[],rfl,by simp⟩) ?_
  intro r o hr
  obtain⟨q',s,rfl,rfl,hd⟩:=kn _ _ r o (by omega) (by omega) hr
  simp only[↓zq,zs,ae,aH,hb.has];exact hd
 ·refine aQ (D1 b l hb q (by omega)) (e9.ne ⟨[],rfl,by simp⟩) ?_
  intro r o hr
  obtain⟨q',s,rfl,rfl,hd⟩:=kn _ _ r o (by omega) (by omega) hr
  simp only[↓zq,zs,ae,aH,hb.has];exact hd
 ·refine aQ (D1 b l hb q (by omega)) (e9.ne ⟨[],rfl,by simp⟩) ?_
  intro r o hr
  obtain⟨q',s,rfl,rfl,hd⟩:=kn _ _ r o (by omega) (by omega) hr
  simp only[↓zq,zs,ae,aH,hb.has];exact hd
 ·refine aQ (Ho b l hb 2 (by omega) q [[116],[116,49]] _ (cN.of [[116],[116,49]]) (by decide) (by simp) (by simp[ox];omega)) (e9.ne ⟨[],rfl,by simp⟩) ?_
  intro r o hr
  obtain⟨q',s,rfl,rfl,hd⟩:=kn _ _ r o (by simp[ox]) (by simp[ot]) hr
  simp only[↓zq,zs,ae,aH,hb.has];exact hd
 ·refine aQ (Ho b l hb 3 (by omega) q [] _ (cN.of []) (by simp) (by simp) (by simp[ox];omega)) (e9.ne ⟨[],rfl,by simp⟩) ?_
  intro r o hr
  obtain⟨q',s,rfl,rfl,hd⟩:=kn _ _ r o (by simp[ox]) (by simp[ot]) hr
  simp only[↓zq,zs,ae,aH,hb.has];exact hd
def zi(a:AV):Prop:=LK.sl.has a/\∃l:List UInt8,a.elems=rE l
def Rq(r:AV)(o:List Ob):Prop:=∃(b:AV) (l:List UInt8),tT b l/\r=.ref 0 0/\o=[.cells [b,.v (.int .i64 0)]]
theorem Rq.ne:∃r o,Rq r o:=⟨_,_,.v (.slice none 0 0),[],⟨(bm).mpr trivial,rfl,by simp⟩,rfl,rfl⟩
theorem Th(a:AV)(ha:zi a):aq Tryz.prog 23 [a] [] Rq:=by
 obtain⟨hs,l,hl⟩:=ha
 have hln:a.elems.length=l.length:=by rw[hl];simp[rE]
 refine Uo _ hs ?_
 simp only[Mx,↓zq,zs,ae,hln]
 refine⟨hs,fun h=>⟨⟨hs,by omega⟩,?_⟩,fun h=>?_⟩
 ·refine⟨_,l.take 2000,⟨(cc _).mpr trivial,?_,?_⟩,rfl,rfl⟩
  ·rw[fJ,hl];simp[rE]
  ·simp;omega
 ·exact⟨a,l,⟨hs,hl,by omega⟩,rfl,rfl⟩
end Go.Proofs.Trees
namespace Go.Proofs.Trees
open Go Go.VL Go.RowKit
theorem DY(b:AV)(l:List UInt8)(hb:tT b l){e:E}(h:Wf e):∀d:Int,d<=-13->-50000+(e.sz:Int)<=d->e.dr<=400->kX b d e (5*e.sz) e.sz:=by
 induction h with
 |
  @atom s hs =>
  intro d h1 h2 h3
  exact(Mp b l hb d hs).mono (by simp[E.sz]) (by simp[E.sz])
 |
  @plus x y hx hy i1 i2 =>
  intro d h1 h2 h3
  have h4:=h3
  simp only[E.sz,E.jZ,E.dr,E.fA]at h2 h4 |-
  exact(M5 b l hb d (by omega) hx hy h3 (5*(x.sz+y.sz)+1) (x.sz+y.sz) ((i1 (d-1) (by omega) (by omega) (by omega)).mono (by omega) (by omega)) ((i2 (d-1) (by omega) (by omega) (by omega)).mono (by omega) (by omega)) (by omega)).mono (by omega) (by omega)
 |
  @times x y hx hy i1 i2 =>
  intro d h1 h2 h3
  have h4:=h3
  simp only[E.sz,E.jZ,E.dr,E.fA]at h2 h4 |-
  exact(OQ b l hb d (by omega) hx hy (5*x.sz+1) x.sz (5*y.sz+1) y.sz ((i1 (d-1) (by omega) (by omega) (by omega)).mono (by omega) (by omega)) ((i2 (d-1) (by omega) (by omega) (by omega)).mono (by omega) (by omega)) (by omega) (by omega)).mono (by omega) (by omega)
 |
  @rc n x hn hx i =>
  intro d h1 h2 h3
  simp only[E.sz,E.jZ]at h2 |-
  exact(Pa b l hb d (by omega) hn hx h3 1 0 (fun h=>absurd h (by omega)) (by omega)).mono (by omega) (by omega)
def qB:Nat->Nat
 |0=>6100
 |n+1=>2*qB n+5
theorem Ig:∀n,6100<=qB n
 |0=>au _
 |n+1=>by have:=Ig n;simp only[qB];omega
theorem yr:∀n k:Nat,qB (n+k)+5=2 ^ k*(qB n+5)
 |n,0=>by simp
 |
  n,k+1=>by
  have:=yr n k
  rw[show n+(k+1)=n+k+1 from rfl,qB,Nat.pow_succ,Nat.mul_comm (2 ^ k) 2,Nat.mul_assoc,<-this];omega
theorem C0{n m:Nat}(h:n<=m):qB n<=qB m:=by
 obtain⟨k,rfl⟩:=Nat.exists_eq_add_of_le h
 have:=yr n k
 have h2:1*(qB n+5)<=2 ^ k*(qB n+5):=bg _ Nat.one_le_two_pow
 omega
theorem QD:qB 22<=30000000000:=by
 have:=yr 0 22
 simp only[a8]at this
 have h0:qB 0=6100:=rfl
 rw[h0]at this
 omega
theorem z8(b:AV)(l:List UInt8)(hb:tT b l):∀n:Nat,n<=40->∀e,Wf e->e.dr<=400->kX b ((n:Int)-13) e (qB n) (qB n)
 |
  0,hn,e,h,hl=>by
  have:=h.sz
  exact(DY b l hb h _ (by simp) (by simp;omega) hl).mono (by simp only[qB];omega) (by simp only[qB];omega)
 |
  n+1,hn,e,h,hl=>by
  have hb1:=Ig n
  have ih:∀g,Wf g->g.dr<=400->kX b (((n+1:Nat):Int)-13-1) g (qB n) (qB n):=by
   rw[show ((n+1:Nat):Int)-13-1=(n:Int)-13 by omega];exact z8 b l hb n (by omega)
  cases h with
  |@atom s hs=>exact(Mp b l hb _ hs).mono (by simp only[qB];omega) (by simp only[qB];omega)
  |
   @plus x y hx hy =>
   have h4:=hl
   simp only[E.dr,E.fA]at h4
   exact(M5 b l hb _ (by omega) hx hy hl _ _ (ih x hx (by omega)) (ih y hy (by omega)) (by omega)).mono (by simp only[qB];omega) (by simp only[qB];omega)
  |
   @times x y hx hy =>
   simp only[E.dr,E.fA]at hl
   exact(OQ b l hb _ (by omega) hx hy _ _ _ _ (ih x hx (by omega)) (ih y hy (by omega)) (by omega) (by omega)).mono (by simp only[qB];omega) (by simp only[qB];omega)
  |@rc m x hm hx=>exact(Pa b l hb _ (by omega) hm hx hl _ _ (fun _=>ih) (by omega)).mono (by simp only[qB];omega) (by simp only[qB];omega)
theorem G5(b:AV)(l:List UInt8)(hb:tT b l)(p:Nat)(hp:p<100000000000000)(s:Nm):aq Tryz.prog 50 [.ref 0 0,.v (.string (mk s))] [.cells [b,.v (.int .i64 (p:Int))]] (e9 b p 40000000000 (gr 40000000000)):=by
 refine Sk _ _ _ hb.has ?_
 have hfar:rl=1000000000000000:=rfl
 have oneL:∀(q:Nat) (r:AV) (o:List Ob),p<=q->q<=p+1->e9 b q 1 (l6 [[],[117],[101,48],[101,48,48],[101,49,48,48],[40,108,32,117,41],[40,112,32,117,41],[40,102,32,40,108,32,117,41,41],[40,120,32,117,41],[40,108,32,32,117,41]]) r o->∃q':Nat,∃t:List UInt8,r=.v (.string (mk t))/\o=[.cells [b,.v (.int .i64 (q':Int))]]/\e9 b p 40000000000 (gr 40000000000) (.v (.string (mk t))) [.cells [b,.v (.int .i64 (q':Int))]]:=by
  rintro q r o h1 h2 ⟨q',g1,g2,hr,rfl⟩
  obtain⟨t,rfl,ht⟩:=l6.cf (n:=20) (by decide) hr
  exact⟨q',t,rfl,rfl,q',by omega,by omega,⟨t,rfl,by omega⟩,rfl⟩
 unfold NU
 refine aQ (IK s) (iT.ne _ _ (fun h=>h)) ?_
 rintro r o ⟨c,d,hd,rfl,hh⟩
 have hhas:bC [.str,.sl] [.v (.string (mk c)),d] 0:=by simp[bC,dD,hd]
 simp only[↓zq,zs,ae,zt]
 refine⟨hhas,fun h=>?_,fun h=>?_⟩
 ·refine aQ (Gq b l hb p (by omega) _ _ (.of [_,_,_,_,_,_,_,_,_,_]) (by simp) (by simp)) (e9.ne ⟨_,ak,rfl⟩) ?_
  intro r o hr
  obtain⟨q',t,rfl,rfl,hd⟩:=oneL p r o (au _) (by omega) hr
  simp only[↓zq,zs,ae,aH,hb.has];exact hd
 ·obtain⟨e,he,hce⟩:=hh (by simpa using h)
  obtain⟨t,h1,hA,h3,h4,h5,_⟩:=iJ he
  rw[cT]at hce
  simp only[AV.agg.injEq,List.cons.injEq,AV.v.injEq,Value.string.injEq,and_true]at hce
  obtain⟨hc1,rfl⟩:=hce
  have hc2:=mk_inj hc1
  subst hc2
  obtain⟨hw,hwt⟩:=lD e [] t hA.ok (by simp) hA.ty
  have hats:e.dr<=400:=by rw[hw.dr [],hwt];exact h5
  have hsz:=hw.sz
  refine aQ (xQ b l hb p 16 (by omega) (by decide)) (e9.ne ⟨0,rfl,fun h=>by omega,by omega⟩) ?_
  rintro r o ⟨q,h1,h2,⟨k,rfl,_,_⟩,rfl⟩
  simp only[↓zq,zs,ae,aH,hb.has]
  refine⟨fun _=>?_,fun _=>?_⟩
  ·refine aQ (Gq b l hb q (by omega) _ _ (.of [_,_,_,_,_,_,_,_,_,_]) (by simp) (by simp)) (e9.ne ⟨_,ak,rfl⟩) ?_
   intro r o hr
   obtain⟨q',t,rfl,rfl,hd⟩:=oneL q r o h1 h2 hr
   simp only[↓zq,zs,ae,aH,hb.has];exact hd
  ·obtain⟨w1,w2,_⟩:=yW (os:=[]) hw
   have hap:=FX hw (.v (.slice none 0 0)) [] ⟨(bm).mpr trivial,rfl⟩ (by omega) (by simp) (by simp)
   refine aj hap ?_
   simp only[↓zq,zs,ae,zt,aL]
   repeat refine⟨by omega,?_⟩
   have hats2:(Bn e []).dr<=400:=by rw[w1.dr [],w2,<-hw.dr []];exact hats
   refine aQ (xQ b l hb q 5 (by omega) (by decide)) (e9.ne ⟨0,rfl,fun h=>by omega,by omega⟩) ?_
   rintro r o ⟨q1,g1,g2,⟨k1,rfl,c3,_⟩,rfl⟩
   have hk1:=c3 (by omega)
   simp only[↓zq,zs,ae,zt,aH,hb.has,aL]
   have ed:IntKind.wrap .i64 (5+(k1:Int))=((18+k1:Nat):Int)-13:=by rw[VL.wrap64 _ (by omega) (by omega)];omega
   have hB:=QD
   have hB2:qB (18+k1)<=qB 22:=C0 (by omega)
   have hB3:=Ig (18+k1)
   rw[ed]
   refine aQ (z8 b l hb (18+k1) (by omega) (Bn e []) w1 hats2 q1 (by omega)) (pK b q1 _ _ (by omega)) ?_
   rintro r o ⟨q2,d1,d2,⟨f,rfl,f1,f2⟩,rfl⟩
   simp only[↓zq,zs,ae,zt,aH,hb.has,aL]
   repeat refine⟨by omega,?_⟩
   have ht:=E3 (f.sz+1) f (by omega) f1 (by omega)
   rw[cT]at ht
   refine aj ht ?_
   simp only[↓zq,zs,ae,zt,aH,hb.has,aL]
   exact⟨q2,by omega,by omega,⟨fD f,rfl,by omega⟩,rfl⟩
theorem RG(b:AV)(l:List UInt8)(hb:tT b l)(p:Nat)(hp:p<100000000000000):aq Tryz.prog 105 [.ref 0 0] [.cells [b,.v (.int .i64 (p:Int))]] (e9 b p 200 (gr 200)):=by
 refine TL _ _ hb.has ?_
 unfold LP
 have hfar:rl=1000000000000000:=rfl
 refine aQ (xQ b l hb p 8 (by omega) (by decide)) (e9.ne ⟨0,rfl,fun h=>by omega,by omega⟩) ?_
 rintro r o ⟨q,h1,h2,⟨k,rfl,_,_⟩,rfl⟩
 have kn:∀(c m:Nat) (r:AV) (o:List Ob),c<=190->m<=200->e9 b q c (gr m) r o->∃q':Nat,∃s:List UInt8,r=.v (.string (mk s))/\o=[.cells [b,.v (.int .i64 (q':Int))]]/\e9 b p 200 (gr 200) (.v (.string (mk s))) [.cells [b,.v (.int .i64 (q':Int))]]:=by
  rintro c m r o hc hm ⟨q',g1,g2,⟨s,rfl,hs⟩,rfl⟩
  exact⟨q',s,rfl,rfl,q',by omega,by omega,⟨s,rfl,by omega⟩,rfl⟩
 have sh:=Ho b l hb 3 (by omega) q [] _ (cN.of []) (by simp) (by simp) (by simp[ox];omega)
 have ty:=Si b l hb q (by omega)
 have kw:=D1 b l hb q (by omega)
 simp only[↓zq,zs,ae,aH,hb.has]
 refine⟨fun _=>?_,fun _=>⟨fun _=>?_,fun _=>⟨fun _=>?_,fun _=>⟨fun _=>?_,fun _=>?_⟩⟩⟩⟩
 ·refine aQ ty (e9.ne ⟨[],rfl,by simp⟩) ?_
  intro r o hr
  obtain⟨q',s,rfl,rfl,hd⟩:=kn _ _ r o (by omega) (by omega) hr
  simp only[↓zq,zs,ae,aH,hb.has];exact hd
 ·refine aQ sh (e9.ne ⟨[],rfl,by simp⟩) ?_
  intro r o hr
  obtain⟨q',s,rfl,rfl,hd⟩:=kn _ _ r o (by simp[ox]) (by simp[ot]) hr
  simp only[↓zq,zs,ae,aH,hb.has];exact hd
 ·refine aQ sh (e9.ne ⟨[],rfl,by simp⟩) ?_
  intro r o hr
  obtain⟨q',s,rfl,rfl,hd⟩:=kn _ _ r o (by simp[ox]) (by simp[ot]) hr
  simp only[↓zq,zs,ae,aH,hb.has];exact hd
 ·refine aQ sh (e9.ne ⟨[],rfl,by simp⟩) ?_
  intro r o hr
  obtain⟨q',s,rfl,rfl,hd⟩:=kn _ _ r o (by simp[ox]) (by simp[ot]) hr
  simp only[↓zq,zs,ae,aH,hb.has];exact hd
 ·refine aQ kw (e9.ne ⟨[],rfl,by simp⟩) ?_
  intro r o hr
  obtain⟨q',s,rfl,rfl,hd⟩:=kn _ _ r o (by omega) (by omega) hr
  simp only[↓zq,zs,ae,aH,hb.has];exact hd
def QZ:AV->Prop:=fun r=>∃s t:Nm,r=.cm [.v (.string (mk s)),.v (.string (mk t))]
theorem SH(b:AV)(l:List UInt8)(hb:tT b l)(p:Nat)(hp:p<10000000000000):aq Tryz.prog 69 [.ref 0 0] [.cells [b,.v (.int .i64 (p:Int))]] (e9 b p 50000000000 QZ):=by
 refine SA _ _ hb.has ?_
 unfold Ri
 refine aQ (RG b l hb p (by omega)) (e9.ne ⟨[],rfl,by simp⟩) ?_
 rintro r o ⟨q,h1,h2,⟨s,rfl,_⟩,rfl⟩
 simp only[↓zq,zs,ae,aH,hb.has]
 refine aQ (G5 b l hb q (by omega) s) (e9.ne ⟨[],rfl,by simp⟩) ?_
 rintro r o ⟨q1,g1,g2,⟨t,rfl,_⟩,rfl⟩
 simp only[↓zq,zs,ae,aH,hb.has]
 exact⟨q1,by omega,by omega,⟨s,t,rfl⟩,rfl⟩
theorem Tv(b:AV)(l:List UInt8)(hb:tT b l)(p:Nat)(hp:p<1000000000000):aq Tryz.prog 33 [.ref 0 0] [.cells [b,.v (.int .i64 (p:Int))]] (e9 b p 60000000000 QZ):=by
 refine T8 _ _ hb.has ?_
 unfold K8
 have hfar:rl=1000000000000000:=rfl
 refine aQ (D1 b l hb p (by omega)) (e9.ne ⟨[],rfl,by simp⟩) ?_
 rintro r o ⟨q,h1,h2,⟨s,rfl,_⟩,rfl⟩
 simp only[↓zq,zs,ae,aH,hb.has]
 refine aQ (xQ b l hb q 12 (by omega) (by decide)) (e9.ne ⟨0,rfl,fun h=>by omega,by omega⟩) ?_
 rintro r o ⟨q1,g1,g2,⟨k,rfl,_,_⟩,rfl⟩
 simp only[↓zq,zs,ae,aH,hb.has]
 refine⟨fun _=>?_,fun _=>?_⟩
 ·refine aQ (SH b l hb q1 (by omega)) (e9.ne ⟨[],[],rfl⟩) ?_
  rintro r o ⟨q2,e1,e2,⟨x,y,rfl⟩,rfl⟩
  simp only[↓zq,zs,ae,zt,aH,hb.has]
  exact⟨q2,by omega,by omega,⟨x,y,rfl⟩,rfl⟩
 ·refine aQ (G5 b l hb q1 (by omega) s) (e9.ne ⟨[],rfl,by simp⟩) ?_
  rintro r o ⟨q2,e1,e2,⟨t,rfl,_⟩,rfl⟩
  simp only[↓zq,zs,ae,aH,hb.has]
  exact⟨q2,by omega,by omega,⟨s,t,rfl⟩,rfl⟩
end Go.Proofs.Trees
namespace Go.Proofs.Trees
open Go Go.VL Go.RowKit
abbrev pZ(p:List Nat):List Int:=p.map Int.ofNat
abbrev Pm(p:List Nat):AV:=.sl (dN p)
theorem GG(p:List Nat):jf (Pm p) (pZ p):=⟨(cc _).mpr trivial,by rw[fJ,oV]⟩
theorem Fl(f:List Nat->AV){l:List Pt}{i:Nat}(hi:i<l.length):(gv f l).getD i []=[f (l[i]).2]:=by simp[gv,aa,hi]
theorem NM(l:List Pt)(hl:l.length<=1000):∀(k i:Nat) (out:List Pt),i+k=l.length->out.length+k<=1000 ->
 Ix [.sl (nK l),.v (.bool true),.v (.int .i64 (i:Int))] [.vec 1 (gv Pm out)] (gS 1 [.v (.bool true)] [.vec 1 (gv Pm (out++l.drop i))])
 |
  0,i,out,hi,ho=>by
  refine Jm _ _ _ _ ?_
  have:i=l.length:=by omega
  subst this
  simp only[Ge,↓zq,zs,ae,mb]
  exact⟨fun h=>by omega,fun _=>by simp[gS]⟩
 |
  k+1,i,out,hi,ho=>by
  have hlt:i<l.length:=by omega
  refine Jm _ _ _ _ ?_
  simp only[Ge,↓zq,zs,ae,zt,mb,CL hlt,km]
  refine⟨fun _=>⟨fun _=>?_,fun h=>(by cases h)⟩,fun h=>by omega⟩
  repeat refine⟨by omega,?_⟩
  refine⟨⟨wm _,by omega⟩,?_⟩
  have:=NM l hl k (i+1) (out++[l[i]]) (by omega) (by simp;omega)
  rw[bD i (by omega),aM hlt]
  rw[a6,<-we Pm out]at this
  exact this
theorem T6(s v:Nm):aq Tryz.prog 49 [.v (.string (mk s)),.v (.string (mk v))] [] (bP (.cm [.sl (gv Pm ((gL s v).getD [])),.v (.bool (gL s v).isSome)])):=by
 refine S0 _ _ ?_
 unfold QY
 refine aQ (Ue s v) (QM.ne _ s v) ?_
 rintro r o ⟨rfl,x,hx,rfl,hl⟩
 cases h:gL s v with
 |
  none =>
  simp only[↓zq,zs,ae,hx,ba]
  refine cC (ys:=[.v (.bool false)]) (o:=[.vec 1 []]) ?_ ?_
  ·refine Jm _ _ _ _ ?_
   simp only[Ge,↓zq,zs,ae,hx]
   exact⟨fun _=>⟨fun h=>(by cases h),fun _=>⟨rfl,rfl,rfl⟩⟩,fun _=>⟨rfl,rfl,rfl⟩⟩
  ·simp[↓zq,zs,ae,bP,h,gv,Ob.es]
 |
  some l =>
  rw[hl l h]
  have:=(tj h).1
  simp only[↓zq,zs,ae,aU,mb]
  have:=NM l (by omega) l.length 0 [] (by omega) (by simp;omega)
  rw[a7,aS]at this
  refine cC this ?_
  simp[↓zq,zs,ae,bP,h,Ob.es]
end Go.Proofs.Trees
namespace Go.Proofs.Trees
open Go Go.VL Go.RowKit
noncomputable def wR (s f:Nm) (pl:List Int) (x y:Nm):Option Nm:=(Eu s f pl).bind fun r=>if r.2.cf=x then(vo s (r.1.map (·.cf)) r.2.cf y).bind fun q=>po s (q.1.map (·.cf)) q.2.cf else none
theorem Sf(s f:Nm)(a:AV)(pl:List Int)(ha:jf a pl)(hl:pl.length<=2000000)(x y:Nm):aq Tryz.prog 10 [.v (.string (mk s)),.v (.string (mk f)),.agg [a,.v (.string (mk x)),.v (.string (mk y))]] [] (bP (re (wR s f pl x y))):=by
 refine SF _ _ _ _ _ ha.1 ?_
 unfold Px
 refine aY (Tp s f a pl ha hl) ?_
 unfold wR
 cases q:Eu s f pl with
 |
  none =>
  simp only[↓zq,zs,ae,zt,aH,Ob.es,aK,ba,bq]
  exact⟨cW _,fun _=>⟨rfl,rfl⟩,fun h=>by simp at h⟩
 |
  some r =>
  simp only[↓zq,zs,ae,zt,aH,Ob.es,aK,aU,aR]
  refine⟨cW _,fun h=>by simp at h,fun _=>⟨fun hne=>?_,fun he=>?_⟩⟩
  ·rw[if_neg (by simpa using hne)];exact⟨rfl,rfl⟩
  ·rw[if_pos (by simpa using he)]
   refine aY (SX s _ (r.1.map (·.cf)) (cN.of _) r.2.cf y) ?_
   cases q2:vo s (r.1.map (·.cf)) r.2.cf y with
   |
    none =>
    simp only[↓zq,zs,ae,zt,aH,Ob.es,aK,ba,bq]
    exact⟨cW _,fun _=>⟨rfl,rfl⟩,fun h=>by simp at h⟩
   |
    some r2 =>
    simp only[↓zq,zs,ae,zt,aH,Ob.es,aK,aU,aR]
    refine⟨cW _,fun h=>by simp at h,fun _=>?_⟩
    have h3:=Uy s _ (r2.1.map (·.cf)) (cN.of _) r2.2.cf
    rw[kf]at h3
    refine aj h3 ?_
    simp only[↓zq,zs,ae,zt]
    rw[kf];exact⟨rfl,rfl⟩
theorem Sb(s f:Nm)(a:AV)(pl:List Int)(ha:jf a pl)(x y:Nm):aq Tryz.prog 20 [.v (.string (mk s)),.v (.string (mk f)),.agg [a,.v (.string (mk x)),.v (.string (mk y))]] [] (bP (re (wR s f pl x y))):=by
 refine R3 _ _ _ _ _ ha.1 ?_
 unfold Ln
 refine aQ (NH s f a pl ha) (Es.ne _ _) ?_
 unfold wR
 cases q:Eu s f pl with
 |
  none =>
  rintro r' o ⟨rfl,w,hw,rfl⟩
  simp only[↓zq,zs,ae,zt,bC,ba,bq]
  exact⟨hw.1,fun _=>⟨rfl,rfl⟩,fun h=>by simp at h⟩
 |
  some r =>
  rintro r' o ⟨rfl,w,hw,rfl⟩
  simp only[↓zq,zs,ae,zt,bC,aU,aR]
  refine⟨hw.1,fun h=>by simp at h,fun _=>⟨fun hne=>?_,fun he=>?_⟩⟩
  ·rw[if_neg (by simpa using hne)];exact⟨rfl,rfl⟩
  ·rw[if_pos (by simpa using he)]
   refine aY (Ni s w (r.1.map (·.cf)) hw r.2.cf y) ?_
   cases q2:vo s (r.1.map (·.cf)) r.2.cf y with
   |
    none =>
    simp only[↓zq,zs,ae,zt,aH,Ob.es,aK,ba,bq]
    exact⟨cW _,fun _=>⟨rfl,rfl⟩,fun h=>by simp at h⟩
   |
    some r2 =>
    simp only[↓zq,zs,ae,zt,aH,Ob.es,aK,aU,aR]
    refine⟨cW _,fun h=>by simp at h,fun _=>?_⟩
    have h3:=Lc s _ (r2.1.map (·.cf)) (cN.of _) r2.2.cf
    rw[kf]at h3
    refine aj h3 ?_
    simp only[↓zq,zs,ae,zt]
    rw[kf];exact⟨rfl,rfl⟩
end Go.Proofs.Trees
namespace Go.Proofs.Trees
open Go Go.VL Go.RowKit
def rep(a:Ty):Vl->List Nat->Vl->Vl
 |v,[],gg=>gg
 |
  v,k::ks,gg=>match (kids a v)[k]? with
  |some h=>.f (cx a h.1 (rep a h.2 ks gg))
  |none=>v
theorem D7{a:Ty}{l:List Vl}{c X:Vl}{n:Nat}{y:Vl}(h:iR (n+1) a (l++[c]) X=some y):iR n a l (.f (cx a c X))=some y:=by
 rw[iR]at h
 unfold rY at h
 rw[List.getLast?_concat]at h
 simp only[List.dropLast_concat]at h
 split at h
 ·exact h
 ·cases h
theorem C4{a:Ty}:∀(path:List Nat) (l l':List Vl) (v w gg y:Vl),vZ a (path.map Int.ofNat) (some (l,v))=some (l',w)->qM a l' gg=some y->qM a l (rep a v path gg)=some y
 |[],l,l',v,w,gg,y,h,hc=>by cases h;exact hc
 |
  k::path,l,l',v,w,gg,y,h,hc=>by
  rw[bo,mh,aR]at h
  cases q:rS a l v (Int.ofNat k)with
  |none=>simp only[q,i6]at h;cases h
  |
   some r =>
   obtain⟨l1,v1⟩:=r
   simp only[q]at h
   obtain⟨h',_,rfl,rfl,_,_,_,hk⟩:=lQ q
   have hk:(kids a v)[k]?=some h':=hk
   have:=C4 path (l++[h'.1]) l' h'.2 w gg y h hc
   unfold qM at this |-
   rw[an,List.length_singleton]at this
   simp only[rep,hk]
   exact D7 this
theorem Gt{s f xo y g:Nm}{path:List Nat}{v gg:Vl}(hv:gA s f=some v)(hu:Fo (zA s) gg)(hy:y=gg.cf)(h:wR s f (path.map Int.ofNat) xo y=some g):g=(rep (zA s) v path gg).cf:=by
 subst hy
 unfold wR at h
 obtain⟨r,hr,h⟩:=aW.1 h
 obtain⟨l',w'⟩:=r
 split at h
 ·obtain⟨q,hq,h⟩:=aW.1 h
  unfold vo at hq
  obtain⟨_,_,hq⟩:=aW.1 hq
  unfold Eu at hr
  cases q0:tP s [] f with
  |none=>rw[q0,i6]at hr;cases hr
  |
   some r0 =>
   obtain⟨l0,v0⟩:=r0
   obtain⟨d,hd,hs,hp,hf⟩:=oS q0
   have tS:l0=[]:=List.map_eq_nil_iff.1 hp.symm
   subst tS
   obtain⟨d',a',x',A',B',D',z',_,_,_,_,_,hlv,_⟩:=lS q0
   rw[hv]at hlv;cases hlv
   rw[q0]at hr
   obtain⟨g1,_,_⟩:=CY (path.map Int.ofNat) [] l' v w' hs hr
   have g2:St s d (zA s) l' gg:=⟨g1.z,⟨g1.i.ctx,hu⟩,g1.each,g1.len⟩
   simp only at hq h
   have hq':=hq
   rw[Fq g2 hd]at hq'
   split at hq'
   ·rename_i hc
    cases hq'
    unfold po at h
    rw[hq,aR]at h
    obtain⟨y,hy,rfl⟩:=Option.map_eq_some_iff.1 h
    have:=C4 path [] l' v w' gg y hr hy
    cases this;rfl
   ·cases hq'
 ·cases h
end Go.Proofs.Trees
namespace Go.Proofs.Trees
open Go Go.VL Go.RowKit
theorem pY{a:Ty}{v:Vl}{k:Nat}(h:k<(kids a v).length):(kids a v).getD k tS=(kids a v)[k]/\(kids a v).getD k tS∈kids a v:=by
 have e:(kids a v).getD k tS=(kids a v)[k]:=by simp[aa,h]
 exact⟨e,by rw[e];exact bn _⟩
theorem qv{a:Ty}{v:Vl}:(kids a v).length+1<=v.nodes:=by
 have:=mf (kids a v);have:=lU a v;omega
theorem tY{a:Ty}{v:Vl}{h:Hl}(hh:h∈kids a v):h.1.nodes<=4*v.nodes:=by
 cases v with
 |f w=>have:=(gu hh).2;simp only[Vl.nodes];omega
 |_=>cases hh
theorem rZ{a:Ty}{v:Vl}(hb:v.fy 100)(hn:v.nodes<=200){h:Hl}(hh:h∈kids a v):h.2.cf.length<=900000:=by
 have:=eZ h.2 (en hb hh).2
 have:=fT hh
 omega
theorem xL{a:Ty}{v w:Vl}(hb:v.fy 100)(hn:v.nodes<=200)(hb':w.fy 100)(hn':w.nodes<=200){h:Hl}(hh:h∈kids a v):(Vl.f (cx a h.1 w)).cf.length<=900000:=by
 have h1:=eZ (Vl.f (cx a h.1 w)) (by exact ny 100 a h.1 w (en hb hh).1 hb')
 have h2:=pf a h.1 w
 have h3:=tY hh
 simp only[Vl.nodes]at h1
 omega
theorem H2(a:Ty)(l r:List Hl)(hl:l.length<=1000)(hlr:l.length=r.length)(h1:∀h,h∈l->h.2.cf.length<=900000)(h2:∀h,h∈r->h.2.cf.length<=900000)(o n:List UInt8):∀(k i:Nat) (out:List Nat),i+k=l.length->out.length<=i ->
 H9 [(Ty.rc a).av,.sl (gT l),.sl (gT r),.sl (gT l),.v (.int .i64 (l.length:Int)),.v (.int .i64 (i:Int))] [.cells [.v (.slice none 0 0),.v (.string (mk [])),.v (.string (mk []))],.cells [.any,.v (.string (mk o)),.v (.string (mk n))],.vec 1 [],.vec 1 (dN out)]
  (gS 1 [(Ty.rc a).av,.sl (gT l),.sl (gT r)] [.cells [.v (.slice none 0 0),.v (.string (mk [])),.v (.string (mk []))],.cells [.any,.v (.string (mk o)),.v (.string (mk n))],.vec 1 [],.vec 1 (dN (out++fG (l.drop i) (r.drop i) i))])
 |
  0,i,out,hi,ho=>by
  refine Of _ _ _ _ _ _ _ _ _ _ _ _ _ ?_
  have:i=l.length:=by omega
  subst this
  simp only[Jo,↓zq,zs,ae,dV,aF,ae,List.drop_length]
  exact⟨fun h=>by omega,fun _=>by simp[gS,fG]⟩
 |
  k+1,i,out,hi,ho=>by
  have hlt:i<l.length:=by omega
  have hlt':i<r.length:=by omega
  refine Of _ _ _ _ _ _ _ _ _ _ _ _ _ ?_
  simp only[Jo,↓zq,zs,ae,zt,dV,aF,ae,bC,jL hlt,jL hlt',aP,fQ,oJ]
  refine⟨fun _=>?_,fun h=>by omega⟩
  repeat refine⟨by omega,?_⟩
  refine aj (BL _ (h1 _ (bn hlt))) ?_
  simp only[↓zq,zs,ae,zt,aP]
  repeat refine⟨by omega,?_⟩
  refine aj (BL _ (h2 _ (bn hlt'))) ?_
  simp only[↓zq,zs,ae,zt,aP,fQ,oJ]
  rw[tH l r hlt hlt',bD i (by omega)]
  refine⟨fun hne=>?_,fun he=>?_⟩
  ·rw[if_neg (by simpa using hne)]
   have:=H2 a l r hl hlr h1 h2 o n k (i+1) (out++[i]) (by omega) (by simp;omega)
   rw[a6]at this
   refine⟨⟨wm _,by omega⟩,?_⟩
   exact this
  ·rw[if_pos (by simpa using he)]
   exact H2 a l r hl hlr h1 h2 o n k (i+1) out (by omega) (by omega)
abbrev GH(r:KH):AV:=.agg [.vec 0,.v (.string (mk r.2.1.cf)),.v (.string (mk r.2.2.cf))]
theorem jz(l:List Nat):∀x,x∈[Ob.vec 1 (dN l)]->dI x:=by
 intro x hx
 simp only[aT]at hx
 subst hx
 intro e he c hc
 obtain⟨k,_,rfl⟩:=bM.1 he
 simp only[aT]at hc
 exact⟨_,hc⟩
theorem Q1(x A B:E)(a:Ty)(hA:Ask B [.mk A.at (.list [x,A,B]) []] a)(hx:x.at=[114,101,99]):∀(n:Nat) (v w:Vl),v.nodes<=n->v.nodes<=200->w.nodes<=200->v.fy 100->w.fy 100->eS 100 v (.list [x,A,B],[])=true->eS 100 w (.list [x,A,B],[])=true ->
 aq Tryz.prog 25 [(Ty.rc a).av,v.cJ,w.cJ] [] (di (GH (nn n a v w)) [.vec 1 (dN (nn n a v w).1)])
 |0,v,w,h,_,_,_,_,_,_=>by have:=cB v;omega
 |
  n+1,v,w,h,hn,hn',hb,hb',hv,hv'=>by
  refine RN _ _ _ ((aF _).mpr trivial) ((aP _).mpr trivial) ((aP _).mpr trivial) ?_
  have t1:=eZ v hb
  have t2:=eZ w hb'
  have k1:=qv (a:=a) (v:=v)
  have k2:=qv (a:=a) (v:=w)
  unfold Qq
  refine aj (BL v (by omega)) ?_
  simp only[↓zq,zs,ae,zt]
  refine aj (BL w (by omega)) ?_
  simp only[↓zq,zs,ae,zt]
  refine⟨fun he=>?_,fun hne=>?_⟩
  ·have:v=w:=n0 hb hb' (by simpa using he)
   subst this
   rw[Ee]
   exact⟨rfl,rfl⟩
  refine aj (JG 100 v x A B a hA hx hv (by omega)) ?_
  simp only[↓zq,zs,ae,zt]
  refine aj (JG 100 w x A B a hA hx hv' (by omega)) ?_
  simp only[↓zq,zs,ae,zt,dV]
  rw[nn,BP]
  refine⟨fun hl=>?_,fun hl=>?_⟩
  ·rw[if_pos (by first|omega|(simp at hl;omega))]
   exact⟨rfl,rfl⟩
  have hl:(kids a v).length=(kids a w).length:=by first|omega|(simp at hl;omega)
  rw[if_neg (by omega)]
  have hloop:=H2 a (kids a v) (kids a w) (by omega) hl (fun h hh=>rZ hb hn hh) (fun h hh=>rZ hb' hn' hh) v.cf w.cf (kids a v).length 0 [] (by omega) (by simp)
  rw[a7,a7,aS]at hloop
  refine cC hloop ?_
  simp only[↓zq,zs,ae,zt,ae,aH,dV,aF,fQ]
  have hbd:=nq (kids a v) (kids a w) 0
  generalize hD:fG (kids a v) (kids a w) 0=D at hbd |-
  match D,hbd with
  |[],hbd=>exact⟨fun _=>⟨rfl,rfl⟩,fun h=>by simp at h⟩
  |k::k2::D,hbd=>exact⟨fun _=>⟨rfl,rfl⟩,fun h=>by simp at h;omega⟩
  |
   [k],hbd =>
   obtain⟨_,b1,b2⟩:=hbd k ak
   have b1:k<(kids a v).length:=by omega
   have b2:k<(kids a w).length:=by omega
   obtain⟨e1,m1⟩:=pY b1
   obtain⟨e2,m2⟩:=pY b2
   refine⟨fun h=>by simp at h,fun _=>?_⟩
   have g0:((dN [k]).getD 0 []).getD 0 .any=.v (.int .i64 (k:Int)):=rfl
   have g00:((dN [k]).getD 0 []).length=1:=rfl
   have p2:=xL hb hn (en hb' m2).2 (by have:=fT m2;omega) m1
   simp only[g0,g00,↓zq,zs,ae,zt,vQ,bx,jL b1,jL b2,aP,dV,aw,aE]
   repeat refine⟨by omega,?_⟩
   refine aj (Pg a (kids a v)[k].1 (kids a w)[k].2 (by rw[<-e1];exact Am m1)) ?_
   simp only[↓zq,zs,ae,zt,aP]
   rw[e1,e2]at p2
   refine aj (BL _ p2) ?_
   simp only[↓zq,zs,ae,zt,aP,e1,e2]
   refine⟨fun hne=>?_,fun he=>?_⟩
   ·rw[if_neg (by simpa using hne)]
    exact⟨rfl,rfl⟩
   ·rw[if_pos (by simpa using he)]
    repeat refine⟨by omega,?_⟩
    rw[e1]at m1;rw[e2]at m2
    have s1:=fT m1
    have s2:=fT m2
    have hlen:=lV n a (kids a v)[k].2 (kids a w)[k].2 (by omega)
    refine aY (Q1 x A B a hA hx n (kids a v)[k].2 (kids a w)[k].2 (by omega) (by omega) (by omega) (en hb m1).2 (en hb' m2).2 (nF hA .nil hx hv m1) (nF hA .nil hx hv' m2)) ?_
    simp only[↓zq,zs,ae,zt,aH,fQ,aK,bB]
    refine⟨jz _,⟨nT _,by omega⟩,rfl,rfl⟩
end Go.Proofs.Trees
namespace Go.Proofs.Trees
open Go Go.VL Go.RowKit
def Lg:List Nat->Int
 |[]=>-1
 |k::_=>(k:Int)
abbrev zo:Ob:=.cells [.v (.slice none 0 0),.v (.string (mk [])),.v (.string (mk []))]
abbrev B6(o n:List UInt8):Ob:=.cells [.any,.v (.string (mk o)),.v (.string (mk n))]
def mJ(s:List UInt8)(te:E)(l r:List Hl)(o n:List UInt8)(D:List Nat):Nat×List AV×List Ob :=
 if D.length<=1 then(1,[.v (.string (mk s)),.sl (kG l),.sl (kG r),.v (.int .i64 (Lg D))],[.cells [.v (.string (mk [])),te.sp],zo,B6 o n,.vec 1 []])
 else(2,[],[B6 o n,.vec 1 []])
theorem IA(s:List UInt8)(te:E)(l r:List Hl)(hl:l.length<=1000)(hlr:l.length=r.length)(h1:∀h,h∈l->h.2.cf.length<=900000)(h2:∀h,h∈r->h.2.cf.length<=900000)(o n:List UInt8):∀(k i:Nat) (cur:List Nat),i+k=l.length->cur.length<=1->(∀j,j∈cur->j<=1000) ->
 ES [.v (.string (mk s)),.sl (kG l),.sl (kG r),.v (.int .i64 (Lg cur)),.v (.int .i64 (i:Int))] [.cells [.v (.string (mk [])),te.sp],zo,B6 o n,.vec 1 []] (oB (mJ s te l r o n (cur++fG (l.drop i) (r.drop i) i)))
 |
  0,i,cur,hi,hc,hj=>by
  refine Ij _ _ _ _ _ _ _ _ _ _ _ _ _ ?_
  have:i=l.length:=by omega
  subst this
  simp only[EH,↓zq,zs,ae,eg,aX,ae,List.drop_length]
  refine⟨fun h=>by omega,fun _=>?_⟩
  rw[show cur++fG [] (r.drop l.length) l.length=cur by simp[fG],mJ,if_pos hc]
 |
  k+1,i,cur,hi,hc,hj=>by
  have hlt:i<l.length:=by omega
  have hlt':i<r.length:=by omega
  have ht1:=En (l[i]).2.cI (jh _) (h1 _ (bn hlt))
  have ht2:=En (r[i]).2.cI (jh _) (h2 _ (bn hlt'))
  rw[cT]at ht1 ht2
  refine Ij _ _ _ _ _ _ _ _ _ _ _ _ _ ?_
  simp only[EH,↓zq,zs,ae,zt,eg,aX,ae,bC,eN hlt,eN hlt']
  refine⟨fun _=>⟨fun _=>?_,fun h=>by simp at h;omega⟩,fun h=>by omega⟩
  repeat refine⟨by omega,?_⟩
  refine aj ht1 ?_
  simp only[↓zq,zs,ae,zt]
  repeat refine⟨by omega,?_⟩
  refine aj ht2 ?_
  simp only[↓zq,zs,ae,zt]
  rw[tH l r hlt hlt',bD i (by omega)]
  refine⟨fun hne=>?_,fun he=>?_⟩
  ·rw[if_neg (by simpa using hne)]
   match cur,hc,hj with
   |
    [],hc,hj =>
    refine⟨fun h=>by simp[Lg]at h,fun _=>?_⟩
    have:=IA s te l r hl hlr h1 h2 o n k (i+1) [i] (by omega) (by simp) (by simp;omega)
    exact this
   |
    [j],hc,hj =>
    refine⟨fun _=>?_,fun h=>by simp[Lg]at h⟩
    rw[mJ,if_neg (by simp)]
  ·rw[if_pos (by simpa using he)]
   exact IA s te l r hl hlr h1 h2 o n k (i+1) cur (by omega) hc hj
theorem SC(s:List UInt8)(te:E)(l r:List Hl)(hlr:l.length≠r.length)(o n:List UInt8) :
 ES [.v (.string (mk s)),.sl (kG l),.sl (kG r),.v (.int .i64 (-1)),.v (.int .i64 0)] [.cells [.v (.string (mk [])),te.sp],zo,B6 o n,.vec 1 []] (oB (mJ s te l r o n [])):=by
 refine Ij _ _ _ _ _ _ _ _ _ _ _ _ _ ?_
 simp only[EH,↓zq,zs,ae,zt,eg,aX,ae,bC]
 exact⟨fun _=>⟨fun h=>by omega,fun _=>rfl⟩,fun _=>rfl⟩
theorem OY(x A B:E)(a:Ty)(hA:Ask B [.mk A.at (.list [x,A,B]) []] a)(hx:x.at=[114,101,99]):∀(n:Nat) (v w:Vl),v.nodes<=n->v.nodes<=200->w.nodes<=200->v.fy 100->w.fy 100->eS 100 v (.list [x,A,B],[])=true->eS 100 w (.list [x,A,B],[])=true ->
 aq Tryz.prog 29 [.agg [.v (.string (mk [])),(E.list [x,A,B]).sp],.agg [.v (.string (mk v.cI.at)),v.cI.sp],.agg [.v (.string (mk w.cI.at)),w.cI.sp]] [] (di (GH (nn n a v w)) [.vec 1 (dN (nn n a v w).1)])
 |0,v,w,h,_,_,_,_,_,_=>by have:=cB v;omega
 |
  n+1,v,w,h,hn,hn',hb,hb',hv,hv'=>by
  have t1:=eZ v hb
  have t2:=eZ w hb'
  have k1:=qv (a:=a) (v:=v)
  have k2:=qv (a:=a) (v:=w)
  obtain⟨v0,rfl,hv0⟩:=mL .nil hx hv
  obtain⟨w0,rfl,hw0⟩:=mL .nil hx hv'
  have hP:=P3.of x A B
  have hV:=P2.of (.atom [102]) v0.cI
  have hW:=P2.of (.atom [102]) w0.cI
  have x1:=En (Vl.f v0).cI (jh _) (show (Vl.f v0).cf.length<=900000 by omega)
  have x2:=En (Vl.f w0).cI (jh _) (show (Vl.f w0).cf.length<=900000 by omega)
  have y1:=FK 100 (.f v0) x A B a hA hx v0 rfl hv (by omega)
  have y2:=FK 100 (.f w0) x A B a hA hx w0 rfl hv' (by omega)
  rw[cT]at x1 x2
  refine SN _ _ _ _ _ _ ((aX _).mpr trivial) ((aX _).mpr trivial) ((aX _).mpr trivial) ?_
  unfold MT
  refine aj x1 ?_
  simp only[↓zq,zs,ae,zt]
  refine aj x2 ?_
  simp only[Vl.cI,bL,toNat_one,bj,↓zq,zs,ae,zt,hP.1,hP.2.1,hP.2.2.1,hP.2.2.2,hV.1,hV.2.1,hV.2.2,hW.1,hW.2.1,hW.2.2,aL]
  repeat refine⟨by omega,?_⟩
  refine aj y1 ?_
  simp only[↓zq,zs,ae,zt]
  repeat refine⟨by omega,?_⟩
  refine aj y2 ?_
  simp only[↓zq,zs,ae,zt]
  rw[nn,BP]
  have whole:∀D:List Nat,D=[]->mJ A.at (.list [x,A,B]) (kids a (.f v0)) (kids a (.f w0)) (Vl.f v0).cf (Vl.f w0).cf D=(1,[.v (.string (mk A.at)),.sl (kG (kids a (.f v0))),.sl (kG (kids a (.f w0))),.v (.int .i64 (-1))],[.cells [.v (.string (mk [])),(E.list [x,A,B]).sp],zo,B6 (Vl.f v0).cf (Vl.f w0).cf,.vec 1 []]):=by
   rintro D rfl;rfl
  by_cases hl:(kids a (.f v0)).length=(kids a (.f w0)).length
  ·rw[if_neg (by omega)]
   have hloop:=IA A.at (.list [x,A,B]) (kids a (.f v0)) (kids a (.f w0)) (by omega) hl (fun h hh=>rZ hb hn hh) (fun h hh=>rZ hb' hn' hh) (Vl.f v0).cf (Vl.f w0).cf (kids a (.f v0)).length 0 [] (by omega) (by simp) (fun j hj=>by cases hj)
   rw[a7,a7,aS]at hloop
   have hbd:=nq (kids a (.f v0)) (kids a (.f w0)) 0
   generalize hD:fG (kids a (.f v0)) (kids a (.f w0)) 0=D at hbd hloop |-
   match D,hbd with
   |
    [],hbd =>
    refine eJ hloop (fun ys o e=>?_) (fun ys o e=>?_)
    ·rw[whole [] rfl]at e
     cases e
     simp only[↓zq,zs,ae,zt,ae,aH,aX]
     exact⟨fun _=>⟨rfl,rfl⟩,fun h=>by omega⟩
    ·rw[whole [] rfl]at e;cases e
   |
    k::k2::D,hbd =>
    refine eJ hloop (fun ys o e=>?_) (fun ys o e=>?_)
    ·rw[mJ,if_neg (by simp)]at e;cases e
    ·rw[mJ,if_neg (by simp)]at e
     cases e
     simp only[↓zq,zs,ae,zt,ae,aH,aX]
     exact⟨rfl,rfl⟩
   |
    [k],hbd =>
    obtain⟨_,b1,b2⟩:=hbd k ak
    have b1:k<(kids a (.f v0)).length:=by omega
    have b2:k<(kids a (.f w0)).length:=by omega
    obtain⟨e1,m1⟩:=pY b1
    obtain⟨e2,m2⟩:=pY b2
    have p2:=xL hb hn (en hb' m2).2 (by have:=fT m2;omega) m1
    refine eJ hloop (fun ys o e=>?_) (fun ys o e=>?_)
    ·rw[mJ,if_pos (by simp)]at e
     cases e
     simp only[↓zq,zs,ae,zt,ae,aH,aX,Lg,bj,hP.1,hP.2.1,hP.2.2.1,hP.2.2.2,eg,eN b1,eN b2,bx,aL,j2]
     refine⟨fun h=>by omega,fun _=>?_⟩
     repeat refine⟨by omega,?_⟩
     refine aj (Fs (kids a (.f v0))[k].1.nodes (kids a (.f v0))[k].1 (au _) B _ a hA (by rw[<-e1];exact Am m1) A.at (kids a (.f w0))[k].2) ?_
     simp only[↓zq,zs,ae,zt,aL]
     repeat refine⟨by omega,?_⟩
     refine aj (xS _ _) ?_
     simp only[↓zq,zs,ae,zt,aL]
     repeat refine⟨by omega,?_⟩
     rw[e1,e2]at p2
     have htx:=En (Vl.f (cx a (kids a (.f v0))[k].1 (kids a (.f w0))[k].2)).cI (jh _) p2
     rw[cT]at htx
     simp only[Vl.cI,bL]at htx
     refine aj htx ?_
     simp only[↓zq,zs,ae,zt,aX,e1,e2,eg,eN b1,eN b2,bx,aL,j2]
     refine⟨fun hne=>?_,fun he=>?_⟩
     ·have hne':¬(Vl.f (cx a (kids a (.f v0))[k].1 (kids a (.f w0))[k].2)).cf=(Vl.f w0).cf:=hne
      rw[if_neg hne']
      exact⟨rfl,rfl⟩
     ·have he':(Vl.f (cx a (kids a (.f v0))[k].1 (kids a (.f w0))[k].2)).cf=(Vl.f w0).cf:=he
      rw[if_pos he']
      repeat refine⟨by omega,?_⟩
      rw[e1]at m1;rw[e2]at m2
      have s1:=fT m1
      have s2:=fT m2
      have hlen:=lV n a (kids a (.f v0))[k].2 (kids a (.f w0))[k].2 (by omega)
      refine aY (OY x A B a hA hx n (kids a (.f v0))[k].2 (kids a (.f w0))[k].2 (by omega) (by omega) (by omega) (en hb m1).2 (en hb' m2).2 (nF hA .nil hx hv m1) (nF hA .nil hx hv' m2)) ?_
      simp only[↓zq,zs,ae,zt,aH,fQ,Ob.es,aK,bB]
      refine⟨jz _,⟨nT _,by omega⟩,rfl,rfl⟩
    ·rw[mJ,if_pos (by simp)]at e;cases e
  ·rw[if_pos hl]
   refine eJ (SC A.at (.list [x,A,B]) (kids a (.f v0)) (kids a (.f w0)) hl (Vl.f v0).cf (Vl.f w0).cf) (fun ys o e=>?_) (fun ys o e=>?_)
   ·rw[whole [] rfl]at e
    cases e
    simp only[↓zq,zs,ae,zt,ae,aH,aX]
    exact⟨fun _=>⟨rfl,rfl⟩,fun h=>by omega⟩
   ·rw[whole [] rfl]at e;cases e
end Go.Proofs.Trees
namespace Go.Proofs.Trees
open Go Go.VL Go.RowKit
def gM(s a b:List UInt8):Option KH:=match gD s,gA s a,gA s b with
 |some t,some v,some w=>some (nn v.nodes t v w)
 |_,_,_=>none
def nO:Option KH->List Nat×List UInt8×List UInt8
 |some r=>(r.1,r.2.1.cf,r.2.2.cf)
 |none=>([],[],[])
theorem xI(s a b:List UInt8):(nO (gM s a b)).1.length<=1000:=by
 unfold gM
 split
 ·rename_i t v w h1 h2 h3
  obtain⟨a',x,A,B,L⟩:=iM h2
  have:=lV v.nodes t v w (au _)
  have:=L.nodes
  show (nn v.nodes t v w).1.length<=1000
  omega
 ·simp[nO]
theorem DJ{s a b:List UInt8}{v w:Vl}(h:gA s a=some v)(h':gA s b=some w):∃t x A B,LV s a v t x A B/\LV s b w t x A B:=by
 obtain⟨t,x,A,B,L⟩:=iM h
 obtain⟨t',x',A',B',L'⟩:=iM h'
 have e1:=L.l
 rw[L'.l]at e1
 have e2:=L.ce
 rw[L'.ce]at e2
 cases e1;cases e2
 exact⟨_,_,_,_,L,L'⟩
theorem Tc(s a b:List UInt8):aq Tryz.prog 7 [.v (.string (mk s)),.v (.string (mk a)),.v (.string (mk b))] [] (di (.cm [.agg [.vec 0,.v (.string (mk (nO (gM s a b)).2.1)),.v (.string (mk (nO (gM s a b)).2.2))],.v (.bool (gM s a b).isSome)]) [.vec 1 (dN (nO (gM s a b)).1)]):=by
 refine TU _ _ _ ?_
 unfold QO
 refine aj (Jn s a) ?_
 have hlt:LK.has .ptr (Dn s)=True:=by unfold Dn;split<;>simp[aF,ig]
 simp only[↓zq,zs,ae,zt,hlt,fW]
 refine aj (Jn s b) ?_
 simp only[↓zq,zs,ae,zt,hlt,fW]
 cases h1:gA s a with
 |
  none =>
  have:gM s a b=none:=by unfold gM;rw[h1];cases gD s<;>rfl
  rw[this]
  simp only[je,↓zq,zs,ae]
  exact⟨fun _=>⟨rfl,rfl⟩,fun h=>by cases h⟩
 |
  some v =>
  cases h2:gA s b with
  |
   none =>
   have:gM s a b=none:=by unfold gM;rw[h1,h2];cases gD s<;>rfl
   rw[this]
   simp only[je,↓zq,zs,ae,fB]
   exact⟨fun h=>by simp at h,fun _=>⟨fun _=>⟨rfl,rfl⟩,fun h=>by simp at h⟩⟩
  |
   some w =>
   obtain⟨t,x,A,B,L,L'⟩:=DJ h1 h2
   have e:gM s a b=some (nn v.nodes t v w):=by unfold gM;rw[h1,h2,L.l]
   have ht:Dn s=(Ty.rc t).av:=by unfold Dn;rw[L.l]
   rw[e,ht]
   have hlen:=lV v.nodes t v w (au _)
   simp only[je,↓zq,zs,ae,fB]
   refine⟨fun h=>by simp at h,fun _=>⟨fun h=>by simp at h,fun _=>?_⟩⟩
   refine aY (Q1 x A B t L.body L.hx v.nodes v w (au _) L.nodes L'.nodes L.fy L'.fy L.eS L'.eS) ?_
   simp only[↓zq,zs,ae,zt,aH]
   exact⟨jz _,rfl,rfl⟩
theorem RP(s a b:List UInt8):aq Tryz.prog 8 [.v (.string (mk s)),.v (.string (mk a)),.v (.string (mk b))] [] (di (.cm [.agg [.vec 0,.v (.string (mk (nO (gM s a b)).2.1)),.v (.string (mk (nO (gM s a b)).2.2))],.v (.bool (gM s a b).isSome)]) [.vec 1 (dN (nO (gM s a b)).1)]):=by
 refine Tw _ _ _ ?_
 unfold LS
 refine aQ (DU s) (iT.ne _ _ (fun h=>h)) ?_
 rintro r o ⟨c,d,hd,rfl,hh⟩
 have hhas:bC [.str,.sl] [.v (.string (mk c)),d] 0:=by simp[bC,dD,hd]
 simp only[↓zq,zs,ae,zt]
 have none1:gM s a b=none->di (.cm [.agg [.vec 0,.v (.string (mk (nO (gM s a b)).2.1)),.v (.string (mk (nO (gM s a b)).2.2))],.v (.bool (gM s a b).isSome)]) [.vec 1 (dN (nO (gM s a b)).1)] (.cm [.agg [.vec 0,.v (.string (mk [])),.v (.string (mk []))],.v (.bool false)]) [.vec 1 []]:=fun h=>by rw[h];exact⟨rfl,rfl⟩
 refine⟨hhas,fun h=>none1 ?_,fun h=>?_⟩
 ·rw[nN]at h
  have:gD s=none:=by cases hq:gD s<;>simp[hq]at h |-
  unfold gM;rw[this]
 rw[nN]at h
 have hsome:∀v,(mn s v 100).isSome=false->gA s v=none:=fun v h2=>by
  have:mn s v 100=none:=by cases hq:mn s v 100<;>simp[hq]at h2 |-
  unfold gA;rw[this];cases gD s<;>rfl
 refine aj (F7 s a 100) ?_
 simp only[↓zq,zs,ae]
 refine⟨fun h2=>none1 ?_,fun h2=>?_⟩
 ·unfold gM;rw[hsome a h2];cases gD s<;>rfl
 refine aj (F7 s b 100) ?_
 simp only[↓zq,zs,ae]
 refine⟨fun h3=>none1 ?_,fun h3=>?_⟩
 ·unfold gM;rw[hsome b h3];cases gD s<;>cases gA s a<;>rfl
 obtain⟨v,hv⟩:=bb.1 h2
 obtain⟨w,hw⟩:=bb.1 h3
 obtain⟨a0,ha0⟩:=bb.1 h
 have h1:gA s a=some v:=by unfold gA;rw[ha0];exact hv
 have h2:gA s b=some w:=by unfold gA;rw[ha0];exact hw
 obtain⟨t,x,A,B,L,L'⟩:=DJ h1 h2
 have e:gM s a b=some (nn v.nodes t v w):=by unfold gM;rw[h1,h2,L.l]
 have hlen:=lV v.nodes t v w (au _)
 refine aQ (Jr a) (iT.ne _ _ (fun h=>by cases hq:rM a<;>simp[hq]at h |-)) ?_
 rintro r o ⟨c',d',hd',rfl,hh'⟩
 have hhas':bC [.str,.sl] [.v (.string (mk c')),d'] 0:=by simp[bC,dD,hd']
 simp only[↓zq,zs,ae,zt]
 refine⟨hhas',?_⟩
 refine aQ (Jr b) (iT.ne _ _ (fun h=>by cases hq:rM b<;>simp[hq]at h |-)) ?_
 rintro r o ⟨c2,d2,hd2,rfl,hh2⟩
 have hhas2:bC [.str,.sl] [.v (.string (mk c2)),d2] 0:=by simp[bC,dD,hd2]
 simp only[↓zq,zs,ae,zt]
 refine⟨hhas2,?_⟩
 obtain⟨e0,he0,hc0⟩:=hh (by rw[L.le];rfl)
 rw[L.le]at he0;cases he0
 obtain⟨e1,he1,hc1⟩:=hh' (by rw[L.v];rfl)
 rw[L.v]at he1;cases he1
 obtain⟨e2,he2,hc2⟩:=hh2 (by rw[L'.v];rfl)
 rw[L'.v]at he2;cases he2
 rw[cT]at hc0 hc1 hc2
 simp only[bL]at hc0
 rw[hc0,hc1,hc2,e]
 refine aY (OY x A B t L.body L.hx v.nodes v w (au _) L.nodes L'.nodes L.fy L'.fy L.eS L'.eS) ?_
 simp only[↓zq,zs,ae,zt,aH]
 exact⟨jz _,rfl,rfl⟩
end Go.Proofs.Trees
namespace Go.Proofs.Trees
open Go Go.VL Go.RowKit
def t3:AV->Prop:=fun r=>∃s c v:Nm,r=.cm [.v (.string (mk s)),.v (.string (mk c)),.v (.string (mk v))]
theorem RB(b:AV)(l:List UInt8)(hb:tT b l):aq Tryz.prog 22 [.ref 0 0] [.cells [b,.v (.int .i64 0)]] (e9 b 0 1000000000000 t3):=by
 refine SP _ _ hb.has ?_
 unfold MH
 have hfar:rl=1000000000000000:=rfl
 refine aQ (Tv b l hb 0 (by omega)) (e9.ne ⟨[],[],rfl⟩) ?_
 rintro r o ⟨q,a1,a2,⟨s,t,rfl⟩,rfl⟩
 simp only[↓zq,zs,ae,zt,aH,hb.has]
 refine aj (T6 s t) ?_
 simp only[↓zq,zs,ae,zt,aH,hb.has,km]
 have pk:∀(q n:Nat),q<=1000000000000->n<=2000->aq Tryz.prog 45 [.ref 0 0,.v (.int .i64 (n:Int))] [.cells [b,.v (.int .i64 (q:Int))]] (e9 b q 1 (isNum n)):=fun q n h1 h2=>xQ b l hb q n (by omega) (by omega)
 have ne:∀(q n:Nat),∃r o,e9 b q 1 (isNum n) r o:=fun q n=>e9.ne ⟨0,rfl,fun h=>by omega,by omega⟩
 have vl:∀(q:Nat),q<=900000000000->aq Tryz.prog 50 [.ref 0 0,.v (.string (mk s))] [.cells [b,.v (.int .i64 (q:Int))]] (e9 b q 40000000000 (gr 40000000000)):=fun q h1=>G5 b l hb q (by omega) s
 have vne:∀(q:Nat),∃r o,e9 b q 40000000000 (gr 40000000000) r o:=fun q=>e9.ne ⟨[],rfl,by simp⟩
 refine⟨fun hs=>?_,fun hs=>?_⟩
 ·obtain⟨ps,hp⟩:=bb.1 hs
  obtain⟨w,l',_,hl'⟩:=xb hp
  have hpl:=(tj hp).1
  refine aQ (pk q 5 (by omega) (by omega)) (ne q 5) ?_
  rintro r o ⟨q1,b1,b2,⟨k,rfl,_,_⟩,rfl⟩
  simp only[↓zq,zs,ae,zt,aH,hb.has,hp,cE,km]
  refine⟨fun _=>?_,fun _=>?_⟩
  ·refine aQ (pk q1 ps.length (by omega) (by omega)) (ne q1 _) ?_
   rintro r o ⟨q2,c1,c2,⟨k2,rfl,hk,_⟩,rfl⟩
   have hk:=hk (by rw[hl'];simp)
   simp only[↓zq,zs,ae,zt,aH,hb.has,km,bx,Fl _ hk,eq_true (GG (ps[k2]).2).1]
   repeat refine⟨by omega,?_⟩
   refine aQ (NH s t _ _ (GG (ps[k2]).2)) (Es.ne _ _) ?_
   rintro r o ⟨rfl,w1,hw1,rfl⟩
   simp only[↓zq,zs,ae,zt,bC]
   refine⟨hw1.1,aQ (vl q2 (by omega)) (vne q2) ?_⟩
   rintro r o ⟨q3,d1,d2,⟨g,rfl,_⟩,rfl⟩
   simp only[↓zq,zs,ae,zt,aH,hb.has]
   refine aY (Ni _ w1 _ hw1 _ g) ?_
   simp only[↓zq,zs,ae,zt,aH,Ob.es,aK]
   refine⟨cW _,?_⟩
   have hcl:=fun(u:Nm×List Nm×Nm)=>Lc u.1 (.sl (bW u.2.1)) u.2.1 (cN.of _) u.2.2
   simp only[kf]at hcl
   refine aj (hcl _) ?_
   simp only[↓zq,zs,ae,zt]
   have leaf:fC Tryz.prog 73 (.call 50 [.ref 0 0,.v (.string (mk s))] [.cells [b,.v (.int .i64 (q3:Int))]] fun r9 o9=>.ai ((o9.headD .dead)=.cells (o9.headD .dead).cs)<|.ai (LK.sl.has ((o9.headD .dead).cs.getD 0 .any)/\(LK.int .i64).has ((o9.headD .dead).cs.getD (0+1) .any)/\(o9.headD .dead).cs.length=0+1+1)<|.ai (LK.has .str r9)<|.done 0 [.cm [.v (.string (mk s)),.v (.string (mk t)),.v (.string r9.toStr)]] [.cells [((o9.headD .dead).cs.getD 0 .any),.v (.int .i64 (((o9.headD .dead).cs.getD 1 .any).toInt))]]) (fun _ xs obs=>e9 b 0 1000000000000 t3 (xs.headD .any) obs):=by
    refine aQ (vl q3 (by omega)) (vne q3) ?_
    rintro r o ⟨q4,e1,e2,⟨g2,rfl,_⟩,rfl⟩
    simp only[↓zq,zs,ae,zt,aH,hb.has]
    exact⟨q4,by omega,by omega,⟨s,t,g2,rfl⟩,rfl⟩
   refine⟨fun _=>⟨fun _=>⟨fun _=>⟨q3,by omega,by omega,⟨s,t,_,rfl⟩,rfl⟩,fun _=>leaf⟩,fun _=>leaf⟩,fun _=>leaf⟩
  ·refine aQ (vl q1 (by omega)) (vne q1) ?_
   rintro r o ⟨q4,e1,e2,⟨g2,rfl,_⟩,rfl⟩
   simp only[↓zq,zs,ae,zt,aH,hb.has]
   exact⟨q4,by omega,by omega,⟨s,t,g2,rfl⟩,rfl⟩
 ·refine aQ (vl q (by omega)) (vne q) ?_
  rintro r o ⟨q4,e1,e2,⟨g2,rfl,_⟩,rfl⟩
  simp only[↓zq,zs,ae,zt,aH,hb.has]
  exact⟨q4,by omega,by omega,⟨s,t,g2,rfl⟩,rfl⟩
end Go.Proofs.Trees
namespace Go.Proofs.Trees
open Go Go.VL Go.RowKit
def Cg(x:Nm)(i:Nat)(tg tg':Tg):Prop:=(tg=.bd i/\tg'=.nm x)\/(∃s,s≠x/\tg=.nm s/\tg'=.nm s)\/∃j,j<i/\tg=.bd j/\tg'=.bd j
theorem Cg.up{x:Nm}{i:Nat}{tg tg':Tg}(h:Cg x i tg tg'):Cg x (i+1) tg.up tg'.up:=by
 rcases h with⟨rfl,rfl⟩|⟨s,h,rfl,rfl⟩|⟨j,h,rfl,rfl⟩
 ·exact .inl ⟨rfl,rfl⟩
 ·exact .inr (.inl ⟨s,h,rfl,rfl⟩)
 ·exact .inr (.inr ⟨j+1,by omega,rfl,rfl⟩)
theorem Dr{x:Nm}{i:Nat}{tg tg':Tg}(h:Cg x i tg tg')(t:Ty)(hx:bz x t=false):dY (dH (.name x) t i) tg'=dY t tg:=by
 cases t with
 |
  bound k =>
  simp only[dH]
  rcases h with⟨rfl,rfl⟩|⟨s,h,rfl,rfl⟩|⟨j,h,rfl,rfl⟩
  ·split
   ·rename_i e;simp[dY,e]
   ·rename_i e;simp[dY,e]
  ·split
   ·simp[dY,Ne.symm h]
   ·simp[dY]
  ·split
   ·rename_i e;simp only[dY];exact(decide_eq_false (by omega)).symm
   ·simp[dY]
 |
  name n =>
  have hn:¬n=x:=by simpa[bz]using hx
  rcases h with⟨rfl,rfl⟩|⟨s,h,rfl,rfl⟩|⟨j,h,rfl,rfl⟩<;>simp[dH,dY,hn]
 |_=>rcases h with⟨rfl,rfl⟩|⟨s,h,rfl,rfl⟩|⟨j,h,rfl,rfl⟩<;>rfl
theorem fY(x:Nm):∀(n:Nat) (t:Ty) (i:Nat) (tg tg':Tg) (v:Vl),bz x t=false->Cg x i tg tg'->dA n (dH (.name x) t i) tg' v=dA n t tg v
 |0,_,_,_,_,_,_,_=>rfl
 |
  n+1,t,i,tg,tg',v,hx,hr=>by
  rw[dA,dA,Dr hr t hx]
  split
  ·rfl
  ·cases t with
   |
    plus a b =>
    simp only[bz,ct]at hx
    cases v with
    |l w=>exact congrArg (fw .l) (fY x n a i tg tg' w hx.1 hr)
    |r w=>exact congrArg (fw .r) (fY x n b i tg tg' w hx.2 hr)
    |_=>rfl
   |
    times a b =>
    simp only[bz,ct]at hx
    cases v with
    |
     p y z =>
     simp only[dH,jd]
     rw[fY x n a i tg tg' y hx.1 hr,fY x n b i tg tg' z hx.2 hr]
    |_=>rfl
   |
    rc a =>
    cases v with
    |
     f w =>
     simp only[dH,jd]
     rw[fY x n a (i+1) tg.up tg'.up w hx hr.up,fY x n a (i+1) (.bd 0) (.bd 0) w hx (.inr (.inr ⟨0,by omega,rfl,rfl⟩))]
     congr 1
     refine jy fun h hh=>?_
     have:=fY x n (.rc a) i tg tg' h.2 hx hr
     simp only[dH]at this
     rw[this]
    |_=>rfl
   |
    bound k =>
    simp only[dH]
    split<;>(cases v<;>rfl)
   |_=>rfl
theorem qP{g:Vl->Vl}{l:List Hl}{c v:Vl}(h:(c,v)∈l):(g c,v)∈fw g l:=bM.2 ⟨_,h,rfl⟩
theorem rk(n:Nat):∀(m:Nat) (c:Vl),c.nodes<=m->∀(t:Ty) (s:Nm) (d:Ty) (σ:Nm->Option Ty),Dv t s d->Et σ->j6 t 0->vT n c (fu σ d)=true->∀(v:Vl) (k:Nat),(cx t c v).nodes<=k->(c,v)∈dA k t (.nm s) (cx t c v)
 |0,c,h=>by have:=cB c;omega
 |
  m+1,c,hm=>by
  intro t s d σ hd hσ hl hv v k hk
  have no:∀c,vT n c .zero=false:=fun c=>by cases c<;>rfl
  obtain⟨k,rfl⟩:∃j,k=j+1:=⟨k-1,by have:=cB (cx t c v);omega⟩
  cases hd with
  |zero=>rw[show fu σ .zero=.zero from rfl,no]at hv;cases hv
  |one=>rw[show fu σ .zero=.zero from rfl,no]at hv;cases hv
  |bound=>rw[show fu σ .zero=.zero from rfl,no]at hv;cases hv
  |rK=>rw[show fu σ .zero=.zero from rfl,no]at hv;cases hv
  |
   hit =>
   have hc:c=.u:=by
    have hv:vT n c .one=true:=hv
    cases c<;>first|rfl|simp[vT]at hv
   rw[kq,dA,if_pos (by simp[dY]),hc];exact ak
  |
   plus h1 h2 _ =>
   rcases jT hv with⟨w,rfl,hw⟩|⟨w,rfl,hw⟩
   ·simp only[Vl.nodes]at hm
    rename_i a b _ _
    simp only[cx,Vl.nodes]at hk
    have:=rk n m w (by omega) _ s _ σ h1 hσ hl.1 hw v k (by omega)
    exact qP (g:=.l) this
   ·simp only[Vl.nodes]at hm
    simp only[cx,Vl.nodes]at hk
    have:=rk n m w (by omega) _ s _ σ h2 hσ hl.2 hw v k (by omega)
    exact qP (g:=.r) this
  |
   times h1 h2 _ =>
   rcases jT hv with⟨w,rfl,hw⟩|⟨w,rfl,hw⟩
   ·obtain⟨x,y,rfl,hx,hy⟩:=gW hw
    simp only[Vl.nodes]at hm
    simp only[cx,Vl.nodes]at hk
    have:=rk n m x (by omega) _ s _ σ h1 hσ hl.1 hx v k (by omega)
    exact aD _ (qP (g:=fun c=>.l (.p c y)) this)
   ·obtain⟨x,y,rfl,hx,hy⟩:=gW hw
    simp only[Vl.nodes]at hm
    simp only[cx,Vl.nodes]at hk
    have:=rk n m y (by omega) _ s _ σ h2 hσ hl.2 hy v k (by omega)
    exact aB _ (qP (g:=fun c=>.r (.p x c)) this)
  |
   @rc a _ c0 d0 x hx hs h1 h2 hsz =>
   have lo:j6 (dH (.name x) a 0) 0:=il x a hl
   obtain⟨X,e1,e2⟩:=pD (x:=x) hσ hl (h1.lc lo) (h2.lc lo)
   have hv':=hv
   rw[e1]at hv'
   obtain⟨w,rfl,hw⟩:=Em hv'
   rw[e2]at hw
   have hcl:=mQ hσ x (kF hσ (.rc a) hl)
   rcases jT hw with⟨y,rfl,hy⟩|⟨y,rfl,hy⟩
   ·simp only[Vl.nodes]at hm
    simp only[cx,Vl.nodes]at hk
    have:=rk n m y (by omega) _ s _ _ h1 hcl lo hy v k (by rw[dZ x y.nodes y a 0 v (au _)];omega)
    rw[dZ x y.nodes y a 0 v (au _),fY x k a 0 (.nm s) (.nm s) _ hx (.inr (.inl ⟨s,Ne.symm hs,rfl,rfl⟩))]at this
    exact aD _ (qP (g:=fun c=>.f (.l c)) this)
   ·obtain⟨y,z,rfl,hy,hz⟩:=gW hy
    simp only[Vl.nodes]at hm
    simp only[cx,Vl.nodes]at hk
    have q1:=rk n m y (by omega) _ x _ _ h2 hcl lo hy (cx (.rc a) z v) k (by rw[dZ x y.nodes y a 0 _ (au _)];omega)
    rw[dZ x y.nodes y a 0 _ (au _),fY x k a 0 (.bd 0) (.nm x) _ hx (.inl ⟨rfl,rfl⟩)]at q1
    have hsz2:=(fI k a (.bd 0) _ _ q1).1
    have q2:=rk n m z (by omega) (.rc a) s _ σ (.rc x hx hs h1 h2 hsz) hσ hl hz v k (by simp only at hsz2;omega)
    exact aB _ (dk.2 ⟨_,q1,qP (g:=fun c=>.f (.r (.p y c))) q2⟩)
theorem Ku{n:Nat}{a D:Ty}{x:Nm}(hx:bz x a=false)(hl:j6 (.rc a) 0)(h:pz a x=some D){c:Vl}(hc:vT n c D=true)(v:Vl):(c,v)∈kids a (.f (cx a c v)):=by
 simp only[pz,aW,cX,fq]at h
 obtain⟨d,hd,_,rfl⟩:=h
 have lo:j6 (dH (.name x) a 0) 0:=il x a hl
 have hcl:=mQ s3 x hl
 have e1:sub x (.rc a) d=fu (jF Gh x (.rc a)) d:=by
  have:=iY Gh x (.rc a) d
  rw[jI,jI]at this;exact this
 rw[e1]at hc
 have h1:=rk n c.nodes c (au _) _ x _ _ hd hcl lo hc v (cx a c v).nodes (by rw[dZ x c.nodes c a 0 v (au _)];omega)
 rw[dZ x c.nodes c a 0 v (au _),fY x _ a 0 (.bd 0) (.nm x) _ hx (.inl ⟨rfl,rfl⟩)]at h1
 exact h1
end Go.Proofs.Trees
namespace Go.Proofs.Trees
open Go Go.VL Go.RowKit
theorem ZT.hole{s d:Nm}{a:Ty}{x A B:E}{D:Ty}(z:ZT s d a x A B D){c:Nm}{w:Vl}(h:mn d c 100=some w)(v:Vl):(w,v)∈kids a (.f (cx a w v)):=by
 obtain⟨e,t,m,h1,h2,h3,h4,h5,h6,h7⟩:=qw h
 have hm:m=100:=by omega
 subst hm
 have:=vU h3
 rw[z.bk]at this;cases this
 rw[oq h4]at h7
 obtain⟨e2,he2,hw2,hte2,_,_⟩:=oU z.y
 have hlc:j6 (.rc a) 0:=hte2 ▸ hw2.rO.1
 exact Ku (vy z.y) hlc z.lp h7 v
end Go.Proofs.Trees
namespace Go.Proofs.Trees
open Go Go.VL Go.RowKit
theorem St.Dq{s d:Nm}{a:Ty}{l l':List Vl}{v w c:Vl}(h:St s d a l v)(hu:rY a l v=some (l',w))(hc:l=l'++[c]):w=.f (cx a c v)/\∃k:Nat,(kids a w)[k]?=some (c,v)/\G3 c.cf (kids a w) 0=(k:Int):=by
 obtain⟨x,A,B,D,z⟩:=h.z
 have h':=h.up hu
 obtain⟨_,_,c',hc',hw⟩:=tt h.i hu
 have e:c=c':=by rw[hc]at hc';exact List.singleton_inj.1 (List.append_cancel_left hc')
 subst e
 have hm:(c,v)∈kids a w:=by rw[hw];exact z.hole (h.each c (by rw[hc];simp)) v
 obtain⟨k,hk⟩:=List.getElem?_of_mem hm
 refine⟨hw,k,hk,?_⟩
 have:=xV (kids a w) 0 k _ (zF a w) (fun x hx=>(en h'.i.nH.fy hx).1) hk
 simpa using this
theorem St.Vo{s d:Nm}{a:Ty}{l:List Vl}{v w c:Vl}(h:St s d a l v){k:Hl}(hk:k∈kids a v)(hv:mn d k.1.cf 100=some k.1):k.1.nodes<=200:=by
 obtain⟨x,A,B,D,z⟩:=h.z
 obtain⟨t1,_,_⟩:=z.KJ h.i.nH hk
 rw[z.To (en h.i.nH.fy hk).1 t1]at hv
 split at hv
 ·assumption
 ·cases hv
theorem St.back{s d:Nm}{a:Ty}{l l':List Vl}{v w c:Vl}(h:St s d a l v)(hu:rY a l v=some (l',w))(hc:l=l'++[c]):rS a l' w (G3 c.cf (kids a w) 0)=some (l,v):=by
 obtain⟨_,k,hk,e⟩:=h.Dq hu hc
 have hlen:=h.len
 have hm:=List.mem_of_getElem? hk
 have hn:c.nodes<=200:=(h.up hu).Vo (w:=v) (c:=v) hm (h.each c (by rw[hc];simp))
 have hlt:k<(kids a w).length:=(List.getElem?_eq_some_iff.1 hk).1
 have hg:(kids a w).getD k (.u,.u)=(c,v):=by rw[aa,hk];rfl
 rw[e];unfold rS
 rw[if_neg (by rw[hc]at hlen;simp at hlen;omega),if_pos ⟨by omega,by simpa using hlt⟩,bx,hg,if_pos hn,hc]
theorem E6(a:Ty)(p:List Int)(k:Int)(o:ZO):vZ a (p++[k]) o=(vZ a p o).bind fun r=>rS a r.1 r.2 k:=by unfold vZ;rw[List.foldl_append];rfl
theorem Ed{s d:Nm}{a:Ty}:∀(n:Nat) (l:List Vl) (v w:Vl),l.length=n->St s d a l v->iR n a l v=some w->vZ a (tf n a l v) (some ([],w))=some (l,v)/\St s d a [] w/\(tf n a l v).length=n/\∀k,k∈tf n a l v->0<=k
 |
  0,l,v,w,hl,h,hc=>by
  have:l=[]:=bO hl
  subst this
  rw[iR]at hc;cases hc
  exact⟨rfl,h,rfl,fun k hk=>by cases hk⟩
 |
  n+1,l,v,w,hl,h,hc=>by
  have hne:l≠[]:=by rintro rfl;simp at hl
  have hlc:l=l.dropLast++[l.getLast hne]:=(List.dropLast_concat_getLast hne).symm
  obtain⟨w1,hu,_⟩:=Ez (n+1) l v hl (by rw[hc];rfl) _ _ hlc
  have hn:l.dropLast.length=n:=by rw[List.length_dropLast];omega
  rw[iR,hu]at hc
  obtain⟨g1,g2,g3,g4⟩:=Ed n l.dropLast w1 w hn (h.up hu) hc
  rw[zx n hu hlc]
  obtain⟨_,k,_,ek⟩:=h.Dq hu hlc
  refine⟨?_,g2,by simp[g3],fun x hx=>?_⟩
  ·rw[E6,g1];exact h.back hu hlc
  ·rcases aO.1 hx with hx|hx
   ·exact g4 x hx
   ·simp only[aT]at hx;rw[hx,ek];omega
theorem Bw{s:Nm}{p:List Nm}{f:Nm}{r:List Vl×Vl}(h:gU s p f=some r):∃d,cP s=some d/\St s d (zA s) r.1 r.2/\p=r.1.map (·.cf)/\f=r.2.cf/\∃w,qM (zA s) r.1 r.2=some w:=by
 obtain⟨h1,h2⟩:=gB (l:=r.1) (v:=r.2) h
 obtain⟨d,hd,hs,hp,hf⟩:=oS h1
 obtain⟨w,hw⟩:=bb.1 h2
 exact⟨d,hd,hs,hp,hf,w,hw⟩
end Go.Proofs.Trees
namespace Go.Proofs.Trees
open Go Go.VL Go.RowKit
theorem uq:∀(l r:List Hl) (i:Nat),hG l=hG r->fG l r i=[]
 |[],_,_,_=>by simp[fG]
 |_::_,[],_,h=>by simp at h
 |
  x::l,y::r,i,h=>by
  simp only[bo,List.cons.injEq]at h
  rw[fG,if_pos (by rw[h.1]),uq l r (i+1) h.2]
theorem ui:∀(A A':List Hl) (B B':List Hl) (c c' e ee:Vl) (i:Nat),hG A'=hG A->hG B'=hG B->¬e.cf=ee.cf->fG (A++(c,e)::B) (A'++(c',ee)::B') i=[i+A.length]
 |
  [],A',B,B',c,c',e,ee,i,hA,hB,hu=>by
  have:A'=[]:=by have:=vH hA;exact bO (by simpa using this)
  subst this
  simp only[aS,aE]
  rw[fG,if_neg hu,uq B B' _ hB.symm];rfl
 |x::A,[],B,B',c,c',e,ee,i,hA,hB,hu=>by simp at hA
 |
  x::A,y::A',B,B',c,c',e,ee,i,hA,hB,hu=>by
  simp only[bo,List.cons.injEq]at hA
  simp only[bf,aw]
  rw[fG,if_pos (by rw[hA.1]),ui A A' B B' c c' e ee (i+1) hA.2 hB hu]
  congr 1;omega
theorem E2{a:Ty}{v:Vl}{k:Nat}{q:Hl}(hk:(kids a v)[k]?=some q):∃A B,kids a v=A++q::B/\A.length=k/\∀x,∃A' B',kids a (.f (cx a q.1 x))=A'++(q.1,x)::B'/\hG A'=hG A/\hG B'=hG B:=by
 cases v with
 |
  f w =>
  have hk:(bR a (.bd 0) w)[k]?=some q:=hk
  obtain⟨hlt,he⟩:=List.getElem?_eq_some_iff.1 hk
  have hs:bR a (.bd 0) w=(bR a (.bd 0) w).take k++(q.1,q.2)::(bR a (.bd 0) w).drop (k+1):=by
   have:=List.take_append_drop k (bR a (.bd 0) w)
   rw[aM hlt,he]at this
   exact this.symm
  refine⟨_,_,hs,by rw[List.length_take];omega,fun x=>?_⟩
  exact(j3 w.nodes w (au _) a (.bd 0) _ _ q.1 q.2 hs x).1
 |_=>simp[kids]at hk
theorem zY{s d:Nm}{a:Ty}{x A B:E}{D:Ty}(z:ZT s d a x A B D):∀(pl:List Nat) (m:Nat) (v gg:Vl),Fo a v->Fo a (rep a v pl gg)->v.nodes<=m->rep a v pl gg≠v->∃t,(nn m a v (rep a v pl gg)).1=pl++t
 |[],m,v,gg,hv,hw,hm,hne=>⟨_,rfl⟩
 |k::pl,0,v,gg,hv,hw,hm,hne=>by have:=cB v;omega
 |
  k::pl,m+1,v,gg,hv,hw,hm,hne=>by
  cases hk:(kids a v)[k]? with
  |none=>exact absurd (by simp[rep,hk]) hne
  |
   some h =>
   have er:rep a v (k::pl) gg=.f (cx a h.1 (rep a h.2 pl gg)):=by simp[rep,hk]
   rw[er]at hw hne |-
   obtain⟨A,B,hA,hl,hB⟩:=E2 hk
   obtain⟨A',B',hA',eA,eB⟩:=hB (rep a h.2 pl gg)
   have mv:h∈kids a v:=List.mem_of_getElem? hk
   obtain⟨_,t2,t3⟩:=z.KJ hv mv
   have mw:(h.1,rep a h.2 pl gg)∈kids a (.f (cx a h.1 (rep a h.2 pl gg))):=by rw[hA'];simp
   obtain⟨_,u2,u3⟩:=z.KJ hw mw
   simp only at u2
   have hu:rep a h.2 pl gg≠h.2:=fun e=>hne (by rw[e];exact t3)
   have htx:¬h.2.cf=(rep a h.2 pl gg).cf:=fun e=>hu (n0 t2.fy u2.fy e).symm
   have hsz:=fT mv
   obtain⟨t,ht⟩:=zY z pl m h.2 gg t2 u2 (by omega) hu
   generalize rep a h.2 pl gg=ee at *
   have hl':A'.length=k:=by rw[vH eA,hl]
   have hlen:(kids a v).length=(kids a (.f (cx a h.1 ee))).length:=by
    rw[hA,hA'];simp[hl,hl',vH eB]
   have hd:fG (kids a v) (kids a (.f (cx a h.1 ee))) 0=[k]:=by
    rw[hA,hA',ui A A' B B' h.1 h.1 h.2 ee 0 eA eB htx,a8,hl]
   have g1:(kids a v).getD k tS=h:=by rw[aa,hk];rfl
   have g2:(kids a (.f (cx a h.1 ee))).getD k tS=(h.1,ee):=by
    rw[hA',aa,List.getElem?_append_right (by omega),hl',Nat.sub_self];rfl
   rw[nn,BP,if_neg (by omega),hd]
   simp only[g1,g2,if_true]
   exact⟨t,by rw[ht];rfl⟩
theorem zZ{a:Ty}:∀(pl:List Nat) (v gg:Vl),v.fy 100->gg.fy 100->(rep a v pl gg).fy 100
 |[],v,gg,hv,hg=>hg
 |
  k::pl,v,gg,hv,hg=>by
  cases hk:(kids a v)[k]? with
  |none=>simp only[rep,hk];exact hv
  |
   some h =>
   simp only[rep,hk]
   have hb:=en hv (List.mem_of_getElem? hk)
   exact ny 100 a h.1 _ hb.1 (zZ pl h.2 gg hb.2 hg)
theorem Ay{a:Ty}:∀(pl:List Int) (o:ZO) (r:List Vl×Vl),vZ a pl o=some r->∃path:List Nat,pl=path.map Int.ofNat
 |[],_,_,_=>⟨[],rfl⟩
 |
  k::pl,o,r,h=>by
  rw[mh]at h
  obtain⟨path,rfl⟩:=Ay pl _ r h
  cases q:o.bind fun r=>rS a r.1 r.2 k with
  |none=>rw[q,i6]at h;cases h
  |
   some r1 =>
   obtain⟨r0,_,q1⟩:=aW.1 q
   obtain⟨_,_,_,_,_,_,h0,_⟩:=lQ (l':=r1.1) (w:=r1.2) q1
   exact⟨k.toNat::path,by rw[bo];congr 1;show k=((k.toNat:Nat):Int);omega⟩
theorem Fp{s f xo y g:Nm}{pl:List Int}(h:wR s f pl xo y=some g):∃r,gM s f g=some r/\(g=f\/∃t,r.1.map Int.ofNat=pl++t):=by
 have h0:=h
 unfold wR at h
 obtain⟨r,hr,hh⟩:=aW.1 h
 clear h
 obtain⟨path,hpath⟩:∃path:List Nat,pl=path.map Int.ofNat:=by unfold Eu at hr;exact Ay _ _ _ hr
 split at hh
 ·subst hpath
  obtain⟨q,hq,hc⟩:=aW.1 hh
  unfold vo at hq
  obtain⟨_,_,hq⟩:=aW.1 hq
  obtain⟨d,hd,hs,hp,hy,w,hw⟩:=Bw hq
  have hg:g=w.cf:=by
   unfold po at hc
   rw[<-hp,<-hy,hq]at hc
   simp only[aR,hw,cq,Option.some.injEq]at hc
   exact hc.symm
  obtain⟨_,g2,_⟩:=Ed q.1.length q.1 q.2 w rfl hs hw
  obtain⟨x,A,B,D,z⟩:=g2.z
  have e1:mn s w.cf 100=some w:=by rw[z.cf g2.i.nH.fy g2.i.nH.ty,if_pos g2.i.nH.nd]
  have e2:gA s g=some w:=by unfold gA;rw[z.l,hg];exact e1
  obtain⟨v,hv⟩:∃v,gA s f=some v:=by
   unfold Eu at hr
   cases q0:tP s [] f with
   |none=>rw[q0,i6]at hr;cases hr
   |
    some r0 =>
    obtain⟨_,_,_,_,_,_,_,_,_,_,_,_,hlv,_⟩:=lS (l:=r0.1) (v:=r0.2) q0
    exact⟨_,hlv⟩
  obtain⟨fv,fe⟩:=z.nH hv
  have hrep:=Gt hv hs.i.nH hy h0
  refine⟨nn v.nodes (zA s) v w,by unfold gM;rw[z.l,hv,e2],?_⟩
  by_cases hne:rep (zA s) v path q.2=v
  ·left;rw[hrep,hne,fe]
  ·right
   have hwr:w=rep (zA s) v path q.2:=by
    have hfo:=g2.i.nH
    exact n0 hfo.fy (zZ path v q.2 fv.fy hs.i.nH.fy) (by rw[<-hg];exact hrep)
   rw[hwr]
   obtain⟨t,ht⟩:=zY z path v.nodes v q.2 fv (by rw[<-hwr];exact g2.i.nH) (au _) hne
   exact⟨t.map Int.ofNat,by rw[ht,df]⟩
 ·cases hh
end Go.Proofs.Trees
namespace Go.Proofs.Trees
open Go Go.VL Go.RowKit
def Rp:AV->List Ob->Prop:=fun r o=>o=[]/\∃(s f x y:Nm) (pl:List Int),pl.length<=2000/\r=.cm [.v (.string (mk s)),.v (.string (mk f)),.agg [.sl (jg pl),.v (.string (mk x)),.v (.string (mk y))]]
theorem Rp.ne:∃r o,Rp r o:=⟨_,_,rfl,[],[],[],[],[],by simp,rfl⟩
theorem RW(a:AV)(ha:zi a):aq Tryz.prog 19 [a] [] Rp:=by
 refine Us _ ha.1 ?_
 unfold Q3
 have hfar:rl=1000000000000000:=rfl
 refine aQ (Th a ha) Rq.ne ?_
 rintro r o ⟨b,l,hb,rfl,rfl⟩
 simp only[↓zq,zs,ae,zt,hb.has]
 refine⟨by simp[bC,hb.has,mq],aQ (RB b l hb) (e9.ne ⟨[],[],[],rfl⟩) ?_⟩
 rintro r o ⟨q,_,hq,⟨s,c,v,rfl⟩,rfl⟩
 simp only[↓zq,zs,ae,zt,aH,hb.has]
 have hlen:=xI s c v
 refine aY (RP s c v) ?_
 simp only[↓zq,zs,ae,zt,aH,Ob.es,aK]
 refine⟨jz _,fun _=>⟨rfl,s,c,c,v,[0],by simp,rfl⟩,fun _=>?_⟩
 refine aQ (xQ b l hb q 10 (by omega) (by omega)) (e9.ne ⟨0,rfl,fun h=>by omega,by omega⟩) ?_
 rintro r o ⟨q1,b1,b2,⟨k,rfl,_,_⟩,rfl⟩
 simp only[↓zq,zs,ae,zt,aH,hb.has,fQ]
 have hz:dN (nO (gM s c v)).1=jg (pZ (nO (gM s c v)).1):=oV _
 have hzl:(pZ (nO (gM s c v)).1).length<=1000:=by simp;omega
 have e0:jg (pZ (nO (gM s c v)).1)++[[.v (.int .i64 0)]]=jg (pZ (nO (gM s c v)).1++[0]):=by simp[jg]
 rw[hz]
 refine⟨fun _=>⟨⟨fun c hc=>(by simp at hc;rw[hc];rfl),by simp;omega⟩,?_⟩,fun _=>⟨fun _=>?_,fun _=>⟨fun _=>?_,fun _=>?_⟩⟩⟩
 ·rw[e0];exact⟨rfl,s,c,_,_,_,by simp at hzl |-;omega,rfl⟩
 ·exact⟨rfl,s,c,_,_,_,by omega,rfl⟩
 ·exact⟨rfl,s,c,_,_,_,by omega,rfl⟩
 ·exact⟨rfl,s,c,_,_,_,by omega,rfl⟩
theorem T7(a:AV)(ha:zi a):aq Tryz.prog 5 [a] [] (bP (.v (.bool true))):=by
 refine Ta _ ha.1 ?_
 simp only[Oc,↓zq,zs,ae,zt,bP]
 refine⟨ha.1,fun _=>trivial,fun _=>?_⟩
 refine aQ (RW a ha) Rp.ne ?_
 rintro r o ⟨rfl,s,f,x,y,pl,hpl,rfl⟩
 simp only[↓zq,zs,ae,zt,bC]
 have WI:=Sf s f _ pl (.of pl) (by omega) x y
 have WS:=Sb s f _ pl (.of pl) x y
 rw[kf]at WI WS
 refine aj WI ?_
 simp only[↓zq,zs,ae,zt]
 refine aj WS ?_
 simp only[↓zq,zs,ae,zt]
 refine⟨fun h=>absurd rfl h,fun _=>⟨fun h=>absurd rfl h,fun _=>⟨fun _=>by simp,fun h=>?_⟩⟩⟩
 obtain⟨g,hg⟩:=bb.1 h
 obtain⟨r,hc,hh⟩:=Fp hg
 have hlen:=xI s f g
 rw[hg]
 have WC:=Tc s f g
 rw[hc]at WC hlen
 simp only[nO]at WC hlen
 refine aY WC ?_
 have hz:dN r.1=jg (pZ r.1):=oV _
 have hl1:(jg pl).length=pl.length:=by simp[jg]
 simp only[↓zq,zs,ae,zt,aH,Ob.es,aK,aU,cE,fQ,hl1,bx]
 refine⟨jz _,?_⟩
 refine⟨fun _=>⟨fun _=>trivial,fun hne=>?_⟩,fun h=>by simp at h⟩
 rcases hh with hh|⟨u,hu⟩
 ·exact absurd hh hne
 ·have hlu:r.1.length=pl.length+u.length:=by have:=congrArg List.length hu;simpa using this
  refine⟨fun _=>⟨by omega,?_⟩,fun h=>absurd h (by omega)⟩
  have ht:List.take pl.length (dN r.1)=jg pl:=by
   rw[hz]
   show List.take pl.length (jg (r.1.map Int.ofNat))=jg pl
   rw[hu]
   simp only[jg,df]
   rw[List.take_append_of_le_length (by simp),List.take_of_length_le (by simp)]
  rw[ht]
  refine aj (UR _ _ pl pl (.of _) (.of _) (by omega)) ?_
  simp[↓zq,zs,ae]
end Go.Proofs.Trees
