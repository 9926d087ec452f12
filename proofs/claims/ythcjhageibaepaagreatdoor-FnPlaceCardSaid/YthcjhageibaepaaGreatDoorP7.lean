/-
  Part of a proof: Go functions read by values, trees of functions, their contracts.
-/
import Derived.Test.YthcjhageibaepaaGreatDoorP6
set_option linter.unusedVariables false
set_option linter.unusedSimpArgs false
open Bool renaming eq_iff_iff→cx,or_eq_false_iff→ck
open Int renaming toNat_natCast→bF
open List renaming append_assoc→a6,append_nil→cP,drop_eq_getElem_cons→aT,drop_zero→bc,eq_nil_of_length_eq_zero→bQ,getD_cons_zero→bq,getD_eq_getElem?_getD→aa,getElem?_eq_getElem→bo,getElem_mem→bH,headD_cons→aO,length_map→bU,length_nil→aG,map_cons→bG,mem_append→aM,mem_append_left→aD,mem_append_right→aB,mem_cons_of_mem→al,mem_cons_self→ak,mem_map→bM,mem_singleton→aQ,nil_append→aU,tail_cons→bz
open Nat renaming le_refl→au
open Option renaming bind_eq_some_iff→bm,bind_some→ba,getD_some→cA,isSome_iff_exists→ca,isSome_none→bu,isSome_some→a8,map_some→cj
namespace Go.Proofs.Trees
open Go Go.VL Go.RowKit
theorem Hd(b:AV)(l:List UInt8)(hb:su b l)(q0 C:Nat)(hC:q0+C<1000000000000):∀(k:Nat) (ok:Bool) (i n q:Nat) (s:Nm) (p:List Nm) (f:Nm),i+k=n->n<=100->q0<=q->q+k<=q0+C->p.length<=51 ->
 F7 [.v (.bool ok),.v (.int .i64 (n:Int)),.v (.int .i64 (i:Int))] (dZ b q s p f) (Th b q0 C)
 |
  0,ok,i,n,q,s,p,f,hi,hn,hq0,hq,hp=>by
  refine Lm _ _ _ _ _ _ _ _ _ _ _ ?_
  have:i=n:=by omega
  subst this
  simp only[Fp,↓zq,zs,ae,zt,ae,bp,hb.has]
  refine⟨fun h=>by omega,fun _=>⟨rfl,rfl,q,s,p,f,by omega,by omega,hp,rfl⟩⟩
 |
  k+1,ok,i,n,q,s,p,f,hi,hn,hq0,hq,hp=>by
  refine Lm _ _ _ _ _ _ _ _ _ _ _ ?_
  have hfar:qe=1000000000000000:=rfl
  simp only[Fp,↓zq,zs,ae,zt,ae,bp,hb.has]
  refine⟨fun _=>⟨fun hok=>?_,fun _=>⟨rfl,rfl,q,s,p,f,by omega,by omega,hp,rfl⟩⟩,fun h=>by omega⟩
  refine aj (Ro s _ p (cG.of p) f) ?_
  have hm:=AR s p f
  obtain⟨m,hm1,hm2⟩:∃m:Nat,(if qs s p f>1 then qs s p f else 1)=(m:Int)/\m<=1000:=by
   split
   ·exact⟨(qs s p f).toNat,by omega,by omega⟩
   ·exact⟨1,rfl,by omega⟩
  simp only[↓zq,zs,ae,hm1]
  refine aP (vO b l hb q m (by omega) (by omega)) (eX.ne ⟨0,rfl,fun h=>by omega,by omega⟩) ?_
  rintro r o ⟨q1,h1,h2,⟨j,rfl,_,_⟩,rfl⟩
  simp only[↓zq,zs,ae,zt,aL,hb.has]
  refine aW (P1 s _ p (cG.of p) f (j:Int)) ?_
  have hl:=AB s (Cz s p f (j:Int))
  simp only[↓zq,zs,ae,zt,aL,Ob.es,aO]
  rw[bA i (by omega)]
  refine⟨fy _,fun _=>?_,fun _=>?_⟩
  ·exact Hd b l hb q0 C hC k ok (i+1) n q1 _ _ _ (by omega) hn (by omega) (by omega) hl
  ·exact Hd b l hb q0 C hC k ok (i+1) n q1 _ _ _ (by omega) hn (by omega) (by omega) hp
def O8(b:AV)(p c:Nat):AV->List Ob->Prop:=fun r o=>∃(q:Nat) (s:Nm) (pth:List Nm) (f:Nm),p<=q/\q<=p+c/\pth.length<=52/\r=.agg [.v (.string (mk s)),.vec 1,.v (.string (mk f))]/\o=[.cells [b,.v (.int .i64 (q:Int))],.vec 1 (bL pth)]
theorem O8.ne(b:AV)(p c:Nat):∃r o,O8 b p c r o:=⟨_,_,p,[],[],[],au _,by omega,by simp,rfl,rfl⟩
theorem QZ(b:AV)(l:List UInt8)(hb:su b l)(p:Nat)(hp:p<100000000000):an Tryz.prog 31 [.ref 0 0] [.cells [b,.v (.int .i64 (p:Int))]] (O8 b p 60000001000):=by
 have hfar:qe=1000000000000000:=rfl
 refine Qz _ _ hb.has ?_
 unfold K6
 refine aP (SC b l hb p (by omega)) (eX.ne ⟨[],[],rfl⟩) ?_
 rintro r o ⟨q,h1,h2,⟨s,f,rfl⟩,rfl⟩
 simp only[↓zq,zs,ae,zt,aL,hb.has]
 refine aW (Sv s f) ?_
 have hl:=AB s (G4 s [] f)
 simp only[↓zq,zs,ae,zt,aL,Ob.es,aO]
 refine⟨fy _,?_⟩
 refine aP (vO b l hb q 4 (by omega) (by decide)) (eX.ne ⟨0,rfl,fun h=>by omega,by omega⟩) ?_
 rintro r o ⟨q1,g1,g2,⟨n,rfl,_,hn⟩,rfl⟩
 simp only[↓zq,zs,ae,zt,aL,hb.has]
 refine kX (Hd b l hb q1 n (by omega) n _ 0 n q1 _ _ _ (by omega) (by omega) (by omega) (by omega) hl) (fun ys o e=>?_) (fun ys o e=>?_)
 ·obtain⟨_,rfl,q2,s2,p2,f2,e1,e2,e3,rfl⟩:=e
  simp only[dZ,↓zq,zs,ae,zt,ae,bp,hb.has,Ob.es,aO,bz,bc]
  refine aP (vO b l hb q2 20 (by omega) (by decide)) (eX.ne ⟨0,rfl,fun h=>by omega,by omega⟩) ?_
  rintro r o ⟨q3,d1,d2,⟨j,rfl,_,_⟩,rfl⟩
  simp only[↓zq,zs,ae,zt,aL,hb.has]
  have hsl:(bL p2).length=p2.length:=by simp[bL]
  have ap:bL p2++[[.v (.string (mk [117]))]]=bL (p2++[[117]]):=by simp[bL]
  refine⟨fun _=>⟨⟨fun c hc=>(by simp at hc;rw[hc];rfl),by simp;omega⟩,?_⟩,fun _=>⟨fun _=>?_,fun _=>⟨fun _=>?_,fun _=>?_⟩⟩⟩
  ·rw[ap];exact⟨q3,s2,_,f2,by omega,by omega,by simp;omega,rfl,rfl⟩
  ·exact⟨q3,s2,_,_,by omega,by omega,by omega,rfl,rfl⟩
  ·exact⟨q3,_,_,f2,by omega,by omega,by omega,rfl,rfl⟩
  ·exact⟨q3,s2,_,f2,by omega,by omega,by omega,rfl,rfl⟩
 ·exact absurd e.1 (by decide)
end Go.Proofs.Trees
namespace Go.Proofs.Trees
open Go Go.VL Go.RowKit
def OY:AV->List Ob->Prop:=fun r o=>o=[]/\∃(s:Nm) (p:List Nm) (f:Nm),p.length<=52/\r=.agg [.v (.string (mk s)),.sl (bL p),.v (.string (mk f))]
theorem OY.ne:∃r o,OY r o:=⟨_,_,rfl,[],[],[],by simp,rfl⟩
theorem RS:(0:Nat)<100000000000:=by decide
theorem Sj(a:AV)(ha:yT a):an Tryz.prog 9 [a] [] OY:=by
 refine QI _ ha.1 ?_
 unfold Ju
 refine aP (Sk a ha) OZ.ne ?_
 rintro r o ⟨b,l,hb,rfl,rfl⟩
 simp only[↓zq,zs,ae,zt,hb.has]
 refine⟨by simp[bD,hb.has,l6],aP (QZ b l hb 0 RS) (O8.ne _ _ _) ?_⟩
 rintro r o ⟨q,s,p,f,_,_,h3,rfl,rfl⟩
 simp only[↓zq,zs,ae,zt,aL,hb.has,bz,aO,Ob.es]
 exact⟨rfl,s,p,f,h3,rfl⟩
end Go.Proofs.Trees
namespace Go.Proofs.Trees
open Go Go.VL Go.RowKit
def SR(n:Nat):AV->List Ob->Prop:=fun r o=>∃x:Int,r=.v (.int .i64 x)/\(0<=x->n<=1048576)
theorem SR.ne(n:Nat):∃r o,SR n r o:=⟨_,[],-1,rfl,fun h=>by omega⟩
end Go.Proofs.Trees
namespace Go.Proofs.Trees
open Go Go.VL Go.RowKit
def qm(a:AV)(l:List Nat):Prop:=LK.sl.has a/\a.elems=sg l
theorem qm.of(l:List Nat):qm (.sl (sg l)) l:=⟨(cc _).mpr trivial,rfl⟩
theorem qm.nil:qm (.v (.slice none 0 0)) []:=⟨(bp).mpr trivial,rfl⟩
theorem qm.len{a:AV}{l:List Nat}(h:qm a l):a.elems.length=l.length:=by rw[h.2,xE]
theorem qm.idx{a:AV}{l:List Nat}(h:qm a l){i:Nat}(hi:i<l.length):a.elems.getD i []=[.v (.int .i64 (l.getD i 0:Nat))]:=by
 rw[h.2];simp[sg,aa,hi]
end Go.Proofs.Trees
namespace Go.Proofs.Trees
open Go Go.VL Go.RowKit
def dr(l:List Int):List (List AV):=l.map fun k=>[.v (.int .i64 k)]
def mf(a:AV)(l:List Int):Prop:=LK.sl.has a/\a.elems=dr l
theorem kJ(l:List Int):(dr l).length=l.length:=by simp[dr]
theorem mf.of(l:List Int):mf (.sl (dr l)) l:=⟨(cc _).mpr trivial,rfl⟩
theorem mf.nil:mf (.v (.slice none 0 0)) []:=⟨(bp).mpr trivial,rfl⟩
theorem mf.len{a:AV}{l:List Int}(h:mf a l):a.elems.length=l.length:=by rw[h.2,kJ]
theorem mf.idx{a:AV}{l:List Int}(h:mf a l){i:Nat}(hi:i<l.length):a.elems.getD i []=[.v (.int .i64 (l.getD i 0))]:=by
 rw[h.2];simp[dr,aa,hi]
theorem wy(l:List Int):∀x,x∈[Ob.vec 1 (dr l)]->fR x:=by
 intro x hx
 simp only[aQ]at hx
 subst hx
 intro e he c hc
 simp only[dr,bM]at he
 obtain⟨k,_,rfl⟩:=he
 simp only[aQ]at hc
 exact⟨_,hc⟩
end Go.Proofs.Trees
namespace Go.Proofs.Trees
open Go Go.VL Go.RowKit
abbrev ZO:=Option (List Vl×Vl)
def C0(s:Nm)(o:ZO):Prop:=∀r,o=some r->∃d,St s d (zA s) r.1 r.2
def IN(a:Ty)(pl:List Int)(o:ZO):ZO:=pl.foldl (fun o k=>o.bind fun r=>yE a r.1 r.2 k) o
theorem C0.dn{s:Nm}{o:ZO}(h:C0 s o)(k:Int):C0 s (o.bind fun r=>yE (zA s) r.1 r.2 k):=fun r hr=>by
 obtain⟨q,h1,h2⟩:=bm.1 hr
 obtain⟨d,hs⟩:=h q h1
 exact⟨d,(hs.dn (l':=r.1) (w:=r.2) h2).1⟩
theorem C0.go{s:Nm}:∀{pl:List Int} {o:ZO},C0 s o->C0 s (IN (zA s) pl o)
 |[],o,h=>h
 |k::pl,o,h=>C0.go (pl:=pl) (h.dn k)
theorem C0.gz{s:Nm}{o:ZO}(h:C0 s o):GZ o:=fun r hr=>by
 obtain⟨d,hs⟩:=h r hr
 exact hs.gz r rfl
noncomputable def SU (s f:Nm) (pl:List Int):ZO:=IN (zA s) pl (tX s [] f)
def Qa(s:Nm)(o:ZO):Prop:=∀r,o=some r->gh s (r.1.map (·.cC)) r.2.cC=some r
theorem Qa.dn{s:Nm}{o:ZO}(h:Qa s o)(k:Int):Qa s (o.bind fun r=>yE (zA s) r.1 r.2 k):=fun r hr=>by
 obtain⟨q,h1,h2⟩:=bm.1 hr
 have hq:=h q h1
 obtain⟨d,hd,hs,_⟩:=xh (gP (l:=q.1) (v:=q.2) hq).1
 obtain⟨e,_,h3,h4,_,_,h0,h5⟩:=v8 (l':=r.1) (w:=r.2) h2
 have hk:k.toNat<(kids (zA s) q.2).length:=by
  rcases Nat.lt_or_ge k.toNat (kids (zA s) q.2).length with h|h
  ·exact h
  ·rw[List.getElem?_eq_none h]at h5;cases h5
 have he:(kids (zA s) q.2)[k.toNat]=e:=by rw[bo hk]at h5;cases h5;rfl
 have:=ET hs hd hq h0 hk
 rw[h2,he]at this
 obtain⟨l1,v1⟩:=r
 simp only at h3 h4 |-
 subst h3 h4
 rw[List.map_append]
 exact this
end Go.Proofs.Trees
namespace Go.Proofs.Trees
open Go Go.VL Go.RowKit
def qL(c:Nm):List Hl->Nat->Int
 |[],_=>-1
 |h::l,i=>if h.1.cC=c then(i:Int)else qL c l (i+1)
theorem Pz(q:Vl)(w:AV)(hw:LK.ptr.has w)(c:Nm)(hq:q.cC.length<=900000):an Tryz.prog 59 [.agg [q.cB,w],.ref 0 0] [.cells [.v (.string (mk c))]] (dh (.v (.bool (decide (q.cC=c)))) [.cells [.v (.string (mk c))]]):=by
 refine PV _ _ _ ((aN _).mpr trivial) hw ?_
 unfold KZ
 refine aj (E8 q hq) ?_
 simp only[↓zq,zs,ae,zt]
 refine⟨?_,rfl⟩
 congr 2
 rw[cx];simp
theorem Mq(c:Nm)(l:List Hl)(hl:l.length<=1000)(ht:∀h,h∈l->h.1.cC.length<=900000):∀(k i:Nat),i+k=l.length->Hx [.sl (ij l),.v (.int .i64 (l.length:Int)),.v (.int .i64 (i:Int))] [.cells [.v (.string (mk c))]]
 (ng (if qL c (l.drop i) i = -1 then(1,[],[.cells [.v (.string (mk c))]])else(2,[.v (.int .i64 (qL c (l.drop i) i))],[.cells [.v (.string (mk c))]])))
 |
  0,i,hi=>by
  refine KI _ _ _ _ ?_
  have:i=l.length:=by omega
  subst this
  simp only[FG,↓zq,zs,ae,zt,ae,List.drop_length,qL]
  exact⟨fun h=>by omega,fun _=>by simp[ng]⟩
 |
  k+1,i,hi=>by
  have hlt:i<l.length:=by omega
  refine KI _ _ _ _ ?_
  simp only[FG,↓zq,zs,ae,zt,ae,bD,en,lM hlt,aN,bF]
  refine⟨fun _=>?_,fun h=>by omega⟩
  repeat refine⟨by first|trivial|omega,?_⟩
  refine aW (Pz (l[i]).1 _ ((aN _).mpr trivial) c (ht _ (bH hlt))) ?_
  simp only[↓zq,zs,ae,zt,aL]
  rw[aT hlt,qL]
  by_cases h:(l[i]).1.cC=c
  ·simp only[if_pos h]
   refine⟨fun _=>?_,fun hn=>absurd h (by simpa using hn)⟩
   rw[if_neg (by omega)]
  ·simp only[if_neg h]
   refine⟨fun hp=>absurd (by simpa using hp) h,fun _=>?_⟩
   rw[bA i (by omega)]
   exact Mq c l hl ht k (i+1) (by omega)
theorem PG(c:Nm)(l:List Hl)(hl:l.length<=1000)(ht:∀h,h∈l->h.1.cC.length<=900000):an Tryz.prog 57 [.sl (ij l),.fn 59 [.ref 0 0]] [.cells [.v (.string (mk c))]] (dh (.v (.int .i64 (qL c l 0))) [.cells [.v (.string (mk c))]]):=by
 refine Qd _ _ ((cc _).mpr trivial) ?_
 simp only[LJ,↓zq,zs,ae,en]
 have hloop:=Mq c l hl ht l.length 0 (by omega)
 rw[bc]at hloop
 refine eN hloop (fun ys o e=>?_) (fun ys o e=>?_)
 ·split at e
  ·rename_i h
   cases e
   simp only[↓zq,zs,ae,zt,ae]
   rw[h];exact⟨rfl,rfl⟩
  ·cases e
 ·split at e
  ·cases e
  ·cases e
   simp only[↓zq,zs,ae,zt,ae]
   exact⟨rfl,rfl⟩
theorem Fo.kt{a:Ty}{v:Vl}(h:Fo a v):(kids a v).length<=199/\(∀k,k∈kids a v->k.1.cC.length<=900000):=by
 refine⟨?_,fun k hk=>(rS h hk).1⟩
 have h1:=mX a v
 have h2:=kO (kids a v)
 have:=h.nd
 omega
theorem RD{s d:Nm}{a:Ty}{l l':List Vl}{v w c:Vl}(h:St s d a l v)(hu:qd a l v=some (l',w))(hc:l=l'++[c]):an Tryz.prog 35 [u3 s a l v,u3 s a l' w] [] (bJ (.v (.int .i64 (qL c.cC (kids a w) 0)))):=by
 have h':=h.up hu
 obtain⟨x,A,B,D,z⟩:=h.z
 have hlen:=h.len
 have hl1:l.length=l'.length+1:=by rw[hc];simp
 refine Sc _ _ ((cg _).mpr trivial) ((cg _).mpr trivial) ?_
 simp only[N3,u3,↓zq,zs,ae,lA,aN,aF]
 repeat refine⟨by first|trivial|omega,?_⟩
 rw[wrap64 ((l.length:Int)-1) (by omega) (by omega)]
 have e1:((l.length:Int)-1).toNat=l'.length:=by omega
 have hg:(xZ l).getD l'.length []=[c.cB]:=by rw[xO (by omega)];simp[hc]
 simp only[e1,hg,↓zq,zs,ae,aN]
 repeat refine⟨by first|trivial|omega,?_⟩
 have hcx:=h.i.ctx c (by rw[hc];simp)
 refine aj (E8 c hcx.cC) ?_
 simp only[↓zq,zs,ae,zt,aN,aF]
 repeat refine⟨by first|trivial|omega,?_⟩
 have hnd:=h'.i.nJ.nd
 refine aj (Q8 100 w x A B a z.body z.hx (h'.i.nJ.eY z) (by omega)) ?_
 simp only[↓zq,zs,ae,zt]
 have hk:=h'.i.nJ.kt
 refine aW (PG c.cC (kids a w) (by omega) hk.2) ?_
 simp only[↓zq,zs,ae,zt,aL]
 exact⟨rfl,rfl⟩
def mw:Nat->Ty->List Vl->Vl->List Int
 |0,_,_,_=>[]
 |
  n+1,a,l,v=>match qd a l v with
  |some r=>mw n a r.1 r.2++[qL ((l.getLast?).getD .u).cC (kids a r.2) 0]
  |none=>[]
theorem rm:∀(n:Nat) (a:Ty) (l:List Vl) (v:Vl),(mw n a l v).length<=n
 |0,_,_,_=>by simp[mw]
 |
  n+1,a,l,v=>by
  unfold mw
  cases qd a l v with
  |none=>simp
  |some r=>have:=rm n a r.1 r.2;simp;omega
def PX(p q:List Int)(i:Nat):Prop:=q.length=p.length/\∀k,k<p.length->q.getD k 0=if k<i\/p.length-1-k<i then p.getD (p.length-1-k) 0 else p.getD k 0
theorem vL{l:List Int}{i j:Nat}(x:Int)(hj:j<l.length):(l.set i x).getD j 0=if i=j then x else l.getD j 0:=by
 simp only[aa,List.getElem?_set]
 split
 ·rename_i e;subst e;simp[hj]
 ·rfl
theorem I0(p:List Int)(hp:p.length<=1000000):∀(m i:Nat) (q:List Int),p.length<=m+2*i->i<=p.length->PX p q i->Ij [.v (.int .i64 (i:Int)),.v (.int .i64 ((p.length:Int)-1-(i:Int)))] [.vec 1 (dr q)] (ib 1 [] [.vec 1 (dr p.reverse)])
 |
  m,i,q,hm,hi,hR=>by
  refine R4 _ _ _ ?_
  by_cases hlt:(i:Int)<(p.length:Int)-1-(i:Int)
  ·have e2:((p.length:Int)-1-(i:Int)).toNat=p.length-1-i:=by omega
   have h1:i<q.length:=by rw[hR.1];omega
   have h2:p.length-1-i<q.length:=by rw[hR.1];omega
   have g1:(dr q).getD i []=[.v (.int .i64 (q.getD i 0))]:=by simp[dr,aa,h1]
   have g2:(dr q).getD (p.length-1-i) []=[.v (.int .i64 (q.getD (p.length-1-i) 0))]:=by simp[dr,aa,h2]
   have s1:(dr q).set i [.v (.int .i64 (q.getD (p.length-1-i) 0))]=dr (q.set i (q.getD (p.length-1-i) 0)):=by simp[dr,List.map_set]
   have g3:(dr (q.set i (q.getD (p.length-1-i) 0))).getD (p.length-1-i) []=[.v (.int .i64 (q.getD (p.length-1-i) 0))]:=by
    have hne:i≠p.length-1-i:=by omega
    simp[dr,aa,List.getElem?_set,hne,h2]
   simp only[FB,↓zq,zs,ae,kJ,bF,e2,g1,g2,List.set_cons_zero,bq,s1,g3]
   have s2:(dr (q.set i (q.getD (p.length-1-i) 0))).set (p.length-1-i) [.v (.int .i64 (q.getD i 0))]=dr ((q.set i (q.getD (p.length-1-i) 0)).set (p.length-1-i) (q.getD i 0)):=by simp[dr,List.map_set]
   simp only[s2,List.length_set]
   have hl:=hR.1
   refine⟨fun _=>⟨⟨by omega,by omega⟩,⟨h2,by first|trivial|simp⟩,⟨by omega,by omega⟩,⟨h1,by first|trivial|simp⟩,⟨by omega,by omega⟩,⟨h1,by omega⟩,⟨by omega,by omega⟩,⟨h2,by omega⟩,?_⟩,fun h=>absurd hlt h⟩
   rw[bA i (by omega),wrap64 ((p.length:Int)-1-(i:Int)-1) (by omega) (by omega),show (p.length:Int)-1-(i:Int)-1=(p.length:Int)-1-((i+1:Nat):Int) by omega]
   match m,hm with
   |0,hm=>omega
   |
    m+1,hm =>
    refine I0 p hp m (i+1) _ (by omega) (by omega) ⟨by simp[hl],fun k hk=>?_⟩
    rw[vL _ (by rw[List.length_set,hl];exact hk),vL _ (by rw[hl];exact hk)]
    have hi1:=hR.2 i (by omega)
    have hi2:=hR.2 (p.length-1-i) (by omega)
    have hi3:=hR.2 k hk
    rw[if_neg (by omega)]at hi1 hi2
    by_cases c1:p.length-1-i=k
    ·subst c1
     rw[if_pos rfl,if_pos (by omega),hi1]
     congr 1;omega
    ·rw[if_neg c1]
     by_cases c2:i=k
     ·subst c2
      rw[if_pos rfl,if_pos (by omega),hi2]
     ·rw[if_neg c2,hi3]
      by_cases c3:k<i\/p.length-1-k<i
      ·rw[if_pos c3,if_pos (by omega)]
      ·rw[if_neg c3,if_neg (by omega)]
  ·simp only[FB,↓zq,zs,ae]
   refine⟨fun h=>absurd h hlt,fun _=>?_⟩
   have:q=p.reverse:=by
    apply List.ext_getElem
    ·rw[hR.1,List.length_reverse]
    ·intro k h1 h2
     have hk:k<p.length:=by rw[<-hR.1];exact h1
     have:=hR.2 k hk
     have e1:q.getD k 0=q[k]:=by simp[aa,h1]
     rw[e1]at this
     rw[this,List.getElem_reverse]
     have e2:p.getD (p.length-1-k) 0=p[p.length-1-k]:=by simp[aa,show p.length-1-k<p.length by omega]
     split
     ·exact e2
     ·rename_i hn
      have:k=p.length-1-k:=by omega
      rw[<-e2,<-this]
   rw[this];exact⟨rfl,rfl,rfl⟩
theorem Su(p:List Int)(hp:p.length<=1000000):an Tryz.prog 36 [.vec 0] [.vec 1 (dr p)] (dh .any [.kq 1 (dr p.reverse)]):=by
 refine Q5 _ ?_
 unfold OM
 rw[kJ,wrap64 ((p.length:Int)-1) (by omega) (by omega)]
 have hloop:=I0 p hp p.length 0 p (by omega) (by omega) ⟨rfl,fun k hk=>by rw[if_neg (by omega)]⟩
 rw[show (p.length:Int)-1-((0:Nat):Int)=(p.length:Int)-1 by omega]at hloop
 refine cD hloop ?_
 simp only[↓zq,zs,ae,Ob.es,aO]
 exact⟨rfl,rfl⟩
end Go.Proofs.Trees
namespace Go.Proofs.Trees
open Go Go.VL Go.RowKit
theorem uC{a:Ty}:∀(n:Nat) (l:List Vl) (v:Vl),l.length=n->(iV n a l v).isSome=true->∀c l',l=l'++[c]->∃w,qd a l v=some (l',w)/\(iV l'.length a l' w).isSome=true
 |0,l,v,hl,_,c,l',h=>by rw[h]at hl;simp at hl
 |
  n+1,l,v,hl,hs,c,l',h=>by
  rw[iV]at hs
  cases q:qd a l v with
  |none=>rw[q]at hs;cases hs
  |
   some r =>
   obtain⟨l1,w⟩:=r
   rw[q]at hs
   have h2:l1=l':=by
    unfold qd at q
    rw[h,List.getLast?_concat]at q
    simp only at q
    split at q
    ·cases q;simp
    ·cases q
   subst h2
   have hn:l1.length=n:=by rw[h]at hl;simpa using hl
   exact⟨w,rfl,by rw[hn];exact hs⟩
theorem wi{d:Nm}:∀{l:List Vl},(∀c,c∈l->mo d c.cC 100=some c)->eE d (l.map (·.cC))=some l
 |[],_=>rfl
 |
  c::l,h=>by
  rw[bG,eE,h c ak,wi fun x hx=>h x (al _ hx)]
theorem Et{s d:Nm}{l:List Vl}{v:Vl}(hs:St s d (zA s) l v)(hd:cJ s=some d):gh s (l.map (·.cC)) v.cC=if(sB (zA s) l v).isSome=true then some (l,v)else none:=by
 obtain⟨x,A,B,D,z⟩:=hs.z
 have hlen:=hs.len
 have e1:mo s v.cC 100=some v:=by rw[z.cC hs.i.nJ.gR hs.i.nJ.ty,if_pos hs.i.nJ.nd]
 unfold gh
 rw[ur,hd]
 simp only[ba,z.l,e1,wi hs.each,bU,if_pos hlen,cj]
theorem vY(l:List Vl)(c:Vl):((l++[c]).getLast?).getD .u=c:=by rw[List.getLast?_concat];rfl
theorem tT{a:Ty}{l l':List Vl}{v w c:Vl}(n:Nat)(hu:qd a l v=some (l',w))(hc:l=l'++[c]):mw (n+1) a l v=mw n a l' w++[qL c.cC (kids a w) 0]:=by
 rw[mw,hu];simp only[hc,vY]
noncomputable def mn (s:Nm) (p:List Nm) (f:Nm):Option (List Int):=(gh s p f).map fun r=>mw r.1.length (zA s) r.1 r.2
def DI(o:Option (List Int)):List Int:=o.getD []
theorem AU(s:Nm)(p:List Nm)(f:Nm):(DI (mn s p f)).length<=50:=by
 unfold mn
 cases q:gh s p f with
 |none=>simp[DI]
 |
  some r =>
  obtain⟨d,hs,_⟩:=lH (l:=r.1) (v:=r.2) q
  have:=rm r.1.length (zA s) r.1 r.2
  have:=hs.len
  simp only[DI,cj,cA]
  omega
theorem KU(s d:Nm)(a:Ty):∀(n:Nat) (l:List Vl) (v:Vl) (out:List Int),l.length=n->St s d a l v->(iV n a l v).isSome=true->out.length+n<=1000 ->
 FD [u3 s a l v] [.vec 1 (dr out)] (ib 1 [] [.vec 1 (dr (out++(mw n a l v).reverse))])
 |
  0,l,v,out,hl,h,_,ho=>by
  have:l=[]:=bQ hl
  subst this
  refine KQ _ _ ?_
  simp only[Fk,u3,↓zq,zs,ae,lA,aG]
  refine⟨by omega,fun h=>by omega,fun _=>by simp[ib,mw]⟩
 |
  n+1,l,v,out,hl,h,hs,ho=>by
  have hne:l≠[]:=by rintro rfl;simp at hl
  have hlc:l=l.dropLast++[l.getLast hne]:=(List.dropLast_concat_getLast hne).symm
  obtain⟨w,hu,hs'⟩:=uC (n+1) l v hl hs _ _ hlc
  have hn:l.dropLast.length=n:=by rw[List.length_dropLast];omega
  rw[hn]at hs'
  refine KQ _ _ ?_
  have hup:=Jz s a l v h.i h.len
  rw[hu]at hup
  have hix:=RD h hu hlc
  rw[tT n hu hlc]
  generalize l.dropLast=l' at *
  generalize l.getLast hne=c at *
  simp only[Fk,oZ]at hup |-
  simp only[u3,↓zq,zs,ae,lA,hl]at hup hix |-
  refine⟨by omega,fun _=>?_,fun h=>by omega⟩
  refine aj hup ?_
  simp only[↓zq,zs,ae]
  refine aj hix ?_
  simp only[↓zq,zs,ae,kJ]
  refine⟨⟨fun x hx=>by simp at hx;rw[hx];rfl,by simp;omega⟩,?_⟩
  have e:dr out++[[.v (.int .i64 (qL c.cC (kids a w) 0))]]=dr (out++[qL c.cC (kids a w) 0]):=by simp[dr]
  rw[e,List.reverse_append,List.reverse_singleton,<-a6]
  exact KU s d a n l' w _ hn (h.up hu) hs' (by simp;omega)
theorem Rw(s:Nm)(pa:AV)(p:List Nm)(hp:cG pa p)(f:Nm):an Tryz.prog 10 [.agg [.v (.string (mk s)),pa,.v (.string (mk f))]] [] (dh (.cI [.vec 0,.v (.bool (mn s p f).isSome)]) [.vec 1 (dr (DI (mn s p f)))]):=by
 refine RH _ _ _ hp.1 ?_
 unfold Jl
 refine aj (SW s pa p hp f) ?_
 simp only[↓zq,zs,ae,xt]
 unfold mn
 cases q:gh s p f with
 |
  none =>
  simp only[oZ,↓zq,zs,ae,Option.map_none]
  exact⟨fun _=>⟨rfl,rfl⟩,fun h=>(by cases h)⟩
 |
  some r =>
  obtain⟨l,v⟩:=r
  obtain⟨d,hs,_⟩:=lH q
  have hlen:=hs.len
  have hcl:=(gP q).2
  have hloop:=KU s d (zA s) l.length l v [] rfl hs hcl (by simp;omega)
  have hpl:=rm l.length (zA s) l v
  simp only[oZ,cj]
  have hn:(u3 s (zA s) l v).isNil=false:=rfl
  simp only[hn]
  refine⟨fun h=>(by cases h),fun _=>?_⟩
  refine cD hloop ?_
  simp only[↓zq,zs,ae,Ob.es,aO,aU]
  refine aW (Su (mw l.length (zA s) l v).reverse (by rw[List.length_reverse];omega)) ?_
  rw[List.reverse_reverse]
  simp only[↓zq,zs,ae,Ob.es,aO]
  exact⟨rfl,rfl⟩
theorem M9(s c f:Nm)(pa:AV)(p:List Nm)(hp:cG pa (p++[c]))(hpl:p.length<=1000)(l:List Hl)(hl:l.length<=1000):∀(k i:Nat),i+k=l.length->Gq [.sl (kC l),.v (.int .i64 (i:Int))] [.cells [.v (.string (mk s)),pa,.v (.string (mk f))]]
 (ng (if qL c (l.drop i) i = -1 then(1,[],[])else(2,[.v (.int .i64 (qL c (l.drop i) i))],[])))
 |
  0,i,hi=>by
  refine JS _ _ _ _ _ ?_
  have:i=l.length:=by omega
  subst this
  simp only[IG,↓zq,zs,ae,zt,ae,iO,List.drop_length,qL]
  exact⟨hp.1,fun h=>by omega,fun _=>by simp[ng]⟩
 |
  k+1,i,hi=>by
  have hlt:i<l.length:=by omega
  refine JS _ _ _ _ _ ?_
  have hpl2:(p++[c]).length=p.length+1:=by simp
  have e1:(((p.length+1:Nat):Int)-1).toNat=p.length:=by omega
  have hg:(p++[c]).getD p.length []=c:=by simp[aa]
  simp only[IG,↓zq,zs,ae,zt,ae,iO,rT hlt,bF,hp.len,hpl2]
  rw[wrap64 (((p.length+1:Nat):Int)-1) (by omega) (by omega),e1,hp.idx (by rw[hpl2];omega),hg]
  simp only[↓zq,zs,ae,zt]
  refine⟨hp.1,fun _=>?_,fun h=>by omega⟩
  refine⟨by omega,by omega,hp.1,⟨hp.1,by omega,by omega⟩,by omega,?_⟩
  rw[aT hlt,qL]
  by_cases h:(l[i]).1.cC=c
  ·simp only[if_pos h]
   refine⟨fun _=>?_,fun hn=>absurd h (by simpa using hn)⟩
   rw[if_neg (by omega)]
  ·simp only[if_neg h]
   refine⟨fun hp=>absurd (by simpa using hp) h,fun _=>?_⟩
   rw[bA i (by omega)]
   exact M9 s c f pa p hp hpl l hl k (i+1) (by omega)
theorem Ri{s d:Nm}{a:Ty}{l l':List Vl}{v w c:Vl}(h:St s d a l v)(hu:qd a l v=some (l',w))(hc:l=l'++[c])(pa:AV)(hp:cG pa (l.map (·.cC))):an Tryz.prog 37 [.agg [.v (.string (mk s)),pa,.v (.string (mk v.cC))]] [] (bJ (.v (.int .i64 (qL c.cC (kids a w) 0)))):=by
 have h':=h.up hu
 obtain⟨x,A,B,D,z⟩:=h.z
 have hlen':=h'.len
 have hk:=h'.i.nJ.kt
 refine SO _ _ _ hp.1 ?_
 unfold Ol
 refine aj (Hs h pa hp) ?_
 rw[pL hu]
 simp only[↓zq,zs,ae,zt,bD,cc]
 refine aj (GB z w h'.i.nJ) ?_
 simp only[↓zq,zs,ae]
 have hp':cG pa (l'.map (·.cC)++[c.cC]):=by rw[hc,List.map_append]at hp;exact hp
 have hloop:=M9 s c.cC v.cC pa _ hp' (by simp;omega) (kids a w) (by omega) (kids a w).length 0 (by omega)
 rw[bc]at hloop
 refine eN hloop (fun ys o e=>?_) (fun ys o e=>?_)
 ·split at e
  ·rename_i hh
   cases e
   rw[hh];exact⟨rfl,rfl⟩
  ·cases e
 ·split at e
  ·cases e
  ·cases e
   simp only[↓zq,zs,ae]
   exact⟨rfl,rfl⟩
theorem NQ(s d:Nm)(a:Ty):∀(n:Nat) (l:List Vl) (v:Vl) (pa:AV) (out:List Int),l.length=n->St s d a l v->(iV n a l v).isSome=true->out.length+n<=1000->cG pa (l.map (·.cC)) ->
 HO [] [.cells [.v (.string (mk s)),pa,.v (.string (mk v.cC))],.vec 1 (dr out)] (ib 1 [] [.vec 1 (dr (mw n a l v++out))])
 |
  0,l,v,pa,out,hl,h,_,ho,hp=>by
  refine KW _ _ _ _ ?_
  simp only[F8,↓zq,zs,ae,zt,ae,hp.len,bU,hl]
  exact⟨hp.1,hp.1,fun h=>by omega,fun _=>by simp[ib,mw]⟩
 |
  n+1,l,v,pa,out,hl,h,hs,ho,hp=>by
  have hne:l≠[]:=by rintro rfl;simp at hl
  have hlc:l=l.dropLast++[l.getLast hne]:=(List.dropLast_concat_getLast hne).symm
  obtain⟨w,hu,hs'⟩:=uC (n+1) l v hl hs _ _ hlc
  have hn:l.dropLast.length=n:=by rw[List.length_dropLast];omega
  rw[hn]at hs'
  refine KW _ _ _ _ ?_
  have hix:=Ri h hu hlc pa hp
  have hup:=Hs h pa hp
  rw[pL hu]at hup
  rw[tT n hu hlc]
  generalize l.dropLast=l' at *
  generalize l.getLast hne=c at *
  simp only[F8,↓zq,zs,ae,zt,ae,hp.len,bU,hl]
  refine⟨hp.1,hp.1,fun _=>?_,fun h=>by omega⟩
  refine aj hix ?_
  simp only[↓zq,zs,ae,kJ]
  refine⟨⟨fun x hx=>?_,by simp;omega⟩,?_⟩
  ·simp only[dr,bM]at hx
   obtain⟨y,_,rfl⟩:=hx;rfl
  refine aj hup ?_
  simp only[↓zq,zs,ae,zt,bD,cc]
  have e:[[.v (.int .i64 (qL c.cC (kids a w) 0))]]++dr out=dr (qL c.cC (kids a w) 0::out):=by simp[dr]
  have ih:=NQ s d a n l' w (.sl (bL (l'.map (·.cC)))) (qL c.cC (kids a w) 0::out) hn (h.up hu) hs' (by simp;omega) (cG.of _)
  rw[a6,List.singleton_append,<-e]at *
  exact ih
theorem Qx(s:Nm)(pa:AV)(p:List Nm)(hp:cG pa p)(f:Nm):an Tryz.prog 11 [.agg [.v (.string (mk s)),pa,.v (.string (mk f))]] [] (bJ (.cI [.sl (dr (DI (mn s p f))),.v (.bool (mn s p f).isSome)])):=by
 refine Ql _ _ _ hp.1 ?_
 unfold K4
 refine aj (O6 s pa p hp f) ?_
 simp only[↓zq,zs,ae]
 unfold mn
 cases q:gh s p f with
 |none=>simp only[bu,Option.map_none];exact⟨fun _=>⟨rfl,rfl⟩,fun h=>by simp at h⟩
 |
  some r =>
  obtain⟨l,v⟩:=r
  obtain⟨d,hs,rfl,rfl⟩:=lH q
  have hlen:=hs.len
  have hcl:=(gP q).2
  simp only[a8,cj]
  refine⟨fun h=>by simp at h,fun _=>?_⟩
  refine cD (NQ s d (zA s) l.length l v pa [] rfl hs hcl (by simp;omega) hp) ?_
  rw[cP]
  simp only[↓zq,zs,ae,Ob.es,aO]
  exact⟨rfl,rfl⟩
end Go.Proofs.Trees
namespace Go.Proofs.Trees
open Go Go.VL Go.RowKit
def uZ(l:List Hl):Prop:=(l.map (·.1)).Nodup
theorem qX:uZ []:=List.nodup_nil
theorem Ec(h:Hl):uZ [h]:=by simp[uZ]
theorem nh{g:Vl->Vl}(hg:∀x y,g x=g y->x=y){l:List Hl}(h:uZ l):uZ (iF g l):=by
 unfold uZ iF at *
 rw[List.map_map]
 have:((fun x:Hl=>x.1)∘fun h:Hl=>(g h.1,h.2))=g∘(fun x:Hl=>x.1):=rfl
 rw[this,<-List.map_map]
 exact List.Pairwise.map _ (fun a b hab e=>hab (hg _ _ e)) h
theorem uu{l r:List Hl}(hl:uZ l)(hr:uZ r)(h:∀x y,x∈l->y∈r->x.1≠y.1):uZ (l++r):=by
 unfold uZ at *
 rw[List.map_append,List.nodup_append]
 refine⟨hl,hr,?_⟩
 intro a ha b hb e
 obtain⟨x,hx,rfl⟩:=bM.1 ha
 obtain⟨y,hy,rfl⟩:=bM.1 hb
 exact h x y hx hy e
theorem wo{f:Hl->List Hl}:∀{l:List Hl},uZ l->(∀h,h∈l->uZ (f h))->(∀h k,h∈l->k∈l->h.1≠k.1->∀x y,x∈f h->y∈f k->x.1≠y.1)->uZ (l.flatMap f)
 |[],_,_,_=>qX
 |
  h::l,hn,hf,hd=>by
  rw[List.flatMap_cons]
  unfold uZ at hn
  rw[bG,List.nodup_cons]at hn
  refine uu (hf h ak) (wo (l:=l) hn.2 (fun k hk=>hf k (al _ hk)) fun a b ha hb=>hd a b (al _ ha) (al _ hb)) ?_
  intro x y hx hy
  obtain⟨k,hk,hy⟩:=List.mem_flatMap.1 hy
  refine hd h k ak (al _ hk) (fun e=>hn.1 ?_) x y hx hy
  rw[e];exact bM.2 ⟨k,hk,rfl⟩
theorem jl:∀(n:Nat) (t:Ty) (tg:Tg) (v:Vl),uZ (dD n t tg v)
 |0,t,tg,v=>qX
 |
  n+1,t,tg,v=>by
  unfold dD
  split
  ·exact Ec _
  ·unfold iW
   split
   ·exact nh (fun x y e=>by cases e;rfl) (jl n _ _ _)
   ·exact nh (fun x y e=>by cases e;rfl) (jl n _ _ _)
   ·refine uu (nh (fun x y e=>by cases e;rfl) (jl n _ _ _)) (nh (fun x y e=>by cases e;rfl) (jl n _ _ _)) fun x y hx hy e=>?_
    obtain⟨k,_,rfl⟩:=cY hx
    obtain⟨k',_,rfl⟩:=cY hy
    cases e
   ·refine uu (nh (fun x y e=>by cases e;rfl) (jl n _ _ _)) (wo (jl n _ _ _) (fun h hh=>nh (fun x y e=>by cases e;rfl) (jl n _ _ _)) fun h k hh hk hne x y hx hy e=>?_) fun x y hx hy e=>?_
    ·obtain⟨a,_,rfl⟩:=cY hx
     obtain⟨b,_,rfl⟩:=cY hy
     injection e with e
     injection e with e
     injection e with e1 e2
     exact hne e1
    ·obtain⟨k,_,rfl⟩:=cY hx
     obtain⟨h,_,hy⟩:=List.mem_flatMap.1 hy
     obtain⟨b,_,rfl⟩:=cY hy
     cases e
   ·exact qX
end Go.Proofs.Trees
namespace Go.Proofs.Trees
open Go Go.VL Go.RowKit
theorem Ey(a:Ty)(v:Vl):uZ (kids a v):=by
 cases v<;>first|exact jl _ _ _ _|exact qX
theorem Co:∀(l:List Hl) (i k:Nat) (q:Hl),uZ l->(∀h,h∈l->h.1.gR 100)->l[k]?=some q->qL q.1.cC l i=((i+k:Nat):Int)
 |[],i,k,q,_,_,h=>by simp at h
 |
  h::l,i,0,q,hn,hb,hk=>by
  simp only[List.getElem?_cons_zero,Option.some.injEq]at hk
  subst hk
  simp[qL]
 |
  h::l,i,k+1,q,hn,hb,hk=>by
  rw[List.getElem?_cons_succ]at hk
  have hm:q∈l:=List.mem_of_getElem? hk
  unfold uZ at hn
  rw[bG,List.nodup_cons]at hn
  have hne:¬h.1.cC=q.1.cC:=fun e=>hn.1 (by
   have:=tP (hb h ak) (hb q (al _ hm)) e
   rw[this];exact bM.2 ⟨q,hm,rfl⟩)
  rw[qL,if_neg hne,Co l (i+1) k q hn.2 (fun x hx=>hb x (al _ hx)) hk]
  omega
end Go.Proofs.Trees
namespace Go.Proofs.Trees
open Go Go.VL Go.RowKit
def BQ(x:Nm)(i:Nat)(tg tg':Tg):Prop:=(tg=.bd i/\tg'=.nm x)\/(∃s,s≠x/\tg=.nm s/\tg'=.nm s)\/∃j,j<i/\tg=.bd j/\tg'=.bd j
theorem BQ.up{x:Nm}{i:Nat}{tg tg':Tg}(h:BQ x i tg tg'):BQ x (i+1) tg.up tg'.up:=by
 rcases h with⟨rfl,rfl⟩|⟨s,h,rfl,rfl⟩|⟨j,h,rfl,rfl⟩
 ·exact .inl ⟨rfl,rfl⟩
 ·exact .inr (.inl ⟨s,h,rfl,rfl⟩)
 ·exact .inr (.inr ⟨j+1,by omega,rfl,rfl⟩)
theorem AM{x:Nm}{i:Nat}{tg tg':Tg}(h:BQ x i tg tg')(t:Ty)(hx:bj x t=false):eD (dB (.name x) t i) tg'=eD t tg:=by
 cases t with
 |
  bound k =>
  simp only[dB]
  rcases h with⟨rfl,rfl⟩|⟨s,h,rfl,rfl⟩|⟨j,h,rfl,rfl⟩
  ·split
   ·rename_i e;simp[eD,e]
   ·rename_i e;simp[eD,e]
  ·split
   ·simp[eD,Ne.symm h]
   ·simp[eD]
  ·split
   ·rename_i e;simp only[eD];exact(decide_eq_false (by omega)).symm
   ·simp[eD]
 |
  name n =>
  have hn:¬n=x:=by simpa[bj]using hx
  rcases h with⟨rfl,rfl⟩|⟨s,h,rfl,rfl⟩|⟨j,h,rfl,rfl⟩<;>simp[dB,eD,hn]
 |_=>rcases h with⟨rfl,rfl⟩|⟨s,h,rfl,rfl⟩|⟨j,h,rfl,rfl⟩<;>rfl
theorem fI(x:Nm):∀(n:Nat) (t:Ty) (i:Nat) (tg tg':Tg) (v:Vl),bj x t=false->BQ x i tg tg'->dD n (dB (.name x) t i) tg' v=dD n t tg v
 |0,_,_,_,_,_,_,_=>rfl
 |
  n+1,t,i,tg,tg',v,hx,hr=>by
  rw[dD,dD,AM hr t hx]
  split
  ·rfl
  ·cases t with
   |
    plus a b =>
    simp only[bj,ck]at hx
    cases v with
    |l w=>exact congrArg (iF .l) (fI x n a i tg tg' w hx.1 hr)
    |r w=>exact congrArg (iF .r) (fI x n b i tg tg' w hx.2 hr)
    |_=>rfl
   |
    times a b =>
    simp only[bj,ck]at hx
    cases v with
    |
     p y z =>
     simp only[dB,iW]
     rw[fI x n a i tg tg' y hx.1 hr,fI x n b i tg tg' z hx.2 hr]
    |_=>rfl
   |
    rc a =>
    cases v with
    |
     f w =>
     simp only[dB,iW]
     rw[fI x n a (i+1) tg.up tg'.up w hx hr.up,fI x n a (i+1) (.bd 0) (.bd 0) w hx (.inr (.inr ⟨0,by omega,rfl,rfl⟩))]
     congr 1
     refine i6 fun h hh=>?_
     have:=fI x n (.rc a) i tg tg' h.2 hx hr
     simp only[dB]at this
     rw[this]
    |_=>rfl
   |
    bound k =>
    simp only[dB]
    split<;>(cases v<;>rfl)
   |_=>rfl
theorem pB{g:Vl->Vl}{l:List Hl}{c v:Vl}(h:(c,v)∈l):(g c,v)∈iF g l:=bM.2 ⟨_,h,rfl⟩
theorem qh(n:Nat):∀(m:Nat) (c:Vl),c.nodes<=m->∀(t:Ty) (s:Nm) (d:Ty) (σ:Nm->Option Ty),Dv t s d->CJ σ->jy t 0->vT n c (eT σ d)=true->∀(v:Vl) (k:Nat),(cX t c v).nodes<=k->(c,v)∈dD k t (.nm s) (cX t c v)
 |0,c,h=>by have:=du c;omega
 |
  m+1,c,hm=>by
  intro t s d σ hd hσ hl hv v k hk
  have no:∀c,vT n c .zero=false:=fun c=>by cases c<;>rfl
  obtain⟨k,rfl⟩:∃j,k=j+1:=⟨k-1,by have:=du (cX t c v);omega⟩
  cases hd with
  |zero=>rw[show eT σ .zero=.zero from rfl,no]at hv;cases hv
  |one=>rw[show eT σ .zero=.zero from rfl,no]at hv;cases hv
  |bound=>rw[show eT σ .zero=.zero from rfl,no]at hv;cases hv
  |qx=>rw[show eT σ .zero=.zero from rfl,no]at hv;cases hv
  |
   hit =>
   have hc:c=.u:=by
    have hv:vT n c .one=true:=hv
    cases c<;>first|rfl|simp[vT]at hv
   rw[kZ,dD,if_pos (by simp[eD]),hc];exact ak
  |
   plus h1 h2 _ =>
   rcases ji hv with⟨w,rfl,hw⟩|⟨w,rfl,hw⟩
   ·simp only[Vl.nodes]at hm
    rename_i a b _ _
    simp only[cX,Vl.nodes]at hk
    have:=qh n m w (by omega) _ s _ σ h1 hσ hl.1 hw v k (by omega)
    exact pB (g:=.l) this
   ·simp only[Vl.nodes]at hm
    simp only[cX,Vl.nodes]at hk
    have:=qh n m w (by omega) _ s _ σ h2 hσ hl.2 hw v k (by omega)
    exact pB (g:=.r) this
  |
   times h1 h2 _ =>
   rcases ji hv with⟨w,rfl,hw⟩|⟨w,rfl,hw⟩
   ·obtain⟨x,y,rfl,hx,hy⟩:=gq hw
    simp only[Vl.nodes]at hm
    simp only[cX,Vl.nodes]at hk
    have:=qh n m x (by omega) _ s _ σ h1 hσ hl.1 hx v k (by omega)
    exact aD _ (pB (g:=fun c=>.l (.p c y)) this)
   ·obtain⟨x,y,rfl,hx,hy⟩:=gq hw
    simp only[Vl.nodes]at hm
    simp only[cX,Vl.nodes]at hk
    have:=qh n m y (by omega) _ s _ σ h2 hσ hl.2 hy v k (by omega)
    exact aB _ (pB (g:=fun c=>.r (.p x c)) this)
  |
   @rc a _ c0 d0 x hx hs h1 h2 hsz =>
   have lo:jy (dB (.name x) a 0) 0:=gI x a hl
   obtain⟨X,e1,e2⟩:=oe (x:=x) hσ hl (h1.lc lo) (h2.lc lo)
   have hv':=hv
   rw[e1]at hv'
   obtain⟨w,rfl,hw⟩:=A0 hv'
   rw[e2]at hw
   have hcl:=lX hσ x (jW hσ (.rc a) hl)
   rcases ji hw with⟨y,rfl,hy⟩|⟨y,rfl,hy⟩
   ·simp only[Vl.nodes]at hm
    simp only[cX,Vl.nodes]at hk
    have:=qh n m y (by omega) _ s _ _ h1 hcl lo hy v k (by rw[dK x y.nodes y a 0 v (au _)];omega)
    rw[dK x y.nodes y a 0 v (au _),fI x k a 0 (.nm s) (.nm s) _ hx (.inr (.inl ⟨s,Ne.symm hs,rfl,rfl⟩))]at this
    exact aD _ (pB (g:=fun c=>.f (.l c)) this)
   ·obtain⟨y,z,rfl,hy,hz⟩:=gq hy
    simp only[Vl.nodes]at hm
    simp only[cX,Vl.nodes]at hk
    have q1:=qh n m y (by omega) _ x _ _ h2 hcl lo hy (cX (.rc a) z v) k (by rw[dK x y.nodes y a 0 _ (au _)];omega)
    rw[dK x y.nodes y a 0 _ (au _),fI x k a 0 (.bd 0) (.nm x) _ hx (.inl ⟨rfl,rfl⟩)]at q1
    have hsz2:=(fg k a (.bd 0) _ _ q1).1
    have q2:=qh n m z (by omega) (.rc a) s _ σ (.rc x hx hs h1 h2 hsz) hσ hl hz v k (by simp only at hsz2;omega)
    exact aB _ (List.mem_flatMap.2 ⟨_,q1,pB (g:=fun c=>.f (.r (.p y c))) q2⟩)
theorem IK{n:Nat}{a D:Ty}{x:Nm}(hx:bj x a=false)(hl:jy (.rc a) 0)(h:n9 a x=some D){c:Vl}(hc:vT n c D=true)(v:Vl):(c,v)∈kids a (.f (cX a c v)):=by
 simp only[n9,bm,cR,eS]at h
 obtain⟨d,hd,_,rfl⟩:=h
 have lo:jy (dB (.name x) a 0) 0:=gI x a hl
 have hcl:=lX ru x hl
 have e1:sub x (.rc a) d=eT (iR Dc x (.rc a)) d:=by
  have:=iB Dc x (.rc a) d
  rw[iM,iM]at this;exact this
 rw[e1]at hc
 have h1:=qh n c.nodes c (au _) _ x _ _ hd hcl lo hc v (cX a c v).nodes (by rw[dK x c.nodes c a 0 v (au _)];omega)
 rw[dK x c.nodes c a 0 v (au _),fI x _ a 0 (.bd 0) (.nm x) _ hx (.inl ⟨rfl,rfl⟩)]at h1
 exact h1
end Go.Proofs.Trees
namespace Go.Proofs.Trees
open Go Go.VL Go.RowKit
theorem ZT.hole{s d:Nm}{a:Ty}{x A B:E}{D:Ty}(z:ZT s d a x A B D){c:Nm}{w:Vl}(h:mo d c 100=some w)(v:Vl):(w,v)∈kids a (.f (cX a w v)):=by
 obtain⟨e,t,m,h1,h2,h3,h4,h5,h6,h7⟩:=om h
 have hm:m=100:=by omega
 subst hm
 have:=uw h3
 rw[z.bk]at this;cases this
 rw[mW h4]at h7
 obtain⟨e2,he2,hw2,hte2,_,_⟩:=n0 z.y
 have hlc:jy (.rc a) 0:=hte2 ▸ hw2.qw.1
 exact IK (uJ z.y) hlc z.lp h7 v
end Go.Proofs.Trees
namespace Go.Proofs.Trees
open Go Go.VL Go.RowKit
theorem St.B0{s d:Nm}{a:Ty}{l l':List Vl}{v w c:Vl}(h:St s d a l v)(hu:qd a l v=some (l',w))(hc:l=l'++[c]):w=.f (cX a c v)/\∃k:Nat,(kids a w)[k]?=some (c,v)/\qL c.cC (kids a w) 0=(k:Int):=by
 obtain⟨x,A,B,D,z⟩:=h.z
 have h':=h.up hu
 obtain⟨_,_,c',hc',hw⟩:=ua h.i hu
 have e:c=c':=by rw[hc]at hc';exact List.singleton_inj.1 (List.append_cancel_left hc')
 subst e
 have hm:(c,v)∈kids a w:=by rw[hw];exact z.hole (h.each c (by rw[hc];simp)) v
 obtain⟨k,hk⟩:=List.getElem?_of_mem hm
 refine⟨hw,k,hk,?_⟩
 have:=Co (kids a w) 0 k _ (Ey a w) (fun x hx=>(lf h'.i.nJ.gR hx).1) hk
 simpa using this
theorem St.S2{s d:Nm}{a:Ty}{l:List Vl}{v w c:Vl}(h:St s d a l v){k:Hl}(hk:k∈kids a v)(hv:mo d k.1.cC 100=some k.1):k.1.nodes<=200:=by
 obtain⟨x,A,B,D,z⟩:=h.z
 obtain⟨t1,_,_⟩:=z.Pc h.i.nJ hk
 rw[z.QM (lf h.i.nJ.gR hk).1 t1]at hv
 split at hv
 ·assumption
 ·cases hv
theorem St.back{s d:Nm}{a:Ty}{l l':List Vl}{v w c:Vl}(h:St s d a l v)(hu:qd a l v=some (l',w))(hc:l=l'++[c]):yE a l' w (qL c.cC (kids a w) 0)=some (l,v):=by
 obtain⟨_,k,hk,e⟩:=h.B0 hu hc
 have hlen:=h.len
 have hm:=List.mem_of_getElem? hk
 have hn:c.nodes<=200:=(h.up hu).S2 (w:=v) (c:=v) hm (h.each c (by rw[hc];simp))
 have hlt:k<(kids a w).length:=(List.getElem?_eq_some_iff.1 hk).1
 have hg:(kids a w).getD k (.u,.u)=(c,v):=by rw[aa,hk];rfl
 rw[e];unfold yE
 rw[if_neg (by rw[hc]at hlen;simp at hlen;omega),if_pos ⟨by omega,by simpa using hlt⟩,bF,hg,if_pos hn,hc]
theorem Eu(a:Ty)(p:List Int)(k:Int)(o:ZO):IN a (p++[k]) o=(IN a p o).bind fun r=>yE a r.1 r.2 k:=by unfold IN;rw[List.foldl_append];rfl
theorem xA{s d:Nm}{a:Ty}:∀(n:Nat) (l:List Vl) (v w:Vl),l.length=n->St s d a l v->iV n a l v=some w->IN a (mw n a l v) (some ([],w))=some (l,v)/\St s d a [] w/\(mw n a l v).length=n/\∀k,k∈mw n a l v->0<=k
 |
  0,l,v,w,hl,h,hc=>by
  have:l=[]:=bQ hl
  subst this
  rw[iV]at hc;cases hc
  exact⟨rfl,h,rfl,fun k hk=>by cases hk⟩
 |
  n+1,l,v,w,hl,h,hc=>by
  have hne:l≠[]:=by rintro rfl;simp at hl
  have hlc:l=l.dropLast++[l.getLast hne]:=(List.dropLast_concat_getLast hne).symm
  obtain⟨w1,hu,_⟩:=uC (n+1) l v hl (by rw[hc];rfl) _ _ hlc
  have hn:l.dropLast.length=n:=by rw[List.length_dropLast];omega
  rw[iV,hu]at hc
  obtain⟨g1,g2,g3,g4⟩:=xA n l.dropLast w1 w hn (h.up hu) hc
  rw[tT n hu hlc]
  obtain⟨_,k,_,ek⟩:=h.B0 hu hlc
  refine⟨?_,g2,by simp[g3],fun x hx=>?_⟩
  ·rw[Eu,g1];exact h.back hu hlc
  ·rcases aM.1 hx with hx|hx
   ·exact g4 x hx
   ·simp only[aQ]at hx;rw[hx,ek];omega
theorem sV{s:Nm}{p:List Nm}{f:Nm}{r:List Vl×Vl}(h:gh s p f=some r):∃d,cJ s=some d/\St s d (zA s) r.1 r.2/\p=r.1.map (·.cC)/\f=r.2.cC/\∃w,sB (zA s) r.1 r.2=some w:=by
 obtain⟨h1,h2⟩:=gP (l:=r.1) (v:=r.2) h
 obtain⟨d,hd,hs,hp,hf⟩:=xh h1
 obtain⟨w,hw⟩:=ca.1 h2
 exact⟨d,hd,hs,hp,hf,w,hw⟩
theorem zY{s:Nm}{p:List Nm}{f:Nm}{pl:List Int}(h:mn s p f=some pl):pl.length=p.length:=by
 unfold mn at h
 cases q:gh s p f with
 |none=>rw[q]at h;cases h
 |
  some r =>
  obtain⟨d,hd,hs,hp,hf,w,hw⟩:=sV q
  rw[q]at h
  have e:=(xA r.1.length r.1 r.2 w rfl hs hw).2.2.1
  cases h
  rw[hp,bU]
  omega
theorem Ik{s:Nm}{p:List Nm}{f:Nm}{r:List Vl×Vl}(h:gh s p f=some r):∃w pl,Be s p f=some w/\mn s p f=some pl/\SU s w pl=some r/\(mo s w 100).isSome=true/\pl.length=p.length/\(∀k,k∈pl->0<=k)/\p=r.1.map (·.cC)/\f=r.2.cC/\p.length<=50:=by
 obtain⟨d,hd,hs,hp,hf,w,hw⟩:=sV h
 obtain⟨g1,g2,g3,g4⟩:=xA r.1.length r.1 r.2 w rfl hs hw
 obtain⟨x,A,B,D,z⟩:=g2.z
 have e1:mo s w.cC 100=some w:=by rw[z.cC g2.i.nJ.gR g2.i.nJ.ty,if_pos g2.i.nJ.nd]
 have e2:tX s [] w.cC=some ([],w):=by
  rw[<-wA]
  have:=Et g2 hd
  rw[show sB (zA s) [] w=some w from rfl]at this
  exact this
 refine⟨w.cC,mw r.1.length (zA s) r.1 r.2,?_,?_,?_,by rw[e1];rfl,by rw[g3,hp];simp,g4,hp,hf,by rw[hp];simpa using hs.len⟩
 ·unfold Be;rw[h];simp[hw]
 ·unfold mn;rw[h];rfl
 ·unfold SU;rw[e2];exact g1
end Go.Proofs.Trees
namespace Go.Proofs.Trees
open Go Go.VL Go.RowKit
theorem OX(a b:AV)(l r:List Int)(ha:mf a l)(hb:mf b r)(he:l.length=r.length)(hl:l.length<=2000000):∀(m i:Nat),i+m=l.length->l.take i=r.take i->G8 [a,b,.v (.int .i64 (i:Int))] [] (ng (if l=r then(1,[],[])else(2,[.v (.bool false)],[])))
 |
  0,i,hi,ht=>by
  refine IV _ _ _ ?_
  have:l=r:=by rw[List.take_of_length_le (by omega),List.take_of_length_le (by omega)]at ht;exact ht
  simp only[G9,↓zq,zs,ae,ha.len]
  exact⟨ha.1,hb.1,ha.1,fun h=>by omega,fun _=>by simp[ng,this]⟩
 |
  m+1,i,hi,ht=>by
  have hlt:i<l.length:=by omega
  have hlt2:i<r.length:=by omega
  refine IV _ _ _ ?_
  simp only[G9,↓zq,zs,ae,zt,ha.len,hb.len,ha.idx hlt,hb.idx hlt2,bF]
  refine⟨ha.1,hb.1,ha.1,fun _=>⟨⟨ha.1,by omega,by omega⟩,by omega,⟨hb.1,by omega,by omega⟩,by omega,fun h=>?_,fun h=>?_⟩,fun h=>by omega⟩
  ·have:¬l=r:=fun e=>by subst e;exact h rfl
   simp[ng,this]
  ·rw[bA i (by omega)]
   refine OX a b l r ha hb he hl m (i+1) (by omega) ?_
   have hg:l[i]=r[i]:=by simpa[aa,hlt,hlt2]using h
   rw[List.take_succ_eq_append_getElem hlt,List.take_succ_eq_append_getElem hlt2,ht,hg]
theorem Rf(a b:AV)(l r:List Int)(ha:mf a l)(hb:mf b r)(hl:l.length<=2000000):an Tryz.prog 12 [a,b] [] (bJ (.v (.bool (decide (l=r))))):=by
 refine Rt _ _ ha.1 hb.1 ?_
 simp only[MB,↓zq,zs,ae,ha.len,hb.len]
 refine⟨ha.1,hb.1,fun h=>?_,fun h=>?_⟩
 ·have:¬l=r:=fun e=>by subst e;exact h rfl
  simp[this,bJ]
 ·refine eN (OX a b l r ha hb (by omega) hl l.length 0 (by omega) (by simp)) (fun ys o e=>?_) (fun ys o e=>?_)
  ·split at e
   ·rename_i q;simp[↓zq,zs,ae,bJ,q]
   ·cases e
  ·split at e
   ·cases e
   ·rename_i q;cases e;simp[↓zq,zs,ae,bJ,q]
end Go.Proofs.Trees
namespace Go.Proofs.Trees
open Go Go.VL Go.RowKit
theorem Oe(s f:Nm)(p:List Nm)(pl:List Int)(hn:∀k,k∈pl->0<=k)(hl:pl.length<=60):∀(m i:Nat),i+m=pl.length->FX [.v (.int .i64 (i:Int))] [.cells [.v (.string (mk s)),.sl (bL p),.v (.string (mk f))],.vec 1 (dr pl)] (ib 1 [] [.cells [.v (.string (mk s)),.sl (bL p),.v (.string (mk f))],.vec 1 (dr pl)])
 |
  0,i,hi=>by
  have hz:(dr pl).length=pl.length:=by simp[dr]
  refine NW _ _ _ _ _ ?_
  simp only[GY,↓zq,zs,ae,zt,ae,hz]
  exact⟨fun h=>by omega,fun _=>⟨rfl,rfl,rfl⟩⟩
 |
  m+1,i,hi=>by
  have hz:(dr pl).length=pl.length:=by simp[dr]
  have hlt:i<pl.length:=by omega
  have hg:(dr pl).getD i []=[.v (.int .i64 pl[i])]:=by simp[dr,aa,hlt]
  have hk:=hn _ (bH hlt)
  refine NW _ _ _ _ _ ?_
  simp only[GY,↓zq,zs,ae,zt,ae,hz,bF,hg]
  rw[bA i (by omega)]
  refine⟨fun _=>?_,fun h=>by omega⟩
  repeat refine⟨by omega,?_⟩
  intro _
  exact Oe s f p pl hn hl m (i+1) (by omega)
theorem PS(a:AV)(ha:yT a):an Tryz.prog 3 [a] [] (bJ (.v (.bool true))):=by
 refine Re _ ha.1 ?_
 simp only[Np,↓zq,zs,ae,zt,bJ]
 refine⟨ha.1,fun _=>trivial,fun _=>?_⟩
 refine aP (Sj a ha) OY.ne ?_
 rintro r o ⟨rfl,s,p,f,hp,rfl⟩
 simp only[↓zq,zs,ae,zt,bD]
 refine aW (Rw s _ p (cG.of p) f) ?_
 simp only[↓zq,zs,ae,zt,aL,Ob.es,aO]
 refine⟨wy _,?_⟩
 refine aj (Qx s _ p (cG.of p) f) ?_
 simp only[↓zq,zs,ae,zt]
 have hplc:(DI (mn s p f)).length<=50:=AU s p f
 have EQ:=Rf _ _ (DI (mn s p f)) (DI (mn s p f)) (.of _) (.of _) (by omega)
 refine⟨fun h=>absurd rfl h,fun _=>aj EQ ?_⟩
 simp only[↓zq,zs,ae]
 refine⟨fun h=>by simp at h,fun _=>?_⟩
 cases q:mn s p f with
 |
  none =>
  rw[q]at EQ
  refine⟨fun _=>⟨fun _=>aj EQ ?_,fun h=>absurd rfl h⟩,fun h=>by simp at h⟩
  simp[↓zq,zs,ae]
 |
  some pl =>
  have hnn:∀k,k∈pl->0<=k:=by
   unfold mn at q
   cases q2:gh s p f with
   |none=>rw[q2]at q;cases q
   |
    some r =>
    obtain⟨w,pl',_,e2,_,_,_,e6,_⟩:=Ik q2
    unfold mn at e2
    rw[q2]at q e2
    rw[e2]at q;cases q
    exact e6
  have hlen:=zY q
  refine⟨fun h=>by simp at h,fun _=>?_⟩
  refine cD (Oe s f p pl hnn (by omega) pl.length 0 (by omega)) ?_
  have hz:(dr pl).length=p.length:=by simp[dr,hlen]
  have hs:(bL p).length=p.length:=by simp[bL]
  simp[↓zq,zs,ae,zt,ae,DI,Ob.es,hz,hs]
end Go.Proofs.Trees
