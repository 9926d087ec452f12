/-
  Part of a proof: Go functions read by values, trees of functions, their contracts.
-/
import Derived.Test.YtfdpbglppfohhaaGreatDoorP6
set_option linter.unusedVariables false
set_option linter.unusedSimpArgs false
open Bool renaming or_eq_false_iff→cb
open Int renaming toNat_natCast→bZ
open List renaming drop_zero→bh,getD_eq_getElem?_getD→aa,getElem?_eq_getElem→bp,headD_cons→aS,length_map→cn,map_cons→bC,mem_append_left→aC,mem_append_right→aB,mem_cons_of_mem→al,mem_cons_self→ak,mem_map→bO,tail_cons→bw
open Nat renaming le_refl→au
open Option renaming bind_eq_some_iff→bg,bind_some→ba,isSome_iff_exists→bR,isSome_none→bq
namespace Go.Proofs.Trees
open Go Go.VL Go.RowKit
theorem E1(b:AV)(l:List UInt8)(hb:sf b l)(q0 C:Nat)(hC:q0+C<1000000000000):∀(k:Nat) (ok:Bool) (i n q:Nat) (s:Nm) (p:List Nm) (f:Nm),i+k=n->n<=100->q0<=q->q+k<=q0+C->p.length<=51 ->
 H0 [.v (.bool ok),.v (.int .i64 (n:Int)),.v (.int .i64 (i:Int))] (dZ b q s p f) (R0 b q0 C)
 |
  0,ok,i,n,q,s,p,f,hi,hn,hq0,hq,hp=>by
  refine KX _ _ _ _ _ _ _ _ _ _ _ ?_
  have:i=n:=by omega
  subst this
  simp only[Hh,↓zq,zs,ac,zt,ac,bi,hb.has]
  refine⟨fun h=>by omega,fun _=>⟨rfl,rfl,q,s,p,f,by omega,by omega,hp,rfl⟩⟩
 |
  k+1,ok,i,n,q,s,p,f,hi,hn,hq0,hq,hp=>by
  refine KX _ _ _ _ _ _ _ _ _ _ _ ?_
  have hfar:qi=1000000000000000:=rfl
  simp only[Hh,↓zq,zs,ac,zt,ac,bi,hb.has]
  refine⟨fun _=>⟨fun hok=>?_,fun _=>⟨rfl,rfl,q,s,p,f,by omega,by omega,hp,rfl⟩⟩,fun h=>by omega⟩
  refine ai (MU s _ p (cF.of p) f) ?_
  have hm:=wg s p f
  obtain⟨m,hm1,hm2⟩:∃m:Nat,(if jx s p f>1 then jx s p f else 1)=(m:Int)/\m<=1000:=by
   split
   ·exact⟨(jx s p f).toNat,by omega,by omega⟩
   ·exact⟨1,rfl,by omega⟩
  simp only[↓zq,zs,ac,hm1]
  refine aQ (vI b l hb q m (by omega) (by omega)) (eX.ne ⟨0,rfl,fun h=>by omega,by omega⟩) ?_
  rintro r o ⟨q1,h1,h2,⟨j,rfl,_,_⟩,rfl⟩
  simp only[↓zq,zs,ac,zt,aM,hb.has]
  refine aY (Rg s _ p (cF.of p) f (j:Int)) ?_
  have hl:=AL s (wa s p f (j:Int))
  simp only[↓zq,zs,ac,zt,aM,Ob.es,aS]
  rw[bA i (by omega)]
  refine⟨ep _,fun _=>?_,fun _=>?_⟩
  ·exact E1 b l hb q0 C hC k ok (i+1) n q1 _ _ _ (by omega) hn (by omega) (by omega) hl
  ·exact E1 b l hb q0 C hC k ok (i+1) n q1 _ _ _ (by omega) hn (by omega) (by omega) hp
def N6(b:AV)(p c:Nat):AV->List Ob->Prop:=fun r o=>∃(q:Nat) (s:Nm) (pth:List Nm) (f:Nm),p<=q/\q<=p+c/\pth.length<=52/\r=.agg [.v (.string (mk s)),.vec 1,.v (.string (mk f))]/\o=[.cells [b,.v (.int .i64 (q:Int))],.vec 1 (bD pth)]
theorem N6.ne(b:AV)(p c:Nat):∃r o,N6 b p c r o:=⟨_,_,p,[],[],[],au _,by omega,by simp,rfl,rfl⟩
theorem Qj(b:AV)(l:List UInt8)(hb:sf b l)(p:Nat)(hp:p<100000000000):aq Tryz.prog 67 [.ref 0 0] [.cells [b,.v (.int .i64 (p:Int))]] (N6 b p 60000001000):=by
 have hfar:qi=1000000000000000:=rfl
 refine O5 _ _ hb.has ?_
 unfold NY
 refine aQ (Qm b l hb p (by omega)) (eX.ne ⟨[],[],rfl⟩) ?_
 rintro r o ⟨q,h1,h2,⟨s,f,rfl⟩,rfl⟩
 simp only[↓zq,zs,ac,zt,aM,hb.has]
 refine aY (OL s f) ?_
 have hl:=AL s (Gz s [] f)
 simp only[↓zq,zs,ac,zt,aM,Ob.es,aS]
 refine⟨ep _,?_⟩
 refine aQ (vI b l hb q 4 (by omega) (by decide)) (eX.ne ⟨0,rfl,fun h=>by omega,by omega⟩) ?_
 rintro r o ⟨q1,g1,g2,⟨n,rfl,_,hn⟩,rfl⟩
 simp only[↓zq,zs,ac,zt,aM,hb.has]
 refine kG (E1 b l hb q1 n (by omega) n _ 0 n q1 _ _ _ (by omega) (by omega) (by omega) (by omega) hl) (fun ys o e=>?_) (fun ys o e=>?_)
 ·obtain⟨_,rfl,q2,s2,p2,f2,e1,e2,e3,rfl⟩:=e
  simp only[dZ,↓zq,zs,ac,zt,ac,bi,hb.has,Ob.es,aS,bw,bh]
  refine aQ (vI b l hb q2 20 (by omega) (by decide)) (eX.ne ⟨0,rfl,fun h=>by omega,by omega⟩) ?_
  rintro r o ⟨q3,d1,d2,⟨j,rfl,_,_⟩,rfl⟩
  simp only[↓zq,zs,ac,zt,aM,hb.has]
  have hsl:(bD p2).length=p2.length:=by simp[bD]
  have ap:bD p2++[[.v (.string (mk [117]))]]=bD (p2++[[117]]):=by simp[bD]
  refine⟨fun _=>⟨⟨fun c hc=>(by simp at hc;rw[hc];rfl),by simp;omega⟩,?_⟩,fun _=>⟨fun _=>?_,fun _=>⟨fun _=>?_,fun _=>?_⟩⟩⟩
  ·rw[ap];exact⟨q3,s2,_,f2,by omega,by omega,by simp;omega,rfl,rfl⟩
  ·exact⟨q3,s2,_,_,by omega,by omega,by omega,rfl,rfl⟩
  ·exact⟨q3,_,_,f2,by omega,by omega,by omega,rfl,rfl⟩
  ·exact⟨q3,s2,_,f2,by omega,by omega,by omega,rfl,rfl⟩
 ·exact absurd e.1 (by decide)
end Go.Proofs.Trees
namespace Go.Proofs.Trees
open Go Go.VL Go.RowKit
def N2:AV->List Ob->Prop:=fun r o=>o=[]/\∃(s:Nm) (p:List Nm) (f:Nm),p.length<=52/\r=.agg [.v (.string (mk s)),.sl (bD p),.v (.string (mk f))]
theorem N2.ne:∃r o,N2 r o:=⟨_,_,rfl,[],[],[],by simp,rfl⟩
theorem Pf:(0:Nat)<100000000000:=by decide
theorem O8(a:AV)(ha:yY a):aq Tryz.prog 32 [a] [] N2:=by
 refine Om _ ha.1 ?_
 unfold LX
 refine aQ (PQ a ha) N4.ne ?_
 rintro r o ⟨b,l,hb,rfl,rfl⟩
 simp only[↓zq,zs,ac,zt,hb.has]
 refine⟨by simp[bH,hb.has,lW],aQ (Qj b l hb 0 Pf) (N6.ne _ _ _) ?_⟩
 rintro r o ⟨q,s,p,f,_,_,h3,rfl,rfl⟩
 simp only[↓zq,zs,ac,zt,aM,hb.has,bw,aS,Ob.es]
 exact⟨rfl,s,p,f,h3,rfl⟩
end Go.Proofs.Trees
namespace Go.Proofs.Trees
open Go Go.VL Go.RowKit
def RO(n:Nat):AV->List Ob->Prop:=fun r o=>∃x:Int,r=.v (.int .i64 x)/\(0<=x->n<=1048576)
theorem RO.ne(n:Nat):∃r o,RO n r o:=⟨_,[],-1,rfl,fun h=>by omega⟩
end Go.Proofs.Trees
namespace Go.Proofs.Trees
open Go Go.VL Go.RowKit
def pY(a:AV)(l:List Nat):Prop:=LK.sl.has a/\a.aP=rr l
theorem pY.of(l:List Nat):pY (.sl (rr l)) l:=⟨(cg _).mpr trivial,rfl⟩
theorem pY.nil:pY (.v (.slice none 0 0)) []:=⟨(bi).mpr trivial,rfl⟩
theorem pY.len{a:AV}{l:List Nat}(h:pY a l):a.aP.length=l.length:=by rw[h.2,wD]
theorem pY.idx{a:AV}{l:List Nat}(h:pY a l){i:Nat}(hi:i<l.length):a.aP.getD i []=[.v (.int .i64 (l.getD i 0:Nat))]:=by
 rw[h.2];simp[rr,aa,hi]
end Go.Proofs.Trees
namespace Go.Proofs.Trees
open Go Go.VL Go.RowKit
def vK(l:List Int):List (List AV):=l.map fun k=>[.v (.int .i64 k)]
def p9(a:AV)(l:List Int):Prop:=LK.sl.has a/\a.aP=vK l
theorem zb(l:List Int):(vK l).length=l.length:=by simp[vK]
theorem p9.of(l:List Int):p9 (.sl (vK l)) l:=⟨(cg _).mpr trivial,rfl⟩
theorem p9.nil:p9 (.v (.slice none 0 0)) []:=⟨(bi).mpr trivial,rfl⟩
theorem p9.len{a:AV}{l:List Int}(h:p9 a l):a.aP.length=l.length:=by rw[h.2,zb]
theorem p9.idx{a:AV}{l:List Int}(h:p9 a l){i:Nat}(hi:i<l.length):a.aP.getD i []=[.v (.int .i64 (l.getD i 0))]:=by
 rw[h.2];simp[vK,aa,hi]
end Go.Proofs.Trees
namespace Go.Proofs.Trees
open Go Go.VL Go.RowKit
abbrev ZO:=Option (List Vl×Vl)
def DT(s:Nm)(o:ZO):Prop:=∀r,o=some r->∃d,St s d (zA s) r.1 r.2
def RS(a:Ty)(pl:List Int)(o:ZO):ZO:=pl.foldl (fun o k=>o.bind fun r=>uS a r.1 r.2 k) o
theorem DT.dn{s:Nm}{o:ZO}(h:DT s o)(k:Int):DT s (o.bind fun r=>uS (zA s) r.1 r.2 k):=fun r hr=>by
 obtain⟨q,h1,h2⟩:=bg.1 hr
 obtain⟨d,hs⟩:=h q h1
 exact⟨d,(hs.dn (l':=r.1) (w:=r.2) h2).1⟩
theorem DT.go{s:Nm}:∀{pl:List Int} {o:ZO},DT s o->DT s (RS (zA s) pl o)
 |[],o,h=>h
 |k::pl,o,h=>DT.go (pl:=pl) (h.dn k)
theorem DT.gz{s:Nm}{o:ZO}(h:DT s o):GZ o:=fun r hr=>by
 obtain⟨d,hs⟩:=h r hr
 exact hs.gz r rfl
def Oe(s:Nm)(o:ZO):Prop:=∀r,o=some r->gF s (r.1.map (·.cM)) r.2.cM=some r
theorem Oe.dn{s:Nm}{o:ZO}(h:Oe s o)(k:Int):Oe s (o.bind fun r=>uS (zA s) r.1 r.2 k):=fun r hr=>by
 obtain⟨q,h1,h2⟩:=bg.1 hr
 have hq:=h q h1
 obtain⟨d,hd,hs,_⟩:=wx (iO (l:=q.1) (v:=q.2) hq).1
 obtain⟨e,_,h3,h4,_,_,h0,h5⟩:=ry (l':=r.1) (w:=r.2) h2
 have hk:k.toNat<(kids (zA s) q.2).length:=by
  rcases Nat.lt_or_ge k.toNat (kids (zA s) q.2).length with h|h
  ·exact h
  ·rw[List.getElem?_eq_none h]at h5;cases h5
 have he:(kids (zA s) q.2)[k.toNat]=e:=by rw[bp hk]at h5;cases h5;rfl
 have:=El hs hd hq h0 hk
 rw[h2,he]at this
 obtain⟨l1,v1⟩:=r
 simp only at h3 h4 |-
 subst h3 h4
 rw[List.map_append]
 exact this
end Go.Proofs.Trees
namespace Go.Proofs.Trees
open Go Go.VL Go.RowKit
def Ep(c:Nm):List Hl->Nat->Int
 |[],_=>-1
 |h::l,i=>if h.1.cM=c then(i:Int)else Ep c l (i+1)
def vG:Nat->Ty->List Vl->Vl->List Int
 |0,_,_,_=>[]
 |
  n+1,a,l,v=>match si a l v with
  |some r=>vG n a r.1 r.2++[Ep ((l.getLast?).getD .u).cM (kids a r.2) 0]
  |none=>[]
end Go.Proofs.Trees
namespace Go.Proofs.Trees
open Go Go.VL Go.RowKit
theorem u6(l:List Vl)(c:Vl):((l++[c]).getLast?).getD .u=c:=by rw[List.getLast?_concat];rfl
theorem Dn{a:Ty}{l l':List Vl}{v w c:Vl}(n:Nat)(hu:si a l v=some (l',w))(hc:l=l'++[c]):vG (n+1) a l v=vG n a l' w++[Ep c.cM (kids a w) 0]:=by
 rw[vG,hu];simp only[hc,u6]
noncomputable def D1 (s:Nm) (p:List Nm) (f:Nm):Option (List Int):=(gF s p f).map fun r=>vG r.1.length (zA s) r.1 r.2
end Go.Proofs.Trees
namespace Go.Proofs.Trees
open Go Go.VL Go.RowKit
def uN(l:List Hl):Prop:=(l.map (·.1)).Nodup
theorem qO:uN []:=List.nodup_nil
theorem DE(h:Hl):uN [h]:=by simp[uN]
theorem mR{g:Vl->Vl}(hg:∀x y,g x=g y->x=y){l:List Hl}(h:uN l):uN (iH g l):=by
 unfold uN iH at *
 rw[List.map_map]
 have:((fun x:Hl=>x.1)∘fun h:Hl=>(g h.1,h.2))=g∘(fun x:Hl=>x.1):=rfl
 rw[this,<-List.map_map]
 exact List.Pairwise.map _ (fun a b hab e=>hab (hg _ _ e)) h
theorem tD{l r:List Hl}(hl:uN l)(hr:uN r)(h:∀x y,x∈l->y∈r->x.1≠y.1):uN (l++r):=by
 unfold uN at *
 rw[List.map_append,List.nodup_append]
 refine⟨hl,hr,?_⟩
 intro a ha b hb e
 obtain⟨x,hx,rfl⟩:=bO.1 ha
 obtain⟨y,hy,rfl⟩:=bO.1 hb
 exact h x y hx hy e
theorem vX{f:Hl->List Hl}:∀{l:List Hl},uN l->(∀h,h∈l->uN (f h))->(∀h k,h∈l->k∈l->h.1≠k.1->∀x y,x∈f h->y∈f k->x.1≠y.1)->uN (l.flatMap f)
 |[],_,_,_=>qO
 |
  h::l,hn,hf,hd=>by
  rw[List.flatMap_cons]
  unfold uN at hn
  rw[bC,List.nodup_cons]at hn
  refine tD (hf h ak) (vX (l:=l) hn.2 (fun k hk=>hf k (al _ hk)) fun a b ha hb=>hd a b (al _ ha) (al _ hb)) ?_
  intro x y hx hy
  obtain⟨k,hk,hy⟩:=List.mem_flatMap.1 hy
  refine hd h k ak (al _ hk) (fun e=>hn.1 ?_) x y hx hy
  rw[e];exact bO.2 ⟨k,hk,rfl⟩
theorem jk:∀(n:Nat) (t:Ty) (tg:Tg) (v:Vl),uN (dD n t tg v)
 |0,t,tg,v=>qO
 |
  n+1,t,tg,v=>by
  unfold dD
  split
  ·exact DE _
  ·unfold iL
   split
   ·exact mR (fun x y e=>by cases e;rfl) (jk n _ _ _)
   ·exact mR (fun x y e=>by cases e;rfl) (jk n _ _ _)
   ·refine tD (mR (fun x y e=>by cases e;rfl) (jk n _ _ _)) (mR (fun x y e=>by cases e;rfl) (jk n _ _ _)) fun x y hx hy e=>?_
    obtain⟨k,_,rfl⟩:=cY hx
    obtain⟨k',_,rfl⟩:=cY hy
    cases e
   ·refine tD (mR (fun x y e=>by cases e;rfl) (jk n _ _ _)) (vX (jk n _ _ _) (fun h hh=>mR (fun x y e=>by cases e;rfl) (jk n _ _ _)) fun h k hh hk hne x y hx hy e=>?_) fun x y hx hy e=>?_
    ·obtain⟨a,_,rfl⟩:=cY hx
     obtain⟨b,_,rfl⟩:=cY hy
     injection e with e
     injection e with e
     injection e with e1 e2
     exact hne e1
    ·obtain⟨k,_,rfl⟩:=cY hx
     obtain⟨h,_,hy⟩:=List.mem_flatMap.1 hy
     obtain⟨b,_,rfl⟩:=cY hy
     cases e
   ·exact qO
end Go.Proofs.Trees
namespace Go.Proofs.Trees
open Go Go.VL Go.RowKit
theorem xD(a:Ty)(v:Vl):uN (kids a v):=by
 cases v<;>first|exact jk _ _ _ _|exact qO
theorem ww:∀(l:List Hl) (i k:Nat) (q:Hl),uN l->(∀h,h∈l->h.1.ic 100)->l[k]?=some q->Ep q.1.cM l i=((i+k:Nat):Int)
 |[],i,k,q,_,_,h=>by simp at h
 |
  h::l,i,0,q,hn,hb,hk=>by
  simp only[List.getElem?_cons_zero,Option.some.injEq]at hk
  subst hk
  simp[Ep]
 |
  h::l,i,k+1,q,hn,hb,hk=>by
  rw[List.getElem?_cons_succ]at hk
  have hm:q∈l:=List.mem_of_getElem? hk
  unfold uN at hn
  rw[bC,List.nodup_cons]at hn
  have hne:¬h.1.cM=q.1.cM:=fun e=>hn.1 (by
   have:=tV (hb h ak) (hb q (al _ hm)) e
   rw[this];exact bO.2 ⟨q,hm,rfl⟩)
  rw[Ep,if_neg hne,ww l (i+1) k q hn.2 (fun x hx=>hb x (al _ hx)) hk]
  omega
theorem Hk{s d:Nm}{a:Ty}{l l':List Vl}{v w:Vl}{k:Int}(h:St s d a l v)(hu:uS a l v k=some (l',w)):vG l'.length a l' w=vG l.length a l v++[k]/\sr a l' w=sr a l v:=by
 obtain⟨h1,h2,h3⟩:=h.dn hu
 obtain⟨q,hq,rfl,rfl,hn,h50,h0,hk⟩:=ry hu
 obtain⟨x,A,B,D,z⟩:=h.z
 obtain⟨t1,t2,t3⟩:=z.N7 h.i.pD hq
 refine⟨?_,(qT t3 h.i.pD.nd).2⟩
 rw[h3,Dn l.length h2 rfl,ww (kids a v) 0 k.toNat q (xD a v) (fun x hx=>(j4 h.i.pD.ic hx).1) hk]
 congr 2
 omega
end Go.Proofs.Trees
namespace Go.Proofs.Trees
open Go Go.VL Go.RowKit
def BP(x:Nm)(i:Nat)(tg tg':Tg):Prop:=(tg=.bd i/\tg'=.nm x)\/(∃s,s≠x/\tg=.nm s/\tg'=.nm s)\/∃j,j<i/\tg=.bd j/\tg'=.bd j
theorem BP.up{x:Nm}{i:Nat}{tg tg':Tg}(h:BP x i tg tg'):BP x (i+1) tg.up tg'.up:=by
 rcases h with⟨rfl,rfl⟩|⟨s,h,rfl,rfl⟩|⟨j,h,rfl,rfl⟩
 ·exact .inl ⟨rfl,rfl⟩
 ·exact .inr (.inl ⟨s,h,rfl,rfl⟩)
 ·exact .inr (.inr ⟨j+1,by omega,rfl,rfl⟩)
theorem Bm{x:Nm}{i:Nat}{tg tg':Tg}(h:BP x i tg tg')(t:Ty)(hx:bn x t=false):eB (dB (.name x) t i) tg'=eB t tg:=by
 cases t with
 |
  bQ k =>
  simp only[dB]
  rcases h with⟨rfl,rfl⟩|⟨s,h,rfl,rfl⟩|⟨j,h,rfl,rfl⟩
  ·split
   ·rename_i e;simp[eB,e]
   ·rename_i e;simp[eB,e]
  ·split
   ·simp[eB,Ne.symm h]
   ·simp[eB]
  ·split
   ·rename_i e;simp only[eB];exact(decide_eq_false (by omega)).symm
   ·simp[eB]
 |
  name n =>
  have hn:¬n=x:=by simpa[bn]using hx
  rcases h with⟨rfl,rfl⟩|⟨s,h,rfl,rfl⟩|⟨j,h,rfl,rfl⟩<;>simp[dB,eB,hn]
 |_=>rcases h with⟨rfl,rfl⟩|⟨s,h,rfl,rfl⟩|⟨j,h,rfl,rfl⟩<;>rfl
theorem fJ(x:Nm):∀(n:Nat) (t:Ty) (i:Nat) (tg tg':Tg) (v:Vl),bn x t=false->BP x i tg tg'->dD n (dB (.name x) t i) tg' v=dD n t tg v
 |0,_,_,_,_,_,_,_=>rfl
 |
  n+1,t,i,tg,tg',v,hx,hr=>by
  rw[dD,dD,Bm hr t hx]
  split
  ·rfl
  ·cases t with
   |
    plus a b =>
    simp only[bn,cb]at hx
    cases v with
    |l w=>exact congrArg (iH .l) (fJ x n a i tg tg' w hx.1 hr)
    |r w=>exact congrArg (iH .r) (fJ x n b i tg tg' w hx.2 hr)
    |_=>rfl
   |
    times a b =>
    simp only[bn,cb]at hx
    cases v with
    |
     p y z =>
     simp only[dB,iL]
     rw[fJ x n a i tg tg' y hx.1 hr,fJ x n b i tg tg' z hx.2 hr]
    |_=>rfl
   |
    rc a =>
    cases v with
    |
     f w =>
     simp only[dB,iL]
     rw[fJ x n a (i+1) tg.up tg'.up w hx hr.up,fJ x n a (i+1) (.bd 0) (.bd 0) w hx (.inr (.inr ⟨0,by omega,rfl,rfl⟩))]
     congr 1
     refine iY fun h hh=>?_
     have:=fJ x n (.rc a) i tg tg' h.2 hx hr
     simp only[dB]at this
     rw[this]
    |_=>rfl
   |
    bQ k =>
    simp only[dB]
    split<;>(cases v<;>rfl)
   |_=>rfl
theorem pP{g:Vl->Vl}{l:List Hl}{c v:Vl}(h:(c,v)∈l):(g c,v)∈iH g l:=bO.2 ⟨_,h,rfl⟩
theorem qc(n:Nat):∀(m:Nat) (c:Vl),c.nodes<=m->∀(t:Ty) (s:Nm) (d:Ty) (σ:Nm->Option Ty),Dv t s d->Ct σ->jv t 0->vT n c (eN σ d)=true->∀(v:Vl) (k:Nat),(cW t c v).nodes<=k->(c,v)∈dD k t (.nm s) (cW t c v)
 |0,c,h=>by have:=dm c;omega
 |
  m+1,c,hm=>by
  intro t s d σ hd hσ hl hv v k hk
  have no:∀c,vT n c .zero=false:=fun c=>by cases c<;>rfl
  obtain⟨k,rfl⟩:∃j,k=j+1:=⟨k-1,by have:=dm (cW t c v);omega⟩
  cases hd with
  |zero=>rw[show eN σ .zero=.zero from rfl,no]at hv;cases hv
  |one=>rw[show eN σ .zero=.zero from rfl,no]at hv;cases hv
  |bQ=>rw[show eN σ .zero=.zero from rfl,no]at hv;cases hv
  |qn=>rw[show eN σ .zero=.zero from rfl,no]at hv;cases hv
  |
   hit =>
   have hc:c=.u:=by
    have hv:vT n c .one=true:=hv
    cases c<;>first|rfl|simp[vT]at hv
   rw[kT,dD,if_pos (by simp[eB]),hc];exact ak
  |
   plus h1 h2 _ =>
   rcases je hv with⟨w,rfl,hw⟩|⟨w,rfl,hw⟩
   ·simp only[Vl.nodes]at hm
    rename_i a b _ _
    simp only[cW,Vl.nodes]at hk
    have:=qc n m w (by omega) _ s _ σ h1 hσ hl.1 hw v k (by omega)
    exact pP (g:=.l) this
   ·simp only[Vl.nodes]at hm
    simp only[cW,Vl.nodes]at hk
    have:=qc n m w (by omega) _ s _ σ h2 hσ hl.2 hw v k (by omega)
    exact pP (g:=.r) this
  |
   times h1 h2 _ =>
   rcases je hv with⟨w,rfl,hw⟩|⟨w,rfl,hw⟩
   ·obtain⟨x,y,rfl,hx,hy⟩:=gq hw
    simp only[Vl.nodes]at hm
    simp only[cW,Vl.nodes]at hk
    have:=qc n m x (by omega) _ s _ σ h1 hσ hl.1 hx v k (by omega)
    exact aC _ (pP (g:=fun c=>.l (.p c y)) this)
   ·obtain⟨x,y,rfl,hx,hy⟩:=gq hw
    simp only[Vl.nodes]at hm
    simp only[cW,Vl.nodes]at hk
    have:=qc n m y (by omega) _ s _ σ h2 hσ hl.2 hy v k (by omega)
    exact aB _ (pP (g:=fun c=>.r (.p x c)) this)
  |
   @rc a _ c0 d0 x hx hs h1 h2 hsz =>
   have lo:jv (dB (.name x) a 0) 0:=gG x a hl
   obtain⟨X,e1,e2⟩:=oC (x:=x) hσ hl (h1.lc lo) (h2.lc lo)
   have hv':=hv
   rw[e1]at hv'
   obtain⟨w,rfl,hw⟩:=Cq hv'
   rw[e2]at hw
   have hcl:=lr hσ x (jO hσ (.rc a) hl)
   rcases je hw with⟨y,rfl,hy⟩|⟨y,rfl,hy⟩
   ·simp only[Vl.nodes]at hm
    simp only[cW,Vl.nodes]at hk
    have:=qc n m y (by omega) _ s _ _ h1 hcl lo hy v k (by rw[dN x y.nodes y a 0 v (au _)];omega)
    rw[dN x y.nodes y a 0 v (au _),fJ x k a 0 (.nm s) (.nm s) _ hx (.inr (.inl ⟨s,Ne.symm hs,rfl,rfl⟩))]at this
    exact aC _ (pP (g:=fun c=>.f (.l c)) this)
   ·obtain⟨y,z,rfl,hy,hz⟩:=gq hy
    simp only[Vl.nodes]at hm
    simp only[cW,Vl.nodes]at hk
    have q1:=qc n m y (by omega) _ x _ _ h2 hcl lo hy (cW (.rc a) z v) k (by rw[dN x y.nodes y a 0 _ (au _)];omega)
    rw[dN x y.nodes y a 0 _ (au _),fJ x k a 0 (.bd 0) (.nm x) _ hx (.inl ⟨rfl,rfl⟩)]at q1
    have hsz2:=(fg k a (.bd 0) _ _ q1).1
    have q2:=qc n m z (by omega) (.rc a) s _ σ (.rc x hx hs h1 h2 hsz) hσ hl hz v k (by simp only at hsz2;omega)
    exact aB _ (List.mem_flatMap.2 ⟨_,q1,pP (g:=fun c=>.f (.r (.p y c))) q2⟩)
theorem H6{n:Nat}{a D:Ty}{x:Nm}(hx:bn x a=false)(hl:jv (.rc a) 0)(h:nX a x=some D){c:Vl}(hc:vT n c D=true)(v:Vl):(c,v)∈kids a (.f (cW a c v)):=by
 simp only[nX,bg,cQ,eM]at h
 obtain⟨d,hd,_,rfl⟩:=h
 have lo:jv (dB (.name x) a 0) 0:=gG x a hl
 have hcl:=lr qS x hl
 have e1:sub x (.rc a) d=eN (iQ Du x (.rc a)) d:=by
  have:=iq Du x (.rc a) d
  rw[iV,iV]at this;exact this
 rw[e1]at hc
 have h1:=qc n c.nodes c (au _) _ x _ _ hd hcl lo hc v (cW a c v).nodes (by rw[dN x c.nodes c a 0 v (au _)];omega)
 rw[dN x c.nodes c a 0 v (au _),fJ x _ a 0 (.bd 0) (.nm x) _ hx (.inl ⟨rfl,rfl⟩)]at h1
 exact h1
end Go.Proofs.Trees
namespace Go.Proofs.Trees
open Go Go.VL Go.RowKit
theorem ZT.OT{s d:Nm}{a:Ty}{x A B:E}{D:Ty}(z:ZT s d a x A B D){c:Nm}{w:Vl}(h:nA d c 100=some w)(v:Vl):(w,v)∈kids a (.f (cW a w v)):=by
 obtain⟨e,t,m,h1,h2,h3,h4,h5,h6,h7⟩:=oV h
 have hm:m=100:=by omega
 subst hm
 have:=tW h3
 rw[z.bk]at this;cases this
 rw[ng h4]at h7
 obtain⟨e2,he2,hw2,hte2,_,_⟩:=nU z.y
 have hlc:jv (.rc a) 0:=hte2 ▸ hw2.qt.1
 exact H6 (uq z.y) hlc z.lp h7 v
end Go.Proofs.Trees
namespace Go.Proofs.Trees
open Go Go.VL Go.RowKit
theorem St.E9{s d:Nm}{a:Ty}{l l':List Vl}{v w c:Vl}(h:St s d a l v)(hu:si a l v=some (l',w))(hc:l=l'++[c]):w=.f (cW a c v)/\∃k:Nat,(kids a w)[k]?=some (c,v)/\Ep c.cM (kids a w) 0=(k:Int):=by
 obtain⟨x,A,B,D,z⟩:=h.z
 have h':=h.up hu
 obtain⟨_,_,c',hc',hw⟩:=tQ h.i hu
 have e:c=c':=by rw[hc]at hc';exact List.singleton_inj.1 (List.append_cancel_left hc')
 subst e
 have hm:(c,v)∈kids a w:=by rw[hw];exact z.OT (h.each c (by rw[hc];simp)) v
 obtain⟨k,hk⟩:=List.getElem?_of_mem hm
 refine⟨hw,k,hk,?_⟩
 have:=ww (kids a w) 0 k _ (xD a w) (fun x hx=>(j4 h'.i.pD.ic hx).1) hk
 simpa using this
theorem St.RT{s d:Nm}{a:Ty}{l:List Vl}{v w c:Vl}(h:St s d a l v){k:Hl}(hk:k∈kids a v)(hv:nA d k.1.cM 100=some k.1):k.1.nodes<=200:=by
 obtain⟨x,A,B,D,z⟩:=h.z
 obtain⟨t1,_,_⟩:=z.N7 h.i.pD hk
 rw[z.OJ (j4 h.i.pD.ic hk).1 t1]at hv
 split at hv
 ·assumption
 ·cases hv
theorem St.back{s d:Nm}{a:Ty}{l l':List Vl}{v w c:Vl}(h:St s d a l v)(hu:si a l v=some (l',w))(hc:l=l'++[c]):uS a l' w (Ep c.cM (kids a w) 0)=some (l,v):=by
 obtain⟨_,k,hk,e⟩:=h.E9 hu hc
 have hlen:=h.len
 have hm:=List.mem_of_getElem? hk
 have hn:c.nodes<=200:=(h.up hu).RT (w:=v) (c:=v) hm (h.each c (by rw[hc];simp))
 have hlt:k<(kids a w).length:=(List.getElem?_eq_some_iff.1 hk).1
 have hg:(kids a w).getD k (.u,.u)=(c,v):=by rw[aa,hk];rfl
 rw[e];unfold uS
 rw[if_neg (by rw[hc]at hlen;simp at hlen;omega),if_pos ⟨by omega,by simpa using hlt⟩,bZ,hg,if_pos hn,hc]
theorem zC{s:Nm}{p:List Nm}{f:Nm}{r:List Vl×Vl}(h:gF s p f=some r):∃d,cJ s=some d/\St s d (zA s) r.1 r.2/\p=r.1.map (·.cM)/\f=r.2.cM/\∃w,sr (zA s) r.1 r.2=some w:=by
 obtain⟨h1,h2⟩:=iO (l:=r.1) (v:=r.2) h
 obtain⟨d,hd,hs,hp,hf⟩:=wx h1
 obtain⟨w,hw⟩:=bR.1 h2
 exact⟨d,hd,hs,hp,hf,w,hw⟩
theorem Ik{s:Nm}{p:List Nm}{f:Nm}{k:Int}{r:List Vl×Vl}(h:oX s p f k=some r):∃r0 pl w,gF s p f=some r0/\p=r0.1.map (·.cM)/\f=r0.2.cM/\RQ s (r.1.map (·.cM)) r.2.cM=some r0/\uJ s p f=some w/\uJ s (r.1.map (·.cM)) r.2.cM=some w/\D1 s p f=some pl/\D1 s (r.1.map (·.cM)) r.2.cM=some (pl++[k])/\r.1.length=r0.1.length+1/\r0.1.length<50:=by
 obtain⟨r0,h0,h1⟩:=bg.1 h
 obtain⟨d,hd,hs,hp,hf,w,hw⟩:=zC h0
 obtain⟨l,v⟩:=r0
 obtain⟨l',v'⟩:=r
 simp only at h1 hs hp hf hw |-
 have hro:Oe s (some (l,v)):=fun q hq=>by cases hq;rw[<-hp,<-hf];exact h0
 have hv:gF s (l'.map (·.cM)) v'.cM=some (l',v'):=hro.dn k (l',v') h1
 obtain⟨g1,g2,g3⟩:=hs.dn h1
 obtain⟨e1,e2⟩:=Hk hs h1
 have h50:=g1.len
 refine⟨(l,v),vG l.length (zA s) l v,w.cM,h0,hp,hf,?_,?_,?_,?_,?_,g3,by simp only;omega⟩
 ·unfold RQ;rw[hv];exact g2
 ·unfold uJ;rw[h0];simp[hw]
 ·unfold uJ;rw[hv];simp[e2,hw]
 ·unfold D1;rw[h0];rfl
 ·unfold D1;rw[hv];simp[e1]
end Go.Proofs.Trees
namespace Go.Proofs.Trees
open Go Go.VL Go.RowKit
theorem zS{s:Nm}{p:List Nm}{f:Nm}(h:0<=jx s p f):oX s p f (jx s p f)=none:=by
 unfold jx at h |-
 unfold oX
 cases q:gF s p f with
 |none=>rfl
 |
  some r =>
  simp only[ba]
  unfold uS
  split
  ·rfl
  ·rw[if_neg (by simp)]
theorem G0{s:Nm}{p:List Nm}{f:Nm}{k:Int}(h:(oX s p f k).isSome=true):(bD (tZ s (oX s p f k)).2.1).length=p.length+1:=by
 obtain⟨r,hr⟩:=bR.1 h
 obtain⟨r0,_,_,_,hp,_,_,_,_,_,_,hl,_⟩:=Ik hr
 rw[hr]
 simp only[tZ,bD,cn,hl,hp]
theorem GW(s:Nm)(p:List Nm)(f:Nm)(hp:p.length<=52)(b:Bool)(m:Nat)(hm:m<=1000):∀(k i:Nat),i+k=m->Fb [.v (.int .i64 (m:Int)),.v (.bool b),.v (.int .i64 (i:Int))] [.cells [.v (.string (mk s)),.sl (bD p),.v (.string (mk f))]] (iF 1 [.v (.bool b)] [])
 |
  0,i,hi=>by
  refine Jh _ _ _ _ _ _ ?_
  have:i=m:=by omega
  subst this
  simp only[Fi,↓zq,zs,ac,zt,ac]
  exact⟨fun h=>by omega,fun _=>⟨rfl,rfl,rfl⟩⟩
 |
  k+1,i,hi=>by
  refine Jh _ _ _ _ _ _ ?_
  have hsl:(bD p).length=p.length:=by simp[bD]
  simp only[Fi,↓zq,zs,ac,zt,ac,hsl]
  refine⟨fun _=>⟨fun _=>?_,fun _=>⟨rfl,rfl,rfl⟩⟩,fun h=>by omega⟩
  refine aY (Nx s _ p (cF.of p) f (i:Int)) ?_
  simp only[↓zq,zs,ac,zt,aM,Ob.es,aS]
  rw[bA i (by omega),bA p.length (by omega)]
  refine⟨ep _,fun h=>⟨fun h2=>?_,fun _=>?_⟩,fun _=>?_⟩
  ·exact absurd (by rw[G0 h]) h2
  ·exact GW s p f hp b m hm k (i+1) (by omega)
  ·exact GW s p f hp b m hm k (i+1) (by omega)
theorem OS(a:AV)(ha:yY a):aq Tryz.prog 7 [a] [] (bK (.v (.bool true))):=by
 refine QJ _ ha.1 ?_
 simp only[KE,↓zq,zs,ac,zt,bK]
 refine⟨ha.1,fun _=>trivial,fun _=>?_⟩
 refine aQ (O8 a ha) N2.ne ?_
 rintro r o ⟨rfl,s,p,f,hp,rfl⟩
 simp only[↓zq,zs,ac,zt,bH]
 refine ai (QQ s _ p (cF.of p) f) ?_
 simp only[↓zq,zs,ac,zt]
 refine ai (MU s _ p (cF.of p) f) ?_
 have hm:=wg s p f
 simp only[↓zq,zs,ac,zt]
 refine⟨fun h=>absurd rfl h,fun _=>⟨fun _=>by simp,fun h=>?_⟩⟩
 have hk:=zS (s:=s) (p:=p) (f:=f) (by omega)
 have hd:=Nx s _ p (cF.of p) f (jx s p f)
 rw[hk]at hd
 refine aY hd ?_
 simp only[↓zq,zs,ac,zt,aM,Ob.es,aS,bq]
 refine⟨ep _,?_⟩
 obtain⟨m,hm2⟩:∃m:Nat,jx s p f=(m:Int):=⟨(jx s p f).toNat,by omega⟩
 rw[hm2]
 refine cB (GW s p f hp false m (by omega) m 0 (by omega)) ?_
 simp only[↓zq,zs,ac,zt]
 rfl
end Go.Proofs.Trees
