/-
  Part of a proof: Go functions read by values, trees of functions, their contracts.
-/
import Derived.Test.YtphdaefkjfbfoaaDoorP4
set_option linter.unusedVariables false
set_option linter.unusedSimpArgs false
open Bool renaming and_eq_true→ag,or_eq_true→aY,true_and→bY
open Int renaming tmod→cF
open List renaming all_cons→bK,all_eq_true→a7,cons_append→bh,getD_eq_getElem?_getD→aa,getElem?_eq_getElem→bb,getElem_mem→bJ,length_append→ah,length_cons→aj,length_nil→aD,mem_append→aN,mem_cons→aE,mem_cons_self→ac,mem_singleton→bq,nil_append→bp
open Nat renaming le_add_right→bL,le_refl→aw,mod_lt→cD,mul_add→cy,zero_add→aR
open Option renaming bind_eq_some_iff→bO,bind_none→cN,bind_some→bE,getD_some→bU
namespace Go.Proofs.Trees
open Go Go.VL Go.RowKit
abbrev wu(f:Nat)(g:Bool):Ob:=.cells [.v (.int .i64 (f:Int)),.v (.bool g)]
theorem C9(f:Nat)(g:Bool)(hf:f<100000000):aC Tryd.prog 47 [.ref 0 0] [wu f g] (eA (.v (.string (mk (hN (f+1))))) [wu (f+1) g]):=by
 refine CV _ _ ?_
 simp only[zW,↓zq,zs,an,zt]
 rw[cK f (by omega)]
 refine aG (yF (f+1) (by omega)) ?_
 have hd:=kG 8 (f+1) (by omega)
 simp only[↓zq,zs,an,zt,bh,bp]
 exact⟨by simp[dK];omega,rfl,rfl⟩
def pf(g:Bool)(t:Ty):Ty:=if g=true\/400<t.aq then .zero else t
def tx(g:Bool)(t:Ty):Bool:=g||decide (400<t.aq)
theorem sd(t:Ty):pf true t=.zero:=by simp[pf]
theorem rA(t:Ty):tx true t=true:=rfl
theorem tK{t:Ty}(h:t.aq<=400):pf false t=t:=by simp[pf,show ¬400<t.aq by omega]
theorem tS{t:Ty}(h:t.aq<=400):tx false t=false:=by simp[tx,show ¬400<t.aq by omega]
theorem Bi{t:Ty}(h:¬t.aq<=400):tx false t=true:=by simp[tx,show 400<t.aq by omega]
theorem A6{t:Ty}(h:¬t.aq<=400):pf false t=.zero:=by simp[pf,show 400<t.aq by omega]
theorem rF(f:Nat)(g:Bool)(t:Ty)(hl:t.aq<1000000):aC Tryd.prog 45 [.ref 0 0,t.av] [wu f g] (eA (pf g t).av [wu f (tx g t)]):=by
 refine DV _ _ _ ((aB _).mpr trivial) ?_
 simp only[Ab,↓zq,zs,an,zt]
 cases g with
 |true=>exact⟨fun _=>⟨rfl,rfl⟩,fun h=>(by cases h)⟩
 |
  false =>
  refine⟨fun h=>(by cases h),fun _=>?_⟩
  refine aG (xL t hl) ?_
  simp only[↓zq,zs,an,zt]
  refine⟨fun h=>?_,fun h=>?_⟩
  ·have h:400<t.aq:=by omega
   simp[pf,tx,h,eA,Ty.av]
  ·have h:¬400<t.aq:=by omega
   simp[pf,tx,h,eA]
theorem zo(t:Ty)(s:Nm)(f:Nat):aC Tryd.prog 30 [.ref 0 0,t.av,.v (.string (mk s))] [wu f true] (eA Ty.zero.av [wu f true]):=by
 refine At _ _ _ _ ((aB _).mpr trivial) ?_
 simp only[wJ,↓zq,zs,an]
 exact⟨fun _=>⟨rfl,rfl⟩,fun h=>(by cases h)⟩
def wh(f:Nat)(t:Ty):Prop:=∀j,f<j->ba (hN j) t=false
def lG(o:Option Ty)(t:Ty):Nat:=match o with|some d=>d.aq|none=>1000*t.aq
def uN(o:Option Ty)(f B:Nat):AV->List Ob->Prop:=fun r ob=>∃f':Nat,f<=f'/\f'<=f+B/\r=(o.getD .zero).av/\ob=[wu f' o.isNone]
theorem uN.ne(o:Option Ty)(f B:Nat):∃r ob,uN o f B r ob:=⟨_,_,f,aw _,bL _ _,rfl,rfl⟩
theorem mz{f f':Nat}{t:Ty}(h:wh f t)(hf:f<=f'):wh f' t:=fun j hj=>h j (by omega)
theorem yu:∀(n:Nat) (t:Ty),t.aq<=n->t.aq<=400->∀(s:Nm) (f:Nat),wh f t->(∀j,f<j->s≠hN j)->f+1000*t.aq<50000000->aC Tryd.prog 30 [.ref 0 0,t.av,.v (.string (mk s))] [wu f false] (uN (jy t s) f (lG (jy t s) t))
 |0,t,h=>by have:=ew t;omega
 |
  n+1,t,hn=>by
  intro h4 s f hf hs hb
  refine At _ _ _ _ ((aB _).mpr trivial) ?_
  have fin0:∀u:Ty,jy t s=some u->uN (jy t s) f (lG (jy t s) t) u.av [wu f false]:=fun u hu=>by
   rw[hu];exact⟨f,aw _,bL _ _,rfl,rfl⟩
  cases t with
  |
   zero =>
   have:=fin0 .zero (uj s)
   simpa[wJ,Ty.av,↓zq,zs,an]using this
  |
   one =>
   have:=fin0 .zero (wY s)
   simpa[wJ,Ty.av,↓zq,zs,an]using this
  |
   bm k =>
   have:=fin0 .zero (s7 k s)
   simpa[wJ,Ty.av,↓zq,zs,an]using this
  |
   name c =>
   simp only[wJ,Ty.av,↓zq,zs,an,zt]
   refine⟨fun h=>(by cases h),fun _=>⟨by omega,fun _=>⟨by omega,fun h=>?_,fun h=>?_⟩,fun h=>absurd rfl h⟩⟩
   ·exact fin0 .one (by rw[pj,if_pos h])
   ·exact fin0 .zero (by rw[pj,if_neg h])
  |
   plus a b =>
   simp only[Ty.aq]at hn h4 hb
   have pa:=ew a
   have pb:=ew b
   have fa:wh f a:=fun j hj=>by have:=hf j hj;simp only[ba,Bool.or_eq_false_iff]at this;exact this.1
   have fb:wh f b:=fun j hj=>by have:=hf j hj;simp only[ba,Bool.or_eq_false_iff]at this;exact this.2
   simp only[wJ,Ty.av,↓zq,zs,an,zt,aB]
   refine⟨fun h=>(by cases h),fun _=>⟨by omega,fun h=>by omega,fun _=>⟨fun _=>?_,fun h=>absurd rfl h⟩⟩⟩
   repeat refine⟨by omega,?_⟩
   rw[uf]
   refine aV (yu n a (by omega) (by omega) s f fa hs (by omega)) (uN.ne _ _ _) ?_
   rintro r ob ⟨f1,g1,g2,rfl,rfl⟩
   simp only[↓zq,zs,an,zt,aM,aB]
   repeat refine⟨by omega,?_⟩
   cases q1:jy a s with
   |
    none =>
    rw[q1]at g2
    simp only[lG]at g2
    simp only[Option.isNone_none,Option.getD_none,cN]
    refine a6 (zo b s f1) ?_
    simp only[↓zq,zs,an,zt,aM,aB]
    repeat refine⟨by omega,?_⟩
    refine aG (su 43 _ _) ?_
    simp only[↓zq,zs,an,zt,cI]
    refine a6 (rF f1 true (.plus .zero .zero) (by simp[Ty.aq])) ?_
    simp only[↓zq,zs,an,zt,aM,aB]
    exact⟨f1,g1,by simp only[lG,Ty.aq];omega,rfl,rfl⟩
   |
    some a' =>
    rw[q1]at g2
    simp only[lG]at g2
    have la:=(cw.1 q1).small
    simp only[Option.isNone_some,bU,bE]
    refine aV (yu n b (by omega) (by omega) s f1 (mz fb g1) (fun j hj=>hs j (by omega)) (by omega)) (uN.ne _ _ _) ?_
    rintro r ob ⟨f2,k1,k2,rfl,rfl⟩
    simp only[↓zq,zs,an,zt,aM,aB]
    repeat refine⟨by omega,?_⟩
    refine aG (su 43 _ _) ?_
    simp only[↓zq,zs,an,zt,cI]
    cases q2:jy b s with
    |
     none =>
     rw[q2]at k2
     simp only[lG]at k2
     simp only[Option.isNone_none,Option.getD_none,cN]
     refine a6 (rF f2 true (.plus a' .zero) (by simp[Ty.aq];omega)) ?_
     simp only[↓zq,zs,an,zt,aM,aB]
     exact⟨f2,by omega,by simp only[lG,Ty.aq];omega,rfl,rfl⟩
    |
     some b' =>
     rw[q2]at k2
     simp only[lG]at k2
     have lb:=(cw.1 q2).small
     simp only[Option.isNone_some,bU,bE]
     refine a6 (rF f2 false (.plus a' b') (by simp only[Ty.aq];omega)) ?_
     simp only[↓zq,zs,an,zt,aM,aB]
     unfold rI
     by_cases hle:(Ty.plus a' b').aq<=400
     ·rw[if_pos hle]
      refine⟨f2,by omega,by simp only[lG,Ty.aq];omega,?_,?_⟩
      ·simp[pf,show ¬400<(Ty.plus a' b').aq by omega]
      ·simp[tx,show ¬400<(Ty.plus a' b').aq by omega]
     ·rw[if_neg hle]
      refine⟨f2,by omega,by simp only[lG,Ty.aq];omega,?_,?_⟩
      ·simp[pf,show 400<(Ty.plus a' b').aq by omega]
      ·simp[tx,show 400<(Ty.plus a' b').aq by omega]
  |
   times a b =>
   simp only[Ty.aq]at hn h4 hb
   have pa:=ew a
   have pb:=ew b
   have fa:wh f a:=fun j hj=>by have:=hf j hj;simp only[ba,Bool.or_eq_false_iff]at this;exact this.1
   have fb:wh f b:=fun j hj=>by have:=hf j hj;simp only[ba,Bool.or_eq_false_iff]at this;exact this.2
   simp only[wJ,Ty.av,↓zq,zs,an,zt,aB]
   refine⟨fun h=>(by cases h),fun _=>⟨by omega,fun h=>by omega,fun _=>⟨fun h=>by omega,fun _=>⟨fun _=>?_,fun h=>absurd rfl h⟩⟩⟩⟩
   repeat refine⟨by omega,?_⟩
   rw[tb]
   refine aV (yu n a (by omega) (by omega) s f fa hs (by omega)) (uN.ne _ _ _) ?_
   rintro r ob ⟨f1,g1,g2,rfl,rfl⟩
   simp only[↓zq,zs,an,zt,aM,aB]
   repeat refine⟨by omega,?_⟩
   refine aG (su 42 _ _) ?_
   simp only[↓zq,zs,an,zt,cI]
   repeat refine⟨by omega,?_⟩
   cases q1:jy a s with
   |
    none =>
    rw[q1]at g2
    simp only[lG]at g2
    simp only[Option.isNone_none,Option.getD_none,cN]
    refine a6 (zo b s f1) ?_
    simp only[↓zq,zs,an,zt,aM,aB]
    repeat refine⟨by omega,?_⟩
    refine aG (su 42 _ _) ?_
    simp only[↓zq,zs,an,zt,cI]
    refine aG (su 43 (.times .zero b) (.times a .zero)) ?_
    simp only[↓zq,zs,an,zt,cI]
    refine a6 (rF f1 true (.plus (.times .zero b) (.times a .zero)) (by simp only[Ty.aq];omega)) ?_
    simp only[↓zq,zs,an,zt,aM,aB]
    exact⟨f1,g1,by simp only[lG,Ty.aq];omega,rfl,rfl⟩
   |
    some a' =>
    rw[q1]at g2
    simp only[lG]at g2
    have la:=(cw.1 q1).small
    simp only[Option.isNone_some,bU,bE]
    refine aV (yu n b (by omega) (by omega) s f1 (mz fb g1) (fun j hj=>hs j (by omega)) (by omega)) (uN.ne _ _ _) ?_
    rintro r ob ⟨f2,k1,k2,rfl,rfl⟩
    simp only[↓zq,zs,an,zt,aM,aB]
    repeat refine⟨by omega,?_⟩
    refine aG (su 42 _ _) ?_
    simp only[↓zq,zs,an,zt,cI]
    cases q2:jy b s with
    |
     none =>
     rw[q2]at k2
     simp only[lG]at k2
     simp only[Option.isNone_none,Option.getD_none,cN]
     refine aG (su 43 (.times a' b) (.times a .zero)) ?_
     simp only[↓zq,zs,an,zt,cI]
     refine a6 (rF f2 true (.plus (.times a' b) (.times a .zero)) (by simp only[Ty.aq];omega)) ?_
     simp only[↓zq,zs,an,zt,aM,aB]
     exact⟨f2,by omega,by simp only[lG,Ty.aq];omega,rfl,rfl⟩
    |
     some b' =>
     rw[q2]at k2
     simp only[lG]at k2
     have lb:=(cw.1 q2).small
     simp only[Option.isNone_some,bU,bE]
     refine aG (su 43 (.times a' b) (.times a b')) ?_
     simp only[↓zq,zs,an,zt,cI]
     refine a6 (rF f2 false (.plus (.times a' b) (.times a b')) (by simp only[Ty.aq];omega)) ?_
     simp only[↓zq,zs,an,zt,aM,aB]
     unfold rI
     by_cases hle:(Ty.plus (.times a' b) (.times a b')).aq<=400
     ·rw[if_pos hle]
      refine⟨f2,by omega,by simp only[lG,Ty.aq];omega,?_,?_⟩
      ·simp[pf,show ¬400<(Ty.plus (.times a' b) (.times a b')).aq by omega]
      ·simp[tx,show ¬400<(Ty.plus (.times a' b) (.times a b')).aq by omega]
     ·rw[if_neg hle]
      refine⟨f2,by omega,by simp only[lG,Ty.aq];omega,?_,?_⟩
      ·simp[pf,show 400<(Ty.plus (.times a' b) (.times a b')).aq by omega]
      ·simp[tx,show 400<(Ty.plus (.times a' b) (.times a b')).aq by omega]
  |
   rc a =>
   simp only[Ty.aq]at hn h4 hb
   have pa:=ew a
   have fa:wh f a:=fun j hj=>hf j hj
   have hxa:ba (hN (f+1)) a=false:=fa _ (by omega)
   have hxs:hN (f+1)≠s:=fun e=>hs _ (by omega) e.symm
   have fo:wh (f+1) (eT (.name (hN (f+1))) a 0):=fun j hj=>by
    cases q:ba (hN j) (eT (.name (hN (f+1))) a 0)with
    |false=>rfl
    |
     true =>
     rcases eF a 0 q with e|e
     ·have:=tT e;omega
     ·rw[fa j (by omega)]at e;cases e
   have hoa:(eT (.name (hN (f+1))) a 0).aq=a.aq:=eh _ _ _
   have hop:=zH (.name (hN (f+1))) a 0 (by omega)
   rw[yj hxa hxs]
   simp only[wJ,Ty.av,↓zq,zs,an,zt,aB]
   refine⟨fun h=>(by cases h),fun _=>⟨by omega,fun h=>by omega,fun _=>⟨fun h=>by omega,fun _=>⟨fun h=>by omega,fun _=>⟨fun _=>?_,fun h=>absurd rfl h⟩⟩⟩⟩⟩
   refine a6 (C9 f false (by omega)) ?_
   simp only[↓zq,zs,an,zt,aM,aB]
   repeat refine⟨by omega,?_⟩
   simp only[Ty.av]at hop
   refine aG hop ?_
   simp only[↓zq,zs,an,zt,aM,aB]
   refine aV (yu n (eT (.name (hN (f+1))) a 0) (by omega) (by omega) s (f+1) fo (fun j hj=>hs j (by omega)) (by omega)) (uN.ne _ _ _) ?_
   rintro r ob ⟨f1,g1,g2,rfl,rfl⟩
   simp only[↓zq,zs,an,zt,aM,aB]
   generalize hx:hN (f+1)=x at *
   generalize hin:eT (.name x) a 0=i at *
   have hrc:(Ty.rc a).av=.ptr [.v (.int .u8 114),.v (.string (mk [])),.v (.int .i64 0),a.av,.v (.pointer none)]:=rfl
   cases q1:jy i s with
   |
    none =>
    rw[q1]at g2
    simp only[lG]at g2
    simp only[Option.isNone_none,Option.getD_none,cN]
    refine a6 (rF f1 true .zero (by simp[Ty.aq])) ?_
    simp only[↓zq,zs,an,zt,aM,aB]
    rw[<-hrc]
    refine aG (vJ x (.rc a) _) ?_
    simp only[↓zq,zs,an,zt,aB]
    refine a6 (zo i x f1) ?_
    simp only[↓zq,zs,an,zt,aM,aB]
    refine a6 (rF f1 true .zero (by simp[Ty.aq])) ?_
    simp only[↓zq,zs,an,zt,aM,aB]
    refine aG (vJ x (.rc a) _) ?_
    simp only[↓zq,zs,an,zt,aB]
    refine aG (su 42 _ (.bm 0)) ?_
    simp only[↓zq,zs,an,zt,cI]
    refine aG (su 43 (sub x (.rc a) (pf true .zero)) (.times (sub x (.rc a) (pf true .zero)) (.bm 0))) ?_
    simp only[↓zq,zs,an,zt,cI,rA]
    have hz:sub x (.rc a) (pf true .zero)=.zero:=by rw[sd];rfl
    refine a6 (rF f1 true (.rc (.plus (sub x (.rc a) (pf true .zero)) (.times (sub x (.rc a) (pf true .zero)) (.bm 0)))) (by rw[hz];simp only[Ty.aq];omega)) ?_
    simp only[↓zq,zs,an,zt,aM,aB]
    rw[sd,rA]
    exact⟨f1,by omega,by simp only[lG,Ty.aq];omega,rfl,rfl⟩
   |
    some c =>
    rw[q1]at g2
    simp only[lG]at g2
    have lc:=(cw.1 q1).small
    simp only[Option.isNone_some,bU,bE]
    refine a6 (rF f1 false c (by omega)) ?_
    simp only[↓zq,zs,an,zt,aM,aB]
    rw[tK lc,tS lc,<-hrc]
    refine aG (vJ x (.rc a) c) ?_
    simp only[↓zq,zs,an,zt,aB]
    refine aV (yu n i (by omega) (by omega) x f1 (mz fo g1) (fun j hj=>by rw[<-hx];exact fun e=>by have:=tT e;omega) (by omega)) (uN.ne _ _ _) ?_
    rintro r ob ⟨f2,k1,k2,rfl,rfl⟩
    simp only[↓zq,zs,an,zt,aM,aB]
    have hsc:(sub x (.rc a) c).aq+fN x c=c.aq+fN x c*(Ty.rc a).aq:=cX x (.rc a) c
    have hcc:∀t:Ty,fN x t<=t.aq:=fun t=>by
     have h1:=cX x .zero t
     have h2:=ei x .zero t
     simp only[Ty.aq,Nat.mul_one]at h1
     have h3:∀t:Ty,fN x t<=t.aq:=by
      intro t
      induction t with
      |name s=>simp only[fN,Ty.aq];split<;>omega
      |plus a b i1 i2=>simp only[fN,Ty.aq];omega
      |times a b i1 i2=>simp only[fN,Ty.aq];omega
      |rc a i=>simp only[fN,Ty.aq];omega
      |_=>simp[fN,Ty.aq]
     exact h3 t
    have hbig:∀t:Ty,t.aq<=400->(sub x (.rc a) t).aq<=400+400*402:=fun t ht=>by
     have h1:=cX x (.rc a) t
     have h2:=hcc t
     have h3:fN x t*(Ty.rc a).aq<=400*402:=Nat.mul_le_mul (by omega) (by simp only[Ty.aq];omega)
     omega
    have b1:=hbig c lc
    cases q2:jy i x with
    |
     none =>
     rw[q2]at k2
     simp only[lG]at k2
     simp only[Option.isNone_none,Option.getD_none,cN]
     refine a6 (rF f2 true .zero (by simp[Ty.aq])) ?_
     simp only[↓zq,zs,an,zt,aM,aB]
     rw[sd,rA]
     refine aG (vJ x (.rc a) .zero) ?_
     simp only[↓zq,zs,an,zt,aB]
     refine aG (su 42 _ (.bm 0)) ?_
     simp only[↓zq,zs,an,zt,cI]
     refine aG (su 43 (sub x (.rc a) c) (.times (sub x (.rc a) .zero) (.bm 0))) ?_
     simp only[↓zq,zs,an,zt,cI]
     refine a6 (rF f2 true (.rc (.plus (sub x (.rc a) c) (.times (sub x (.rc a) .zero) (.bm 0)))) (by simp only[sub,Ty.aq];omega)) ?_
     simp only[↓zq,zs,an,zt,aM,aB]
     rw[sd,rA]
     exact⟨f2,by omega,by simp only[lG,Ty.aq];omega,rfl,rfl⟩
    |
     some d =>
     rw[q2]at k2
     simp only[lG]at k2
     have ld:=(cw.1 q2).small
     have b2:=hbig d ld
     simp only[Option.isNone_some,bU,bE]
     refine a6 (rF f2 false d (by omega)) ?_
     simp only[↓zq,zs,an,zt,aM,aB]
     rw[tK ld,tS ld]
     refine aG (vJ x (.rc a) d) ?_
     simp only[↓zq,zs,an,zt,aB]
     refine aG (su 42 _ (.bm 0)) ?_
     simp only[↓zq,zs,an,zt,cI]
     refine aG (su 43 (sub x (.rc a) c) (.times (sub x (.rc a) d) (.bm 0))) ?_
     simp only[↓zq,zs,an,zt,cI]
     have hdrc:ql a x c d=.rc (.plus (sub x (.rc a) c) (.times (sub x (.rc a) d) (.bm 0))):=rfl
     refine a6 (rF f2 false (ql a x c d) (by rw[hdrc];simp only[Ty.aq];omega)) ?_
     simp only[↓zq,zs,an,zt,aM,aB]
     have s1:=ei x (.rc a) c
     have s2:=ei x (.rc a) d
     unfold rI
     by_cases hle:(ql a x c d).aq<=400
     ·rw[if_pos hle,tK hle,tS hle]
      exact⟨f2,by omega,by simp only[lG,hdrc,Ty.aq];omega,rfl,rfl⟩
     ·rw[if_neg hle,A6 hle,Bi hle]
      exact⟨f2,by omega,by simp only[lG,Ty.aq];omega,rfl,rfl⟩
def D7(o:Option Ty):AV->List Ob->Prop:=fun r ob=>ob=[]/\∃p,LK.ptr.has p/\r=.dm [p,.v (.bool o.isSome)]/\∀d,o=some d->p=d.av
theorem D7.ne(o:Option Ty):∃r ob,D7 o r ob:=by
 cases o with
 |none=>exact⟨_,_,rfl,my,(kC).mpr trivial,rfl,fun d h=>by cases h⟩
 |some d=>exact⟨_,_,rfl,d.av,(aB _).mpr trivial,rfl,fun d' h=>by cases h;rfl⟩
end Go.Proofs.Trees
namespace Go.Proofs.Trees
open Go Go.VL Go.RowKit
theorem mi(h:Nm)(a b:E):(gy (.list [.atom h,a,b])).length=h.length+(gy a).length+(gy b).length+4:=by
 simp only[gy,e6,aj,ah,aD];omega
theorem fg(F:List Nm)(hF:F.length<=10000):∀(t:Ty) (to:List Nm) (k:Nat),tH t->(∀w,w∈to->w.length<=20)->k+(F.length+1)*t.aq<90000000->(gy (fY F t to k).1).length<=50*t.aq
 | .zero,_,_,_,_,_=>by simp[fY,gy,Ty.aq]
 | .one,_,_,_,_,_=>by simp[fY,gy,Ty.aq]
 | .name s,_,_,hn,_,_=>by have:=hn s (by simp[ba]);simp only[fY,gy,Ty.aq];omega
 |
  .bm u,to,_,_,ht,_=>by
  show (iM to u).length<=50*1
  unfold iM
  by_cases h:to.length-1-u<to.length
  ·rw[aa,bb h];have:=ht _ (bJ h);simp only[bU];omega
  ·rw[aa,List.getElem?_eq_none (by omega)];simp
 |
  .plus a b,to,k,hn,ht,hk=>by
  have h1:=ib F a to k
  have:(F.length+1)*(1+a.aq+b.aq)=(F.length+1)+(F.length+1)*a.aq+(F.length+1)*b.aq:=by simp only[cy,Nat.mul_one]
  simp only[Ty.aq]at hk
  have i1:=fg F hF a to k (fun y hy=>hn y (by simp[ba,hy])) ht (by omega)
  have i2:=fg F hF b to _ (fun y hy=>hn y (by simp[ba,hy])) ht (show (fY F a to k).2+_<_ by omega)
  simp only[fY,mi,Ty.aq,aj,aD];omega
 |
  .times a b,to,k,hn,ht,hk=>by
  have h1:=ib F a to k
  have:(F.length+1)*(1+a.aq+b.aq)=(F.length+1)+(F.length+1)*a.aq+(F.length+1)*b.aq:=by simp only[cy,Nat.mul_one]
  simp only[Ty.aq]at hk
  have i1:=fg F hF a to k (fun y hy=>hn y (by simp[ba,hy])) ht (by omega)
  have i2:=fg F hF b to _ (fun y hy=>hn y (by simp[ba,hy])) ht (show (fY F a to k).2+_<_ by omega)
  simp only[fY,mi,Ty.aq,aj,aD];omega
 |
  .rc a,to,k,hn,ht,hk=>by
  obtain⟨g1,g2,_,_⟩:=jr F k
  have:(F.length+1)*(2+a.aq)=(F.length+1)*2+(F.length+1)*a.aq:=by simp only[cy]
  simp only[Ty.aq]at hk
  have hl:=ug (k:=nx F k) (by omega)
  have i1:=fg F hF a (to++[tN (nx F k)]) (nx F k+1) hn (fun w hw=>by
   rcases aN.1 hw with hw|hw
   ·exact ht w hw
   ·simp only[bq]at hw;rw[hw];exact hl) (by omega)
  simp only[fY,mi,Ty.aq,aj,aD]
  simp only[gy]
  simp only[aj]at hl |-
  omega
theorem AC(x0 a fv:AV)(F:List Nm)(h0:LK.ptr.has x0)(ha:LK.sl.has a)(hfv:dD fv F)(hF:F.length<100000):∀(n j:Nat),qT F n j<j+n->j+n<100000000 ->
 Ck [x0,a,.v (.string (mk (tN j)))] [.cells [fv],.cells [.v (.int .i64 ((j+1:Nat):Int))]] (vn 1 [x0,a,.v (.string (mk (tN (qT F n j))))] [.cells [fv],.cells [.v (.int .i64 ((qT F n j+1:Nat):Int))]])
 |0,j,h,_=>by simp only[qT]at h;omega
 |
  n+1,j,h,hj=>by
  refine Bw _ _ _ _ _ ?_
  simp only[yr,↓zq,zs,an,zt,an,hfv.1,h0,ha]
  refine⟨fun h=>(by simp at h),fun _=>?_⟩
  refine aG (Bk F fv hfv (tN j) (by omega)) ?_
  simp only[↓zq,zs,an,zt]
  rw[qT]at h |-
  refine⟨fun hm=>?_,fun hm=>?_⟩
  ·rw[if_pos hm]at h |-
   refine aG (yF (j+1) (by omega)) ?_
   have hd:=kG 8 (j+1) (by omega)
   simp only[↓zq,zs,an,zt,bh,bp]
   rw[cK (j+1) (by omega)]
   exact⟨by simp[dK];omega,AC x0 a fv F h0 ha hfv hF n (j+1) (by omega) (by omega)⟩
  ·rw[if_neg hm]
   exact⟨rfl,rfl,rfl⟩
theorem C5(x0 a fv:AV)(F:List Nm)(h0:LK.ptr.has x0)(ha:LK.sl.has a)(hfv:dD fv F)(hF:F.length<10000)(k:Nat)(hk:k<90000000) :
 Ck [x0,a,.v (.string (mk []))] [.cells [fv],.cells [.v (.int .i64 (k:Int))]] (vn 1 [x0,a,.v (.string (mk (tN (nx F k))))] [.cells [fv],.cells [.v (.int .i64 ((nx F k+1:Nat):Int))]]):=by
 obtain⟨g1,g2,_,_⟩:=jr F k
 refine Bw _ _ _ _ _ ?_
 simp only[yr,↓zq,zs,an,zt,an,hfv.1,h0,ha]
 refine⟨fun _=>?_,fun h=>(by simp at h)⟩
 refine aG (yF k (by omega)) ?_
 have hd:=kG 8 k (by omega)
 simp only[↓zq,zs,an,zt,bh,bp]
 rw[cK k (by omega)]
 exact⟨by simp[dK];omega,AC x0 a fv F h0 ha hfv (by omega) (F.length+1) k (by show nx F k<_;omega) (by omega)⟩
theorem zP(F:List Nm)(fv:AV)(hfv:dD fv F)(hF:F.length<=1000):∀(t:Ty) (to:List Nm) (a:AV) (k:Nat),dD a to->to.length+t.aq<10000->lq t to.length->tH t->(∀w,w∈to->w.length<=20)->k+(F.length+1)*t.aq<80000000 ->
 aC Tryd.prog 50 [t.av,a,.ec 50 [none,some 0,some 1],.ref 0 0,.ref 1 0] [.cells [fv],.cells [.v (.int .i64 (k:Int))]] (eA (.v (.string (mk (gy (fY F t to k).1)))) [.cells [fv],.cells [.v (.int .i64 ((fY F t to k).2:Int))]])
 |
  .zero,to,a,k,ha,hl,hlc,hs,ht,hk=>by
  refine ye _ _ _ _ ((aB _).mpr trivial) ha.1 hfv.1 ?_
  simp only[xJ,Ty.av,↓zq,zs,an,zt,aB]
  refine⟨by omega,fun h=>by omega,fun _=>⟨fun h=>by omega,fun _=>⟨fun h=>by omega,fun _=>⟨fun h=>by omega,fun _=>⟨fun h=>by omega,fun _=>?_⟩⟩⟩⟩⟩
  repeat refine⟨by omega,?_⟩
  exact⟨⟨rfl,(kh _ _).mpr trivial,trivial⟩,rfl,rfl⟩
 |
  .one,to,a,k,ha,hl,hlc,hs,ht,hk=>by
  refine ye _ _ _ _ ((aB _).mpr trivial) ha.1 hfv.1 ?_
  simp only[xJ,Ty.av,↓zq,zs,an,zt,aB]
  refine⟨by omega,fun h=>by omega,fun _=>⟨fun h=>by omega,fun _=>⟨fun h=>by omega,fun _=>⟨fun h=>by omega,fun _=>⟨fun h=>by omega,fun _=>?_⟩⟩⟩⟩⟩
  repeat refine⟨by omega,?_⟩
  exact⟨⟨rfl,(kh _ _).mpr trivial,trivial⟩,rfl,rfl⟩
 |
  .name s,to,a,k,ha,hl,hlc,hs,ht,hk=>by
  refine ye _ _ _ _ ((aB _).mpr trivial) ha.1 hfv.1 ?_
  simp[xJ,Ty.av,↓zq,zs,an,eA,fY,gy]
 |
  .bm u,to,a,k,ha,hl,hlc,hs,ht,hk=>by
  have hu:u<to.length:=hlc
  refine ye _ _ _ _ ((aB _).mpr trivial) ha.1 hfv.1 ?_
  simp only[xJ,Ty.av,↓zq,zs,an,zt,ha.len]
  rw[wrap64 ((to.length:Int)-1) (by omega) (by omega),wrap64 _ (by omega) (by omega)]
  have e1:(to.length:Int)-1-(u:Int)=((to.length-1-u:Nat):Int):=by omega
  rw[e1]
  simp only[Int.toNat_natCast,ha.idx (show to.length-1-u<to.length by omega),↓zq,zs,an,zt]
  refine⟨by omega,fun h=>by omega,fun _=>⟨fun _=>⟨ha.1,by omega,⟨ha.1,by omega,by omega⟩,by omega,rfl,rfl⟩,fun h=>absurd rfl h⟩⟩
 |
  .plus x y,to,a,k,ha,hl,hlc,hs,ht,hk=>by
  simp only[Ty.aq]at hl hk
  have h1:=ib F x to k
  have hm:(F.length+1)*(1+x.aq+y.aq)=(F.length+1)+(F.length+1)*x.aq+(F.length+1)*y.aq:=by simp only[cy,Nat.mul_one]
  have sx:tH x:=fun z hz=>hs z (by simp[ba,hz])
  have sy:tH y:=fun z hz=>hs z (by simp[ba,hz])
  have t1:=fg F (by omega) x to k sx ht (by omega)
  have t2:=fg F (by omega) y to (fY F x to k).2 sy ht (by omega)
  have hb:(⟨(bytesOf [[.v (.int .u8 43)]]).toArray⟩:ByteArray)=mk [43]:=rfl
  have h8:kl [[AV.v (.int .u8 43)]]:=⟨rfl,(kh _ _).mpr trivial,trivial⟩
  refine ye _ _ _ _ ((aB _).mpr trivial) ha.1 hfv.1 ?_
  simp only[xJ,Ty.av,↓zq,zs,an,zt,aB,hb]
  refine⟨by omega,fun h=>by omega,fun _=>⟨fun h=>by omega,fun _=>⟨fun _=>?_,fun h=>absurd rfl h⟩⟩⟩
  repeat refine⟨by omega,?_⟩
  refine a6 (zP F fv hfv hF x to a k ha (by omega) hlc.1 sx ht (by omega)) ?_
  simp only[↓zq,zs,an,zt,aM,hfv.1,hb,bh,bp]
  repeat (first|refine⟨by omega,?_⟩|refine⟨h8,?_⟩|refine⟨by simp[dK];omega,?_⟩)
  refine a6 (zP F fv hfv hF y to a _ ha (by omega) hlc.2 sy ht (by omega)) ?_
  simp only[↓zq,zs,an,zt,aM,hfv.1,hb,bh,bp]
  repeat (first|refine⟨by omega,?_⟩|refine⟨h8,?_⟩|refine⟨by simp[dK];omega,?_⟩)
  refine⟨?_,rfl⟩
  simp[fY,gy,e6]
 |
  .times x y,to,a,k,ha,hl,hlc,hs,ht,hk=>by
  simp only[Ty.aq]at hl hk
  have h1:=ib F x to k
  have hm:(F.length+1)*(1+x.aq+y.aq)=(F.length+1)+(F.length+1)*x.aq+(F.length+1)*y.aq:=by simp only[cy,Nat.mul_one]
  have sx:tH x:=fun z hz=>hs z (by simp[ba,hz])
  have sy:tH y:=fun z hz=>hs z (by simp[ba,hz])
  have t1:=fg F (by omega) x to k sx ht (by omega)
  have t2:=fg F (by omega) y to (fY F x to k).2 sy ht (by omega)
  have hb:(⟨(bytesOf [[.v (.int .u8 42)]]).toArray⟩:ByteArray)=mk [42]:=rfl
  have h8:kl [[AV.v (.int .u8 42)]]:=⟨rfl,(kh _ _).mpr trivial,trivial⟩
  refine ye _ _ _ _ ((aB _).mpr trivial) ha.1 hfv.1 ?_
  simp only[xJ,Ty.av,↓zq,zs,an,zt,aB,hb]
  refine⟨by omega,fun h=>by omega,fun _=>⟨fun h=>by omega,fun _=>⟨fun h=>by omega,fun _=>⟨fun _=>?_,fun h=>absurd rfl h⟩⟩⟩⟩
  repeat refine⟨by omega,?_⟩
  refine a6 (zP F fv hfv hF x to a k ha (by omega) hlc.1 sx ht (by omega)) ?_
  simp only[↓zq,zs,an,zt,aM,hfv.1,hb,bh,bp]
  repeat (first|refine⟨by omega,?_⟩|refine⟨h8,?_⟩|refine⟨by simp[dK];omega,?_⟩)
  refine a6 (zP F fv hfv hF y to a _ ha (by omega) hlc.2 sy ht (by omega)) ?_
  simp only[↓zq,zs,an,zt,aM,hfv.1,hb,bh,bp]
  repeat (first|refine⟨by omega,?_⟩|refine⟨h8,?_⟩|refine⟨by simp[dK];omega,?_⟩)
  refine⟨?_,rfl⟩
  simp[fY,gy,e6]
 |
  .rc x,to,a,k,ha,hl,hlc,hs,ht,hk=>by
  simp only[Ty.aq]at hl hk
  obtain⟨g1,g2,_,_⟩:=jr F k
  have hm:(F.length+1)*(2+x.aq)=(F.length+1)*2+(F.length+1)*x.aq:=by simp only[cy]
  have hln:=ug (k:=nx F k) (by omega)
  have ht':∀w,w∈to++[tN (nx F k)]->w.length<=20:=fun w hw=>by
   rcases aN.1 hw with hw|hw
   ·exact ht w hw
   ·simp only[bq]at hw;rw[hw];exact hln
  have t1:=fg F (by omega) x (to++[tN (nx F k)]) (nx F k+1) hs ht' (by omega)
  have hrc:(Ty.rc x).av=.ptr [.v (.int .u8 114),.v (.string (mk [])),.v (.int .i64 0),x.av,.v (.pointer none)]:=rfl
  refine ye _ _ _ _ ((aB _).mpr trivial) ha.1 hfv.1 ?_
  simp only[xJ,Ty.av,↓zq,zs,an,zt,aB]
  refine⟨by omega,fun h=>by omega,fun _=>⟨fun h=>by omega,fun _=>⟨fun h=>by omega,fun _=>⟨fun h=>by omega,fun _=>⟨fun _=>?_,fun h=>absurd rfl h⟩⟩⟩⟩⟩
  rw[<-hrc]
  repeat refine⟨by omega,?_⟩
  refine jg (C5 (Ty.rc x).av a fv F ((aB _).mpr trivial) ha.1 hfv (by omega) k (by omega)) ?_
  simp only[Ty.av,↓zq,zs,an,zt,an,aM,hfv.1,ha.1,aB,ha.2,wP,bp,pW,ja]
  have hl2:(dd (nx F k)).length+1<=20:=hln
  have hl3:(tN (nx F k)).length=(dd (nx F k)).length+1:=rfl
  refine⟨by omega,by simp only[ah,aj,aD,hl3];omega,by omega,by omega,⟨fun c hc=>by simp at hc;rw[hc];rfl,by omega⟩,?_⟩
  refine a6 (zP F fv hfv hF x (to++[tN (nx F k)]) _ (nx F k+1) (.of _) (by simp;omega) (by rw[ah];exact hlc) hs ht' (by omega)) ?_
  simp only[↓zq,zs,an,zt,aM,hfv.1]
  repeat refine⟨by omega,?_⟩
  refine⟨by simp only[ah,aj,aD,hl3];omega,by simp only[ah,aj,aD,hl3];omega,?_,rfl⟩
  simp[fY,gy,e6]
theorem DC(t:Ty)(g:dT t)(hs:tH t)(h4:t.aq<=400):aC Tryd.prog 31 [t.av] [] (cu (.v (.string (mk (zV t))))):=by
 refine Dw _ ((aB _).mpr trivial) ?_
 unfold zT
 have hn:=cW t []
 simp only[aD,aR]at hn
 have hm:((a8 t []).length+1)*t.aq<=401*400:=Nat.mul_le_mul (by omega) h4
 refine aG (Bo t (by omega)) ?_
 simp only[↓zq,zs,an,zt,dC]
 refine a6 (zP (a8 t []) _ (.of _) (by omega) t [] Ea 0 .nil (by simp;omega) g.1 hs (fun w hw=>by cases hw) (by omega)) ?_
 simp only[↓zq,zs,an,zt,aM,dC]
 exact⟨rfl,rfl⟩
theorem Dx(t:Ty)(g:dT t)(hs:tH t)(hl:t.aq<1000000):aC Tryd.prog 16 [t.av] [] (cu (vh (told t))):=by
 refine DP _ ((aB _).mpr trivial) ?_
 unfold AY
 refine aG (xL t hl) ?_
 simp only[↓zq,zs,an,zt]
 refine⟨fun h=>?_,fun h=>?_⟩
 ·have:told t=none:=by unfold told;rw[if_neg fun h'=>by have:=h'.1;omega]
  rw[this];exact⟨rfl,rfl⟩
 ·have h4:t.aq<=400:=by omega
  refine aG (DC t g hs h4) ?_
  simp only[↓zq,zs,an,zt]
  refine aG (B8 (zV t)) ?_
  simp only[↓zq,zs,an,zt,fC]
  unfold told
  cases q:mO (zV t)with
  |
   none =>
   simp only[eD,↓zq,zs,an]
   rw[if_neg (by simp)]
   exact⟨fun _=>⟨rfl,rfl⟩,fun h=>(by cases h)⟩
  |
   some u =>
   simp only[eD,↓zq,zs,an,cJ]
   rw[if_pos ⟨h4,rfl⟩]
   exact⟨fun h=>(by cases h),fun _=>⟨rfl,rfl⟩⟩
end Go.Proofs.Trees
namespace Go.Proofs.Trees
open Go Go.VL Go.RowKit
def vT(n:Nat):Vl->Ty->Bool
 | .u,.one=>true
 | .el k,.name _=>decide (k<n)
 | .l w,.plus a _=>vT n w a
 | .r w,.plus _ b=>vT n w b
 | .p x y,.times a b=>vT n x a&&vT n y b
 | .f w,.rc a=>vT n w (eT (.rc a) a 0)
 |_,_=>false
def iC(us:List Ty):Ty->Nat->Ty
 | .bm k,i=>if k<i then .bm k else us.getD (k-i) .zero
 | .plus a b,i=>.plus (iC us a i) (iC us b i)
 | .times a b,i=>.times (iC us a i) (iC us b i)
 | .rc a,i=>.rc (iC us a (i+1))
 |t,_=>t
def rS:List Fr->List Ty
 |[]=>[]
 |f::r=>iC (rS r) (wX f.ex r) 0::rS r
theorem kP(u:Ty):∀(t:Ty) {i:Nat},lq t i->eT u t i=t
 | .bm k,i,h=>by simp only[eT];rw[if_neg (by have:k<i:=h;omega)]
 | .plus a b,i,h=>by simp only[eT];rw[kP u a h.1,kP u b h.2]
 | .times a b,i,h=>by simp only[eT];rw[kP u a h.1,kP u b h.2]
 | .rc a,i,h=>by simp only[eT];rw[kP u a (i:=i+1) h]
 | .zero,_,_=>rfl
 | .one,_,_=>rfl
 | .name _,_,_=>rfl
theorem kO(us:List Ty):∀(t:Ty) {i:Nat},lq t i->iC us t i=t
 | .bm k,i,h=>by simp only[iC];rw[if_pos (by have:k<i:=h;omega)]
 | .plus a b,i,h=>by simp only[iC];rw[kO us a h.1,kO us b h.2]
 | .times a b,i,h=>by simp only[iC];rw[kO us a h.1,kO us b h.2]
 | .rc a,i,h=>by simp only[iC];rw[kO us a (i:=i+1) h]
 | .zero,_,_=>rfl
 | .one,_,_=>rfl
 | .name _,_,_=>rfl
theorem sk{us:List Ty}(hu:∀u,u∈us->lq u 0)(k:Nat):lq (us.getD k .zero) 0:=by
 by_cases h:k<us.length
 ·rw[aa,bb h];exact hu _ (bJ h)
 ·rw[aa,List.getElem?_eq_none (by omega)];trivial
theorem kX{us:List Ty}(hu:∀u,u∈us->lq u 0):∀(t:Ty) (i:Nat),lq (iC us t i) i
 |
  .bm k,i=>by
  simp only[iC]
  split
  ·rename_i h;exact h
  ·exact fk _ (sk hu _) (Nat.zero_le _)
 | .plus a b,i=>⟨kX hu a i,kX hu b i⟩
 | .times a b,i=>⟨kX hu a i,kX hu b i⟩
 | .rc a,i=>kX hu a (i+1)
 | .zero,_=>trivial
 | .one,_=>trivial
 | .name _,_=>trivial
theorem jn{us:List Ty}(hu:∀u,u∈us->lq u 0)(U:Ty):∀(t:Ty) (i:Nat),eT U (iC us t (i+1)) i=iC (U::us) t i
 |
  .bm k,i=>by
  simp only[iC]
  by_cases h1:k<i
  ·rw[if_pos (by omega),if_pos h1];simp only[eT];rw[if_neg (by omega)]
  ·rw[if_neg h1]
   by_cases h2:k=i
   ·subst h2;rw[if_pos (by omega)];simp[eT]
   ·rw[if_neg (by omega),kP U _ (fk _ (sk hu _) (Nat.zero_le _)),show k-i=(k-(i+1))+1 by omega,List.getD_cons_succ]
 | .plus a b,i=>by simp only[iC,eT];rw[jn hu U a i,jn hu U b i]
 | .times a b,i=>by simp only[iC,eT];rw[jn hu U a i,jn hu U b i]
 | .rc a,i=>by simp only[iC,eT];rw[jn hu U a (i+1)]
 | .zero,_=>rfl
 | .one,_=>rfl
 | .name _,_=>rfl
theorem qo:∀env:List Fr,∀u,u∈rS env->lq u 0
 |[],u,h=>by cases h
 |
  f::r,u,h=>by
  rcases aE.1 h with rfl|h
  ·exact kX (qo r) _ 0
  ·exact qo r u h
theorem xi{env:List Fr}(h:WF env):∀{u:Nat} {g:Fr},env[u]?=some g->(rS env).getD u .zero=iC (rS g.out) (wX g.ex g.out) 0:=by
 induction h with
 |nil=>intro u g hg;simp at hg
 |
  cons hs hok hx ht hf hr ih =>
  intro u g hg
  cases u with
  |zero=>simp at hg;subst hg;rfl
  |
   succ u =>
   have:=ih (u:=u) (g:=g) (by simpa using hg)
   simpa[rS]using this
theorem k9(n:Nat):∀(m:Nat) (v:Vl),v.nodes<=m->∀(e:E) (env:List Fr) (t:Ty),Ask e env t->lz n v (e,env)=vT n v (iC (rS env) t 0)
 |0,v,hm=>by have:=gU v;omega
 |
  m+1,v,hm=>by
  intro e env t A
  have recCase:∀(x a b:E) (env:List Fr) (t1:Ty),Ask (.list [x,a,b]) env (.rc t1)->x.at=[114,101,99]->lz n v (.list [x,a,b],env)=vT n v (iC (rS env) (.rc t1) 0):=by
   intro x a b env t1 A hx
   have hhd:hd (.list [x,a,b]) env=(.list [x,a,b],env):=u5 A.wf
   obtain⟨t1',he1,h1,f1,hw1⟩:=pN A.wf A.ok hx A.ty A.cl
   cases he1
   obtain⟨ok1,ok2,ok3,_⟩:=A.ok
   have A':Ask b (.mk a.at (.list [x,a,b]) env::env) t1:=⟨ok3,hw1,h1,f1⟩
   cases v with
   |
    f w =>
    simp only[Vl.nodes]at hm
    simp only[lz,hhd,hx,beq_self_eq_true,bY]
    rw[k9 n m w (by omega) b _ t1 A']
    have hty:wX (.list [x,a,b]) env=.rc t1:=by unfold wX;rw[A.ty];rfl
    show vT n w (iC (iC (rS env) (wX (.list [x,a,b]) env) 0::rS env) t1 0)=vT n w (eT (.rc (iC (rS env) t1 1)) (iC (rS env) t1 1) 0)
    rw[hty,jn (qo env)]
    rfl
   |_=>simp[lz,hhd,hx,iC,vT]
  rcases ua A.wf A.ty with⟨hb,hq⟩|⟨u,g,rfl,hq,hu⟩
  ·have hhd:hd e env=(e,env):=rD hq
   rcases nC A.ty hb A.cl with⟨rfl,rfl⟩|⟨rfl,rfl⟩|⟨s,rfl,rfl,hp,h0,h1⟩|⟨x,a,b,t1,t2,rfl,hx,rfl,ha,hbb⟩|⟨x,a,b,t1,t2,rfl,hx,rfl,ha,hbb⟩|⟨x,a,b,t1,rfl,hx,rfl⟩
   ·have hp0:fK [48]=false:=rfl
    cases v<;>simp[lz,hhd,iC,vT,hp0]
   ·cases v<;>simp[lz,hhd,iC,vT]
   ·cases v<;>simp[lz,hhd,iC,vT,hp,h1]
   ·obtain⟨ok1,ok2,ok3,_⟩:=A.ok
    obtain⟨f1,f2⟩:=oE A.cl
    cases v with
    |
     l w =>
     simp only[Vl.nodes]at hm
     simp only[lz,hhd,hx,beq_self_eq_true,bY,iC,vT]
     exact k9 n m w (by omega) a env t1 ⟨ok2,A.wf,ha,f1⟩
    |
     r w =>
     simp only[Vl.nodes]at hm
     simp only[lz,hhd,hx,beq_self_eq_true,bY,iC,vT]
     exact k9 n m w (by omega) b env t2 ⟨ok3,A.wf,hbb,f2⟩
    |_=>simp[lz,hhd,hx,iC,vT]
   ·obtain⟨ok1,ok2,ok3,_⟩:=A.ok
    obtain⟨f1,f2⟩:=np A.cl
    cases v with
    |
     p w w' =>
     simp only[Vl.nodes]at hm
     simp only[lz,hhd,hx,beq_self_eq_true,bY,iC,vT]
     rw[k9 n m w (by omega) a env t1 ⟨ok2,A.wf,ha,f1⟩,k9 n m w' (by omega) b env t2 ⟨ok3,A.wf,hbb,f2⟩]
    |_=>simp[lz,hhd,hx,iC,vT]
   ·exact recCase x a b env t1 A hx
  ·obtain⟨x,a,b,t',hfe,hok,hx,ht',hf',hwf,hlt⟩:=vm A.wf hq
   have hrec:hd g.ex g.out=(g.ex,g.out):=by rw[hfe];exact u5 hwf
   rw[yW n v (wA hq) hrec]
   have hcl:iC (rS env) (.bm u) 0=iC (rS g.out) (wX g.ex g.out) 0:=by
    simp only[iC];rw[if_neg (by omega),Nat.sub_zero];exact xi A.wf hu
   rw[hcl]
   have hty:wX g.ex g.out=t':=by unfold wX;rw[ht'];rfl
   rw[hty,hfe]
   rw[hfe]at ht'
   obtain⟨t1,_,_,rfl⟩:=cG hx ht'
   exact recCase x a b g.out t1 ⟨hok,hwf,ht',hf'⟩ hx
theorem sK{n:Nat}{v:Vl}{e:E}{t:Ty}(A:Ask e [] t):lz n v (e,[])=vT n v t:=by
 have:=k9 n v.nodes v (aw _) e [] t A
 rw[this]
 obtain⟨w,ht⟩:=iv e [] t A.ok (fun w hw=>by cases hw) A.ty
 have hl:=vt w []
 rw[ht]at hl
 exact congrArg (vT n v) (kO _ t hl)
end Go.Proofs.Trees
namespace Go.Proofs.Trees
open Go Go.VL Go.RowKit
def tp(s:List UInt8):Option Ty:=match nk s with
 |some (.rc a)=>some a
 |_=>none
def B5(s v:List UInt8):Option Vl:=match tp s with
 |some _=>Ch s v 100
 |none=>none
theorem v7{s:List UInt8}{a:Ty}(h:tp s=some a):nk s=some (.rc a):=by
 unfold tp at h
 split at h
 ·rename_i e;cases h;exact e
 ·cases h
structure LV(s v:List UInt8)(w:Vl)(a:Ty)(x A B:E):Prop where
 l:tp s=some a
 ce:oY s=some (.list [x,A,B])
 v:xO v=some w
 ask:Ask (.list [x,A,B]) [] (.rc a)
 hx:x.at=[114,101,99]
 Ev:bX A.at=true
 body:Ask B [.mk A.at (.list [x,A,B]) []] a
 lz:lz 100 w (.list [x,A,B],[])=true
theorem th{e:E}{env:List Fr}{a:Ty}(A:Ask e env (.rc a)):∃x y z,e=.list [x,y,z]/\x.at=[114,101,99]/\bX y.at=true/\Ask z (.mk y.at (.list [x,y,z]) env::env) a:=by
 rcases nC A.ty rfl A.cl with⟨_,h⟩|⟨_,h⟩|⟨s,_,h,_⟩|⟨x,y,z,t1,t2,_,_,h,_⟩|⟨x,y,z,t1,t2,_,_,h,_⟩|⟨x,y,z,t1,rfl,hx,h⟩
 ·cases h
 ·cases h
 ·cases h
 ·cases h
 ·cases h
 ·cases h
  obtain⟨t1',he1,h1,f1,hw1⟩:=pN A.wf A.ok hx A.ty A.cl
  cases he1
  obtain⟨_,_,ok3,_⟩:=A.ok
  obtain⟨_,hla,_,_⟩:=cG hx A.ty
  exact⟨x,y,z,rfl,hx,hla,ok3,hw1,h1,f1⟩
theorem LV.pS{s v:List UInt8}{w:Vl}{a:Ty}{x A B:E}(h:LV s v w a x A B):w.pS 100:=(oh h.v).2.1
theorem LV.nodes{s v:List UInt8}{w:Vl}{a:Ty}{x A B:E}(h:LV s v w a x A B):w.nodes<=200:=(oh h.v).2.2
end Go.Proofs.Trees
namespace Go.Proofs.Trees
open Go Go.VL Go.RowKit
theorem zj{b:UInt8}(h:iH b=true):c0 b=true:=by
 simp only[iH,c0,decide_eq_true_eq]at h |-;omega
theorem w6{y:Nm}(h:zO y):y≠[]/\y.all c0=true:=by
 have key:∀lo hi,97<=lo->hi<=122->named lo hi y=true->y≠[]/\y.all c0=true:=fun lo hi h1 h2 h=>by
  cases y with
  |nil=>cases h
  |
   cons c r =>
   simp only[named,ag,decide_eq_true_eq]at h
   refine⟨by simp,?_⟩
   rw[bK,ag]
   refine⟨?_,?_⟩
   ·simp only[c0,decide_eq_true_eq];omega
   ·rw[a7]
    intro b hb
    exact zj (a7.1 h.2 b hb)
 rcases h with h|h
 ·exact key 120 122 (by omega) (by omega) h
 ·exact key 116 116 (by omega) (by omega) h
theorem uz(m:Nat):(tN m).all c0=true:=by
 rw[bK,qF (m+1) m (by omega)];rfl
theorem kW(F:List Nm):∀(t:Ty) (to:List Nm) (k:Nat),(∀y,ba y t=true->y≠[]/\y.all c0=true)->(∀w,w∈to->w≠[]/\w.all c0=true)->lq t to.length->(fY F t to k).1.pr
 | .zero,_,_,_,_,_=>⟨by simp,by decide⟩
 | .one,_,_,_,_,_=>⟨by simp,by decide⟩
 | .name s,_,_,hn,_,_=>hn s (by simp[ba])
 |
  .bm u,to,_,_,ht,hl=>by
  have:to.length-1-u<to.length:=by have:u<to.length:=hl;omega
  show (E.atom (iM to u)).pr
  unfold iM
  rw[aa,bb this]
  exact ht _ (bJ this)
 | .plus a b,to,k,hn,ht,hl=>⟨by simp,⟨by simp,by decide⟩,kW F a to k (fun y hy=>hn y (by simp[ba,hy])) ht hl.1,kW F b to _ (fun y hy=>hn y (by simp[ba,hy])) ht hl.2,trivial⟩
 | .times a b,to,k,hn,ht,hl=>⟨by simp,⟨by simp,by decide⟩,kW F a to k (fun y hy=>hn y (by simp[ba,hy])) ht hl.1,kW F b to _ (fun y hy=>hn y (by simp[ba,hy])) ht hl.2,trivial⟩
 |
  .rc a,to,k,hn,ht,hl=>by
  refine⟨by simp,⟨by simp,by decide⟩,⟨by simp,uz _⟩,kW F a (to++[tN (nx F k)]) _ hn (fun w hw=>?_) (by rw[ah];exact hl),trivial⟩
  rcases aN.1 hw with hw|hw
  ·exact ht w hw
  ·simp only[bq]at hw;rw[hw];exact⟨by simp,uz _⟩
theorem nD{D:Ty}{dt:Nm}(g:dT D)(hn:∀y,ba y D=true->zO y)(h:told D=some dt):mO dt=some D:=by
 unfold told at h
 split at h
 ·rename_i hh
  cases h
  obtain⟨t,ht⟩:=Option.isSome_iff_exists.1 hh.2
  obtain⟨e,he,hw,hte,_,_⟩:=oL ht
  obtain⟨h1,_,_⟩:=jQ he
  obtain⟨hx,hpr,_⟩:=rY h1
  obtain⟨w1,w2,_⟩:=jV (a8 D []) D [] 0 (.nil _ _) g.1 fun y hy=>⟨(dE D [] y).2 (.inr hy),g.2 y hy⟩
  have hp:=kW (a8 D []) D [] 0 (fun y hy=>w6 (hn y hy)) (fun w hw=>by cases hw) g.1
  have:=uC hp hpr hx
  rw[ht,<-hte,<-this,w2]
 ·cases h
theorem sQ{a d:Ty}{x:Nm}(h:zQ a x=some d):∀y,ba y d=true->ba y a=true:=by
 simp only[zQ,bO,cw,iL]at h
 obtain⟨d',h1,_,rfl⟩:=h
 intro y hy
 rcases fj _ hy with h|⟨h,h'⟩
 ·exact h
 ·rcases eF a 0 (h1.names y h')with e|e
  ·exact absurd e h
  ·exact e
structure ZT(s d:Nm)(a:Ty)(x A B:E)(D:Ty):Prop where
 l:tp s=some a
 ce:oY s=some (.list [x,A,B])
 ask:Ask (.list [x,A,B]) [] (.rc a)
 hx:x.at=[114,101,99]
 body:Ask B [.mk A.at (.list [x,A,B]) []] a
 dl:oo s=some d
 y:mO s=some (.rc a)
 lp:zQ a uq=some D
 bk:mO d=some D
theorem wm{s:Nm}{t:Ty}(h:nk s=some t):mO s=some t:=by
 unfold nk at h
 split at h
 ·cases h
 ·rename_i u hu
  split at h
  ·cases h;exact hu
  ·cases h
theorem ZT.of{s d:Nm}{a:Ty}(hl:tp s=some a)(hd:oo s=some d):∃x A B D,ZT s d a x A B D:=by
 have hc:=v7 hl
 cases hce:oY s with
 |none=>rw[sU hce]at hc;cases hc
 |
  some e =>
  obtain⟨t,h1,hA,_⟩:=s5 hce
  rw[hc]at h1;cases h1
  obtain⟨x,A,B,rfl,hx,hA',hB⟩:=th hA
  have hy:=wm hc
  have hd':=hd
  unfold oo at hd'
  rw[hy]at hd'
  obtain⟨D,h2,h3⟩:=bO.1 hd'
  obtain⟨e2,he2,hw2,hte2,_,_⟩:=oL hy
  have hg:=tI hw2 hte2 (x:=uq) ⟨by simp,by simp,by simp⟩ h2
  exact⟨x,A,B,D,hl,hce,hA,hx,hB,hd,hy,h2,nD hg.1 (fun y hy'=>jk hy y (sQ h2 y hy')) h3⟩
structure Fo(a:Ty)(v:Vl):Prop where
 ty:vT 100 v (.rc a)=true
 pS:v.pS 100
 nd:v.nodes<=200
theorem Fo.lz{s d:Nm}{a:Ty}{x A B:E}{D:Ty}(z:ZT s d a x A B D){v:Vl}(h:Fo a v):lz 100 v (.list [x,A,B],[])=true:=by rw[sK z.ask];exact h.ty
theorem ZT.lJ{s d:Nm}{a:Ty}{x A B:E}{D:Ty}(z:ZT s d a x A B D){w:Vl}(hb:w.pS 100)(hv:vT 100 w (.rc a)=true):Ch s w.lJ 100=if w.nodes<=200 then some w else none:=by
 unfold Ch
 rw[z.ce]
 by_cases hn:w.nodes<=200
 ·rw[vO hb hn,if_pos hn]
  simp only
  rw[if_pos ⟨by omega,by rw[show (100:Int).toNat=100 from rfl,sK z.ask];exact hv⟩]
 ·rw[if_neg hn]
  cases q:xO w.lJ with
  |none=>rfl
  |
   some w' =>
   exfalso
   obtain⟨_,h2,h3⟩:=oh q
   have:=wG hb h2 (wM q)
   rw[this]at hn;exact hn h3
theorem ZT.lv{s d:Nm}{a:Ty}{x A B:E}{D:Ty}(z:ZT s d a x A B D)(f:Nm):B5 s f=Ch s f 100:=by
 unfold B5;rw[z.l]
def Eh(a:Ty)(l:List Vl)(v:Vl):Option (List Vl×Vl):=match l.getLast? with
 |none=>none
 |some c=>if(Vl.f (oT a c v)).nodes<=200 then some (l.dropLast,.f (oT a c v))else none
def ni:Nat->Ty->List Vl->Vl->Option Vl
 |0,_,_,v=>some v
 |n+1,a,l,v=>(Eh a l v).bind fun r=>ni n a r.1 r.2
def zi(a:Ty)(l:List Vl)(v:Vl):Option Vl:=ni l.length a l v
end Go.Proofs.Trees
namespace Go.Proofs.Trees
open Go Go.VL Go.RowKit
def lL(l:List UInt8):List (List AV):=l.map fun(x:UInt8)=>[.v (.int .u8 (x.toNat:Int))]
structure vj(b:AV)(l:List UInt8):Prop where
 has:LK.sl.has b
 el:b.aT=lL l
 len:l.length<=2000
theorem vj.ln{b:AV}{l:List UInt8}(h:vj b l):b.aT.length=l.length:=by rw[h.el];simp[lL]
theorem vj.get{b:AV}{l:List UInt8}(h:vj b l){i:Nat}(hi:i<l.length):b.aT.getD i []=[.v (.int .u8 ((l[i]).toNat:Int))]:=by rw[h.el];simp[lL,aa,hi]
def dZ(b:AV)(p c:Nat)(X:AV->Prop):AV->List Ob->Prop:=fun r o=>∃q:Nat,p<=q/\q<=p+c/\X r/\o=[.cells [b,.v (.int .i64 (q:Int))]]
theorem dZ.ne{b:AV}{p c:Nat}{X:AV->Prop}{r:AV}(h:X r):∃r o,dZ b p c X r o:=⟨r,_,p,aw _,bL _ _,h,rfl⟩
theorem wI{a b:Int}(ha:0<=a)(hb:0<=b)(ha':a<9223372036854775808)(hb':b<9223372036854775808):∃W:Nat,uh .i64 a b=(W:Int):=by
 obtain⟨x,rfl⟩:∃x:Nat,a=(x:Int):=⟨a.toNat,by omega⟩
 obtain⟨y,rfl⟩:∃y:Nat,b=(y:Int):=⟨b.toNat,by omega⟩
 have e1:(BitVec.ofInt 64 (x:Int)).toNat=x:=by simp;omega
 have e2:(BitVec.ofInt 64 (y:Int)).toNat=y:=by simp;omega
 have hlt:x ^^^ y<2 ^ 63:=Nat.xor_lt_two_pow (by omega) (by omega)
 refine⟨x ^^^ y,?_⟩
 unfold uh
 have e3:(BitVec.ofInt (IntKind.bits .i64) (x:Int) ^^^ BitVec.ofInt (IntKind.bits .i64) (y:Int)).toNat=x ^^^ y:=by
  show (BitVec.ofInt 64 (x:Int) ^^^ BitVec.ofInt 64 (y:Int)).toNat=_
  rw[BitVec.toNat_xor,e1,e2]
 rw[e3,VL.wrap64]<;>omega
theorem sF(a b:Nat):Int.tdiv (a:Int) (b:Int)=((a/b:Nat):Int):=(Int.ofNat_tdiv a b).symm
theorem l7(a b:Nat):cF (a:Int) (b:Int)=((a%b:Nat):Int):=(Int.ofNat_tmod a b).symm
theorem qg(n:Nat)(h:n<9223372036854775808):IntKind.wrap .i64 (n:Int)=(n:Int):=VL.wrap64 _ (by omega) (by omega)
def xK(n:Nat):AV->Prop:=fun r=>∃k:Nat,r=.v (.int .i64 (k:Int))/\(1<=n->k<n)/\k<=n
abbrev mR:Nat:=1000000000000000
theorem vI(b:AV)(l:List UInt8)(hb:vj b l)(p n:Nat)(hp:p<2*mR)(hn:n<mR):aC Tryd.prog 18 [.ref 0 0,.v (.int .i64 (n:Int))] [.cells [b,.v (.int .i64 (p:Int))]] (dZ b p 1 (xK n)):=by
 refine DM _ _ _ hb.has ?_
 have e1:IntKind.wrap .i64 ((p:Int)+1)=((p+1:Nat):Int):=by rw[VL.wrap64]<;>simp[mR]at hp<;>omega
 have e2:IntKind.wrap .i64 (((p+1:Nat):Int)-1)=(p:Int):=by rw[VL.wrap64]<;>simp[mR]at hp<;>omega
 have fin:∀k:Nat,(1<=n->k<n)->k<=n->dZ b p 1 (xK n) (.v (.int .i64 (k:Int))) [.cells [b,.v (.int .i64 ((p+1:Nat):Int))]]:=fun k h h'=>⟨p+1,by omega,aw _,⟨k,rfl,h,h'⟩,rfl⟩
 simp only[Ap,↓zq,zs,an,e1,e2,hb.ln,sF,l7]
 refine⟨fun h=>fin 0 (fun h'=>by omega) (Nat.zero_le _),fun h=>⟨hb.has,fun h0=>fin 0 (fun h'=>by omega) (Nat.zero_le _),fun h0=>?_⟩⟩
 have hl:0<l.length:=by omega
 have hll:=hb.len
 refine⟨hb.has,fun hlt=>?_,fun hge=>?_⟩
 ·have hlt:p<l.length:=by omega
  have hx:=(l[p]).toNat_lt
  simp only[Int.toNat_natCast,hb.get hlt,hb.has,↓zq,zs,an]
  rw[qg _ (by omega),l7]
  have:=fin ((l[p]).toNat%n) (fun h'=>cD _ (by omega)) (Nat.le_of_lt (cD _ (by omega)))
  repeat (first|exact this|refine⟨by omega,?_⟩)
 ·have h1:p%l.length<l.length:=cD _ hl
  have e3:IntKind.wrap .i64 ((p:Int)*7)=((p*7:Nat):Int):=by rw[VL.wrap64]<;>simp[mR]at hp<;>omega
  have e4:IntKind.wrap .i64 (((p*7:Nat):Int)+3)=((p*7+3:Nat):Int):=by rw[VL.wrap64]<;>simp[mR]at hp<;>omega
  have h2:(p*7+3)%l.length<l.length:=cD _ hl
  have hx:=(l[p%l.length]).toNat_lt
  have hy:=(l[(p*7+3)%l.length]).toNat_lt
  have hq:p/l.length<=p:=Nat.div_le_self _ _
  simp only[e3,e4,l7,Int.toNat_natCast,hb.get h1,hb.get h2,hb.has,↓zq,zs,an]
  generalize hxx:(l[p%l.length]).toNat=x at hx |-
  generalize hyy:(l[(p*7+3)%l.length]).toNat=y at hy |-
  generalize hqq:p/l.length=q at hq |-
  have f1:IntKind.wrap .i64 ((x:Int))=(x:Int):=qg _ (by omega)
  have f2:IntKind.wrap .i64 ((y:Int))=(y:Int):=qg _ (by omega)
  have f3:IntKind.wrap .i64 ((x:Int)*131)=((x*131:Nat):Int):=by rw[VL.wrap64]<;>omega
  have f4:IntKind.wrap .i64 ((y:Int)*1117)=((y*1117:Nat):Int):=by rw[VL.wrap64]<;>omega
  have f5:IntKind.wrap .i64 (((x*131:Nat):Int)+((y*1117:Nat):Int))=((x*131+y*1117:Nat):Int):=by rw[VL.wrap64]<;>omega
  have f6:IntKind.wrap .i64 ((p:Int)*29)=((p*29:Nat):Int):=by rw[VL.wrap64]<;>simp[mR]at hp<;>omega
  have f7:IntKind.wrap .i64 (((x*131+y*1117:Nat):Int)+((p*29:Nat):Int))=((x*131+y*1117+p*29:Nat):Int):=by rw[VL.wrap64]<;>simp[mR]at hp<;>omega
  have f8:IntKind.wrap .i64 ((q:Int))=(q:Int):=qg _ (by simp[mR]at hp;omega)
  have f9:IntKind.wrap .i64 ((q:Int)*53)=((q*53:Nat):Int):=by rw[VL.wrap64]<;>simp[mR]at hp<;>omega
  have f10:IntKind.wrap .i64 (((x*131+y*1117+p*29:Nat):Int)+((q*53:Nat):Int))=((x*131+y*1117+p*29+q*53:Nat):Int):=by rw[VL.wrap64]<;>simp[mR]at hp<;>omega
  simp only[f1,f2,f3,f4,f5,f6,f7,f8,f9,f10]
  generalize hV:x*131+y*1117+p*29+q*53=V
  have hVl:V<1000000000000000000:=by simp[mR]at hp;omega
  have f11:IntKind.wrap .i64 (Int.tdiv (V:Int) 64)=((V/64:Nat):Int):=by
   have:Int.tdiv (V:Int) 64=((V/64:Nat):Int):=sF V 64
   rw[this,qg _ (by omega)]
  rw[f11]
  obtain⟨W,hW⟩:=wI (a:=(V:Int)) (b:=((V/64:Nat):Int)) (by omega) (by omega) (by omega) (by omega)
  rw[hW,l7]
  have:=fin (W%n) (fun h'=>cD _ (by omega)) (Nat.le_of_lt (cD _ (by omega)))
  repeat (first|exact this|refine⟨by omega,?_⟩)
def gz(L:List (List UInt8)):AV->Prop:=fun r=>∃s,s∈L/\r=.v (.string (mk s))
theorem vL(b:AV)(l:List UInt8)(hb:vj b l)(p:Nat)(hp:p<2*mR)(L:List (List UInt8))(a:AV)(ha:dD a L)(hL:0<L.length)(hLl:L.length<1000000):aC Tryd.prog 19 [.ref 0 0,a] [.cells [b,.v (.int .i64 (p:Int))]] (dZ b p 1 (gz L)):=by
 refine DY _ _ _ ha.1 hb.has ?_
 unfold AO
 simp only[↓zq,zs,an,ha.len]
 refine⟨ha.1,?_⟩
 have hpk:=vI b l hb p L.length hp (by simp[mR];omega)
 refine aV hpk (dZ.ne ⟨0,rfl,fun h=>h,Nat.zero_le _⟩) ?_
 rintro r o ⟨q,h1,h2,⟨k,rfl,h3,h4⟩,rfl⟩
 have hk:=h3 hL
 simp only[↓zq,zs,an,zt,aM,hb.has,ha.idx hk,Int.toNat_natCast]
 refine⟨⟨ha.1,by omega⟩,?_⟩
 have:dZ b p 1 (gz L) (.v (.string (mk (L.getD k [])))) [.cells [b,.v (.int .i64 (q:Int))]]:=⟨q,h1,h2,⟨_,by simp[aa,hk],rfl⟩,rfl⟩
 repeat (first|exact this|refine⟨by omega,?_⟩)
def eI(n:Nat):AV->Prop:=fun r=>∃s:List UInt8,r=.v (.string (mk s))/\s.length<=n
theorem gz.lJ{L:List (List UInt8)}{n:Nat}(h:∀s,s∈L->s.length<=n){r:AV}(hr:gz L r):eI n r:=by
 obtain⟨s,h1,h2⟩:=hr;exact⟨s,h2,h s h1⟩
end Go.Proofs.Trees
namespace Go.Proofs.Trees
open Go Go.VL Go.RowKit
def jZ:Nat->Nat
 |0=>2
 |d+1=>2*jZ d+15
def kN:Nat->Nat
 |0=>3
 |d+1=>2*kN d+8
theorem Dd(d:Nat):2<=jZ d:=by cases d<;>simp only[jZ]<;>omega
theorem DH(d:Nat):3<=kN d:=by cases d<;>simp only[kN]<;>omega
theorem yQ:∀d:Nat,d<=10->jZ d<=100000000
 |0,_=>by decide
 |1,_=>by decide
 |2,_=>by decide
 |3,_=>by decide
 |4,_=>by decide
 |5,_=>by decide
 |6,_=>by decide
 |7,_=>by decide
 |8,_=>by decide
 |9,_=>by decide
 |10,_=>by decide
 |d+11,h=>by omega
theorem yH(b:AV)(l:List UInt8)(hb:vj b l)(p:Nat)(hp:p<2*mR):aC Tryd.prog 35 [.ref 0 0] [.cells [b,.v (.int .i64 (p:Int))]] (dZ b p 1 (eI 60)):=by
 refine Da _ _ hb.has ?_
 unfold A7
 refine aV (vL b l hb p hp _ _ (.of [_,_,_,_,_,_,_]) (by simp) (by simp)) (dZ.ne ⟨_,ac,rfl⟩) ?_
 rintro r o ⟨q,h1,h2,hr,rfl⟩
 obtain⟨s,rfl,hs⟩:=gz.lJ (n:=60) (by decide) hr
 simp only[↓zq,zs,an,aM,hb.has]
 exact⟨q,h1,h2,⟨s,rfl,hs⟩,rfl⟩
theorem BJ(b:AV)(l:List UInt8)(hb:vj b l):∀(d:Nat),d<=10->∀(p:Nat) (ls:List (List UInt8)) (a:AV),dD a ls->(∀s,s∈ls->s.length<=2)->ls.length+d<=100->p+kN d<2*mR ->
 aC Tryd.prog 36 [.ref 0 0,a,.v (.int .i64 (d:Int))] [.cells [b,.v (.int .i64 (p:Int))]] (dZ b p (kN d) (eI (jZ d))):=by
 intro d
 induction d with
 |
  zero =>
  intro hd p ls a ha hls hll hp
  simp only[kN]at hp
  refine Aj _ _ _ _ ha.1 hb.has ?_
  simp only[yg,↓zq,zs,an,ha.len]
  refine⟨fun _=>⟨ha.1,fun hpos=>?_,fun _=>?_⟩,fun h=>by omega⟩
  ·refine aV (vI b l hb p 3 (by omega) (by decide)) (dZ.ne ⟨0,rfl,fun h=>by omega,by omega⟩) ?_
   rintro r o ⟨q1,h1,h2,⟨k,rfl,h3,h4⟩,rfl⟩
   simp only[↓zq,zs,an,aM,hb.has]
   refine⟨fun _=>⟨ha.1,?_⟩,fun _=>?_⟩
   ·refine aV (vI b l hb q1 ls.length (by omega) (by simp[mR];omega)) (dZ.ne ⟨0,rfl,fun h=>by omega,by omega⟩) ?_
    rintro r o ⟨q2,g1,g2,⟨k2,rfl,g3,g4⟩,rfl⟩
    have hk:=g3 (by omega)
    simp only[↓zq,zs,an,aM,hb.has,Int.toNat_natCast,ha.idx hk]
    have:dZ b p (kN 0) (eI (jZ 0)) (.v (.string (mk (ls.getD k2 [])))) [.cells [b,.v (.int .i64 (q2:Int))]]:=⟨q2,by omega,by simp only[kN];omega,⟨_,rfl,by
     have:=hls (ls.getD k2 []) (by simp[aa,hk]);simp only[jZ];omega⟩,rfl⟩
    refine⟨⟨ha.1,by omega⟩,?_⟩
    repeat (first|exact this|refine⟨by omega,?_⟩)
   ·refine aV (vL b l hb q1 (by omega) _ _ (.of [_,_,_,_,_,_]) (by simp) (by simp)) (dZ.ne ⟨_,ac,rfl⟩) ?_
    rintro r o ⟨q2,g1,g2,hr,rfl⟩
    obtain⟨s,rfl,hs⟩:=gz.lJ (n:=2) (by decide) hr
    simp only[↓zq,zs,an,aM,hb.has]
    exact⟨q2,by omega,by simp only[kN];omega,⟨s,rfl,by simp only[jZ];omega⟩,rfl⟩
  ·refine aV (vL b l hb p (by omega) _ _ (.of [_,_,_,_,_,_]) (by simp) (by simp)) (dZ.ne ⟨_,ac,rfl⟩) ?_
   rintro r o ⟨q2,g1,g2,hr,rfl⟩
   obtain⟨s,rfl,hs⟩:=gz.lJ (n:=2) (by decide) hr
   simp only[↓zq,zs,an,aM,hb.has]
   exact⟨q2,by omega,by simp only[kN];omega,⟨s,rfl,by simp only[jZ];omega⟩,rfl⟩
 |
  succ d ih =>
  intro hd p ls a ha hls hll hp
  simp only[kN]at hp
  have hL:=Dd d
  have hC:=DH d
  have ih:=ih (by omega)
  have hL8:=yQ d (by omega)
  have ed:IntKind.wrap .i64 (((d+1:Nat):Int)-1)=(d:Int):=by rw[VL.wrap64]<;>omega
  refine Aj _ _ _ _ ha.1 hb.has ?_
  simp only[yg,↓zq,zs,an,ha.len,ed]
  refine⟨fun h=>by omega,fun _=>?_⟩
  refine aV (vI b l hb p 4 (by omega) (by decide)) (dZ.ne ⟨0,rfl,fun h=>by omega,by omega⟩) ?_
  rintro r o ⟨q0,a1,a2,⟨k0,rfl,_,_⟩,rfl⟩
  simp only[↓zq,zs,an,aM,hb.has]
  refine⟨fun _=>⟨ha.1,fun hpos=>?_,fun _=>?_⟩,fun _=>?_⟩
  ·refine aV (vI b l hb q0 3 (by omega) (by decide)) (dZ.ne ⟨0,rfl,fun h=>by omega,by omega⟩) ?_
   rintro r o ⟨q1,h1,h2,⟨k,rfl,h3,h4⟩,rfl⟩
   simp only[↓zq,zs,an,aM,hb.has]
   refine⟨fun _=>⟨ha.1,?_⟩,fun _=>?_⟩
   ·refine aV (vI b l hb q1 ls.length (by omega) (by simp[mR];omega)) (dZ.ne ⟨0,rfl,fun h=>by omega,by omega⟩) ?_
    rintro r o ⟨q2,g1,g2,⟨k2,rfl,g3,g4⟩,rfl⟩
    have hk:=g3 (by omega)
    simp only[↓zq,zs,an,aM,hb.has,Int.toNat_natCast,ha.idx hk]
    have:dZ b p (kN (d+1)) (eI (jZ (d+1))) (.v (.string (mk (ls.getD k2 [])))) [.cells [b,.v (.int .i64 (q2:Int))]]:=⟨q2,by omega,by simp only[kN];omega,⟨_,rfl,by
     have:=hls (ls.getD k2 []) (by simp[aa,hk]);simp only[jZ];omega⟩,rfl⟩
    refine⟨⟨ha.1,by omega⟩,?_⟩
    repeat (first|exact this|refine⟨by omega,?_⟩)
   ·refine aV (vL b l hb q1 (by omega) _ _ (.of [_,_,_,_,_,_]) (by simp) (by simp)) (dZ.ne ⟨_,ac,rfl⟩) ?_
    rintro r o ⟨q2,g1,g2,hr,rfl⟩
    obtain⟨s,rfl,hs⟩:=gz.lJ (n:=2) (by decide) hr
    simp only[↓zq,zs,an,aM,hb.has]
    exact⟨q2,by omega,by simp only[kN];omega,⟨s,rfl,by simp only[jZ];omega⟩,rfl⟩
  ·refine aV (vL b l hb q0 (by omega) _ _ (.of [_,_,_,_,_,_]) (by simp) (by simp)) (dZ.ne ⟨_,ac,rfl⟩) ?_
   rintro r o ⟨q2,g1,g2,hr,rfl⟩
   obtain⟨s,rfl,hs⟩:=gz.lJ (n:=2) (by decide) hr
   simp only[↓zq,zs,an,aM,hb.has]
   exact⟨q2,by omega,by simp only[kN];omega,⟨s,rfl,by simp only[jZ];omega⟩,rfl⟩
  ·refine aV (vI b l hb q0 5 (by omega) (by decide)) (dZ.ne ⟨0,rfl,fun h=>by omega,by omega⟩) ?_
   rintro r o ⟨q1,b1,b2,⟨k1,rfl,c3,_⟩,rfl⟩
   have hk1:=c3 (by omega)
   obtain rfl|rfl|rfl|rfl|rfl:k1=0\/k1=1\/k1=2\/k1=3\/k1=4:=by omega
   ·simp only[↓zq,zs,an,aM,hb.has]
    refine⟨fun _=>?_,fun h=>absurd rfl h⟩
    refine aV (ih q1 ls a ha hls (by omega) (by omega)) (dZ.ne ⟨[],rfl,by simp⟩) ?_
    rintro r o ⟨q2,d1,d2,⟨s1,rfl,d3⟩,rfl⟩
    simp only[↓zq,zs,an,zt,aM,hb.has,ah]
    repeat refine⟨by first|omega|(simp only[ah,aj,aD];omega),?_⟩
    refine aV (ih q2 ls a ha hls (by omega) (by omega)) (dZ.ne ⟨[],rfl,by simp⟩) ?_
    rintro r o ⟨q3,e1,e2,⟨s2,rfl,e3⟩,rfl⟩
    simp only[↓zq,zs,an,zt,aM,hb.has,ah]
    have fin:∀s:List UInt8,s.length<=jZ (d+1)->dZ b p (kN (d+1)) (eI (jZ (d+1))) (.v (.string (mk s))) [.cells [b,.v (.int .i64 (q3:Int))]]:=fun s hs=>⟨q3,by omega,by simp only[kN];omega,⟨s,rfl,hs⟩,rfl⟩
    repeat (first|exact fin _ (by simp only[ah,aj,aD,jZ];omega)|refine⟨by first|omega|(simp only[ah,aj,aD];omega),?_⟩)
   ·simp only[↓zq,zs,an,aM,hb.has]
    refine⟨fun h=>by omega,fun _=>⟨fun _=>?_,fun h=>absurd rfl h⟩⟩
    refine aV (ih q1 ls a ha hls (by omega) (by omega)) (dZ.ne ⟨[],rfl,by simp⟩) ?_
    rintro r o ⟨q2,d1,d2,⟨s1,rfl,d3⟩,rfl⟩
    simp only[↓zq,zs,an,zt,aM,hb.has,ah]
    repeat refine⟨by first|omega|(simp only[ah,aj,aD];omega),?_⟩
    refine aV (ih q2 ls a ha hls (by omega) (by omega)) (dZ.ne ⟨[],rfl,by simp⟩) ?_
    rintro r o ⟨q3,e1,e2,⟨s2,rfl,e3⟩,rfl⟩
    simp only[↓zq,zs,an,zt,aM,hb.has,ah]
    have fin:∀s:List UInt8,s.length<=jZ (d+1)->dZ b p (kN (d+1)) (eI (jZ (d+1))) (.v (.string (mk s))) [.cells [b,.v (.int .i64 (q3:Int))]]:=fun s hs=>⟨q3,by omega,by simp only[kN];omega,⟨s,rfl,hs⟩,rfl⟩
    repeat (first|exact fin _ (by simp only[ah,aj,aD,jZ];omega)|refine⟨by first|omega|(simp only[ah,aj,aD];omega),?_⟩)
   ·simp only[↓zq,zs,an,aM,hb.has]
    refine⟨fun h=>by omega,fun _=>⟨fun h=>by omega,fun _=>⟨fun _=>?_,fun h=>absurd rfl h⟩⟩⟩
    refine aV (ih q1 ls a ha hls (by omega) (by omega)) (dZ.ne ⟨[],rfl,by simp⟩) ?_
    rintro r o ⟨q2,d1,d2,⟨s1,rfl,d3⟩,rfl⟩
    simp only[↓zq,zs,an,zt,aM,hb.has,ah]
    repeat refine⟨by first|omega|(simp only[ah,aj,aD];omega),?_⟩
    refine aV (ih q2 ls a ha hls (by omega) (by omega)) (dZ.ne ⟨[],rfl,by simp⟩) ?_
    rintro r o ⟨q3,e1,e2,⟨s2,rfl,e3⟩,rfl⟩
    simp only[↓zq,zs,an,zt,aM,hb.has,ah]
    have fin:∀s:List UInt8,s.length<=jZ (d+1)->dZ b p (kN (d+1)) (eI (jZ (d+1))) (.v (.string (mk s))) [.cells [b,.v (.int .i64 (q3:Int))]]:=fun s hs=>⟨q3,by omega,by simp only[kN];omega,⟨s,rfl,hs⟩,rfl⟩
    repeat (first|exact fin _ (by simp only[ah,aj,aD,jZ];omega)|refine⟨by first|omega|(simp only[ah,aj,aD];omega),?_⟩)
   ·simp only[↓zq,zs,an,aM,hb.has]
    refine⟨fun h=>by omega,fun _=>⟨fun h=>by omega,fun _=>⟨fun h=>by omega,fun _=>⟨fun _=>?_,fun h=>absurd rfl h⟩⟩⟩⟩
    refine aV (ih q1 ls a ha hls (by omega) (by omega)) (dZ.ne ⟨[],rfl,by simp⟩) ?_
    rintro r o ⟨q2,d1,d2,⟨s1,rfl,d3⟩,rfl⟩
    simp only[↓zq,zs,an,zt,aM,hb.has,ah]
    repeat refine⟨by first|omega|(simp only[ah,aj,aD];omega),?_⟩
    refine aV (ih q2 ls a ha hls (by omega) (by omega)) (dZ.ne ⟨[],rfl,by simp⟩) ?_
    rintro r o ⟨q3,e1,e2,⟨s2,rfl,e3⟩,rfl⟩
    simp only[↓zq,zs,an,zt,aM,hb.has,ah]
    have fin:∀s:List UInt8,s.length<=jZ (d+1)->dZ b p (kN (d+1)) (eI (jZ (d+1))) (.v (.string (mk s))) [.cells [b,.v (.int .i64 (q3:Int))]]:=fun s hs=>⟨q3,by omega,by simp only[kN];omega,⟨s,rfl,hs⟩,rfl⟩
    repeat (first|exact fin _ (by simp only[ah,aj,aD,jZ];omega)|refine⟨by first|omega|(simp only[ah,aj,aD];omega),?_⟩)
   ·simp only[↓zq,zs,an,aM,hb.has]
    refine⟨fun h=>by omega,fun _=>⟨fun h=>by omega,fun _=>⟨fun h=>by omega,fun _=>⟨fun h=>by omega,fun _=>?_⟩⟩⟩⟩
    refine aV (vL b l hb q1 (by omega) _ _ (.of [_,_,_]) (by simp) (by simp)) (dZ.ne ⟨_,ac,rfl⟩) ?_
    rintro r o ⟨q2,g1,g2,hr,rfl⟩
    obtain⟨s,rfl,hs⟩:=gz.lJ (n:=2) (by decide) hr
    simp only[↓zq,zs,an,zt,aM,hb.has]
    repeat refine⟨by first|omega|(simp only[ah,aj,aD];omega),?_⟩
    refine aG (DZ ls a ha s (by omega)) ?_
    simp only[↓zq,zs,an]
    refine aV (ih q2 (ls++[s]) _ (.of _) (fun w hw=>by
     rcases aN.1 hw with hw|hw
     ·exact hls w hw
     ·simp at hw;rw[hw];exact hs) (by simp;omega) (by omega)) (dZ.ne ⟨[],rfl,by simp⟩) ?_
    rintro r o ⟨q3,e1,e2,⟨s2,rfl,e3⟩,rfl⟩
    simp only[↓zq,zs,an,zt,aM,hb.has,ah]
    have fin:∀s:List UInt8,s.length<=jZ (d+1)->dZ b p (kN (d+1)) (eI (jZ (d+1))) (.v (.string (mk s))) [.cells [b,.v (.int .i64 (q3:Int))]]:=fun s hs=>⟨q3,by omega,by simp only[kN];omega,⟨s,rfl,hs⟩,rfl⟩
    repeat (first|exact fin _ (by simp only[ah,aj,aD,jZ];omega)|refine⟨by first|omega|(simp only[ah,aj,aD];omega),?_⟩)
end Go.Proofs.Trees
namespace Go.Proofs.Trees
open Go Go.VL Go.RowKit
theorem dZ.mono{b:AV}{p c c':Nat}{X Y:AV->Prop}(hc:c<=c')(h:∀r,X r->Y r){r:AV}{o:List Ob}(hr:dZ b p c X r o):dZ b p c' Y r o:=by
 obtain⟨q,h1,h2,h3,h4⟩:=hr;exact⟨q,h1,by omega,h r h3,h4⟩
theorem eI.le{n m:Nat}(h:n<=m){r:AV}(hr:eI n r):eI m r:=by obtain⟨s,h1,h2⟩:=hr;exact⟨s,h1,by omega⟩
theorem C8(b:AV)(l:List UInt8)(hb:vj b l)(p:Nat)(hp:p<mR):aC Tryd.prog 20 [.ref 0 0] [.cells [b,.v (.int .i64 (p:Int))]] (dZ b p 100 (eI 200)):=by
 refine CH _ _ hb.has ?_
 unfold Bq
 have hfar:mR=1000000000000000:=rfl
 refine aV (vI b l hb p 12 (by omega) (by decide)) (dZ.ne ⟨0,rfl,fun h=>by omega,by omega⟩) ?_
 rintro r o ⟨q,h1,h2,⟨k,rfl,_,_⟩,rfl⟩
 have kn:∀(c m:Nat) (r:AV) (o:List Ob),c<=90->m<=200->dZ b q c (eI m) r o->∃q':Nat,∃s:List UInt8,r=.v (.string (mk s))/\o=[.cells [b,.v (.int .i64 (q':Int))]]/\dZ b p 100 (eI 200) (.v (.string (mk s))) [.cells [b,.v (.int .i64 (q':Int))]]:=by
  rintro c m r o hc hm ⟨q',g1,g2,⟨s,rfl,hs⟩,rfl⟩
  exact⟨q',s,rfl,rfl,q',by omega,by omega,⟨s,rfl,by omega⟩,rfl⟩
 simp only[↓zq,zs,an,aM,hb.has]
 refine⟨fun _=>?_,fun _=>⟨fun _=>?_,fun _=>⟨fun _=>?_,fun _=>⟨fun _=>?_,fun _=>⟨fun _=>?_,fun _=>?_⟩⟩⟩⟩⟩
 ·refine aV (vL b l hb q (by omega) _ _ (.of [_,_,_,_,_,_,_,_,_]) (by simp) (by simp)) (dZ.ne ⟨_,ac,rfl⟩) ?_
  intro r o hr
  obtain⟨q',s,rfl,rfl,hd⟩:=kn 1 20 r o (by omega) (by omega) (hr.mono (aw _) fun r h=>gz.lJ (n:=20) (by decide) h)
  simp only[↓zq,zs,an,aM,hb.has];exact hd
 ·refine aV (yH b l hb q (by omega)) (dZ.ne ⟨[],rfl,by simp⟩) ?_
  intro r o hr
  obtain⟨q',s,rfl,rfl,hd⟩:=kn _ _ r o (by omega) (by omega) hr
  simp only[↓zq,zs,an,aM,hb.has];exact hd
 ·refine aV (yH b l hb q (by omega)) (dZ.ne ⟨[],rfl,by simp⟩) ?_
  intro r o hr
  obtain⟨q',s,rfl,rfl,hd⟩:=kn _ _ r o (by omega) (by omega) hr
  simp only[↓zq,zs,an,aM,hb.has];exact hd
 ·refine aV (yH b l hb q (by omega)) (dZ.ne ⟨[],rfl,by simp⟩) ?_
  intro r o hr
  obtain⟨q',s,rfl,rfl,hd⟩:=kn _ _ r o (by omega) (by omega) hr
  simp only[↓zq,zs,an,aM,hb.has];exact hd
 ·refine aV (BJ b l hb 2 (by omega) q [[116],[116,49]] _ (dD.of [[116],[116,49]]) (by decide) (by simp) (by simp[kN];omega)) (dZ.ne ⟨[],rfl,by simp⟩) ?_
  intro r o hr
  obtain⟨q',s,rfl,rfl,hd⟩:=kn _ _ r o (by simp[kN]) (by simp[jZ]) hr
  simp only[↓zq,zs,an,aM,hb.has];exact hd
 ·refine aV (BJ b l hb 3 (by omega) q [] _ (dD.of []) (by simp) (by simp) (by simp[kN];omega)) (dZ.ne ⟨[],rfl,by simp⟩) ?_
  intro r o hr
  obtain⟨q',s,rfl,rfl,hd⟩:=kn _ _ r o (by simp[kN]) (by simp[jZ]) hr
  simp only[↓zq,zs,an,aM,hb.has];exact hd
def vC:Nat->Nat
 |0=>200
 |d+1=>2*vC d+10
def sO:Nat->Nat
 |0=>102
 |d+1=>2*sO d+110
theorem DG(d:Nat):200<=vC d:=by induction d<;>simp only[vC]<;>omega
theorem Db(d:Nat):102<=sO d:=by induction d<;>simp only[sO]<;>omega
theorem uF:∀d:Nat,d<=5->vC d<=100000/\sO d<=100000
 |0,_=>by decide
 |1,_=>by decide
 |2,_=>by decide
 |3,_=>by decide
 |4,_=>by decide
 |5,_=>by decide
 |d+6,h=>by omega
theorem Cv(b:AV)(l:List UInt8)(hb:vj b l):∀(d:Nat),d<=5->∀(p:Nat),p+sO d<mR ->
 aC Tryd.prog 10 [.ref 0 0,.v (.int .i64 (d:Int))] [.cells [b,.v (.int .i64 (p:Int))]] (dZ b p (sO d) (eI (vC d))):=by
 intro d
 have hfar:mR=1000000000000000:=rfl
 have one:∀(p:Nat) (L C:Nat) (q:Nat),2<=L->p<=q->q+1<=p+C->∀(r:AV) (o:List Ob) (ls:List (List UInt8)),(∀s,s∈ls->s.length<=2)->dZ b q 1 (gz ls) r o->∃q':Nat,∃s:List UInt8,r=.v (.string (mk s))/\o=[.cells [b,.v (.int .i64 (q':Int))]]/\dZ b p C (eI L) (.v (.string (mk s))) [.cells [b,.v (.int .i64 (q':Int))]]:=by
  rintro p L C q hL hpq hC r o ls hls ⟨q',g1,g2,hr,rfl⟩
  obtain⟨s,rfl,hs⟩:=gz.lJ hls hr
  exact⟨q',s,rfl,rfl,q',by omega,by omega,⟨s,rfl,by omega⟩,rfl⟩
 induction d with
 |
  zero =>
  intro hd p hp
  simp only[sO]at hp
  refine B1 _ _ _ hb.has ?_
  simp only[yT,↓zq,zs,an]
  refine⟨fun _=>?_,fun h=>by omega⟩
  refine aV (vL b l hb p (by omega) _ _ (.of [_,_,_,_,_,_,_]) (by simp) (by simp)) (dZ.ne ⟨_,ac,rfl⟩) ?_
  intro r o hr
  obtain⟨q',s,rfl,rfl,hd⟩:=one p (vC 0) (sO 0) p (by decide) (by omega) (by simp[sO]) r o _ (by decide) hr
  simp only[↓zq,zs,an,aM,hb.has];exact hd
 |
  succ d ih =>
  intro hd p hp
  have hL:=DG d
  have hC:=Db d
  obtain⟨hL8,hC8⟩:=uF d (by omega)
  have eL:vC (d+1)=2*vC d+10:=rfl
  have eC:sO (d+1)=2*sO d+110:=rfl
  have ih:=ih (by omega)
  have ed:IntKind.wrap .i64 (((d+1:Nat):Int)-1)=(d:Int):=by rw[VL.wrap64]<;>omega
  refine B1 _ _ _ hb.has ?_
  simp only[yT,↓zq,zs,an,ed]
  refine⟨fun h=>by omega,fun _=>?_⟩
  refine aV (vI b l hb p 4 (by omega) (by decide)) (dZ.ne ⟨0,rfl,fun h=>by omega,by omega⟩) ?_
  rintro r o ⟨q0,a1,a2,⟨k0,rfl,_,_⟩,rfl⟩
  simp only[↓zq,zs,an,aM,hb.has]
  refine⟨fun _=>?_,fun _=>?_⟩
  ·refine aV (vL b l hb q0 (by omega) _ _ (.of [_,_,_,_,_,_,_]) (by simp) (by simp)) (dZ.ne ⟨_,ac,rfl⟩) ?_
   intro r o hr
   obtain⟨q',s,rfl,rfl,hd⟩:=one p (vC (d+1)) (sO (d+1)) q0 (by omega) (by omega) (by omega) r o _ (by decide) hr
   simp only[↓zq,zs,an,aM,hb.has];exact hd
  ·refine aV (vI b l hb q0 24 (by omega) (by decide)) (dZ.ne ⟨0,rfl,fun h=>by omega,by omega⟩) ?_
   rintro r o ⟨q1,b1,b2,⟨k1,rfl,_,_⟩,rfl⟩
   simp only[↓zq,zs,an,aM,hb.has]
   refine⟨fun _=>?_,fun _=>?_⟩
   ·refine aV (C8 b l hb q1 (by omega)) (dZ.ne ⟨[],rfl,by simp⟩) ?_
    rintro r o ⟨q2,d1,d2,⟨s1,rfl,d3⟩,rfl⟩
    simp only[↓zq,zs,an,aM,hb.has]
    exact⟨q2,by omega,by omega,⟨s1,rfl,by omega⟩,rfl⟩
   ·refine aV (vL b l hb q1 (by omega) _ _ (.of [_,_]) (by simp) (by simp)) (dZ.ne ⟨_,ac,rfl⟩) ?_
    rintro r o ⟨q2,d1,d2,hr,rfl⟩
    obtain⟨s,rfl,hs⟩:=gz.lJ (n:=3) (by decide) hr
    simp only[↓zq,zs,an,aM,hb.has]
    refine aV (ih q2 (by omega)) (dZ.ne ⟨[],rfl,by simp⟩) ?_
    rintro r o ⟨q3,e1,e2,⟨s1,rfl,e3⟩,rfl⟩
    simp only[↓zq,zs,an,zt,aM,hb.has]
    repeat refine⟨by first|omega|(simp only[ah,aj,aD];omega),?_⟩
    refine aV (ih q3 (by omega)) (dZ.ne ⟨[],rfl,by simp⟩) ?_
    rintro r o ⟨q4,f1,f2,⟨s2,rfl,f3⟩,rfl⟩
    simp only[↓zq,zs,an,zt,aM,hb.has]
    have fin:∀s:List UInt8,s.length<=vC (d+1)->dZ b p (sO (d+1)) (eI (vC (d+1))) (.v (.string (mk s))) [.cells [b,.v (.int .i64 (q4:Int))]]:=fun s hs=>⟨q4,by omega,by omega,⟨s,rfl,hs⟩,rfl⟩
    repeat (first|exact fin _ (by simp only[ah,aj,aD];omega)|refine⟨by first|omega|(simp only[ah,aj,aD];omega),?_⟩)
def rh(a:AV):Prop:=LK.sl.has a/\∃l:List UInt8,a.aT=lL l
def B9(r:AV)(o:List Ob):Prop:=∃(b:AV) (l:List UInt8),vj b l/\r=.ref 0 0/\o=[.cells [b,.v (.int .i64 0)]]
theorem B9.ne:∃r o,B9 r o:=⟨_,_,.v (.slice none 0 0),[],⟨(bI).mpr trivial,rfl,by simp⟩,rfl,rfl⟩
theorem DX(a:AV)(ha:rh a):aC Tryd.prog 9 [a] [] B9:=by
 obtain⟨hs,l,hl⟩:=ha
 have hln:a.aT.length=l.length:=by rw[hl];simp[lL]
 refine Dg _ hs ?_
 simp only[BP,↓zq,zs,an,hln]
 refine⟨hs,fun h=>⟨⟨hs,by omega⟩,?_⟩,fun h=>?_⟩
 ·refine⟨_,l.take 2000,⟨(dC _).mpr trivial,?_,?_⟩,rfl,rfl⟩
  ·rw[gh,hl];simp[lL]
  ·simp;omega
 ·exact⟨a,l,⟨hs,hl,by omega⟩,rfl,rfl⟩
end Go.Proofs.Trees
namespace Go.Proofs.Trees
open Go Go.VL
theorem AT(s:List UInt8):aC Tryd.prog 5 [.v (.string (mk s))] [] (cu (.v (.bool (sB s).isSome))):=by
 refine DD _ ?_
 unfold Bf
 refine aG (CU s) ?_
 cases sB s<;>simp[eD,↓zq,zs,an,cu,aB,cJ]
theorem CB(s:List UInt8):aC Tryd.prog 6 [.v (.string (mk s))] [] (cu (.v (.bool (oB s).isSome))):=by
 refine DQ _ ?_
 unfold BS
 refine aV (CX s) (pB.ne _ _ (fun h=>h)) ?_
 rintro r o ⟨c,d,hd,rfl,hh⟩
 simp only[↓zq,zs,an,zt,dW,cu]
 exact hd
end Go.Proofs.Trees
namespace Go.Proofs.Trees
open Go Go.VL Go.RowKit
theorem A4{t d:Ty}{s:Nm}(h:Dv t s d):pl t=true->pl d=true:=by
 induction h with
 |zero s=>exact fun h=>h
 |one s=>exact fun _=>rfl
 |bm k s=>exact fun _=>rfl
 |hit s=>exact fun _=>rfl
 |oJ h=>exact fun _=>rfl
 |plus h1 h2 hl i1 i2=>intro h;simp only[pl,ag]at h |-;exact⟨i1 h.1,i2 h.2⟩
 |times h1 h2 hl i1 i2=>intro h;simp only[pl,ag]at h |-;exact⟨⟨i1 h.1,h.2⟩,⟨h.1,i2 h.2⟩⟩
 |rc x hx hs h1 h2 hl i1 i2=>intro h;simp[pl]at h
theorem gF:∀(t:Ty),aQ t=true->∃y,ba y t=true/\bX y=true
 | .zero,h=>by simp[aQ]at h
 | .one,h=>by simp[aQ]at h
 | .bm u,h=>by simp[aQ]at h
 | .name s,h=>⟨s,by simp[ba],by simpa[aQ]using h⟩
 |
  .plus a b,h=>by
  simp only[aQ,aY]at h
  rcases h with h|h
  ·obtain⟨y,h1,h2⟩:=gF a h;exact⟨y,by simp[ba,h1],h2⟩
  ·obtain⟨y,h1,h2⟩:=gF b h;exact⟨y,by simp[ba,h1],h2⟩
 |
  .times a b,h=>by
  simp only[aQ,aY]at h
  rcases h with h|h
  ·obtain⟨y,h1,h2⟩:=gF a h;exact⟨y,by simp[ba,h1],h2⟩
  ·obtain⟨y,h1,h2⟩:=gF b h;exact⟨y,by simp[ba,h1],h2⟩
 |
  .rc a,h=>by
  obtain⟨y,h1,h2⟩:=gF a (by simpa[aQ]using h);exact⟨y,by simpa[ba]using h1,h2⟩
theorem kY:∀(t:Ty) (y:Nm),ba y t=true->bX y=true->aQ t=true
 | .zero,y,h,_=>by simp[ba]at h
 | .one,y,h,_=>by simp[ba]at h
 | .bm u,y,h,_=>by simp[ba]at h
 |
  .name s,y,h,hy=>by
  have:s=y:=by simpa[ba,eq_comm]using h
  subst this;simpa[aQ]using hy
 |
  .plus a b,y,h,hy=>by
  simp only[ba,aY]at h
  rcases h with h|h
  ·simp[aQ,kY a y h hy]
  ·simp[aQ,kY b y h hy]
 |
  .times a b,y,h,hy=>by
  simp only[ba,aY]at h
  rcases h with h|h
  ·simp[aQ,kY a y h hy]
  ·simp[aQ,kY b y h hy]
 | .rc a,y,h,hy=>by simpa[aQ]using kY a y (by simpa[ba]using h) hy
theorem tj{s:Nm}{t:Ty}(h:sB s=some t):mO s=some t/\aQ t=false/\pl t=true:=by
 unfold sB at h
 split at h
 ·cases h
 ·rename_i t' h1
  split at h
  ·rename_i hp
   cases h
   unfold nk at h1
   split at h1
   ·cases h1
   ·rename_i t2 h2
    split at h1
    ·rename_i hc
     cases h1
     rw[jl]at hc
     rw[dL]at hp
     exact⟨h2,by simpa using hc,by simpa using hp⟩
    ·cases h1
  ·cases h
theorem yw{s:Nm}{t:Ty}(h:mO s=some t)(hf:aQ t=false)(hp:pl t=true):sB s=some t:=by
 unfold sB nk
 rw[h]
 simp[jl,dL,hf,hp]
noncomputable def nq (s x:Nm):Option Nm:=(mO s).bind fun t=>if fK x=true then(jy t x).bind told else none
theorem qB{s d:Nm}{t:Ty}(h:sB s=some t)(hd:nq s [120]=some d):(sB d).isSome=true:=by
 obtain⟨h1,h2,h3⟩:=tj h
 unfold nq at hd
 rw[h1,bE,if_pos (show fK [120]=true by decide)]at hd
 obtain⟨D,e1,e2⟩:=bO.1 hd
 rw[cw]at e1
 obtain⟨e,_,hw,hte,_,_⟩:=oL h1
 have g:dT D:=(hte ▸ hw.yX:dT t).dv e1
 have hb:=nD g (fun y hy=>jk h1 y (e1.names y hy)) e2
 rw[yw hb ?_ (A4 e1 h3)];· rfl
 cases q:aQ D with
 |false=>rfl
 |
  true =>
  obtain⟨y,y1,y2⟩:=gF D q
  rw[kY t y (e1.names y y1) y2]at h2;cases h2
theorem CM(t:Ty)(s:Nm)(h4:t.aq<=400)(hf:∀j,ba (hN j) t=false)(hs:∀j,s≠hN j):aC Tryd.prog 15 [t.av,.v (.string (mk s))] [] (cu (.dm [((jy t s).getD .zero).av,.v (.bool (jy t s).isSome)])):=by
 refine DU _ _ ((aB _).mpr trivial) ?_
 unfold Ai
 refine aV (yu 400 t (by omega) h4 s 0 (fun j _=>hf j) (fun j _=>hs j) (by omega)) (uN.ne _ _ _) ?_
 rintro r ob ⟨f1,g1,g2,rfl,rfl⟩
 simp only[↓zq,zs,an,zt,aM,aB]
 cases jy t s<;>simp[cu]
theorem CP(s x:Nm):aC Tryd.prog 7 [.v (.string (mk s)),.v (.string (mk x))] [] (cu (vh (nq s x))):=by
 refine Dk _ _ ?_
 unfold BF
 refine aG (B8 s) ?_
 simp only[↓zq,zs,an,zt,fC]
 cases q:mO s with
 |
  none =>
  have:nq s x=none:=by unfold nq;rw[q];rfl
  rw[this]
  simp only[eD,↓zq,zs,an]
  exact⟨fun _=>⟨rfl,rfl⟩,fun h=>(by cases h)⟩
 |
  some t =>
  simp only[eD,↓zq,zs,an,cJ]
  refine⟨fun h=>(by cases h),fun _=>?_⟩
  refine aG (zr x) ?_
  simp only[↓zq,zs,an,zt]
  refine⟨fun h=>?_,fun h=>?_⟩
  ·have:nq s x=none:=by unfold nq;rw[q,bE,if_neg (by rw[h];simp)]
   rw[this];exact⟨rfl,rfl⟩
  ·have e1:nq s x=(jy t x).bind told:=by unfold nq;rw[q,bE,if_pos h]
   have hno:∀y,zO y->∀j,y≠hN j:=fun y hy j e=>(ui hy).2 (dd j) e
   have hf:∀j,ba (hN j) t=false:=fun j=>by
    cases q2:ba (hN j) t with
    |false=>rfl
    |true=>exact absurd rfl (hno _ (jk q (hN j) q2) j)
   refine aG (CM t x (kU q) hf (hno x (.inl h))) ?_
   simp only[↓zq,zs,an,zt,aB]
   rw[e1]
   cases q3:jy t x with
   |none=>simp only[Option.isSome_none,cN];exact⟨fun _=>⟨rfl,rfl⟩,fun h=>(by cases h)⟩
   |
    some D =>
    simp only[Option.isSome_some,bE,bU]
    refine⟨fun h=>(by cases h),fun _=>?_⟩
    have hD:=cw.1 q3
    obtain⟨e,_,hw,hte,_,_⟩:=oL q
    have g:dT D:=(hte ▸ hw.yX:dT t).dv hD
    have hl:=hD.small
    refine aG (Dx D g (fun y hy=>zv q y (hD.names y hy)) (by omega)) ?_
    cases told D<;>simp[vh,↓zq,zs,an,zt,cu]
theorem AH(s:Nm):aC Tryd.prog 8 [.v (.string (mk s))] [] (cu (.v (.bool (nk s).isSome))):=by
 refine C0 _ ?_
 unfold BB
 refine aG (B8 s) ?_
 simp only[↓zq,zs,an,zt,fC]
 cases q:mO s with
 |
  none =>
  have:nk s=none:=by unfold nk;rw[q]
  rw[this]
  simp[eD,↓zq,zs,an,cu]
 |
  some t =>
  simp only[eD,↓zq,zs,an,cJ,aB]
  refine⟨fun _=>?_,fun h=>(by cases h)⟩
  refine aG (Ah t (by have:=kU q;omega)) ?_
  simp only[↓zq,zs,an,zt]
  have:nk s=if t.closed=true then some t else none:=by unfold nk;rw[q]
  rw[this]
  cases t.closed<;>simp[cu]
theorem CE(a:AV)(ha:rh a):aC Tryd.prog 4 [a] [] (fun r o=>o=[]/\∃s:Nm,r=.v (.string (mk s))):=by
 refine Dq _ ha.1 ?_
 unfold BY
 refine aV (DX a ha) B9.ne ?_
 rintro r o ⟨b,l,hb,rfl,rfl⟩
 have hfar:mR=1000000000000000:=rfl
 have hL:=uF 3 (by omega)
 simp only[↓zq,zs,an,aM,dW,hb.has]
 refine aV (Cv b l hb 3 (by omega) 0 (by omega)) (dZ.ne ⟨[],rfl,by simp⟩) ?_
 rintro r o ⟨q1,a1,a2,⟨s,rfl,hs⟩,rfl⟩
 simp only[↓zq,zs,an,aM,hb.has]
 first|exact⟨by decide,rfl,s,rfl⟩|exact⟨rfl,s,rfl⟩|exact⟨s,rfl⟩
theorem CA(a:AV)(ha:rh a):aC Tryd.prog 3 [a] [] (cu (.v (.bool true))):=by
 refine DA _ ha.1 ?_
 simp only[Bn,↓zq,zs,an,zt,cu]
 refine⟨ha.1,fun _=>trivial,fun _=>?_⟩
 refine aV (CE a ha) ⟨_,_,rfl,[],rfl⟩ ?_
 rintro r o ⟨rfl,s,rfl⟩
 simp only[↓zq,zs,an,zt]
 refine aG (AT s) ?_
 simp only[↓zq,zs,an,zt]
 refine aG (CB s) ?_
 simp only[↓zq,zs,an,zt,vq s]
 refine⟨fun h=>absurd rfl h,fun _=>⟨fun h=>by simp,fun h=>?_⟩⟩
 obtain⟨t,ht⟩:=Option.isSome_iff_exists.1 h
 refine aG (CP s [120]) ?_
 have hC:(nk s).isSome=true:=by
  unfold sB at ht
  split at ht
  ·cases ht
  ·rename_i h1;rw[h1];rfl
 cases hd:nq s [120]with
 |
  none =>
  simp only[vh,↓zq,zs,an,zt]
  refine aG (AH s) ?_
  simp only[hC,↓zq,zs,an,zt]
  simp
 |
  some d =>
  simp only[vh,↓zq,zs,an,zt]
  refine aG (AH s) ?_
  simp only[hC,↓zq,zs,an,zt]
  refine⟨fun _=>⟨fun h=>by simp at h,fun _=>?_⟩,fun h=>by simp at h⟩
  refine aG (AT d) ?_
  simp[qB ht hd,↓zq,zs,an]
end Go.Proofs.Trees
