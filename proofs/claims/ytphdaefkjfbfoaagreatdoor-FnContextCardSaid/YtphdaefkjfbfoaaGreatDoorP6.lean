/-
  Part of a proof: Go functions read by values, trees of functions, their contracts.
-/
import Derived.Test.YtphdaefkjfbfoaaGreatDoorP5
set_option linter.unusedVariables false
set_option linter.unusedSimpArgs false
open And renaming intro→aF
open Bool renaming and_eq_true→au,eq_iff_iff→cX,or_eq_false_iff→bK,or_eq_true→bg,true_and→bW
open Int renaming tmod→du,toNat_natCast→cc
open List renaming all_cons→cJ,all_eq_true→bF,append_assoc→bD,cons_append→bn,drop_eq_getElem_cons→ba,drop_zero→bO,getD_eq_getElem?_getD→aa,getElem?_eq_getElem→bc,getElem_mem→bI,headD_cons→be,length_append→an,length_cons→aq,length_map→cH,length_nil→aE,map_cons→bE,mem_append→aK,mem_append_left→aA,mem_append_right→aw,mem_cons→aI,mem_cons_self→ah,mem_map→ca,mem_singleton→aQ,nil_append→bh,tail_cons→bu
open Nat renaming le_add_right→cK,le_refl→ap,mod_lt→ej,mul_add→cA,mul_le_mul_right→aU,mul_one→dw,zero_add→aR,zero_le→dJ
open Option renaming bind_eq_some_iff→a6,bind_none→bR,bind_some→aY,getD_some→cI,isSome_iff_exists→bi,isSome_none→ck,isSome_some→cm,map_some→cg
open UInt8 renaming ofNat→aX
namespace Go.Proofs.Trees
open Go Go.VL Go.RowKit
theorem FD:∀(n:Nat) (t:Ty),t.aB<=n->t.aB<=400->∀(s:Nm) (f:Nat),By f t->(∀j,f<j->s≠hN j)->f+1000*t.aB<50000000->az Tryz.prog 157 [.ref 0 0,t.av,.v (.string (mk s))] [Da f false] (z7 (jU t s) f (pG (jU t s) t))
 |0,t,h=>by have:=eg t;omega
 |
  n+1,t,hn=>by
  intro h4 s f hf hs hb
  refine Ic _ _ _ _ ((aG _).mpr trivial) ?_
  have fin0:∀u:Ty,jU t s=some u->z7 (jU t s) f (pG (jU t s) t) u.av [Da f false]:=fun u hu=>by
   rw[hu];exact⟨f,ap _,cK _ _,rfl,rfl⟩
  cases t with
  |
   zero =>
   have:=fin0 .zero (uK s)
   simpa[Cq,Ty.av,↓zq,zs,af]using this
  |
   one =>
   have:=fin0 .zero (xu s)
   simpa[Cq,Ty.av,↓zq,zs,af]using this
  |
   bA k =>
   have:=fin0 .zero (yk k s)
   simpa[Cq,Ty.av,↓zq,zs,af]using this
  |
   name c =>
   simp only[Cq,Ty.av,↓zq,zs,af,zt]
   refine⟨fun h=>(by cases h),fun _=>⟨by omega,fun _=>⟨by omega,fun h=>?_,fun h=>?_⟩,fun h=>absurd rfl h⟩⟩
   ·exact fin0 .one (by rw[nG,if_pos h])
   ·exact fin0 .zero (by rw[nG,if_neg h])
  |
   plus a b =>
   simp only[Ty.aB]at hn h4 hb
   have pa:=eg a
   have pb:=eg b
   have fa:By f a:=fun j hj=>by have:=hf j hj;simp only[a8,bK]at this;exact this.1
   have fb:By f b:=fun j hj=>by have:=hf j hj;simp only[a8,bK]at this;exact this.2
   simp only[Cq,Ty.av,↓zq,zs,af,zt,aG]
   refine⟨fun h=>(by cases h),fun _=>⟨by omega,fun h=>by omega,fun _=>⟨fun _=>?_,fun h=>absurd rfl h⟩⟩⟩
   repeat refine⟨by omega,?_⟩
   rw[uk]
   refine aM (FD n a (by omega) (by omega) s f fa hs (by omega)) (z7.ne _ _ _) ?_
   rintro r ob ⟨f1,g1,g2,rfl,rfl⟩
   simp only[↓zq,zs,af,zt,aN,aG]
   repeat refine⟨by omega,?_⟩
   cases q1:jU a s with
   |
    none =>
    rw[q1]at g2
    simp only[pG]at g2
    simp only[Option.isNone_none,Option.getD_none,bR]
    refine bj (DK b s f1) ?_
    simp only[↓zq,zs,af,zt,aN,aG]
    repeat refine⟨by omega,?_⟩
    refine aj (xx 43 _ _) ?_
    simp only[↓zq,zs,af,zt,cC]
    refine bj (wE f1 true (.plus .zero .zero) (by simp[Ty.aB])) ?_
    simp only[↓zq,zs,af,zt,aN,aG]
    exact⟨f1,g1,by simp only[pG,Ty.aB];omega,rfl,rfl⟩
   |
    some a' =>
    rw[q1]at g2
    simp only[pG]at g2
    have la:=(cw.1 q1).small
    simp only[Option.isNone_some,cI,aY]
    refine aM (FD n b (by omega) (by omega) s f1 (qy fb g1) (fun j hj=>hs j (by omega)) (by omega)) (z7.ne _ _ _) ?_
    rintro r ob ⟨f2,k1,k2,rfl,rfl⟩
    simp only[↓zq,zs,af,zt,aN,aG]
    repeat refine⟨by omega,?_⟩
    refine aj (xx 43 _ _) ?_
    simp only[↓zq,zs,af,zt,cC]
    cases q2:jU b s with
    |
     none =>
     rw[q2]at k2
     simp only[pG]at k2
     simp only[Option.isNone_none,Option.getD_none,bR]
     refine bj (wE f2 true (.plus a' .zero) (by simp[Ty.aB];omega)) ?_
     simp only[↓zq,zs,af,zt,aN,aG]
     exact⟨f2,by omega,by simp only[pG,Ty.aB];omega,rfl,rfl⟩
    |
     some b' =>
     rw[q2]at k2
     simp only[pG]at k2
     have lb:=(cw.1 q2).small
     simp only[Option.isNone_some,cI,aY]
     refine bj (wE f2 false (.plus a' b') (by simp only[Ty.aB];omega)) ?_
     simp only[↓zq,zs,af,zt,aN,aG]
     unfold mU
     by_cases hle:(Ty.plus a' b').aB<=400
     ·rw[if_pos hle]
      refine⟨f2,by omega,by simp only[pG,Ty.aB];omega,?_,?_⟩
      ·simp[uf,show ¬400<(Ty.plus a' b').aB by omega]
      ·simp[zi,show ¬400<(Ty.plus a' b').aB by omega]
     ·rw[if_neg hle]
      refine⟨f2,by omega,by simp only[pG,Ty.aB];omega,?_,?_⟩
      ·simp[uf,show 400<(Ty.plus a' b').aB by omega]
      ·simp[zi,show 400<(Ty.plus a' b').aB by omega]
  |
   times a b =>
   simp only[Ty.aB]at hn h4 hb
   have pa:=eg a
   have pb:=eg b
   have fa:By f a:=fun j hj=>by have:=hf j hj;simp only[a8,bK]at this;exact this.1
   have fb:By f b:=fun j hj=>by have:=hf j hj;simp only[a8,bK]at this;exact this.2
   simp only[Cq,Ty.av,↓zq,zs,af,zt,aG]
   refine⟨fun h=>(by cases h),fun _=>⟨by omega,fun h=>by omega,fun _=>⟨fun h=>by omega,fun _=>⟨fun _=>?_,fun h=>absurd rfl h⟩⟩⟩⟩
   repeat refine⟨by omega,?_⟩
   rw[sM]
   refine aM (FD n a (by omega) (by omega) s f fa hs (by omega)) (z7.ne _ _ _) ?_
   rintro r ob ⟨f1,g1,g2,rfl,rfl⟩
   simp only[↓zq,zs,af,zt,aN,aG]
   repeat refine⟨by omega,?_⟩
   refine aj (xx 42 _ _) ?_
   simp only[↓zq,zs,af,zt,cC]
   repeat refine⟨by omega,?_⟩
   cases q1:jU a s with
   |
    none =>
    rw[q1]at g2
    simp only[pG]at g2
    simp only[Option.isNone_none,Option.getD_none,bR]
    refine bj (DK b s f1) ?_
    simp only[↓zq,zs,af,zt,aN,aG]
    repeat refine⟨by omega,?_⟩
    refine aj (xx 42 _ _) ?_
    simp only[↓zq,zs,af,zt,cC]
    refine aj (xx 43 (.times .zero b) (.times a .zero)) ?_
    simp only[↓zq,zs,af,zt,cC]
    refine bj (wE f1 true (.plus (.times .zero b) (.times a .zero)) (by simp only[Ty.aB];omega)) ?_
    simp only[↓zq,zs,af,zt,aN,aG]
    exact⟨f1,g1,by simp only[pG,Ty.aB];omega,rfl,rfl⟩
   |
    some a' =>
    rw[q1]at g2
    simp only[pG]at g2
    have la:=(cw.1 q1).small
    simp only[Option.isNone_some,cI,aY]
    refine aM (FD n b (by omega) (by omega) s f1 (qy fb g1) (fun j hj=>hs j (by omega)) (by omega)) (z7.ne _ _ _) ?_
    rintro r ob ⟨f2,k1,k2,rfl,rfl⟩
    simp only[↓zq,zs,af,zt,aN,aG]
    repeat refine⟨by omega,?_⟩
    refine aj (xx 42 _ _) ?_
    simp only[↓zq,zs,af,zt,cC]
    cases q2:jU b s with
    |
     none =>
     rw[q2]at k2
     simp only[pG]at k2
     simp only[Option.isNone_none,Option.getD_none,bR]
     refine aj (xx 43 (.times a' b) (.times a .zero)) ?_
     simp only[↓zq,zs,af,zt,cC]
     refine bj (wE f2 true (.plus (.times a' b) (.times a .zero)) (by simp only[Ty.aB];omega)) ?_
     simp only[↓zq,zs,af,zt,aN,aG]
     exact⟨f2,by omega,by simp only[pG,Ty.aB];omega,rfl,rfl⟩
    |
     some b' =>
     rw[q2]at k2
     simp only[pG]at k2
     have lb:=(cw.1 q2).small
     simp only[Option.isNone_some,cI,aY]
     refine aj (xx 43 (.times a' b) (.times a b')) ?_
     simp only[↓zq,zs,af,zt,cC]
     refine bj (wE f2 false (.plus (.times a' b) (.times a b')) (by simp only[Ty.aB];omega)) ?_
     simp only[↓zq,zs,af,zt,aN,aG]
     unfold mU
     by_cases hle:(Ty.plus (.times a' b) (.times a b')).aB<=400
     ·rw[if_pos hle]
      refine⟨f2,by omega,by simp only[pG,Ty.aB];omega,?_,?_⟩
      ·simp[uf,show ¬400<(Ty.plus (.times a' b) (.times a b')).aB by omega]
      ·simp[zi,show ¬400<(Ty.plus (.times a' b) (.times a b')).aB by omega]
     ·rw[if_neg hle]
      refine⟨f2,by omega,by simp only[pG,Ty.aB];omega,?_,?_⟩
      ·simp[uf,show 400<(Ty.plus (.times a' b) (.times a b')).aB by omega]
      ·simp[zi,show 400<(Ty.plus (.times a' b) (.times a b')).aB by omega]
  |
   rc a =>
   simp only[Ty.aB]at hn h4 hb
   have pa:=eg a
   have fa:By f a:=fun j hj=>hf j hj
   have hxa:a8 (hN (f+1)) a=false:=fa _ (by omega)
   have hxs:hN (f+1)≠s:=fun e=>hs _ (by omega) e.symm
   have fo:By (f+1) (dA (.name (hN (f+1))) a 0):=fun j hj=>by
    cases q:a8 (hN j) (dA (.name (hN (f+1))) a 0)with
    |false=>rfl
    |
     true =>
     rcases hZ a 0 q with e|e
     ·have:=Bj e;omega
     ·rw[fa j (by omega)]at e;cases e
   have hoa:(dA (.name (hN (f+1))) a 0).aB=a.aB:=fV _ _ _
   have hop:=yQ (.name (hN (f+1))) a 0 (by omega)
   rw[Av hxa hxs]
   simp only[Cq,Ty.av,↓zq,zs,af,zt,aG]
   refine⟨fun h=>(by cases h),fun _=>⟨by omega,fun h=>by omega,fun _=>⟨fun h=>by omega,fun _=>⟨fun h=>by omega,fun _=>⟨fun _=>?_,fun h=>absurd rfl h⟩⟩⟩⟩⟩
   refine bj (M8 f false (by omega)) ?_
   simp only[↓zq,zs,af,zt,aN,aG]
   repeat refine⟨by omega,?_⟩
   simp only[Ty.av]at hop
   refine aj hop ?_
   simp only[↓zq,zs,af,zt,aN,aG]
   refine aM (FD n (dA (.name (hN (f+1))) a 0) (by omega) (by omega) s (f+1) fo (fun j hj=>hs j (by omega)) (by omega)) (z7.ne _ _ _) ?_
   rintro r ob ⟨f1,g1,g2,rfl,rfl⟩
   simp only[↓zq,zs,af,zt,aN,aG]
   generalize hx:hN (f+1)=x at *
   generalize hin:dA (.name x) a 0=i at *
   have hrc:(Ty.rc a).av=.ptr [.v (.int .u8 114),.v (.string (mk [])),.v (.int .i64 0),a.av,.v (.pointer none)]:=rfl
   cases q1:jU i s with
   |
    none =>
    rw[q1]at g2
    simp only[pG]at g2
    simp only[Option.isNone_none,Option.getD_none,bR]
    refine bj (wE f1 true .zero (by simp[Ty.aB])) ?_
    simp only[↓zq,zs,af,zt,aN,aG]
    rw[<-hrc]
    refine aj (Bt x (.rc a) _) ?_
    simp only[↓zq,zs,af,zt,aG]
    refine bj (DK i x f1) ?_
    simp only[↓zq,zs,af,zt,aN,aG]
    refine bj (wE f1 true .zero (by simp[Ty.aB])) ?_
    simp only[↓zq,zs,af,zt,aN,aG]
    refine aj (Bt x (.rc a) _) ?_
    simp only[↓zq,zs,af,zt,aG]
    refine aj (xx 42 _ (.bA 0)) ?_
    simp only[↓zq,zs,af,zt,cC]
    refine aj (xx 43 (sub x (.rc a) (uf true .zero)) (.times (sub x (.rc a) (uf true .zero)) (.bA 0))) ?_
    simp only[↓zq,zs,af,zt,cC,xJ]
    have hz:sub x (.rc a) (uf true .zero)=.zero:=by rw[xl];rfl
    refine bj (wE f1 true (.rc (.plus (sub x (.rc a) (uf true .zero)) (.times (sub x (.rc a) (uf true .zero)) (.bA 0)))) (by rw[hz];simp only[Ty.aB];omega)) ?_
    simp only[↓zq,zs,af,zt,aN,aG]
    rw[xl,xJ]
    exact⟨f1,by omega,by simp only[pG,Ty.aB];omega,rfl,rfl⟩
   |
    some c =>
    rw[q1]at g2
    simp only[pG]at g2
    have lc:=(cw.1 q1).small
    simp only[Option.isNone_some,cI,aY]
    refine bj (wE f1 false c (by omega)) ?_
    simp only[↓zq,zs,af,zt,aN,aG]
    rw[zS lc,zy lc,<-hrc]
    refine aj (Bt x (.rc a) c) ?_
    simp only[↓zq,zs,af,zt,aG]
    refine aM (FD n i (by omega) (by omega) x f1 (qy fo g1) (fun j hj=>by rw[<-hx];exact fun e=>by have:=Bj e;omega) (by omega)) (z7.ne _ _ _) ?_
    rintro r ob ⟨f2,k1,k2,rfl,rfl⟩
    simp only[↓zq,zs,af,zt,aN,aG]
    have hsc:(sub x (.rc a) c).aB+gy x c=c.aB+gy x c*(Ty.rc a).aB:=er x (.rc a) c
    have hcc:∀t:Ty,gy x t<=t.aB:=fun t=>by
     have h1:=er x .zero t
     have h2:=gM x .zero t
     simp only[Ty.aB,dw]at h1
     have h3:∀t:Ty,gy x t<=t.aB:=by
      intro t
      induction t with
      |name s=>simp only[gy,Ty.aB];split<;>omega
      |plus a b i1 i2=>simp only[gy,Ty.aB];omega
      |times a b i1 i2=>simp only[gy,Ty.aB];omega
      |rc a i=>simp only[gy,Ty.aB];omega
      |_=>simp[gy,Ty.aB]
     exact h3 t
    have hbig:∀t:Ty,t.aB<=400->(sub x (.rc a) t).aB<=400+400*402:=fun t ht=>by
     have h1:=er x (.rc a) t
     have h2:=hcc t
     have h3:gy x t*(Ty.rc a).aB<=400*402:=Nat.mul_le_mul (by omega) (by simp only[Ty.aB];omega)
     omega
    have b1:=hbig c lc
    cases q2:jU i x with
    |
     none =>
     rw[q2]at k2
     simp only[pG]at k2
     simp only[Option.isNone_none,Option.getD_none,bR]
     refine bj (wE f2 true .zero (by simp[Ty.aB])) ?_
     simp only[↓zq,zs,af,zt,aN,aG]
     rw[xl,xJ]
     refine aj (Bt x (.rc a) .zero) ?_
     simp only[↓zq,zs,af,zt,aG]
     refine aj (xx 42 _ (.bA 0)) ?_
     simp only[↓zq,zs,af,zt,cC]
     refine aj (xx 43 (sub x (.rc a) c) (.times (sub x (.rc a) .zero) (.bA 0))) ?_
     simp only[↓zq,zs,af,zt,cC]
     refine bj (wE f2 true (.rc (.plus (sub x (.rc a) c) (.times (sub x (.rc a) .zero) (.bA 0)))) (by simp only[sub,Ty.aB];omega)) ?_
     simp only[↓zq,zs,af,zt,aN,aG]
     rw[xl,xJ]
     exact⟨f2,by omega,by simp only[pG,Ty.aB];omega,rfl,rfl⟩
    |
     some d =>
     rw[q2]at k2
     simp only[pG]at k2
     have ld:=(cw.1 q2).small
     have b2:=hbig d ld
     simp only[Option.isNone_some,cI,aY]
     refine bj (wE f2 false d (by omega)) ?_
     simp only[↓zq,zs,af,zt,aN,aG]
     rw[zS ld,zy ld]
     refine aj (Bt x (.rc a) d) ?_
     simp only[↓zq,zs,af,zt,aG]
     refine aj (xx 42 _ (.bA 0)) ?_
     simp only[↓zq,zs,af,zt,cC]
     refine aj (xx 43 (sub x (.rc a) c) (.times (sub x (.rc a) d) (.bA 0))) ?_
     simp only[↓zq,zs,af,zt,cC]
     have hdrc:oO a x c d=.rc (.plus (sub x (.rc a) c) (.times (sub x (.rc a) d) (.bA 0))):=rfl
     refine bj (wE f2 false (oO a x c d) (by rw[hdrc];simp only[Ty.aB];omega)) ?_
     simp only[↓zq,zs,af,zt,aN,aG]
     have s1:=gM x (.rc a) c
     have s2:=gM x (.rc a) d
     unfold mU
     by_cases hle:(oO a x c d).aB<=400
     ·rw[if_pos hle,zS hle,zy hle]
      exact⟨f2,by omega,by simp only[pG,hdrc,Ty.aB];omega,rfl,rfl⟩
     ·rw[if_neg hle,IC hle,I4 hle]
      exact⟨f2,by omega,by simp only[pG,Ty.aB];omega,rfl,rfl⟩
def NJ(o:Option Ty):AV->List Ob->Prop:=fun r ob=>ob=[]/\∃p,LK.ptr.has p/\r=.cx [p,.v (.bool o.isSome)]/\∀d,o=some d->p=d.av
theorem NJ.ne(o:Option Ty):∃r ob,NJ o r ob:=by
 cases o with
 |none=>exact⟨_,_,rfl,mb,(iM).mpr trivial,rfl,fun d h=>by cases h⟩
 |some d=>exact⟨_,_,rfl,d.av,(aG _).mpr trivial,rfl,fun d' h=>by cases h;rfl⟩
end Go.Proofs.Trees
namespace Go.Proofs.Trees
open Go Go.VL Go.RowKit
theorem qS(h:Nm)(a b:E):(eQ (.list [.atom h,a,b])).length=h.length+(eQ a).length+(eQ b).length+4:=by
 simp only[eQ,dZ,aq,an,aE];omega
theorem iR(F:List Nm)(hF:F.length<=10000):∀(t:Ty) (to:List Nm) (k:Nat),w9 t->(∀w,w∈to->w.length<=20)->k+(F.length+1)*t.aB<90000000->(eQ (gI F t to k).1).length<=50*t.aB
 | .zero,_,_,_,_,_=>by simp[gI,eQ,Ty.aB]
 | .one,_,_,_,_,_=>by simp[gI,eQ,Ty.aB]
 | .name s,_,_,hn,_,_=>by have:=hn s (by simp[a8]);simp only[gI,eQ,Ty.aB];omega
 |
  .bA u,to,_,_,ht,_=>by
  show (gb to u).length<=50*1
  unfold gb
  by_cases h:to.length-1-u<to.length
  ·rw[aa,bc h];have:=ht _ (bI h);simp only[cI];omega
  ·rw[aa,List.getElem?_eq_none (by omega)];simp
 |
  .plus a b,to,k,hn,ht,hk=>by
  have h1:=gV F a to k
  have:(F.length+1)*(1+a.aB+b.aB)=(F.length+1)+(F.length+1)*a.aB+(F.length+1)*b.aB:=by simp only[cA,dw]
  simp only[Ty.aB]at hk
  have i1:=iR F hF a to k (fun y hy=>hn y (by simp[a8,hy])) ht (by omega)
  have i2:=iR F hF b to _ (fun y hy=>hn y (by simp[a8,hy])) ht (show (gI F a to k).2+_<_ by omega)
  simp only[gI,qS,Ty.aB,aq,aE];omega
 |
  .times a b,to,k,hn,ht,hk=>by
  have h1:=gV F a to k
  have:(F.length+1)*(1+a.aB+b.aB)=(F.length+1)+(F.length+1)*a.aB+(F.length+1)*b.aB:=by simp only[cA,dw]
  simp only[Ty.aB]at hk
  have i1:=iR F hF a to k (fun y hy=>hn y (by simp[a8,hy])) ht (by omega)
  have i2:=iR F hF b to _ (fun y hy=>hn y (by simp[a8,hy])) ht (show (gI F a to k).2+_<_ by omega)
  simp only[gI,qS,Ty.aB,aq,aE];omega
 |
  .rc a,to,k,hn,ht,hk=>by
  obtain⟨g1,g2,_,_⟩:=gp F k
  have:(F.length+1)*(2+a.aB)=(F.length+1)*2+(F.length+1)*a.aB:=by simp only[cA]
  simp only[Ty.aB]at hk
  have hl:=wu (k:=nx F k) (by omega)
  have i1:=iR F hF a (to++[tN (nx F k)]) (nx F k+1) hn (fun w hw=>by
   rcases aK.1 hw with hw|hw
   ·exact ht w hw
   ·simp only[aQ]at hw;rw[hw];exact hl) (by omega)
  simp only[gI,qS,Ty.aB,aq,aE]
  simp only[eQ]
  simp only[aq]at hl |-
  omega
theorem Jm(x0 a fv:AV)(F:List Nm)(h0:LK.ptr.has x0)(ha:LK.sl.has a)(hfv:dN fv F)(hF:F.length<100000):∀(n j:Nat),pC F n j<j+n->j+n<100000000 ->
 C7 [x0,a,.v (.string (mk (tN j)))] [.cells [fv],.cells [.v (.int .i64 ((j+1:Nat):Int))]] (ki 1 [x0,a,.v (.string (mk (tN (pC F n j))))] [.cells [fv],.cells [.v (.int .i64 ((pC F n j+1:Nat):Int))]])
 |0,j,h,_=>by simp only[pC]at h;omega
 |
  n+1,j,h,hj=>by
  refine IS _ _ _ _ _ ?_
  simp only[E0,↓zq,zs,af,zt,af,hfv.1,h0,ha]
  refine⟨fun h=>(by simp at h),fun _=>?_⟩
  refine aj (Gx F fv hfv (tN j) (by omega)) ?_
  simp only[↓zq,zs,af,zt]
  rw[pC]at h |-
  refine⟨fun hm=>?_,fun hm=>?_⟩
  ·rw[if_pos hm]at h |-
   refine aj (EW (j+1) (by omega)) ?_
   have hd:=oe 8 (j+1) (by omega)
   simp only[↓zq,zs,af,zt,bn,bh]
   rw[bS (j+1) (by omega)]
   exact⟨by simp[cO];omega,Jm x0 a fv F h0 ha hfv hF n (j+1) (by omega) (by omega)⟩
  ·rw[if_neg hm]
   exact⟨rfl,rfl,rfl⟩
theorem Mg(x0 a fv:AV)(F:List Nm)(h0:LK.ptr.has x0)(ha:LK.sl.has a)(hfv:dN fv F)(hF:F.length<10000)(k:Nat)(hk:k<90000000) :
 C7 [x0,a,.v (.string (mk []))] [.cells [fv],.cells [.v (.int .i64 (k:Int))]] (ki 1 [x0,a,.v (.string (mk (tN (nx F k))))] [.cells [fv],.cells [.v (.int .i64 ((nx F k+1:Nat):Int))]]):=by
 obtain⟨g1,g2,_,_⟩:=gp F k
 refine IS _ _ _ _ _ ?_
 simp only[E0,↓zq,zs,af,zt,af,hfv.1,h0,ha]
 refine⟨fun _=>?_,fun h=>(by simp at h)⟩
 refine aj (EW k (by omega)) ?_
 have hd:=oe 8 k (by omega)
 simp only[↓zq,zs,af,zt,bn,bh]
 rw[bS k (by omega)]
 exact⟨by simp[cO];omega,Jm x0 a fv F h0 ha hfv (by omega) (F.length+1) k (by show nx F k<_;omega) (by omega)⟩
theorem yz(F:List Nm)(fv:AV)(hfv:dN fv F)(hF:F.length<=1000):∀(t:Ty) (to:List Nm) (a:AV) (k:Nat),dN a to->to.length+t.aB<10000->jf t to.length->w9 t->(∀w,w∈to->w.length<=20)->k+(F.length+1)*t.aB<80000000 ->
 az Tryz.prog 184 [t.av,a,.gx 184 [none,some 0,some 1],.ref 0 0,.ref 1 0] [.cells [fv],.cells [.v (.int .i64 (k:Int))]] (gC (.v (.string (mk (eQ (gI F t to k).1)))) [.cells [fv],.cells [.v (.int .i64 ((gI F t to k).2:Int))]])
 |
  .zero,to,a,k,ha,hl,hlc,hs,ht,hk=>by
  refine vZ _ _ _ _ ((aG _).mpr trivial) ha.1 hfv.1 ?_
  simp only[DA,Ty.av,↓zq,zs,af,zt,aG]
  refine⟨by omega,fun h=>by omega,fun _=>⟨fun h=>by omega,fun _=>⟨fun h=>by omega,fun _=>⟨fun h=>by omega,fun _=>⟨fun h=>by omega,fun _=>?_⟩⟩⟩⟩⟩
  repeat refine⟨by omega,?_⟩
  exact⟨⟨rfl,(kZ _ _).mpr trivial,trivial⟩,rfl,rfl⟩
 |
  .one,to,a,k,ha,hl,hlc,hs,ht,hk=>by
  refine vZ _ _ _ _ ((aG _).mpr trivial) ha.1 hfv.1 ?_
  simp only[DA,Ty.av,↓zq,zs,af,zt,aG]
  refine⟨by omega,fun h=>by omega,fun _=>⟨fun h=>by omega,fun _=>⟨fun h=>by omega,fun _=>⟨fun h=>by omega,fun _=>⟨fun h=>by omega,fun _=>?_⟩⟩⟩⟩⟩
  repeat refine⟨by omega,?_⟩
  exact⟨⟨rfl,(kZ _ _).mpr trivial,trivial⟩,rfl,rfl⟩
 |
  .name s,to,a,k,ha,hl,hlc,hs,ht,hk=>by
  refine vZ _ _ _ _ ((aG _).mpr trivial) ha.1 hfv.1 ?_
  simp[DA,Ty.av,↓zq,zs,af,gC,gI,eQ]
 |
  .bA u,to,a,k,ha,hl,hlc,hs,ht,hk=>by
  have hu:u<to.length:=hlc
  refine vZ _ _ _ _ ((aG _).mpr trivial) ha.1 hfv.1 ?_
  simp only[DA,Ty.av,↓zq,zs,af,zt,ha.len]
  rw[wrap64 ((to.length:Int)-1) (by omega) (by omega),wrap64 _ (by omega) (by omega)]
  have e1:(to.length:Int)-1-(u:Int)=((to.length-1-u:Nat):Int):=by omega
  rw[e1]
  simp only[cc,ha.idx (show to.length-1-u<to.length by omega),↓zq,zs,af,zt]
  refine⟨by omega,fun h=>by omega,fun _=>⟨fun _=>⟨ha.1,by omega,⟨ha.1,by omega,by omega⟩,by omega,rfl,rfl⟩,fun h=>absurd rfl h⟩⟩
 |
  .plus x y,to,a,k,ha,hl,hlc,hs,ht,hk=>by
  simp only[Ty.aB]at hl hk
  have h1:=gV F x to k
  have hm:(F.length+1)*(1+x.aB+y.aB)=(F.length+1)+(F.length+1)*x.aB+(F.length+1)*y.aB:=by simp only[cA,dw]
  have sx:w9 x:=fun z hz=>hs z (by simp[a8,hz])
  have sy:w9 y:=fun z hz=>hs z (by simp[a8,hz])
  have t1:=iR F (by omega) x to k sx ht (by omega)
  have t2:=iR F (by omega) y to (gI F x to k).2 sy ht (by omega)
  have hb:(⟨(bytesOf [[.v (.int .u8 43)]]).toArray⟩:ByteArray)=mk [43]:=rfl
  have h8:ji [[AV.v (.int .u8 43)]]:=⟨rfl,(kZ _ _).mpr trivial,trivial⟩
  refine vZ _ _ _ _ ((aG _).mpr trivial) ha.1 hfv.1 ?_
  simp only[DA,Ty.av,↓zq,zs,af,zt,aG,hb]
  refine⟨by omega,fun h=>by omega,fun _=>⟨fun h=>by omega,fun _=>⟨fun _=>?_,fun h=>absurd rfl h⟩⟩⟩
  repeat refine⟨by omega,?_⟩
  refine bj (yz F fv hfv hF x to a k ha (by omega) hlc.1 sx ht (by omega)) ?_
  simp only[↓zq,zs,af,zt,aN,hfv.1,hb,bn,bh]
  repeat (first|refine⟨by omega,?_⟩|refine⟨h8,?_⟩|refine⟨by simp[cO];omega,?_⟩)
  refine bj (yz F fv hfv hF y to a _ ha (by omega) hlc.2 sy ht (by omega)) ?_
  simp only[↓zq,zs,af,zt,aN,hfv.1,hb,bn,bh]
  repeat (first|refine⟨by omega,?_⟩|refine⟨h8,?_⟩|refine⟨by simp[cO];omega,?_⟩)
  refine⟨?_,rfl⟩
  simp[gI,eQ,dZ]
 |
  .times x y,to,a,k,ha,hl,hlc,hs,ht,hk=>by
  simp only[Ty.aB]at hl hk
  have h1:=gV F x to k
  have hm:(F.length+1)*(1+x.aB+y.aB)=(F.length+1)+(F.length+1)*x.aB+(F.length+1)*y.aB:=by simp only[cA,dw]
  have sx:w9 x:=fun z hz=>hs z (by simp[a8,hz])
  have sy:w9 y:=fun z hz=>hs z (by simp[a8,hz])
  have t1:=iR F (by omega) x to k sx ht (by omega)
  have t2:=iR F (by omega) y to (gI F x to k).2 sy ht (by omega)
  have hb:(⟨(bytesOf [[.v (.int .u8 42)]]).toArray⟩:ByteArray)=mk [42]:=rfl
  have h8:ji [[AV.v (.int .u8 42)]]:=⟨rfl,(kZ _ _).mpr trivial,trivial⟩
  refine vZ _ _ _ _ ((aG _).mpr trivial) ha.1 hfv.1 ?_
  simp only[DA,Ty.av,↓zq,zs,af,zt,aG,hb]
  refine⟨by omega,fun h=>by omega,fun _=>⟨fun h=>by omega,fun _=>⟨fun h=>by omega,fun _=>⟨fun _=>?_,fun h=>absurd rfl h⟩⟩⟩⟩
  repeat refine⟨by omega,?_⟩
  refine bj (yz F fv hfv hF x to a k ha (by omega) hlc.1 sx ht (by omega)) ?_
  simp only[↓zq,zs,af,zt,aN,hfv.1,hb,bn,bh]
  repeat (first|refine⟨by omega,?_⟩|refine⟨h8,?_⟩|refine⟨by simp[cO];omega,?_⟩)
  refine bj (yz F fv hfv hF y to a _ ha (by omega) hlc.2 sy ht (by omega)) ?_
  simp only[↓zq,zs,af,zt,aN,hfv.1,hb,bn,bh]
  repeat (first|refine⟨by omega,?_⟩|refine⟨h8,?_⟩|refine⟨by simp[cO];omega,?_⟩)
  refine⟨?_,rfl⟩
  simp[gI,eQ,dZ]
 |
  .rc x,to,a,k,ha,hl,hlc,hs,ht,hk=>by
  simp only[Ty.aB]at hl hk
  obtain⟨g1,g2,_,_⟩:=gp F k
  have hm:(F.length+1)*(2+x.aB)=(F.length+1)*2+(F.length+1)*x.aB:=by simp only[cA]
  have hln:=wu (k:=nx F k) (by omega)
  have ht':∀w,w∈to++[tN (nx F k)]->w.length<=20:=fun w hw=>by
   rcases aK.1 hw with hw|hw
   ·exact ht w hw
   ·simp only[aQ]at hw;rw[hw];exact hln
  have t1:=iR F (by omega) x (to++[tN (nx F k)]) (nx F k+1) hs ht' (by omega)
  have hrc:(Ty.rc x).av=.ptr [.v (.int .u8 114),.v (.string (mk [])),.v (.int .i64 0),x.av,.v (.pointer none)]:=rfl
  refine vZ _ _ _ _ ((aG _).mpr trivial) ha.1 hfv.1 ?_
  simp only[DA,Ty.av,↓zq,zs,af,zt,aG]
  refine⟨by omega,fun h=>by omega,fun _=>⟨fun h=>by omega,fun _=>⟨fun h=>by omega,fun _=>⟨fun h=>by omega,fun _=>⟨fun _=>?_,fun h=>absurd rfl h⟩⟩⟩⟩⟩
  rw[<-hrc]
  repeat refine⟨by omega,?_⟩
  refine df (Mg (Ty.rc x).av a fv F ((aG _).mpr trivial) ha.1 hfv (by omega) k (by omega)) ?_
  simp only[Ty.av,↓zq,zs,af,zt,af,aN,hfv.1,ha.1,aG,ha.2,yT,bh,pF,jZ]
  have hl2:(dd (nx F k)).length+1<=20:=hln
  have hl3:(tN (nx F k)).length=(dd (nx F k)).length+1:=rfl
  refine⟨by omega,by simp only[an,aq,aE,hl3];omega,by omega,by omega,⟨fun c hc=>by simp at hc;rw[hc];rfl,by omega⟩,?_⟩
  refine bj (yz F fv hfv hF x (to++[tN (nx F k)]) _ (nx F k+1) (.of _) (by simp;omega) (by rw[an];exact hlc) hs ht' (by omega)) ?_
  simp only[↓zq,zs,af,zt,aN,hfv.1]
  repeat refine⟨by omega,?_⟩
  refine⟨by simp only[an,aq,aE,hl3];omega,by simp only[an,aq,aE,hl3];omega,?_,rfl⟩
  simp[gI,eQ,dZ]
theorem K7(t:Ty)(g:fu t)(hs:w9 t)(h4:t.aB<=400):az Tryz.prog 160 [t.av] [] (bG (.v (.string (mk (Dn t))))):=by
 refine Nv _ ((aG _).mpr trivial) ?_
 unfold JY
 have hn:=ew t []
 simp only[aE,aR]at hn
 have hm:((bw t []).length+1)*t.aB<=401*400:=Nat.mul_le_mul (by omega) h4
 refine aj (JZ t (by omega)) ?_
 simp only[↓zq,zs,af,zt,bZ]
 refine bj (yz (bw t []) _ (.of _) (by omega) t [] zc 0 .nil (by simp;omega) g.1 hs (fun w hw=>by cases hw) (by omega)) ?_
 simp only[↓zq,zs,af,zt,aN,bZ]
 exact⟨rfl,rfl⟩
theorem L8(t:Ty)(g:fu t)(hs:w9 t)(hl:t.aB<1000000):az Tryz.prog 123 [t.av] [] (bG (ku (told t))):=by
 refine Mw _ ((aG _).mpr trivial) ?_
 unfold GL
 refine aj (Dg t hl) ?_
 simp only[↓zq,zs,af,zt]
 refine⟨fun h=>?_,fun h=>?_⟩
 ·have:told t=none:=by unfold told;rw[if_neg fun h'=>by have:=h'.1;omega]
  rw[this];exact⟨rfl,rfl⟩
 ·have h4:t.aB<=400:=by omega
  refine aj (K7 t g hs h4) ?_
  simp only[↓zq,zs,af,zt]
  refine aj (Gd (Dn t)) ?_
  simp only[↓zq,zs,af,zt,fP]
  unfold told
  cases q:pu (Dn t)with
  |
   none =>
   simp only[gW,↓zq,zs,af]
   rw[if_neg (by simp)]
   exact⟨fun _=>⟨rfl,rfl⟩,fun h=>(by cases h)⟩
  |
   some u =>
   simp only[gW,↓zq,zs,af,fg]
   rw[if_pos ⟨h4,rfl⟩]
   exact⟨fun h=>(by cases h),fun _=>⟨rfl,rfl⟩⟩
end Go.Proofs.Trees
namespace Go.Proofs.Trees
open Go Go.VL Go.RowKit
def vT(n:Nat):Vl->Ty->Bool
 | .u,.one=>true
 | .el k,.name _=>decide (k<n)
 | .l w,.plus a _=>vT n w a
 | .r w,.plus _ b=>vT n w b
 | .p x y,.times a b=>vT n x a&&vT n y b
 | .f w,.rc a=>vT n w (dA (.rc a) a 0)
 |_,_=>false
def lK(us:List Ty):Ty->Nat->Ty
 | .bA k,i=>if k<i then .bA k else us.getD (k-i) .zero
 | .plus a b,i=>.plus (lK us a i) (lK us b i)
 | .times a b,i=>.times (lK us a i) (lK us b i)
 | .rc a,i=>.rc (lK us a (i+1))
 |t,_=>t
def wK:List Fr->List Ty
 |[]=>[]
 |f::r=>lK (wK r) (xE f.ex r) 0::wK r
theorem kR(u:Ty):∀(t:Ty) {i:Nat},jf t i->dA u t i=t
 | .bA k,i,h=>by simp only[dA];rw[if_neg (by have:k<i:=h;omega)]
 | .plus a b,i,h=>by simp only[dA];rw[kR u a h.1,kR u b h.2]
 | .times a b,i,h=>by simp only[dA];rw[kR u a h.1,kR u b h.2]
 | .rc a,i,h=>by simp only[dA];rw[kR u a (i:=i+1) h]
 | .zero,_,_=>rfl
 | .one,_,_=>rfl
 | .name _,_,_=>rfl
theorem oY(us:List Ty):∀(t:Ty) {i:Nat},jf t i->lK us t i=t
 | .bA k,i,h=>by simp only[lK];rw[if_pos (by have:k<i:=h;omega)]
 | .plus a b,i,h=>by simp only[lK];rw[oY us a h.1,oY us b h.2]
 | .times a b,i,h=>by simp only[lK];rw[oY us a h.1,oY us b h.2]
 | .rc a,i,h=>by simp only[lK];rw[oY us a (i:=i+1) h]
 | .zero,_,_=>rfl
 | .one,_,_=>rfl
 | .name _,_,_=>rfl
theorem xd{us:List Ty}(hu:∀u,u∈us->jf u 0)(k:Nat):jf (us.getD k .zero) 0:=by
 by_cases h:k<us.length
 ·rw[aa,bc h];exact hu _ (bI h)
 ·rw[aa,List.getElem?_eq_none (by omega)];trivial
theorem oX{us:List Ty}(hu:∀u,u∈us->jf u 0):∀(t:Ty) (i:Nat),jf (lK us t i) i
 |
  .bA k,i=>by
  simp only[lK]
  split
  ·rename_i h;exact h
  ·exact gq _ (xd hu _) (dJ _)
 | .plus a b,i=>⟨oX hu a i,oX hu b i⟩
 | .times a b,i=>⟨oX hu a i,oX hu b i⟩
 | .rc a,i=>oX hu a (i+1)
 | .zero,_=>trivial
 | .one,_=>trivial
 | .name _,_=>trivial
theorem mE{us:List Ty}(hu:∀u,u∈us->jf u 0)(U:Ty):∀(t:Ty) (i:Nat),dA U (lK us t (i+1)) i=lK (U::us) t i
 |
  .bA k,i=>by
  simp only[lK]
  by_cases h1:k<i
  ·rw[if_pos (by omega),if_pos h1];simp only[dA];rw[if_neg (by omega)]
  ·rw[if_neg h1]
   by_cases h2:k=i
   ·subst h2;rw[if_pos (by omega)];simp[dA]
   ·rw[if_neg (by omega),kR U _ (gq _ (xd hu _) (dJ _)),show k-i=(k-(i+1))+1 by omega,List.getD_cons_succ]
 | .plus a b,i=>by simp only[lK,dA];rw[mE hu U a i,mE hu U b i]
 | .times a b,i=>by simp only[lK,dA];rw[mE hu U a i,mE hu U b i]
 | .rc a,i=>by simp only[lK,dA];rw[mE hu U a (i+1)]
 | .zero,_=>rfl
 | .one,_=>rfl
 | .name _,_=>rfl
theorem vI:∀env:List Fr,∀u,u∈wK env->jf u 0
 |[],u,h=>by cases h
 |
  f::r,u,h=>by
  rcases aI.1 h with rfl|h
  ·exact oX (vI r) _ 0
  ·exact vI r u h
theorem CQ{env:List Fr}(h:WF env):∀{u:Nat} {g:Fr},env[u]?=some g->(wK env).getD u .zero=lK (wK g.out) (xE g.ex g.out) 0:=by
 induction h with
 |nil=>intro u g hg;simp at hg
 |
  cons hs hok hx ht hf hr ih =>
  intro u g hg
  cases u with
  |zero=>simp at hg;subst hg;rfl
  |
   succ u =>
   have:=ih (u:=u) (g:=g) (by simpa using hg)
   simpa[wK]using this
theorem pw(n:Nat):∀(m:Nat) (v:Vl),v.nodes<=m->∀(e:E) (env:List Fr) (t:Ty),Ask e env t->fS n v (e,env)=vT n v (lK (wK env) t 0)
 |0,v,hm=>by have:=dc v;omega
 |
  m+1,v,hm=>by
  intro e env t A
  have recCase:∀(x a b:E) (env:List Fr) (t1:Ty),Ask (.list [x,a,b]) env (.rc t1)->x.at=[114,101,99]->fS n v (.list [x,a,b],env)=vT n v (lK (wK env) (.rc t1) 0):=by
   intro x a b env t1 A hx
   have hhd:hd (.list [x,a,b]) env=(.list [x,a,b],env):=rB A.wf
   obtain⟨t1',he1,h1,f1,hw1⟩:=ky A.wf A.ok hx A.ty A.cl
   cases he1
   obtain⟨ok1,ok2,ok3,_⟩:=A.ok
   have A':Ask b (.mk a.at (.list [x,a,b]) env::env) t1:=⟨ok3,hw1,h1,f1⟩
   cases v with
   |
    f w =>
    simp only[Vl.nodes]at hm
    simp only[fS,hhd,hx,beq_self_eq_true,bW]
    rw[pw n m w (by omega) b _ t1 A']
    have hty:xE (.list [x,a,b]) env=.rc t1:=by unfold xE;rw[A.ty];rfl
    show vT n w (lK (lK (wK env) (xE (.list [x,a,b]) env) 0::wK env) t1 0)=vT n w (dA (.rc (lK (wK env) t1 1)) (lK (wK env) t1 1) 0)
    rw[hty,mE (vI env)]
    rfl
   |_=>simp[fS,hhd,hx,lK,vT]
  rcases mw A.wf A.ty with⟨hb,hq⟩|⟨u,g,rfl,hq,hu⟩
  ·have hhd:hd e env=(e,env):=kW hq
   rcases jx A.ty hb A.cl with⟨rfl,rfl⟩|⟨rfl,rfl⟩|⟨s,rfl,rfl,hp,h0,h1⟩|⟨x,a,b,t1,t2,rfl,hx,rfl,ha,hbb⟩|⟨x,a,b,t1,t2,rfl,hx,rfl,ha,hbb⟩|⟨x,a,b,t1,rfl,hx,rfl⟩
   ·have hp0:ff [48]=false:=rfl
    cases v<;>simp[fS,hhd,lK,vT,hp0]
   ·cases v<;>simp[fS,hhd,lK,vT]
   ·cases v<;>simp[fS,hhd,lK,vT,hp,h1]
   ·obtain⟨ok1,ok2,ok3,_⟩:=A.ok
    obtain⟨f1,f2⟩:=hJ A.cl
    cases v with
    |
     l w =>
     simp only[Vl.nodes]at hm
     simp only[fS,hhd,hx,beq_self_eq_true,bW,lK,vT]
     exact pw n m w (by omega) a env t1 ⟨ok2,A.wf,ha,f1⟩
    |
     r w =>
     simp only[Vl.nodes]at hm
     simp only[fS,hhd,hx,beq_self_eq_true,bW,lK,vT]
     exact pw n m w (by omega) b env t2 ⟨ok3,A.wf,hbb,f2⟩
    |_=>simp[fS,hhd,hx,lK,vT]
   ·obtain⟨ok1,ok2,ok3,_⟩:=A.ok
    obtain⟨f1,f2⟩:=gl A.cl
    cases v with
    |
     p w w' =>
     simp only[Vl.nodes]at hm
     simp only[fS,hhd,hx,beq_self_eq_true,bW,lK,vT]
     rw[pw n m w (by omega) a env t1 ⟨ok2,A.wf,ha,f1⟩,pw n m w' (by omega) b env t2 ⟨ok3,A.wf,hbb,f2⟩]
    |_=>simp[fS,hhd,hx,lK,vT]
   ·exact recCase x a b env t1 A hx
  ·obtain⟨x,a,b,t',hfe,hok,hx,ht',hf',hwf,hlt⟩:=nE A.wf hq
   have hrec:hd g.ex g.out=(g.ex,g.out):=by rw[hfe];exact rB hwf
   rw[tS n v (ql hq) hrec]
   have hcl:lK (wK env) (.bA u) 0=lK (wK g.out) (xE g.ex g.out) 0:=by
    simp only[lK];rw[if_neg (by omega),Nat.sub_zero];exact CQ A.wf hu
   rw[hcl]
   have hty:xE g.ex g.out=t':=by unfold xE;rw[ht'];rfl
   rw[hty,hfe]
   rw[hfe]at ht'
   obtain⟨t1,_,_,rfl⟩:=dj hx ht'
   exact recCase x a b g.out t1 ⟨hok,hwf,ht',hf'⟩ hx
theorem kO{n:Nat}{v:Vl}{e:E}{t:Ty}(A:Ask e [] t):fS n v (e,[])=vT n v t:=by
 have:=pw n v.nodes v (ap _) e [] t A
 rw[this]
 obtain⟨w,ht⟩:=j6 e [] t A.ok (fun w hw=>by cases hw) A.ty
 have hl:=tM w []
 rw[ht]at hl
 exact congrArg (vT n v) (oY _ t hl)
def eE(σ:Nm->Option Ty):Ty->Ty
 | .name s=>(σ s).getD (.name s)
 | .plus a b=>.plus (eE σ a) (eE σ b)
 | .times a b=>.times (eE σ a) (eE σ b)
 | .rc a=>.rc (eE σ a)
 |t=>t
def iH(σ:Nm->Option Ty)(x:Nm)(u:Ty):Nm->Option Ty:=fun s=>if s=x then some u else σ s
theorem ig(σ:Nm->Option Ty)(x:Nm)(u:Ty):∀t:Ty,eE σ (sub x u t)=eE (iH σ x (eE σ u)) t
 |
  .name s=>by
  by_cases h:s=x
  ·simp[sub,eE,iH,h]
  ·simp[sub,eE,iH,h]
 | .plus a b=>by simp only[sub,eE,ig σ x u a,ig σ x u b]
 | .times a b=>by simp only[sub,eE,ig σ x u a,ig σ x u b]
 | .rc a=>by simp only[sub,eE,ig σ x u a]
 | .zero=>rfl
 | .one=>rfl
 | .bA k=>rfl
def Bu(σ:Nm->Option Ty):Prop:=∀s u,σ s=some u->jf u 0
theorem jH{σ:Nm->Option Ty}(hσ:Bu σ):∀(t:Ty) {i:Nat},jf t i->jf (eE σ t) i
 |
  .name s,i,_=>by
  simp only[eE]
  cases q:σ s with
  |none=>trivial
  |some u=>exact gq u (hσ s u q) (dJ _)
 | .plus a b,i,h=>⟨jH hσ a h.1,jH hσ b h.2⟩
 | .times a b,i,h=>⟨jH hσ a h.1,jH hσ b h.2⟩
 | .rc a,i,h=>jH hσ a (i:=i+1) h
 | .zero,_,_=>trivial
 | .one,_,_=>trivial
 | .bA k,_,h=>h
theorem jp{σ:Nm->Option Ty}(hσ:Bu σ)(x:Nm)(U:Ty):∀(t:Ty) (i:Nat),a8 x t=false->eE (iH σ x U) (dA (.name x) t i)=dA U (eE σ t) i
 |
  .name s,i,h=>by
  have hs:s≠x:=by simpa[a8]using h
  simp only[dA,eE,iH,if_neg hs]
  cases q:σ s with
  |none=>rfl
  |some u=>exact(kR U u (gq u (hσ s u q) (dJ _))).symm
 |
  .bA k,i,h=>by
  simp only[dA,eE]
  split
  ·simp[eE,iH]
  ·rfl
 |
  .plus a b,i,h=>by
  simp only[a8,bK]at h
  simp only[dA,eE,jp hσ x U a i h.1,jp hσ x U b i h.2]
 |
  .times a b,i,h=>by
  simp only[a8,bK]at h
  simp only[dA,eE,jp hσ x U a i h.1,jp hσ x U b i h.2]
 | .rc a,i,h=>by simp only[dA,eE,jp hσ x U a (i+1) h]
 | .zero,_,_=>rfl
 | .one,_,_=>rfl
theorem lg{σ:Nm->Option Ty}(hσ:Bu σ)(x:Nm){u:Ty}(hu:jf u 0):Bu (iH σ x u):=fun s v h=>by
 unfold iH at h
 split at h
 ·cases h;exact hu
 ·exact hσ s v h
theorem iQ(x:Nm):∀(n:Nat) (c:Vl) (t:Ty) (i:Nat),c.nodes<=n->dH (dA (.name x) t i) c=dH t c
 |0,c,_,_,h=>by have:=dc c;omega
 |
  n+1,c,t,i,hn=>by
  cases t with
  |bA k=>simp only[dA];split<;>(cases c<;>rfl)
  |
   plus a b =>
   cases c with
   |l c=>simp only[Vl.nodes]at hn;exact iQ x n c a i (by omega)
   |r c=>simp only[Vl.nodes]at hn;exact iQ x n c b i (by omega)
   |_=>rfl
  |
   times a b =>
   cases c with
   |
    l c =>
    cases c with
    |p y z=>simp only[Vl.nodes]at hn;exact iQ x n y a i (by omega)
    |_=>rfl
   |
    r c =>
    cases c with
    |p y z=>simp only[Vl.nodes]at hn;exact iQ x n z b i (by omega)
    |_=>rfl
   |_=>rfl
  |
   rc a =>
   cases c with
   |
    f c =>
    cases c with
    |l y=>simp only[Vl.nodes]at hn;exact iQ x n y a (i+1) (by omega)
    |
     r c =>
     cases c with
     |
      p y z =>
      simp only[Vl.nodes]at hn
      have h1:=iQ x n y a (i+1) (by omega)
      have h2:=iQ x n z (.rc a) i (by omega)
      show (dH (dA (.name x) a (i+1)) y&&dH (.rc (dA (.name x) a (i+1))) z)=(dH a y&&dH (.rc a) z)
      rw[h1]
      exact congrArg _ h2
     |_=>rfl
    |_=>rfl
   |_=>rfl
  |_=>rfl
end Go.Proofs.Trees
namespace Go.Proofs.Trees
open Go Go.VL Go.RowKit
theorem dD(x:Nm):∀(n:Nat) (c:Vl) (t:Ty) (i:Nat) (v:Vl),c.nodes<=n->cG (dA (.name x) t i) c v=cG t c v
 |0,c,_,_,_,h=>by have:=dc c;omega
 |
  n+1,c,t,i,v,hn=>by
  cases t with
  |bA k=>simp only[dA];split<;>(cases c<;>rfl)
  |
   plus a b =>
   cases c with
   |l c=>simp only[Vl.nodes]at hn;exact congrArg Vl.l (dD x n c a i v (by omega))
   |r c=>simp only[Vl.nodes]at hn;exact congrArg Vl.r (dD x n c b i v (by omega))
   |_=>rfl
  |
   times a b =>
   cases c with
   |
    l c =>
    cases c with
    |p y z=>simp only[Vl.nodes]at hn;exact congrArg (fun q=>Vl.p q z) (dD x n y a i v (by omega))
    |_=>rfl
   |
    r c =>
    cases c with
    |p y z=>simp only[Vl.nodes]at hn;exact congrArg (Vl.p y) (dD x n z b i v (by omega))
    |_=>rfl
   |_=>rfl
  |
   rc a =>
   cases c with
   |
    f c =>
    cases c with
    |l y=>simp only[Vl.nodes]at hn;exact congrArg Vl.f (dD x n y a (i+1) v (by omega))
    |
     r c =>
     cases c with
     |
      p y z =>
      simp only[Vl.nodes]at hn
      have h2:=dD x n z (.rc a) i v (by omega)
      have h1:=dD x n y a (i+1) (cG (.rc a) z v) (by omega)
      show Vl.f (cG (dA (.name x) a (i+1)) y (cG (.rc (dA (.name x) a (i+1))) z v))=Vl.f (cG a y (cG (.rc a) z v))
      have h3:cG (.rc (dA (.name x) a (i+1))) z v=cG (.rc a) z v:=h2
      rw[h3,h1]
     |_=>rfl
    |_=>rfl
   |_=>rfl
  |_=>rfl
theorem AI{n:Nat}{c:Vl}{a:Ty}(h:vT n c (.rc a)=true):∃w,c=.f w/\vT n w (dA (.rc a) a 0)=true:=by
 cases c with
 |f w=>exact⟨w,rfl,h⟩
 |_=>simp[vT]at h
theorem iL{n:Nat}{c:Vl}{a b:Ty}(h:vT n c (.plus a b)=true):(∃w,c=.l w/\vT n w a=true)\/∃w,c=.r w/\vT n w b=true:=by
 cases c with
 |l w=>exact .inl ⟨w,rfl,h⟩
 |r w=>exact .inr ⟨w,rfl,h⟩
 |_=>simp[vT]at h
theorem gk{n:Nat}{c:Vl}{a b:Ty}(h:vT n c (.times a b)=true):∃x y,c=.p x y/\vT n x a=true/\vT n y b=true:=by
 cases c with
 |p x y=>simp only[vT,au]at h;exact⟨x,y,rfl,h.1,h.2⟩
 |_=>simp[vT]at h
theorem oc{σ:Nm->Option Ty}(hσ:Bu σ){a c d:Ty}{x:Nm}(ha:jf (.rc a) 0)(hc:jf c 0)(hd:jf d 0):∃X,eE σ (oO a x c d)=.rc X/\dA (.rc X) X 0=.plus (eE (iH σ x (eE σ (.rc a))) c) (.times (eE (iH σ x (eE σ (.rc a))) d) (eE σ (oO a x c d))):=by
 refine⟨.plus (eE σ (sub x (.rc a) c)) (.times (eE σ (sub x (.rc a) d)) (.bA 0)),rfl,?_⟩
 have h1:=jH hσ (sub x (.rc a) c) (kf ha c hc)
 have h2:=jH hσ (sub x (.rc a) d) (kf ha d hd)
 simp only[dA,kR _ _ h1,kR _ _ h2,if_true]
 rw[ig,ig]
 simp only[oO,eE,ig]
theorem tJ(n:Nat):∀(m:Nat) (c:Vl),c.nodes<=m->∀(t:Ty) (s:Nm) (d:Ty) (σ:Nm->Option Ty),Dv t s d->Bu σ->jf t 0->vT n c (eE σ d)=true->dH t c=true
 |0,c,h=>by have:=dc c;omega
 |
  m+1,c,hm=>by
  intro t s d σ hd hσ hl hv
  cases hd with
  |zero=>cases c<;>rfl
  |one=>cases c<;>rfl
  |bA=>cases c<;>rfl
  |hit=>cases c<;>rfl
  |p7=>cases c<;>rfl
  |
   plus h1 h2 _ =>
   rcases iL hv with⟨w,rfl,hw⟩|⟨w,rfl,hw⟩
   ·simp only[Vl.nodes]at hm;exact tJ n m w (by omega) _ s _ σ h1 hσ hl.1 hw
   ·simp only[Vl.nodes]at hm;exact tJ n m w (by omega) _ s _ σ h2 hσ hl.2 hw
  |
   times h1 h2 _ =>
   rcases iL hv with⟨w,rfl,hw⟩|⟨w,rfl,hw⟩
   ·obtain⟨x,y,rfl,hx,hy⟩:=gk hw
    simp only[Vl.nodes]at hm;exact tJ n m x (by omega) _ s _ σ h1 hσ hl.1 hx
   ·obtain⟨x,y,rfl,hx,hy⟩:=gk hw
    simp only[Vl.nodes]at hm;exact tJ n m y (by omega) _ s _ σ h2 hσ hl.2 hy
  |
   @rc a _ c0 d0 x hx hs h1 h2 hsz =>
   have lo:jf (dA (.name x) a 0) 0:=gz x a hl
   obtain⟨X,e1,e2⟩:=oc (x:=x) hσ hl (h1.lc lo) (h2.lc lo)
   have hv':=hv
   rw[e1]at hv'
   obtain⟨w,rfl,hw⟩:=AI hv'
   rw[e2]at hw
   have hcl:=lg hσ x (jH hσ (.rc a) hl)
   rcases iL hw with⟨y,rfl,hy⟩|⟨y,rfl,hy⟩
   ·simp only[Vl.nodes]at hm
    have:=tJ n m y (by omega) _ s _ _ h1 hcl lo hy
    rw[iQ x y.nodes y a 0 (ap _)]at this
    exact this
   ·obtain⟨y,z,rfl,hy,hz⟩:=gk hy
    simp only[Vl.nodes]at hm
    have q1:=tJ n m y (by omega) _ x _ _ h2 hcl lo hy
    rw[iQ x y.nodes y a 0 (ap _)]at q1
    have q2:=tJ n m z (by omega) (.rc a) s _ σ (.rc x hx hs h1 h2 hsz) hσ hl hz
    show (dH a y&&dH (.rc a) z)=true
    rw[q1,q2];rfl
theorem oy(n:Nat):∀(m:Nat) (c:Vl),c.nodes<=m->∀(t:Ty) (s:Nm) (d:Ty) (σ:Nm->Option Ty),Dv t s d->Bu σ->jf t 0->vT n c (eE σ d)=true->∀v,vT n v (eE σ (.name s))=true->vT n (cG t c v) (eE σ t)=true
 |0,c,h=>by have:=dc c;omega
 |
  m+1,c,hm=>by
  intro t s d σ hd hσ hl hv v hvv
  have no:∀c,vT n c .zero=false:=fun c=>by cases c<;>rfl
  cases hd with
  |zero=>rw[show eE σ .zero=.zero from rfl,no]at hv;cases hv
  |one=>rw[show eE σ .zero=.zero from rfl,no]at hv;cases hv
  |bA=>rw[show eE σ .zero=.zero from rfl,no]at hv;cases hv
  |p7=>rw[show eE σ .zero=.zero from rfl,no]at hv;cases hv
  |hit=>rw[jz];exact hvv
  |
   plus h1 h2 _ =>
   rcases iL hv with⟨w,rfl,hw⟩|⟨w,rfl,hw⟩
   ·simp only[Vl.nodes]at hm;exact oy n m w (by omega) _ s _ σ h1 hσ hl.1 hw v hvv
   ·simp only[Vl.nodes]at hm;exact oy n m w (by omega) _ s _ σ h2 hσ hl.2 hw v hvv
  |
   times h1 h2 _ =>
   rcases iL hv with⟨w,rfl,hw⟩|⟨w,rfl,hw⟩
   ·obtain⟨x,y,rfl,hx,hy⟩:=gk hw
    simp only[Vl.nodes]at hm
    have:=oy n m x (by omega) _ s _ σ h1 hσ hl.1 hx v hvv
    show (vT n _ _&&vT n _ _)=true
    rw[this,hy];rfl
   ·obtain⟨x,y,rfl,hx,hy⟩:=gk hw
    simp only[Vl.nodes]at hm
    have:=oy n m y (by omega) _ s _ σ h2 hσ hl.2 hy v hvv
    show (vT n _ _&&vT n _ _)=true
    rw[this,hx];rfl
  |
   @rc a _ c0 d0 x hx hs h1 h2 hsz =>
   have lo:jf (dA (.name x) a 0) 0:=gz x a hl
   obtain⟨X,e1,e2⟩:=oc (x:=x) hσ hl (h1.lc lo) (h2.lc lo)
   have hv':=hv
   rw[e1]at hv'
   obtain⟨w,rfl,hw⟩:=AI hv'
   rw[e2]at hw
   have hcl:=lg hσ x (jH hσ (.rc a) hl)
   have hop:eE (iH σ x (eE σ (.rc a))) (dA (.name x) a 0)=dA (eE σ (.rc a)) (eE σ a) 0:=jp hσ x _ a 0 hx
   have hns:eE (iH σ x (eE σ (.rc a))) (.name s)=eE σ (.name s):=by simp only[eE,iH,if_neg (Ne.symm hs)]
   have hnx:eE (iH σ x (eE σ (.rc a))) (.name x)=eE σ (.rc a):=by simp[eE,iH]
   rcases iL hw with⟨y,rfl,hy⟩|⟨y,rfl,hy⟩
   ·simp only[Vl.nodes]at hm
    have:=oy n m y (by omega) _ s _ _ h1 hcl lo hy v (by rw[hns];exact hvv)
    rw[hop,dD x y.nodes y a 0 v (ap _)]at this
    exact this
   ·obtain⟨y,z,rfl,hy,hz⟩:=gk hy
    simp only[Vl.nodes]at hm
    have q2:=oy n m z (by omega) (.rc a) s _ σ (.rc x hx hs h1 h2 hsz) hσ hl hz v hvv
    have q1:=oy n m y (by omega) _ x _ _ h2 hcl lo hy (cG (.rc a) z v) (by rw[hnx];exact q2)
    rw[hop,dD x y.nodes y a 0 _ (ap _)]at q1
    exact q1
def yP:Nm->Option Ty:=fun _=>none
theorem mv:Bu yP:=fun _ _ h=>by cases h
theorem gh:∀t:Ty,eE yP t=t
 | .name s=>rfl
 | .plus a b=>by simp only[eE,gh a,gh b]
 | .times a b=>by simp only[eE,gh a,gh b]
 | .rc a=>by simp only[eE,gh a]
 | .zero=>rfl
 | .one=>rfl
 | .bA k=>rfl
theorem Eo{n:Nat}{a D:Ty}{x:Nm}(hx:a8 x a=false)(hl:jf (.rc a) 0)(h:zd a x=some D){c:Vl}(hc:vT n c D=true) :
 dH a c=true/\∀v,vT n v (.rc a)=true->vT n (.f (cG a c v)) (.rc a)=true:=by
 simp only[zd,a6,cw,fR]at h
 obtain⟨d,hd,_,rfl⟩:=h
 have lo:jf (dA (.name x) a 0) 0:=gz x a hl
 have hcl:=lg mv x hl
 have e1:sub x (.rc a) d=eE (iH yP x (.rc a)) d:=by
  have:=ig yP x (.rc a) d
  rw[gh,gh]at this;exact this
 rw[e1]at hc
 have h1:=tJ n c.nodes c (ap _) _ x _ _ hd hcl lo hc
 rw[iQ x c.nodes c a 0 (ap _)]at h1
 refine⟨h1,fun v hv=>?_⟩
 have h2:=oy n c.nodes c (ap _) _ x _ _ hd hcl lo hc v (by simpa[eE,iH]using hv)
 rw[dD x c.nodes c a 0 v (ap _),jp mv x _ a 0 hx,gh]at h2
 exact h2
end Go.Proofs.Trees
namespace Go.Proofs.Trees
open Go Go.VL Go.RowKit
theorem yq{env:List Fr}(h:WF env):∀w,w∈names env->cQ w=true:=by
 induction h with
 |nil=>intro w hw;cases hw
 |
  cons hs _ _ _ _ _ ih =>
  intro w hw
  simp only[names,aK,aQ]at hw
  rcases hw with hw|rfl
  ·exact ih w hw
  ·exact hs
theorem Be{ar:List (List UInt8)}{k:Nat}(h:k<ar.length):gb ar k∈ar:=by
 unfold gb
 have:ar.length-1-k<ar.length:=by omega
 simp[aa,this]
def Aw(s:List UInt8)(ar:List (List UInt8)):Prop:=ff s=true\/(bx s ar ar.length).isSome=true
theorem uX{s:List UInt8}{ar:List (List UInt8)}{u:Nat}(hl:∀w,w∈ar->cQ w=true)(h:bx s ar ar.length=some u):cQ s=true:=by
 obtain⟨h1,h2⟩:=fC _ _ (ap _) h
 rw[<-h2];exact hl _ (Be h1)
theorem EI{s0 s:List UInt8}{ar:List (List UInt8)}{t:Ty}(ht:cy (.atom s0) ar=some t)(hl:∀w,w∈ar->cQ w=true)(hs:Aw s ar):eT t (ny s ar)=decide (s0=s):=by
 have h48:∀b:UInt8,ff [b]=false->cQ [b]=false->s≠[b]:=fun b h1 h2 e=>by
  subst e
  rcases hs with h|h
  ·rw[h1]at h;cases h
  ·obtain⟨u,hu⟩:=bi.1 h
   rw[uX hl hu]at h2;cases h2
 simp only[cy]at ht
 split at ht
 ·rename_i e;cases ht;subst e
  have:=h48 48 rfl rfl
  rw[decide_eq_false (fun h=>this h.symm)];cases ny s ar<;>rfl
 ·split at ht
  ·rename_i e;cases ht;subst e
   have:=h48 49 rfl rfl
   rw[decide_eq_false (fun h=>this h.symm)];cases ny s ar<;>rfl
  ·split at ht
   ·rename_i hp
    cases ht
    unfold ny
    cases e:bx s ar ar.length with
    |none=>rfl
    |
     some u =>
     have hloo:=uX hl e
     show false=_
     rw[decide_eq_false]
     rintro rfl
     rw[j2 hp]at hloo;cases hloo
   ·rename_i hnp
    split at ht
    ·split at ht
     ·rename_i u hu
      cases ht
      unfold ny
      cases e:bx s ar ar.length with
      |
       none =>
       show false=_
       rw[decide_eq_false]
       rintro rfl
       rw[hu]at e;cases e
      |
       some u' =>
       show decide (u=u')=_
       rw[cX,decide_eq_true_eq,decide_eq_true_eq]
       constructor
       ·rintro rfl
        rw[<-(fC _ _ (ap _) hu).2,<-(fC _ _ (ap _) e).2]
       ·rintro rfl
        rw[hu]at e;cases e;rfl
     ·rename_i hn
      cases ht
      unfold ny
      cases e:bx s ar ar.length with
      |none=>rfl
      |
       some u =>
       show false=_
       rw[decide_eq_false]
       rintro rfl
       rw[hn]at e;cases e
    ·cases ht
theorem BX{b:E}{ar:List (List UInt8)}{w:List UInt8}{t:Ty}(hb:cy b (ar++[w])=some t)(hw:cQ w=true)(hs:Aw w ar):ud t (ny w ar).up=false:=by
 rcases hs with h|h
 ·rw[j2 h]at hw;cases hw
 ·obtain⟨u,hu⟩:=bi.1 h
  rw[ny,hu];exact Ea hb hu
theorem yA{s w:List UInt8}{ar:List (List UInt8)}(h:w≠s)(hs:Aw s ar):Aw s (ar++[w]):=by
 rcases hs with h1|h1
 ·exact .inl h1
 ·right;rw[jo ar h];obtain⟨u,hu⟩:=bi.1 h1;rw[hu];rfl
def KP(e:E)(s:List UInt8)(t:Ty)(tg:Tg)(v:Vl):Prop:=az Tryz.prog 110 [.agg [.v (.string (mk e.at)),e.sp],.v (.string (mk s)),.agg [.v (.string (mk v.dm.at)),v.dm.sp]] [] (bG (.sl (lN (bY t tg v))))
theorem Dm(n:Nat):∀(m:Nat) (v:Vl),v.nodes<=m->∀(e:E) (env:List Fr) (t:Ty),Ask e env t->fS n v (e,env)=true->env.length+v.nodes<100000->∀(s:List UInt8),Aw s (names env)->KP e s t (ny s (names env)) v
 |0,v,hm=>by have:=dc v;omega
 |
  m+1,v,hm=>by
  intro e env t A hv hl s hs
  have hloo:=yq A.wf
  unfold KP
  refine MF _ _ _ _ _ ((aV _).mpr trivial) ((aV _).mpr trivial) ?_
  have hlen:=rN t (ny s (names env)) v
  have atomCase:∀s0,e=.atom s0->stuck t v=true->eN Tryz.prog 244 (Gb (mk e.at) e.sp (mk s) (mk v.dm.at) v.dm.sp) fun _ xs obs=>bG (.sl (lN (bY t (ny s (names env)) v))) (xs.headD .any) obs:=by
   rintro s0 rfl hst
   have hat:=EI A.ty hloo hs
   have hne:s0≠[]:=A.ok
   simp only[Gb,E.at,↓zq,zs,af,zt]
   refine⟨fun _=>⟨fun h=>?_,fun h=>?_⟩,fun h=>absurd h hne⟩
   ·rw[decide_eq_true h]at hat
    rw[ov v hat]
    refine⟨⟨yU _ _ _ _,by omega⟩,?_⟩
    simp[bG,lN,Vl.dm,E.at,E.sp]
   ·rw[decide_eq_false h]at hat
    rw[eI hat hst]
    simp[bG,lN]
  have hvh:=Kr v
  rw[dU]at hvh
  rcases mw A.wf A.ty with⟨hb,hq⟩|⟨u,g,rfl,hq,hu⟩
  ·have hhd:hd e env=(e,env):=kW hq
   rcases jx A.ty hb A.cl with⟨rfl,rfl⟩|⟨rfl,rfl⟩|⟨s0,rfl,rfl,hp,h0,h1⟩|⟨x,a,b,t1,t2,rfl,hx,rfl,ha,hbb⟩|⟨x,a,b,t1,t2,rfl,hx,rfl,ha,hbb⟩|⟨x,a,b,t1,rfl,hx,rfl⟩
   ·exact atomCase _ rfl (by cases v<;>rfl)
   ·exact atomCase _ rfl (by cases v<;>rfl)
   ·exact atomCase _ rfl (by cases v<;>rfl)
   ·obtain⟨ok1,ok2,ok3,_⟩:=A.ok
    obtain⟨f1,f2⟩:=hJ A.cl
    have hP:=P3.of x a b
    cases v with
    |
     l w =>
     simp only[fS,hhd,hx,beq_self_eq_true,bW]at hv
     simp only[Vl.nodes]at hm hl hlen
     rw[ot]at hlen |-
     rw[kT]at hlen
     have hW:=P2.of (.atom [108]) w.dm
     simp only[Gb,E.at,↓zq,zs,af,zt]
     refine⟨fun h=>absurd rfl h,fun _=>aj hvh ?_⟩
     simp only[vh,Vl.dm,toNat_one,bf,↓zq,zs,af,zt,hP.1,hP.2.1,hP.2.2.1,hP.2.2.2,hW.1,hW.2.1,hW.2.2,aP]
     refine⟨fun _=>?_,fun h=>absurd rfl h⟩
     repeat refine⟨by omega,?_⟩
     refine aj (Dm n m w (by omega) a env t1 ⟨ok2,A.wf,ha,f1⟩ hv (by omega) s hs) ?_
     simp only[↓zq,zs,af]
     refine bj (Iz [108] Vl.l (fun c=>rfl) (bY t1 (ny s (names env)) w) [] (by simp;omega)) ?_
     simp[↓zq,zs,af,bG,be,bu]
    |
     r w =>
     simp only[fS,hhd,hx,beq_self_eq_true,bW]at hv
     simp only[Vl.nodes]at hm hl hlen
     rw[nZ]at hlen |-
     rw[kT]at hlen
     have hW:=P2.of (.atom [114]) w.dm
     simp only[Gb,E.at,↓zq,zs,af,zt]
     refine⟨fun h=>absurd rfl h,fun _=>aj hvh ?_⟩
     simp only[vh,Vl.dm,toNat_one,bf,↓zq,zs,af,zt,hP.1,hP.2.1,hP.2.2.1,hP.2.2.2,hW.1,hW.2.1,hW.2.2,aP]
     refine⟨fun h=>by simp at h,fun _=>⟨fun _=>?_,fun h=>absurd rfl h⟩⟩
     repeat refine⟨by omega,?_⟩
     refine aj (Dm n m w (by omega) b env t2 ⟨ok3,A.wf,hbb,f2⟩ hv (by omega) s hs) ?_
     simp only[↓zq,zs,af]
     refine bj (Iz [114] Vl.r (fun c=>rfl) (bY t2 (ny s (names env)) w) [] (by simp;omega)) ?_
     simp[↓zq,zs,af,bG,be,bu]
    |_=>simp[fS,hhd,hx]at hv
   ·obtain⟨ok1,ok2,ok3,_⟩:=A.ok
    obtain⟨f1,f2⟩:=gl A.cl
    have hP:=P3.of x a b
    cases v with
    |
     p w w' =>
     simp only[fS,hhd,hx,beq_self_eq_true,bW,au]at hv
     simp only[Vl.nodes]at hm hl hlen
     rw[nC]at hlen |-
     simp only[an,kT]at hlen
     have hW:=P3.of (.atom [112]) w.dm w'.dm
     simp only[Gb,E.at,↓zq,zs,af,zt]
     refine⟨fun h=>absurd rfl h,fun _=>aj hvh ?_⟩
     simp only[vh,Vl.dm,toNat_one,bf,↓zq,zs,af,zt,hP.1,hP.2.1,hP.2.2.1,hP.2.2.2,hW.1,hW.2.1,hW.2.2.1,hW.2.2.2,aP]
     refine⟨fun h=>by simp at h,fun _=>⟨fun h=>by simp at h,fun _=>⟨fun _=>?_,fun h=>absurd rfl h⟩⟩⟩
     repeat refine⟨by omega,?_⟩
     refine aj (Dm n m w (by omega) a env t1 ⟨ok2,A.wf,ha,f1⟩ hv.1 (by omega) s hs) ?_
     simp only[↓zq,zs,af]
     have h1:=Kp s (mk []) (E.list [x,a,b]).sp ((aV _).mpr trivial) (mk []) (E.list [.atom [112],w.dm,w'.dm]).sp w w' (P3.of _ _ _) (bY t1 (ny s (names env)) w) (by omega) _ 0 [] (aR _) (by simp;omega)
     rw[bO,bh]at h1
     refine df h1 ?_
     simp only[↓zq,zs,af,aV,af,bf,hP.1,hP.2.1,hP.2.2.2,hW.1,hW.2.1,hW.2.2.2,aP]
     repeat refine⟨by omega,?_⟩
     refine aj (Dm n m w' (by omega) b env t2 ⟨ok3,A.wf,hbb,f2⟩ hv.2 (by omega) s hs) ?_
     simp only[↓zq,zs,af]
     have h2:=I7 (mk []) (E.list [.atom [112],w.dm,w'.dm]).sp w w' (P3.of _ _ _) (bY t2 (ny s (names env)) w') (by omega) _ 0 (lL (fun c=>Vl.l (.p c w')) (bY t1 (ny s (names env)) w)) (aR _) (by rw[kT];omega)
     rw[bO]at h2
     refine df h2 ?_
     simp[↓zq,zs,af,bG]
    |_=>simp[fS,hhd,hx]at hv
   ·obtain⟨t1',he1,h1,f1,hw1⟩:=ky A.wf A.ok hx A.ty A.cl
    cases he1
    obtain⟨ok1,ok2,ok3,_⟩:=A.ok
    obtain⟨_,hla,_,_⟩:=dj hx A.ty
    have A':Ask b (.mk a.at (.list [x,a,b]) env::env) t1:=⟨ok3,hw1,h1,f1⟩
    have hnm:names (.mk a.at (.list [x,a,b]) env::env)=names env++[a.at]:=rfl
    have hP:=P3.of x a b
    cases v with
    |
     f w =>
     simp only[fS,hhd,hx,beq_self_eq_true,bW]at hv
     simp only[Vl.nodes]at hm hl hlen
     have hW:=P2.of (.atom [102]) w.dm
     simp only[Gb,E.at,↓zq,zs,af,zt]
     refine⟨fun h=>absurd rfl h,fun _=>aj hvh ?_⟩
     simp only[vh,Vl.dm,toNat_one,bf,↓zq,zs,af,zt,hP.1,hP.2.1,hP.2.2.1,hP.2.2.2,hW.1,hW.2.1,hW.2.2,aP]
     refine⟨fun h=>by simp at h,fun _=>⟨fun h=>by simp at h,fun _=>⟨fun h=>by simp at h,fun _=>?_⟩⟩⟩
     repeat refine⟨by omega,?_⟩
     refine⟨fun h=>?_,fun h=>?_⟩
     ·
      have hh:a.at=s:=h
      subst hh
      have:ud (.rc t1) (ny a.at (names env))=false:=BX h1 hla hs
      rw[iJ _ _ (ap _) _ _ this]
      simp[bG,lN]
     ·have hh:a.at≠s:=h
      rw[nX]at hlen |-
      simp only[an,kT]at hlen
      repeat refine⟨by omega,?_⟩
      have i1:=Dm n m w (by omega) b _ t1 A' hv (by simp;omega) s (by rw[hnm];exact yA hh hs)
      rw[hnm,yj _ hh]at i1
      refine aj i1 ?_
      simp only[↓zq,zs,af]
      have h3:=IN s a.at (mk []) (E.list [x,a,b]).sp ((aV _).mpr trivial) (mk []) (E.list [.atom [102],w.dm]).sp ((aV _).mpr trivial) (bY t1 (ny s (names env)).up w) (by omega) _ 0 [] (aR _) (by simp;omega)
      rw[bO,bh]at h3
      refine df h3 ?_
      simp only[↓zq,zs,af,aV,af,toNat_one,bf,hP.1,hP.2.1,hP.2.2.2,hW.1,hW.2.1,hW.2.2,aP]
      repeat refine⟨by omega,?_⟩
      have i2:=Dm n m w (by omega) b _ t1 A' hv (by simp;omega) a.at (by rw[hnm];right;rw[fO];rfl)
      rw[hnm,zN]at i2
      refine aj i2 ?_
      simp only[↓zq,zs,af]
      have hl2:=rN t1 (.bd 0) w
      have ih3:∀h,h∈bY t1 (.bd 0) w->KP (.list [x,a,b]) s (.rc t1) (ny s (names env)) h.2:=fun h hh=>by
       have h3:=(jO hh).1
       have h4:=iZ n m w (by omega) b _ t1 A' hv 0 _ rfl h hh
       exact Dm n m h.2 (by omega) (.list [x,a,b]) env (.rc t1) A h4 (by omega) s hs
      have h4:=H0 s (.list [x,a,b]) t1 (ny s (names env)) (bY t1 (.bd 0) w) (by omega) ih3 _ 0 (lL (fun c=>.f (.l c)) (bY t1 (ny s (names env)).up w)) (aR _) (by
       simp only[bO,an,kT]
       have hlen2:(bY t1 (ny s (names env)).up w).length+((bY t1 (.bd 0) w).flatMap (Gt t1 (ny s (names env)))).length<=1+w.nodes:=hlen
       omega)
      rw[bO]at h4
      simp only[E.at]at h4
      refine df h4 ?_
      simp[↓zq,zs,af,bG]
    |_=>simp[fS,hhd,hx]at hv
  ·cases e with
   |atom s0=>exact atomCase _ rfl (by cases v<;>rfl)
   |list l=>exact absurd hq (by rw[show (E.list l).at=[] from rfl,mA A.wf];simp)
end Go.Proofs.Trees
namespace Go.Proofs.Trees
open Go Go.VL Go.RowKit
def tP(s:List UInt8):Option Ty:=match qI s with
 |some (.rc a)=>some a
 |_=>none
def u4(s v:List UInt8):Option Vl:=match tP s with
 |some _=>om s v 100
 |none=>none
theorem xZ{s:List UInt8}{a:Ty}(h:tP s=some a):qI s=some (.rc a):=by
 unfold tP at h
 split at h
 ·rename_i e;cases h;exact e
 ·cases h
structure LV(s v:List UInt8)(w:Vl)(a:Ty)(x A B:E):Prop where
 l:tP s=some a
 ce:jn s=some (.list [x,A,B])
 v:pE v=some w
 ask:Ask (.list [x,A,B]) [] (.rc a)
 hx:x.at=[114,101,99]
 Ok:cQ A.at=true
 body:Ask B [.mk A.at (.list [x,A,B]) []] a
 fS:fS 100 w (.list [x,A,B],[])=true
theorem rO{e:E}{env:List Fr}{a:Ty}(A:Ask e env (.rc a)):∃x y z,e=.list [x,y,z]/\x.at=[114,101,99]/\cQ y.at=true/\Ask z (.mk y.at (.list [x,y,z]) env::env) a:=by
 rcases jx A.ty rfl A.cl with⟨_,h⟩|⟨_,h⟩|⟨s,_,h,_⟩|⟨x,y,z,t1,t2,_,_,h,_⟩|⟨x,y,z,t1,t2,_,_,h,_⟩|⟨x,y,z,t1,rfl,hx,h⟩
 ·cases h
 ·cases h
 ·cases h
 ·cases h
 ·cases h
 ·cases h
  obtain⟨t1',he1,h1,f1,hw1⟩:=ky A.wf A.ok hx A.ty A.cl
  cases he1
  obtain⟨_,_,ok3,_⟩:=A.ok
  obtain⟨_,hla,_,_⟩:=dj hx A.ty
  exact⟨x,y,z,rfl,hx,hla,ok3,hw1,h1,f1⟩
theorem rR{s v:List UInt8}{w:Vl}(h:u4 s v=some w):∃a x A B,LV s v w a x A B:=by
 unfold u4 at h
 split at h
 ·rename_i a hl
  obtain⟨e,t,m,h1,h2,h3,h4,h5,h6,h7⟩:=kz h
  rw[xZ hl]at h3
  cases h3
  obtain⟨x,A,B,rfl,hx,hA,hB⟩:=rO h4
  have:m=100:=by omega
  subst this
  exact⟨a,x,A,B,hl,h1,h2,h4,hx,hA,hB,h7⟩
 ·cases h
theorem LV.iu{s v:List UInt8}{w:Vl}{a:Ty}{x A B:E}(h:LV s v w a x A B):w.iu 100:=(gF h.v).2.1
theorem LV.nodes{s v:List UInt8}{w:Vl}{a:Ty}{x A B:E}(h:LV s v w a x A B):w.nodes<=200:=(gF h.v).2.2
def qv(l:List Nat):List (List AV):=l.map fun(k:Nat)=>[.v (.int .i64 (k:Int))]
theorem wv(l:List Nat):(qv l).length=l.length:=by simp[qv]
end Go.Proofs.Trees
namespace Go.Proofs.Trees
open Go Go.VL Go.RowKit
theorem F7{b:UInt8}(h:gU b=true):eV b=true:=by
 simp only[gU,eV,decide_eq_true_eq]at h |-;omega
theorem BY{y:Nm}(h:Gm y):y≠[]/\y.all eV=true:=by
 have key:∀lo hi,97<=lo->hi<=122->named lo hi y=true->y≠[]/\y.all eV=true:=fun lo hi h1 h2 h=>by
  cases y with
  |nil=>cases h
  |
   cons c r =>
   simp only[named,au,decide_eq_true_eq]at h
   refine⟨by simp,?_⟩
   rw[cJ,au]
   refine⟨?_,?_⟩
   ·simp only[eV,decide_eq_true_eq];omega
   ·rw[bF]
    intro b hb
    exact F7 (bF.1 h.2 b hb)
 rcases h with h|h
 ·exact key 120 122 (by omega) (by omega) h
 ·exact key 116 116 (by omega) (by omega) h
theorem zL(m:Nat):(tN m).all eV=true:=by
 rw[cJ,vG (m+1) m (by omega)];rfl
theorem pg(F:List Nm):∀(t:Ty) (to:List Nm) (k:Nat),(∀y,a8 y t=true->y≠[]/\y.all eV=true)->(∀w,w∈to->w≠[]/\w.all eV=true)->jf t to.length->(gI F t to k).1.pr
 | .zero,_,_,_,_,_=>⟨by simp,by decide⟩
 | .one,_,_,_,_,_=>⟨by simp,by decide⟩
 | .name s,_,_,hn,_,_=>hn s (by simp[a8])
 |
  .bA u,to,_,_,ht,hl=>by
  have:to.length-1-u<to.length:=by have:u<to.length:=hl;omega
  show (E.atom (gb to u)).pr
  unfold gb
  rw[aa,bc this]
  exact ht _ (bI this)
 | .plus a b,to,k,hn,ht,hl=>⟨by simp,⟨by simp,by decide⟩,pg F a to k (fun y hy=>hn y (by simp[a8,hy])) ht hl.1,pg F b to _ (fun y hy=>hn y (by simp[a8,hy])) ht hl.2,trivial⟩
 | .times a b,to,k,hn,ht,hl=>⟨by simp,⟨by simp,by decide⟩,pg F a to k (fun y hy=>hn y (by simp[a8,hy])) ht hl.1,pg F b to _ (fun y hy=>hn y (by simp[a8,hy])) ht hl.2,trivial⟩
 |
  .rc a,to,k,hn,ht,hl=>by
  refine⟨by simp,⟨by simp,by decide⟩,⟨by simp,zL _⟩,pg F a (to++[tN (nx F k)]) _ hn (fun w hw=>?_) (by rw[an];exact hl),trivial⟩
  rcases aK.1 hw with hw|hw
  ·exact ht w hw
  ·simp only[aQ]at hw;rw[hw];exact⟨by simp,zL _⟩
theorem sL{D:Ty}{dt:Nm}(g:fu D)(hn:∀y,a8 y D=true->Gm y)(h:told D=some dt):pu dt=some D:=by
 unfold told at h
 split at h
 ·rename_i hh
  cases h
  obtain⟨t,ht⟩:=bi.1 hh.2
  obtain⟨e,he,hw,hte,_,_⟩:=kV ht
  obtain⟨h1,_,_⟩:=oM he
  obtain⟨hx,hpr,_⟩:=wT h1
  obtain⟨w1,w2,_⟩:=kb (bw D []) D [] 0 (.nil _ _) g.1 fun y hy=>⟨(eG D [] y).2 (.inr hy),g.2 y hy⟩
  have hp:=pg (bw D []) D [] 0 (fun y hy=>BY (hn y hy)) (fun w hw=>by cases hw) g.1
  have:=AB hp hpr hx
  rw[ht,<-hte,<-this,w2]
 ·cases h
theorem sk{a d:Ty}{x:Nm}(h:zd a x=some d):∀y,a8 y d=true->a8 y a=true:=by
 simp only[zd,a6,cw,fR]at h
 obtain⟨d',h1,_,rfl⟩:=h
 intro y hy
 rcases iT _ hy with h|⟨h,h'⟩
 ·exact h
 ·rcases hZ a 0 (h1.names y h')with e|e
  ·exact absurd e h
  ·exact e
structure ZT(s d:Nm)(a:Ty)(x A B:E)(D:Ty):Prop where
 l:tP s=some a
 ce:jn s=some (.list [x,A,B])
 ask:Ask (.list [x,A,B]) [] (.rc a)
 hx:x.at=[114,101,99]
 body:Ask B [.mk A.at (.list [x,A,B]) []] a
 dl:iO s=some d
 y:pu s=some (.rc a)
 lp:zd a rW=some D
 bk:pu d=some D
theorem mI{s:Nm}{t:Ty}(h:qI s=some t):pu s=some t:=by
 unfold qI at h
 split at h
 ·cases h
 ·rename_i u hu
  split at h
  ·cases h;exact hu
  ·cases h
theorem ZT.of{s d:Nm}{a:Ty}(hl:tP s=some a)(hd:iO s=some d):∃x A B D,ZT s d a x A B D:=by
 have hc:=xZ hl
 cases hce:jn s with
 |none=>rw[mB hce]at hc;cases hc
 |
  some e =>
  obtain⟨t,h1,hA,_⟩:=iA hce
  rw[hc]at h1;cases h1
  obtain⟨x,A,B,rfl,hx,hA',hB⟩:=rO hA
  have hy:=mI hc
  have hd':=hd
  unfold iO at hd'
  rw[hy]at hd'
  obtain⟨D,h2,h3⟩:=a6.1 hd'
  obtain⟨e2,he2,hw2,hte2,_,_⟩:=kV hy
  have hg:=Af hw2 hte2 (x:=rW) ⟨by simp,by simp,by simp⟩ h2
  exact⟨x,A,B,D,hl,hce,hA,hx,hB,hd,hy,h2,sL hg.1 (fun y hy'=>kD hy y (sk h2 y hy')) h3⟩
structure Cx(a:Ty)(w:Vl):Prop where
 ok:dH a w=true
 ty:∀v,vT 100 v (.rc a)=true->vT 100 (.f (cG a w v)) (.rc a)=true
 iu:w.iu 100
 nd:w.nodes<=200
structure Fo(a:Ty)(v:Vl):Prop where
 ty:vT 100 v (.rc a)=true
 iu:v.iu 100
 nd:v.nodes<=200
theorem ZT.Dt{s d:Nm}{a:Ty}{x A B:E}{D:Ty}(z:ZT s d a x A B D){c:Nm}{w:Vl}(h:om d c 100=some w):Cx a w:=by
 obtain⟨e,t,m,h1,h2,h3,h4,h5,h6,h7⟩:=kz h
 have hm:m=100:=by omega
 subst hm
 have:=mI h3
 rw[z.bk]at this;cases this
 rw[kO h4]at h7
 obtain⟨e2,he2,hw2,hte2,_,_⟩:=kV z.y
 have hlc:jf (.rc a) 0:=hte2 ▸ hw2.oL.1
 obtain⟨q1,q2⟩:=Eo (vB z.y) hlc z.lp h7
 exact⟨q1,q2,(gF h2).2.1,(gF h2).2.2⟩
theorem ZT.Br{s d:Nm}{a:Ty}{x A B:E}{D:Ty}(z:ZT s d a x A B D){f:Nm}{v:Vl}(h:u4 s f=some v):Fo a v/\f=v.ei:=by
 obtain⟨a',x',A',B',L⟩:=rR h
 have:=L.l
 rw[z.l]at this;cases this
 exact⟨⟨by rw[<-kO L.ask];exact L.fS,L.iu,L.nodes⟩,mD L.v⟩
theorem Fo.fS{s d:Nm}{a:Ty}{x A B:E}{D:Ty}(z:ZT s d a x A B D){v:Vl}(h:Fo a v):fS 100 v (.list [x,A,B],[])=true:=by rw[kO z.ask];exact h.ty
theorem ZT.ei{s d:Nm}{a:Ty}{x A B:E}{D:Ty}(z:ZT s d a x A B D){w:Vl}(hb:w.iu 100)(hv:vT 100 w (.rc a)=true):om s w.ei 100=if w.nodes<=200 then some w else none:=by
 unfold om
 rw[z.ce]
 by_cases hn:w.nodes<=200
 ·rw[nO hb hn,if_pos hn]
  simp only
  rw[if_pos ⟨by omega,by rw[show (100:Int).toNat=100 from rfl,kO z.ask];exact hv⟩]
 ·rw[if_neg hn]
  cases q:pE w.ei with
  |none=>rfl
  |
   some w' =>
   exfalso
   obtain⟨_,h2,h3⟩:=gF q
   have:=wM hb h2 (mD q)
   rw[this]at hn;exact hn h3
theorem ZT.lv{s d:Nm}{a:Ty}{x A B:E}{D:Ty}(z:ZT s d a x A B D)(f:Nm):u4 s f=om s f 100:=by
 unfold u4;rw[z.l]
def iq(d:Nm):List Nm->Option (List Vl)
 |[]=>some []
 |
  c::r=>match om d c 100,iq d r with
  |some w,some l=>some (w::l)
  |_,_=>none
theorem qO{s d:Nm}{a:Ty}{x A B:E}{D:Ty}(z:ZT s d a x A B D):∀(p:List Nm) (l:List Vl),iq d p=some l->p=l.map (·.ei)/\∀c,c∈l->Cx a c
 |[],l,h=>by cases h;exact⟨rfl,fun c hc=>by cases hc⟩
 |
  c::r,l,h=>by
  simp only[iq]at h
  split at h
  ·rename_i w l' h1 h2
   cases h
   obtain⟨q1,q2⟩:=qO z r l' h2
   obtain⟨_,_,_,_,hv,_⟩:=kz h1
   refine⟨by rw[bE,<-q1,<-mD hv],fun c' hc'=>?_⟩
   rcases aI.1 hc' with rfl|hc'
   ·exact z.Dt h1
   ·exact q2 c' hc'
  ·cases h
theorem sH(d:Nm):∀(p q:List Nm),iq d (p++q)=(iq d p).bind fun l=>(iq d q).map (l++·)
 |[],q=>by cases h:iq d q<;>simp[iq,h]
 |
  c::p,q=>by
  simp only[bn,iq,sH d p q]
  cases om d c 100 with
  |none=>rfl
  |
   some w =>
   cases iq d p with
   |none=>rfl
   |some l=>cases iq d q<;>rfl
noncomputable def EB (s:Nm) (p:List Nm) (f:Nm):Option (List Vl×Vl):=match u4 s f,iO s with
 |some v,some d=>if p.length<=50 then(iq d p).map fun l=>(l,v)else none
 |_,_=>none
def zA(s:Nm):Ty:=(tP s).getD .zero
def Dy(a:Ty)(l:List Vl)(v:Vl):Option (List Vl×Vl):=match l.getLast? with
 |none=>none
 |some c=>if(Vl.f (cG a c v)).nodes<=200 then some (l.dropLast,.f (cG a c v))else none
def qA:Nat->Ty->List Vl->Vl->Option Vl
 |0,_,_,v=>some v
 |n+1,a,l,v=>(Dy a l v).bind fun r=>qA n a r.1 r.2
def yl(a:Ty)(l:List Vl)(v:Vl):Option Vl:=qA l.length a l v
noncomputable def uC (s:Nm) (p:List Nm) (f:Nm):Option (List Vl×Vl):=(EB s p f).bind fun r=>if(yl (zA s) r.1 r.2).isSome=true then some r else none
structure ZI(a:Ty)(l:List Vl)(v:Vl):Prop where
 Dt:∀c,c∈l->Cx a c
 Br:Fo a v
theorem EE{a:Ty}{l l':List Vl}{v w:Vl}(h:ZI a l v)(hu:Dy a l v=some (l',w)):ZI a l' w/\l'.length+1=l.length/\∃c,l=l'++[c]/\w=.f (cG a c v):=by
 unfold Dy at hu
 cases q:l.getLast? with
 |none=>rw[q]at hu;cases hu
 |
  some c =>
  rw[q]at hu
  simp only at hu
  split at hu
  ·rename_i hn
   cases hu
   have hne:l≠[]:=by rintro rfl;cases q
   have hl:l.dropLast++[c]=l:=by
    have:=List.dropLast_concat_getLast hne
    rw[List.getLast?_eq_some_getLast hne]at q
    cases q;exact this
   have hc:c∈l:=by rw[<-hl];simp
   have hC:=h.Dt c hc
   refine⟨⟨fun c' hc'=>h.Dt c' (by rw[<-hl];exact aA _ hc'),hC.ty v h.Br.ty,u7 100 a c v hC.iu h.Br.iu,hn⟩,?_,c,hl.symm,rfl⟩
   have:=congrArg List.length hl
   simpa using this
  ·cases hu
end Go.Proofs.Trees
namespace Go.Proofs.Trees
open Go Go.VL Go.RowKit
noncomputable def lV (s x:Nm):Option Nm:=(pu s).bind fun t=>if ff x=true then(jU t x).bind told else none
theorem LM(t:Ty)(s:Nm)(h4:t.aB<=400)(hf:∀j,a8 (hN j) t=false)(hs:∀j,s≠hN j):az Tryz.prog 141 [t.av,.v (.string (mk s))] [] (bG (.cx [((jU t s).getD .zero).av,.v (.bool (jU t s).isSome)])):=by
 refine LB _ _ ((aG _).mpr trivial) ?_
 unfold KH
 refine aM (FD 400 t (by omega) h4 s 0 (fun j _=>hf j) (fun j _=>hs j) (by omega)) (z7.ne _ _ _) ?_
 rintro r ob ⟨f1,g1,g2,rfl,rfl⟩
 simp only[↓zq,zs,af,zt,aN,aG]
 cases jU t s<;>simp[bG]
theorem LP(s x:Nm):az Tryz.prog 97 [.v (.string (mk s)),.v (.string (mk x))] [] (bG (ku (lV s x))):=by
 refine Mt _ _ ?_
 unfold JK
 refine aj (Gd s) ?_
 simp only[↓zq,zs,af,zt,fP]
 cases q:pu s with
 |
  none =>
  have:lV s x=none:=by unfold lV;rw[q];rfl
  rw[this]
  simp only[gW,↓zq,zs,af]
  exact⟨fun _=>⟨rfl,rfl⟩,fun h=>(by cases h)⟩
 |
  some t =>
  simp only[gW,↓zq,zs,af,fg]
  refine⟨fun h=>(by cases h),fun _=>?_⟩
  refine aj (FA x) ?_
  simp only[↓zq,zs,af,zt]
  refine⟨fun h=>?_,fun h=>?_⟩
  ·have:lV s x=none:=by unfold lV;rw[q,aY,if_neg (by rw[h];simp)]
   rw[this];exact⟨rfl,rfl⟩
  ·have e1:lV s x=(jU t x).bind told:=by unfold lV;rw[q,aY,if_pos h]
   have hno:∀y,Gm y->∀j,y≠hN j:=fun y hy j e=>(wg hy).2 (dd j) e
   have hf:∀j,a8 (hN j) t=false:=fun j=>by
    cases q2:a8 (hN j) t with
    |false=>rfl
    |true=>exact absurd rfl (hno _ (kD q (hN j) q2) j)
   refine aj (LM t x (sO q) hf (hno x (.inl h))) ?_
   simp only[↓zq,zs,af,zt,aG]
   rw[e1]
   cases q3:jU t x with
   |none=>simp only[ck,bR];exact⟨fun _=>⟨rfl,rfl⟩,fun h=>(by cases h)⟩
   |
    some D =>
    simp only[cm,aY,cI]
    refine⟨fun h=>(by cases h),fun _=>?_⟩
    have hD:=cw.1 q3
    obtain⟨e,_,hw,hte,_,_⟩:=kV q
    have g:fu D:=(hte ▸ hw.oL:fu t).dv hD
    have hl:=hD.small
    refine aj (L8 D g (fun y hy=>Ba q y (hD.names y hy)) (by omega)) ?_
    cases told D<;>simp[ku,↓zq,zs,af,zt,bG]
theorem yw{s x d:Nm}(h:lV s x=some d):∃t D,pu s=some t/\ff x=true/\Dv t x D/\told D=some d/\pu d=some D:=by
 unfold lV at h
 obtain⟨t,ht,h⟩:=a6.1 h
 split at h
 ·rename_i hp
  obtain⟨D,e1,e2⟩:=a6.1 h
  rw[cw]at e1
  obtain⟨e,_,hw,hte,_,_⟩:=kV ht
  have g:fu D:=(hte ▸ hw.oL:fu t).dv e1
  exact⟨t,D,ht,hp,e1,e2,sL g (fun y hy=>kD ht y (e1.names y hy)) e2⟩
 ·cases h
theorem Nw(s x:Nm):az Tryz.prog 47 [.v (.string (mk s)),.v (.string (mk x))] [] (bG (ku (lV s x))):=by
 refine LW _ _ ?_
 unfold JQ
 refine aM (Ei s) (mo.ne _ _ (fun h=>h)) ?_
 rintro r o ⟨c,d,hd,rfl,hh⟩
 have hhas:bT [.str,.sl] [.v (.string (mk c)),d] 0:=by simp[bT,dC,hd]
 simp only[↓zq,zs,af,zt]
 refine⟨hhas,fun h=>?_,fun h=>?_⟩
 ·rw[tT]at h
  have:pu s=none:=by cases hq:pu s<;>simp[hq]at h |-
  unfold lV;rw[this];exact⟨rfl,rfl⟩
 ·rw[tT]at h
  obtain⟨t,ht⟩:=bi.1 h
  obtain⟨e,he,hw,hte,hats,hok⟩:=kV ht
  obtain⟨e',he',hce⟩:=hh (by rw[he];rfl)
  rw[he]at he';cases he'
  have hds:lV s x=if ff x=true then(jU t x).bind told else none:=by unfold lV;rw[ht,aY]
  rw[hds,hce,dU]
  refine aj (AO x) ?_
  simp only[↓zq,zs,af,zt]
  refine⟨fun h=>?_,fun h=>?_⟩
  ·rw[if_neg (by rw[h];simp)];exact⟨rfl,rfl⟩
  ·rw[if_pos h]
   have hx:qi x:=⟨fun e=>by subst e;revert h;decide,fun e=>by subst e;revert h;decide,fun e=>by subst e;revert h;decide⟩
   have hdv:=yr 400 e x hw (by omega) (by omega) hx
   rw[hte]at hdv
   refine aM hdv (lP.ne fun t' h'=>by have:=jV (s:=x) hw t';rw[hte]at this;exact this h') ?_
   rintro r o ⟨rfl,c1,d1,hd1,rfl,hc1⟩
   simp only[↓zq,zs,af,zt,iV hd1]
   cases q1:jU t x with
   |
    none =>
    simp only[ck,bR]
    exact⟨fun _=>⟨rfl,rfl⟩,fun h=>(by cases h)⟩
   |
    some D =>
    simp only[cm,aY]
    refine⟨fun h=>(by cases h),fun _=>?_⟩
    obtain⟨ed,wd,td,rfl,rfl⟩:=hc1 D q1
    have hD:=cw.1 q1
    have hcn:=ML wd (wd.jh td hD.small) (by rw[td];exact fun y hy=>Ba ht y (hD.names y hy))
    rw[td]at hcn
    refine aj hcn ?_
    cases told D<;>simp only[ku,↓zq,zs,af,zt]<;>exact⟨rfl,rfl⟩
end Go.Proofs.Trees
namespace Go.Proofs.Trees
open Go Go.VL Go.RowKit
theorem Ds:∀(m:Nat) (c:Vl),c.nodes<=m->∀(t:Ty) (v:Vl),dH t c=true->∀(ea:AV) (ids:List Nat),oV ea ids->∀(s:List UInt8) (fr:AV),LK.has .ptr fr->az Tryz.prog 49 [.agg [t.av,ea],c.dQ,.agg [.v (.string (mk s)),fr],v.dQ] [] (bG (cG t c v).dQ)
 |0,c,hm=>by have:=dc c;omega
 |
  m+1,c,hm=>by
  intro t v hc ea ids he s fr hf
  refine LN _ _ _ _ _ _ ((aG _).mpr trivial) he.has ((bo _).mpr trivial) hf ((bo _).mpr trivial) ?_
  have fin:∀x:AV,LK.has .ptr x->LK.has .ptr x=True:=fun x h=>eq_true h
  cases t with
  |zero=>rw[oT];simp[An,Ty.av,↓zq,zs,af,bG]
  |one=>rw[qK];simp[An,Ty.av,↓zq,zs,af,bG]
  |name n=>rw[jz];simp[An,Ty.av,↓zq,zs,af,bG]
  |bA u=>rw[nv];simp[An,Ty.av,↓zq,zs,af,bG]
  |
   plus a b =>
   have hL:=BH a.av b.av ea 43 (mk []) 0 ((aG _).mpr trivial) he.has
   have hR:=BB a.av b.av ea 43 (mk []) 0 ((aG _).mpr trivial) he.has
   rcases Bq hc with⟨x,rfl,hx⟩|⟨x,rfl,hx⟩
   ·simp only[Vl.nodes]at hm
    simp only[An,Ty.av,↓zq,zs,af]
    refine⟨by omega,fun _=>?_,fun h=>absurd rfl h⟩
    refine aj hL ?_
    simp only[↓zq,zs,af,bT,aG,he.has,Vl.dQ,bo]
    refine⟨by omega,fun h=>by omega,fun _=>⟨by omega,by omega,?_⟩⟩
    refine aj (Ds m x (by omega) a v hx ea ids he s fr hf) ?_
    simp only[↓zq,zs,af,bo]
    refine aj (KQ 108 _ ((bo _).mpr trivial)) ?_
    simp[↓zq,zs,af,bG,cG,Vl.dQ,cC]
   ·simp only[Vl.nodes]at hm
    simp only[An,Ty.av,↓zq,zs,af]
    refine⟨by omega,fun _=>?_,fun h=>absurd rfl h⟩
    refine aj hL ?_
    simp only[↓zq,zs,af,bT,aG,he.has,Vl.dQ,bo]
    refine⟨by omega,fun _=>?_,fun h=>absurd rfl h⟩
    refine aj hR ?_
    simp only[↓zq,zs,af,bT,aG,he.has,Vl.dQ,bo]
    refine⟨by omega,by omega,?_⟩
    refine aj (Ds m x (by omega) b v hx ea ids he s fr hf) ?_
    simp only[↓zq,zs,af,bo]
    refine aj (KQ 114 _ ((bo _).mpr trivial)) ?_
    simp[↓zq,zs,af,bG,cG,Vl.dQ,cC]
  |
   times a b =>
   have hL:=BH a.av b.av ea 42 (mk []) 0 ((aG _).mpr trivial) he.has
   have hR:=BB a.av b.av ea 42 (mk []) 0 ((aG _).mpr trivial) he.has
   rcases yC hc with⟨x,y,rfl,hx⟩|⟨x,y,rfl,hx⟩
   ·simp only[Vl.nodes]at hm
    simp only[An,Ty.av,↓zq,zs,af,Vl.dQ]
    refine⟨by omega,fun h=>by omega,fun _=>⟨fun _=>⟨by omega,fun _=>?_,fun h=>absurd rfl h⟩,fun h=>absurd rfl h⟩⟩
    refine aj hL ?_
    simp only[↓zq,zs,af,bT,aG,he.has,Vl.dQ,bo]
    repeat refine⟨by omega,?_⟩
    refine aj (Ds m x (by omega) a v hx ea ids he s fr hf) ?_
    simp only[↓zq,zs,af,bo]
    repeat refine⟨by omega,?_⟩
    refine aj (E1 _ _ ((bo _).mpr trivial) ((bo _).mpr trivial)) ?_
    simp[↓zq,zs,af,bG,cG,Vl.dQ,cC]
   ·simp only[Vl.nodes]at hm
    simp only[An,Ty.av,↓zq,zs,af,Vl.dQ,bo]
    refine⟨by omega,fun h=>by omega,fun _=>⟨fun _=>⟨by omega,fun h=>by omega,fun _=>?_⟩,fun h=>absurd rfl h⟩⟩
    repeat refine⟨by omega,?_⟩
    refine aj hR ?_
    simp only[↓zq,zs,af,bT,aG,he.has,Vl.dQ,bo]
    repeat refine⟨by omega,?_⟩
    refine aj (Ds m y (by omega) b v hx ea ids he s fr hf) ?_
    simp only[↓zq,zs,af,bo]
    refine aj (E1 _ _ ((bo _).mpr trivial) ((bo _).mpr trivial)) ?_
    simp[↓zq,zs,af,bG,cG,Vl.dQ,cC]
  |
   rc a =>
   have hin:=Mo a ea ids he
   simp only[Ty.av]at hin
   rcases FW hc with⟨x,rfl,hx⟩|⟨x,y,rfl,hx,hy⟩
   ·simp only[Vl.nodes]at hm
    simp only[An,Ty.av,↓zq,zs,af,Vl.dQ,bo]
    refine⟨by omega,fun h=>by omega,fun _=>⟨fun h=>by omega,fun _=>⟨fun _=>?_,fun h=>absurd rfl h⟩⟩⟩
    refine aM hin (by have:=Ff.ne a ea ids;simpa only[Ff,Ty.av]using this) ?_
    intro r o hr
    obtain⟨⟨q,hq,rfl⟩,rfl⟩:=hr
    have he2:oV (.ptr [.pid q [(Ty.rc a).av,ea],ea]) (q::ids):=.cons hq he
    have hfr:LK.ptr.has (.pid q [(Ty.rc a).av,ea]):=.inr (.inr ⟨_,_,rfl⟩)
    simp only[Ty.av]at he2 hfr
    simp only[↓zq,zs,af,bT,aG,he2.has,hfr,Vl.dQ,bo,Ty.av]
    repeat refine⟨by omega,?_⟩
    refine⟨fun _=>?_,fun h=>absurd rfl h⟩
    repeat refine⟨by omega,?_⟩
    refine aj (Ds m x (by omega) a v hx _ _ he2 s fr hf) ?_
    simp only[↓zq,zs,af,bo]
    refine aj (KQ 102 _ ((bo _).mpr trivial)) ?_
    simp[↓zq,zs,af,bG,cG,Vl.dQ,cC]
   ·simp only[Vl.nodes]at hm
    simp only[An,Ty.av,↓zq,zs,af,Vl.dQ,bo]
    refine⟨by omega,fun h=>by omega,fun _=>⟨fun h=>by omega,fun _=>⟨fun _=>?_,fun h=>absurd rfl h⟩⟩⟩
    refine aM hin (by have:=Ff.ne a ea ids;simpa only[Ff,Ty.av]using this) ?_
    intro r o hr
    obtain⟨⟨q,hq,rfl⟩,rfl⟩:=hr
    have he2:oV (.ptr [.pid q [(Ty.rc a).av,ea],ea]) (q::ids):=.cons hq he
    have hfr:LK.ptr.has (.pid q [(Ty.rc a).av,ea]):=.inr (.inr ⟨_,_,rfl⟩)
    simp only[Ty.av]at he2 hfr
    simp only[↓zq,zs,af,bT,aG,he2.has,hfr,Vl.dQ,bo,Ty.av]
    repeat refine⟨by omega,?_⟩
    refine fun _=>?_
    repeat refine⟨by omega,?_⟩
    have i1:=Ds m y (by omega) (.rc a) v hy ea ids he s fr hf
    simp only[Ty.av]at i1
    refine aj i1 ?_
    simp only[↓zq,zs,af,bo]
    repeat refine⟨by omega,?_⟩
    refine aj (Ds m x (by omega) a (cG (.rc a) y v) hx _ _ he2 [] _ hfr) ?_
    simp only[↓zq,zs,af,bo]
    refine aj (KQ 102 _ ((bo _).mpr trivial)) ?_
    simp[↓zq,zs,af,bG,cG,Vl.dQ,cC]
end Go.Proofs.Trees
namespace Go.Proofs.Trees
open Go Go.VL Go.RowKit
theorem Ak{s:Nm}{p:List Nm}{f:Nm}{l:List Vl}{v:Vl}(h:EB s p f=some (l,v)):∃d a x A B D,ZT s d a x A B D/\ZI a l v/\p=l.map (·.ei)/\f=v.ei/\p.length<=50/\zA s=a/\u4 s f=some v/\iq d p=some l:=by
 unfold EB at h
 split at h
 ·rename_i v' d h1 h2
  split at h
  ·rename_i hl
   obtain⟨l',h3,h4⟩:=Option.map_eq_some_iff.1 h
   cases h4
   obtain⟨a,_,_,_,L⟩:=rR h1
   obtain⟨x,A,B,D,z⟩:=ZT.of L.l h2
   obtain⟨q1,q2⟩:=qO z p l h3
   obtain⟨q3,q4⟩:=z.Br h1
   exact⟨d,a,x,A,B,D,z,⟨q2,q3⟩,q1,q4,hl,by unfold zA;rw[L.l];rfl,h1,h3⟩
  ·cases h
 ·cases h
end Go.Proofs.Trees
namespace Go.Proofs.Trees
open Go Go.VL Go.RowKit
abbrev tZ(s:Nm):Option (List Vl×Vl)->Nm×List Nm×Nm
 |some r=>(s,r.1.map (·.ei),r.2.ei)
 |none=>([],[],[])
def GZ(o:Option (List Vl×Vl)):Prop:=∀r,o=some r->(∀c,c∈r.1->c.ei.length<=900000)/\r.2.ei.length<=900000/\r.1.length<=51
theorem Cx.ei{a:Ty}{c:Vl}(h:Cx a c):c.ei.length<=900000:=by have:=iS c h.iu;have:=h.nd;omega
theorem Fo.ei{a:Ty}{c:Vl}(h:Fo a c):c.ei.length<=900000:=by have:=iS c h.iu;have:=h.nd;omega
theorem GZ.none:GZ none:=fun r hr=>by cases hr
theorem pf{s:Nm}{p:List Nm}{f:Nm}{l:List Vl}{v:Vl}(h:uC s p f=some (l,v)):EB s p f=some (l,v)/\(yl (zA s) l v).isSome=true:=by
 unfold uC at h
 obtain⟨r,h1,h2⟩:=a6.1 h
 split at h2
 ·rename_i hc
  cases h2
  exact⟨h1,hc⟩
 ·cases h2
end Go.Proofs.Trees
namespace Go.Proofs.Trees
open Go Go.VL Go.RowKit
def Fi:E->Option E
 | .list [x,a,b]=>if x.at=[114,101,99]then some (.list [x,a,b])else none
 |_=>none
def CA(s:List UInt8):Option E:=match jn s with
 |some e=>Fi e
 |none=>none
theorem LV.le{s v:List UInt8}{w:Vl}{a:Ty}{x A B:E}(h:LV s v w a x A B):CA s=some (.list [x,A,B]):=by
 unfold CA;rw[h.ce];simp[Fi,h.hx]
end Go.Proofs.Trees
namespace Go.Proofs.Trees
open Go Go.VL Go.RowKit
theorem ZT.le{s d:Nm}{a:Ty}{x A B:E}{D:Ty}(z:ZT s d a x A B D):CA s=some (.list [x,A,B]):=by
 unfold CA;rw[z.ce];simp[Fi,z.hx]
theorem xM(o:Option Nm):ku o=.cx [.v (.string (mk (o.getD []))),.v (.bool o.isSome)]:=by cases o<;>rfl
theorem qL{d:Nm}:∀{p:List Nm} {l:List Vl},iq d p=some l->p=l.map (·.ei)->∀c,c∈l->om d c.ei 100=some c
 |[],l,h,_,c,hc=>by cases h;cases hc
 |
  q::r,l,h,hp,c,hc=>by
  simp only[iq]at h
  split at h
  ·rename_i w l' h1 h2
   cases h
   simp only[bE,List.cons.injEq]at hp
   rcases aI.1 hc with rfl|hc
   ·rw[<-hp.1];exact h1
   ·exact qL h2 hp.2 c hc
  ·cases h
structure St(s d:Nm)(a:Ty)(l:List Vl)(v:Vl):Prop where
 z:∃x A B D,ZT s d a x A B D
 i:ZI a l v
 each:∀c,c∈l->om d c.ei 100=some c
 len:l.length<=50
theorem St.up{s d:Nm}{a:Ty}{l l':List Vl}{v w:Vl}(h:St s d a l v)(hu:Dy a l v=some (l',w)):St s d a l' w:=by
 obtain⟨h1,h2,c,h3,_⟩:=EE h.i hu
 have hl:=h.len
 exact⟨h.z,h1,fun c' hc'=>h.each c' (by rw[h3];exact aA _ hc'),by omega⟩
def Jb(o:Option Vl):AV->List Ob->Prop:=fun r ob=>ob=[]/\∃c0 pa c2,LK.sl.has pa/\r=.cx [.agg [.v (.string c0),pa,.v (.string c2)],.v (.bool o.isSome)]/\∀w,o=some w->c2=mk w.ei
theorem Jb.ne(o:Option Vl):∃r ob,Jb o r ob:=⟨_,[],rfl,mk [],.sl [],mk ((o.map (·.ei)).getD []),(bZ _).mpr trivial,rfl,fun w h=>by rw[h];rfl⟩
theorem zr(s:Nm)(p:List Nm)(f:Nm):EB s p f=(iO s).bind fun d=>(tP s).bind fun _=>(om s f 100).bind fun v=>if p.length<=50 then(iq d p).map fun l=>(l,v)else none:=by
 unfold EB u4
 cases tP s with
 |none=>cases iO s<;>rfl
 |some a=>cases om s f 100<;>cases iO s<;>rfl
end Go.Proofs.Trees
namespace Go.Proofs.Trees
open Go Go.VL Go.RowKit
inductive Rl(x:Nm):Nat->Tg->Tg->Prop
 |nm (i):Rl x i (.nm x) (.bd i)
 |kg (i s) (h:s≠x):Rl x i (.nm s) (.nm s)
 |bd (i j) (h:j≠i):Rl x i (.bd j) (.bd j)
theorem Rl.up{x:Nm}{i:Nat}{a b:Tg}(h:Rl x i a b):Rl x (i+1) a.up b.up:=by
 cases h with
 |nm=>exact .nm _
 |kg s h=>exact .kg _ _ h
 |bd j h=>exact .bd _ _ (by omega)
theorem Rl.at{x:Nm}{i:Nat}{a b:Tg}(h:Rl x i a b):∀t:Ty,a8 x t=false->eT (dA (.name x) t i) a=eT t b
 |
  .bA k,_=>by
  simp only[dA]
  cases h with
  |
   nm =>
   by_cases e:k=i
   ·simp[e,eT]
   ·simp[e,eT]
  |
   kg s h =>
   by_cases e:k=i
   ·simp[e,eT,Ne.symm h]
   ·simp[e,eT]
  |
   bd j h =>
   by_cases e:k=i
   ·simp[e,eT,Ne.symm h]
   ·simp[e,eT]
 |
  .name s,hn=>by
  have hs:s≠x:=by simpa[a8]using hn
  cases h with
  |nm=>simp[dA,eT,hs]
  |kg=>rfl
  |bd=>rfl
 | .plus _ _,_=>by cases h<;>rfl
 | .times _ _,_=>by cases h<;>rfl
 | .rc _,_=>by cases h<;>rfl
 | .zero,_=>by cases h<;>rfl
 | .one,_=>by cases h<;>rfl
theorem gK(x:Nm):∀(n:Nat) (t:Ty) (i:Nat) (a b:Tg) (v:Vl),a8 x t=false->Rl x i a b->dB n (dA (.name x) t i) a v=dB n t b v
 |0,_,_,_,_,_,_,_=>rfl
 |
  n+1,t,i,a,b,v,hn,h=>by
  rw[dB,dB,h.at t hn]
  by_cases ht:eT t b=true
  ·rw[if_pos ht,if_pos ht]
  ·rw[if_neg ht,if_neg ht]
   cases t with
   |
    plus p q =>
    simp only[a8,bK]at hn
    cases v<;>simp only[dA,jg,gK x n p i a b _ hn.1 h,gK x n q i a b _ hn.2 h]
   |
    times p q =>
    simp only[a8,bK]at hn
    cases v<;>simp only[dA,jg,gK x n p i a b _ hn.1 h,gK x n q i a b _ hn.2 h]
   |
    rc p =>
    have h0:Rl x (i+1) (.bd 0) (.bd 0):=.bd _ _ (by omega)
    cases v<;>simp only[dA,jg]
    rename_i w
    rw[gK x n p (i+1) a.up b.up w hn h.up,gK x n p (i+1) (.bd 0) (.bd 0) w hn h0]
    congr 1
    apply iF
    intro k _
    have:=gK x n (.rc p) i a b k.2 hn h
    simp only[dA]at this
    rw[this]
   |
    bA k =>
    simp only[dA]
    by_cases e:k=i
    ·rw[if_pos e];cases v<;>rfl
    ·rw[if_neg e];cases v<;>rfl
   |name s=>rfl
   |zero=>rfl
   |one=>rfl
theorem nq(x:Nm){t:Ty}{i:Nat}{a b:Tg}(v:Vl)(hn:a8 x t=false)(h:Rl x i a b):bY (dA (.name x) t i) a v=bY t b v:=gK x _ t i a b v hn h
theorem l4(n:Nat):∀(m:Nat) (v:Vl),v.nodes<=m->∀(t:Ty) (s:Nm) (d:Ty) (σ:Nm->Option Ty),Dv t s d->Bu σ->jf t 0->vT n v (eE σ t)=true->∀h,h∈bY t (.nm s) v ->
 vT n h.1 (eE σ d)=true/\vT n h.2 (eE σ (.name s))=true/\cG t h.1 h.2=v
 |0,v,hm=>by have:=dc v;omega
 |
  m+1,v,hm=>by
  intro t s d σ hd hσ hl hv h hh
  cases hd with
  |zero=>rw[eI rfl (by cases v<;>rfl)]at hh;cases hh
  |one=>rw[eI rfl (by cases v<;>rfl)]at hh;cases hh
  |bA=>rw[eI rfl (by cases v<;>rfl)]at hh;cases hh
  |p7 hne=>rw[eI (by simp[eT,hne]) (by cases v<;>rfl)]at hh;cases hh
  |
   hit =>
   rw[ov v (by simp[eT])]at hh
   simp only[aQ]at hh
   subst hh
   exact⟨rfl,hv,jz _ _ _⟩
  |
   @plus a b _ a' b' h1 h2 _ =>
   rcases iL hv with⟨w,rfl,hw⟩|⟨w,rfl,hw⟩
   ·simp only[Vl.nodes]at hm
    rw[ot]at hh
    obtain⟨k,hk,rfl⟩:=dx hh
    obtain⟨q1,q2,q3⟩:=l4 n m w (by omega) _ s _ σ h1 hσ hl.1 hw k hk
    exact⟨q1,q2,congrArg Vl.l q3⟩
   ·simp only[Vl.nodes]at hm
    rw[nZ]at hh
    obtain⟨k,hk,rfl⟩:=dx hh
    obtain⟨q1,q2,q3⟩:=l4 n m w (by omega) _ s _ σ h2 hσ hl.2 hw k hk
    exact⟨q1,q2,congrArg Vl.r q3⟩
  |
   @times a b _ a' b' h1 h2 _ =>
   obtain⟨x,y,rfl,hx,hy⟩:=gk hv
   simp only[Vl.nodes]at hm
   rw[nC]at hh
   rcases aK.1 hh with hh|hh
   ·obtain⟨k,hk,rfl⟩:=dx hh
    obtain⟨q1,q2,q3⟩:=l4 n m x (by omega) _ s _ σ h1 hσ hl.1 hx k hk
    refine⟨?_,q2,congrArg (fun q=>Vl.p q y) q3⟩
    show (vT n k.1 (eE σ a')&&vT n y (eE σ b))=true
    rw[q1,hy];rfl
   ·obtain⟨k,hk,rfl⟩:=dx hh
    obtain⟨q1,q2,q3⟩:=l4 n m y (by omega) _ s _ σ h2 hσ hl.2 hy k hk
    refine⟨?_,q2,congrArg (Vl.p x) q3⟩
    show (vT n x (eE σ a)&&vT n k.1 (eE σ b'))=true
    rw[q1,hx];rfl
  |
   @rc a _ c0 d0 x hx hs h1 h2 hsz =>
   have lo:jf (dA (.name x) a 0) 0:=gz x a hl
   obtain⟨X,e1,e2⟩:=oc (x:=x) hσ hl (h1.lc lo) (h2.lc lo)
   obtain⟨w,rfl,hw⟩:=AI hv
   simp only[Vl.nodes]at hm
   have hcl:=lg hσ x (jH hσ (.rc a) hl)
   have hop:eE (iH σ x (eE σ (.rc a))) (dA (.name x) a 0)=dA (eE σ (.rc a)) (eE σ a) 0:=jp hσ x _ a 0 hx
   have hns:eE (iH σ x (eE σ (.rc a))) (.name s)=eE σ (.name s):=by simp only[eE,iH,if_neg (Ne.symm hs)]
   have hnx:eE (iH σ x (eE σ (.rc a))) (.name x)=eE σ (.rc a):=by simp[eE,iH]
   have hw':vT n w (eE (iH σ x (eE σ (.rc a))) (dA (.name x) a 0))=true:=by rw[hop];exact hw
   have ty:∀y,vT n y (dA (.rc X) X 0)=true->vT n (.f y) (eE σ (oO a x c0 d0))=true:=fun y hy=>by rw[e1];exact hy
   rw[nX]at hh
   rcases aK.1 hh with hh|hh
   ·obtain⟨k,hk,rfl⟩:=dx hh
    have hk':k∈bY (dA (.name x) a 0) (.nm s) w:=by rw[nq x w hx (.kg 0 s (Ne.symm hs))];exact hk
    obtain⟨q1,q2,q3⟩:=l4 n m w (by omega) _ s _ _ h1 hcl lo hw' k hk'
    rw[dD x k.1.nodes k.1 a 0 k.2 (ap _)]at q3
    refine⟨ty _ ?_,by rw[<-hns];exact q2,congrArg Vl.f q3⟩
    rw[e2];exact q1
   ·obtain⟨k,hk,hh⟩:=List.mem_flatMap.1 hh
    obtain⟨k2,hk2,rfl⟩:=dx hh
    have hk':k∈bY (dA (.name x) a 0) (.nm x) w:=by rw[nq x w hx (.nm 0)];exact hk
    obtain⟨q1,q2,q3⟩:=l4 n m w (by omega) _ x _ _ h2 hcl lo hw' k hk'
    rw[dD x k.1.nodes k.1 a 0 k.2 (ap _)]at q3
    rw[hnx]at q2
    have hsz2:=(jO hk).1
    obtain⟨r1,r2,r3⟩:=l4 n m k.2 (by omega) (.rc a) s _ σ (.rc x hx hs h1 h2 hsz) hσ hl q2 k2 hk2
    refine⟨ty _ ?_,r2,?_⟩
    ·rw[e2]
     show (vT n k.1 _&&vT n k2.1 _)=true
     rw[q1,r1];rfl
    ·show Vl.f (cG a k.1 (cG (.rc a) k2.1 k2.2))=.f w
     rw[r3,q3]
theorem B7{n:Nat}{a D:Ty}{x:Nm}(hx:a8 x a=false)(hl:jf (.rc a) 0)(h:zd a x=some D){v:Vl}(hv:vT n v (.rc a)=true){k:Hl}(hk:k∈kids a v) :
 vT n k.1 D=true/\vT n k.2 (.rc a)=true/\.f (cG a k.1 k.2)=v:=by
 simp only[zd,a6,cw,fR]at h
 obtain⟨d,hd,_,rfl⟩:=h
 have lo:jf (dA (.name x) a 0) 0:=gz x a hl
 have hcl:=lg mv x hl
 have e1:sub x (.rc a) d=eE (iH yP x (.rc a)) d:=by
  have:=ig yP x (.rc a) d
  rw[gh,gh]at this;exact this
 obtain⟨w,rfl,hw⟩:=AI hv
 have hk':k∈bY (dA (.name x) a 0) (.nm x) w:=by rw[nq x w hx (.nm 0)];exact hk
 have hop:eE (iH yP x (.rc a)) (dA (.name x) a 0)=dA (.rc a) a 0:=by rw[jp mv x _ a 0 hx,gh]
 obtain⟨q1,q2,q3⟩:=l4 n w.nodes w (ap _) _ x _ _ hd hcl lo (by rw[hop];exact hw) k hk'
 rw[dD x k.1.nodes k.1 a 0 k.2 (ap _)]at q3
 refine⟨by rw[e1];exact q1,?_,congrArg Vl.f q3⟩
 simpa[eE,iH]using q2
theorem gN:∀{t:Ty},bH t=true->∃y,a8 y t=true/\cQ y=true
 | .name s,h=>⟨s,by simp[a8],h⟩
 |
  .plus a b,h=>by
  simp only[bH,bg]at h
  rcases h with h|h
  ·obtain⟨y,h1,h2⟩:=gN h;exact⟨y,by simp[a8,h1],h2⟩
  ·obtain⟨y,h1,h2⟩:=gN h;exact⟨y,by simp[a8,h1],h2⟩
 |
  .times a b,h=>by
  simp only[bH,bg]at h
  rcases h with h|h
  ·obtain⟨y,h1,h2⟩:=gN h;exact⟨y,by simp[a8,h1],h2⟩
  ·obtain⟨y,h1,h2⟩:=gN h;exact⟨y,by simp[a8,h1],h2⟩
 |
  .rc a,h=>by
  obtain⟨y,h1,h2⟩:=gN (t:=a) h;exact⟨y,by simp[a8,h1],h2⟩
theorem gR:∀{t:Ty} {y:Nm},a8 y t=true->cQ y=true->bH t=true
 |
  .name s,y,h,hl=>by
  have:s=y:=by simpa[a8]using h
  rw[this];exact hl
 |
  .plus a b,y,h,hl=>by
  simp only[a8,bg]at h
  simp only[bH,bg]
  exact h.imp (gR · hl) (gR · hl)
 |
  .times a b,y,h,hl=>by
  simp only[a8,bg]at h
  simp only[bH,bg]
  exact h.imp (gR · hl) (gR · hl)
 | .rc a,y,h,hl=>gR (t:=a) h hl
 | .zero,y,h,_=>by simp[a8]at h
 | .one,y,h,_=>by simp[a8]at h
 | .bA k,y,h,_=>by simp[a8]at h
theorem ZT.Oc{s d:Nm}{a:Ty}{x A B:E}{D:Ty}(z:ZT s d a x A B D):∃e,jn d=some e/\Ask e [] D:=by
 have hcl:bH D=false:=by
  cases q:bH D with
  |false=>rfl
  |
   true =>
   obtain⟨y,h1,h2⟩:=gN q
   have:=gR (t:=.rc a) (sk z.lp y h1) h2
   rw[z.ask.cl]at this;cases this
 have hc:qI d=some D:=by unfold qI;rw[z.bk];simp only;rw[if_pos (by rw[rV,hcl];rfl)]
 cases q:jn d with
 |none=>rw[mB q]at hc;cases hc
 |
  some e =>
  obtain⟨t,h1,hA,_⟩:=iA q
  rw[hc]at h1;cases h1
  exact⟨e,rfl,hA⟩
theorem ZT.NC{s d:Nm}{a:Ty}{x A B:E}{D:Ty}(z:ZT s d a x A B D){w:Vl}(hb:w.iu 100)(hv:vT 100 w D=true):om d w.ei 100=if w.nodes<=200 then some w else none:=by
 obtain⟨e,he,hA⟩:=z.Oc
 unfold om
 rw[he]
 by_cases hn:w.nodes<=200
 ·rw[nO hb hn,if_pos hn]
  simp only
  rw[if_pos ⟨by omega,by rw[show (100:Int).toNat=100 from rfl,kO hA];exact hv⟩]
 ·rw[if_neg hn]
  cases q:pE w.ei with
  |none=>rfl
  |
   some w' =>
   exfalso
   obtain⟨_,h2,h3⟩:=gF q
   have:=wM hb h2 (mD q)
   rw[this]at hn;exact hn h3
theorem ZT.NH{s d:Nm}{a:Ty}{x A B:E}{D:Ty}(z:ZT s d a x A B D){v:Vl}(hv:Fo a v){k:Hl}(hk:k∈kids a v):vT 100 k.1 D=true/\Fo a k.2/\.f (cG a k.1 k.2)=v:=by
 obtain⟨e2,he2,hw2,hte2,_,_⟩:=kV z.y
 have hlc:jf (.rc a) 0:=hte2 ▸ hw2.oL.1
 obtain⟨q1,q2,q3⟩:=B7 (vB z.y) hlc z.lp hv.ty hk
 have:=CF hk
 have:=hv.nd
 exact⟨q1,⟨q2,(qX hv.iu hk).2,by omega⟩,q3⟩
def Dj(a:Ty)(l:List Vl)(v:Vl)(k:Int):Option (List Vl×Vl) :=
 if l.length=50 then none else if 0<=k/\k.toNat<(kids a v).length then
  (if((kids a v).getD k.toNat (.u,.u)).1.nodes<=200 then some (l++[((kids a v).getD k.toNat (.u,.u)).1],((kids a v).getD k.toNat (.u,.u)).2)else none)else none
theorem uH{a:Ty}{l:List Vl}{c e v:Vl}(h:.f (cG a c e)=v)(hn:v.nodes<=200):Dy a (l++[c]) e=some (l,v)/\yl a (l++[c]) e=yl a l v:=by
 have hu:Dy a (l++[c]) e=some (l,v):=by
  unfold Dy
  rw[List.getLast?_concat]
  simp only
  rw[h,if_pos hn,List.dropLast_concat]
 refine⟨hu,?_⟩
 unfold yl
 rw[an,List.length_singleton,qA,hu]
 rfl
theorem yd{s d:Nm}{l:List Vl}{v:Vl}(hs:St s d (zA s) l v)(hd:iO s=some d)(hv:uC s (l.map (·.ei)) v.ei=some (l,v)){k:Hl}(hk:k∈kids (zA s) v) :
 uC s (l.map (·.ei)++[k.1.ei]) k.2.ei=if l.length=50 then none else if k.1.nodes<=200 then some (l++[k.1],k.2)else none:=by
 obtain⟨x,A,B,D,z⟩:=hs.z
 obtain⟨t1,t2,t3⟩:=z.NH hs.i.Br hk
 have hb:=(qX hs.i.Br.iu hk).1
 have hz:=(pf hv).1
 have hclo:=(pf hv).2
 have hlen:=hs.len
 have hlp:iq d (l.map (·.ei))=some l:=by
  rw[zr,hd]at hz
  simp only[aY,z.l]at hz
  obtain⟨_,h1,h2⟩:=a6.1 hz
  split at h2
  ·obtain⟨l',h3,h4⟩:=Option.map_eq_some_iff.1 h2
   cases h4;exact h3
  ·cases h2
 have e1:om s k.2.ei 100=some k.2:=by rw[z.ei t2.iu t2.ty,if_pos t2.nd]
 unfold uC
 rw[zr,hd]
 simp only[aY,z.l,e1,sH,hlp,iq,z.NC hb t1,an,cH,List.length_singleton]
 by_cases h50:l.length=50
 ·rw[if_neg (by omega),if_pos h50];rfl
 ·rw[if_pos (by omega),if_neg h50]
  by_cases hn:k.1.nodes<=200
  ·rw[if_pos hn,if_pos hn]
   simp only[cg,aY,(uH (l:=l) t3 hs.i.Br.nd).2]
   rw[if_pos hclo]
  ·rw[if_neg hn,if_neg hn];rfl
end Go.Proofs.Trees
namespace Go.Proofs.Trees
open Go Go.VL Go.RowKit
def KS(s:Nm)(o:Option (List Vl×Vl)):AV->List Ob->Prop:=fun r obs=>obs=[]/\∃pa,dN pa (tZ s o).2.1/\r=.cx [.agg [.v (.string (mk (tZ s o).1)),pa,.v (.string (mk (tZ s o).2.2))],.v (.bool o.isSome)]
theorem KS.ne(s:Nm)(o:Option (List Vl×Vl)):∃r ob,KS s o r ob:=⟨_,[],rfl,_,dN.of _,rfl⟩
theorem KS.none(s:Nm):KS s none (.cx [.agg [.v (.string (mk [])),.v (.slice none 0 0),.v (.string (mk []))],.v (.bool false)]) []:=⟨rfl,_,dN.nil,rfl⟩
def lB(l:List Hl):List (List AV):=l.map fun h=>[.v (.string (mk h.1.ei)),.v (.string (mk h.2.ei))]
theorem ng(l:List Hl):(lB l).length=l.length:=by simp[lB]
theorem I3(l:List Hl)(hl:l.length<=1000)(h1:∀h,h∈l->h.1.ei.length<=900000)(h2:∀h,h∈l->h.2.ei.length<=900000):∀(k i:Nat) (out:List Hl),i+k=l.length->out.length<=i ->
 FN [.sl (lN l),.v (.int .i64 (i:Int))] [.vec 2 (lB out)] (ki 1 [] [.vec 2 (lB (out++l.drop i))])
 |
  0,i,out,hi,ho=>by
  refine Gz _ _ _ ?_
  have:i=l.length:=by omega
  subst this
  simp only[FV,↓zq,zs,af,fp,List.drop_length]
  exact⟨fun h=>by omega,fun _=>by simp[ki]⟩
 |
  k+1,i,out,hi,ho=>by
  have hlt:i<l.length:=by omega
  have hm:=bI hlt
  have t1:=Eh (l[i]).1.dm (nh _) (h1 _ hm)
  have t2:=Eh (l[i]).2.dm (nh _) (h2 _ hm)
  rw[dU]at t1 t2
  refine Gz _ _ _ ?_
  simp only[FV,↓zq,zs,af,zt,fp,gr hlt,bT,aV]
  refine⟨fun _=>?_,fun h=>by omega⟩
  repeat refine⟨by omega,?_⟩
  refine aj t1 ?_
  simp only[↓zq,zs,af,zt]
  repeat refine⟨by omega,?_⟩
  refine aj t2 ?_
  simp only[↓zq,zs,af,zt,ng]
  refine⟨⟨fun c hc=>by simp at hc;rw[hc];rfl,by omega⟩,?_⟩
  rw[bS i (by omega),ba hlt]
  have:=I3 l hl h1 h2 k (i+1) (out++[l[i]]) (by omega) (by simp;omega)
  rw[bD]at this
  simpa[lB]using this
theorem Lq(l:List Hl)(hl:l.length<=1000)(h1:∀h,h∈l->h.1.ei.length<=900000)(h2:∀h,h∈l->h.2.ei.length<=900000):az Tryz.prog 109 [.sl (lN l)] [] (bG (.sl (lB l))):=by
 refine MY _ ((bZ _).mpr trivial) ?_
 unfold Hv
 refine df (I3 l hl h1 h2 l.length 0 [] (by omega) (by simp)) ?_
 simp only[↓zq,zs,af]
 exact⟨rfl,rfl⟩
end Go.Proofs.Trees
namespace Go.Proofs.Trees
open Go Go.VL Go.RowKit
theorem uM{a:Ty}{l l':List Vl}{v w:Vl}{k:Int}(h:Dj a l v k=some (l',w)):∃q,q∈kids a v/\l'=l++[q.1]/\w=q.2/\q.1.nodes<=200/\l.length≠50/\0<=k/\(kids a v)[k.toNat]?=some q:=by
 unfold Dj at h
 split at h
 ·cases h
 ·rename_i h0
  split at h
  ·rename_i h1
   split at h
   ·rename_i h2
    cases h
    have e:(kids a v).getD k.toNat (.u,.u)=(kids a v)[k.toNat]'h1.2:=by simp[aa,h1.2]
    rw[e]at h2 |-
    exact⟨_,bI _,rfl,rfl,h2,h0,h1.1,by simp[h1.2]⟩
   ·cases h
  ·cases h
theorem St.dn{s d:Nm}{a:Ty}{l l':List Vl}{v w:Vl}{k:Int}(h:St s d a l v)(hu:Dj a l v k=some (l',w)):St s d a l' w/\Dy a l' w=some (l,v)/\l'.length=l.length+1:=by
 obtain⟨q,hq,rfl,rfl,hn,h50,_,_⟩:=uM hu
 obtain⟨x,A,B,D,z⟩:=h.z
 obtain⟨t1,t2,t3⟩:=z.NH h.i.Br hq
 have hv:om d q.1.ei 100=some q.1:=by rw[z.NC (qX h.i.Br.iu hq).1 t1,if_pos hn]
 have hlen:=h.len
 refine⟨⟨⟨x,A,B,D,z⟩,⟨fun c hc=>?_,t2⟩,fun c hc=>?_,by simp;omega⟩,(uH t3 h.i.Br.nd).1,by simp⟩
 ·rcases aK.1 hc with hc|hc
  ·exact h.i.Dt c hc
  ·simp only[aQ]at hc;subst hc;exact z.Dt hv
 ·rcases aK.1 hc with hc|hc
  ·exact h.each c hc
  ·simp only[aQ]at hc;subst hc;exact hv
theorem vr{l:List Hl}{i:Nat}(h:i<l.length):(lB l).getD i []=[.v (.string (mk (l[i]).1.ei)),.v (.string (mk (l[i]).2.ei))]:=by simp[lB,aa,h]
theorem FJ{s:Nm}{p:List Nm}{f:Nm}{r:List Vl×Vl}(h:EB s p f=some r):∃d,iO s=some d/\St s d (zA s) r.1 r.2/\p=r.1.map (·.ei)/\f=r.2.ei:=by
 obtain⟨d,a,x,A,B,D,z,hz,hp,hf,hl,hza,_,hr⟩:=Ak (l:=r.1) (v:=r.2) h
 rw[hza]
 exact⟨d,z.dl,⟨⟨x,A,B,D,z⟩,hz,qL hr hp,by rw[hp]at hl;simpa using hl⟩,hp,hf⟩
theorem IP{s d:Nm}{l:List Vl}{v:Vl}(hs:St s d (zA s) l v)(hd:iO s=some d)(hv:uC s (l.map (·.ei)) v.ei=some (l,v)){k:Int}(h0:0<=k)(hk:k.toNat<(kids (zA s) v).length) :
 uC s (l.map (·.ei)++[((kids (zA s) v)[k.toNat]).1.ei]) ((kids (zA s) v)[k.toNat]).2.ei=Dj (zA s) l v k:=by
 rw[yd hs hd hv (bI hk)]
 unfold Dj
 by_cases h5:l.length=50
 ·rw[if_pos h5,if_pos h5]
 ·rw[if_neg h5,if_neg h5,if_pos (show 0<=k/\k.toNat<(kids (zA s) v).length from ⟨h0,hk⟩)]
  have hg2:(kids (zA s) v).getD k.toNat (.u,.u)=(kids (zA s) v)[k.toNat]:=by simp[aa,hk]
  rw[hg2]
end Go.Proofs.Trees
namespace Go.Proofs.Trees
open Go Go.VL Go.RowKit
def NO(n:Nat):AV->List Ob->Prop:=fun r o=>∃x:Int,r=.v (.int .i64 x)/\(0<=x->n<=1048576)
theorem NO.ne(n:Nat):∃r o,NO n r o:=⟨_,[],-1,rfl,fun h=>by omega⟩
end Go.Proofs.Trees
namespace Go.Proofs.Trees
open Go Go.VL Go.RowKit
def pA(a:AV)(l:List Nat):Prop:=LK.sl.has a/\a.aS=qv l
theorem pA.of(l:List Nat):pA (.sl (qv l)) l:=⟨(bZ _).mpr trivial,rfl⟩
theorem pA.nil:pA (.v (.slice none 0 0)) []:=⟨(bm).mpr trivial,rfl⟩
theorem pA.len{a:AV}{l:List Nat}(h:pA a l):a.aS.length=l.length:=by rw[h.2,wv]
theorem pA.idx{a:AV}{l:List Nat}(h:pA a l){i:Nat}(hi:i<l.length):a.aS.getD i []=[.v (.int .i64 (l.getD i 0:Nat))]:=by
 rw[h.2];simp[qv,aa,hi]
end Go.Proofs.Trees
namespace Go.Proofs.Trees
open Go Go.VL Go.RowKit
def uA(l:List Int):List (List AV):=l.map fun k=>[.v (.int .i64 k)]
def pM(a:AV)(l:List Int):Prop:=LK.sl.has a/\a.aS=uA l
theorem yL(l:List Int):(uA l).length=l.length:=by simp[uA]
theorem pM.of(l:List Int):pM (.sl (uA l)) l:=⟨(bZ _).mpr trivial,rfl⟩
theorem pM.nil:pM (.v (.slice none 0 0)) []:=⟨(bm).mpr trivial,rfl⟩
theorem pM.len{a:AV}{l:List Int}(h:pM a l):a.aS.length=l.length:=by rw[h.2,yL]
theorem pM.idx{a:AV}{l:List Int}(h:pM a l){i:Nat}(hi:i<l.length):a.aS.getD i []=[.v (.int .i64 (l.getD i 0))]:=by
 rw[h.2];simp[uA,aa,hi]
end Go.Proofs.Trees
namespace Go.Proofs.Trees
open Go Go.VL Go.RowKit
abbrev ZO:=Option (List Vl×Vl)
def Em(s:Nm)(o:ZO):Prop:=∀r,o=some r->∃d,St s d (zA s) r.1 r.2
def NR(a:Ty)(pl:List Int)(o:ZO):ZO:=pl.foldl (fun o k=>o.bind fun r=>Dj a r.1 r.2 k) o
theorem Em.dn{s:Nm}{o:ZO}(h:Em s o)(k:Int):Em s (o.bind fun r=>Dj (zA s) r.1 r.2 k):=fun r hr=>by
 obtain⟨q,h1,h2⟩:=a6.1 hr
 obtain⟨d,hs⟩:=h q h1
 exact⟨d,(hs.dn (l':=r.1) (w:=r.2) h2).1⟩
theorem Em.go{s:Nm}:∀{pl:List Int} {o:ZO},Em s o->Em s (NR (zA s) pl o)
 |[],o,h=>h
 |k::pl,o,h=>Em.go (pl:=pl) (h.dn k)
def L3(s:Nm)(o:ZO):Prop:=∀r,o=some r->uC s (r.1.map (·.ei)) r.2.ei=some r
theorem L3.dn{s:Nm}{o:ZO}(h:L3 s o)(k:Int):L3 s (o.bind fun r=>Dj (zA s) r.1 r.2 k):=fun r hr=>by
 obtain⟨q,h1,h2⟩:=a6.1 hr
 have hq:=h q h1
 obtain⟨d,hd,hs,_⟩:=FJ (pf (l:=q.1) (v:=q.2) hq).1
 obtain⟨e,_,h3,h4,_,_,h0,h5⟩:=uM (l':=r.1) (w:=r.2) h2
 have hk:k.toNat<(kids (zA s) q.2).length:=by
  rcases Nat.lt_or_ge k.toNat (kids (zA s) q.2).length with h|h
  ·exact h
  ·rw[List.getElem?_eq_none h]at h5;cases h5
 have he:(kids (zA s) q.2)[k.toNat]=e:=by rw[bc hk]at h5;cases h5;rfl
 have:=IP hs hd hq h0 hk
 rw[h2,he]at this
 obtain⟨l1,v1⟩:=r
 simp only at h3 h4 |-
 subst h3 h4
 rw[List.map_append]
 exact this
end Go.Proofs.Trees
namespace Go.Proofs.Trees
open Go Go.VL Go.RowKit
def Bg(x:Nm)(i:Nat)(tg tg':Tg):Prop:=(tg=.bd i/\tg'=.nm x)\/(∃s,s≠x/\tg=.nm s/\tg'=.nm s)\/∃j,j<i/\tg=.bd j/\tg'=.bd j
theorem Bg.up{x:Nm}{i:Nat}{tg tg':Tg}(h:Bg x i tg tg'):Bg x (i+1) tg.up tg'.up:=by
 rcases h with⟨rfl,rfl⟩|⟨s,h,rfl,rfl⟩|⟨j,h,rfl,rfl⟩
 ·exact .inl ⟨rfl,rfl⟩
 ·exact .inr (.inl ⟨s,h,rfl,rfl⟩)
 ·exact .inr (.inr ⟨j+1,by omega,rfl,rfl⟩)
theorem zu{x:Nm}{i:Nat}{tg tg':Tg}(h:Bg x i tg tg')(t:Ty)(hx:a8 x t=false):eT (dA (.name x) t i) tg'=eT t tg:=by
 cases t with
 |
  bA k =>
  simp only[dA]
  rcases h with⟨rfl,rfl⟩|⟨s,h,rfl,rfl⟩|⟨j,h,rfl,rfl⟩
  ·split
   ·rename_i e;simp[eT,e]
   ·rename_i e;simp[eT,e]
  ·split
   ·simp[eT,Ne.symm h]
   ·simp[eT]
  ·split
   ·rename_i e;simp only[eT];exact(decide_eq_false (by omega)).symm
   ·simp[eT]
 |
  name n =>
  have hn:¬n=x:=by simpa[a8]using hx
  rcases h with⟨rfl,rfl⟩|⟨s,h,rfl,rfl⟩|⟨j,h,rfl,rfl⟩<;>simp[dA,eT,hn]
 |_=>rcases h with⟨rfl,rfl⟩|⟨s,h,rfl,rfl⟩|⟨j,h,rfl,rfl⟩<;>rfl
theorem fD(x:Nm):∀(n:Nat) (t:Ty) (i:Nat) (tg tg':Tg) (v:Vl),a8 x t=false->Bg x i tg tg'->dB n (dA (.name x) t i) tg' v=dB n t tg v
 |0,_,_,_,_,_,_,_=>rfl
 |
  n+1,t,i,tg,tg',v,hx,hr=>by
  rw[dB,dB,zu hr t hx]
  split
  ·rfl
  ·cases t with
   |
    plus a b =>
    simp only[a8,bK]at hx
    cases v with
    |l w=>exact congrArg (lL .l) (fD x n a i tg tg' w hx.1 hr)
    |r w=>exact congrArg (lL .r) (fD x n b i tg tg' w hx.2 hr)
    |_=>rfl
   |
    times a b =>
    simp only[a8,bK]at hx
    cases v with
    |
     p y z =>
     simp only[dA,jg]
     rw[fD x n a i tg tg' y hx.1 hr,fD x n b i tg tg' z hx.2 hr]
    |_=>rfl
   |
    rc a =>
    cases v with
    |
     f w =>
     simp only[dA,jg]
     rw[fD x n a (i+1) tg.up tg'.up w hx hr.up,fD x n a (i+1) (.bd 0) (.bd 0) w hx (.inr (.inr ⟨0,by omega,rfl,rfl⟩))]
     congr 1
     refine iF fun h hh=>?_
     have:=fD x n (.rc a) i tg tg' h.2 hx hr
     simp only[dA]at this
     rw[this]
    |_=>rfl
   |
    bA k =>
    simp only[dA]
    split<;>(cases v<;>rfl)
   |_=>rfl
theorem pd{g:Vl->Vl}{l:List Hl}{c v:Vl}(h:(c,v)∈l):(g c,v)∈lL g l:=ca.2 ⟨_,h,rfl⟩
theorem nM(n:Nat):∀(m:Nat) (c:Vl),c.nodes<=m->∀(t:Ty) (s:Nm) (d:Ty) (σ:Nm->Option Ty),Dv t s d->Bu σ->jf t 0->vT n c (eE σ d)=true->∀(v:Vl) (k:Nat),(cG t c v).nodes<=k->(c,v)∈dB k t (.nm s) (cG t c v)
 |0,c,h=>by have:=dc c;omega
 |
  m+1,c,hm=>by
  intro t s d σ hd hσ hl hv v k hk
  have no:∀c,vT n c .zero=false:=fun c=>by cases c<;>rfl
  obtain⟨k,rfl⟩:∃j,k=j+1:=⟨k-1,by have:=dc (cG t c v);omega⟩
  cases hd with
  |zero=>rw[show eE σ .zero=.zero from rfl,no]at hv;cases hv
  |one=>rw[show eE σ .zero=.zero from rfl,no]at hv;cases hv
  |bA=>rw[show eE σ .zero=.zero from rfl,no]at hv;cases hv
  |p7=>rw[show eE σ .zero=.zero from rfl,no]at hv;cases hv
  |
   hit =>
   have hc:c=.u:=by
    have hv:vT n c .one=true:=hv
    cases c<;>first|rfl|simp[vT]at hv
   rw[jz,dB,if_pos (by simp[eT]),hc];exact ah
  |
   plus h1 h2 _ =>
   rcases iL hv with⟨w,rfl,hw⟩|⟨w,rfl,hw⟩
   ·simp only[Vl.nodes]at hm
    rename_i a b _ _
    simp only[cG,Vl.nodes]at hk
    have:=nM n m w (by omega) _ s _ σ h1 hσ hl.1 hw v k (by omega)
    exact pd (g:=.l) this
   ·simp only[Vl.nodes]at hm
    simp only[cG,Vl.nodes]at hk
    have:=nM n m w (by omega) _ s _ σ h2 hσ hl.2 hw v k (by omega)
    exact pd (g:=.r) this
  |
   times h1 h2 _ =>
   rcases iL hv with⟨w,rfl,hw⟩|⟨w,rfl,hw⟩
   ·obtain⟨x,y,rfl,hx,hy⟩:=gk hw
    simp only[Vl.nodes]at hm
    simp only[cG,Vl.nodes]at hk
    have:=nM n m x (by omega) _ s _ σ h1 hσ hl.1 hx v k (by omega)
    exact aA _ (pd (g:=fun c=>.l (.p c y)) this)
   ·obtain⟨x,y,rfl,hx,hy⟩:=gk hw
    simp only[Vl.nodes]at hm
    simp only[cG,Vl.nodes]at hk
    have:=nM n m y (by omega) _ s _ σ h2 hσ hl.2 hy v k (by omega)
    exact aw _ (pd (g:=fun c=>.r (.p x c)) this)
  |
   @rc a _ c0 d0 x hx hs h1 h2 hsz =>
   have lo:jf (dA (.name x) a 0) 0:=gz x a hl
   obtain⟨X,e1,e2⟩:=oc (x:=x) hσ hl (h1.lc lo) (h2.lc lo)
   have hv':=hv
   rw[e1]at hv'
   obtain⟨w,rfl,hw⟩:=AI hv'
   rw[e2]at hw
   have hcl:=lg hσ x (jH hσ (.rc a) hl)
   rcases iL hw with⟨y,rfl,hy⟩|⟨y,rfl,hy⟩
   ·simp only[Vl.nodes]at hm
    simp only[cG,Vl.nodes]at hk
    have:=nM n m y (by omega) _ s _ _ h1 hcl lo hy v k (by rw[dD x y.nodes y a 0 v (ap _)];omega)
    rw[dD x y.nodes y a 0 v (ap _),fD x k a 0 (.nm s) (.nm s) _ hx (.inr (.inl ⟨s,Ne.symm hs,rfl,rfl⟩))]at this
    exact aA _ (pd (g:=fun c=>.f (.l c)) this)
   ·obtain⟨y,z,rfl,hy,hz⟩:=gk hy
    simp only[Vl.nodes]at hm
    simp only[cG,Vl.nodes]at hk
    have q1:=nM n m y (by omega) _ x _ _ h2 hcl lo hy (cG (.rc a) z v) k (by rw[dD x y.nodes y a 0 _ (ap _)];omega)
    rw[dD x y.nodes y a 0 _ (ap _),fD x k a 0 (.bd 0) (.nm x) _ hx (.inl ⟨rfl,rfl⟩)]at q1
    have hsz2:=(eX k a (.bd 0) _ _ q1).1
    have q2:=nM n m z (by omega) (.rc a) s _ σ (.rc x hx hs h1 h2 hsz) hσ hl hz v k (by simp only at hsz2;omega)
    exact aw _ (List.mem_flatMap.2 ⟨_,q1,pd (g:=fun c=>.f (.r (.p y c))) q2⟩)
theorem D6{n:Nat}{a D:Ty}{x:Nm}(hx:a8 x a=false)(hl:jf (.rc a) 0)(h:zd a x=some D){c:Vl}(hc:vT n c D=true)(v:Vl):(c,v)∈kids a (.f (cG a c v)):=by
 simp only[zd,a6,cw,fR]at h
 obtain⟨d,hd,_,rfl⟩:=h
 have lo:jf (dA (.name x) a 0) 0:=gz x a hl
 have hcl:=lg mv x hl
 have e1:sub x (.rc a) d=eE (iH yP x (.rc a)) d:=by
  have:=ig yP x (.rc a) d
  rw[gh,gh]at this;exact this
 rw[e1]at hc
 have h1:=nM n c.nodes c (ap _) _ x _ _ hd hcl lo hc v (cG a c v).nodes (by rw[dD x c.nodes c a 0 v (ap _)];omega)
 rw[dD x c.nodes c a 0 v (ap _),fD x _ a 0 (.bd 0) (.nm x) _ hx (.inl ⟨rfl,rfl⟩)]at h1
 exact h1
end Go.Proofs.Trees
namespace Go.Proofs.Trees
open Go Go.VL Go.RowKit
theorem ZT.Mj{s d:Nm}{a:Ty}{x A B:E}{D:Ty}(z:ZT s d a x A B D){c:Nm}{w:Vl}(h:om d c 100=some w)(v:Vl):(w,v)∈kids a (.f (cG a w v)):=by
 obtain⟨e,t,m,h1,h2,h3,h4,h5,h6,h7⟩:=kz h
 have hm:m=100:=by omega
 subst hm
 have:=mI h3
 rw[z.bk]at this;cases this
 rw[kO h4]at h7
 obtain⟨e2,he2,hw2,hte2,_,_⟩:=kV z.y
 have hlc:jf (.rc a) 0:=hte2 ▸ hw2.oL.1
 exact D6 (vB z.y) hlc z.lp h7 v
end Go.Proofs.Trees
namespace Go.Proofs.Trees
open Go Go.VL Go.RowKit
def pK(l:List UInt8):List (List AV):=l.map fun(x:UInt8)=>[.v (.int .u8 (x.toNat:Int))]
structure tv(b:AV)(l:List UInt8):Prop where
 has:LK.sl.has b
 el:b.aS=pK l
 len:l.length<=2000
theorem tv.ln{b:AV}{l:List UInt8}(h:tv b l):b.aS.length=l.length:=by rw[h.el];simp[pK]
theorem tv.get{b:AV}{l:List UInt8}(h:tv b l){i:Nat}(hi:i<l.length):b.aS.getD i []=[.v (.int .u8 ((l[i]).toNat:Int))]:=by rw[h.el];simp[pK,aa,hi]
def eH(b:AV)(p c:Nat)(X:AV->Prop):AV->List Ob->Prop:=fun r o=>∃q:Nat,p<=q/\q<=p+c/\X r/\o=[.cells [b,.v (.int .i64 (q:Int))]]
theorem eH.ne{b:AV}{p c:Nat}{X:AV->Prop}{r:AV}(h:X r):∃r o,eH b p c X r o:=⟨r,_,p,ap _,cK _ _,h,rfl⟩
theorem CL{a b:Int}(ha:0<=a)(hb:0<=b)(ha':a<9223372036854775808)(hb':b<9223372036854775808):∃W:Nat,AE .i64 a b=(W:Int):=by
 obtain⟨x,rfl⟩:∃x:Nat,a=(x:Int):=⟨a.toNat,by omega⟩
 obtain⟨y,rfl⟩:∃y:Nat,b=(y:Int):=⟨b.toNat,by omega⟩
 have e1:(BitVec.ofInt 64 (x:Int)).toNat=x:=by simp;omega
 have e2:(BitVec.ofInt 64 (y:Int)).toNat=y:=by simp;omega
 have hlt:x ^^^ y<2 ^ 63:=Nat.xor_lt_two_pow (by omega) (by omega)
 refine⟨x ^^^ y,?_⟩
 unfold AE
 have e3:(BitVec.ofInt (IntKind.bits .i64) (x:Int) ^^^ BitVec.ofInt (IntKind.bits .i64) (y:Int)).toNat=x ^^^ y:=by
  show (BitVec.ofInt 64 (x:Int) ^^^ BitVec.ofInt 64 (y:Int)).toNat=_
  rw[BitVec.toNat_xor,e1,e2]
 rw[e3,VL.wrap64]<;>omega
theorem xD(a b:Nat):Int.tdiv (a:Int) (b:Int)=((a/b:Nat):Int):=(Int.ofNat_tdiv a b).symm
theorem qd(a b:Nat):du (a:Int) (b:Int)=((a%b:Nat):Int):=(Int.ofNat_tmod a b).symm
theorem uU(n:Nat)(h:n<9223372036854775808):IntKind.wrap .i64 (n:Int)=(n:Int):=VL.wrap64 _ (by omega) (by omega)
def DI(n:Nat):AV->Prop:=fun r=>∃k:Nat,r=.v (.int .i64 (k:Int))/\(1<=n->k<n)/\k<=n
abbrev qb:Nat:=1000000000000000
theorem vq(b:AV)(l:List UInt8)(hb:tv b l)(p n:Nat)(hp:p<2*qb)(hn:n<qb):az Tryz.prog 32 [.ref 0 0,.v (.int .i64 (n:Int))] [.cells [b,.v (.int .i64 (p:Int))]] (eH b p 1 (DI n)):=by
 refine Mi _ _ _ hb.has ?_
 have e1:IntKind.wrap .i64 ((p:Int)+1)=((p+1:Nat):Int):=by rw[VL.wrap64]<;>simp[qb]at hp<;>omega
 have e2:IntKind.wrap .i64 (((p+1:Nat):Int)-1)=(p:Int):=by rw[VL.wrap64]<;>simp[qb]at hp<;>omega
 have fin:∀k:Nat,(1<=n->k<n)->k<=n->eH b p 1 (DI n) (.v (.int .i64 (k:Int))) [.cells [b,.v (.int .i64 ((p+1:Nat):Int))]]:=fun k h h'=>⟨p+1,by omega,ap _,⟨k,rfl,h,h'⟩,rfl⟩
 simp only[JA,↓zq,zs,af,e1,e2,hb.ln,xD,qd]
 refine⟨fun h=>fin 0 (fun h'=>by omega) (dJ _),fun h=>⟨hb.has,fun h0=>fin 0 (fun h'=>by omega) (dJ _),fun h0=>?_⟩⟩
 have hl:0<l.length:=by omega
 have hll:=hb.len
 refine⟨hb.has,fun hlt=>?_,fun hge=>?_⟩
 ·have hlt:p<l.length:=by omega
  have hx:=(l[p]).toNat_lt
  simp only[cc,hb.get hlt,hb.has,↓zq,zs,af]
  rw[uU _ (by omega),qd]
  have:=fin ((l[p]).toNat%n) (fun h'=>ej _ (by omega)) (Nat.le_of_lt (ej _ (by omega)))
  repeat (first|exact this|refine⟨by omega,?_⟩)
 ·have h1:p%l.length<l.length:=ej _ hl
  have e3:IntKind.wrap .i64 ((p:Int)*7)=((p*7:Nat):Int):=by rw[VL.wrap64]<;>simp[qb]at hp<;>omega
  have e4:IntKind.wrap .i64 (((p*7:Nat):Int)+3)=((p*7+3:Nat):Int):=by rw[VL.wrap64]<;>simp[qb]at hp<;>omega
  have h2:(p*7+3)%l.length<l.length:=ej _ hl
  have hx:=(l[p%l.length]).toNat_lt
  have hy:=(l[(p*7+3)%l.length]).toNat_lt
  have hq:p/l.length<=p:=Nat.div_le_self _ _
  simp only[e3,e4,qd,cc,hb.get h1,hb.get h2,hb.has,↓zq,zs,af]
  generalize hxx:(l[p%l.length]).toNat=x at hx |-
  generalize hyy:(l[(p*7+3)%l.length]).toNat=y at hy |-
  generalize hqq:p/l.length=q at hq |-
  have f1:IntKind.wrap .i64 ((x:Int))=(x:Int):=uU _ (by omega)
  have f2:IntKind.wrap .i64 ((y:Int))=(y:Int):=uU _ (by omega)
  have f3:IntKind.wrap .i64 ((x:Int)*131)=((x*131:Nat):Int):=by rw[VL.wrap64]<;>omega
  have f4:IntKind.wrap .i64 ((y:Int)*1117)=((y*1117:Nat):Int):=by rw[VL.wrap64]<;>omega
  have f5:IntKind.wrap .i64 (((x*131:Nat):Int)+((y*1117:Nat):Int))=((x*131+y*1117:Nat):Int):=by rw[VL.wrap64]<;>omega
  have f6:IntKind.wrap .i64 ((p:Int)*29)=((p*29:Nat):Int):=by rw[VL.wrap64]<;>simp[qb]at hp<;>omega
  have f7:IntKind.wrap .i64 (((x*131+y*1117:Nat):Int)+((p*29:Nat):Int))=((x*131+y*1117+p*29:Nat):Int):=by rw[VL.wrap64]<;>simp[qb]at hp<;>omega
  have f8:IntKind.wrap .i64 ((q:Int))=(q:Int):=uU _ (by simp[qb]at hp;omega)
  have f9:IntKind.wrap .i64 ((q:Int)*53)=((q*53:Nat):Int):=by rw[VL.wrap64]<;>simp[qb]at hp<;>omega
  have f10:IntKind.wrap .i64 (((x*131+y*1117+p*29:Nat):Int)+((q*53:Nat):Int))=((x*131+y*1117+p*29+q*53:Nat):Int):=by rw[VL.wrap64]<;>simp[qb]at hp<;>omega
  simp only[f1,f2,f3,f4,f5,f6,f7,f8,f9,f10]
  generalize hV:x*131+y*1117+p*29+q*53=V
  have hVl:V<1000000000000000000:=by simp[qb]at hp;omega
  have f11:IntKind.wrap .i64 (Int.tdiv (V:Int) 64)=((V/64:Nat):Int):=by
   have:Int.tdiv (V:Int) 64=((V/64:Nat):Int):=xD V 64
   rw[this,uU _ (by omega)]
  rw[f11]
  obtain⟨W,hW⟩:=CL (a:=(V:Int)) (b:=((V/64:Nat):Int)) (by omega) (by omega) (by omega) (by omega)
  rw[hW,qd]
  have:=fin (W%n) (fun h'=>ej _ (by omega)) (Nat.le_of_lt (ej _ (by omega)))
  repeat (first|exact this|refine⟨by omega,?_⟩)
def jB(L:List (List UInt8)):AV->Prop:=fun r=>∃s,s∈L/\r=.v (.string (mk s))
theorem zD(b:AV)(l:List UInt8)(hb:tv b l)(p:Nat)(hp:p<2*qb)(L:List (List UInt8))(a:AV)(ha:dN a L)(hL:0<L.length)(hLl:L.length<1000000):az Tryz.prog 55 [.ref 0 0,a] [.cells [b,.v (.int .i64 (p:Int))]] (eH b p 1 (jB L)):=by
 refine Ly _ _ _ ha.1 hb.has ?_
 unfold HL
 simp only[↓zq,zs,af,ha.len]
 refine⟨ha.1,?_⟩
 have hpk:=vq b l hb p L.length hp (by simp[qb];omega)
 refine aM hpk (eH.ne ⟨0,rfl,fun h=>h,dJ _⟩) ?_
 rintro r o ⟨q,h1,h2,⟨k,rfl,h3,h4⟩,rfl⟩
 have hk:=h3 hL
 simp only[↓zq,zs,af,zt,aN,hb.has,ha.idx hk,cc]
 refine⟨⟨ha.1,by omega⟩,?_⟩
 have:eH b p 1 (jB L) (.v (.string (mk (L.getD k [])))) [.cells [b,.v (.int .i64 (q:Int))]]:=⟨q,h1,h2,⟨_,by simp[aa,hk],rfl⟩,rfl⟩
 repeat (first|exact this|refine⟨by omega,?_⟩)
def fZ(n:Nat):AV->Prop:=fun r=>∃s:List UInt8,r=.v (.string (mk s))/\s.length<=n
theorem jB.ei{L:List (List UInt8)}{n:Nat}(h:∀s,s∈L->s.length<=n){r:AV}(hr:jB L r):fZ n r:=by
 obtain⟨s,h1,h2⟩:=hr;exact⟨s,h2,h s h1⟩
end Go.Proofs.Trees
namespace Go.Proofs.Trees
open Go Go.VL Go.RowKit
def jM:AV->List Ob->Prop:=fun r o=>o=[]/\∃b:Bool,r=.v (.bool b)
theorem jM.ne:∃r o,jM r o:=⟨_,_,rfl,true,rfl⟩
theorem jM.mk(b:Bool):jM (.v (.bool b)) []:=⟨rfl,b,rfl⟩
theorem jM.call{n:Nat}{f:Nat}{xs:List AV}{k:AV->List Ob->Tree}{Q:Nat->List AV->List Ob->Prop}(h:az Tryz.prog f xs [] jM)(hk:∀b:Bool,eN Tryz.prog n (k (.v (.bool b)) []) Q):eN Tryz.prog n (.call f xs [] k) Q :=
 aM h jM.ne (by rintro r o ⟨rfl,b,rfl⟩;exact hk b)
theorem Ip{e:E}(h:Wf e):∀(l:List Nm) (a:AV),dN a l->l.length+e.sz<100000->az Tryz.prog 128 [.agg [.v (.string (mk e.at)),e.sp],a] [] jM:=by
 induction h with
 |
  @atom s hs =>
  intro l a ha hl
  simp only[E.sz]at hl
  refine Cc _ _ _ ((aV _).mpr trivial) ha.1 ?_
  simp only[Bc,dX,↓zq,zs,af]
  refine aj (BG s _ ((aV (.atom s)).mpr trivial) hs) ?_
  simp only[↓zq,zs,af,zt,ha.1]
  refine⟨fun h=>(by cases h),fun _=>⟨fun h=>(by cases h),fun _=>⟨fun h=>(by cases h),fun _=>⟨fun _=>.mk true,fun _=>?_⟩⟩⟩⟩
  refine aj (FU l a ha s (by omega)) ?_
  simp only[↓zq,zs,af]
  exact .mk _
 |
  @plus x y hx hy i1 i2 =>
  intro l a ha hl
  simp only[E.sz,E.iX]at hl
  refine Cc _ _ _ ((aV _).mpr trivial) ha.1 ?_
  have hP:=P3.of (.atom [43]) x y
  simp only[Bc,cn,toNat_one,bf,↓zq,zs,af,zt,hP.1,hP.2.1,hP.2.2.1,hP.2.2.2,aP]
  refine aj (po [43] x y) ?_
  simp only[↓zq,zs,af,zt,ha.1,aP]
  refine⟨fun _=>⟨by omega,by omega,jM.call (i1 l a ha (by omega)) fun b=>?_⟩,fun h=>absurd rfl h⟩
  simp only[↓zq,zs,af]
  refine⟨fun _=>⟨by omega,by omega,jM.call (i2 l a ha (by omega)) fun b=>?_⟩,fun _=>.mk _⟩
  simp only[↓zq,zs,af]
  exact .mk _
 |
  @times x y hx hy i1 i2 =>
  intro l a ha hl
  simp only[E.sz,E.iX]at hl
  refine Cc _ _ _ ((aV _).mpr trivial) ha.1 ?_
  have hP:=P3.of (.atom [42]) x y
  simp only[Bc,cn,toNat_one,bf,↓zq,zs,af,zt,hP.1,hP.2.1,hP.2.2.1,hP.2.2.2,aP]
  refine aj (po [42] x y) ?_
  simp only[↓zq,zs,af,zt,ha.1,aP]
  refine⟨fun h=>(by cases h),fun _=>⟨fun _=>⟨by omega,by omega,jM.call (i1 l a ha (by omega)) fun b=>?_⟩,fun h=>absurd rfl h⟩⟩
  simp only[↓zq,zs,af]
  refine⟨fun _=>.mk _,fun _=>⟨by omega,by omega,jM.call (i2 l a ha (by omega)) fun b=>?_⟩⟩
  simp only[↓zq,zs,af]
  exact .mk _
 |
  @rc n b hn hb i =>
  intro l a ha hl
  simp only[E.sz,E.iX]at hl
  refine Cc _ _ _ ((aV _).mpr trivial) ha.1 ?_
  have hP:=P3.of (.atom dS) (.atom n) b
  simp only[Bc,cn,toNat_one,bf,↓zq,zs,af,zt,hP.1,hP.2.1,hP.2.2.1,hP.2.2.2,aP]
  refine aj (po dS (.atom n) b) ?_
  simp only[↓zq,zs,af,zt,ha.1,aP]
  refine⟨fun h=>(by cases h),fun _=>⟨fun h=>(by cases h),fun _=>⟨fun _=>⟨by omega,by omega,by omega,by omega,?_⟩,fun h=>absurd rfl h⟩⟩⟩
  refine aj (yZ l a ha n (by omega)) ?_
  simp only[↓zq,zs,af,zt]
  refine jM.call (i (l++[n]) _ (.of _) (by simp;omega)) fun b=>?_
  simp only[↓zq,zs,af]
  exact .mk _
def Lb:AV->List Ob->Prop:=fun r o=>o=[]/\∃(g:E) (b:Bool),r=.cx [.agg [.v (.string (mk g.at)),g.sp],.v (.bool b)]/\Wf g/\g.cN<=400
theorem Ng{n:Nm}{b:E}(hn:qi n)(hb:Wf b)(hl:(E.list [.atom dS,.atom n,b]).cN<=400):az Tryz.prog 130 [.agg [.v (.string (mk [])),(E.list [.atom dS,.atom n,b]).sp]] [] Lb:=by
 have hw:Wf (.list [.atom dS,.atom n,b]):=.rc hn hb
 refine Ml _ _ ((aV _).mpr trivial) ?_
 have hP:=P3.of (.atom dS) (.atom n) b
 have hbl:b.cN<=400:=by simp only[E.cN,E.eU]at hl;omega
 simp only[Hg,toNat_one,bf,↓zq,zs,af,zt,hP.1,hP.2.1,hP.2.2.1,hP.2.2.2,aP]
 refine⟨by omega,by omega,by omega,by omega,?_⟩
 have hf:=IU hn hb hw (by omega) (by omega)
 obtain⟨g,g1,g2,g3⟩:=Jg hn hb hw hbl hl
 simp only[cn]at hf g3
 refine aj hf ?_
 simp only[↓zq,zs,af,zt,aP]
 refine⟨fun h=>⟨rfl,_,false,rfl,hw,hl⟩,fun h=>?_⟩
 repeat refine⟨by omega,?_⟩
 refine aj g3 ?_
 simp only[↓zq,zs,af,zt,aP]
 refine⟨rfl,g,true,rfl,g1,?_⟩
 rw[g1.cN [],g2]
 simpa using h
end Go.Proofs.Trees
namespace Go.Proofs.Trees
open Go Go.VL Go.RowKit
def jR(n:Nat):AV->Prop:=fun r=>∃e:E,r=.agg [.v (.string (mk e.at)),e.sp]/\e.ok/\(eQ e).length<=n
theorem jR.u(n:Nat)(h:1<=n):jR n (.agg [.v (.string (mk [117])),.v (.slice none 0 0)]):=⟨.atom [117],rfl,by simp[E.ok],by simpa[eQ]using h⟩
def jS(b:AV)(d:Int)(e:E)(B C:Nat):Prop:=∀p:Nat,p+C<qb->az Tryz.prog 77 [.ref 0 0,.agg [.v (.string (mk e.at)),e.sp],.v (.int .i64 d)] [.cells [b,.v (.int .i64 (p:Int))]] (eH b p C (jR B))
theorem jS.mono{b:AV}{d:Int}{e:E}{B C B' C':Nat}(h:jS b d e B C)(hB:B<=B')(hC:C<=C'):jS b d e B' C':=fun p hp=>az.mono (h p (by omega)) fun r o ⟨q,h1,h2,⟨g,h3,h4,h5⟩,h6⟩=>⟨q,h1,by omega,⟨g,h3,h4,by omega⟩,h6⟩
theorem n6(b:AV)(p C B:Nat)(h:1<=B):∃r o,eH b p C (jR B) r o:=eH.ne (jR.u B h)
theorem N2(w:Nm)(e:E)(h:w.length=1):(eQ (.list [.atom w,e])).length=(eQ e).length+4:=by
 simp[eQ,dZ];omega
theorem N7(w:Nm)(e f:E)(h:w.length=1):(eQ (.list [.atom w,e,f])).length=(eQ e).length+(eQ f).length+5:=by
 simp[eQ,dZ];omega
theorem KB{b:AV}{p q q' C B:Nat}{w:Nm}{e:E}(hw:w.length=1)(h1:p<=q)(h2:q<=p+1)(h3:q<=q')(h4:q'<=q+C)(ho:e.ok)(hl:(eQ e).length<=B) :
 eH b p (C+1) (jR (B+5)) (.agg [.v (.string (mk [])),(E.list [.atom w,e]).sp]) [.cells [b,.v (.int .i64 (q':Int))]] :=
 ⟨q',by omega,by omega,⟨.list [.atom w,e],rfl,⟨by intro h;rw[h]at hw;simp at hw,ho,trivial⟩,by rw[N2 w e hw];omega⟩,rfl⟩
theorem HX(b:AV)(l:List UInt8)(hb:tv b l)(d:Int){s:Nm}(hs:s≠[]):jS b d (.atom s) 5 1:=by
 intro p hp
 refine Ce _ _ _ _ _ ((aV (.atom s)).mpr trivial) hb.has ?_
 simp only[zT,dX,↓zq,zs,af]
 refine aj (BG s _ ((aV (.atom s)).mpr trivial) hs) ?_
 simp only[↓zq,zs,af,zt]
 refine⟨fun h=>(by cases h),fun _=>⟨fun h=>(by cases h),fun _=>⟨fun h=>(by cases h),fun _=>⟨fun _=>?_,fun _=>?_⟩⟩⟩⟩
 ·exact⟨p,ap _,by omega,jR.u 5 (by omega),rfl⟩
 ·refine aM (vq b l hb p 3 (by omega) (by decide)) (eH.ne ⟨0,rfl,fun h=>by omega,by omega⟩) ?_
  rintro r o ⟨q,h1,h2,⟨k,rfl,h3,h4⟩,rfl⟩
  have hk:k<3:=h3 (by omega)
  simp only[↓zq,zs,af,aN,hb.has]
  refine aj (wt (k+1) k (by omega) (by omega)) ?_
  have hd:dd k=[aX (48+k)]:=eC (by omega)
  simp only[↓zq,zs,af,zt,hd]
  refine⟨by simp,q,h1,h2,⟨.atom ([101]++[aX (48+k)]),rfl,by simp[E.ok],by simp[eQ]⟩,rfl⟩
theorem Ht(b:AV)(l:List UInt8)(hb:tv b l)(d:Int)(hd:-100000<=d/\d<=100000){n:Nm}{e:E}(hn:qi n)(he:Wf e)(hl:(E.list [.atom dS,.atom n,e]).cN<=400)(B C:Nat)(ih:-12<=d->∀g,Wf g->g.cN<=400->jS b (d-1) g B C)(hB:1<=B):jS b d (.list [.atom dS,.atom n,e]) (B+5) (C+1):=by
 intro p hp
 refine Ce _ _ _ _ _ ((aV _).mpr trivial) hb.has ?_
 have ed:IntKind.wrap .i64 (d-1)=d-1:=VL.wrap64 _ (by omega) (by omega)
 simp only[zT,cn,↓zq,zs,af,ed]
 refine aj (po dS (.atom n) e) ?_
 simp only[↓zq,zs,af,zt]
 have hu:=Ng hn he hl
 refine⟨fun h=>(by cases h),fun _=>⟨fun h=>(by cases h),fun _=>⟨fun _=>?_,fun h=>absurd rfl h⟩⟩⟩
 refine aM hu ⟨_,_,rfl,.atom [117],true,rfl,.atom (by simp),by simp[E.cN]⟩ ?_
 rintro r o ⟨rfl,g,c,rfl,g1,g2⟩
 have u:eH b p (C+1) (jR (B+5)) (.agg [.v (.string (mk [117])),.v (.slice none 0 0)]) [.cells [b,.v (.int .i64 (p:Int))]]:=⟨p,ap _,by omega,jR.u _ (by omega),rfl⟩
 simp only[↓zq,zs,af,zt,aP]
 refine⟨fun _=>u,fun _=>⟨fun _=>u,fun hd2=>?_⟩⟩
 refine aM (ih (by omega) g g1 g2 p (by omega)) (n6 b p C B hB) ?_
 rintro r o ⟨q,h1,h2,⟨f,rfl,h4,h5⟩,rfl⟩
 simp only[↓zq,zs,af,zt,aN,hb.has,aP]
 repeat refine⟨by omega,?_⟩
 refine aj (Bv [102] f) ?_
 simp only[↓zq,zs,af,zt,aN,hb.has,aP]
 have fin:=KB (b:=b) (w:=[102]) rfl (ap p) (by omega) h1 h2 h4 h5
 first|exact fin|exact⟨by omega,fin⟩
theorem Js(b:AV)(l:List UInt8)(hb:tv b l)(d:Int)(hd:-100000<=d/\d<=100000){x y:E}(hx:Wf x)(hy:Wf y)(B1 C1 B2 C2:Nat)(ix:jS b (d-1) x B1 C1)(iy:jS b (d-1) y B2 C2)(hB:1<=B1)(hB2:1<=B2):jS b d (.list [.atom [42],x,y]) (B1+B2+5) (C1+C2+1):=by
 intro p hp
 refine Ce _ _ _ _ _ ((aV _).mpr trivial) hb.has ?_
 have ed:IntKind.wrap .i64 (d-1)=d-1:=VL.wrap64 _ (by omega) (by omega)
 have hP:=P3.of (.atom [42]) x y
 simp only[zT,cn,toNat_one,bf,↓zq,zs,af,zt,hP.1,hP.2.1,hP.2.2.1,hP.2.2.2,aP,ed]
 refine aj (po [42] x y) ?_
 simp only[↓zq,zs,af,zt]
 refine⟨fun h=>(by cases h),fun _=>⟨fun _=>?_,fun h=>absurd rfl h⟩⟩
 refine⟨by omega,by omega,aM (ix p (by omega)) (n6 b p C1 B1 hB) ?_⟩
 rintro r o ⟨q,h1,h2,⟨f,rfl,h4,h5⟩,rfl⟩
 simp only[↓zq,zs,af,zt,aN,hb.has,aP]
 repeat refine⟨by omega,?_⟩
 refine aM (iy q (by omega)) (n6 b q C2 B2 hB2) ?_
 rintro r o ⟨q',g1,g2,⟨g,rfl,g4,g5⟩,rfl⟩
 simp only[↓zq,zs,af,zt,aN,hb.has,aP]
 repeat refine⟨by omega,?_⟩
 refine aj (yR [112] f g) ?_
 simp only[↓zq,zs,af,zt,aN,hb.has,aP]
 have fin:eH b p (C1+C2+1) (jR (B1+B2+5)) (.agg [.v (.string (mk [])),(E.list [.atom [112],f,g]).sp]) [.cells [b,.v (.int .i64 (q':Int))]]:=⟨q',by omega,by omega,⟨.list [.atom [112],f,g],rfl,⟨by simp[E.ok],h4,g4,trivial⟩,by rw[N7 [112] f g rfl];omega⟩,rfl⟩
 first|exact fin|exact⟨by omega,fin⟩
theorem Ia(b:AV)(l:List UInt8)(hb:tv b l)(d:Int)(hd:-100000<=d/\d<=100000){x y:E}(hx:Wf x)(hy:Wf y)(hl:(E.list [.atom [43],x,y]).cN<=400)(B C:Nat)(ix:jS b (d-1) x B C)(iy:jS b (d-1) y B C)(hB:1<=B):jS b d (.list [.atom [43],x,y]) (B+5) (C+1):=by
 intro p hp
 refine Ce _ _ _ _ _ ((aV _).mpr trivial) hb.has ?_
 have ed:IntKind.wrap .i64 (d-1)=d-1:=VL.wrap64 _ (by omega) (by omega)
 have hP:=P3.of (.atom [43]) x y
 simp only[E.cN,E.eU]at hl
 have s1:=hx.sz
 have s2:=hy.sz
 simp only[zT,cn,toNat_one,bf,↓zq,zs,af,zt,hP.1,hP.2.1,hP.2.2.1,hP.2.2.2,aP,ed]
 refine aj (po [43] x y) ?_
 simp only[↓zq,zs,af,zt]
 refine⟨fun _=>?_,fun h=>absurd rfl h⟩
 refine aM (vq b l hb p 2 (by omega) (by decide)) (eH.ne ⟨0,rfl,fun h=>by omega,by omega⟩) ?_
 rintro r o ⟨q,h1,h2,⟨k,rfl,_,_⟩,rfl⟩
 simp only[↓zq,zs,af,zt,aN,hb.has,aP]
 have ex:=Ip hx [] (.sl []) (.of []) (by simp;omega)
 have ey:=Ip hy [] (.sl []) (.of []) (by simp;omega)
 have ax:=BP x hx.ok (by omega)
 have ay:=BP y hy.ok (by omega)
 rw[dU]at ax ay
 have lx:=ix q (by omega)
 have ly:=iy q (by omega)
 have t:=n6 b q C B hB
 have leaf:∀(w:Nm) (q':Nat) (f:E),w.length=1->q<=q'->q'<=q+C->f.ok->(eQ f).length<=B->eH b p (C+1) (jR (B+5)) (.agg [.v (.string (mk [])),(E.list [.atom w,f]).sp]) [.cells [b,.v (.int .i64 (q':Int))]]:=fun w q' f hw g1 g2 h4 h5=>KB hw h1 h2 g1 g2 h4 h5
 repeat' first
  |intro _
  |refine⟨by omega,?_⟩
  |(
   with_reducible refine aM lx t ?_
   rintro r o ⟨q',g1,g2,⟨f,rfl,h4,h5⟩,rfl⟩
   simp only[↓zq,zs,af,zt,aN,hb.has,aP]
   repeat refine⟨by omega,?_⟩
   refine aj (Bv _ f) ?_
   simp only[↓zq,zs,af,zt,aN,hb.has,aP]
   have fin:=leaf [108] q' f rfl g1 g2 h4 h5
   first|exact fin|exact⟨by omega,fin⟩)
  |(
   with_reducible refine aM ly t ?_
   rintro r o ⟨q',g1,g2,⟨f,rfl,h4,h5⟩,rfl⟩
   simp only[↓zq,zs,af,zt,aN,hb.has,aP]
   repeat refine⟨by omega,?_⟩
   refine aj (Bv _ f) ?_
   simp only[↓zq,zs,af,zt,aN,hb.has,aP]
   have fin:=leaf [114] q' f rfl g1 g2 h4 h5
   first|exact fin|exact⟨by omega,fin⟩)
  |(with_reducible refine jM.call ex fun _=>?_;simp only[↓zq,zs,af,zt,aP])
  |(with_reducible refine jM.call ey fun _=>?_;simp only[↓zq,zs,af,zt,aP])
  |(with_reducible refine aj ax ?_;simp only[↓zq,zs,af,zt,aP])
  |(with_reducible refine aj ay ?_;simp only[↓zq,zs,af,zt,aP])
  |with_reducible refine aF ?_ ?_
  |(exfalso;omega)
end Go.Proofs.Trees
namespace Go.Proofs.Trees
open Go Go.VL Go.RowKit
def mO:Nat->Nat
 |0=>2
 |d+1=>2*mO d+15
def mN:Nat->Nat
 |0=>3
 |d+1=>2*mN d+8
theorem Lw(d:Nat):2<=mO d:=by cases d<;>simp only[mO]<;>omega
theorem K5(d:Nat):3<=mN d:=by cases d<;>simp only[mN]<;>omega
theorem D9:∀d:Nat,d<=10->mO d<=100000000
 |0,_=>by decide
 |1,_=>by decide
 |2,_=>by decide
 |3,_=>by decide
 |4,_=>by decide
 |5,_=>by decide
 |6,_=>by decide
 |7,_=>by decide
 |8,_=>by decide
 |9,_=>by decide
 |10,_=>by decide
 |d+11,h=>by omega
theorem CU(b:AV)(l:List UInt8)(hb:tv b l)(p:Nat)(hp:p<2*qb):az Tryz.prog 119 [.ref 0 0] [.cells [b,.v (.int .i64 (p:Int))]] (eH b p 1 (fZ 60)):=by
 refine MT _ _ hb.has ?_
 unfold IT
 refine aM (zD b l hb p hp _ _ (.of [_,_,_,_,_,_,_]) (by simp) (by simp)) (eH.ne ⟨_,ah,rfl⟩) ?_
 rintro r o ⟨q,h1,h2,hr,rfl⟩
 obtain⟨s,rfl,hs⟩:=jB.ei (n:=60) (by decide) hr
 simp only[↓zq,zs,af,aN,hb.has]
 exact⟨q,h1,h2,⟨s,rfl,hs⟩,rfl⟩
theorem Ey(b:AV)(l:List UInt8)(hb:tv b l):∀(d:Nat),d<=10->∀(p:Nat) (ls:List (List UInt8)) (a:AV),dN a ls->(∀s,s∈ls->s.length<=2)->ls.length+d<=100->p+mN d<2*qb ->
 az Tryz.prog 127 [.ref 0 0,a,.v (.int .i64 (d:Int))] [.cells [b,.v (.int .i64 (p:Int))]] (eH b p (mN d) (fZ (mO d))):=by
 intro d
 induction d with
 |
  zero =>
  intro hd p ls a ha hls hll hp
  simp only[mN]at hp
  refine Hf _ _ _ _ ha.1 hb.has ?_
  simp only[Fy,↓zq,zs,af,ha.len]
  refine⟨fun _=>⟨ha.1,fun hpos=>?_,fun _=>?_⟩,fun h=>by omega⟩
  ·refine aM (vq b l hb p 3 (by omega) (by decide)) (eH.ne ⟨0,rfl,fun h=>by omega,by omega⟩) ?_
   rintro r o ⟨q1,h1,h2,⟨k,rfl,h3,h4⟩,rfl⟩
   simp only[↓zq,zs,af,aN,hb.has]
   refine⟨fun _=>⟨ha.1,?_⟩,fun _=>?_⟩
   ·refine aM (vq b l hb q1 ls.length (by omega) (by simp[qb];omega)) (eH.ne ⟨0,rfl,fun h=>by omega,by omega⟩) ?_
    rintro r o ⟨q2,g1,g2,⟨k2,rfl,g3,g4⟩,rfl⟩
    have hk:=g3 (by omega)
    simp only[↓zq,zs,af,aN,hb.has,cc,ha.idx hk]
    have:eH b p (mN 0) (fZ (mO 0)) (.v (.string (mk (ls.getD k2 [])))) [.cells [b,.v (.int .i64 (q2:Int))]]:=⟨q2,by omega,by simp only[mN];omega,⟨_,rfl,by
     have:=hls (ls.getD k2 []) (by simp[aa,hk]);simp only[mO];omega⟩,rfl⟩
    refine⟨⟨ha.1,by omega⟩,?_⟩
    repeat (first|exact this|refine⟨by omega,?_⟩)
   ·refine aM (zD b l hb q1 (by omega) _ _ (.of [_,_,_,_,_,_]) (by simp) (by simp)) (eH.ne ⟨_,ah,rfl⟩) ?_
    rintro r o ⟨q2,g1,g2,hr,rfl⟩
    obtain⟨s,rfl,hs⟩:=jB.ei (n:=2) (by decide) hr
    simp only[↓zq,zs,af,aN,hb.has]
    exact⟨q2,by omega,by simp only[mN];omega,⟨s,rfl,by simp only[mO];omega⟩,rfl⟩
  ·refine aM (zD b l hb p (by omega) _ _ (.of [_,_,_,_,_,_]) (by simp) (by simp)) (eH.ne ⟨_,ah,rfl⟩) ?_
   rintro r o ⟨q2,g1,g2,hr,rfl⟩
   obtain⟨s,rfl,hs⟩:=jB.ei (n:=2) (by decide) hr
   simp only[↓zq,zs,af,aN,hb.has]
   exact⟨q2,by omega,by simp only[mN];omega,⟨s,rfl,by simp only[mO];omega⟩,rfl⟩
 |
  succ d ih =>
  intro hd p ls a ha hls hll hp
  simp only[mN]at hp
  have hL:=Lw d
  have hC:=K5 d
  have ih:=ih (by omega)
  have hL8:=D9 d (by omega)
  have ed:IntKind.wrap .i64 (((d+1:Nat):Int)-1)=(d:Int):=by rw[VL.wrap64]<;>omega
  refine Hf _ _ _ _ ha.1 hb.has ?_
  simp only[Fy,↓zq,zs,af,ha.len,ed]
  refine⟨fun h=>by omega,fun _=>?_⟩
  refine aM (vq b l hb p 4 (by omega) (by decide)) (eH.ne ⟨0,rfl,fun h=>by omega,by omega⟩) ?_
  rintro r o ⟨q0,a1,a2,⟨k0,rfl,_,_⟩,rfl⟩
  simp only[↓zq,zs,af,aN,hb.has]
  refine⟨fun _=>⟨ha.1,fun hpos=>?_,fun _=>?_⟩,fun _=>?_⟩
  ·refine aM (vq b l hb q0 3 (by omega) (by decide)) (eH.ne ⟨0,rfl,fun h=>by omega,by omega⟩) ?_
   rintro r o ⟨q1,h1,h2,⟨k,rfl,h3,h4⟩,rfl⟩
   simp only[↓zq,zs,af,aN,hb.has]
   refine⟨fun _=>⟨ha.1,?_⟩,fun _=>?_⟩
   ·refine aM (vq b l hb q1 ls.length (by omega) (by simp[qb];omega)) (eH.ne ⟨0,rfl,fun h=>by omega,by omega⟩) ?_
    rintro r o ⟨q2,g1,g2,⟨k2,rfl,g3,g4⟩,rfl⟩
    have hk:=g3 (by omega)
    simp only[↓zq,zs,af,aN,hb.has,cc,ha.idx hk]
    have:eH b p (mN (d+1)) (fZ (mO (d+1))) (.v (.string (mk (ls.getD k2 [])))) [.cells [b,.v (.int .i64 (q2:Int))]]:=⟨q2,by omega,by simp only[mN];omega,⟨_,rfl,by
     have:=hls (ls.getD k2 []) (by simp[aa,hk]);simp only[mO];omega⟩,rfl⟩
    refine⟨⟨ha.1,by omega⟩,?_⟩
    repeat (first|exact this|refine⟨by omega,?_⟩)
   ·refine aM (zD b l hb q1 (by omega) _ _ (.of [_,_,_,_,_,_]) (by simp) (by simp)) (eH.ne ⟨_,ah,rfl⟩) ?_
    rintro r o ⟨q2,g1,g2,hr,rfl⟩
    obtain⟨s,rfl,hs⟩:=jB.ei (n:=2) (by decide) hr
    simp only[↓zq,zs,af,aN,hb.has]
    exact⟨q2,by omega,by simp only[mN];omega,⟨s,rfl,by simp only[mO];omega⟩,rfl⟩
  ·refine aM (zD b l hb q0 (by omega) _ _ (.of [_,_,_,_,_,_]) (by simp) (by simp)) (eH.ne ⟨_,ah,rfl⟩) ?_
   rintro r o ⟨q2,g1,g2,hr,rfl⟩
   obtain⟨s,rfl,hs⟩:=jB.ei (n:=2) (by decide) hr
   simp only[↓zq,zs,af,aN,hb.has]
   exact⟨q2,by omega,by simp only[mN];omega,⟨s,rfl,by simp only[mO];omega⟩,rfl⟩
  ·refine aM (vq b l hb q0 5 (by omega) (by decide)) (eH.ne ⟨0,rfl,fun h=>by omega,by omega⟩) ?_
   rintro r o ⟨q1,b1,b2,⟨k1,rfl,c3,_⟩,rfl⟩
   have hk1:=c3 (by omega)
   obtain rfl|rfl|rfl|rfl|rfl:k1=0\/k1=1\/k1=2\/k1=3\/k1=4:=by omega
   ·simp only[↓zq,zs,af,aN,hb.has]
    refine⟨fun _=>?_,fun h=>absurd rfl h⟩
    refine aM (ih q1 ls a ha hls (by omega) (by omega)) (eH.ne ⟨[],rfl,by simp⟩) ?_
    rintro r o ⟨q2,d1,d2,⟨s1,rfl,d3⟩,rfl⟩
    simp only[↓zq,zs,af,zt,aN,hb.has,an]
    repeat refine⟨by first|omega|(simp only[an,aq,aE];omega),?_⟩
    refine aM (ih q2 ls a ha hls (by omega) (by omega)) (eH.ne ⟨[],rfl,by simp⟩) ?_
    rintro r o ⟨q3,e1,e2,⟨s2,rfl,e3⟩,rfl⟩
    simp only[↓zq,zs,af,zt,aN,hb.has,an]
    have fin:∀s:List UInt8,s.length<=mO (d+1)->eH b p (mN (d+1)) (fZ (mO (d+1))) (.v (.string (mk s))) [.cells [b,.v (.int .i64 (q3:Int))]]:=fun s hs=>⟨q3,by omega,by simp only[mN];omega,⟨s,rfl,hs⟩,rfl⟩
    repeat (first|exact fin _ (by simp only[an,aq,aE,mO];omega)|refine⟨by first|omega|(simp only[an,aq,aE];omega),?_⟩)
   ·simp only[↓zq,zs,af,aN,hb.has]
    refine⟨fun h=>by omega,fun _=>⟨fun _=>?_,fun h=>absurd rfl h⟩⟩
    refine aM (ih q1 ls a ha hls (by omega) (by omega)) (eH.ne ⟨[],rfl,by simp⟩) ?_
    rintro r o ⟨q2,d1,d2,⟨s1,rfl,d3⟩,rfl⟩
    simp only[↓zq,zs,af,zt,aN,hb.has,an]
    repeat refine⟨by first|omega|(simp only[an,aq,aE];omega),?_⟩
    refine aM (ih q2 ls a ha hls (by omega) (by omega)) (eH.ne ⟨[],rfl,by simp⟩) ?_
    rintro r o ⟨q3,e1,e2,⟨s2,rfl,e3⟩,rfl⟩
    simp only[↓zq,zs,af,zt,aN,hb.has,an]
    have fin:∀s:List UInt8,s.length<=mO (d+1)->eH b p (mN (d+1)) (fZ (mO (d+1))) (.v (.string (mk s))) [.cells [b,.v (.int .i64 (q3:Int))]]:=fun s hs=>⟨q3,by omega,by simp only[mN];omega,⟨s,rfl,hs⟩,rfl⟩
    repeat (first|exact fin _ (by simp only[an,aq,aE,mO];omega)|refine⟨by first|omega|(simp only[an,aq,aE];omega),?_⟩)
   ·simp only[↓zq,zs,af,aN,hb.has]
    refine⟨fun h=>by omega,fun _=>⟨fun h=>by omega,fun _=>⟨fun _=>?_,fun h=>absurd rfl h⟩⟩⟩
    refine aM (ih q1 ls a ha hls (by omega) (by omega)) (eH.ne ⟨[],rfl,by simp⟩) ?_
    rintro r o ⟨q2,d1,d2,⟨s1,rfl,d3⟩,rfl⟩
    simp only[↓zq,zs,af,zt,aN,hb.has,an]
    repeat refine⟨by first|omega|(simp only[an,aq,aE];omega),?_⟩
    refine aM (ih q2 ls a ha hls (by omega) (by omega)) (eH.ne ⟨[],rfl,by simp⟩) ?_
    rintro r o ⟨q3,e1,e2,⟨s2,rfl,e3⟩,rfl⟩
    simp only[↓zq,zs,af,zt,aN,hb.has,an]
    have fin:∀s:List UInt8,s.length<=mO (d+1)->eH b p (mN (d+1)) (fZ (mO (d+1))) (.v (.string (mk s))) [.cells [b,.v (.int .i64 (q3:Int))]]:=fun s hs=>⟨q3,by omega,by simp only[mN];omega,⟨s,rfl,hs⟩,rfl⟩
    repeat (first|exact fin _ (by simp only[an,aq,aE,mO];omega)|refine⟨by first|omega|(simp only[an,aq,aE];omega),?_⟩)
   ·simp only[↓zq,zs,af,aN,hb.has]
    refine⟨fun h=>by omega,fun _=>⟨fun h=>by omega,fun _=>⟨fun h=>by omega,fun _=>⟨fun _=>?_,fun h=>absurd rfl h⟩⟩⟩⟩
    refine aM (ih q1 ls a ha hls (by omega) (by omega)) (eH.ne ⟨[],rfl,by simp⟩) ?_
    rintro r o ⟨q2,d1,d2,⟨s1,rfl,d3⟩,rfl⟩
    simp only[↓zq,zs,af,zt,aN,hb.has,an]
    repeat refine⟨by first|omega|(simp only[an,aq,aE];omega),?_⟩
    refine aM (ih q2 ls a ha hls (by omega) (by omega)) (eH.ne ⟨[],rfl,by simp⟩) ?_
    rintro r o ⟨q3,e1,e2,⟨s2,rfl,e3⟩,rfl⟩
    simp only[↓zq,zs,af,zt,aN,hb.has,an]
    have fin:∀s:List UInt8,s.length<=mO (d+1)->eH b p (mN (d+1)) (fZ (mO (d+1))) (.v (.string (mk s))) [.cells [b,.v (.int .i64 (q3:Int))]]:=fun s hs=>⟨q3,by omega,by simp only[mN];omega,⟨s,rfl,hs⟩,rfl⟩
    repeat (first|exact fin _ (by simp only[an,aq,aE,mO];omega)|refine⟨by first|omega|(simp only[an,aq,aE];omega),?_⟩)
   ·simp only[↓zq,zs,af,aN,hb.has]
    refine⟨fun h=>by omega,fun _=>⟨fun h=>by omega,fun _=>⟨fun h=>by omega,fun _=>⟨fun h=>by omega,fun _=>?_⟩⟩⟩⟩
    refine aM (zD b l hb q1 (by omega) _ _ (.of [_,_,_]) (by simp) (by simp)) (eH.ne ⟨_,ah,rfl⟩) ?_
    rintro r o ⟨q2,g1,g2,hr,rfl⟩
    obtain⟨s,rfl,hs⟩:=jB.ei (n:=2) (by decide) hr
    simp only[↓zq,zs,af,zt,aN,hb.has]
    repeat refine⟨by first|omega|(simp only[an,aq,aE];omega),?_⟩
    refine aj (yZ ls a ha s (by omega)) ?_
    simp only[↓zq,zs,af]
    refine aM (ih q2 (ls++[s]) _ (.of _) (fun w hw=>by
     rcases aK.1 hw with hw|hw
     ·exact hls w hw
     ·simp at hw;rw[hw];exact hs) (by simp;omega) (by omega)) (eH.ne ⟨[],rfl,by simp⟩) ?_
    rintro r o ⟨q3,e1,e2,⟨s2,rfl,e3⟩,rfl⟩
    simp only[↓zq,zs,af,zt,aN,hb.has,an]
    have fin:∀s:List UInt8,s.length<=mO (d+1)->eH b p (mN (d+1)) (fZ (mO (d+1))) (.v (.string (mk s))) [.cells [b,.v (.int .i64 (q3:Int))]]:=fun s hs=>⟨q3,by omega,by simp only[mN];omega,⟨s,rfl,hs⟩,rfl⟩
    repeat (first|exact fin _ (by simp only[an,aq,aE,mO];omega)|refine⟨by first|omega|(simp only[an,aq,aE];omega),?_⟩)
end Go.Proofs.Trees
namespace Go.Proofs.Trees
open Go Go.VL Go.RowKit
theorem eH.mono{b:AV}{p c c':Nat}{X Y:AV->Prop}(hc:c<=c')(h:∀r,X r->Y r){r:AV}{o:List Ob}(hr:eH b p c X r o):eH b p c' Y r o:=by
 obtain⟨q,h1,h2,h3,h4⟩:=hr;exact⟨q,h1,by omega,h r h3,h4⟩
theorem fZ.le{n m:Nat}(h:n<=m){r:AV}(hr:fZ n r):fZ m r:=by obtain⟨s,h1,h2⟩:=hr;exact⟨s,h1,by omega⟩
theorem M3(b:AV)(l:List UInt8)(hb:tv b l)(p:Nat)(hp:p<qb):az Tryz.prog 76 [.ref 0 0] [.cells [b,.v (.int .i64 (p:Int))]] (eH b p 100 (fZ 200)):=by
 refine Ln _ _ hb.has ?_
 unfold Jp
 have hfar:qb=1000000000000000:=rfl
 refine aM (vq b l hb p 12 (by omega) (by decide)) (eH.ne ⟨0,rfl,fun h=>by omega,by omega⟩) ?_
 rintro r o ⟨q,h1,h2,⟨k,rfl,_,_⟩,rfl⟩
 have kn:∀(c m:Nat) (r:AV) (o:List Ob),c<=90->m<=200->eH b q c (fZ m) r o->∃q':Nat,∃s:List UInt8,r=.v (.string (mk s))/\o=[.cells [b,.v (.int .i64 (q':Int))]]/\eH b p 100 (fZ 200) (.v (.string (mk s))) [.cells [b,.v (.int .i64 (q':Int))]]:=by
  rintro c m r o hc hm ⟨q',g1,g2,⟨s,rfl,hs⟩,rfl⟩
  exact⟨q',s,rfl,rfl,q',by omega,by omega,⟨s,rfl,by omega⟩,rfl⟩
 simp only[↓zq,zs,af,aN,hb.has]
 refine⟨fun _=>?_,fun _=>⟨fun _=>?_,fun _=>⟨fun _=>?_,fun _=>⟨fun _=>?_,fun _=>⟨fun _=>?_,fun _=>?_⟩⟩⟩⟩⟩
 ·refine aM (zD b l hb q (by omega) _ _ (.of [_,_,_,_,_,_,_,_,_]) (by simp) (by simp)) (eH.ne ⟨_,ah,rfl⟩) ?_
  intro r o hr
  obtain⟨q',s,rfl,rfl,hd⟩:=kn 1 20 r o (by omega) (by omega) (hr.mono (ap _) fun r h=>jB.ei (n:=20) (by decide) h)
  simp only[↓zq,zs,af,aN,hb.has];exact hd
 ·refine aM (CU b l hb q (by omega)) (eH.ne ⟨[],rfl,by simp⟩) ?_
  intro r o hr
  obtain⟨q',s,rfl,rfl,hd⟩:=kn _ _ r o (by omega) (by omega) hr
  simp only[↓zq,zs,af,aN,hb.has];exact hd
 ·refine aM (CU b l hb q (by omega)) (eH.ne ⟨[],rfl,by simp⟩) ?_
  intro r o hr
  obtain⟨q',s,rfl,rfl,hd⟩:=kn _ _ r o (by omega) (by omega) hr
  simp only[↓zq,zs,af,aN,hb.has];exact hd
 ·refine aM (CU b l hb q (by omega)) (eH.ne ⟨[],rfl,by simp⟩) ?_
  intro r o hr
  obtain⟨q',s,rfl,rfl,hd⟩:=kn _ _ r o (by omega) (by omega) hr
  simp only[↓zq,zs,af,aN,hb.has];exact hd
 ·refine aM (Ey b l hb 2 (by omega) q [[116],[116,49]] _ (dN.of [[116],[116,49]]) (by decide) (by simp) (by simp[mN];omega)) (eH.ne ⟨[],rfl,by simp⟩) ?_
  intro r o hr
  obtain⟨q',s,rfl,rfl,hd⟩:=kn _ _ r o (by simp[mN]) (by simp[mO]) hr
  simp only[↓zq,zs,af,aN,hb.has];exact hd
 ·refine aM (Ey b l hb 3 (by omega) q [] _ (dN.of []) (by simp) (by simp) (by simp[mN];omega)) (eH.ne ⟨[],rfl,by simp⟩) ?_
  intro r o hr
  obtain⟨q',s,rfl,rfl,hd⟩:=kn _ _ r o (by simp[mN]) (by simp[mO]) hr
  simp only[↓zq,zs,af,aN,hb.has];exact hd
def ux(a:AV):Prop:=LK.sl.has a/\∃l:List UInt8,a.aS=pK l
def KK(r:AV)(o:List Ob):Prop:=∃(b:AV) (l:List UInt8),tv b l/\r=.ref 0 0/\o=[.cells [b,.v (.int .i64 0)]]
theorem KK.ne:∃r o,KK r o:=⟨_,_,.v (.slice none 0 0),[],⟨(bm).mpr trivial,rfl,by simp⟩,rfl,rfl⟩
theorem Mm(a:AV)(ha:ux a):az Tryz.prog 30 [a] [] KK:=by
 obtain⟨hs,l,hl⟩:=ha
 have hln:a.aS.length=l.length:=by rw[hl];simp[pK]
 refine Lc _ hs ?_
 simp only[I2,↓zq,zs,af,hln]
 refine⟨hs,fun h=>⟨⟨hs,by omega⟩,?_⟩,fun h=>?_⟩
 ·refine⟨_,l.take 2000,⟨(bZ _).mpr trivial,?_,?_⟩,rfl,rfl⟩
  ·rw[fw,hl];simp[pK]
  ·simp;omega
 ·exact⟨a,l,⟨hs,hl,by omega⟩,rfl,rfl⟩
end Go.Proofs.Trees
namespace Go.Proofs.Trees
open Go Go.VL Go.RowKit
theorem zC(b:AV)(l:List UInt8)(hb:tv b l){e:E}(h:Wf e):∀d:Int,d<=-13->-50000+(e.sz:Int)<=d->e.cN<=400->jS b d e (5*e.sz) e.sz:=by
 induction h with
 |
  @atom s hs =>
  intro d h1 h2 h3
  exact(HX b l hb d hs).mono (by simp[E.sz]) (by simp[E.sz])
 |
  @plus x y hx hy i1 i2 =>
  intro d h1 h2 h3
  have h4:=h3
  simp only[E.sz,E.iX,E.cN,E.eU]at h2 h4 |-
  exact(Ia b l hb d (by omega) hx hy h3 (5*(x.sz+y.sz)+1) (x.sz+y.sz) ((i1 (d-1) (by omega) (by omega) (by omega)).mono (by omega) (by omega)) ((i2 (d-1) (by omega) (by omega) (by omega)).mono (by omega) (by omega)) (by omega)).mono (by omega) (by omega)
 |
  @times x y hx hy i1 i2 =>
  intro d h1 h2 h3
  have h4:=h3
  simp only[E.sz,E.iX,E.cN,E.eU]at h2 h4 |-
  exact(Js b l hb d (by omega) hx hy (5*x.sz+1) x.sz (5*y.sz+1) y.sz ((i1 (d-1) (by omega) (by omega) (by omega)).mono (by omega) (by omega)) ((i2 (d-1) (by omega) (by omega) (by omega)).mono (by omega) (by omega)) (by omega) (by omega)).mono (by omega) (by omega)
 |
  @rc n x hn hx i =>
  intro d h1 h2 h3
  simp only[E.sz,E.iX]at h2 |-
  exact(Ht b l hb d (by omega) hn hx h3 1 0 (fun h=>absurd h (by omega)) (by omega)).mono (by omega) (by omega)
def oK:Nat->Nat
 |0=>6100
 |n+1=>2*oK n+5
theorem Gl:∀n,6100<=oK n
 |0=>ap _
 |n+1=>by have:=Gl n;simp only[oK];omega
theorem vM:∀n k:Nat,oK (n+k)+5=2 ^ k*(oK n+5)
 |n,0=>by simp
 |
  n,k+1=>by
  have:=vM n k
  rw[show n+(k+1)=n+k+1 from rfl,oK,Nat.pow_succ,Nat.mul_comm (2 ^ k) 2,Nat.mul_assoc,<-this];omega
theorem AS{n m:Nat}(h:n<=m):oK n<=oK m:=by
 obtain⟨k,rfl⟩:=Nat.exists_eq_add_of_le h
 have:=vM n k
 have h2:1*(oK n+5)<=2 ^ k*(oK n+5):=aU _ Nat.one_le_two_pow
 omega
theorem KD:oK 22<=30000000000:=by
 have:=vM 0 22
 simp only[aR]at this
 have h0:oK 0=6100:=rfl
 rw[h0]at this
 omega
theorem xq(b:AV)(l:List UInt8)(hb:tv b l):∀n:Nat,n<=40->∀e,Wf e->e.cN<=400->jS b ((n:Int)-13) e (oK n) (oK n)
 |
  0,hn,e,h,hl=>by
  have:=h.sz
  exact(zC b l hb h _ (by simp) (by simp;omega) hl).mono (by simp only[oK];omega) (by simp only[oK];omega)
 |
  n+1,hn,e,h,hl=>by
  have hb1:=Gl n
  have ih:∀g,Wf g->g.cN<=400->jS b (((n+1:Nat):Int)-13-1) g (oK n) (oK n):=by
   rw[show ((n+1:Nat):Int)-13-1=(n:Int)-13 by omega];exact xq b l hb n (by omega)
  cases h with
  |@atom s hs=>exact(HX b l hb _ hs).mono (by simp only[oK];omega) (by simp only[oK];omega)
  |
   @plus x y hx hy =>
   have h4:=hl
   simp only[E.cN,E.eU]at h4
   exact(Ia b l hb _ (by omega) hx hy hl _ _ (ih x hx (by omega)) (ih y hy (by omega)) (by omega)).mono (by simp only[oK];omega) (by simp only[oK];omega)
  |
   @times x y hx hy =>
   simp only[E.cN,E.eU]at hl
   exact(Js b l hb _ (by omega) hx hy _ _ _ _ (ih x hx (by omega)) (ih y hy (by omega)) (by omega) (by omega)).mono (by simp only[oK];omega) (by simp only[oK];omega)
  |@rc m x hm hx=>exact(Ht b l hb _ (by omega) hm hx hl _ _ (fun _=>ih) (by omega)).mono (by simp only[oK];omega) (by simp only[oK];omega)
theorem KU(b:AV)(l:List UInt8)(hb:tv b l)(p:Nat)(hp:p<100000000000000)(s:Nm):az Tryz.prog 33 [.ref 0 0,.v (.string (mk s))] [.cells [b,.v (.int .i64 (p:Int))]] (eH b p 40000000000 (fZ 40000000000)):=by
 refine Lv _ _ _ hb.has ?_
 have hfar:qb=1000000000000000:=rfl
 have oneL:∀(q:Nat) (r:AV) (o:List Ob),p<=q->q<=p+1->eH b q 1 (jB [[],[117],[101,48],[101,48,48],[101,49,48,48],[40,108,32,117,41],[40,112,32,117,41],[40,102,32,40,108,32,117,41,41],[40,120,32,117,41],[40,108,32,32,117,41]]) r o->∃q':Nat,∃t:List UInt8,r=.v (.string (mk t))/\o=[.cells [b,.v (.int .i64 (q':Int))]]/\eH b p 40000000000 (fZ 40000000000) (.v (.string (mk t))) [.cells [b,.v (.int .i64 (q':Int))]]:=by
  rintro q r o h1 h2 ⟨q',g1,g2,hr,rfl⟩
  obtain⟨t,rfl,ht⟩:=jB.ei (n:=20) (by decide) hr
  exact⟨q',t,rfl,rfl,q',by omega,by omega,⟨t,rfl,by omega⟩,rfl⟩
 unfold GV
 refine aM (Cv s) (mo.ne _ _ (fun h=>h)) ?_
 rintro r o ⟨c,d,hd,rfl,hh⟩
 have hhas:bT [.str,.sl] [.v (.string (mk c)),d] 0:=by simp[bT,dC,hd]
 simp only[↓zq,zs,af,zt]
 refine⟨hhas,fun h=>?_,fun h=>?_⟩
 ·refine aM (zD b l hb p (by omega) _ _ (.of [_,_,_,_,_,_,_,_,_,_]) (by simp) (by simp)) (eH.ne ⟨_,ah,rfl⟩) ?_
  intro r o hr
  obtain⟨q',t,rfl,rfl,hd⟩:=oneL p r o (ap _) (by omega) hr
  simp only[↓zq,zs,af,aN,hb.has];exact hd
 ·obtain⟨e,he,hce⟩:=hh (by simpa using h)
  obtain⟨t,h1,hA,h3,h4,h5,_⟩:=iA he
  rw[dU]at hce
  simp only[AV.agg.injEq,List.cons.injEq,AV.v.injEq,Value.string.injEq,and_true]at hce
  obtain⟨hc1,rfl⟩:=hce
  have hc2:=AR hc1
  subst hc2
  obtain⟨hw,hwt⟩:=j6 e [] t hA.ok (by simp) hA.ty
  have hats:e.cN<=400:=by rw[hw.cN [],hwt];exact h5
  have hsz:=hw.sz
  refine aM (vq b l hb p 16 (by omega) (by decide)) (eH.ne ⟨0,rfl,fun h=>by omega,by omega⟩) ?_
  rintro r o ⟨q,h1,h2,⟨k,rfl,_,_⟩,rfl⟩
  simp only[↓zq,zs,af,aN,hb.has]
  refine⟨fun _=>?_,fun _=>?_⟩
  ·refine aM (zD b l hb q (by omega) _ _ (.of [_,_,_,_,_,_,_,_,_,_]) (by simp) (by simp)) (eH.ne ⟨_,ah,rfl⟩) ?_
   intro r o hr
   obtain⟨q',t,rfl,rfl,hd⟩:=oneL q r o h1 h2 hr
   simp only[↓zq,zs,af,aN,hb.has];exact hd
  ·obtain⟨w1,w2,_⟩:=wl (os:=[]) hw
   have hap:=BD hw (.v (.slice none 0 0)) [] ⟨(bm).mpr trivial,rfl⟩ (by omega) (by simp) (by simp)
   refine aj hap ?_
   simp only[↓zq,zs,af,zt,aP]
   repeat refine⟨by omega,?_⟩
   have hats2:(yF e []).cN<=400:=by rw[w1.cN [],w2,<-hw.cN []];exact hats
   refine aM (vq b l hb q 5 (by omega) (by decide)) (eH.ne ⟨0,rfl,fun h=>by omega,by omega⟩) ?_
   rintro r o ⟨q1,g1,g2,⟨k1,rfl,c3,_⟩,rfl⟩
   have hk1:=c3 (by omega)
   simp only[↓zq,zs,af,zt,aN,hb.has,aP]
   have ed:IntKind.wrap .i64 (5+(k1:Int))=((18+k1:Nat):Int)-13:=by rw[VL.wrap64 _ (by omega) (by omega)];omega
   have hB:=KD
   have hB2:oK (18+k1)<=oK 22:=AS (by omega)
   have hB3:=Gl (18+k1)
   rw[ed]
   refine aM (xq b l hb (18+k1) (by omega) (yF e []) w1 hats2 q1 (by omega)) (n6 b q1 _ _ (by omega)) ?_
   rintro r o ⟨q2,d1,d2,⟨f,rfl,f1,f2⟩,rfl⟩
   simp only[↓zq,zs,af,zt,aN,hb.has,aP]
   repeat refine⟨by omega,?_⟩
   have ht:=B3 (f.sz+1) f (by omega) f1 (by omega)
   rw[dU]at ht
   refine aj ht ?_
   simp only[↓zq,zs,af,zt,aN,hb.has,aP]
   exact⟨q2,by omega,by omega,⟨eQ f,rfl,by omega⟩,rfl⟩
theorem K6(b:AV)(l:List UInt8)(hb:tv b l)(p:Nat)(hp:p<100000000000000):az Tryz.prog 108 [.ref 0 0] [.cells [b,.v (.int .i64 (p:Int))]] (eH b p 200 (fZ 200)):=by
 refine LL _ _ hb.has ?_
 unfold I5
 have hfar:qb=1000000000000000:=rfl
 refine aM (vq b l hb p 8 (by omega) (by decide)) (eH.ne ⟨0,rfl,fun h=>by omega,by omega⟩) ?_
 rintro r o ⟨q,h1,h2,⟨k,rfl,_,_⟩,rfl⟩
 have kn:∀(c m:Nat) (r:AV) (o:List Ob),c<=190->m<=200->eH b q c (fZ m) r o->∃q':Nat,∃s:List UInt8,r=.v (.string (mk s))/\o=[.cells [b,.v (.int .i64 (q':Int))]]/\eH b p 200 (fZ 200) (.v (.string (mk s))) [.cells [b,.v (.int .i64 (q':Int))]]:=by
  rintro c m r o hc hm ⟨q',g1,g2,⟨s,rfl,hs⟩,rfl⟩
  exact⟨q',s,rfl,rfl,q',by omega,by omega,⟨s,rfl,by omega⟩,rfl⟩
 have sh:=Ey b l hb 3 (by omega) q [] _ (dN.of []) (by simp) (by simp) (by simp[mN];omega)
 have ty:=M3 b l hb q (by omega)
 have kw:=CU b l hb q (by omega)
 simp only[↓zq,zs,af,aN,hb.has]
 refine⟨fun _=>?_,fun _=>⟨fun _=>?_,fun _=>⟨fun _=>?_,fun _=>⟨fun _=>?_,fun _=>?_⟩⟩⟩⟩
 ·refine aM ty (eH.ne ⟨[],rfl,by simp⟩) ?_
  intro r o hr
  obtain⟨q',s,rfl,rfl,hd⟩:=kn _ _ r o (by omega) (by omega) hr
  simp only[↓zq,zs,af,aN,hb.has];exact hd
 ·refine aM sh (eH.ne ⟨[],rfl,by simp⟩) ?_
  intro r o hr
  obtain⟨q',s,rfl,rfl,hd⟩:=kn _ _ r o (by simp[mN]) (by simp[mO]) hr
  simp only[↓zq,zs,af,aN,hb.has];exact hd
 ·refine aM sh (eH.ne ⟨[],rfl,by simp⟩) ?_
  intro r o hr
  obtain⟨q',s,rfl,rfl,hd⟩:=kn _ _ r o (by simp[mN]) (by simp[mO]) hr
  simp only[↓zq,zs,af,aN,hb.has];exact hd
 ·refine aM sh (eH.ne ⟨[],rfl,by simp⟩) ?_
  intro r o hr
  obtain⟨q',s,rfl,rfl,hd⟩:=kn _ _ r o (by simp[mN]) (by simp[mO]) hr
  simp only[↓zq,zs,af,aN,hb.has];exact hd
 ·refine aM kw (eH.ne ⟨[],rfl,by simp⟩) ?_
  intro r o hr
  obtain⟨q',s,rfl,rfl,hd⟩:=kn _ _ r o (by omega) (by omega) hr
  simp only[↓zq,zs,af,aN,hb.has];exact hd
def Mr:AV->Prop:=fun r=>∃s t:Nm,r=.cx [.v (.string (mk s)),.v (.string (mk t))]
theorem Mp(b:AV)(l:List UInt8)(hb:tv b l)(p:Nat)(hp:p<10000000000000):az Tryz.prog 51 [.ref 0 0] [.cells [b,.v (.int .i64 (p:Int))]] (eH b p 50000000000 Mr):=by
 refine MJ _ _ hb.has ?_
 unfold Kj
 refine aM (K6 b l hb p (by omega)) (eH.ne ⟨[],rfl,by simp⟩) ?_
 rintro r o ⟨q,h1,h2,⟨s,rfl,_⟩,rfl⟩
 simp only[↓zq,zs,af,aN,hb.has]
 refine aM (KU b l hb q (by omega) s) (eH.ne ⟨[],rfl,by simp⟩) ?_
 rintro r o ⟨q1,g1,g2,⟨t,rfl,_⟩,rfl⟩
 simp only[↓zq,zs,af,aN,hb.has]
 exact⟨q1,by omega,by omega,⟨s,t,rfl⟩,rfl⟩
end Go.Proofs.Trees
namespace Go.Proofs.Trees
open Go Go.VL Go.RowKit
noncomputable def lT (s x c:Nm):Option (Ty×Vl):=(qI s).bind fun t=>(lV s x).bind fun d=>(om d c 100).map fun c'=>(t,c')
structure PX(s x c:Nm)(t:Ty)(w:Vl):Prop where
 cl:qI s=some t
 Ol:ff x=true
 Dt:dH t w=true
 ty:∀v,vT 100 v (.name x)=true->vT 100 (cG t w v) t=true
 Mj:∀v,(w,v)∈bY t (.nm x) (cG t w v)
 iu:w.iu 100
 nd:w.nodes<=200
 ei:c=w.ei
theorem sC{s x c:Nm}{t:Ty}{w:Vl}(h:lT s x c=some (t,w)):PX s x c t w:=by
 unfold lT at h
 obtain⟨t',ht,h⟩:=a6.1 h
 obtain⟨d,hd,h⟩:=a6.1 h
 obtain⟨w',hw,h⟩:=Option.map_eq_some_iff.1 h
 cases h
 obtain⟨t2,D,h1,h2,h3,h4,h5⟩:=yw hd
 rw[mI ht]at h1;cases h1
 obtain⟨e,tD,m,g1,g2,g3,g4,g5,g6,g7⟩:=kz hw
 have hm:m=100:=by omega
 subst hm
 have:=mI g3
 rw[h5]at this;cases this
 rw[kO g4]at g7
 obtain⟨e2,he2,hw2,hte2,_,_⟩:=kV (mI ht)
 have hlc:jf t 0:=hte2 ▸ hw2.oL.1
 have hc0:vT 100 w (eE yP D)=true:=by rw[gh];exact g7
 refine⟨ht,h2,tJ 100 w.nodes w (ap _) t x D yP h3 mv hlc hc0,fun v hv=>?_,fun v=>?_,(gF g2).2.1,(gF g2).2.2,mD g2⟩
 ·have:=oy 100 w.nodes w (ap _) t x D yP h3 mv hlc hc0 v (by rw[gh];exact hv)
  rw[gh]at this;exact this
 ·exact nM 100 w.nodes w (ap _) t x D yP h3 mv hlc hc0 v _ (ap _)
def ES(s x c:Nm):AV->List Ob->Prop:=fun r o=>o=[]/\∃p,LK.ptr.has p/\r=.cx [p,ij ((lT s x c).map (·.2))]/\∀t w,lT s x c=some (t,w)->p=t.av
theorem HK(s x c:Nm):az Tryz.prog 45 [.v (.string (mk s)),.v (.string (mk x)),.v (.string (mk c))] [] (ES s x c):=by
 refine L9 _ _ _ ?_
 unfold GH
 refine aj (JM s) ?_
 simp only[↓zq,zs,af,zt,fP]
 refine aj (LP s x) ?_
 rw[xM]
 simp only[↓zq,zs,af,zt,fP]
 have no:lT s x c=none->∀p q:AV,p=mb->q=mb->ES s x c (.cx [p,q]) []:=fun h p q hp hq=>⟨rfl,p,by rw[hp];exact(iM).mpr trivial,by rw[h,hq];rfl,fun t w h'=>by rw[h]at h';cases h'⟩
 cases q:qI s with
 |
  none =>
  have e0:lT s x c=none:=by unfold lT;rw[q];rfl
  simp only[gW,↓zq,zs,af]
  exact⟨fun _=>no e0 _ _ rfl rfl,fun h=>(by cases h)⟩
 |
  some t =>
  simp only[gW,↓zq,zs,af,fg]
  refine⟨fun h=>(by cases h),fun _=>?_⟩
  cases q2:lV s x with
  |
   none =>
   have e0:lT s x c=none:=by unfold lT;rw[q,q2];rfl
   exact⟨fun _=>no e0 _ _ rfl rfl,fun h=>(by cases h)⟩
  |
   some d =>
   have e0:lT s x c=(om d c 100).map fun c'=>(t,c'):=by unfold lT;rw[q,q2];rfl
   simp only[cm,cI]
   refine⟨fun h=>(by cases h),fun _=>?_⟩
   refine aj (Lt d c 100) ?_
   simp only[↓zq,zs,af,zt,fP,fy,aG]
   refine⟨rfl,t.av,(aG _).mpr trivial,?_,fun t' w h=>?_⟩
   ·rw[e0];cases om d c 100<;>rfl
   ·rw[e0]at h
    obtain⟨w',_,h⟩:=Option.map_eq_some_iff.1 h;cases h;rfl
theorem HG(s x c:Nm):∃r o,ES s x c r o:=by
 cases q:lT s x c with
 |none=>exact⟨_,_,rfl,mb,(iM).mpr trivial,rfl,fun t w h=>by rw[q]at h;cases h⟩
 |some tw=>exact⟨_,_,rfl,tw.1.av,(aG _).mpr trivial,rfl,fun t w h=>by rw[q]at h;cases h;rfl⟩
theorem Lg(s x c:Nm):az Tryz.prog 14 [.v (.string (mk s)),.v (.string (mk x)),.v (.string (mk c))] [] (bG (.v (.bool (lT s x c).isSome))):=by
 refine MU _ _ _ ?_
 unfold Je
 refine aM (HK s x c) (HG s x c) ?_
 rintro r o ⟨rfl,p,hp,rfl,_⟩
 simp only[↓zq,zs,af,zt,fy,eq_true hp]
 cases lT s x c<;>simp[ij,eM,↓zq,zs,af,bG]
theorem Lu(s x c:Nm):az Tryz.prog 15 [.v (.string (mk s)),.v (.string (mk x)),.v (.string (mk c))] [] (bG (.v (.bool (lT s x c).isSome))):=by
 refine Mc _ _ _ ?_
 unfold KA
 refine aM (Cv s) (mo.ne _ _ (fun h=>h)) ?_
 rintro r o ⟨c0,d0,hd,rfl,hh⟩
 have hhas:bT [.str,.sl] [.v (.string (mk c0)),d0] 0:=by simp[bT,dC,hd]
 simp only[↓zq,zs,af,zt]
 refine⟨hhas,aj (Nw s x) ?_⟩
 rw[xM]
 simp only[↓zq,zs,af,zt]
 have hce:(jn s).isSome=(qI s).isSome:=by
  cases q:jn s with
  |none=>rw[mB q];rfl
  |some e=>obtain⟨t,h1,_⟩:=iA q;rw[h1];rfl
 rw[hce]
 unfold lT
 refine⟨fun h1=>⟨fun h2=>?_,fun h2=>?_⟩,fun h1=>?_⟩
 ·obtain⟨t,ht⟩:=bi.1 h1
  obtain⟨d,hd⟩:=bi.1 h2
  rw[hd]
  refine aj (NM d c 100) ?_
  simp only[↓zq,zs,af,zt,ht,hd,aY,Option.isSome_map]
  exact⟨rfl,rfl⟩
 ·have:lV s x=none:=by cases q:lV s x<;>simp[q]at h2 |-
  rw[this];cases qI s<;>exact⟨rfl,rfl⟩
 ·have:qI s=none:=by cases q:qI s<;>simp[q]at h1 |-
  rw[this];exact⟨rfl,rfl⟩
end Go.Proofs.Trees
namespace Go.Proofs.Trees
open Go Go.VL Go.RowKit
def A8(t:Ty)(w:Vl)(k:Nat):Option Nm:=if(cG t w (.el k)).nodes<=200 then some (cG t w (.el k)).ei else none
noncomputable def Gq (s x c e:Nm):Option Nm:=(lT s x c).bind fun tc=>(en e).bind fun k=>A8 tc.1 tc.2 k
theorem vY{e:Nm}{k:Nat}(h:en e=some k):pE e=some (.el k)/\e=uE k/\k<100:=by
 obtain⟨rfl,hk⟩:=pi h
 exact⟨nO (v:=.el k) hk (by simp[Vl.nodes]),rfl,hk⟩
theorem Fx{e:Nm}{k:Nat}(h:pE e=some (.el k)):en e=some k:=by
 have h1:=mD h
 have h2:k<100:=(gF h).2.1
 have h3:e=uE k:=h1
 rw[h3];exact qp k h2
theorem tf(t:Ty)(c:Vl){k:Nat}(hc:c.iu 100)(hk:k<100)(hn:c.nodes<=200):(cG t c (.el k)).iu 100/\(cG t c (.el k)).nodes<=201:=by
 refine⟨u7 100 t c (.el k) hc hk,?_⟩
 have:=vu t c (.el k)
 simp only[Vl.nodes]at this;omega
theorem GD(s x c e:Nm):az Tryz.prog 16 [.v (.string (mk s)),.v (.string (mk x)),.v (.string (mk c)),.v (.string (mk e))] [] (bG (ku (Gq s x c e))):=by
 refine LJ _ _ _ _ ?_
 unfold HW
 refine aM (HK s x c) (HG s x c) ?_
 rintro r o ⟨rfl,p,hp,rfl,hpe⟩
 simp only[↓zq,zs,af,zt,fy,eq_true hp]
 refine aj (FL e) ?_
 simp only[↓zq,zs,af,zt,fy,eq_true hp]
 unfold Gq
 cases q:lT s x c with
 |
  none =>
  simp only[Option.map_none,bR,ij,↓zq,zs,af]
  exact⟨fun _=>⟨rfl,rfl⟩,fun _=>⟨fun _=>⟨rfl,rfl⟩,fun h=>(by cases h)⟩⟩
 |
  some tw =>
  obtain⟨t,w⟩:=tw
  have X:=sC q
  rw[hpe t w q]
  simp only[cg,aY,ij,↓zq,zs,af,fg,aG,eM,bo]
  refine⟨fun h=>(by cases h),fun _=>⟨fun h=>(by cases h),fun _=>?_⟩⟩
  cases q2:pE e with
  |
   none =>
   have:en e=none:=by
    cases q3:en e with
    |none=>rfl
    |some k=>rw[(vY q3).1]at q2;cases q2
   rw[this]
   simp only[ij,↓zq,zs,af,bR]
   exact⟨fun _=>⟨rfl,rfl⟩,fun h=>(by cases h)⟩
  |
   some uu =>
   simp only[ij,↓zq,zs,af,eM,bo]
   refine⟨fun h=>(by cases h),fun _=>?_⟩
   have no:(∀k,uu≠.el k)->en e=none:=fun hu=>by
    cases q3:en e with
    |none=>rfl
    |some k=>rw[(vY q3).1]at q2;cases q2;exact absurd rfl (hu k)
   cases uu with
   |
    el k =>
    have hk:=Fx q2
    have hk1:=(vY hk).2.2
    rw[hk]
    simp only[Vl.dQ,↓zq,zs,af,aY]
    repeat refine⟨by omega,?_⟩
    refine fun _=>?_
    have hpl:=Ds w.nodes w (ap _) t (.el k) X.Dt mb [] .nil x mb ((iM).mpr trivial)
    simp only[Vl.dQ]at hpl
    refine aj hpl ?_
    obtain⟨hb,hn⟩:=tf t w X.iu hk1 X.nd
    simp only[↓zq,zs,af,zt,bo]
    refine aj (Mu _ hb (by omega)) ?_
    unfold A8
    split<;>simp[ku,↓zq,zs,af,zt,bG]
   |u=>rw[no fun k h=>by cases h];simp[Vl.dQ,↓zq,zs,af,ku,bG]
   |l v=>rw[no fun k h=>by cases h];simp[Vl.dQ,↓zq,zs,af,ku,bG]
   |r v=>rw[no fun k h=>by cases h];simp[Vl.dQ,↓zq,zs,af,ku,bG]
   |f v=>rw[no fun k h=>by cases h];simp[Vl.dQ,↓zq,zs,af,ku,bG]
   |p a b=>rw[no fun k h=>by cases h];simp[Vl.dQ,↓zq,zs,af,ku,bG]
theorem we{t:Ty}{tg:Tg}{w:Vl}(hb:w.iu 100)(hn:w.nodes<=201):(bY t tg w).length<=1000/\∀h,h∈bY t tg w->h.1.ei.length<=900000/\h.2.ei.length<=900000:=by
 have h1:=qR t tg w
 have h2:=qF (bY t tg w)
 refine⟨by omega,fun h hh=>?_⟩
 obtain⟨b1,b2⟩:=fT 100 _ _ _ w h hb hh
 have h3:=iS _ b1
 have h4:=iS _ b2
 have h5:=jO hh
 omega
noncomputable def NN (s x v:Nm):Option (List Hl):=(qI s).bind fun t=>(om s v 100).bind fun w=>if ff x=true then some (bY t (.nm x) w)else none
theorem Ec{s x v:Nm}{w:Vl}(h:om s v 100=some w):∃e t,qI s=some t/\jn s=some e/\Ask e [] t/\fS 100 w (e,[])=true/\w.iu 100/\w.nodes<=200/\pE v=some w/\NN s x v=if ff x=true then some (bY t (.nm x) w)else none:=by
 obtain⟨e,t,m,h1,h2,h3,h4,h5,h6,h7⟩:=kz h
 have hm:m=100:=by omega
 subst hm
 exact⟨e,t,h3,h1,h4,h7,(gF h2).2.1,(gF h2).2.2,h2,by unfold NN;rw[h3,aY,h,aY]⟩
def Ji:AV->List Ob->Prop:=fun r o=>o=[]/\∃(l:List Hl) (b:Bool),l.length<=1000/\r=.cx [.sl (lB l),.v (.bool b)]
theorem Ji.ne:∃r o,Ji r o:=⟨_,_,rfl,[],false,by simp,rfl⟩
theorem MH(s x v:Nm):az Tryz.prog 53 [.v (.string (mk s)),.v (.string (mk x)),.v (.string (mk v))] [] Ji:=by
 refine Li _ _ _ ?_
 unfold JX
 have no:Ji (.cx [.sl [],.v (.bool false)]) []:=⟨rfl,[],false,by simp,rfl⟩
 refine aM (Cv s) (mo.ne _ _ (fun h=>h)) ?_
 rintro r o ⟨c0,d0,hd,rfl,hh⟩
 have hhas:bT [.str,.sl] [.v (.string (mk c0)),d0] 0:=by simp[bT,dC,hd]
 simp only[↓zq,zs,af,zt]
 refine⟨hhas,?_⟩
 refine aM (IR v) (mo.ne _ _ (fun h=>by simpa using h)) ?_
 rintro r o ⟨c1,d1,hd1,rfl,hh1⟩
 have hhas1:bT [.str,.sl] [.v (.string (mk c1)),d1] 0:=by simp[bT,dC,hd1]
 simp only[↓zq,zs,af,zt]
 refine⟨hhas1,aj (NM s v 100) ?_⟩
 simp only[↓zq,zs,af]
 refine⟨fun _=>no,fun h=>?_⟩
 obtain⟨w,q⟩:=bi.1 h
 obtain⟨e,t,h1,h2,hA,hv,hb,hn,hwv,_⟩:=Ec (x:=x) q
 refine aj (AO x) ?_
 simp only[↓zq,zs,af]
 refine⟨fun _=>no,fun hp=>?_⟩
 obtain⟨e1,he1,hce1⟩:=hh (by rw[h2];rfl)
 rw[h2]at he1;cases he1
 obtain⟨e2,he2,hce2⟩:=hh1 (by rw[hwv];rfl)
 rw[hwv]at he2;cases he2
 rw[dU]at hce1 hce2
 rw[hce1,hce2]
 have hH:=Dm 100 w.nodes w (ap _) e [] t hA hv (by simp;omega) x (.inl hp)
 have htg:ny x (names [])=.nm x:=rfl
 rw[htg]at hH
 unfold KP at hH
 refine aj hH ?_
 obtain⟨g1,g2⟩:=we (t:=t) (tg:=.nm x) hb (by omega)
 simp only[↓zq,zs,af,zt]
 refine aj (Lq _ g1 (fun h hm=>(g2 h hm).1) (fun h hm=>(g2 h hm).2)) ?_
 simp only[↓zq,zs,af]
 exact⟨rfl,_,true,g1,rfl⟩
def Lx:AV->List Ob->Prop:=fun r o=>o=[]/\∃s x c e:Nm,r=.cx [.v (.string (mk s)),.v (.string (mk x)),.v (.string (mk c)),.v (.string (mk e))]
theorem LD(a:AV)(ha:ux a):az Tryz.prog 18 [a] [] Lx:=by
 refine MA _ ha.1 ?_
 unfold Hd
 have hfar:qb=1000000000000000:=rfl
 refine aM (Mm a ha) KK.ne ?_
 rintro r o ⟨b,l,hb,rfl,rfl⟩
 simp only[↓zq,zs,af,zt,hb.has]
 refine⟨by simp[bT,hb.has,kZ],aM (Mp b l hb 0 (by omega)) (eH.ne ⟨[],[],rfl⟩) ?_⟩
 rintro r o ⟨q,a1,a2,⟨s,t,rfl⟩,rfl⟩
 simp only[↓zq,zs,af,zt,aN,hb.has]
 have hname:az Tryz.prog 52 [.ref 0 0] [.cells [b,.v (.int .i64 (q:Int))]] (eH b q 1 (fZ 2)):=by
  refine MW _ _ hb.has ?_
  unfold If
  refine aM (zD b l hb q (by omega) _ _ (.of [_,_,_,_,_,_]) (by simp) (by simp)) (eH.ne ⟨_,ah,rfl⟩) ?_
  rintro r o ⟨q1,g1,g2,hr,rfl⟩
  obtain⟨z,rfl,hz⟩:=jB.ei (n:=2) (by decide) hr
  simp only[↓zq,zs,af,aN,hb.has]
  exact⟨q1,g1,g2,⟨z,rfl,hz⟩,rfl⟩
 refine aM hname (eH.ne ⟨[],rfl,by simp⟩) ?_
 rintro r o ⟨q1,b1,b2,⟨x,rfl,_⟩,rfl⟩
 simp only[↓zq,zs,af,zt,aN,hb.has]
 refine aM (MH s x t) Ji.ne ?_
 rintro r o ⟨rfl,hl,ok,hll,rfl⟩
 simp only[↓zq,zs,af,zt,aN,hb.has]
 refine aM (vq b l hb q1 5 (by omega) (by decide)) (eH.ne ⟨0,rfl,fun h=>by omega,by omega⟩) ?_
 rintro r o ⟨q2,c1,c2,⟨k0,rfl,hk0,_⟩,rfl⟩
 have hk0:=hk0 (by omega)
 simp only[↓zq,zs,af,zt,aN,hb.has]
 refine aj (wt (k0+1) k0 (by omega) (by omega)) ?_
 have hd:dd k0=[aX (48+k0)]:=eC (by omega)
 simp only[↓zq,zs,af,zt,hd,ng]
 refine⟨by simp,?_⟩
 have last:∀(q3:Nat),q3<=100000000000->az Tryz.prog 55 [.ref 0 0,.sl (cb [[101]++[aX (48+k0)],[117],[]])] [.cells [b,.v (.int .i64 (q3:Int))]] (eH b q3 1 (jB [[101]++[aX (48+k0)],[117],[]])):=fun q3 h3=>zD b l hb q3 (by omega) _ _ (.of _) (by simp) (by simp)
 refine⟨fun _=>⟨fun hpos=>?_,fun _=>?_⟩,fun _=>?_⟩
 ·refine aM (vq b l hb q2 8 (by omega) (by decide)) (eH.ne ⟨0,rfl,fun h=>by omega,by omega⟩) ?_
  rintro r o ⟨q3,d1,d2,⟨k,rfl,_,_⟩,rfl⟩
  simp only[↓zq,zs,af,zt,aN,hb.has]
  refine⟨fun _=>?_,fun _=>?_⟩
  ·obtain⟨n,hn1,hn2,hn3⟩:∃n:Nat,(if(hl.length:Int)<100 then(hl.length:Int)else 100)=(n:Int)/\1<=n/\n<=hl.length:=by
    split
    ·exact⟨hl.length,rfl,by omega,ap _⟩
    ·exact⟨100,rfl,by omega,by omega⟩
   rw[hn1]
   refine aM (vq b l hb q3 n (by omega) (by omega)) (eH.ne ⟨0,rfl,fun h=>by omega,by omega⟩) ?_
   rintro r o ⟨q4,e1,e2,⟨k2,rfl,hk,_⟩,rfl⟩
   have hk:=hk hn2
   have hlt:k2<hl.length:=by omega
   simp only[↓zq,zs,af,zt,aN,hb.has,ng,cc,vr hlt]
   repeat refine⟨by omega,?_⟩
   exact⟨rfl,s,x,_,_,rfl⟩
  ·refine aM (last q3 (by omega)) (eH.ne ⟨_,ah,rfl⟩) ?_
   rintro r o ⟨q9,_,_,⟨e9,_,rfl⟩,rfl⟩
   simp only[↓zq,zs,af,zt,aN,hb.has]
   exact⟨rfl,s,x,t,e9,rfl⟩
 ·refine aM (last q2 (by omega)) (eH.ne ⟨_,ah,rfl⟩) ?_
  rintro r o ⟨q9,_,_,⟨e9,_,rfl⟩,rfl⟩
  simp only[↓zq,zs,af,zt,aN,hb.has]
  exact⟨rfl,s,x,t,e9,rfl⟩
 ·refine aM (last q2 (by omega)) (eH.ne ⟨_,ah,rfl⟩) ?_
  rintro r o ⟨q9,_,_,⟨e9,_,rfl⟩,rfl⟩
  simp only[↓zq,zs,af,zt,aN,hb.has]
  exact⟨rfl,s,x,t,e9,rfl⟩
end Go.Proofs.Trees
namespace Go.Proofs.Trees
open Go Go.VL Go.RowKit
theorem Ch(t:Ty)(c v w:Vl)(h:v.nodes=w.nodes):(cG t c v).nodes=(cG t c w).nodes:=by
 have key:∀(n:Nat) (c:Vl),c.nodes<=n->∀(t:Ty) (v w:Vl),v.nodes=w.nodes->(cG t c v).nodes=(cG t c w).nodes:=by
  intro n
  induction n with
  |zero=>intro c hc;have:=dc c;omega
  |
   succ n ih =>
   intro c hc t v w h
   cases t with
   |
    plus a b =>
    cases c with
    |l c=>simp only[Vl.nodes]at hc;simp only[cG,Vl.nodes,ih c (by omega) a v w h]
    |r c=>simp only[Vl.nodes]at hc;simp only[cG,Vl.nodes,ih c (by omega) b v w h]
    |_=>exact h
   |
    times a b =>
    cases c with
    |
     l c =>
     cases c with
     |p x y=>simp only[Vl.nodes]at hc;simp only[cG,Vl.nodes,ih x (by omega) a v w h]
     |_=>exact h
    |
     r c =>
     cases c with
     |p x y=>simp only[Vl.nodes]at hc;simp only[cG,Vl.nodes,ih y (by omega) b v w h]
     |_=>exact h
    |_=>exact h
   |
    rc a =>
    cases c with
    |
     f c =>
     cases c with
     |l x=>simp only[Vl.nodes]at hc;simp only[cG,Vl.nodes,ih x (by omega) a v w h]
     |
      r c =>
      cases c with
      |
       p x y =>
       simp only[Vl.nodes]at hc
       simp only[cG,Vl.nodes,ih x (by omega) a _ _ (ih y (by omega) (.rc a) v w h)]
      |_=>exact h
     |_=>exact h
    |_=>exact h
   |zero=>rw[oT,oT];exact h
   |one=>rw[qK,qK];exact h
   |name s=>rw[jz,jz];exact h
   |bA u=>rw[nv,nv];exact h
 exact key c.nodes c (ap _) t v w h
theorem C0(s:Nm):az Tryz.prog 17 [.v (.string (mk s))] [] (bG (.v (.int .i64 (match pE s with|some v=>(v.nodes:Int)|none=>-1)))):=by
 refine Ny _ ?_
 unfold HR
 refine aj (FL s) ?_
 simp only[↓zq,zs,af,zt,fy]
 cases q:pE s with
 |none=>simp[ij,↓zq,zs,af,bG]
 |
  some v =>
  have hn:=(gF q).2.2
  simp only[ij,↓zq,zs,af,eM]
  refine⟨fun h=>(by cases h),fun _=>aj (DF v (by omega)) ?_⟩
  simp only[↓zq,zs,af]
  exact⟨rfl,rfl⟩
theorem Nu(a:AV)(ha:ux a):az Tryz.prog 13 [a] [] (fun r o=>o=[]/\∃s x c:Nm,r=.cx [.v (.string (mk s)),.v (.string (mk x)),.v (.string (mk c))]):=by
 refine MI _ ha.1 ?_
 unfold Hk
 refine aM (LD a ha) ⟨_,_,rfl,[],[],[],[],rfl⟩ ?_
 rintro r o ⟨rfl,s,x,c,e,rfl⟩
 simp only[↓zq,zs,af,zt]
 first|exact⟨rfl,s,x,c,rfl⟩|exact⟨s,x,c,rfl⟩|exact⟨trivial,s,x,c,rfl⟩
theorem Np(a:AV)(ha:ux a):az Tryz.prog 4 [a] [] (bG (.v (.bool true))):=by
 refine Nh _ ha.1 ?_
 simp only[JR,↓zq,zs,af,zt,bG]
 refine⟨ha.1,fun _=>trivial,fun _=>?_⟩
 refine aM (Nu a ha) ⟨_,_,rfl,[],[],[],rfl⟩ ?_
 rintro r o ⟨rfl,s,x,c,rfl⟩
 simp only[↓zq,zs,af,zt]
 refine aj (Lg s x c) ?_
 simp only[↓zq,zs,af]
 refine aj (Lu s x c) ?_
 simp only[↓zq,zs,af]
 refine⟨fun h=>absurd rfl h,fun _=>⟨fun h=>by simp,fun h=>?_⟩⟩
 obtain⟨tw,q⟩:=bi.1 h
 obtain⟨t,w⟩:=tw
 have X:=sC q
 have m0:Gq s x c [101,48]=A8 t w 0:=by
  unfold Gq;rw[q,show en [101,48]=some 0 from by decide];rfl
 have m1:Gq s x c [101,57,57]=A8 t w 99:=by
  unfold Gq;rw[q,show en [101,57,57]=some 99 from by decide];rfl
 have hnd:=Ch t w (.el 0) (.el 99) rfl
 obtain⟨b0,_⟩:=tf t w (k:=0) X.iu (by omega) X.nd
 obtain⟨b1,_⟩:=tf t w (k:=99) X.iu (by omega) X.nd
 have PI0:=GD s x c [101,48]
 have PI1:=GD s x c [101,57,57]
 rw[m0]at PI0
 rw[m1]at PI1
 unfold A8 at PI0 PI1
 rw[<-hnd]at PI1
 by_cases hn:(cG t w (.el 0)).nodes<=200
 ·rw[if_pos hn]at PI0 PI1
  refine aj PI0 ?_
  simp only[ku,↓zq,zs,af,zt]
  refine aj PI1 ?_
  simp only[ku,↓zq,zs,af,zt]
  refine⟨fun _=>aj (C0 _) ?_,fun h=>absurd rfl h⟩
  simp only[↓zq,zs,af]
  refine aj (C0 _) ?_
  rw[nO b0 hn,nO b1 (by omega)]
  simp[↓zq,zs,af,hnd]
 ·rw[if_neg hn]at PI0 PI1
  refine aj PI0 ?_
  simp only[ku,↓zq,zs,af,zt]
  refine aj PI1 ?_
  simp only[ku,↓zq,zs,af,zt]
  refine⟨fun _=>aj (C0 _) ?_,fun h=>absurd rfl h⟩
  simp only[↓zq,zs,af]
  refine aj (C0 _) ?_
  simp[↓zq,zs,af]
end Go.Proofs.Trees
