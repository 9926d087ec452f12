/-
  Part of a proof: Go functions read by values, trees of functions, their contracts.
-/
import Derived.Test.YtoakmmapeedenaaGreatDoorP5
set_option linter.unusedVariables false
set_option linter.unusedSimpArgs false
open And renaming intro→aG
open Bool renaming and_eq_true→au,eq_iff_iff→cL,or_eq_true→bn,true_and→bZ
open ByteArray renaming toList→ae
open Int renaming tdiv→eE,tmod→dr,toNat_natCast→cj
open List renaming all_cons→cO,all_eq_true→bH,append_assoc→bq,cons_append→bC,drop_eq_getElem_cons→aP,drop_eq_nil_of_le→bx,drop_zero→bz,getD_eq_getElem?_getD→aa,getElem?_drop→cm,getElem?_eq_getElem→aV,getElem?_eq_some_iff→cq,getElem_mem→bY,headD_cons→aM,length→dX,length_append→ak,length_cons→aw,length_drop→bI,length_map→cg,length_nil→aE,map_append→bV,map_cons→a6,mem_append→aH,mem_append_left→aA,mem_cons→aI,mem_cons_of_mem→ai,mem_cons_self→ag,mem_flatMap→cu,mem_map→bD,mem_singleton→aQ,nil_append→bg,sum_cons→cw,tail_cons→a8
open Nat renaming add_zero→bM,beq→aF,eq_of_beq_eq_true→aC,le_add_right→da,le_refl→aq,mod_lt→dR,mul_le_mul_right→aS,zero_add→aR,zero_le→cG
open Option renaming bind_eq_some_iff→cn,isSome_iff_exists→a7,map_some→cy
open UInt8 renaming ofNat→bb
namespace Go.Proofs.Trees
open Go Go.VL Go.RowKit
theorem vP(n:Nat):∀(m:Nat) (c:Vl),c.nodes<=m->∀(t:Ty) (s:Nm) (d:Ty) (σ:Nm->Option Ty),Dv t s d->Dx σ->fh t 0->vT n c (eN σ d)=true->dq t c=true
 |0,c,h=>by have:=ba c;omega
 |
  m+1,c,hm=>by
  intro t s d σ hd hσ hl hv
  cases hd with
  |zero=>cases c<;>rfl
  |one=>cases c<;>rfl
  |bound=>cases c<;>rfl
  |hit=>cases c<;>rfl
  |sf=>cases c<;>rfl
  |
   plus h1 h2 _ =>
   rcases lb hv with⟨w,rfl,hw⟩|⟨w,rfl,hw⟩
   ·simp only[Vl.nodes]at hm;exact vP n m w (by omega) _ s _ σ h1 hσ hl.1 hw
   ·simp only[Vl.nodes]at hm;exact vP n m w (by omega) _ s _ σ h2 hσ hl.2 hw
  |
   times h1 h2 _ =>
   rcases lb hv with⟨w,rfl,hw⟩|⟨w,rfl,hw⟩
   ·obtain⟨x,y,rfl,hx,hy⟩:=jy hw
    simp only[Vl.nodes]at hm;exact vP n m x (by omega) _ s _ σ h1 hσ hl.1 hx
   ·obtain⟨x,y,rfl,hx,hy⟩:=jy hw
    simp only[Vl.nodes]at hm;exact vP n m y (by omega) _ s _ σ h2 hσ hl.2 hy
  |
   @rc a _ c0 d0 x hx hs h1 h2 hsz =>
   have lo:fh (eB (.name x) a 0) 0:=iK x a hl
   obtain⟨X,e1,e2⟩:=rk (x:=x) hσ hl (h1.lc lo) (h2.lc lo)
   have hv':=hv
   rw[e1]at hv'
   obtain⟨w,rfl,hw⟩:=DD hv'
   rw[e2]at hw
   have hcl:=oR hσ x (kg hσ (.rc a) hl)
   rcases lb hw with⟨y,rfl,hy⟩|⟨y,rfl,hy⟩
   ·simp only[Vl.nodes]at hm
    have:=vP n m y (by omega) _ s _ _ h1 hcl lo hy
    rw[iM x y.nodes y a 0 (aq _)]at this
    exact this
   ·obtain⟨y,z,rfl,hy,hz⟩:=jy hy
    simp only[Vl.nodes]at hm
    have q1:=vP n m y (by omega) _ x _ _ h2 hcl lo hy
    rw[iM x y.nodes y a 0 (aq _)]at q1
    have q2:=vP n m z (by omega) (.rc a) s _ σ (.rc x hx hs h1 h2 hsz) hσ hl hz
    show (dq a y&&dq (.rc a) z)=true
    rw[q1,q2];rfl
theorem pO(n:Nat):∀(m:Nat) (c:Vl),c.nodes<=m->∀(t:Ty) (s:Nm) (d:Ty) (σ:Nm->Option Ty),Dv t s d->Dx σ->fh t 0->vT n c (eN σ d)=true->∀v,vT n v (eN σ (.name s))=true->vT n (ct t c v) (eN σ t)=true
 |0,c,h=>by have:=ba c;omega
 |
  m+1,c,hm=>by
  intro t s d σ hd hσ hl hv v hvv
  have no:∀c,vT n c .zero=false:=fun c=>by cases c<;>rfl
  cases hd with
  |zero=>rw[show eN σ .zero=.zero from rfl,no]at hv;cases hv
  |one=>rw[show eN σ .zero=.zero from rfl,no]at hv;cases hv
  |bound=>rw[show eN σ .zero=.zero from rfl,no]at hv;cases hv
  |sf=>rw[show eN σ .zero=.zero from rfl,no]at hv;cases hv
  |hit=>rw[mO];exact hvv
  |
   plus h1 h2 _ =>
   rcases lb hv with⟨w,rfl,hw⟩|⟨w,rfl,hw⟩
   ·simp only[Vl.nodes]at hm;exact pO n m w (by omega) _ s _ σ h1 hσ hl.1 hw v hvv
   ·simp only[Vl.nodes]at hm;exact pO n m w (by omega) _ s _ σ h2 hσ hl.2 hw v hvv
  |
   times h1 h2 _ =>
   rcases lb hv with⟨w,rfl,hw⟩|⟨w,rfl,hw⟩
   ·obtain⟨x,y,rfl,hx,hy⟩:=jy hw
    simp only[Vl.nodes]at hm
    have:=pO n m x (by omega) _ s _ σ h1 hσ hl.1 hx v hvv
    show (vT n _ _&&vT n _ _)=true
    rw[this,hy];rfl
   ·obtain⟨x,y,rfl,hx,hy⟩:=jy hw
    simp only[Vl.nodes]at hm
    have:=pO n m y (by omega) _ s _ σ h2 hσ hl.2 hy v hvv
    show (vT n _ _&&vT n _ _)=true
    rw[this,hx];rfl
  |
   @rc a _ c0 d0 x hx hs h1 h2 hsz =>
   have lo:fh (eB (.name x) a 0) 0:=iK x a hl
   obtain⟨X,e1,e2⟩:=rk (x:=x) hσ hl (h1.lc lo) (h2.lc lo)
   have hv':=hv
   rw[e1]at hv'
   obtain⟨w,rfl,hw⟩:=DD hv'
   rw[e2]at hw
   have hcl:=oR hσ x (kg hσ (.rc a) hl)
   have hop:eN (i5 σ x (eN σ (.rc a))) (eB (.name x) a 0)=eB (eN σ (.rc a)) (eN σ a) 0:=ji hσ x _ a 0 hx
   have hns:eN (i5 σ x (eN σ (.rc a))) (.name s)=eN σ (.name s):=by simp only[eN,i5,if_neg (Ne.symm hs)]
   have hnx:eN (i5 σ x (eN σ (.rc a))) (.name x)=eN σ (.rc a):=by simp[eN,i5]
   rcases lb hw with⟨y,rfl,hy⟩|⟨y,rfl,hy⟩
   ·simp only[Vl.nodes]at hm
    have:=pO n m y (by omega) _ s _ _ h1 hcl lo hy v (by rw[hns];exact hvv)
    rw[hop,eS x y.nodes y a 0 v (aq _)]at this
    exact this
   ·obtain⟨y,z,rfl,hy,hz⟩:=jy hy
    simp only[Vl.nodes]at hm
    have q2:=pO n m z (by omega) (.rc a) s _ σ (.rc x hx hs h1 h2 hsz) hσ hl hz v hvv
    have q1:=pO n m y (by omega) _ x _ _ h2 hcl lo hy (ct (.rc a) z v) (by rw[hnx];exact q2)
    rw[hop,eS x y.nodes y a 0 _ (aq _)]at q1
    exact q1
def Et:Nm->Option Ty:=fun _=>none
theorem ue:Dx Et:=fun _ _ h=>by cases h
theorem jJ:∀t:Ty,eN Et t=t
 | .name s=>rfl
 | .plus a b=>by simp only[eN,jJ a,jJ b]
 | .times a b=>by simp only[eN,jJ a,jJ b]
 | .rc a=>by simp only[eN,jJ a]
 | .zero=>rfl
 | .one=>rfl
 | .bound k=>rfl
theorem Hb{n:Nat}{a D:Ty}{x:Nm}(hx:bA x a=false)(hl:fh (.rc a) 0)(h:B4 a x=some D){c:Vl}(hc:vT n c D=true) :
 dq a c=true/\∀v,vT n v (.rc a)=true->vT n (.f (ct a c v)) (.rc a)=true:=by
 simp only[B4,cn,qj,ou]at h
 obtain⟨d,hd,_,rfl⟩:=h
 have lo:fh (eB (.name x) a 0) 0:=iK x a hl
 have hcl:=oR ue x hl
 have e1:sub x (.rc a) d=eN (i5 Et x (.rc a)) d:=by
  have:=iT Et x (.rc a) d
  rw[jJ,jJ]at this;exact this
 rw[e1]at hc
 have h1:=vP n c.nodes c (aq _) _ x _ _ hd hcl lo hc
 rw[iM x c.nodes c a 0 (aq _)]at h1
 refine⟨h1,fun v hv=>?_⟩
 have h2:=pO n c.nodes c (aq _) _ x _ _ hd hcl lo hc v (by simpa[eN,i5]using hv)
 rw[eS x c.nodes c a 0 v (aq _),ji ue x _ a 0 hx,jJ]at h2
 exact h2
end Go.Proofs.Trees
namespace Go.Proofs.Trees
open Go Go.VL Go.RowKit
def G8(x:Nm)(i:Nat)(tg tg':Tg):Prop:=(tg=.bd i/\tg'=.nm x)\/(∃s,s≠x/\tg=.nm s/\tg'=.nm s)\/∃j,j<i/\tg=.bd j/\tg'=.bd j
theorem G8.up{x:Nm}{i:Nat}{tg tg':Tg}(h:G8 x i tg tg'):G8 x (i+1) tg.up tg'.up:=by
 rcases h with⟨rfl,rfl⟩|⟨s,h,rfl,rfl⟩|⟨j,h,rfl,rfl⟩
 ·exact .inl ⟨rfl,rfl⟩
 ·exact .inr (.inl ⟨s,h,rfl,rfl⟩)
 ·exact .inr (.inr ⟨j+1,by omega,rfl,rfl⟩)
end Go.Proofs.Trees
namespace Go.Proofs.Trees
open Go Go.VL Go.RowKit
def Ov(g:Vl->Vl×Nat):Vl->Vl×Nat
 | .f w=>(.f (g w).1,(g w).2)
 | .u=>(.u,0)
 | .el k=>(.el k,0)
 | .l v=>(.l v,0)
 | .r v=>(.r v,0)
 | .p a b=>(.p a b,0)
def gb(a:Ty)(fr:List UInt8)(to:Vl):Nat->Vl->Vl×Nat
 |0,v=>(v,0)
 |n+1,v=>if v.dw=fr then(to,1)else Ov (mm (gb a fr to n) [] a) v
theorem kY{a:Ty}{fr:List UInt8}{to v:Vl}(n:Nat)(h:v.dw=fr):gb a fr to (n+1) v=(to,1):=by rw[gb,if_pos h]
theorem oi{a:Ty}{fr:List UInt8}{to w:Vl}(n:Nat)(h:¬(Vl.f w).dw=fr):gb a fr to (n+1) (.f w)=(.f (mm (gb a fr to n) [] a w).1,(mm (gb a fr to n) [] a w).2):=by rw[gb,if_neg h];rfl
theorem qp(R:Vl->Vl×Nat)(a:Ty)(w:Vl):Sk a w (mm R [] a w).1/\cS a 0 (mm R [] a w).1=(cS a 0 w).map fun e=>(R e).1:=by
 obtain⟨h1,h2⟩:=qY R (2*w.nodes+1) [] a w (by have:=cA a;omega)
 refine⟨h1,?_⟩
 rw[h2 0]
 exact List.map_congr_left fun e _=>by rw[gM,show (Ty.bound 0)=.bound ([]:List Ty).length from rfl,po]
theorem qc(R:Vl->Vl×Nat)(a:Ty)(w:Vl)(hl:fh a 1):(mm R [] a w).2=((cS a 0 w).map fun e=>(R e).2).sum:=by
 rw[nt R (2*w.nodes+1) [] a w (by have:=cA a;omega) hl]
 show 0+pw R [] a w 0=_
 rw[aR,pw]
 congr 1
theorem Sk.Gc{a:Ty}{w w':Vl}(hl:fh a 1)(h:Sk a w w')(he:cS a 0 w=cS a 0 w'):w=w' :=
 h.OT fun u=>by
  cases u with
  |zero=>exact he
  |succ u=>rw[kk w.nodes w (aq _) a 1 (u+1) hl (by omega),kk w'.nodes w' (aq _) a 1 (u+1) hl (by omega)]
theorem wP(n:Nat){a:Ty}(hl:fh a 1)(w:Vl):vT n (.f w) (.rc a)=vT n w (cls [.rc a] a 0):=by
 have:=xZ (us:=[]) (fun u h=>by cases h) n a w
 rw[nG [] (.rc a) (i:=0) hl]at this
 exact this
theorem wD{a:Ty}(hl:fh a 1):∀u,u∈[Ty.rc a]->fh u 0:=fun u h=>by simp only[aQ]at h;subst h;exact hl
theorem qx{n:Nat}{a:Ty}(hl:fh a 1){w:Vl}(hv:vT n (.f w) (.rc a)=true){e:Vl}(he:e∈cS a 0 w):vT n e (.rc a)=true:=by
 rw[wP n hl]at hv
 have:=kT n w.nodes w (aq _) a _ (wD hl) hv 0 e he
 simpa using this
theorem Bb{n:Nat}{a:Ty}(hl:fh a 1){w w':Vl}(hv:vT n (.f w) (.rc a)=true)(h:Sk a w w')(he:∀e,e∈cS a 0 w'->vT n e (.rc a)=true):vT n (.f w') (.rc a)=true:=by
 rw[wP n hl]at hv |-
 refine h.ty n _ (wD hl) hv fun u e hm=>?_
 cases u with
 |zero=>simpa using he e hm
 |succ u=>rw[kk w'.nodes w' (aq _) a 1 (u+1) hl (by omega)]at hm;cases hm
theorem Bt{n:Nat}{a:Ty}(hl:fh a 1){w w':Vl}(hv:w.dW n)(h:Sk a w w')(he:∀e,e∈cS a 0 w'->e.dW n):w'.dW n :=
 h.dW n hv fun u e hm=>by
  cases u with
  |zero=>exact he e hm
  |succ u=>rw[kk w'.nodes w' (aq _) a 1 (u+1) hl (by omega)]at hm;cases hm
theorem qA{a:Ty}(hl:fh a 1)(fr:List UInt8)(to:Vl)(ht:vT 100 to (.rc a)=true)(hb:to.dW 100)(hn:to.nodes<=200):∀(n:Nat) (v:Vl),vT 100 v (.rc a)=true->v.dW 100->vT 100 (gb a fr to n v).1 (.rc a)=true/\(gb a fr to n v).1.dW 100/\(gb a fr to n v).1.nodes<=200*v.nodes
 |0,v,hv,hvb=>⟨hv,hvb,by have:=ba v;simp only[gb];omega⟩
 |
  n+1,v,hv,hvb=>by
  have hp:=ba v
  by_cases h:v.dw=fr
  ·rw[kY n h];exact⟨ht,hb,by simp only;omega⟩
  ·cases v with
   |
    f w =>
    rw[oi n h]
    obtain⟨k1,k2⟩:=qp (gb a fr to n) a w
    have ok:∀e,e∈cS a 0 w->_:=fun e he=>qA hl fr to ht hb hn n e (qx hl hv he) (mP (show w.dW 100 from hvb) he)
    refine⟨Bb hl hv k1 fun e he=>?_,show (mm (gb a fr to n) [] a w).1.dW 100 from Bt hl (show w.dW 100 from hvb) k1 fun e he=>?_,?_⟩
    ·rw[k2]at he
     obtain⟨x,hx,rfl⟩:=bD.1 he
     exact(ok x hx).1
    ·rw[k2]at he
     obtain⟨x,hx,rfl⟩:=bD.1 he
     exact(ok x hx).2.1
    ·have:(mm (gb a fr to n) [] a w).1.nodes<=200*w.nodes:=mg (by omega) (2*w.nodes+1) [] a w (by have:=cA a;omega) fun e _=>rpl_nds n e
     simp only[Vl.nodes];omega
   |_=>simp[vT]at hv
where rpl_nds:∀(n:Nat) (v:Vl),(gb a fr to n v).1.nodes<=200*v.nodes
 |0,v=>by have:=ba v;simp only[gb];omega
 |
  n+1,v=>by
  have hp:=ba v
  by_cases h:v.dw=fr
  ·rw[kY n h];simp only;omega
  ·cases v with
   |
    f w =>
    rw[oi n h]
    have:(mm (gb a fr to n) [] a w).1.nodes<=200*w.nodes:=mg (by omega) (2*w.nodes+1) [] a w (by have:=cA a;omega) fun e _=>rpl_nds n e
    simp only[Vl.nodes];omega
   |_=>rw[gb,if_neg h];simp only[Ov,Vl.nodes];omega
theorem map_id{f:Vl->Vl}:∀{l:List Vl},(∀e,e∈l->f e=e)->l.map f=l
 |[],_=>rfl
 |x::l,h=>by rw[a6,h x ag,map_id fun e he=>h e (ai _ he)]
theorem vM{a:Ty}(hl:fh a 1)(to:Vl)(hb:to.dW 100):∀(n:Nat) (v:Vl),v.dW 100->(gb a to.dw to n v).1=v
 |0,v,_=>rfl
 |
  n+1,v,hv=>by
  by_cases h:v.dw=to.dw
  ·rw[kY n h];exact(tD hv hb h).symm
  ·cases v with
   |
    f w =>
    rw[oi n h]
    obtain⟨k1,k2⟩:=qp (gb a to.dw to n) a w
    rw[map_id fun e he=>vM hl to hb n e (mP (show w.dW 100 from hv) he)]at k2
    simp only
    rw[<-Sk.Gc hl k1 k2.symm]
   |_=>rw[gb,if_neg h];rfl
theorem yt{a:Ty}(hl:fh a 1)(fr:List UInt8)(to to':Vl):∀(n:Nat) (v:Vl),(gb a fr to n v).2=(gb a fr to' n v).2
 |0,v=>rfl
 |
  n+1,v=>by
  by_cases h:v.dw=fr
  ·rw[kY n h,kY n h]
  ·cases v with
   |
    f w =>
    rw[oi n h,oi n h]
    simp only
    rw[qc _ a w hl,qc _ a w hl]
    congr 1
    exact List.map_congr_left fun e _=>yt hl fr to to' n e
   |_=>rw[gb,gb,if_neg h,if_neg h];rfl
theorem vo:∀{l:List Vl} {g:Vl->Nat},(l.map g).sum=0->∀e,e∈l->g e=0
 |
  x::l,g,h,e,he=>by
  simp only[a6,cw]at h
  rcases aI.1 he with rfl|he
  ·omega
  ·exact vo (by omega) e he
theorem u6{a:Ty}(hl:fh a 1)(fr:List UInt8)(to:Vl):∀(n:Nat) (v:Vl),(gb a fr to n v).2=0->(gb a fr to n v).1=v
 |0,v,_=>rfl
 |
  n+1,v,h0=>by
  by_cases h:v.dw=fr
  ·rw[kY n h]at h0;cases h0
  ·cases v with
   |
    f w =>
    rw[oi n h]at h0 |-
    simp only at h0 |-
    rw[qc _ a w hl]at h0
    obtain⟨k1,k2⟩:=qp (gb a fr to n) a w
    rw[map_id fun e he=>u6 hl fr to n e (vo h0 e he)]at k2
    rw[<-Sk.Gc hl k1 k2.symm]
   |_=>rw[gb,if_neg h];rfl
theorem qM(a:Ty)(w:Vl):fG (kids a (.f w))=cS a 0 w:=rfl
theorem zm{a:Ty}{R:Vl->Vl×Nat}{w wk:Vl}{k:Nat}(hk:k<(cS a 0 w).length)(hs:Sk a w wk)(he:cS a 0 wk=((cS a 0 w).take k).map (fun e=>(R e).1)++(cS a 0 w).drop k) :
 ∃c,(kids a (.f wk))[k]?=some (c,(cS a 0 w)[k])/\(c,(cS a 0 w)[k])∈kids a (.f wk)/\Sk a w (ct a c (R (cS a 0 w)[k]).1)/\cS a 0 (ct a c (R (cS a 0 w)[k]).1)=((cS a 0 w).take (k+1)).map (fun e=>(R e).1)++(cS a 0 w).drop (k+1) /\
  (ct a c (R (cS a 0 w)[k]).1).nodes+(cS a 0 w)[k].nodes=wk.nodes+(R (cS a 0 w)[k]).1.nodes:=by
 have hlen:=hs.len 0
 have hkl:k<(kids a (.f wk)).length:=by
  have:(fG (kids a (.f wk))).length=(cS a 0 wk).length:=by rw[qM]
  rw[cg]at this;omega
 have hget:(cS a 0 wk)[k]?=some (cS a 0 w)[k]:=by
  rw[he,List.getElem?_append_right (by simp;omega)]
  simp only[cg,List.length_take]
  rw[show k-min k (cS a 0 w).length=0 by omega,cm,bM,aV hk]
 obtain⟨q,hq⟩:∃q,(kids a (.f wk))[k]?=some q:=⟨_,aV hkl⟩
 have hq2:q.2=(cS a 0 w)[k]:=by
  have:(fG (kids a (.f wk)))[k]?=some q.2:=by rw[List.getElem?_map,hq];rfl
  rw[qM,hget]at this
  exact(Option.some.inj this).symm
 obtain⟨c,e⟩:=q
 simp only at hq2
 subst hq2
 have hm:=List.mem_of_getElem? hq
 have hk2:(bF a (.bd 0) wk)[k]?=some (c,(cS a 0 w)[k]):=hq
 refine⟨c,hq,hm,hs.trans (Sk.ct wk.nodes wk (aq _) a 0 c _ hm _),?_,i6 wk.nodes wk (aq _) a 0 c _ hm _⟩
 obtain⟨hlt,hee⟩:=cq.1 hk2
 have hsp:bF a (.bd 0) wk=(bF a (.bd 0) wk).take k++(c,(cS a 0 w)[k])::(bF a (.bd 0) wk).drop (k+1):=by
  have:=List.take_append_drop k (bF a (.bd 0) wk)
  rw[aP hlt,hee]at this
  exact this.symm
 obtain⟨⟨A',B',d1,d2,d3⟩,_⟩:=fY wk.nodes wk (aq _) a (.bd 0) _ _ c _ hsp (R (cS a 0 w)[k]).1
 have ew:cS a 0 (ct a c (R (cS a 0 w)[k]).1)=fG A'++(R (cS a 0 w)[k]).1::fG B':=by rw[cS,d1,cC];rfl
 have t1:fG ((bF a (.bd 0) wk).take k)=(cS a 0 wk).take k:=by rw[cS];exact List.map_take
 have t2:fG ((bF a (.bd 0) wk).drop (k+1))=(cS a 0 wk).drop (k+1):=by rw[cS];exact List.map_drop
 rw[ew,d2,d3,t1,t2,he]
 have hml:(((cS a 0 w).take k).map fun e=>(R e).1).length=k:=by simp;omega
 rw[List.take_append_of_le_length (by omega),List.take_of_length_le (by omega),List.drop_append,bx (by omega),bg,hml,List.drop_drop,List.take_succ_eq_append_getElem hk,bV,bq,show k+(k+1-k)=k+1 by omega]
 rfl
end Go.Proofs.Trees
namespace Go.Proofs.Trees
open Go Go.VL Go.RowKit
inductive lU(m0:Nat)(a:Ty):AV->List Nat->List Ty->Prop
 |top:lU m0 a (.ptr [.pid m0 [(Ty.rc a).av,jZ],jZ]) [m0] []
 |cons {m:Nat} {b:Ty} {e:AV} {ids:List Nat} {G:List Ty} (hm:m∉ids) (h:lU m0 a e ids G):lU m0 a (.ptr [.pid m [(Ty.rc b).av,e],e]) (m::ids) (b::G)
theorem lU.env{m0:Nat}{a:Ty}{e:AV}{ids:List Nat}{G:List Ty}(h:lU m0 a e ids G):qL e ids:=by
 induction h with
 |top=>exact .cons (by simp) .nil
 |cons hm h ih=>exact .cons hm ih
theorem lU.len{m0:Nat}{a:Ty}{e:AV}{ids:List Nat}{G:List Ty}(h:lU m0 a e ids G):ids.length=G.length+1:=by
 induction h with
 |top=>rfl
 |cons hm h ih=>simp[ih]
theorem lU.last{m0:Nat}{a:Ty}{e:AV}{ids:List Nat}{G:List Ty}(h:lU m0 a e ids G):ids.getD G.length 0=m0:=by
 induction h with
 |top=>rfl
 |cons hm h ih=>simpa using ih
theorem lU.at{m0:Nat}{a:Ty}{e:AV}{ids:List Nat}{G:List Ty}(h:lU m0 a e ids G):∀(u:Nat),u<G.length->∃b e',G[u]?=some b/\lU m0 a e' (ids.drop (u+1)) (G.drop (u+1)):=by
 induction h with
 |top=>intro u hu;simp at hu
 |
  @cons m b e ids G hm h ih =>
  intro u hu
  cases u with
  |zero=>exact⟨b,e,rfl,h⟩
  |
   succ u =>
   obtain⟨b',e',h1,h2⟩:=ih u (by simpa using hu)
   exact⟨b',e',by simpa using h1,by simpa using h2⟩
theorem IY(m0:Nat)(a:Ty)(u:Nat)(hu:u<1000000):∀(k i:Nat) (ea:AV) (ids:List Nat) (G:List Ty),i+k=u->lU m0 a ea ids G->k<=G.length->Co [ea,.v (.int .i64 (u:Int)),.v (.int .i64 (i:Int))] [] (fun t ys o=>t=1/\∃e',lU m0 a e' (ids.drop k) (G.drop k)/\ys=[e']/\o=[])
 |
  0,i,ea,ids,G,hi,he,hk=>by
  refine Du _ _ _ ?_
  have:i=u:=by omega
  subst this
  simp only[IV,↓zq,zs,ah]
  exact⟨he.env.has,fun h=>by omega,fun _=>⟨ea,he,rfl⟩⟩
 |
  k+1,i,ea,ids,G,hi,he,hk=>by
  refine Du _ _ _ ?_
  cases he with
  |top=>simp at hk
  |
   @cons m b e ids' G' hm h =>
   simp only[IV,↓zq,zs,ah,h.env.has]
   refine⟨fun _=>⟨by omega,?_⟩,fun h=>by omega⟩
   rw[bX i (by omega)]
   exact IY m0 a u hu k (i+1) e ids' G' (by omega) h (by simpa using hk)
def Cr(m0:Nat)(a:Ty)(ids:List Nat)(G:List Ty)(u:Nat):AV->List Ob->Prop:=fun r o=>o=[]/\((u=G.length/\r=.pid m0 [(Ty.rc a).av,jZ])\/∃b e',G[u]?=some b/\lU m0 a e' (ids.drop (u+1)) (G.drop (u+1))/\r=.pid (ids.getD u 0) [(Ty.rc b).av,e'])
theorem Cr.ne(m0:Nat)(a:Ty)(ids:List Nat)(G:List Ty)(u:Nat){e:AV}(h:lU m0 a e ids G)(hu:u<=G.length):∃r o,Cr m0 a ids G u r o:=by
 by_cases hq:u=G.length
 ·exact⟨_,_,rfl,.inl ⟨hq,rfl⟩⟩
 ·obtain⟨b,e',h1,h2⟩:=h.at u (by omega)
  exact⟨_,_,rfl,.inr ⟨b,e',h1,h2,rfl⟩⟩
theorem L5(m0:Nat)(a:Ty)(u:Nat)(ea:AV)(ids:List Nat)(G:List Ty)(he:lU m0 a ea ids G)(hu:u<=G.length)(hl:G.length<1000000):aB Tryz.prog 38 [.agg [(Ty.bound u).av,ea]] [] (Cr m0 a ids G u):=by
 refine La _ _ ((bm _).mpr trivial) he.env.has ?_
 simp only[Fb,Ty.av,↓zq,zs,ah,he.env.has]
 refine⟨by omega,n0 (IY m0 a u (by omega) u 0 ea ids G (by omega) he hu) ?_ (fun ys o h=>by cases h.1)⟩
 rintro ys o ⟨_,e',he',rfl,rfl⟩
 have hlen:=he.len
 generalize hI:ids.drop u=I at he'
 generalize hG:G.drop u=H at he'
 cases he' with
 |
  top =>
  have:u=G.length:=by
   have:=congrArg dX hG
   simp at this;omega
  have hp:LK.has .ptr (AV.pid m0 [(Ty.rc a).av,jZ]):=.inr (.inr ⟨_,_,rfl⟩)
  simp only[↓zq,zs,ah,hp]
  exact⟨by omega,rfl,.inl ⟨this,rfl⟩⟩
 |
  @cons m b e ids' G' hm h =>
  have hlt:u<G.length:=by
   have:=congrArg dX hG
   simp at this;omega
  have e1:ids.drop u=ids.getD u 0::ids.drop (u+1):=by
   rw[aP (by omega)];simp[aa,show u<ids.length by omega]
  have e2:G.drop u=G[u]::G.drop (u+1):=aP hlt
  rw[e1]at hI
  rw[e2]at hG
  cases hI;cases hG
  have hp:LK.has .ptr (AV.pid (ids.getD u 0) [(Ty.rc G[u]).av,e]):=.inr (.inr ⟨_,_,rfl⟩)
  simp only[↓zq,zs,ah,hp]
  exact⟨by omega,rfl,.inr ⟨G[u],e,aV hlt,h,rfl⟩⟩
def wj(a:Ty):List Ty->List Ty
 |[]=>[.rc a]
 |b::G=>cls (wj a G) (.rc b) 0::wj a G
theorem Bo{a:Ty}(hl:fh a 1):∀G:List Ty,∀u,u∈wj a G->fh u 0
 |[]=>wD hl
 |b::G=>nP (Bo hl G) b
theorem xl(a:Ty):∀G:List Ty,(wj a G).getD G.length .zero=.rc a
 |[]=>rfl
 |b::G=>by simpa[wj]using xl a G
theorem Bw(a:Ty):∀(G:List Ty) (u:Nat) (b:Ty),G[u]?=some b->(wj a G).getD u .zero=cls (wj a (G.drop (u+1))) (.rc b) 0
 |[],u,b,h=>by simp at h
 |c::G,0,b,h=>by simp at h;subst h;rfl
 |
  c::G,u+1,b,h=>by
  have:=Bw a G u b (by simpa using h)
  simpa[wj]using this
end Go.Proofs.Trees
namespace Go.Proofs.Trees
open Go Go.VL Go.RowKit
structure RI(a:Ty)(R:Vl->Vl×Nat)(w wk:Vl)(k:Nat):Prop where
 sk:Sk a w wk
 es:cS a 0 wk=((cS a 0 w).take k).map (fun e=>(R e).1)++(cS a 0 w).drop k
 nd:wk.nodes<=w.nodes+200*(((cS a 0 w).take k).map Vl.nodes).sum
theorem RI.zero(a:Ty)(R:Vl->Vl×Nat)(w:Vl):RI a R w w 0:=⟨.id _ _,by simp,by simp⟩
theorem vE(g:Vl->Nat)(l:List Vl){k:Nat}(hk:k<l.length):((l.take (k+1)).map g).sum=((l.take k).map g).sum+g l[k]:=by
 rw[List.take_succ_eq_append_getElem hk,bV,List.sum_append];simp
theorem qO(g:Vl->Nat)(l:List Vl)(k:Nat):((l.take k).map g).sum<=(l.map g).sum:=by
 have:(l.map g).sum=((l.take k).map g).sum+((l.drop k).map g).sum:=by rw[<-List.sum_append,<-bV,List.take_append_drop]
 omega
theorem vf:∀l:List Hl,ia l=((fG l).map Vl.nodes).sum
 |[]=>rfl
 |
  x::l=>by
  have:=vf l
  simp only[fG,a6,cw]at this |-
  rw[<-this];rfl
theorem uq(a:Ty)(w:Vl):((cS a 0 w).map Vl.nodes).sum<=w.nodes:=by
 rw[cS,<-vf];exact nE a (.bd 0) w
theorem RI.le{a:Ty}{R:Vl->Vl×Nat}{w wk:Vl}{k:Nat}(h:RI a R w wk k):wk.nodes<=201*w.nodes:=by
 have h1:=h.nd
 have h2:=qO Vl.nodes (cS a 0 w) k
 have h3:=uq a w
 omega
theorem RI.step{a:Ty}{R:Vl->Vl×Nat}{w wk:Vl}{k:Nat}(h:RI a R w wk k)(hk:k<(cS a 0 w).length)(hR:(R (cS a 0 w)[k]).1.nodes<=200*(cS a 0 w)[k].nodes) :
 ∃c,(kids a (.f wk))[k]?=some (c,(cS a 0 w)[k])/\(c,(cS a 0 w)[k])∈kids a (.f wk)/\RI a R w (ct a c (R (cS a 0 w)[k]).1) (k+1):=by
 obtain⟨c,h1,h2,h3,h4,h5⟩:=zm hk h.sk h.es
 refine⟨c,h1,h2,h3,h4,?_⟩
 rw[vE Vl.nodes _ hk]
 have:=h.nd
 omega
theorem RI.len{a:Ty}{R:Vl->Vl×Nat}{w wk:Vl}{k:Nat}(h:RI a R w wk k):(kids a (.f wk)).length=(cS a 0 w).length:=by
 have:=h.sk.len 0
 have h2:(fG (kids a (.f wk))).length=(cS a 0 wk).length:=by rw[qM]
 rw[cg]at h2;omega
theorem RI.fin{a:Ty}(hl:fh a 1){R:Vl->Vl×Nat}{w wk:Vl}(h:RI a R w wk (cS a 0 w).length):wk=(mm R [] a w).1:=by
 obtain⟨k1,k2⟩:=qp R a w
 refine(h.sk.symm.trans k1).Gc hl ?_
 rw[k2,h.es,List.take_length,List.drop_length,List.append_nil]
theorem RI.mem{a:Ty}{R:Vl->Vl×Nat}{w wk:Vl}{k:Nat}(h:RI a R w wk k){e:Vl}(he:e∈cS a 0 wk):(∃x,x∈cS a 0 w/\e=(R x).1)\/e∈cS a 0 w:=by
 rw[h.es]at he
 rcases aH.1 he with he|he
 ·obtain⟨x,hx,rfl⟩:=bD.1 he
  exact .inl ⟨x,List.mem_of_mem_take hx,rfl⟩
 ·exact .inr (List.mem_of_mem_drop he)
theorem RI.ok{a:Ty}(hl:fh a 1){R:Vl->Vl×Nat}{w wk:Vl}{k:Nat}(h:RI a R w wk k)(hv:vT 100 (.f w) (.rc a)=true)(hb:w.dW 100)(hR:∀x,x∈cS a 0 w->vT 100 (R x).1 (.rc a)=true/\(R x).1.dW 100):vT 100 (.f wk) (.rc a)=true/\wk.dW 100:=by
 refine⟨Bb hl hv h.sk fun e he=>?_,Bt hl hb h.sk fun e he=>?_⟩
 ·rcases h.mem he with⟨x,hx,rfl⟩|he
  ·exact(hR x hx).1
  ·exact qx hl hv he
 ·rcases h.mem he with⟨x,hx,rfl⟩|he
  ·exact(hR x hx).2
  ·exact mP hb he
theorem mA{R:Vl->Vl×Nat}:∀(n:Nat) (G:List Ty) (t:Ty) (v:Vl),2*v.nodes+rP t<=n->(∀e,e.nodes<=v.nodes->(R e).2<=e.nodes)->(mm R G t v).2<=v.nodes
 |0,G,t,v,hn,h=>by have:=ba v;omega
 |
  n+1,G,t,v,hn,h=>by
  by_cases hb:∃u,t=.bound u
  ·obtain⟨u,rfl⟩:=hb
   by_cases hu:u=G.length
   ·subst hu;rw[po];exact h v (aq _)
   ·cases hq:G[u]? with
    |some b=>rw[sS R hq];simp only[rP]at hn;exact mA n _ (.rc b) v (by simp only[rP];omega) h
    |
     none =>
     have:mm R G (.bound u) v=(v,0):=by simp[mm,uX,zH,hu,hq]
     rw[this];exact cG _
  ·have hb':∀u,t≠.bound u:=fun u h=>hb ⟨u,h⟩
   cases hst:stuck t v with
   |true=>rw[sB R hb' hst];exact cG _
   |
    false =>
    unfold stuck at hst
    split at hst
    ·rename_i a b w
     simp only[Vl.nodes]at hn h |-
     have:=cA a
     have:=mA n G a w (by omega) fun e he=>h e (by omega)
     rw[Ar];simp only;omega
    ·rename_i a b w
     simp only[Vl.nodes]at hn h |-
     have:=cA b
     have:=mA n G b w (by omega) fun e he=>h e (by omega)
     rw[AB];simp only;omega
    ·rename_i a b x y
     simp only[Vl.nodes]at hn h |-
     have:=cA a
     have:=cA b
     have:=ba x
     have:=ba y
     have:=mA n G a x (by omega) fun e he=>h e (by omega)
     have:=mA n G b y (by omega) fun e he=>h e (by omega)
     rw[Bc];simp only;omega
    ·rename_i b w
     simp only[Vl.nodes]at hn h |-
     have:=cA b
     have:=mA n (b::G) b w (by omega) fun e he=>h e (by omega)
     rw[As];simp only;omega
    ·cases hst
theorem tt{a:Ty}{fr:List UInt8}{to:Vl}:∀(n:Nat) (v:Vl),(gb a fr to n v).2<=v.nodes
 |0,v=>cG _
 |
  n+1,v=>by
  have hp:=ba v
  by_cases h:v.dw=fr
  ·rw[kY n h];exact hp
  ·cases v with
   |
    f w =>
    rw[oi n h]
    have:(mm (gb a fr to n) [] a w).2<=w.nodes:=mA (2*w.nodes+1) [] a w (by have:=cA a;omega) fun e _=>tt n e
    simp only[Vl.nodes];omega
   |_=>rw[gb,if_neg h];exact cG _
end Go.Proofs.Trees
namespace Go.Proofs.Trees
open Go Go.VL Go.RowKit
abbrev HT:AV:=.eJ 16 [some 0,some 1,some 2,some 3,none]
abbrev CO(a:Ty)(old to:Vl)(k:Nat):List Ob:=[.cells [old.ei],.cells [.v (.int .i64 (k:Int))],.cells [to.ei],.cells [(Ty.rc a).av]]
def KR(a:Ty)(old to:Vl)(n:Nat)(v:Vl):Prop:=∀k,k+v.nodes<=1000000->aB Tryz.prog 16 [v.ei,.ref 0 0,.ref 1 0,.ref 2 0,.ref 3 0,HT] (CO a old to k) (fZ (gb a old.dw to n v).1.ei (CO a old to (k+(gb a old.dw to n v).2)))
theorem F5(a:Ty)(hl:fh a 1)(old to:Vl)(n m0:Nat)(hrep:∀e,e.nodes<=n->e.nodes<=200->vT 100 e (.rc a)=true->e.dW 100->KR a old to n e) :
 ∀(m:Nat) (G:List Ty) (t:Ty) (v:Vl) (ea:AV) (ids:List Nat) (k:Nat),2*v.nodes+rP t<=m->v.nodes<=n->v.nodes<=200->lU m0 a ea ids G->(∀(i:Nat) (b:Ty),G[i]?=some b->fh (.rc b) (G.length-i))->G.length+v.nodes<=100000->fh t (G.length+1)->vT 100 v (cls (wj a G) t 0)=true->v.dW 100->k+v.nodes<=1000000 ->
  aB Tryz.prog 20 [.agg [t.av,ea],v.ei,.pid m0 [(Ty.rc a).av,jZ],.fn 16 [.ref 0 0,.ref 1 0,.ref 2 0,.ref 3 0,HT]] (CO a old to k) (fZ (mm (gb a old.dw to n) G t v).1.ei (CO a old to (k+(mm (gb a old.dw to n) G t v).2)))
 |0,G,t,v,ea,ids,k,hm,_,_,_,_,_,_,_,_,_=>by have:=ba v;omega
 |
  m+1,G,t,v,ea,ids,k,hm,hn,h200,he,hGl,hG,hlt,hv,hb,hk=>by
  have hp:LK.has .ptr (AV.pid m0 [(Ty.rc a).av,jZ]):=.inr (.inr ⟨_,_,rfl⟩)
  refine MT _ _ _ _ _ _ _ _ ((bm _).mpr trivial) he.env.has ((bu _).mpr trivial) hp ((bu _).mpr trivial) ((bu _).mpr trivial) ((bm _).mpr trivial) ?_
  have pidp:∀(i:Nat) (cs:List AV),LK.has .ptr (AV.pid i cs):=fun i cs=>.inr (.inr ⟨_,_,rfl⟩)
  have idk:∀(i:Nat) (cs:List AV),(AV.pid i cs).qU=True:=fun i cs=>rfl
  have ide:∀(i j:Nat) (cs ds:List AV),(AV.pid i cs).BL (.pid j ds)=aF i j:=fun i j cs ds=>rfl
  have nil0:∀(i:Nat) (cs:List AV),(AV.pid i cs).isNil=false:=fun i cs=>rfl
  have der:∀(i:Nat) (cs:List AV),(AV.pid i cs).deref=cs:=fun i cs=>rfl
  cases t with
  |
   bound u =>
   have av:(Ty.bound u).av=.ptr [.v (.int .u8 98),.v (.string (mk [])),.v (.int .i64 (u:Int)),.v (.pointer none),.v (.pointer none)]:=rfl
   have hB:=L5 m0 a u ea ids G he (by have:u<G.length+1:=hlt;omega) (by omega)
   have hBn:=Cr.ne m0 a ids G u he (by have:u<G.length+1:=hlt;omega)
   rw[av]at hB
   simp only[F1,av,↓zq,zs,ah,zt]
   refine⟨by omega,fun _=>aU hB hBn ?_,fun h=>absurd rfl h⟩
   rintro r o ⟨rfl,hc⟩
   rcases hc with⟨rfl,rfl⟩|⟨b,e',hbb,he',rfl⟩
   ·simp only[↓zq,zs,ah,zt,eq_true (pidp _ _),idk,ide,Nat.beq_refl]
    rw[po]
    refine⟨fun _=>?_,fun h=>(by cases h)⟩
    have hty:vT 100 v (.rc a)=true:=by
     have:cls (wj a G) (.bound G.length) 0=.rc a:=by simp only[cls];rw[if_neg (by omega)];exact xl a G
     rwa[this]at hv
    refine bJ (hrep v hn h200 hty hb k hk) ?_
    simp only[↓zq,zs,ah,zt,aO,bu,bm,Ob.es,aM,a8]
    exact⟨rfl,rfl⟩
   ·have hlu:u<G.length:=(cq.1 hbb).1
    have hne:aF (ids.getD u 0) m0=false:=by
     cases hq:aF (ids.getD u 0) m0 with
     |false=>rfl
     |
      true =>
      have h1:=aC hq
      rw[<-he.last]at h1
      have:=yH he.env.nodup (by rw[he.len];omega) (by rw[he.len];omega) h1
      omega
    simp only[↓zq,zs,ah,zt,eq_true (pidp _ _),idk,ide,hne]
    refine⟨fun h=>(by cases h),fun _=>aU hB hBn ?_⟩
    rintro r o ⟨rfl,hc⟩
    rcases hc with⟨hu,_⟩|⟨b2,e2,hb2,he2,rfl⟩
    ·omega
    ·rw[hbb]at hb2;cases hb2
     simp only[↓zq,zs,ah,zt,cc,der,eq_true (pidp _ _),nil0,bm,eq_true he2.env.has]
     rw[sS _ hbb]
     have hty:vT 100 v (cls (wj a (G.drop (u+1))) (.rc b) 0)=true:=by
      have:cls (wj a G) (.bound u) 0=cls (wj a (G.drop (u+1))) (.rc b) 0:=by simp only[cls];rw[if_neg (by omega)];exact Bw a G u b hbb
      rwa[this]at hv
     have hl2:=hGl u b hbb
     simp only[rP]at hm
     repeat refine⟨by first|trivial|omega,?_⟩
     refine bJ (F5 a hl old to n m0 hrep m (G.drop (u+1)) (.rc b) v e2 (ids.drop (u+1)) k (by simp only[rP];omega) hn h200 he2 (fun i c hi=>?_) (by rw[bI];omega) (by rw[bI,show G.length-(u+1)+1=G.length-u by omega];exact hl2) hty hb hk) ?_
     ·rw[cm]at hi
      have:=hGl (u+1+i) c hi
      rw[bI,show G.length-(u+1)-i=G.length-(u+1+i) by omega]
      exact this
     ·simp only[↓zq,zs,ah,zt,aO,bu,bm,Ob.es,aM,a8]
      exact⟨rfl,rfl⟩
  |
   plus t1 t2 =>
   have av:(Ty.plus t1 t2).av=.ptr [.v (.int .u8 43),.v (.string (mk [])),.v (.int .i64 0),t1.av,t2.av]:=rfl
   simp only[F1,av,↓zq,zs,ah,zt]
   refine⟨by omega,fun h=>absurd h (by decide),fun _=>⟨fun _=>?_,fun h=>absurd rfl h⟩⟩
   cases v with
   |
    l w =>
    simp only[Vl.ei,↓zq,zs,ah,zt]
    simp only[Vl.nodes]at hm hn h200 hG hk
    have:=cA t1
    refine⟨by omega,fun h=>?_,fun h=>absurd rfl h⟩
    refine an (Cz _ _ _ _ _ _ ((bm _).mpr trivial) he.env.has) ?_
    simp only[↓zq,zs,ah,zt,bu,bm,eq_true he.env.has,cc]
    repeat refine⟨by first|trivial|omega,?_⟩
    refine bJ (F5 a hl old to n m0 hrep m G t1 w ea ids k (by omega) (by omega) (by omega) he hGl (by omega) hlt.1 hv hb (by omega)) ?_
    simp only[↓zq,zs,ah,zt,aO,bu,bm,Ob.es,aM,a8]
    refine an (Cy _ _ ((bu _).mpr trivial)) ?_
    simp only[↓zq,zs,ah,zt]
    rw[Ar]
    exact⟨rfl,rfl⟩
   |
    r w =>
    simp only[Vl.ei,↓zq,zs,ah,zt]
    simp only[Vl.nodes]at hm hn h200 hG hk
    have:=cA t2
    refine⟨by omega,fun h=>(absurd h (by decide)),fun h=>?_⟩
    refine an (CY _ _ _ _ _ _ ((bm _).mpr trivial) he.env.has) ?_
    simp only[↓zq,zs,ah,zt,bu,bm,eq_true he.env.has,cc]
    repeat refine⟨by first|trivial|omega,?_⟩
    refine bJ (F5 a hl old to n m0 hrep m G t2 w ea ids k (by omega) (by omega) (by omega) he hGl (by omega) hlt.2 hv hb (by omega)) ?_
    simp only[↓zq,zs,ah,zt,aO,bu,bm,Ob.es,aM,a8]
    refine an (Cy _ _ ((bu _).mpr trivial)) ?_
    simp only[↓zq,zs,ah,zt]
    rw[AB]
    exact⟨rfl,rfl⟩
   |_=>simp[cls,vT]at hv
  |
   times t1 t2 =>
   have av:(Ty.times t1 t2).av=.ptr [.v (.int .u8 42),.v (.string (mk [])),.v (.int .i64 0),t1.av,t2.av]:=rfl
   simp only[F1,av,↓zq,zs,ah,zt]
   cases v with
   |
    p x y =>
    simp only[cls,vT,au]at hv
    simp only[Vl.ei,↓zq,zs,ah,zt]
    simp only[Vl.nodes]at hm hn h200 hG hk
    have:=cA t1
    have:=cA t2
    have:=ba x
    have:=ba y
    refine⟨by omega,fun h=>absurd h (by decide),fun _=>⟨fun h=>absurd h (by decide),fun _=>⟨fun _=>?_,fun h=>absurd rfl h⟩⟩⟩
    have c1:=mA (R:=gb a old.dw to n) (2*x.nodes+1) G t1 x (by omega) fun e _=>tt n e
    refine an (Cz _ _ _ _ _ _ ((bm _).mpr trivial) he.env.has) ?_
    simp only[↓zq,zs,ah,zt,bu,bm,eq_true he.env.has,cc]
    repeat refine⟨by first|trivial|omega,?_⟩
    refine bJ (F5 a hl old to n m0 hrep m G t1 x ea ids k (by omega) (by omega) (by omega) he hGl (by omega) hlt.1 hv.1 hb.1 (by omega)) ?_
    simp only[↓zq,zs,ah,zt,aO,bu,bm,Ob.es,aM,a8]
    refine an (CY _ _ _ _ _ _ ((bm _).mpr trivial) he.env.has) ?_
    simp only[↓zq,zs,ah,zt,bu,bm,eq_true he.env.has,cc]
    repeat refine⟨by first|trivial|omega,?_⟩
    refine bJ (F5 a hl old to n m0 hrep m G t2 y ea ids (k+(mm (gb a old.dw to n) G t1 x).2) (by omega) (by omega) (by omega) he hGl (by omega) hlt.2 hv.2 hb.2 (by omega)) ?_
    simp only[↓zq,zs,ah,zt,aO,bu,bm,Ob.es,aM,a8]
    refine an (Ji _ _ ((bu _).mpr trivial) ((bu _).mpr trivial)) ?_
    simp only[↓zq,zs,ah,zt]
    rw[Bc,Nat.add_assoc]
    exact⟨rfl,rfl⟩
   |_=>simp[cls,vT]at hv
  |
   rc b =>
   have av:(Ty.rc b).av=.ptr [.v (.int .u8 114),.v (.string (mk [])),.v (.int .i64 0),b.av,.v (.pointer none)]:=rfl
   cases v with
   |
    f w =>
    simp only[F1,Vl.ei,av,↓zq,zs,ah,zt]
    simp only[Vl.nodes]at hm hn h200 hG hk
    have:=cA b
    refine⟨by omega,fun h=>absurd h (by decide),fun _=>⟨fun h=>absurd h (by decide),fun _=>⟨fun h=>absurd h (by decide),fun _=>⟨fun _=>?_,fun h=>absurd rfl h⟩⟩⟩⟩
    have hI:=Hq b ea ids he.env
    rw[av]at hI
    refine aU hI (JQ.ne b ea ids) ?_
    rintro r o ⟨⟨mi,hmi,rfl⟩,rfl⟩
    simp only[↓zq,zs,ah,zt,bu,bm,eq_true he.env.has,cc,eq_true (pidp _ _)]
    repeat refine⟨by first|trivial|omega,?_⟩
    have hvt:vT 100 w (cls (wj a (b::G)) b 0)=true:=by rw[xZ (Bo hl G)]at hv;exact hv
    refine bJ (F5 a hl old to n m0 hrep m (b::G) b w _ (mi::ids) k (by omega) (by omega) (by omega) (.cons hmi he) (fun i c hi=>?_) (by simp;omega) hlt hvt hb (by omega)) ?_
    ·cases i with
     |zero=>simp at hi;subst hi;exact hlt
     |succ i=>have:=hGl i c (by simpa using hi);simpa using this
    simp only[↓zq,zs,ah,zt,aO,bu,bm,Ob.es,aM,a8]
    refine an (Cy _ _ ((bu _).mpr trivial)) ?_
    simp only[↓zq,zs,ah,zt]
    rw[As]
    exact⟨rfl,rfl⟩
   |_=>simp[cls,vT]at hv
  |zero=>cases v<;>simp[cls,vT]at hv
  |
   one =>
   cases v with
   |
    u =>
    rw[sB _ (fun u h=>by cases h) rfl]
    simp[F1,Ty.av,↓zq,zs,ah,zt,fZ]
   |_=>simp[cls,vT]at hv
  |
   name s =>
   rw[sB _ (fun u h=>by cases h) (by cases v<;>rfl)]
   simp[F1,Ty.av,↓zq,zs,ah,zt,fZ]
theorem JL(a:Ty)(hl:fh a 1)(old to:Vl)(hob:old.dW 100)(hon:old.nodes<=200):∀(n:Nat) (v:Vl),v.nodes<=n->v.nodes<=200->vT 100 v (.rc a)=true->v.dW 100->KR a old to n v
 |0,v,hn,_,_,_=>by have:=ba v;omega
 |
  n+1,v,hn,h200,hv,hb=>by
  intro k hk
  have t1:=fq v hb
  have t2:=fq old hob
  refine M3 _ _ _ _ _ ((bu _).mpr trivial) ((bu _).mpr trivial) ((bu _).mpr trivial) ((bm _).mpr trivial) ?_
  unfold Ky
  refine an (DW v (by omega)) ?_
  simp only[↓zq,zs,ah,zt,bu]
  refine an (DW old (by omega)) ?_
  simp only[↓zq,zs,ah,zt,bu,bm]
  refine⟨fun heq=>?_,fun hne=>?_⟩
  ·rw[kY n heq]
   rw[bX k (by omega)]
   exact⟨rfl,rfl⟩
  ·cases v with
   |
    f w =>
    rw[oi n hne]
    simp only[Vl.nodes]at hn h200 hk
    have hI:=Hq a jZ [] .nil
    refine aU hI (JQ.ne a jZ []) ?_
    rintro r o ⟨⟨mi,hmi,rfl⟩,rfl⟩
    have pidp:∀(i:Nat) (cs:List AV),LK.has .ptr (AV.pid i cs):=fun i cs=>.inr (.inr ⟨_,_,rfl⟩)
    have hvt:vT 100 w (cls (wj a []) a 0)=true:=by rw[wP 100 hl]at hv;exact hv
    simp only[Vl.ei,↓zq,zs,ah,zt,bu,bm,cc,eq_true (pidp _ _)]
    repeat refine⟨by first|trivial|omega,?_⟩
    refine bJ (F5 a hl old to n mi (fun e h1 h2 h3 h4=>JL a hl old to hob hon n e h1 h2 h3 h4) (2*w.nodes+rP a) [] a w _ [mi] k (aq _) (by omega) (by omega) .top (fun i b hi=>by simp at hi) (by simp;omega) hl hvt hb (by omega)) ?_
    simp only[↓zq,zs,ah,zt,aO,bu,bm,Ob.es,aM,a8]
    refine an (Cy _ _ ((bu _).mpr trivial)) ?_
    simp only[↓zq,zs,ah,zt]
    exact⟨rfl,rfl⟩
   |_=>simp[vT]at hv
end Go.Proofs.Trees
namespace Go.Proofs.Trees
open Go Go.VL Go.RowKit
theorem zw{env:List Fr}(h:WF env):∀w,w∈names env->cU w=true:=by
 induction h with
 |nil=>intro w hw;cases hw
 |
  cons hs _ _ _ _ _ ih =>
  intro w hw
  simp only[names,aH,aQ]at hw
  rcases hw with hw|rfl
  ·exact ih w hw
  ·exact hs
theorem AY{ar:List (List UInt8)}{k:Nat}(h:k<ar.length):hD ar k∈ar:=by
 unfold hD
 have:ar.length-1-k<ar.length:=by omega
 simp[aa,this]
def AX(s:List UInt8)(ar:List (List UInt8)):Prop:=gJ s=true\/(bG s ar ar.length).isSome=true
theorem vN{s:List UInt8}{ar:List (List UInt8)}{u:Nat}(hl:∀w,w∈ar->cU w=true)(h:bG s ar ar.length=some u):cU s=true:=by
 obtain⟨h1,h2⟩:=fH _ _ (aq _) h
 rw[<-h2];exact hl _ (AY h1)
theorem Fp{s0 s:List UInt8}{ar:List (List UInt8)}{t:Ty}(ht:cF (.atom s0) ar=some t)(hl:∀w,w∈ar->cU w=true)(hs:AX s ar):dO t (oc s ar)=decide (s0=s):=by
 have h48:∀b:UInt8,gJ [b]=false->cU [b]=false->s≠[b]:=fun b h1 h2 e=>by
  subst e
  rcases hs with h|h
  ·rw[h1]at h;cases h
  ·obtain⟨u,hu⟩:=a7.1 h
   rw[vN hl hu]at h2;cases h2
 simp only[cF]at ht
 split at ht
 ·rename_i e;cases ht;subst e
  have:=h48 48 rfl rfl
  rw[decide_eq_false (fun h=>this h.symm)];cases oc s ar<;>rfl
 ·split at ht
  ·rename_i e;cases ht;subst e
   have:=h48 49 rfl rfl
   rw[decide_eq_false (fun h=>this h.symm)];cases oc s ar<;>rfl
  ·split at ht
   ·rename_i hp
    cases ht
    unfold oc
    cases e:bG s ar ar.length with
    |none=>rfl
    |
     some u =>
     have hloo:=vN hl e
     show false=_
     rw[decide_eq_false]
     rintro rfl
     rw[j5 hp]at hloo;cases hloo
   ·rename_i hnp
    split at ht
    ·split at ht
     ·rename_i u hu
      cases ht
      unfold oc
      cases e:bG s ar ar.length with
      |
       none =>
       show false=_
       rw[decide_eq_false]
       rintro rfl
       rw[hu]at e;cases e
      |
       some u' =>
       show decide (u=u')=_
       rw[cL,decide_eq_true_eq,decide_eq_true_eq]
       constructor
       ·rintro rfl
        rw[<-(fH _ _ (aq _) hu).2,<-(fH _ _ (aq _) e).2]
       ·rintro rfl
        rw[hu]at e;cases e;rfl
     ·rename_i hn
      cases ht
      unfold oc
      cases e:bG s ar ar.length with
      |none=>rfl
      |
       some u =>
       show false=_
       rw[decide_eq_false]
       rintro rfl
       rw[hn]at e;cases e
    ·cases ht
theorem Cl{b:E}{ar:List (List UInt8)}{w:List UInt8}{t:Ty}(hb:cF b (ar++[w])=some t)(hw:cU w=true)(hs:AX w ar):ux t (oc w ar).up=false:=by
 rcases hs with h|h
 ·rw[j5 h]at hw;cases hw
 ·obtain⟨u,hu⟩:=a7.1 h
  rw[oc,hu];exact Gg hb hu
theorem yR{s w:List UInt8}{ar:List (List UInt8)}(h:w≠s)(hs:AX s ar):AX s (ar++[w]):=by
 rcases hs with h1|h1
 ·exact .inl h1
 ·right;rw[jr ar h];obtain⟨u,hu⟩:=a7.1 h1;rw[hu];rfl
def Nf(e:E)(s:List UInt8)(t:Ty)(tg:Tg)(v:Vl):Prop:=aB Tryz.prog 34 [.agg [.v (.string (mk e.at)),e.sp],.v (.string (mk s)),.agg [.v (.string (mk v.cb.at)),v.cb.sp]] [] (bU (.sl (kR (bF t tg v))))
theorem El(n:Nat):∀(m:Nat) (v:Vl),v.nodes<=m->∀(e:E) (env:List Fr) (t:Ty),Ask e env t->eU n v (e,env)=true->env.length+v.nodes<100000->∀(s:List UInt8),AX s (names env)->Nf e s t (oc s (names env)) v
 |0,v,hm=>by have:=ba v;omega
 |
  m+1,v,hm=>by
  intro e env t A hv hl s hs
  have hloo:=zw A.wf
  unfold Nf
  refine MW _ _ _ _ _ ((aX _).mpr trivial) ((aX _).mpr trivial) ?_
  have hlen:=sP t (oc s (names env)) v
  have atomCase:∀s0,e=.atom s0->stuck t v=true->eH Tryz.prog 244 (GJ (mk e.at) e.sp (mk s) (mk v.cb.at) v.cb.sp) fun _ xs obs=>bU (.sl (kR (bF t (oc s (names env)) v))) (xs.headD .any) obs:=by
   rintro s0 rfl hst
   have hat:=Fp A.ty hloo hs
   have hne:s0≠[]:=A.ok
   simp only[GJ,E.at,↓zq,zs,ah,zt]
   refine⟨fun _=>⟨fun h=>?_,fun h=>?_⟩,fun h=>absurd h hne⟩
   ·rw[decide_eq_true h]at hat
    rw[iW v hat]
    refine⟨⟨zB _ _ _ _,by omega⟩,?_⟩
    simp[bU,kR,Vl.cb,E.at,E.sp]
   ·rw[decide_eq_false h]at hat
    rw[cQ hat hst]
    simp[bU,kR]
  have hvh:=BA v
  rw[dy]at hvh
  rcases i7 A.wf A.ty with⟨hb,hq⟩|⟨u,g,rfl,hq,hu⟩
  ·have hhd:hd e env=(e,env):=lA hq
   rcases fK A.ty hb A.cl with⟨rfl,rfl⟩|⟨rfl,rfl⟩|⟨s0,rfl,rfl,hp,h0,h1⟩|⟨x,a,b,t1,t2,rfl,hx,rfl,ha,hbb⟩|⟨x,a,b,t1,t2,rfl,hx,rfl,ha,hbb⟩|⟨x,a,b,t1,rfl,hx,rfl⟩
   ·exact atomCase _ rfl (by cases v<;>rfl)
   ·exact atomCase _ rfl (by cases v<;>rfl)
   ·exact atomCase _ rfl (by cases v<;>rfl)
   ·obtain⟨ok1,ok2,ok3,_⟩:=A.ok
    obtain⟨f1,f2⟩:=fQ A.cl
    have hP:=P3.of x a b
    cases v with
    |
     l w =>
     simp only[eU,hhd,hx,beq_self_eq_true,bZ]at hv
     simp only[Vl.nodes]at hm hl hlen
     rw[gk]at hlen |-
     rw[lz]at hlen
     have hW:=P2.of (.atom [108]) w.cb
     simp only[GJ,E.at,↓zq,zs,ah,zt]
     refine⟨fun h=>absurd rfl h,fun _=>an hvh ?_⟩
     simp only[vh,Vl.cb,toNat_one,bf,↓zq,zs,ah,zt,hP.1,hP.2.1,hP.2.2.1,hP.2.2.2,hW.1,hW.2.1,hW.2.2,aK]
     refine⟨fun _=>?_,fun h=>absurd rfl h⟩
     repeat refine⟨by omega,?_⟩
     refine an (El n m w (by omega) a env t1 ⟨ok2,A.wf,ha,f1⟩ hv (by omega) s hs) ?_
     simp only[↓zq,zs,ah]
     refine bJ (JV [108] Vl.l (fun c=>rfl) (bF t1 (oc s (names env)) w) [] (by simp;omega)) ?_
     simp[↓zq,zs,ah,bU,aM,a8]
    |
     r w =>
     simp only[eU,hhd,hx,beq_self_eq_true,bZ]at hv
     simp only[Vl.nodes]at hm hl hlen
     rw[gj]at hlen |-
     rw[lz]at hlen
     have hW:=P2.of (.atom [114]) w.cb
     simp only[GJ,E.at,↓zq,zs,ah,zt]
     refine⟨fun h=>absurd rfl h,fun _=>an hvh ?_⟩
     simp only[vh,Vl.cb,toNat_one,bf,↓zq,zs,ah,zt,hP.1,hP.2.1,hP.2.2.1,hP.2.2.2,hW.1,hW.2.1,hW.2.2,aK]
     refine⟨fun h=>by simp at h,fun _=>⟨fun _=>?_,fun h=>absurd rfl h⟩⟩
     repeat refine⟨by omega,?_⟩
     refine an (El n m w (by omega) b env t2 ⟨ok3,A.wf,hbb,f2⟩ hv (by omega) s hs) ?_
     simp only[↓zq,zs,ah]
     refine bJ (JV [114] Vl.r (fun c=>rfl) (bF t2 (oc s (names env)) w) [] (by simp;omega)) ?_
     simp[↓zq,zs,ah,bU,aM,a8]
    |_=>simp[eU,hhd,hx]at hv
   ·obtain⟨ok1,ok2,ok3,_⟩:=A.ok
    obtain⟨f1,f2⟩:=fj A.cl
    have hP:=P3.of x a b
    cases v with
    |
     p w w' =>
     simp only[eU,hhd,hx,beq_self_eq_true,bZ,au]at hv
     simp only[Vl.nodes]at hm hl hlen
     rw[eY]at hlen |-
     simp only[ak,lz]at hlen
     have hW:=P3.of (.atom [112]) w.cb w'.cb
     simp only[GJ,E.at,↓zq,zs,ah,zt]
     refine⟨fun h=>absurd rfl h,fun _=>an hvh ?_⟩
     simp only[vh,Vl.cb,toNat_one,bf,↓zq,zs,ah,zt,hP.1,hP.2.1,hP.2.2.1,hP.2.2.2,hW.1,hW.2.1,hW.2.2.1,hW.2.2.2,aK]
     refine⟨fun h=>by simp at h,fun _=>⟨fun h=>by simp at h,fun _=>⟨fun _=>?_,fun h=>absurd rfl h⟩⟩⟩
     repeat refine⟨by omega,?_⟩
     refine an (El n m w (by omega) a env t1 ⟨ok2,A.wf,ha,f1⟩ hv.1 (by omega) s hs) ?_
     simp only[↓zq,zs,ah]
     have h1:=Ki s (mk []) (E.list [x,a,b]).sp ((aX _).mpr trivial) (mk []) (E.list [.atom [112],w.cb,w'.cb]).sp w w' (P3.of _ _ _) (bF t1 (oc s (names env)) w) (by omega) _ 0 [] (aR _) (by simp;omega)
     rw[bz,bg]at h1
     refine db h1 ?_
     simp only[↓zq,zs,ah,aX,ah,bf,hP.1,hP.2.1,hP.2.2.2,hW.1,hW.2.1,hW.2.2.2,aK]
     repeat refine⟨by omega,?_⟩
     refine an (El n m w' (by omega) b env t2 ⟨ok3,A.wf,hbb,f2⟩ hv.2 (by omega) s hs) ?_
     simp only[↓zq,zs,ah]
     have h2:=KI (mk []) (E.list [.atom [112],w.cb,w'.cb]).sp w w' (P3.of _ _ _) (bF t2 (oc s (names env)) w') (by omega) _ 0 (fS (fun c=>Vl.l (.p c w')) (bF t1 (oc s (names env)) w)) (aR _) (by rw[lz];omega)
     rw[bz]at h2
     refine db h2 ?_
     simp[↓zq,zs,ah,bU]
    |_=>simp[eU,hhd,hx]at hv
   ·obtain⟨t1',he1,h1,f1,hw1⟩:=jH A.wf A.ok hx A.ty A.cl
    cases he1
    obtain⟨ok1,ok2,ok3,_⟩:=A.ok
    obtain⟨_,hla,_,_⟩:=di hx A.ty
    have A':Ask b (.mk a.at (.list [x,a,b]) env::env) t1:=⟨ok3,hw1,h1,f1⟩
    have hnm:names (.mk a.at (.list [x,a,b]) env::env)=names env++[a.at]:=rfl
    have hP:=P3.of x a b
    cases v with
    |
     f w =>
     simp only[eU,hhd,hx,beq_self_eq_true,bZ]at hv
     simp only[Vl.nodes]at hm hl hlen
     have hW:=P2.of (.atom [102]) w.cb
     simp only[GJ,E.at,↓zq,zs,ah,zt]
     refine⟨fun h=>absurd rfl h,fun _=>an hvh ?_⟩
     simp only[vh,Vl.cb,toNat_one,bf,↓zq,zs,ah,zt,hP.1,hP.2.1,hP.2.2.1,hP.2.2.2,hW.1,hW.2.1,hW.2.2,aK]
     refine⟨fun h=>by simp at h,fun _=>⟨fun h=>by simp at h,fun _=>⟨fun h=>by simp at h,fun _=>?_⟩⟩⟩
     repeat refine⟨by omega,?_⟩
     refine⟨fun h=>?_,fun h=>?_⟩
     ·
      have hh:a.at=s:=h
      subst hh
      have:ux (.rc t1) (oc a.at (names env))=false:=Cl h1 hla hs
      rw[ir _ _ (aq _) _ _ this]
      simp[bU,kR]
     ·have hh:a.at≠s:=h
      rw[eZ]at hlen |-
      simp only[ak,lz]at hlen
      repeat refine⟨by omega,?_⟩
      have i1:=El n m w (by omega) b _ t1 A' hv (by simp;omega) s (by rw[hnm];exact yR hh hs)
      rw[hnm,yE _ hh]at i1
      refine an i1 ?_
      simp only[↓zq,zs,ah]
      have h3:=Li s a.at (mk []) (E.list [x,a,b]).sp ((aX _).mpr trivial) (mk []) (E.list [.atom [102],w.cb]).sp ((aX _).mpr trivial) (bF t1 (oc s (names env)).up w) (by omega) _ 0 [] (aR _) (by simp;omega)
      rw[bz,bg]at h3
      refine db h3 ?_
      simp only[↓zq,zs,ah,aX,ah,toNat_one,bf,hP.1,hP.2.1,hP.2.2.2,hW.1,hW.2.1,hW.2.2,aK]
      repeat refine⟨by omega,?_⟩
      have i2:=El n m w (by omega) b _ t1 A' hv (by simp;omega) a.at (by rw[hnm];right;rw[gF];rfl)
      rw[hnm,vB]at i2
      refine an i2 ?_
      simp only[↓zq,zs,ah]
      have hl2:=sP t1 (.bd 0) w
      have ih3:∀h,h∈bF t1 (.bd 0) w->Nf (.list [x,a,b]) s (.rc t1) (oc s (names env)) h.2:=fun h hh=>by
       have h3:=(gd hh).1
       have h4:=gW n m w (by omega) b _ t1 A' hv 0 _ rfl h hh
       exact El n m h.2 (by omega) (.list [x,a,b]) env (.rc t1) A h4 (by omega) s hs
      have h4:=Kh s (.list [x,a,b]) t1 (oc s (names env)) (bF t1 (.bd 0) w) (by omega) ih3 _ 0 (fS (fun c=>.f (.l c)) (bF t1 (oc s (names env)).up w)) (aR _) (by
       simp only[bz,ak,lz]
       have hlen2:(bF t1 (oc s (names env)).up w).length+((bF t1 (.bd 0) w).flatMap (Hn t1 (oc s (names env)))).length<=1+w.nodes:=hlen
       omega)
      rw[bz]at h4
      simp only[E.at]at h4
      refine db h4 ?_
      simp[↓zq,zs,ah,bU]
    |_=>simp[eU,hhd,hx]at hv
  ·cases e with
   |atom s0=>exact atomCase _ rfl (by cases v<;>rfl)
   |list l=>exact absurd hq (by rw[show (E.list l).at=[] from rfl,ky A.wf];simp)
end Go.Proofs.Trees
namespace Go.Proofs.Trees
open Go Go.VL Go.RowKit
def gq(s:List UInt8):Option Ty:=match wJ s with
 |some (.rc a)=>some a
 |_=>none
def Bx:Option Ty->AV
 |some a=>(Ty.rc a).av
 |none=>jZ
theorem LR(s:List UInt8):aB Tryz.prog 37 [.v (.string (mk s))] [] (bU (Bx (gq s))):=by
 refine NW _ ?_
 unfold K1
 refine an (HI s) ?_
 cases h:wJ s with
 |none=>simp[↓zq,zs,ah,iX,Bx,gq,h,bU]
 |some t=>cases t<;>simp[↓zq,zs,ah,iX,Bx,gq,h,bU,Ty.av]
def eV(s v:List UInt8):Option Vl:=match gq s with
 |some _=>ng s v 100
 |none=>none
def GC(s:List UInt8):AV:=match gq s with
 |some a=>(Ty.rc a).av
 |none=>jZ
theorem qm{s:List UInt8}{a:Ty}(h:gq s=some a):wJ s=some (.rc a):=by
 unfold gq at h
 split at h
 ·rename_i e;cases h;exact e
 ·cases h
theorem G9(s v:List UInt8):aB Tryz.prog 15 [.v (.string (mk s)),.v (.string (mk v))] [] (bU (.cP [GC s,iH (eV s v)])):=by
 refine Nc _ _ ?_
 unfold JZ
 refine an (LR s) ?_
 cases h:gq s with
 |none=>simp[↓zq,zs,ah,Bx,GC,eV,h,bU,iH]
 |
  some a =>
  simp only[↓zq,zs,ah,Bx,bm,fW]
  refine⟨fun h=>(by cases h),fun _=>?_⟩
  refine an (JN s v 100) ?_
  rw[qm h]
  simp[↓zq,zs,ah,iX,fb,GC,eV,h,bU,bm]
structure LV(s v:List UInt8)(w:Vl)(a:Ty)(x A B:E):Prop where
 l:gq s=some a
 ce:jk s=some (.list [x,A,B])
 v:qy v=some w
 ask:Ask (.list [x,A,B]) [] (.rc a)
 hx:x.at=[114,101,99]
 O2:cU A.at=true
 body:Ask B [.mk A.at (.list [x,A,B]) []] a
 eU:eU 100 w (.list [x,A,B],[])=true
theorem sg{e:E}{env:List Fr}{a:Ty}(A:Ask e env (.rc a)):∃x y z,e=.list [x,y,z]/\x.at=[114,101,99]/\cU y.at=true/\Ask z (.mk y.at (.list [x,y,z]) env::env) a:=by
 rcases fK A.ty rfl A.cl with⟨_,h⟩|⟨_,h⟩|⟨s,_,h,_⟩|⟨x,y,z,t1,t2,_,_,h,_⟩|⟨x,y,z,t1,t2,_,_,h,_⟩|⟨x,y,z,t1,rfl,hx,h⟩
 ·cases h
 ·cases h
 ·cases h
 ·cases h
 ·cases h
 ·cases h
  obtain⟨t1',he1,h1,f1,hw1⟩:=jH A.wf A.ok hx A.ty A.cl
  cases he1
  obtain⟨_,_,ok3,_⟩:=A.ok
  obtain⟨_,hla,_,_⟩:=di hx A.ty
  exact⟨x,y,z,rfl,hx,hla,ok3,hw1,h1,f1⟩
theorem iw{s v:List UInt8}{w:Vl}(h:eV s v=some w):∃a x A B,LV s v w a x A B:=by
 unfold eV at h
 split at h
 ·rename_i a hl
  obtain⟨e,t,m,h1,h2,h3,h4,h5,h6,h7⟩:=rH h
  rw[qm hl]at h3
  cases h3
  obtain⟨x,A,B,rfl,hx,hA,hB⟩:=sg h4
  have:m=100:=by omega
  subst this
  exact⟨a,x,A,B,hl,h1,h2,h4,hx,hA,hB,h7⟩
 ·cases h
theorem LV.dW{s v:List UInt8}{w:Vl}{a:Ty}{x A B:E}(h:LV s v w a x A B):w.dW 100:=(kX h.v).2.1
theorem LV.nodes{s v:List UInt8}{w:Vl}{a:Ty}{x A B:E}(h:LV s v w a x A B):w.nodes<=200:=(kX h.v).2.2
theorem tG{n:Nat}{v:Vl}{x A B:E}{env:List Fr}(hw:WF env)(hx:x.at=[114,101,99])(h:eU n v (.list [x,A,B],env)=true):∃w,v=.f w/\eU n w (B,.mk A.at (.list [x,A,B]) env::env)=true:=by
 have hd:=pe (x:=x) (a:=A) (b:=B) hw
 cases v<;>simp[eU,hd,hx]at h |-
 exact h
theorem BM{n:Nat}{v:Vl}{x A B:E}{env:List Fr}{a:Ty}(hA:Ask B (.mk A.at (.list [x,A,B]) env::env) a)(hw:WF env)(hx:x.at=[114,101,99])(h:eU n v (.list [x,A,B],env)=true){k:Hl}(hk:k∈kids a v):eU n k.2 (.list [x,A,B],env)=true:=by
 obtain⟨w,rfl,hv⟩:=tG hw hx h
 exact gW n w.nodes w (aq _) B _ a hA hv 0 _ rfl k hk
def gn(l:List Nat):List (List AV):=l.map fun(k:Nat)=>[.v (.int .i64 (k:Int))]
theorem qG(l:List Nat):(gn l).length=l.length:=by simp[gn]
theorem wm(l:List Nat)(k:Nat):gn l++[[.v (.int .i64 (k:Int))]]=gn (l++[k]):=by simp[gn]
theorem u3(l:List Nat):cI 1 (gn l):=fun c hc=>by
 obtain⟨k,_,rfl⟩:=bD.1 hc;rfl
theorem xA(x:AV):cI 1 [[x]]:=fun c hc=>by simp at hc;rw[hc];rfl
theorem zc(l:List Hl):ia (l.drop 0)=ia l:=by rw[bz]
end Go.Proofs.Trees
namespace Go.Proofs.Trees
open Go Go.VL Go.RowKit
def NN(e:E)(s:List UInt8)(t:Ty)(c v:Vl):Prop:=aB Tryz.prog 36 [.agg [.v (.string (mk e.at)),e.sp],.v (.string (mk s)),.agg [.v (.string (mk c.cb.at)),c.cb.sp],.agg [.v (.string (mk v.cb.at)),v.cb.sp]] [] (bU (.agg [.v (.string (mk (ct t c v).cb.at)),(ct t c v).cb.sp]))
theorem DY:∀(m:Nat) (c:Vl),c.nodes<=m->∀(e:E) (env:List Fr) (t:Ty),Ask e env t->dq t c=true->∀(s:List UInt8) (v:Vl),NN e s t c v
 |0,c,hm=>by have:=ba c;omega
 |
  m+1,c,hm=>by
  intro e env t A hc s v
  unfold NN
  refine LP _ _ _ _ _ _ _ ((aX _).mpr trivial) ((aX _).mpr trivial) ((aX _).mpr trivial) ?_
  have atomCase:∀s0,e=.atom s0->ct t c v=v->eH Tryz.prog 244 (DS (mk e.at) e.sp (mk s) (mk c.cb.at) c.cb.sp (mk v.cb.at) v.cb.sp) fun _ xs obs=>bU (.agg [.v (.string (mk (ct t c v).cb.at)),(ct t c v).cb.sp]) (xs.headD .any) obs:=by
   rintro s0 rfl hp
   have hne:s0≠[]:=A.ok
   rw[hp]
   simp only[DS,E.at,↓zq,zs,ah,zt,bU]
   exact⟨fun _=>trivial,fun h=>absurd h hne⟩
  have hvh:=BA c
  rw[dy]at hvh
  rcases i7 A.wf A.ty with⟨hb,hq⟩|⟨u,g,rfl,hq,hu⟩
  ·rcases fK A.ty hb A.cl with⟨rfl,rfl⟩|⟨rfl,rfl⟩|⟨s0,rfl,rfl,hp,h0,h1⟩|⟨x,a,b,t1,t2,rfl,hx,rfl,ha,hbb⟩|⟨x,a,b,t1,t2,rfl,hx,rfl,ha,hbb⟩|⟨x,a,b,t1,rfl,hx,rfl⟩
   ·exact atomCase _ rfl (yF _ _)
   ·exact atomCase _ rfl (BX _ _)
   ·exact atomCase _ rfl (mO _ _ _)
   ·obtain⟨ok1,ok2,ok3,_⟩:=A.ok
    obtain⟨f1,f2⟩:=fQ A.cl
    have hP:=P3.of x a b
    have hH:aB Tryz.prog 29 [.agg [.v (.string (mk [])),(E.list [x,a,b]).sp]] [] (bU (.v (.string (mk [43])))):=by rw[<-hx];exact uy x [a,b]
    rcases AK hc with⟨y,rfl,hy⟩|⟨y,rfl,hy⟩
    ·simp only[Vl.nodes]at hm
     have hW:=P2.of (.atom [108]) y.cb
     simp only[Vl.cb,ca]at hvh
     simp only[DS,ca,Vl.cb,toNat_one,bf,↓zq,zs,ah,zt,hP.1,hP.2.1,hP.2.2.1,hP.2.2.2,hW.1,hW.2.1,hW.2.2,aK]
     refine⟨fun h=>absurd rfl h,fun _=>?_⟩
     repeat refine⟨by omega,?_⟩
     refine an hH ?_
     simp only[↓zq,zs,ah,zt]
     refine an hvh ?_
     simp only[vh,↓zq,zs,ah,zt,bC,bg]
     refine⟨by simp[dc],fun _=>?_,fun h=>absurd rfl h⟩
     repeat refine⟨by omega,?_⟩
     refine an (DY m y (by omega) a env t1 ⟨ok2,A.wf,ha,f1⟩ hy s v) ?_
     simp only[↓zq,zs,ah,zt,aK]
     repeat refine⟨by omega,?_⟩
     refine an (wu _ _) ?_
     simp only[↓zq,zs,ah,zt,aK]
     repeat refine⟨by omega,?_⟩
     exact⟨rfl,rfl⟩
    ·simp only[Vl.nodes]at hm
     have hW:=P2.of (.atom [114]) y.cb
     simp only[Vl.cb,ca]at hvh
     simp only[DS,ca,Vl.cb,toNat_one,bf,↓zq,zs,ah,zt,hP.1,hP.2.1,hP.2.2.1,hP.2.2.2,hW.1,hW.2.1,hW.2.2,aK]
     refine⟨fun h=>absurd rfl h,fun _=>?_⟩
     repeat refine⟨by omega,?_⟩
     refine an hH ?_
     simp only[↓zq,zs,ah,zt]
     refine an hvh ?_
     simp only[vh,↓zq,zs,ah,zt,bC,bg]
     refine⟨by simp[dc],fun h=>by simp at h,fun _=>⟨fun _=>?_,fun h=>absurd rfl h⟩⟩
     repeat refine⟨by omega,?_⟩
     refine an (DY m y (by omega) b env t2 ⟨ok3,A.wf,hbb,f2⟩ hy s v) ?_
     simp only[↓zq,zs,ah,zt,aK]
     repeat refine⟨by omega,?_⟩
     refine an (wu _ _) ?_
     simp only[↓zq,zs,ah,zt,aK]
     repeat refine⟨by omega,?_⟩
     exact⟨rfl,rfl⟩
   ·obtain⟨ok1,ok2,ok3,_⟩:=A.ok
    obtain⟨f1,f2⟩:=fj A.cl
    have hP:=P3.of x a b
    have hH:aB Tryz.prog 29 [.agg [.v (.string (mk [])),(E.list [x,a,b]).sp]] [] (bU (.v (.string (mk [42])))):=by rw[<-hx];exact uy x [a,b]
    rcases zj hc with⟨y,z,rfl,hy⟩|⟨y,z,rfl,hy⟩
    ·simp only[Vl.nodes]at hm
     have hW:=P2.of (.atom [108]) (E.list [.atom [112],y.cb,z.cb])
     have hQ:=P3.of (.atom [112]) y.cb z.cb
     simp only[Vl.cb,ca]at hvh
     simp only[DS,ca,Vl.cb,toNat_one,bf,↓zq,zs,ah,zt,hP.1,hP.2.1,hP.2.2.1,hP.2.2.2,hW.1,hW.2.1,hW.2.2,hQ.1,hQ.2.1,hQ.2.2.1,hQ.2.2.2,aK]
     refine⟨fun h=>absurd rfl h,fun _=>?_⟩
     repeat refine⟨by omega,?_⟩
     refine an hH ?_
     simp only[↓zq,zs,ah,zt]
     refine an hvh ?_
     simp only[vh,↓zq,zs,ah,zt,bC,bg]
     refine⟨by simp[dc],fun h=>by simp at h,fun _=>⟨fun h=>by simp at h,fun _=>⟨fun _=>?_,fun h=>absurd rfl h⟩⟩⟩
     repeat refine⟨by omega,?_⟩
     refine an (DY m y (by omega) a env t1 ⟨ok2,A.wf,ha,f1⟩ hy s v) ?_
     simp only[↓zq,zs,ah,zt,aK]
     repeat refine⟨by omega,?_⟩
     refine an (zF _ _ _) ?_
     simp only[↓zq,zs,ah,zt,aK]
     repeat refine⟨by omega,?_⟩
     exact⟨rfl,rfl⟩
    ·simp only[Vl.nodes]at hm
     have hW:=P2.of (.atom [114]) (E.list [.atom [112],y.cb,z.cb])
     have hQ:=P3.of (.atom [112]) y.cb z.cb
     simp only[Vl.cb,ca]at hvh
     simp only[DS,ca,Vl.cb,toNat_one,bf,↓zq,zs,ah,zt,hP.1,hP.2.1,hP.2.2.1,hP.2.2.2,hW.1,hW.2.1,hW.2.2,hQ.1,hQ.2.1,hQ.2.2.1,hQ.2.2.2,aK]
     refine⟨fun h=>absurd rfl h,fun _=>?_⟩
     repeat refine⟨by omega,?_⟩
     refine an hH ?_
     simp only[↓zq,zs,ah,zt]
     refine an hvh ?_
     simp only[vh,↓zq,zs,ah,zt,bC,bg]
     refine⟨by simp[dc],fun h=>by simp at h,fun _=>⟨fun h=>by simp at h,fun _=>⟨fun h=>by simp at h,fun _=>⟨fun _=>?_,fun h=>absurd rfl h⟩⟩⟩⟩
     repeat refine⟨by omega,?_⟩
     refine an (DY m z (by omega) b env t2 ⟨ok3,A.wf,hbb,f2⟩ hy s v) ?_
     simp only[↓zq,zs,ah,zt,aK]
     repeat refine⟨by omega,?_⟩
     refine an (zF _ _ _) ?_
     simp only[↓zq,zs,ah,zt,aK]
     repeat refine⟨by omega,?_⟩
     exact⟨rfl,rfl⟩
   ·obtain⟨t1',he1,h1,f1,hw1⟩:=jH A.wf A.ok hx A.ty A.cl
    cases he1
    obtain⟨ok1,ok2,ok3,_⟩:=A.ok
    have A':Ask b (.mk a.at (.list [x,a,b]) env::env) t1:=⟨ok3,hw1,h1,f1⟩
    have hP:=P3.of x a b
    have hH:aB Tryz.prog 29 [.agg [.v (.string (mk [])),(E.list [x,a,b]).sp]] [] (bU (.v (.string (mk [114,101,99])))):=by rw[<-hx];exact uy x [a,b]
    rcases GR hc with⟨y,rfl,hy⟩|⟨y,z,rfl,hy,hz⟩
    ·simp only[Vl.nodes]at hm
     have hW:=P2.of (.atom [102]) (E.list [.atom [108],y.cb])
     have hQ:=P2.of (.atom [108]) y.cb
     have hvi:=BA (.l y)
     rw[dy]at hvi
     simp only[Vl.cb,ca]at hvh hvi
     simp only[DS,ca,Vl.cb,toNat_one,bf,↓zq,zs,ah,zt,hP.1,hP.2.1,hP.2.2.1,hP.2.2.2,hW.1,hW.2.1,hW.2.2,hQ.1,hQ.2.1,hQ.2.2,aK]
     refine⟨fun h=>absurd rfl h,fun _=>?_⟩
     repeat refine⟨by omega,?_⟩
     refine an hH ?_
     simp only[↓zq,zs,ah,zt]
     refine an hvh ?_
     simp only[vh,↓zq,zs,ah,zt,bC,bg]
     refine⟨by simp[dc],fun h=>by simp at h,fun _=>⟨fun h=>by simp at h,fun _=>⟨fun h=>by simp at h,fun _=>⟨fun h=>by simp at h,fun _=>?_⟩⟩⟩⟩
     repeat refine⟨by omega,?_⟩
     refine an hvi ?_
     simp only[vh,↓zq,zs,ah,zt]
     refine⟨fun _=>?_,fun h=>absurd rfl h⟩
     repeat refine⟨by omega,?_⟩
     refine an (DY m y (by omega) b _ t1 A' hy s v) ?_
     simp only[↓zq,zs,ah,zt,aK]
     repeat refine⟨by omega,?_⟩
     refine an (wu _ _) ?_
     simp only[↓zq,zs,ah,zt,aK]
     repeat refine⟨by omega,?_⟩
     exact⟨rfl,rfl⟩
    ·simp only[Vl.nodes]at hm
     have hW:=P2.of (.atom [102]) (E.list [.atom [114],E.list [.atom [112],y.cb,z.cb]])
     have hQ:=P2.of (.atom [114]) (E.list [.atom [112],y.cb,z.cb])
     have hR:=P3.of (.atom [112]) y.cb z.cb
     have hvi:=BA (.r (.p y z))
     rw[dy]at hvi
     simp only[Vl.cb,ca]at hvh hvi
     simp only[DS,ca,Vl.cb,toNat_one,bf,↓zq,zs,ah,zt,hP.1,hP.2.1,hP.2.2.1,hP.2.2.2,hW.1,hW.2.1,hW.2.2,hQ.1,hQ.2.1,hQ.2.2,hR.1,hR.2.1,hR.2.2.1,hR.2.2.2,aK]
     refine⟨fun h=>absurd rfl h,fun _=>?_⟩
     repeat refine⟨by omega,?_⟩
     refine an hH ?_
     simp only[↓zq,zs,ah,zt]
     refine an hvh ?_
     simp only[vh,↓zq,zs,ah,zt,bC,bg]
     refine⟨by simp[dc],fun h=>by simp at h,fun _=>⟨fun h=>by simp at h,fun _=>⟨fun h=>by simp at h,fun _=>⟨fun h=>by simp at h,fun _=>?_⟩⟩⟩⟩
     repeat refine⟨by omega,?_⟩
     refine an hvi ?_
     simp only[vh,↓zq,zs,ah,zt]
     refine⟨fun h=>by simp at h,fun _=>?_⟩
     repeat refine⟨by omega,?_⟩
     have i1:=DY m z (by omega) (.list [x,a,b]) env (.rc t1) A hz s v
     unfold NN at i1
     simp only[ca]at i1
     refine an i1 ?_
     simp only[↓zq,zs,ah,zt,aK]
     repeat refine⟨by omega,?_⟩
     refine an (DY m y (by omega) b _ t1 A' hy a.at (ct (.rc t1) z v)) ?_
     simp only[↓zq,zs,ah,zt,aK]
     repeat refine⟨by omega,?_⟩
     refine an (wu _ _) ?_
     simp only[↓zq,zs,ah,zt,aK]
     repeat refine⟨by omega,?_⟩
     exact⟨rfl,rfl⟩
  ·cases e with
   |atom s0=>exact atomCase _ rfl (rQ _ _ _)
   |list l=>exact absurd hq (by rw[show (E.list l).at=[] from rfl,ky A.wf];simp)
end Go.Proofs.Trees
namespace Go.Proofs.Trees
open Go Go.VL Go.RowKit
def fF(s v:List UInt8):Option (List Pt):=match gq s,eV s v with
 |some a,some w=>if(parts a w).length<=100 then some (parts a w)else none
 |_,_=>none
theorem qE:∀(n:Nat) (a:Ty) (p q:Pt),q∈jb n a p->q.1.nodes<=p.1.nodes/\(∀m,p.1.dW m->q.1.dW m)
 |0,a,p,q,h=>by cases h
 |
  n+1,a,p,q,h=>by
  rcases aI.1 h with rfl|h
  ·exact⟨aq _,fun m h=>h⟩
  ·obtain⟨r,h1,h2⟩:=cu.1 h
   obtain⟨k,h3,h4⟩:=mz h1
   obtain⟨q1,q2⟩:=qE n a r q h2
   have:=ot h3
   rw[h4]at q1 q2
   exact⟨by omega,fun m hm=>q2 m (mJ hm h3).2⟩
theorem rK{s v:List UInt8}{l:List Pt}(h:fF s v=some l):l.length<=100/\∀q,q∈l->q.1.nodes<=200/\q.1.dW 100/\q.1.dw.length<=40000:=by
 unfold fF at h
 split at h
 ·rename_i a w ha hw
  obtain⟨a',x,A,B,L⟩:=iw hw
  split at h
  ·rename_i hl
   cases h
   refine⟨hl,fun q hq=>?_⟩
   obtain⟨h1,h2⟩:=qE _ _ _ _ hq
   have hb:=h2 100 L.dW
   have hn:=L.nodes
   have:=fq q.1 hb
   simp only at h1
   exact⟨by omega,hb,by omega⟩
  ·cases h
 ·cases h
def Jm(f:List Pt->List (List AV))(s v:List UInt8):AV->List Ob->Prop:=fun r o=>o=[]/\∃x,LK.sl.has x/\r=.cP [x,.v (.bool (fF s v).isSome)]/\∀l,fF s v=some l->x=.sl (f l)
theorem Jm.ne(f:List Pt->List (List AV))(s v:List UInt8):∃r o,Jm f s v r o:=by
 cases h:fF s v with
 |none=>exact⟨_,_,rfl,.sl [],(cE _).mpr trivial,rfl,fun l hl=>by rw[h]at hl;cases hl⟩
 |some l=>exact⟨_,_,rfl,.sl (f l),(cE _).mpr trivial,rfl,fun l' hl=>by rw[h]at hl;cases hl;rfl⟩
def u9(l:List Pt):List (List UInt8):=l.map fun p=>p.1.dw
def vW(s v:List UInt8):List (List UInt8):=match fF s v with
 |some l=>u9 l
 |none=>[]
theorem Cw(s v:List UInt8):(vW s v).length<=1000:=by
 unfold vW
 cases h:fF s v with
 |none=>simp
 |some l=>have:=(rK h).1;simp[u9];omega
end Go.Proofs.Trees
namespace Go.Proofs.Trees
open Go Go.VL Go.RowKit
def lf:E->Option E
 | .list [x,a,b]=>if x.at=[114,101,99]then some (.list [x,a,b])else none
 |_=>none
def oS(s:List UInt8):Option E:=match jk s with
 |some e=>lf e
 |none=>none
theorem Jc(s:List UInt8):aB Tryz.prog 9 [.v (.string (mk s))] [] (kt (oS s) (oS s).isSome):=by
 refine MA _ ?_
 unfold Lv
 refine aU (GW s) (kt.ne _ _ (fun h=>h)) ?_
 rintro r o ⟨c,d,hd,rfl,hh⟩
 have hhas:cc [.str,.sl] [.v (.string (mk c)),d] 0:=by simp[cc,dU,hd]
 simp only[↓zq,zs,ah,zt]
 refine⟨hhas,fun h=>?_,fun h=>?_⟩
 ·obtain⟨e,he,hce⟩:=hh h
  obtain⟨t,h1,hA,h3,h4,h5,_⟩:=gC he
  have hce':=hce
  rw[dy]at hce'
  simp only[AV.agg.injEq,List.cons.injEq,AV.v.injEq,Value.string.injEq,and_true]at hce'
  obtain⟨hc1,rfl⟩:=hce'
  have hc2:=mk_inj hc1
  subst hc2
  have head:∀w:List UInt8,aB Tryz.prog 29 [.agg [.v (.string (mk e.at)),e.sp]] [] (bU (.v (.string (mk w))))->(w=[114,101,99]↔(lf e).isSome=true)->((lf e).isSome=true->lf e=some e) ->
   eH Tryz.prog 18 (Tree.call 29 [.agg [.v (.string (mk e.at)),e.sp]] [] fun r2 o2=>Tree.al (LK.str.has r2) (Tree.done 0 [.cP [.agg [.v (.string (mk e.at)),e.sp],.v (.bool (ae r2.toStr==[114,101,99]))]] [])) fun _ xs obs=>kt (oS s) (oS s).isSome (xs.headD .any) obs:=by
   intro w hw h1 h2
   refine an hw ?_
   simp only[↓zq,zs,ah,zt]
   refine⟨e.at,e.sp,hd,?_,fun hs=>⟨e,?_,(dy e).symm⟩⟩
   ·congr 3
    simp only[oS,he,AV.v.injEq,Value.bool.injEq,List.cons.injEq,and_true]
    rw[cL];simpa using h1
   ·simp only[oS,he]at hs |-;exact h2 hs
  have hl:∀x l,e=.list (x::l)->aB Tryz.prog 29 [.agg [.v (.string (mk e.at)),e.sp]] [] (bU (.v (.string (mk x.at)))):=by
   rintro x l rfl;exact uy x l
  have ha:∀s0,e=.atom s0->aB Tryz.prog 29 [.agg [.v (.string (mk e.at)),e.sp]] [] (bU (.v (.string (mk [])))):=by
   rintro s0 rfl;exact zU s0 _ ((bp).mpr trivial) hA.ok
  rcases i7 hA.wf hA.ty with⟨hb,_⟩|⟨u,g,rfl,_,hg⟩
  ·rcases fK hA.ty hb hA.cl with⟨rfl,rfl⟩|⟨rfl,rfl⟩|⟨s0,rfl,rfl,hp,h0,h1⟩|⟨x,a,b,t1,t2,rfl,hx,rfl,ha',hbb⟩|⟨x,a,b,t1,t2,rfl,hx,rfl,ha',hbb⟩|⟨x,a,b,t1,rfl,hx,rfl⟩
   ·exact head _ (ha _ rfl) (by simp[lf]) (by simp[lf])
   ·exact head _ (ha _ rfl) (by simp[lf]) (by simp[lf])
   ·exact head _ (ha _ rfl) (by simp[lf]) (by simp[lf])
   ·exact head _ (hl _ _ rfl) (by simp[lf,hx]) (by simp[lf,hx])
   ·exact head _ (hl _ _ rfl) (by simp[lf,hx]) (by simp[lf,hx])
   ·exact head _ (hl _ _ rfl) (by simp[lf,hx]) (by simp[lf,hx])
  ·simp at hg
 ·have hn:jk s=none:=by cases hq:jk s<;>simp[hq]at h |-
  refine⟨c,d,hd,?_,fun h=>?_⟩
  ·simp[oS,hn]
  ·simp[oS,hn]at h
theorem nQ(s:List UInt8):(oS s).isSome=(gq s).isSome:=by
 unfold oS gq
 cases h:jk s with
 |none=>rw[mM h];rfl
 |
  some e =>
  obtain⟨t,h1,hA,h3,h4,h5,_⟩:=gC h
  rw[h1]
  simp only
  rcases i7 hA.wf hA.ty with⟨hb,_⟩|⟨u,g,rfl,_,hg⟩
  ·rcases fK hA.ty hb hA.cl with⟨rfl,rfl⟩|⟨rfl,rfl⟩|⟨s0,rfl,rfl,hp,h0,h1⟩|⟨x,a,b,t1,t2,rfl,hx,rfl,ha',hbb⟩|⟨x,a,b,t1,t2,rfl,hx,rfl,ha',hbb⟩|⟨x,a,b,t1,rfl,hx,rfl⟩<;>simp_all[lf]
  ·simp at hg
theorem LV.le{s v:List UInt8}{w:Vl}{a:Ty}{x A B:E}(h:LV s v w a x A B):oS s=some (.list [x,A,B]):=by
 unfold oS;rw[h.ce];simp[lf,h.hx]
theorem GH(n:Nat)(v:Vl)(x A B:E)(a:Ty)(hA:Ask B [.mk A.at (.list [x,A,B]) []] a)(hx:x.at=[114,101,99])(w:Vl)(hw:v=.f w)(hv:eU n v (.list [x,A,B],[])=true)(hl:v.nodes<90000) :
 aB Tryz.prog 34 [.agg [.v (.string (mk B.at)),B.sp],.v (.string (mk A.at)),.agg [.v (.string (mk w.cb.at)),w.cb.sp]] [] (bU (.sl (kR (kids a v)))):=by
 subst hw
 obtain⟨w',e,hw'⟩:=tG .nil hx hv
 cases e
 simp only[Vl.nodes]at hl
 have hnm:names [Fr.mk A.at (.list [x,A,B]) []]=[]++[A.at]:=rfl
 have h:=El n w.nodes w (aq _) B _ a hA hw' (by simp;omega) A.at (by rw[hnm];right;rw[gF];rfl)
 rw[hnm,vB]at h
 exact h
end Go.Proofs.Trees
namespace Go.Proofs.Trees
open Go Go.VL Go.RowKit
def l6(l:List Pt):List (List AV):=l.map fun p=>[.sl (gn p.2),.v (.string (mk p.1.dw)),.v (.string (mk []))]
theorem kO(l:List Pt):(l6 l).length=l.length:=by simp[l6]
theorem AF{l:List Pt}{i:Nat}(hi:i<l.length):(l6 l).getD i []=[.sl (gn (l[i]).2),.v (.string (mk (l[i]).1.dw)),.v (.string (mk []))]:=by simp[l6,aa,hi]
theorem BS(out:List Pt)(p:Pt):l6 out++[[.sl (gn p.2),.v (.string (mk p.1.dw)),.v (.string (mk []))]]=l6 (out++[p]):=by simp[l6]
theorem NO(a b c:AV):cI 3 [[a,b,c]]:=fun x hx=>by simp at hx;rw[hx];rfl
def Eh(x A B:E)(a:Ty)(n:Nat)(q:Pt):Prop:=∀out:List Pt,out.length+q.1.nodes<=600->aB Tryz.prog 67 [.agg [.v (.string (mk [])),(E.list [x,A,B]).sp],.agg [.v (.string (mk q.1.cb.at)),q.1.cb.sp],.sl (gn q.2),.vec 0] [.vec 3 (l6 out)] (fZ (.vec 1) [.dead,.vec 3 (l6 (lM n a out q))])
abbrev yi(n:Nat)(a:Ty):List Pt->Pt->List Pt:=fun o q=>if o.length<=100 then lM n a o q else o
theorem rG(n:Nat)(a:Ty):∀(l:List Pt) (o:List Pt),100<o.length->l.foldl (yi n a) o=o
 |[],_,_=>rfl
 |q::l,o,h=>by rw[List.foldl_cons,yi,if_neg (by omega)];exact rG n a l o h
theorem Hz(x A B:E)(a:Ty)(n:Nat)(pl:List Nat)(hpl:pl.length<=1000)(l:List Hl)(hl:l.length<=1000)(ih:∀q,q∈lT pl l 0->Eh x A B a n q)(hn:∀q,q∈lT pl l 0->q.1.nodes<=n):∀(k i:Nat) (out:List Pt),i+k=l.length->out.length+ia (l.drop i)<=600->(∀q,q∈lT pl (l.drop i) i->q∈lT pl l 0) ->
 Fs [.sl (gn pl),.sl (kR l),.v (.int .i64 (i:Int))] [.cells [.v (.string (mk [])),(E.list [x,A,B]).sp],.vec 3 (l6 out)] (kl 1 [] [.vec 3 (l6 ((lT pl (l.drop i) i).foldl (yi n a) out))])
 |
  0,i,out,hi,ho,hm=>by
  refine JO _ _ _ _ _ _ ?_
  have:i=l.length:=by omega
  subst this
  simp only[Fy,↓zq,zs,ah,eA,aX]
  exact⟨fun h=>by omega,fun _=>by simp[kl,lT]⟩
 |
  k+1,i,out,hi,ho,hm=>by
  have hlt:i<l.length:=by omega
  have hd:=yK pl l hlt
  rw[hd]at hm |-
  have hq:=hm _ ag
  have hsum:ia (l.drop i)=(l[i]).2.nodes+ia (l.drop (i+1)):=by rw[aP hlt];rfl
  have hw:=(qN n a ((l[i]).2,pl++[i]) (hn _ hq) out).2.2.2
  have hp:=nr n a ((l[i]).2,pl++[i])
  simp only at hw hp
  refine JO _ _ _ _ _ _ ?_
  simp only[Fy,↓zq,zs,ah,zt,eA,fM hlt,aK,aX,bg,qG,wm,kO]
  refine⟨fun _=>⟨fun hle=>?_,fun hgt=>?_⟩,fun h=>by omega⟩
  ·repeat refine⟨by omega,?_⟩
   refine⟨⟨u3 _,by omega⟩,⟨xA _,by omega⟩,?_⟩
   have hcall:=ih _ hq out (by show out.length+(l[i]).2.nodes<=600;omega)
   refine bJ hcall ?_
   simp only[↓zq,zs,ah]
   rw[bX i (by omega),List.foldl_cons,show yi n a out ((l[i]).2,pl++[i])=lM n a out ((l[i]).2,pl++[i]) from if_pos (by omega)]
   exact Hz x A B a n pl hpl l hl ih hn k (i+1) _ (by omega) (by omega) (fun q hq=>hm q (ai _ hq))
  ·rw[rG n a _ _ (by omega)]
   simp[kl]
theorem Ly(c:Nat)(x A B:E)(a:Ty)(hA:Ask B [.mk A.at (.list [x,A,B]) []] a)(hx:x.at=[114,101,99]):∀(n:Nat) (q:Pt),q.1.nodes<=n->n<=200->q.2.length+n<=200->q.1.dW 100->eU c q.1 (.list [x,A,B],[])=true->Eh x A B a n q
 |0,q,h,_,_,_,_=>by have:=ba q.1;omega
 |
  n+1,q,h,hn,hpl,hb,hv=>by
  intro out ho
  have hk:=sW a q.1
  have hkl:=qZ (kids a q.1)
  have htx:=fq q.1 hb
  obtain⟨w,hqw,hw⟩:=tG .nil hx hv
  have hP:=P3.of x A B
  have hW:=P2.of (.atom [102]) w.cb
  have hqe:q.1.cb=.list [.atom [102],w.cb]:=by rw[hqw];rfl
  have htext:=Eo q.1.cb (mb _) (by show q.1.dw.length<=900000;omega)
  rw[dy]at htext
  refine LU _ _ _ _ _ _ ((aX _).mpr trivial) ((aX _).mpr trivial) ((cE _).mpr trivial) ?_
  unfold I4
  refine an htext ?_
  have ol:(out++[q]).length=out.length+1:=by simp
  rw[hqe]
  simp only[↓zq,zs,ah,zt,kO,toNat_one,bf,hP.1,hP.2.1,hP.2.2.1,hP.2.2.2,hW.1,hW.2.1,hW.2.2,aK]
  refine⟨⟨NO _ _ _,by omega⟩,?_⟩
  repeat refine⟨by omega,?_⟩
  refine an (GH c q.1 x A B a hA hx w hqw hv (by omega)) ?_
  simp only[↓zq,zs,ah]
  have hl:=Hz x A B a n q.2 (by omega) (kids a q.1) (by omega) (fun r hr=>by
   obtain⟨k,h1,h2⟩:=mz hr
   have:=ot h1
   have hlen:r.2.length=q.2.length+1:=by
    have:∀(l:List Hl) (i:Nat),r∈lT q.2 l i->r.2.length=q.2.length+1:=by
     intro l
     induction l with
     |nil=>intro i hh;cases hh
     |
      cons k l ih =>
      intro i hh
      rcases aI.1 hh with rfl|hh
      ·simp
      ·exact ih _ hh
    exact this _ _ hr
   exact Ly c x A B a hA hx n r (by rw[h2];omega) (by omega) (by omega) (by rw[h2];exact(mJ hb h1).2) (by rw[h2];exact BM hA .nil hx hv h1)) (fun r hr=>by
   obtain⟨k,h1,h2⟩:=mz hr
   have:=ot h1
   rw[h2];omega) (kids a q.1).length 0 (out++[q]) (by omega) (by rw[zc,ol];omega) (fun r hr=>hr)
  rw[bz]at hl
  rw[show l6 out++[[.sl (gn q.2),.v (.string (mk (fy (.list [.atom [102],w.cb])))),.v (.string (mk []))]]=l6 (out++[q]) by rw[<-hqe];exact BS out q]
  refine db hl ?_
  rw[lM];simp[↓zq,zs,ah,fZ]
theorem L4(s v:List UInt8):aB Tryz.prog 48 [.v (.string (mk s)),.v (.string (mk v))] [] (Jm l6 s v):=by
 refine NU _ _ ?_
 unfold Hx
 refine aU (Jc s) (kt.ne _ _ (fun h=>h)) ?_
 rintro r o ⟨c,d,hd,rfl,hh⟩
 have hhas:cc [.str,.sl] [.v (.string (mk c)),d] 0:=by simp[cc,dU,hd]
 simp only[↓zq,zs,ah,zt]
 refine⟨hhas,?_⟩
 refine aU (Da v) (kt.ne _ _ (fun h=>by cases hq:qy v<;>simp[hq]at h |-)) ?_
 rintro r o ⟨c',d',hd',rfl,hh'⟩
 have hhas':cc [.str,.sl] [.v (.string (mk c')),d'] 0:=by simp[cc,dU,hd']
 simp only[↓zq,zs,ah,zt]
 have none1:fF s v=none->Jm l6 s v (.cP [.sl [],.v (.bool false)]) []:=fun hn=>⟨rfl,.sl [],(cE _).mpr trivial,by rw[hn];rfl,fun l hl=>by rw[hn]at hl;cases hl⟩
 refine⟨hhas',fun h=>none1 ?_,fun h=>?_⟩
 ·rw[nQ]at h
  have:gq s=none:=by cases hq:gq s<;>simp[hq]at h |-
  unfold fF;rw[this]
 ·refine an (Ca s v 100) ?_
  simp only[↓zq,zs,ah]
  refine⟨fun h2=>none1 ?_,fun h2=>?_⟩
  ·have:ng s v 100=none:=by cases hq:ng s v 100<;>simp[hq]at h2 |-
   have:eV s v=none:=by unfold eV;rw[this];cases gq s<;>rfl
   unfold fF;rw[this];cases gq s<;>rfl
  ·obtain⟨w,hw⟩:=a7.1 h2
   rw[nQ]at h
   obtain⟨a0,ha0⟩:=a7.1 h
   have hlv:eV s v=some w:=by unfold eV;rw[ha0];exact hw
   obtain⟨a,x,A,B,L⟩:=iw hlv
   obtain⟨e,he,hce⟩:=hh (by rw[L.le];rfl)
   rw[L.le]at he;cases he
   obtain⟨e2,he2,hce2⟩:=hh' (by rw[L.v];rfl)
   rw[L.v]at he2;cases he2
   rw[hce,hce2,dy,dy]
   have hnd:=L.nodes
   obtain⟨p1,p2,p3⟩:=wx a w
   have hs:=Ly 100 x A B a L.body L.hx w.nodes (w,[]) (aq _) hnd (by simp;omega) L.dW L.eU [] (by simp;omega)
   refine bJ hs ?_
   simp only[↓zq,zs,ah,kO]
   refine⟨rfl,.sl (l6 (lM w.nodes a [] (w,[]))),(cE _).mpr trivial,?_,fun l hl=>?_⟩
   ·congr 4
    have:fF s v=if(parts a w).length<=100 then some (parts a w)else none:=by unfold fF;rw[L.l,hlv]
    rw[this]
    by_cases hc:(parts a w).length<=100
    ·rw[if_pos hc,p1 hc];simp;omega
    ·rw[if_neg hc];have:=p2 (by omega);simp;omega
   ·unfold fF at hl
    rw[L.l,hlv]at hl
    simp only at hl
    split at hl
    ·rename_i hc
     cases hl
     rw[p1 hc]
    ·cases hl
end Go.Proofs.Trees
namespace Go.Proofs.Trees
open Go Go.VL Go.RowKit
def pR(a:AV)(l:List Nat):Prop:=LK.sl.has a/\a.elems=gn l
theorem pR.of(l:List Nat):pR (.sl (gn l)) l:=⟨(cE _).mpr trivial,rfl⟩
theorem pR.nil:pR (.v (.slice none 0 0)) []:=⟨(bp).mpr trivial,rfl⟩
theorem pR.len{a:AV}{l:List Nat}(h:pR a l):a.elems.length=l.length:=by rw[h.2,qG]
theorem pR.idx{a:AV}{l:List Nat}(h:pR a l){i:Nat}(hi:i<l.length):a.elems.getD i []=[.v (.int .i64 (l.getD i 0:Nat))]:=by
 rw[h.2];simp[gn,aa,hi]
end Go.Proofs.Trees
namespace Go.Proofs.Trees
open Go Go.VL Go.RowKit
theorem GU{b:UInt8}(h:gN b=true):eK b=true:=by
 simp only[gN,eK,decide_eq_true_eq]at h |-;omega
theorem Cg{y:Nm}(h:JC y):y≠[]/\y.all eK=true:=by
 have key:∀lo hi,97<=lo->hi<=122->named lo hi y=true->y≠[]/\y.all eK=true:=fun lo hi h1 h2 h=>by
  cases y with
  |nil=>cases h
  |
   cons c r =>
   simp only[named,au,decide_eq_true_eq]at h
   refine⟨by simp,?_⟩
   rw[cO,au]
   refine⟨?_,?_⟩
   ·simp only[eK,decide_eq_true_eq];omega
   ·rw[bH]
    intro b hb
    exact GU (bH.1 h.2 b hb)
 rcases h with h|h
 ·exact key 120 122 (by omega) (by omega) h
 ·exact key 116 116 (by omega) (by omega) h
theorem BU(m:Nat):(tN m).all eK=true:=by
 rw[cO,wH (m+1) m (by omega)];rfl
theorem py(F:List Nm):∀(t:Ty) (to:List Nm) (k:Nat),(∀y,bA y t=true->y≠[]/\y.all eK=true)->(∀w,w∈to->w≠[]/\w.all eK=true)->fh t to.length->(lW F t to k).1.pr
 | .zero,_,_,_,_,_=>⟨by simp,by decide⟩
 | .one,_,_,_,_,_=>⟨by simp,by decide⟩
 | .name s,_,_,hn,_,_=>hn s (by simp[bA])
 |
  .bound u,to,_,_,ht,hl=>by
  have:to.length-1-u<to.length:=by have:u<to.length:=hl;omega
  show (E.atom (hD to u)).pr
  unfold hD
  rw[aa,aV this]
  exact ht _ (bY this)
 | .plus a b,to,k,hn,ht,hl=>⟨by simp,⟨by simp,by decide⟩,py F a to k (fun y hy=>hn y (by simp[bA,hy])) ht hl.1,py F b to _ (fun y hy=>hn y (by simp[bA,hy])) ht hl.2,trivial⟩
 | .times a b,to,k,hn,ht,hl=>⟨by simp,⟨by simp,by decide⟩,py F a to k (fun y hy=>hn y (by simp[bA,hy])) ht hl.1,py F b to _ (fun y hy=>hn y (by simp[bA,hy])) ht hl.2,trivial⟩
 |
  .rc a,to,k,hn,ht,hl=>by
  refine⟨by simp,⟨by simp,by decide⟩,⟨by simp,BU _⟩,py F a (to++[tN (nx F k)]) _ hn (fun w hw=>?_) (by rw[ak];exact hl),trivial⟩
  rcases aH.1 hw with hw|hw
  ·exact ht w hw
  ·simp only[aQ]at hw;rw[hw];exact⟨by simp,BU _⟩
theorem yV{D:Ty}{dt:Nm}(g:jL D)(hn:∀y,bA y D=true->JC y)(h:told D=some dt):vz dt=some D:=by
 unfold told at h
 split at h
 ·rename_i hh
  cases h
  obtain⟨t,ht⟩:=a7.1 hh.2
  obtain⟨e,he,hw,hte,_,_⟩:=rC ht
  obtain⟨h1,_,_⟩:=rn he
  obtain⟨hx,hpr,_⟩:=xr h1
  obtain⟨w1,w2,_⟩:=mI (bK D []) D [] 0 (.nil _ _) g.1 fun y hy=>⟨(fD D [] y).2 (.inr hy),g.2 y hy⟩
  have hp:=py (bK D []) D [] 0 (fun y hy=>Cg (hn y hy)) (fun w hw=>by cases hw) g.1
  have:=A8 hp hpr hx
  rw[ht,<-hte,<-this,w2]
 ·cases h
theorem sL{a d:Ty}{x:Nm}(h:B4 a x=some d):∀y,bA y d=true->bA y a=true:=by
 simp only[B4,cn,qj,ou]at h
 obtain⟨d',h1,_,rfl⟩:=h
 intro y hy
 rcases iN _ hy with h|⟨h,h'⟩
 ·exact h
 ·rcases iU a 0 (h1.names y h')with e|e
  ·exact absurd e h
  ·exact e
structure ZT(s d:Nm)(a:Ty)(x A B:E)(D:Ty):Prop where
 l:gq s=some a
 ce:jk s=some (.list [x,A,B])
 ask:Ask (.list [x,A,B]) [] (.rc a)
 hx:x.at=[114,101,99]
 body:Ask B [.mk A.at (.list [x,A,B]) []] a
 dl:iP s=some d
 y:vz s=some (.rc a)
 lp:B4 a sn=some D
 bk:vz d=some D
theorem ua{s:Nm}{t:Ty}(h:wJ s=some t):vz s=some t:=by
 unfold wJ at h
 split at h
 ·cases h
 ·rename_i u hu
  split at h
  ·cases h;exact hu
  ·cases h
theorem ZT.of{s d:Nm}{a:Ty}(hl:gq s=some a)(hd:iP s=some d):∃x A B D,ZT s d a x A B D:=by
 have hc:=qm hl
 cases hce:jk s with
 |none=>rw[mM hce]at hc;cases hc
 |
  some e =>
  obtain⟨t,h1,hA,_⟩:=gC hce
  rw[hc]at h1;cases h1
  obtain⟨x,A,B,rfl,hx,hA',hB⟩:=sg hA
  have hy:=ua hc
  have hd':=hd
  unfold iP at hd'
  rw[hy]at hd'
  obtain⟨D,h2,h3⟩:=cn.1 hd'
  obtain⟨e2,he2,hw2,hte2,_,_⟩:=rC hy
  have hg:=Ac hw2 hte2 (x:=sn) ⟨by simp,by simp,by simp⟩ h2
  exact⟨x,A,B,D,hl,hce,hA,hx,hB,hd,hy,h2,yV hg.1 (fun y hy'=>sr hy y (sL h2 y hy')) h3⟩
structure Cx(a:Ty)(w:Vl):Prop where
 ok:dq a w=true
 ty:∀v,vT 100 v (.rc a)=true->vT 100 (.f (ct a w v)) (.rc a)=true
 dW:w.dW 100
 nd:w.nodes<=200
structure Fo(a:Ty)(v:Vl):Prop where
 ty:vT 100 v (.rc a)=true
 dW:v.dW 100
 nd:v.nodes<=200
theorem ZT.ctx{s d:Nm}{a:Ty}{x A B:E}{D:Ty}(z:ZT s d a x A B D){c:Nm}{w:Vl}(h:ng d c 100=some w):Cx a w:=by
 obtain⟨e,t,m,h1,h2,h3,h4,h5,h6,h7⟩:=rH h
 have hm:m=100:=by omega
 subst hm
 have:=ua h3
 rw[z.bk]at this;cases this
 rw[jn h4]at h7
 obtain⟨e2,he2,hw2,hte2,_,_⟩:=rC z.y
 have hlc:fh (.rc a) 0:=hte2 ▸ hw2.CD.1
 obtain⟨q1,q2⟩:=Hb (Ao z.y) hlc z.lp h7
 exact⟨q1,q2,(kX h2).2.1,(kX h2).2.2⟩
theorem ZT.B3{s d:Nm}{a:Ty}{x A B:E}{D:Ty}(z:ZT s d a x A B D){f:Nm}{v:Vl}(h:eV s f=some v):Fo a v/\f=v.dw:=by
 obtain⟨a',x',A',B',L⟩:=iw h
 have:=L.l
 rw[z.l]at this;cases this
 exact⟨⟨by rw[<-jn L.ask];exact L.eU,L.dW,L.nodes⟩,kZ L.v⟩
theorem Fo.eU{s d:Nm}{a:Ty}{x A B:E}{D:Ty}(z:ZT s d a x A B D){v:Vl}(h:Fo a v):eU 100 v (.list [x,A,B],[])=true:=by rw[jn z.ask];exact h.ty
theorem ZT.dw{s d:Nm}{a:Ty}{x A B:E}{D:Ty}(z:ZT s d a x A B D){w:Vl}(hb:w.dW 100)(hv:vT 100 w (.rc a)=true):ng s w.dw 100=if w.nodes<=200 then some w else none:=by
 unfold ng
 rw[z.ce]
 by_cases hn:w.nodes<=200
 ·rw[tV hb hn,if_pos hn]
  simp only
  rw[if_pos ⟨by omega,by rw[show (100:Int).toNat=100 from rfl,jn z.ask];exact hv⟩]
 ·rw[if_neg hn]
  cases q:qy w.dw with
  |none=>rfl
  |
   some w' =>
   exfalso
   obtain⟨_,h2,h3⟩:=kX q
   have:=tD hb h2 (kZ q)
   rw[this]at hn;exact hn h3
theorem ZT.lv{s d:Nm}{a:Ty}{x A B:E}{D:Ty}(z:ZT s d a x A B D)(f:Nm):eV s f=ng s f 100:=by
 unfold eV;rw[z.l]
def ig(d:Nm):List Nm->Option (List Vl)
 |[]=>some []
 |
  c::r=>match ng d c 100,ig d r with
  |some w,some l=>some (w::l)
  |_,_=>none
theorem rl{s d:Nm}{a:Ty}{x A B:E}{D:Ty}(z:ZT s d a x A B D):∀(p:List Nm) (l:List Vl),ig d p=some l->p=l.map (·.dw)/\∀c,c∈l->Cx a c
 |[],l,h=>by cases h;exact⟨rfl,fun c hc=>by cases hc⟩
 |
  c::r,l,h=>by
  simp only[ig]at h
  split at h
  ·rename_i w l' h1 h2
   cases h
   obtain⟨q1,q2⟩:=rl z r l' h2
   obtain⟨_,_,_,_,hv,_⟩:=rH h1
   refine⟨by rw[a6,<-q1,<-kZ hv],fun c' hc'=>?_⟩
   rcases aI.1 hc' with rfl|hc'
   ·exact z.ctx h1
   ·exact q2 c' hc'
  ·cases h
theorem s6(d:Nm):∀(p q:List Nm),ig d (p++q)=(ig d p).bind fun l=>(ig d q).map (l++·)
 |[],q=>by cases h:ig d q<;>simp[ig,h]
 |
  c::p,q=>by
  simp only[bC,ig,s6 d p q]
  cases ng d c 100 with
  |none=>rfl
  |
   some w =>
   cases ig d p with
   |none=>rfl
   |some l=>cases ig d q<;>rfl
noncomputable def Gl (s:Nm) (p:List Nm) (f:Nm):Option (List Vl×Vl):=match eV s f,iP s with
 |some v,some d=>if p.length<=50 then(ig d p).map fun l=>(l,v)else none
 |_,_=>none
def zA(s:Nm):Ty:=(gq s).getD .zero
def Ee(a:Ty)(l:List Vl)(v:Vl):Option (List Vl×Vl):=match l.getLast? with
 |none=>none
 |some c=>if(Vl.f (ct a c v)).nodes<=200 then some (l.dropLast,.f (ct a c v))else none
def qS:Nat->Ty->List Vl->Vl->Option Vl
 |0,_,_,v=>some v
 |n+1,a,l,v=>(Ee a l v).bind fun r=>qS n a r.1 r.2
def yX(a:Ty)(l:List Vl)(v:Vl):Option Vl:=qS l.length a l v
noncomputable def vU (s:Nm) (p:List Nm) (f:Nm):Option (List Vl×Vl):=(Gl s p f).bind fun r=>if(yX (zA s) r.1 r.2).isSome=true then some r else none
structure ZI(a:Ty)(l:List Vl)(v:Vl):Prop where
 ctx:∀c,c∈l->Cx a c
 B3:Fo a v
theorem Fw{a:Ty}{l l':List Vl}{v w:Vl}(h:ZI a l v)(hu:Ee a l v=some (l',w)):ZI a l' w/\l'.length+1=l.length/\∃c,l=l'++[c]/\w=.f (ct a c v):=by
 unfold Ee at hu
 cases q:l.getLast? with
 |none=>rw[q]at hu;cases hu
 |
  some c =>
  rw[q]at hu
  simp only at hu
  split at hu
  ·rename_i hn
   cases hu
   have hne:l≠[]:=by rintro rfl;cases q
   have hl:l.dropLast++[c]=l:=by
    have:=List.dropLast_concat_getLast hne
    rw[List.getLast?_eq_some_getLast hne]at q
    cases q;exact this
   have hc:c∈l:=by rw[<-hl];simp
   have hC:=h.ctx c hc
   refine⟨⟨fun c' hc'=>h.ctx c' (by rw[<-hl];exact aA _ hc'),hC.ty v h.B3.ty,BD 100 a c v hC.dW h.B3.dW,hn⟩,?_,c,hl.symm,rfl⟩
   have:=congrArg dX hl
   simpa using this
  ·cases hu
end Go.Proofs.Trees
namespace Go.Proofs.Trees
open Go Go.VL Go.RowKit
theorem LV.lc{s v:Nm}{w:Vl}{a:Ty}{x A B:E}(L:LV s v w a x A B):fh a 1:=by
 obtain⟨e,_,hw,hte,_,_⟩:=rC (ua (qm L.l))
 exact(hte ▸ hw.CD.1:fh (.rc a) 0)
theorem LV.ty{s v:Nm}{w:Vl}{a:Ty}{x A B:E}(L:LV s v w a x A B):vT 100 w (.rc a)=true:=by rw[<-jn L.ask];exact L.eU
def rz(s v fr to:Nm):Option (Nm×Nat):=match gq s,eV s v,eV s fr,eV s to with
 |some a,some w,some _,some t=>if(gb a fr t w.nodes w).1.nodes<=200 then some ((gb a fr t w.nodes w).1.dw,(gb a fr t w.nodes w).2)else none
 |_,_,_,_=>none
def Ma(o:Option (Nm×Nat)):Nm×Nat:=o.getD ([],0)
def Hm:Option (Nm×Nat)->AV
 |some r=>.cP [.v (.string (mk r.1)),.v (.int .i64 (r.2:Int)),.v (.bool true)]
 |none=>.cP [.v (.string (mk [])),.v (.int .i64 0),.v (.bool false)]
theorem By(o:Option (Nm×Nat)):Hm o=.cP [.v (.string (mk (Ma o).1)),.v (.int .i64 ((Ma o).2:Int)),.v (.bool o.isSome)]:=by cases o<;>rfl
theorem rm{s v f t:Nm}{w o z:Vl}(h1:eV s v=some w)(h2:eV s f=some o)(h3:eV s t=some z):∃a x A B,LV s v w a x A B/\LV s f o a x A B/\LV s t z a x A B:=by
 obtain⟨a,x,A,B,L⟩:=iw h1
 obtain⟨a',x',A',B',L'⟩:=iw h2
 obtain⟨a2,x2,A2,B2,L2⟩:=iw h3
 have e1:=L.l
 rw[L'.l]at e1
 have e2:=L.ce
 rw[L'.ce]at e2
 cases e1;cases e2
 have e1:=L.l
 rw[L2.l]at e1
 have e2:=L.ce
 rw[L2.ce]at e2
 cases e1;cases e2
 exact⟨_,_,_,_,L,L',L2⟩
theorem zS{s v f t:Nm}{r:Nm×Nat}(h:rz s v f t=some r):∃w o z a x A B,LV s v w a x A B/\LV s f o a x A B/\LV s t z a x A B/\(gb a f z w.nodes w).1.nodes<=200/\r=((gb a f z w.nodes w).1.dw,(gb a f z w.nodes w).2)/\eV s v=some w/\eV s f=some o/\eV s t=some z:=by
 unfold rz at h
 split at h
 ·rename_i a w o z h0 h1 h2 h3
  obtain⟨a',x,A,B,L1,L2,L3⟩:=rm h1 h2 h3
  have:=L1.l
  rw[h0]at this;cases this
  split at h
  ·rename_i hn
   cases h
   exact⟨w,o,z,a,x,A,B,L1,L2,L3,hn,rfl,h1,h2,h3⟩
  ·cases h
 ·cases h
theorem Ch{s v f t:Nm}{r:Nm×Nat}(h:rz s v f t=some r):rz s v f f=some (v,r.2)/\(ng s r.1 100).isSome=true/\(r.2=0->r.1=v):=by
 obtain⟨w,o,z,a,x,A,B,L1,L2,L3,hn,rfl,h1,h2,h3⟩:=zS h
 have hl:=L1.lc
 have hv:v=w.dw:=kZ L1.v
 have hf:f=o.dw:=kZ L2.v
 obtain⟨q1,q2,q3⟩:=qA hl f z L3.ty L3.dW L3.nodes w.nodes w L1.ty L1.dW
 refine⟨?_,?_,fun h0=>?_⟩
 ·unfold rz
  have hs:(gb a f o w.nodes w).1=w:=by rw[hf];exact vM hl o L2.dW w.nodes w L1.dW
  rw[L1.l,h1,h2]
  simp only
  rw[hs,if_pos L1.nodes,yt hl f o z w.nodes w,<-hv]
 ·unfold ng
  rw[L1.ce,tV q2 hn]
  simp only
  have hvis:eU 100 (gb a f z w.nodes w).1 (.list [x,A,B],[])=true:=by rw[jn L1.ask];exact q1
  rw[if_pos ⟨⟨by omega,by omega⟩,hvis⟩];rfl
 ·rw[hv,u6 hl f z w.nodes w h0]
end Go.Proofs.Trees
namespace Go.Proofs.Trees
open Go Go.VL Go.RowKit
theorem IL(s v f t:Nm):aB Tryz.prog 6 [.v (.string (mk s)),.v (.string (mk v)),.v (.string (mk f)),.v (.string (mk t))] [] (bU (Hm (rz s v f t))):=by
 refine Md _ _ _ _ ?_
 unfold JK
 have hlt:LK.has .ptr (GC s)=True:=by unfold GC;split<;>simp[bm,j3]
 refine an (G9 s v) ?_
 simp only[↓zq,zs,ah,zt,hlt,fb]
 refine an (G9 s f) ?_
 simp only[↓zq,zs,ah,zt,hlt,fb]
 refine an (G9 s t) ?_
 simp only[↓zq,zs,ah,zt,hlt,fb]
 cases h1:eV s v with
 |
  none =>
  have:rz s v f t=none:=by unfold rz;rw[h1];cases gq s<;>rfl
  rw[this]
  simp only[iH,↓zq,zs,ah]
  exact⟨fun _=>⟨rfl,rfl⟩,fun h=>by cases h⟩
 |
  some w =>
  cases h2:eV s f with
  |
   none =>
   have:rz s v f t=none:=by unfold rz;rw[h1,h2];cases gq s<;>rfl
   rw[this]
   simp only[iH,↓zq,zs,ah,eI]
   exact⟨fun h=>by simp at h,fun _=>⟨fun _=>⟨rfl,rfl⟩,fun h=>by simp at h⟩⟩
  |
   some o =>
   cases h3:eV s t with
   |
    none =>
    have:rz s v f t=none:=by unfold rz;rw[h1,h2,h3];cases gq s<;>rfl
    rw[this]
    simp only[iH,↓zq,zs,ah,eI]
    exact⟨fun h=>by simp at h,fun _=>⟨fun h=>by simp at h,fun _=>⟨fun _=>⟨rfl,rfl⟩,fun h=>by simp at h⟩⟩⟩
   |
    some z =>
    obtain⟨a,x,A,B,L1,L2,L3⟩:=rm h1 h2 h3
    have hf:f=o.dw:=kZ L2.v
    have e:rz s v f t=if(gb a f z w.nodes w).1.nodes<=200 then some ((gb a f z w.nodes w).1.dw,(gb a f z w.nodes w).2)else none:=by unfold rz;rw[L1.l,h1,h2,h3]
    have ht:GC s=(Ty.rc a).av:=by unfold GC;rw[L1.l]
    rw[e,ht]
    have hn:=L1.nodes
    have hR:=JL a L1.lc o z L2.dW L2.nodes w.nodes w (aq _) L1.nodes L1.ty L1.dW 0 (by omega)
    obtain⟨q1,q2,q3⟩:=qA L1.lc f z L3.ty L3.dW L3.nodes w.nodes w L1.ty L1.dW
    rw[<-hf]at hR
    simp only[iH,↓zq,zs,ah,eI]
    refine⟨fun h=>by simp at h,fun _=>⟨fun h=>by simp at h,fun _=>⟨fun h=>by simp at h,fun _=>?_⟩⟩⟩
    refine bJ hR ?_
    simp only[↓zq,zs,ah,zt,aO,bu,bm,Ob.es,aM,a8]
    refine an (MH _ q2 (by omega)) ?_
    by_cases hc:(gb a f z w.nodes w).1.nodes<=200
    ·rw[if_pos hc,if_pos hc]
     simp[Dl,↓zq,zs,ah,zt,Hm,bU]
    ·rw[if_neg hc,if_neg hc]
     simp[Dl,↓zq,zs,ah,zt,Hm,bU]
end Go.Proofs.Trees
namespace Go.Proofs.Trees
open Go Go.VL Go.RowKit
abbrev OM(r:Vl×Nat):AV:=.cP [.agg [.v (.string (mk r.1.cb.at)),r.1.cb.sp],.v (.int .i64 (r.2:Int))]
def Ha(x A B:E)(a:Ty)(fr:List UInt8)(to:Vl)(n:Nat)(v:Vl):Prop:=aB Tryz.prog 12 [.agg [.v (.string (mk [])),(E.list [x,A,B]).sp],.agg [.v (.string (mk v.cb.at)),v.cb.sp],.v (.string (mk fr)),.agg [.v (.string (mk to.cb.at)),to.cb.sp]] [] (bU (OM (gb a fr to n v)))
theorem uF(f g:Vl->Nat)(h:∀e,f e<=g e):∀l:List Vl,(l.map f).sum<=(l.map g).sum
 |[]=>aq _
 |
  x::l=>by
  have:=uF f g h l
  have:=h x
  simp only[a6,cw];omega
theorem Ks(x A B:E)(a:Ty)(hA:Ask B [.mk A.at (.list [x,A,B]) []] a)(hT:Ask (.list [x,A,B]) [] (.rc a))(hx:x.at=[114,101,99])(hl:fh a 1)(fr:List UInt8)(to:Vl)(ht:vT 100 to (.rc a)=true)(htb:to.dW 100)(htn:to.nodes<=200)(n:Nat)(w:Vl)(hv:vT 100 (.f w) (.rc a)=true)(hb:w.dW 100)(hn:w.nodes<=200)
 (hrec:∀e,e∈cS a 0 w->Ha x A B a fr to n e):∀(k i:Nat) (wk:Vl),i+k=(cS a 0 w).length->RI a (gb a fr to n) w wk i ->
 G4 [.v (.string (mk fr)),.v (.string (mk A.at)),.v (.int .i64 ((cS a 0 w).length:Int)),.v (.int .i64 ((((cS a 0 w).take i).map fun e=>(gb a fr to n e).2).sum:Nat)),.v (.int .i64 (i:Int))]
  [.cells [.v (.string (mk [])),(E.list [x,A,B]).sp],.cells [.v (.string (mk [])),(Vl.f wk).cb.sp],.cells [.v (.string (mk to.cb.at)),to.cb.sp],.cells [.v (.string (mk [])),.v (.slice none 0 0)]]
  (kl 1 [.v (.int .i64 ((mm (gb a fr to n) [] a w).2:Nat))] [.cells [.v (.string (mk [])),(Vl.f (mm (gb a fr to n) [] a w).1).cb.sp],.cells [.v (.string (mk [])),.v (.slice none 0 0)]])
 |
  0,i,wk,hi,h=>by
  have:i=(cS a 0 w).length:=by omega
  subst this
  refine Kv _ _ _ _ _ _ _ _ _ _ _ _ _ ?_
  simp only[ET,↓zq,zs,ah,zt,aX,ah,bp,List.take_length]
  refine⟨fun h=>by omega,fun _=>?_⟩
  rw[h.fin hl,qc _ a w hl]
  exact⟨rfl,rfl,rfl⟩
 |
  k+1,i,wk,hi,h=>by
  have hlt:i<(cS a 0 w).length:=by omega
  have hP:=P3.of x A B
  have hV:=P2.of (.atom [102]) wk.cb
  have hlen:=h.len
  have hle:=h.le
  have hnw:(cS a 0 w).length<=1000:=by
   have:=uq a w
   have h2:(cS a 0 w).length<=((cS a 0 w).map Vl.nodes).sum:=by
    have key:∀l:List Vl,l.length<=(l.map Vl.nodes).sum:=by
     intro l
     induction l with
     |nil=>simp
     |cons y l ih=>have:=ba y;simp only[aw,a6,cw];omega
    exact key _
   omega
  have em:(cS a 0 w)[i]∈cS a 0 w:=bY hlt
  have hok:∀e,e∈cS a 0 w->vT 100 (gb a fr to n e).1 (.rc a)=true/\(gb a fr to n e).1.dW 100/\(gb a fr to n e).1.nodes<=200*e.nodes:=fun e he=>qA hl fr to ht htb htn n e (qx hl hv he) (mP hb he)
  obtain⟨c,q1,q2,q3⟩:=h.step hlt (hok _ em).2.2
  obtain⟨o1,o2⟩:=h.ok hl hv hb fun e he=>⟨(hok e he).1,(hok e he).2.1⟩
  have hvis:eU 100 (.f wk) (.list [x,A,B],[])=true:=by rw[jn hT];exact o1
  have hkids:=GH 100 (.f wk) x A B a hA hx wk rfl hvis (by simp only[Vl.nodes];omega)
  obtain⟨hlt2,hg⟩:=cq.1 q1
  have hkl:(kR (kids a (.f wk))).length=(cS a 0 w).length:=by rw[eA,hlen]
  have hget:(kR (kids a (.f wk))).getD i []=[.v (.string (mk c.cb.at)),c.cb.sp,.v (.string (mk (cS a 0 w)[i].cb.at)),(cS a 0 w)[i].cb.sp]:=by rw[fM hlt2,hg]
  have hcnt:=fun e=>tt (a:=a) (fr:=fr) (to:=to) n e
  refine Kv _ _ _ _ _ _ _ _ _ _ _ _ _ ?_
  simp only[ET,↓zq,zs,ah,zt,aX,ah,bp,bf,toNat_one,Vl.cb,hP.1,hP.2.1,hP.2.2.1,hP.2.2.2,hV.1,hV.2.1,hV.2.2,aK]
  refine⟨fun _=>?_,fun h=>by omega⟩
  repeat refine⟨by omega,?_⟩
  refine an hkids ?_
  simp only[↓zq,zs,ah,zt,aX,hkl,hget,cj,jV,aK]
  repeat refine⟨by omega,?_⟩
  refine⟨⟨by simp[cc,dU,aX],by omega⟩,an (hrec _ em) ?_⟩
  simp only[↓zq,zs,ah,zt,aX,aK]
  repeat refine⟨by omega,?_⟩
  refine an (DY c.nodes c (aq _) B _ a hA (Dy q2) A.at _) ?_
  simp only[↓zq,zs,ah,zt,aX,aK]
  refine an (wu _ _) ?_
  simp only[↓zq,zs,ah,zt,aX,aK]
  have hsum:(((cS a 0 w).take i).map fun e=>(gb a fr to n e).2).sum<=w.nodes:=by
   have h1:=uF (fun e=>(gb a fr to n e).2) Vl.nodes hcnt ((cS a 0 w).take i)
   have h2:=qO Vl.nodes (cS a 0 w) i
   have h3:=uq a w
   omega
  have hc1:=hcnt (cS a 0 w)[i]
  have hc2:=px em
  rw[bX i (by omega),Go.VL.wrap64 _ (by omega) (by omega)]
  have nx:=Ks x A B a hA hT hx hl fr to ht htb htn n w hv hb hn hrec k (i+1) _ (by omega) q3
  rw[vE _ _ hlt]at nx
  exact nx
theorem Kn(x A B:E)(a:Ty)(hA:Ask B [.mk A.at (.list [x,A,B]) []] a)(hT:Ask (.list [x,A,B]) [] (.rc a))(hx:x.at=[114,101,99])(hl:fh a 1)(fr:List UInt8)(to:Vl)(ht:vT 100 to (.rc a)=true)(htb:to.dW 100)(htn:to.nodes<=200):∀(n:Nat) (v:Vl),v.nodes<=n->v.nodes<=200->vT 100 v (.rc a)=true->v.dW 100->Ha x A B a fr to n v
 |0,v,hn,_,_,_=>by have:=ba v;omega
 |
  n+1,v,hn,h200,hv,hb=>by
  have t1:=fq v hb
  have x1:=Eo v.cb (mb _) (show v.dw.length<=900000 by omega)
  rw[dy]at x1
  refine Nq _ _ _ _ _ _ _ ((aX _).mpr trivial) ((aX _).mpr trivial) ((aX _).mpr trivial) ?_
  unfold KF
  refine an x1 ?_
  simp only[↓zq,zs,ah,zt]
  refine⟨fun he=>?_,fun hne=>?_⟩
  ·rw[kY n he];exact⟨rfl,rfl⟩
  ·cases v with
   |
    f w =>
    have hP:=P3.of x A B
    have hV:=P2.of (.atom [102]) w.cb
    have hvis:eU 100 (.f w) (.list [x,A,B],[])=true:=by rw[jn hT];exact hv
    have hkids:=GH 100 (.f w) x A B a hA hx w rfl hvis (by omega)
    have hkl:(kR (kids a (.f w))).length=(cS a 0 w).length:=by rw[eA];exact(RI.zero a (gb a fr to n) w).len
    simp only[Vl.nodes]at hn h200
    have hrec:∀e,e∈cS a 0 w->Ha x A B a fr to n e:=fun e he=>by
     have:=px he
     exact Kn x A B a hA hT hx hl fr to ht htb htn n e (by omega) (by omega) (qx hl hv he) (mP (show w.dW 100 from hb) he)
    simp only[Vl.cb,ca,toNat_one,bf,↓zq,zs,ah,zt,aX,hP.1,hP.2.1,hP.2.2.1,hP.2.2.2,hV.1,hV.2.1,hV.2.2,aK]
    repeat refine⟨by omega,?_⟩
    refine an hkids ?_
    simp only[↓zq,zs,ah,zt,hkl]
    refine db (Ks x A B a hA hT hx hl fr to ht htb htn n w hv hb (by omega) hrec (cS a 0 w).length 0 w (by omega) (.zero _ _ _)) ?_
    simp only[↓zq,zs,ah,zt,ah,aX,a8,aM,bz,bp]
    rw[oi n hne]
    exact⟨rfl,rfl⟩
   |_=>simp[vT]at hv
theorem N4(s v f t:Nm):aB Tryz.prog 5 [.v (.string (mk s)),.v (.string (mk v)),.v (.string (mk f)),.v (.string (mk t))] [] (bU (Hm (rz s v f t))):=by
 refine Ms _ _ _ _ ?_
 unfold HC
 refine aU (Jc s) (kt.ne _ _ (fun h=>h)) ?_
 rintro r o ⟨c,d,hd,rfl,hh⟩
 have hhas:cc [.str,.sl] [.v (.string (mk c)),d] 0:=by simp[cc,dU,hd]
 simp only[↓zq,zs,ah,zt]
 have none1:rz s v f t=none->bU (Hm (rz s v f t)) (.cP [.v (.string (mk [])),.v (.int .i64 0),.v (.bool false)]) []:=fun h=>by rw[h];exact⟨rfl,rfl⟩
 refine⟨hhas,fun h=>none1 ?_,fun h=>?_⟩
 ·rw[nQ]at h
  have:gq s=none:=by cases hq:gq s<;>simp[hq]at h |-
  unfold rz;rw[this]
 rw[nQ]at h
 have hsome:∀v,(ng s v 100).isSome=false->eV s v=none:=fun v h2=>by
  have:ng s v 100=none:=by cases hq:ng s v 100<;>simp[hq]at h2 |-
  unfold eV;rw[this];cases gq s<;>rfl
 refine an (Ca s v 100) ?_
 simp only[↓zq,zs,ah]
 refine⟨fun h2=>none1 ?_,fun h2=>?_⟩
 ·unfold rz;rw[hsome v h2];cases gq s<;>rfl
 refine an (Ca s f 100) ?_
 simp only[↓zq,zs,ah]
 refine⟨fun h3=>none1 ?_,fun h3=>?_⟩
 ·unfold rz;rw[hsome f h3];cases gq s<;>cases eV s v<;>rfl
 refine an (Ca s t 100) ?_
 simp only[↓zq,zs,ah]
 refine⟨fun h4=>none1 ?_,fun h4=>?_⟩
 ·unfold rz;rw[hsome t h4];cases gq s<;>cases eV s v<;>cases eV s f<;>rfl
 obtain⟨w,hw⟩:=a7.1 h2
 obtain⟨y,hy⟩:=a7.1 h3
 obtain⟨z,hz⟩:=a7.1 h4
 obtain⟨a0,ha0⟩:=a7.1 h
 have h1:eV s v=some w:=by unfold eV;rw[ha0];exact hw
 have h2:eV s f=some y:=by unfold eV;rw[ha0];exact hy
 have h3:eV s t=some z:=by unfold eV;rw[ha0];exact hz
 obtain⟨a,x,A,B,L1,L2,L3⟩:=rm h1 h2 h3
 have e:rz s v f t=if(gb a f z w.nodes w).1.nodes<=200 then some ((gb a f z w.nodes w).1.dw,(gb a f z w.nodes w).2)else none:=by unfold rz;rw[L1.l,h1,h2,h3]
 refine aU (Da v) (kt.ne _ _ (fun h=>by cases hq:qy v<;>simp[hq]at h |-)) ?_
 rintro r o ⟨c',d',hd',rfl,hh'⟩
 have hhas':cc [.str,.sl] [.v (.string (mk c')),d'] 0:=by simp[cc,dU,hd']
 simp only[↓zq,zs,ah,zt]
 refine⟨hhas',?_⟩
 refine aU (Da t) (kt.ne _ _ (fun h=>by cases hq:qy t<;>simp[hq]at h |-)) ?_
 rintro r o ⟨c2,d2,hd2,rfl,hh2⟩
 have hhas2:cc [.str,.sl] [.v (.string (mk c2)),d2] 0:=by simp[cc,dU,hd2]
 simp only[↓zq,zs,ah,zt]
 refine⟨hhas2,?_⟩
 obtain⟨e0,he0,hc0⟩:=hh (by rw[L1.le];rfl)
 rw[L1.le]at he0;cases he0
 obtain⟨e1,he1,hc1⟩:=hh' (by rw[L1.v];rfl)
 rw[L1.v]at he1;cases he1
 obtain⟨e2,he2,hc2⟩:=hh2 (by rw[L3.v];rfl)
 rw[L3.v]at he2;cases he2
 rw[dy]at hc0 hc1 hc2
 simp only[ca]at hc0
 rw[hc0,hc1,hc2,e]
 obtain⟨q1,q2,q3⟩:=qA L1.lc f z L3.ty L3.dW L3.nodes w.nodes w L1.ty L1.dW
 have hn:=L1.nodes
 refine an (Kn x A B a L1.body L1.ask L1.hx L1.lc f z L3.ty L3.dW L3.nodes w.nodes w (aq _) L1.nodes L1.ty L1.dW) ?_
 simp only[↓zq,zs,ah,zt,aX,aK]
 generalize gb a f z w.nodes w=R at *
 have hsz:=pq R.1
 have hS:=J4 R.1.cb (by omega)
 rw[dy,l7]at hS
 refine an hS ?_
 simp only[↓zq,zs,ah,zt]
 refine⟨fun hg=>?_,fun hg=>?_⟩
 ·rw[if_neg (by omega)];exact⟨rfl,rfl⟩
 ·have hle:R.1.nodes<=200:=by omega
  have t1:=fq R.1 q2
  have x1:=Eo R.1.cb (mb _) (show R.1.dw.length<=900000 by omega)
  rw[dy]at x1
  rw[if_pos hle]
  refine an x1 ?_
  simp only[↓zq,zs,ah,zt]
  exact⟨rfl,rfl⟩
end Go.Proofs.Trees
namespace Go.Proofs.Trees
open Go Go.VL Go.RowKit
def pW(l:List UInt8):List (List AV):=l.map fun(x:UInt8)=>[.v (.int .u8 (x.toNat:Int))]
structure sX(b:AV)(l:List UInt8):Prop where
 has:LK.sl.has b
 el:b.elems=pW l
 len:l.length<=2000
theorem sX.ln{b:AV}{l:List UInt8}(h:sX b l):b.elems.length=l.length:=by rw[h.el];simp[pW]
theorem sX.get{b:AV}{l:List UInt8}(h:sX b l){i:Nat}(hi:i<l.length):b.elems.getD i []=[.v (.int .u8 ((l[i]).toNat:Int))]:=by rw[h.el];simp[pW,aa,hi]
def eF(b:AV)(p c:Nat)(X:AV->Prop):AV->List Ob->Prop:=fun r o=>∃q:Nat,p<=q/\q<=p+c/\X r/\o=[.cells [b,.v (.int .i64 (q:Int))]]
theorem eF.ne{b:AV}{p c:Nat}{X:AV->Prop}{r:AV}(h:X r):∃r o,eF b p c X r o:=⟨r,_,p,aq _,da _ _,h,rfl⟩
theorem B7{a b:Int}(ha:0<=a)(hb:0<=b)(ha':a<9223372036854775808)(hb':b<9223372036854775808):∃W:Nat,Ab .i64 a b=(W:Int):=by
 obtain⟨x,rfl⟩:∃x:Nat,a=(x:Int):=⟨a.toNat,by omega⟩
 obtain⟨y,rfl⟩:∃y:Nat,b=(y:Int):=⟨b.toNat,by omega⟩
 have e1:(BitVec.ofInt 64 (x:Int)).toNat=x:=by simp;omega
 have e2:(BitVec.ofInt 64 (y:Int)).toNat=y:=by simp;omega
 have hlt:x ^^^ y<2 ^ 63:=Nat.xor_lt_two_pow (by omega) (by omega)
 refine⟨x ^^^ y,?_⟩
 unfold Ab
 have e3:(BitVec.ofInt (IntKind.bits .i64) (x:Int) ^^^ BitVec.ofInt (IntKind.bits .i64) (y:Int)).toNat=x ^^^ y:=by
  show (BitVec.ofInt 64 (x:Int) ^^^ BitVec.ofInt 64 (y:Int)).toNat=_
  rw[BitVec.toNat_xor,e1,e2]
 rw[e3,VL.wrap64]<;>omega
theorem yA(a b:Nat):eE (a:Int) (b:Int)=((a/b:Nat):Int):=(Int.ofNat_tdiv a b).symm
theorem qi(a b:Nat):dr (a:Int) (b:Int)=((a%b:Nat):Int):=(Int.ofNat_tmod a b).symm
theorem vJ(n:Nat)(h:n<9223372036854775808):IntKind.wrap .i64 (n:Int)=(n:Int):=VL.wrap64 _ (by omega) (by omega)
def isNum(n:Nat):AV->Prop:=fun r=>∃k:Nat,r=.v (.int .i64 (k:Int))/\(1<=n->k<n)/\k<=n
abbrev p5:Nat:=1000000000000000
theorem vX(b:AV)(l:List UInt8)(hb:sX b l)(p n:Nat)(hp:p<2*p5)(hn:n<p5):aB Tryz.prog 26 [.ref 0 0,.v (.int .i64 (n:Int))] [.cells [b,.v (.int .i64 (p:Int))]] (eF b p 1 (isNum n)):=by
 refine NF _ _ _ hb.has ?_
 have e1:IntKind.wrap .i64 ((p:Int)+1)=((p+1:Nat):Int):=by rw[VL.wrap64]<;>simp[p5]at hp<;>omega
 have e2:IntKind.wrap .i64 (((p+1:Nat):Int)-1)=(p:Int):=by rw[VL.wrap64]<;>simp[p5]at hp<;>omega
 have fin:∀k:Nat,(1<=n->k<n)->k<=n->eF b p 1 (isNum n) (.v (.int .i64 (k:Int))) [.cells [b,.v (.int .i64 ((p+1:Nat):Int))]]:=fun k h h'=>⟨p+1,by omega,aq _,⟨k,rfl,h,h'⟩,rfl⟩
 simp only[Ik,↓zq,zs,ah,e1,e2,hb.ln,yA,qi]
 refine⟨fun h=>fin 0 (fun h'=>by omega) (cG _),fun h=>⟨hb.has,fun h0=>fin 0 (fun h'=>by omega) (cG _),fun h0=>?_⟩⟩
 have hl:0<l.length:=by omega
 have hll:=hb.len
 refine⟨hb.has,fun hlt=>?_,fun hge=>?_⟩
 ·have hlt:p<l.length:=by omega
  have hx:=(l[p]).toNat_lt
  simp only[cj,hb.get hlt,hb.has,↓zq,zs,ah]
  rw[vJ _ (by omega),qi]
  have:=fin ((l[p]).toNat%n) (fun h'=>dR _ (by omega)) (Nat.le_of_lt (dR _ (by omega)))
  repeat (first|exact this|refine⟨by omega,?_⟩)
 ·have h1:p%l.length<l.length:=dR _ hl
  have e3:IntKind.wrap .i64 ((p:Int)*7)=((p*7:Nat):Int):=by rw[VL.wrap64]<;>simp[p5]at hp<;>omega
  have e4:IntKind.wrap .i64 (((p*7:Nat):Int)+3)=((p*7+3:Nat):Int):=by rw[VL.wrap64]<;>simp[p5]at hp<;>omega
  have h2:(p*7+3)%l.length<l.length:=dR _ hl
  have hx:=(l[p%l.length]).toNat_lt
  have hy:=(l[(p*7+3)%l.length]).toNat_lt
  have hq:p/l.length<=p:=Nat.div_le_self _ _
  simp only[e3,e4,qi,cj,hb.get h1,hb.get h2,hb.has,↓zq,zs,ah]
  generalize hxx:(l[p%l.length]).toNat=x at hx |-
  generalize hyy:(l[(p*7+3)%l.length]).toNat=y at hy |-
  generalize hqq:p/l.length=q at hq |-
  have f1:IntKind.wrap .i64 ((x:Int))=(x:Int):=vJ _ (by omega)
  have f2:IntKind.wrap .i64 ((y:Int))=(y:Int):=vJ _ (by omega)
  have f3:IntKind.wrap .i64 ((x:Int)*131)=((x*131:Nat):Int):=by rw[VL.wrap64]<;>omega
  have f4:IntKind.wrap .i64 ((y:Int)*1117)=((y*1117:Nat):Int):=by rw[VL.wrap64]<;>omega
  have f5:IntKind.wrap .i64 (((x*131:Nat):Int)+((y*1117:Nat):Int))=((x*131+y*1117:Nat):Int):=by rw[VL.wrap64]<;>omega
  have f6:IntKind.wrap .i64 ((p:Int)*29)=((p*29:Nat):Int):=by rw[VL.wrap64]<;>simp[p5]at hp<;>omega
  have f7:IntKind.wrap .i64 (((x*131+y*1117:Nat):Int)+((p*29:Nat):Int))=((x*131+y*1117+p*29:Nat):Int):=by rw[VL.wrap64]<;>simp[p5]at hp<;>omega
  have f8:IntKind.wrap .i64 ((q:Int))=(q:Int):=vJ _ (by simp[p5]at hp;omega)
  have f9:IntKind.wrap .i64 ((q:Int)*53)=((q*53:Nat):Int):=by rw[VL.wrap64]<;>simp[p5]at hp<;>omega
  have f10:IntKind.wrap .i64 (((x*131+y*1117+p*29:Nat):Int)+((q*53:Nat):Int))=((x*131+y*1117+p*29+q*53:Nat):Int):=by rw[VL.wrap64]<;>simp[p5]at hp<;>omega
  simp only[f1,f2,f3,f4,f5,f6,f7,f8,f9,f10]
  generalize hV:x*131+y*1117+p*29+q*53=V
  have hVl:V<1000000000000000000:=by simp[p5]at hp;omega
  have f11:IntKind.wrap .i64 (eE (V:Int) 64)=((V/64:Nat):Int):=by
   have:eE (V:Int) 64=((V/64:Nat):Int):=yA V 64
   rw[this,vJ _ (by omega)]
  rw[f11]
  obtain⟨W,hW⟩:=B7 (a:=(V:Int)) (b:=((V/64:Nat):Int)) (by omega) (by omega) (by omega) (by omega)
  rw[hW,qi]
  have:=fin (W%n) (fun h'=>dR _ (by omega)) (Nat.le_of_lt (dR _ (by omega)))
  repeat (first|exact this|refine⟨by omega,?_⟩)
def kJ(L:List (List UInt8)):AV->Prop:=fun r=>∃s,s∈L/\r=.v (.string (mk s))
theorem Dk(b:AV)(l:List UInt8)(hb:sX b l)(p:Nat)(hp:p<2*p5)(L:List (List UInt8))(a:AV)(ha:dT a L)(hL:0<L.length)(hLl:L.length<1000000):aB Tryz.prog 45 [.ref 0 0,a] [.cells [b,.v (.int .i64 (p:Int))]] (eF b p 1 (kJ L)):=by
 refine N6 _ _ _ ha.1 hb.has ?_
 unfold HF
 simp only[↓zq,zs,ah,ha.len]
 refine⟨ha.1,?_⟩
 have hpk:=vX b l hb p L.length hp (by simp[p5];omega)
 refine aU hpk (eF.ne ⟨0,rfl,fun h=>h,cG _⟩) ?_
 rintro r o ⟨q,h1,h2,⟨k,rfl,h3,h4⟩,rfl⟩
 have hk:=h3 hL
 simp only[↓zq,zs,ah,zt,aO,hb.has,ha.idx hk,cj]
 refine⟨⟨ha.1,by omega⟩,?_⟩
 have:eF b p 1 (kJ L) (.v (.string (mk (L.getD k [])))) [.cells [b,.v (.int .i64 (q:Int))]]:=⟨q,h1,h2,⟨_,by simp[aa,hk],rfl⟩,rfl⟩
 repeat (first|exact this|refine⟨by omega,?_⟩)
def ga(n:Nat):AV->Prop:=fun r=>∃s:List UInt8,r=.v (.string (mk s))/\s.length<=n
theorem kJ.dw{L:List (List UInt8)}{n:Nat}(h:∀s,s∈L->s.length<=n){r:AV}(hr:kJ L r):ga n r:=by
 obtain⟨s,h1,h2⟩:=hr;exact⟨s,h2,h s h1⟩
end Go.Proofs.Trees
namespace Go.Proofs.Trees
open Go Go.VL Go.RowKit
def jD:AV->List Ob->Prop:=fun r o=>o=[]/\∃b:Bool,r=.v (.bool b)
theorem jD.ne:∃r o,jD r o:=⟨_,_,rfl,true,rfl⟩
theorem jD.mk(b:Bool):jD (.v (.bool b)) []:=⟨rfl,b,rfl⟩
theorem jD.call{n:Nat}{f:Nat}{xs:List AV}{k:AV->List Ob->Tree}{Q:Nat->List AV->List Ob->Prop}(h:aB Tryz.prog f xs [] jD)(hk:∀b:Bool,eH Tryz.prog n (k (.v (.bool b)) []) Q):eH Tryz.prog n (.call f xs [] k) Q :=
 aU h jD.ne (by rintro r o ⟨rfl,b,rfl⟩;exact hk b)
theorem KL{e:E}(h:Wf e):∀(l:List Nm) (a:AV),dT a l->l.length+e.sz<100000->aB Tryz.prog 62 [.agg [.v (.string (mk e.at)),e.sp],a] [] jD:=by
 induction h with
 |
  @atom s hs =>
  intro l a ha hl
  simp only[E.sz]at hl
  refine DH _ _ _ ((aX _).mpr trivial) ha.1 ?_
  simp only[z8,eD,↓zq,zs,ah]
  refine an (zU s _ ((aX (.atom s)).mpr trivial) hs) ?_
  simp only[↓zq,zs,ah,zt,ha.1]
  refine⟨fun h=>(by cases h),fun _=>⟨fun h=>(by cases h),fun _=>⟨fun h=>(by cases h),fun _=>⟨fun _=>.mk true,fun _=>?_⟩⟩⟩⟩
  refine an (Hh l a ha s (by omega)) ?_
  simp only[↓zq,zs,ah]
  exact .mk _
 |
  @plus x y hx hy i1 i2 =>
  intro l a ha hl
  simp only[E.sz,E.iD]at hl
  refine DH _ _ _ ((aX _).mpr trivial) ha.1 ?_
  have hP:=P3.of (.atom [43]) x y
  simp only[z8,ca,toNat_one,bf,↓zq,zs,ah,zt,hP.1,hP.2.1,hP.2.2.1,hP.2.2.2,aK]
  refine an (rV [43] x y) ?_
  simp only[↓zq,zs,ah,zt,ha.1,aK]
  refine⟨fun _=>⟨by omega,by omega,jD.call (i1 l a ha (by omega)) fun b=>?_⟩,fun h=>absurd rfl h⟩
  simp only[↓zq,zs,ah]
  refine⟨fun _=>⟨by omega,by omega,jD.call (i2 l a ha (by omega)) fun b=>?_⟩,fun _=>.mk _⟩
  simp only[↓zq,zs,ah]
  exact .mk _
 |
  @times x y hx hy i1 i2 =>
  intro l a ha hl
  simp only[E.sz,E.iD]at hl
  refine DH _ _ _ ((aX _).mpr trivial) ha.1 ?_
  have hP:=P3.of (.atom [42]) x y
  simp only[z8,ca,toNat_one,bf,↓zq,zs,ah,zt,hP.1,hP.2.1,hP.2.2.1,hP.2.2.2,aK]
  refine an (rV [42] x y) ?_
  simp only[↓zq,zs,ah,zt,ha.1,aK]
  refine⟨fun h=>(by cases h),fun _=>⟨fun _=>⟨by omega,by omega,jD.call (i1 l a ha (by omega)) fun b=>?_⟩,fun h=>absurd rfl h⟩⟩
  simp only[↓zq,zs,ah]
  refine⟨fun _=>.mk _,fun _=>⟨by omega,by omega,jD.call (i2 l a ha (by omega)) fun b=>?_⟩⟩
  simp only[↓zq,zs,ah]
  exact .mk _
 |
  @rc n b hn hb i =>
  intro l a ha hl
  simp only[E.sz,E.iD]at hl
  refine DH _ _ _ ((aX _).mpr trivial) ha.1 ?_
  have hP:=P3.of (.atom gS) (.atom n) b
  simp only[z8,ca,toNat_one,bf,↓zq,zs,ah,zt,hP.1,hP.2.1,hP.2.2.1,hP.2.2.2,aK]
  refine an (rV gS (.atom n) b) ?_
  simp only[↓zq,zs,ah,zt,ha.1,aK]
  refine⟨fun h=>(by cases h),fun _=>⟨fun h=>(by cases h),fun _=>⟨fun _=>⟨by omega,by omega,by omega,by omega,?_⟩,fun h=>absurd rfl h⟩⟩⟩
  refine bJ (He l a ha n (by omega)) ?_
  simp only[↓zq,zs,ah,zt,Ob.es,aM]
  refine⟨iu _,?_⟩
  refine jD.call (i (l++[n]) _ (.of _) (by simp;omega)) fun b=>?_
  simp only[↓zq,zs,ah]
  exact .mk _
def MX:AV->List Ob->Prop:=fun r o=>o=[]/\∃(g:E) (b:Bool),r=.cP [.agg [.v (.string (mk g.at)),g.sp],.v (.bool b)]/\Wf g/\g.ej<=400
theorem Ml{n:Nm}{b:E}(hn:vV n)(hb:Wf b)(hl:(E.list [.atom gS,.atom n,b]).ej<=400):aB Tryz.prog 64 [.agg [.v (.string (mk [])),(E.list [.atom gS,.atom n,b]).sp]] [] MX:=by
 have hw:Wf (.list [.atom gS,.atom n,b]):=.rc hn hb
 refine M5 _ _ ((aX _).mpr trivial) ?_
 have hP:=P3.of (.atom gS) (.atom n) b
 have hbl:b.ej<=400:=by simp only[E.ej,E.fo]at hl;omega
 simp only[K7,toNat_one,bf,↓zq,zs,ah,zt,hP.1,hP.2.1,hP.2.2.1,hP.2.2.2,aK]
 refine⟨by omega,by omega,by omega,by omega,?_⟩
 have hf:=N5 hn hb hw (by omega) (by omega)
 obtain⟨g,g1,g2,g3⟩:=LO hn hb hw hbl hl
 simp only[ca]at hf g3
 refine an hf ?_
 simp only[↓zq,zs,ah,zt,aK]
 refine⟨fun h=>⟨rfl,_,false,rfl,hw,hl⟩,fun h=>?_⟩
 repeat refine⟨by omega,?_⟩
 refine an g3 ?_
 simp only[↓zq,zs,ah,zt,aK]
 refine⟨rfl,g,true,rfl,g1,?_⟩
 rw[g1.ej [],g2]
 simpa using h
end Go.Proofs.Trees
namespace Go.Proofs.Trees
open Go Go.VL Go.RowKit
def jB(n:Nat):AV->Prop:=fun r=>∃e:E,r=.agg [.v (.string (mk e.at)),e.sp]/\e.ok/\(fy e).length<=n
theorem jB.u(n:Nat)(h:1<=n):jB n (.agg [.v (.string (mk [117])),.v (.slice none 0 0)]):=⟨.atom [117],rfl,by simp[E.ok],by simpa[fy]using h⟩
def jw(b:AV)(d:Int)(e:E)(B C:Nat):Prop:=∀p:Nat,p+C<p5->aB Tryz.prog 46 [.ref 0 0,.agg [.v (.string (mk e.at)),e.sp],.v (.int .i64 d)] [.cells [b,.v (.int .i64 (p:Int))]] (eF b p C (jB B))
theorem jw.mono{b:AV}{d:Int}{e:E}{B C B' C':Nat}(h:jw b d e B C)(hB:B<=B')(hC:C<=C'):jw b d e B' C':=fun p hp=>aB.mono (h p (by omega)) fun r o ⟨q,h1,h2,⟨g,h3,h4,h5⟩,h6⟩=>⟨q,h1,by omega,⟨g,h3,h4,by omega⟩,h6⟩
theorem nI(b:AV)(p C B:Nat)(h:1<=B):∃r o,eF b p C (jB B) r o:=eF.ne (jB.u B h)
theorem OU(w:Nm)(e:E)(h:w.length=1):(fy (.list [.atom w,e])).length=(fy e).length+4:=by
 simp[fy,dY];omega
theorem OH(w:Nm)(e f:E)(h:w.length=1):(fy (.list [.atom w,e,f])).length=(fy e).length+(fy f).length+5:=by
 simp[fy,dY];omega
theorem Kp{b:AV}{p q q' C B:Nat}{w:Nm}{e:E}(hw:w.length=1)(h1:p<=q)(h2:q<=p+1)(h3:q<=q')(h4:q'<=q+C)(ho:e.ok)(hl:(fy e).length<=B) :
 eF b p (C+1) (jB (B+5)) (.agg [.v (.string (mk [])),(E.list [.atom w,e]).sp]) [.cells [b,.v (.int .i64 (q':Int))]] :=
 ⟨q',by omega,by omega,⟨.list [.atom w,e],rfl,⟨by intro h;rw[h]at hw;simp at hw,ho,trivial⟩,by rw[OU w e hw];omega⟩,rfl⟩
theorem HH(b:AV)(l:List UInt8)(hb:sX b l)(d:Int){s:Nm}(hs:s≠[]):jw b d (.atom s) 5 1:=by
 intro p hp
 refine Dh _ _ _ _ _ ((aX (.atom s)).mpr trivial) hb.has ?_
 simp only[Bj,eD,↓zq,zs,ah]
 refine an (zU s _ ((aX (.atom s)).mpr trivial) hs) ?_
 simp only[↓zq,zs,ah,zt]
 refine⟨fun h=>(by cases h),fun _=>⟨fun h=>(by cases h),fun _=>⟨fun h=>(by cases h),fun _=>⟨fun _=>?_,fun _=>?_⟩⟩⟩⟩
 ·exact⟨p,aq _,by omega,jB.u 5 (by omega),rfl⟩
 ·refine aU (vX b l hb p 3 (by omega) (by decide)) (eF.ne ⟨0,rfl,fun h=>by omega,by omega⟩) ?_
  rintro r o ⟨q,h1,h2,⟨k,rfl,h3,h4⟩,rfl⟩
  have hk:k<3:=h3 (by omega)
  simp only[↓zq,zs,ah,aO,hb.has]
  refine an (CU (k+1) k (by omega) (by omega)) ?_
  have hd:dd k=[bb (48+k)]:=fa (by omega)
  simp only[↓zq,zs,ah,zt,hd]
  refine⟨by simp,q,h1,h2,⟨.atom ([101]++[bb (48+k)]),rfl,by simp[E.ok],by simp[fy]⟩,rfl⟩
theorem HR(b:AV)(l:List UInt8)(hb:sX b l)(d:Int)(hd:-100000<=d/\d<=100000){n:Nm}{e:E}(hn:vV n)(he:Wf e)(hl:(E.list [.atom gS,.atom n,e]).ej<=400)(B C:Nat)(ih:-12<=d->∀g,Wf g->g.ej<=400->jw b (d-1) g B C)(hB:1<=B):jw b d (.list [.atom gS,.atom n,e]) (B+5) (C+1):=by
 intro p hp
 refine Dh _ _ _ _ _ ((aX _).mpr trivial) hb.has ?_
 have ed:IntKind.wrap .i64 (d-1)=d-1:=VL.wrap64 _ (by omega) (by omega)
 simp only[Bj,ca,↓zq,zs,ah,ed]
 refine an (rV gS (.atom n) e) ?_
 simp only[↓zq,zs,ah,zt]
 have hu:=Ml hn he hl
 refine⟨fun h=>(by cases h),fun _=>⟨fun h=>(by cases h),fun _=>⟨fun _=>?_,fun h=>absurd rfl h⟩⟩⟩
 refine aU hu ⟨_,_,rfl,.atom [117],true,rfl,.atom (by simp),by simp[E.ej]⟩ ?_
 rintro r o ⟨rfl,g,c,rfl,g1,g2⟩
 have u:eF b p (C+1) (jB (B+5)) (.agg [.v (.string (mk [117])),.v (.slice none 0 0)]) [.cells [b,.v (.int .i64 (p:Int))]]:=⟨p,aq _,by omega,jB.u _ (by omega),rfl⟩
 simp only[↓zq,zs,ah,zt,aK]
 refine⟨fun _=>u,fun _=>⟨fun _=>u,fun hd2=>?_⟩⟩
 refine aU (ih (by omega) g g1 g2 p (by omega)) (nI b p C B hB) ?_
 rintro r o ⟨q,h1,h2,⟨f,rfl,h4,h5⟩,rfl⟩
 simp only[↓zq,zs,ah,zt,aO,hb.has,aK]
 repeat refine⟨by omega,?_⟩
 refine an (wu [102] f) ?_
 simp only[↓zq,zs,ah,zt,aO,hb.has,aK]
 have fin:=Kp (b:=b) (w:=[102]) rfl (aq p) (by omega) h1 h2 h4 h5
 first|exact fin|exact⟨by omega,fin⟩
theorem IU(b:AV)(l:List UInt8)(hb:sX b l)(d:Int)(hd:-100000<=d/\d<=100000){x y:E}(hx:Wf x)(hy:Wf y)(B1 C1 B2 C2:Nat)(ix:jw b (d-1) x B1 C1)(iy:jw b (d-1) y B2 C2)(hB:1<=B1)(hB2:1<=B2):jw b d (.list [.atom [42],x,y]) (B1+B2+5) (C1+C2+1):=by
 intro p hp
 refine Dh _ _ _ _ _ ((aX _).mpr trivial) hb.has ?_
 have ed:IntKind.wrap .i64 (d-1)=d-1:=VL.wrap64 _ (by omega) (by omega)
 have hP:=P3.of (.atom [42]) x y
 simp only[Bj,ca,toNat_one,bf,↓zq,zs,ah,zt,hP.1,hP.2.1,hP.2.2.1,hP.2.2.2,aK,ed]
 refine an (rV [42] x y) ?_
 simp only[↓zq,zs,ah,zt]
 refine⟨fun h=>(by cases h),fun _=>⟨fun _=>?_,fun h=>absurd rfl h⟩⟩
 refine⟨by omega,by omega,aU (ix p (by omega)) (nI b p C1 B1 hB) ?_⟩
 rintro r o ⟨q,h1,h2,⟨f,rfl,h4,h5⟩,rfl⟩
 simp only[↓zq,zs,ah,zt,aO,hb.has,aK]
 repeat refine⟨by omega,?_⟩
 refine aU (iy q (by omega)) (nI b q C2 B2 hB2) ?_
 rintro r o ⟨q',g1,g2,⟨g,rfl,g4,g5⟩,rfl⟩
 simp only[↓zq,zs,ah,zt,aO,hb.has,aK]
 repeat refine⟨by omega,?_⟩
 refine an (zF [112] f g) ?_
 simp only[↓zq,zs,ah,zt,aO,hb.has,aK]
 have fin:eF b p (C1+C2+1) (jB (B1+B2+5)) (.agg [.v (.string (mk [])),(E.list [.atom [112],f,g]).sp]) [.cells [b,.v (.int .i64 (q':Int))]]:=⟨q',by omega,by omega,⟨.list [.atom [112],f,g],rfl,⟨by simp[E.ok],h4,g4,trivial⟩,by rw[OH [112] f g rfl];omega⟩,rfl⟩
 first|exact fin|exact⟨by omega,fin⟩
theorem J9(b:AV)(l:List UInt8)(hb:sX b l)(d:Int)(hd:-100000<=d/\d<=100000){x y:E}(hx:Wf x)(hy:Wf y)(hl:(E.list [.atom [43],x,y]).ej<=400)(B C:Nat)(ix:jw b (d-1) x B C)(iy:jw b (d-1) y B C)(hB:1<=B):jw b d (.list [.atom [43],x,y]) (B+5) (C+1):=by
 intro p hp
 refine Dh _ _ _ _ _ ((aX _).mpr trivial) hb.has ?_
 have ed:IntKind.wrap .i64 (d-1)=d-1:=VL.wrap64 _ (by omega) (by omega)
 have hP:=P3.of (.atom [43]) x y
 simp only[E.ej,E.fo]at hl
 have s1:=hx.sz
 have s2:=hy.sz
 simp only[Bj,ca,toNat_one,bf,↓zq,zs,ah,zt,hP.1,hP.2.1,hP.2.2.1,hP.2.2.2,aK,ed]
 refine an (rV [43] x y) ?_
 simp only[↓zq,zs,ah,zt]
 refine⟨fun _=>?_,fun h=>absurd rfl h⟩
 refine aU (vX b l hb p 2 (by omega) (by decide)) (eF.ne ⟨0,rfl,fun h=>by omega,by omega⟩) ?_
 rintro r o ⟨q,h1,h2,⟨k,rfl,_,_⟩,rfl⟩
 simp only[↓zq,zs,ah,zt,aO,hb.has,aK]
 have ex:=KL hx [] (.sl []) (.of []) (by simp;omega)
 have ey:=KL hy [] (.sl []) (.of []) (by simp;omega)
 have ax:=BI x hx.ok (by omega)
 have ay:=BI y hy.ok (by omega)
 rw[dy]at ax ay
 have lx:=ix q (by omega)
 have ly:=iy q (by omega)
 have t:=nI b q C B hB
 have leaf:∀(w:Nm) (q':Nat) (f:E),w.length=1->q<=q'->q'<=q+C->f.ok->(fy f).length<=B->eF b p (C+1) (jB (B+5)) (.agg [.v (.string (mk [])),(E.list [.atom w,f]).sp]) [.cells [b,.v (.int .i64 (q':Int))]]:=fun w q' f hw g1 g2 h4 h5=>Kp hw h1 h2 g1 g2 h4 h5
 repeat' first
  |intro _
  |refine⟨by omega,?_⟩
  |(
   with_reducible refine aU lx t ?_
   rintro r o ⟨q',g1,g2,⟨f,rfl,h4,h5⟩,rfl⟩
   simp only[↓zq,zs,ah,zt,aO,hb.has,aK]
   repeat refine⟨by omega,?_⟩
   refine an (wu _ f) ?_
   simp only[↓zq,zs,ah,zt,aO,hb.has,aK]
   have fin:=leaf [108] q' f rfl g1 g2 h4 h5
   first|exact fin|exact⟨by omega,fin⟩)
  |(
   with_reducible refine aU ly t ?_
   rintro r o ⟨q',g1,g2,⟨f,rfl,h4,h5⟩,rfl⟩
   simp only[↓zq,zs,ah,zt,aO,hb.has,aK]
   repeat refine⟨by omega,?_⟩
   refine an (wu _ f) ?_
   simp only[↓zq,zs,ah,zt,aO,hb.has,aK]
   have fin:=leaf [114] q' f rfl g1 g2 h4 h5
   first|exact fin|exact⟨by omega,fin⟩)
  |(with_reducible refine jD.call ex fun _=>?_;simp only[↓zq,zs,ah,zt,aK])
  |(with_reducible refine jD.call ey fun _=>?_;simp only[↓zq,zs,ah,zt,aK])
  |(with_reducible refine an ax ?_;simp only[↓zq,zs,ah,zt,aK])
  |(with_reducible refine an ay ?_;simp only[↓zq,zs,ah,zt,aK])
  |with_reducible refine aG ?_ ?_
  |(exfalso;omega)
end Go.Proofs.Trees
namespace Go.Proofs.Trees
open Go Go.VL Go.RowKit
def mT:Nat->Nat
 |0=>2
 |d+1=>2*mT d+15
def mW:Nat->Nat
 |0=>3
 |d+1=>2*mW d+8
theorem Of(d:Nat):2<=mT d:=by cases d<;>simp only[mT]<;>omega
theorem Mc(d:Nat):3<=mW d:=by cases d<;>simp only[mW]<;>omega
theorem EK:∀d:Nat,d<=10->mT d<=100000000
 |0,_=>by decide
 |1,_=>by decide
 |2,_=>by decide
 |3,_=>by decide
 |4,_=>by decide
 |5,_=>by decide
 |6,_=>by decide
 |7,_=>by decide
 |8,_=>by decide
 |9,_=>by decide
 |10,_=>by decide
 |d+11,h=>by omega
theorem Ay(b:AV)(l:List UInt8)(hb:sX b l)(p:Nat)(hp:p<2*p5):aB Tryz.prog 43 [.ref 0 0] [.cells [b,.v (.int .i64 (p:Int))]] (eF b p 1 (ga 60)):=by
 refine L8 _ _ hb.has ?_
 unfold Is
 refine aU (Dk b l hb p hp _ _ (.of [_,_,_,_,_,_,_]) (by simp) (by simp)) (eF.ne ⟨_,ag,rfl⟩) ?_
 rintro r o ⟨q,h1,h2,hr,rfl⟩
 obtain⟨s,rfl,hs⟩:=kJ.dw (n:=60) (by decide) hr
 simp only[↓zq,zs,ah,aO,hb.has]
 exact⟨q,h1,h2,⟨s,rfl,hs⟩,rfl⟩
theorem Gt(b:AV)(l:List UInt8)(hb:sX b l):∀(d:Nat),d<=10->∀(p:Nat) (ls:List (List UInt8)) (a:AV),dT a ls->(∀s,s∈ls->s.length<=2)->ls.length+d<=100->p+mW d<2*p5 ->
 aB Tryz.prog 79 [.ref 0 0,a,.v (.int .i64 (d:Int))] [.cells [b,.v (.int .i64 (p:Int))]] (eF b p (mW d) (ga (mT d))):=by
 intro d
 induction d with
 |
  zero =>
  intro hd p ls a ha hls hll hp
  simp only[mW]at hp
  refine HU _ _ _ _ ha.1 hb.has ?_
  simp only[FY,↓zq,zs,ah,ha.len]
  refine⟨fun _=>⟨ha.1,fun hpos=>?_,fun _=>?_⟩,fun h=>by omega⟩
  ·refine aU (vX b l hb p 3 (by omega) (by decide)) (eF.ne ⟨0,rfl,fun h=>by omega,by omega⟩) ?_
   rintro r o ⟨q1,h1,h2,⟨k,rfl,h3,h4⟩,rfl⟩
   simp only[↓zq,zs,ah,aO,hb.has]
   refine⟨fun _=>⟨ha.1,?_⟩,fun _=>?_⟩
   ·refine aU (vX b l hb q1 ls.length (by omega) (by simp[p5];omega)) (eF.ne ⟨0,rfl,fun h=>by omega,by omega⟩) ?_
    rintro r o ⟨q2,g1,g2,⟨k2,rfl,g3,g4⟩,rfl⟩
    have hk:=g3 (by omega)
    simp only[↓zq,zs,ah,aO,hb.has,cj,ha.idx hk]
    have:eF b p (mW 0) (ga (mT 0)) (.v (.string (mk (ls.getD k2 [])))) [.cells [b,.v (.int .i64 (q2:Int))]]:=⟨q2,by omega,by simp only[mW];omega,⟨_,rfl,by
     have:=hls (ls.getD k2 []) (by simp[aa,hk]);simp only[mT];omega⟩,rfl⟩
    refine⟨⟨ha.1,by omega⟩,?_⟩
    repeat (first|exact this|refine⟨by omega,?_⟩)
   ·refine aU (Dk b l hb q1 (by omega) _ _ (.of [_,_,_,_,_,_]) (by simp) (by simp)) (eF.ne ⟨_,ag,rfl⟩) ?_
    rintro r o ⟨q2,g1,g2,hr,rfl⟩
    obtain⟨s,rfl,hs⟩:=kJ.dw (n:=2) (by decide) hr
    simp only[↓zq,zs,ah,aO,hb.has]
    exact⟨q2,by omega,by simp only[mW];omega,⟨s,rfl,by simp only[mT];omega⟩,rfl⟩
  ·refine aU (Dk b l hb p (by omega) _ _ (.of [_,_,_,_,_,_]) (by simp) (by simp)) (eF.ne ⟨_,ag,rfl⟩) ?_
   rintro r o ⟨q2,g1,g2,hr,rfl⟩
   obtain⟨s,rfl,hs⟩:=kJ.dw (n:=2) (by decide) hr
   simp only[↓zq,zs,ah,aO,hb.has]
   exact⟨q2,by omega,by simp only[mW];omega,⟨s,rfl,by simp only[mT];omega⟩,rfl⟩
 |
  succ d ih =>
  intro hd p ls a ha hls hll hp
  simp only[mW]at hp
  have hL:=Of d
  have hC:=Mc d
  have ih:=ih (by omega)
  have hL8:=EK d (by omega)
  have ed:IntKind.wrap .i64 (((d+1:Nat):Int)-1)=(d:Int):=by rw[VL.wrap64]<;>omega
  refine HU _ _ _ _ ha.1 hb.has ?_
  simp only[FY,↓zq,zs,ah,ha.len,ed]
  refine⟨fun h=>by omega,fun _=>?_⟩
  refine aU (vX b l hb p 4 (by omega) (by decide)) (eF.ne ⟨0,rfl,fun h=>by omega,by omega⟩) ?_
  rintro r o ⟨q0,a1,a2,⟨k0,rfl,_,_⟩,rfl⟩
  simp only[↓zq,zs,ah,aO,hb.has]
  refine⟨fun _=>⟨ha.1,fun hpos=>?_,fun _=>?_⟩,fun _=>?_⟩
  ·refine aU (vX b l hb q0 3 (by omega) (by decide)) (eF.ne ⟨0,rfl,fun h=>by omega,by omega⟩) ?_
   rintro r o ⟨q1,h1,h2,⟨k,rfl,h3,h4⟩,rfl⟩
   simp only[↓zq,zs,ah,aO,hb.has]
   refine⟨fun _=>⟨ha.1,?_⟩,fun _=>?_⟩
   ·refine aU (vX b l hb q1 ls.length (by omega) (by simp[p5];omega)) (eF.ne ⟨0,rfl,fun h=>by omega,by omega⟩) ?_
    rintro r o ⟨q2,g1,g2,⟨k2,rfl,g3,g4⟩,rfl⟩
    have hk:=g3 (by omega)
    simp only[↓zq,zs,ah,aO,hb.has,cj,ha.idx hk]
    have:eF b p (mW (d+1)) (ga (mT (d+1))) (.v (.string (mk (ls.getD k2 [])))) [.cells [b,.v (.int .i64 (q2:Int))]]:=⟨q2,by omega,by simp only[mW];omega,⟨_,rfl,by
     have:=hls (ls.getD k2 []) (by simp[aa,hk]);simp only[mT];omega⟩,rfl⟩
    refine⟨⟨ha.1,by omega⟩,?_⟩
    repeat (first|exact this|refine⟨by omega,?_⟩)
   ·refine aU (Dk b l hb q1 (by omega) _ _ (.of [_,_,_,_,_,_]) (by simp) (by simp)) (eF.ne ⟨_,ag,rfl⟩) ?_
    rintro r o ⟨q2,g1,g2,hr,rfl⟩
    obtain⟨s,rfl,hs⟩:=kJ.dw (n:=2) (by decide) hr
    simp only[↓zq,zs,ah,aO,hb.has]
    exact⟨q2,by omega,by simp only[mW];omega,⟨s,rfl,by simp only[mT];omega⟩,rfl⟩
  ·refine aU (Dk b l hb q0 (by omega) _ _ (.of [_,_,_,_,_,_]) (by simp) (by simp)) (eF.ne ⟨_,ag,rfl⟩) ?_
   rintro r o ⟨q2,g1,g2,hr,rfl⟩
   obtain⟨s,rfl,hs⟩:=kJ.dw (n:=2) (by decide) hr
   simp only[↓zq,zs,ah,aO,hb.has]
   exact⟨q2,by omega,by simp only[mW];omega,⟨s,rfl,by simp only[mT];omega⟩,rfl⟩
  ·refine aU (vX b l hb q0 5 (by omega) (by decide)) (eF.ne ⟨0,rfl,fun h=>by omega,by omega⟩) ?_
   rintro r o ⟨q1,b1,b2,⟨k1,rfl,c3,_⟩,rfl⟩
   have hk1:=c3 (by omega)
   obtain rfl|rfl|rfl|rfl|rfl:k1=0\/k1=1\/k1=2\/k1=3\/k1=4:=by omega
   ·simp only[↓zq,zs,ah,aO,hb.has]
    refine⟨fun _=>?_,fun h=>absurd rfl h⟩
    refine aU (ih q1 ls a ha hls (by omega) (by omega)) (eF.ne ⟨[],rfl,by simp⟩) ?_
    rintro r o ⟨q2,d1,d2,⟨s1,rfl,d3⟩,rfl⟩
    simp only[↓zq,zs,ah,zt,aO,hb.has,ak]
    repeat refine⟨by first|omega|(simp only[ak,aw,aE];omega),?_⟩
    refine aU (ih q2 ls a ha hls (by omega) (by omega)) (eF.ne ⟨[],rfl,by simp⟩) ?_
    rintro r o ⟨q3,e1,e2,⟨s2,rfl,e3⟩,rfl⟩
    simp only[↓zq,zs,ah,zt,aO,hb.has,ak]
    have fin:∀s:List UInt8,s.length<=mT (d+1)->eF b p (mW (d+1)) (ga (mT (d+1))) (.v (.string (mk s))) [.cells [b,.v (.int .i64 (q3:Int))]]:=fun s hs=>⟨q3,by omega,by simp only[mW];omega,⟨s,rfl,hs⟩,rfl⟩
    repeat (first|exact fin _ (by simp only[ak,aw,aE,mT];omega)|refine⟨by first|omega|(simp only[ak,aw,aE];omega),?_⟩)
   ·simp only[↓zq,zs,ah,aO,hb.has]
    refine⟨fun h=>by omega,fun _=>⟨fun _=>?_,fun h=>absurd rfl h⟩⟩
    refine aU (ih q1 ls a ha hls (by omega) (by omega)) (eF.ne ⟨[],rfl,by simp⟩) ?_
    rintro r o ⟨q2,d1,d2,⟨s1,rfl,d3⟩,rfl⟩
    simp only[↓zq,zs,ah,zt,aO,hb.has,ak]
    repeat refine⟨by first|omega|(simp only[ak,aw,aE];omega),?_⟩
    refine aU (ih q2 ls a ha hls (by omega) (by omega)) (eF.ne ⟨[],rfl,by simp⟩) ?_
    rintro r o ⟨q3,e1,e2,⟨s2,rfl,e3⟩,rfl⟩
    simp only[↓zq,zs,ah,zt,aO,hb.has,ak]
    have fin:∀s:List UInt8,s.length<=mT (d+1)->eF b p (mW (d+1)) (ga (mT (d+1))) (.v (.string (mk s))) [.cells [b,.v (.int .i64 (q3:Int))]]:=fun s hs=>⟨q3,by omega,by simp only[mW];omega,⟨s,rfl,hs⟩,rfl⟩
    repeat (first|exact fin _ (by simp only[ak,aw,aE,mT];omega)|refine⟨by first|omega|(simp only[ak,aw,aE];omega),?_⟩)
   ·simp only[↓zq,zs,ah,aO,hb.has]
    refine⟨fun h=>by omega,fun _=>⟨fun h=>by omega,fun _=>⟨fun _=>?_,fun h=>absurd rfl h⟩⟩⟩
    refine aU (ih q1 ls a ha hls (by omega) (by omega)) (eF.ne ⟨[],rfl,by simp⟩) ?_
    rintro r o ⟨q2,d1,d2,⟨s1,rfl,d3⟩,rfl⟩
    simp only[↓zq,zs,ah,zt,aO,hb.has,ak]
    repeat refine⟨by first|omega|(simp only[ak,aw,aE];omega),?_⟩
    refine aU (ih q2 ls a ha hls (by omega) (by omega)) (eF.ne ⟨[],rfl,by simp⟩) ?_
    rintro r o ⟨q3,e1,e2,⟨s2,rfl,e3⟩,rfl⟩
    simp only[↓zq,zs,ah,zt,aO,hb.has,ak]
    have fin:∀s:List UInt8,s.length<=mT (d+1)->eF b p (mW (d+1)) (ga (mT (d+1))) (.v (.string (mk s))) [.cells [b,.v (.int .i64 (q3:Int))]]:=fun s hs=>⟨q3,by omega,by simp only[mW];omega,⟨s,rfl,hs⟩,rfl⟩
    repeat (first|exact fin _ (by simp only[ak,aw,aE,mT];omega)|refine⟨by first|omega|(simp only[ak,aw,aE];omega),?_⟩)
   ·simp only[↓zq,zs,ah,aO,hb.has]
    refine⟨fun h=>by omega,fun _=>⟨fun h=>by omega,fun _=>⟨fun h=>by omega,fun _=>⟨fun _=>?_,fun h=>absurd rfl h⟩⟩⟩⟩
    refine aU (ih q1 ls a ha hls (by omega) (by omega)) (eF.ne ⟨[],rfl,by simp⟩) ?_
    rintro r o ⟨q2,d1,d2,⟨s1,rfl,d3⟩,rfl⟩
    simp only[↓zq,zs,ah,zt,aO,hb.has,ak]
    repeat refine⟨by first|omega|(simp only[ak,aw,aE];omega),?_⟩
    refine aU (ih q2 ls a ha hls (by omega) (by omega)) (eF.ne ⟨[],rfl,by simp⟩) ?_
    rintro r o ⟨q3,e1,e2,⟨s2,rfl,e3⟩,rfl⟩
    simp only[↓zq,zs,ah,zt,aO,hb.has,ak]
    have fin:∀s:List UInt8,s.length<=mT (d+1)->eF b p (mW (d+1)) (ga (mT (d+1))) (.v (.string (mk s))) [.cells [b,.v (.int .i64 (q3:Int))]]:=fun s hs=>⟨q3,by omega,by simp only[mW];omega,⟨s,rfl,hs⟩,rfl⟩
    repeat (first|exact fin _ (by simp only[ak,aw,aE,mT];omega)|refine⟨by first|omega|(simp only[ak,aw,aE];omega),?_⟩)
   ·simp only[↓zq,zs,ah,aO,hb.has]
    refine⟨fun h=>by omega,fun _=>⟨fun h=>by omega,fun _=>⟨fun h=>by omega,fun _=>⟨fun h=>by omega,fun _=>?_⟩⟩⟩⟩
    refine aU (Dk b l hb q1 (by omega) _ _ (.of [_,_,_]) (by simp) (by simp)) (eF.ne ⟨_,ag,rfl⟩) ?_
    rintro r o ⟨q2,g1,g2,hr,rfl⟩
    obtain⟨s,rfl,hs⟩:=kJ.dw (n:=2) (by decide) hr
    simp only[↓zq,zs,ah,zt,aO,hb.has]
    repeat refine⟨by first|omega|(simp only[ak,aw,aE];omega),?_⟩
    refine bJ (He ls a ha s (by omega)) ?_
    simp only[↓zq,zs,ah,Ob.es,aM]
    refine⟨iu _,?_⟩
    refine aU (ih q2 (ls++[s]) _ (.of _) (fun w hw=>by
     rcases aH.1 hw with hw|hw
     ·exact hls w hw
     ·simp at hw;rw[hw];exact hs) (by simp;omega) (by omega)) (eF.ne ⟨[],rfl,by simp⟩) ?_
    rintro r o ⟨q3,e1,e2,⟨s2,rfl,e3⟩,rfl⟩
    simp only[↓zq,zs,ah,zt,aO,hb.has,ak]
    have fin:∀s:List UInt8,s.length<=mT (d+1)->eF b p (mW (d+1)) (ga (mT (d+1))) (.v (.string (mk s))) [.cells [b,.v (.int .i64 (q3:Int))]]:=fun s hs=>⟨q3,by omega,by simp only[mW];omega,⟨s,rfl,hs⟩,rfl⟩
    repeat (first|exact fin _ (by simp only[ak,aw,aE,mT];omega)|refine⟨by first|omega|(simp only[ak,aw,aE];omega),?_⟩)
end Go.Proofs.Trees
namespace Go.Proofs.Trees
open Go Go.VL Go.RowKit
theorem eF.mono{b:AV}{p c c':Nat}{X Y:AV->Prop}(hc:c<=c')(h:∀r,X r->Y r){r:AV}{o:List Ob}(hr:eF b p c X r o):eF b p c' Y r o:=by
 obtain⟨q,h1,h2,h3,h4⟩:=hr;exact⟨q,h1,by omega,h r h3,h4⟩
theorem ga.le{n m:Nat}(h:n<=m){r:AV}(hr:ga n r):ga m r:=by obtain⟨s,h1,h2⟩:=hr;exact⟨s,h1,by omega⟩
theorem LX(b:AV)(l:List UInt8)(hb:sX b l)(p:Nat)(hp:p<p5):aB Tryz.prog 78 [.ref 0 0] [.cells [b,.v (.int .i64 (p:Int))]] (eF b p 100 (ga 200)):=by
 refine Mt _ _ hb.has ?_
 unfold IE
 have hfar:p5=1000000000000000:=rfl
 refine aU (vX b l hb p 12 (by omega) (by decide)) (eF.ne ⟨0,rfl,fun h=>by omega,by omega⟩) ?_
 rintro r o ⟨q,h1,h2,⟨k,rfl,_,_⟩,rfl⟩
 have kn:∀(c m:Nat) (r:AV) (o:List Ob),c<=90->m<=200->eF b q c (ga m) r o->∃q':Nat,∃s:List UInt8,r=.v (.string (mk s))/\o=[.cells [b,.v (.int .i64 (q':Int))]]/\eF b p 100 (ga 200) (.v (.string (mk s))) [.cells [b,.v (.int .i64 (q':Int))]]:=by
  rintro c m r o hc hm ⟨q',g1,g2,⟨s,rfl,hs⟩,rfl⟩
  exact⟨q',s,rfl,rfl,q',by omega,by omega,⟨s,rfl,by omega⟩,rfl⟩
 simp only[↓zq,zs,ah,aO,hb.has]
 refine⟨fun _=>?_,fun _=>⟨fun _=>?_,fun _=>⟨fun _=>?_,fun _=>⟨fun _=>?_,fun _=>⟨fun _=>?_,fun _=>?_⟩⟩⟩⟩⟩
 ·refine aU (Dk b l hb q (by omega) _ _ (.of [_,_,_,_,_,_,_,_,_]) (by simp) (by simp)) (eF.ne ⟨_,ag,rfl⟩) ?_
  intro r o hr
  obtain⟨q',s,rfl,rfl,hd⟩:=kn 1 20 r o (by omega) (by omega) (hr.mono (aq _) fun r h=>kJ.dw (n:=20) (by decide) h)
  simp only[↓zq,zs,ah,aO,hb.has];exact hd
 ·refine aU (Ay b l hb q (by omega)) (eF.ne ⟨[],rfl,by simp⟩) ?_
  intro r o hr
  obtain⟨q',s,rfl,rfl,hd⟩:=kn _ _ r o (by omega) (by omega) hr
  simp only[↓zq,zs,ah,aO,hb.has];exact hd
 ·refine aU (Ay b l hb q (by omega)) (eF.ne ⟨[],rfl,by simp⟩) ?_
  intro r o hr
  obtain⟨q',s,rfl,rfl,hd⟩:=kn _ _ r o (by omega) (by omega) hr
  simp only[↓zq,zs,ah,aO,hb.has];exact hd
 ·refine aU (Ay b l hb q (by omega)) (eF.ne ⟨[],rfl,by simp⟩) ?_
  intro r o hr
  obtain⟨q',s,rfl,rfl,hd⟩:=kn _ _ r o (by omega) (by omega) hr
  simp only[↓zq,zs,ah,aO,hb.has];exact hd
 ·refine aU (Gt b l hb 2 (by omega) q [[116],[116,49]] _ (dT.of [[116],[116,49]]) (by decide) (by simp) (by simp[mW];omega)) (eF.ne ⟨[],rfl,by simp⟩) ?_
  intro r o hr
  obtain⟨q',s,rfl,rfl,hd⟩:=kn _ _ r o (by simp[mW]) (by simp[mT]) hr
  simp only[↓zq,zs,ah,aO,hb.has];exact hd
 ·refine aU (Gt b l hb 3 (by omega) q [] _ (dT.of []) (by simp) (by simp) (by simp[mW];omega)) (eF.ne ⟨[],rfl,by simp⟩) ?_
  intro r o hr
  obtain⟨q',s,rfl,rfl,hd⟩:=kn _ _ r o (by simp[mW]) (by simp[mT]) hr
  simp only[↓zq,zs,ah,aO,hb.has];exact hd
def xJ(a:AV):Prop:=LK.sl.has a/\∃l:List UInt8,a.elems=pW l
def LG(r:AV)(o:List Ob):Prop:=∃(b:AV) (l:List UInt8),sX b l/\r=.ref 0 0/\o=[.cells [b,.v (.int .i64 0)]]
theorem LG.ne:∃r o,LG r o:=⟨_,_,.v (.slice none 0 0),[],⟨(bp).mpr trivial,rfl,by simp⟩,rfl,rfl⟩
theorem MG(a:AV)(ha:xJ a):aB Tryz.prog 22 [a] [] LG:=by
 obtain⟨hs,l,hl⟩:=ha
 have hln:a.elems.length=l.length:=by rw[hl];simp[pW]
 refine Nr _ hs ?_
 simp only[Lh,↓zq,zs,ah,hln]
 refine⟨hs,fun h=>⟨⟨hs,by omega⟩,?_⟩,fun h=>?_⟩
 ·refine⟨_,l.take 2000,⟨(cE _).mpr trivial,?_,?_⟩,rfl,rfl⟩
  ·rw[fE,hl];simp[pW]
  ·simp;omega
 ·exact⟨a,l,⟨hs,hl,by omega⟩,rfl,rfl⟩
end Go.Proofs.Trees
namespace Go.Proofs.Trees
open Go Go.VL Go.RowKit
theorem Av(b:AV)(l:List UInt8)(hb:sX b l){e:E}(h:Wf e):∀d:Int,d<=-13->-50000+(e.sz:Int)<=d->e.ej<=400->jw b d e (5*e.sz) e.sz:=by
 induction h with
 |
  @atom s hs =>
  intro d h1 h2 h3
  exact(HH b l hb d hs).mono (by simp[E.sz]) (by simp[E.sz])
 |
  @plus x y hx hy i1 i2 =>
  intro d h1 h2 h3
  have h4:=h3
  simp only[E.sz,E.iD,E.ej,E.fo]at h2 h4 |-
  exact(J9 b l hb d (by omega) hx hy h3 (5*(x.sz+y.sz)+1) (x.sz+y.sz) ((i1 (d-1) (by omega) (by omega) (by omega)).mono (by omega) (by omega)) ((i2 (d-1) (by omega) (by omega) (by omega)).mono (by omega) (by omega)) (by omega)).mono (by omega) (by omega)
 |
  @times x y hx hy i1 i2 =>
  intro d h1 h2 h3
  have h4:=h3
  simp only[E.sz,E.iD,E.ej,E.fo]at h2 h4 |-
  exact(IU b l hb d (by omega) hx hy (5*x.sz+1) x.sz (5*y.sz+1) y.sz ((i1 (d-1) (by omega) (by omega) (by omega)).mono (by omega) (by omega)) ((i2 (d-1) (by omega) (by omega) (by omega)).mono (by omega) (by omega)) (by omega) (by omega)).mono (by omega) (by omega)
 |
  @rc n x hn hx i =>
  intro d h1 h2 h3
  simp only[E.sz,E.iD]at h2 |-
  exact(HR b l hb d (by omega) hn hx h3 1 0 (fun h=>absurd h (by omega)) (by omega)).mono (by omega) (by omega)
def oX:Nat->Nat
 |0=>6100
 |n+1=>2*oX n+5
theorem FV:∀n,6100<=oX n
 |0=>aq _
 |n+1=>by have:=FV n;simp only[oX];omega
theorem wa:∀n k:Nat,oX (n+k)+5=2 ^ k*(oX n+5)
 |n,0=>by simp
 |
  n,k+1=>by
  have:=wa n k
  rw[show n+(k+1)=n+k+1 from rfl,oX,Nat.pow_succ,Nat.mul_comm (2 ^ k) 2,Nat.mul_assoc,<-this];omega
theorem zY{n m:Nat}(h:n<=m):oX n<=oX m:=by
 obtain⟨k,rfl⟩:=Nat.exists_eq_add_of_le h
 have:=wa n k
 have h2:1*(oX n+5)<=2 ^ k*(oX n+5):=aS _ Nat.one_le_two_pow
 omega
theorem I9:oX 22<=30000000000:=by
 have:=wa 0 22
 simp only[aR]at this
 have h0:oX 0=6100:=rfl
 rw[h0]at this
 omega
theorem xN(b:AV)(l:List UInt8)(hb:sX b l):∀n:Nat,n<=40->∀e,Wf e->e.ej<=400->jw b ((n:Int)-13) e (oX n) (oX n)
 |
  0,hn,e,h,hl=>by
  have:=h.sz
  exact(Av b l hb h _ (by simp) (by simp;omega) hl).mono (by simp only[oX];omega) (by simp only[oX];omega)
 |
  n+1,hn,e,h,hl=>by
  have hb1:=FV n
  have ih:∀g,Wf g->g.ej<=400->jw b (((n+1:Nat):Int)-13-1) g (oX n) (oX n):=by
   rw[show ((n+1:Nat):Int)-13-1=(n:Int)-13 by omega];exact xN b l hb n (by omega)
  cases h with
  |@atom s hs=>exact(HH b l hb _ hs).mono (by simp only[oX];omega) (by simp only[oX];omega)
  |
   @plus x y hx hy =>
   have h4:=hl
   simp only[E.ej,E.fo]at h4
   exact(J9 b l hb _ (by omega) hx hy hl _ _ (ih x hx (by omega)) (ih y hy (by omega)) (by omega)).mono (by simp only[oX];omega) (by simp only[oX];omega)
  |
   @times x y hx hy =>
   simp only[E.ej,E.fo]at hl
   exact(IU b l hb _ (by omega) hx hy _ _ _ _ (ih x hx (by omega)) (ih y hy (by omega)) (by omega) (by omega)).mono (by simp only[oX];omega) (by simp only[oX];omega)
  |@rc m x hm hx=>exact(HR b l hb _ (by omega) hm hx hl _ _ (fun _=>ih) (by omega)).mono (by simp only[oX];omega) (by simp only[oX];omega)
theorem Dr(b:AV)(l:List UInt8)(hb:sX b l)(p:Nat)(hp:p<100000000000000)(s:Nm):aB Tryz.prog 24 [.ref 0 0,.v (.string (mk s))] [.cells [b,.v (.int .i64 (p:Int))]] (eF b p 40000000000 (ga 40000000000)):=by
 refine MS _ _ _ hb.has ?_
 have hfar:p5=1000000000000000:=rfl
 have oneL:∀(q:Nat) (r:AV) (o:List Ob),p<=q->q<=p+1->eF b q 1 (kJ [[],[117],[101,48],[101,48,48],[101,49,48,48],[40,108,32,117,41],[40,112,32,117,41],[40,102,32,40,108,32,117,41,41],[40,120,32,117,41],[40,108,32,32,117,41]]) r o->∃q':Nat,∃t:List UInt8,r=.v (.string (mk t))/\o=[.cells [b,.v (.int .i64 (q':Int))]]/\eF b p 40000000000 (ga 40000000000) (.v (.string (mk t))) [.cells [b,.v (.int .i64 (q':Int))]]:=by
  rintro q r o h1 h2 ⟨q',g1,g2,hr,rfl⟩
  obtain⟨t,rfl,ht⟩:=kJ.dw (n:=20) (by decide) hr
  exact⟨q',t,rfl,rfl,q',by omega,by omega,⟨t,rfl,by omega⟩,rfl⟩
 unfold Le
 refine aU (GW s) (kt.ne _ _ (fun h=>h)) ?_
 rintro r o ⟨c,d,hd,rfl,hh⟩
 have hhas:cc [.str,.sl] [.v (.string (mk c)),d] 0:=by simp[cc,dU,hd]
 simp only[↓zq,zs,ah,zt]
 refine⟨hhas,fun h=>?_,fun h=>?_⟩
 ·refine aU (Dk b l hb p (by omega) _ _ (.of [_,_,_,_,_,_,_,_,_,_]) (by simp) (by simp)) (eF.ne ⟨_,ag,rfl⟩) ?_
  intro r o hr
  obtain⟨q',t,rfl,rfl,hd⟩:=oneL p r o (aq _) (by omega) hr
  simp only[↓zq,zs,ah,aO,hb.has];exact hd
 ·obtain⟨e,he,hce⟩:=hh (by simpa using h)
  obtain⟨t,h1,hA,h3,h4,h5,_⟩:=gC he
  rw[dy]at hce
  simp only[AV.agg.injEq,List.cons.injEq,AV.v.injEq,Value.string.injEq,and_true]at hce
  obtain⟨hc1,rfl⟩:=hce
  have hc2:=mk_inj hc1
  subst hc2
  obtain⟨hw,hwt⟩:=j8 e [] t hA.ok (by simp) hA.ty
  have hats:e.ej<=400:=by rw[hw.ej [],hwt];exact h5
  have hsz:=hw.sz
  refine aU (vX b l hb p 16 (by omega) (by decide)) (eF.ne ⟨0,rfl,fun h=>by omega,by omega⟩) ?_
  rintro r o ⟨q,h1,h2,⟨k,rfl,_,_⟩,rfl⟩
  simp only[↓zq,zs,ah,aO,hb.has]
  refine⟨fun _=>?_,fun _=>?_⟩
  ·refine aU (Dk b l hb q (by omega) _ _ (.of [_,_,_,_,_,_,_,_,_,_]) (by simp) (by simp)) (eF.ne ⟨_,ag,rfl⟩) ?_
   intro r o hr
   obtain⟨q',t,rfl,rfl,hd⟩:=oneL q r o h1 h2 hr
   simp only[↓zq,zs,ah,aO,hb.has];exact hd
  ·obtain⟨w1,w2,_⟩:=Bz (os:=[]) hw
   have hap:=J8 hw (.v (.slice none 0 0)) [] ⟨(bp).mpr trivial,rfl⟩ (by omega) (by simp) (by simp)
   refine an hap ?_
   simp only[↓zq,zs,ah,zt,aK]
   repeat refine⟨by omega,?_⟩
   have hats2:(D2 e []).ej<=400:=by rw[w1.ej [],w2,<-hw.ej []];exact hats
   refine aU (vX b l hb q 5 (by omega) (by decide)) (eF.ne ⟨0,rfl,fun h=>by omega,by omega⟩) ?_
   rintro r o ⟨q1,g1,g2,⟨k1,rfl,c3,_⟩,rfl⟩
   have hk1:=c3 (by omega)
   simp only[↓zq,zs,ah,zt,aO,hb.has,aK]
   have ed:IntKind.wrap .i64 (5+(k1:Int))=((18+k1:Nat):Int)-13:=by rw[VL.wrap64 _ (by omega) (by omega)];omega
   have hB:=I9
   have hB2:oX (18+k1)<=oX 22:=zY (by omega)
   have hB3:=FV (18+k1)
   rw[ed]
   refine aU (xN b l hb (18+k1) (by omega) (D2 e []) w1 hats2 q1 (by omega)) (nI b q1 _ _ (by omega)) ?_
   rintro r o ⟨q2,d1,d2,⟨f,rfl,f1,f2⟩,rfl⟩
   simp only[↓zq,zs,ah,zt,aO,hb.has,aK]
   repeat refine⟨by omega,?_⟩
   have ht:=Dq (f.sz+1) f (by omega) f1 (by omega)
   rw[dy]at ht
   refine an ht ?_
   simp only[↓zq,zs,ah,zt,aO,hb.has,aK]
   exact⟨q2,by omega,by omega,⟨fy f,rfl,by omega⟩,rfl⟩
theorem Og(b:AV)(l:List UInt8)(hb:sX b l)(p:Nat)(hp:p<100000000000000):aB Tryz.prog 61 [.ref 0 0] [.cells [b,.v (.int .i64 (p:Int))]] (eF b p 200 (ga 200)):=by
 refine MP _ _ hb.has ?_
 unfold JH
 have hfar:p5=1000000000000000:=rfl
 refine aU (vX b l hb p 8 (by omega) (by decide)) (eF.ne ⟨0,rfl,fun h=>by omega,by omega⟩) ?_
 rintro r o ⟨q,h1,h2,⟨k,rfl,_,_⟩,rfl⟩
 have kn:∀(c m:Nat) (r:AV) (o:List Ob),c<=190->m<=200->eF b q c (ga m) r o->∃q':Nat,∃s:List UInt8,r=.v (.string (mk s))/\o=[.cells [b,.v (.int .i64 (q':Int))]]/\eF b p 200 (ga 200) (.v (.string (mk s))) [.cells [b,.v (.int .i64 (q':Int))]]:=by
  rintro c m r o hc hm ⟨q',g1,g2,⟨s,rfl,hs⟩,rfl⟩
  exact⟨q',s,rfl,rfl,q',by omega,by omega,⟨s,rfl,by omega⟩,rfl⟩
 have sh:=Gt b l hb 3 (by omega) q [] _ (dT.of []) (by simp) (by simp) (by simp[mW];omega)
 have ty:=LX b l hb q (by omega)
 have kw:=Ay b l hb q (by omega)
 simp only[↓zq,zs,ah,aO,hb.has]
 refine⟨fun _=>?_,fun _=>⟨fun _=>?_,fun _=>⟨fun _=>?_,fun _=>⟨fun _=>?_,fun _=>?_⟩⟩⟩⟩
 ·refine aU ty (eF.ne ⟨[],rfl,by simp⟩) ?_
  intro r o hr
  obtain⟨q',s,rfl,rfl,hd⟩:=kn _ _ r o (by omega) (by omega) hr
  simp only[↓zq,zs,ah,aO,hb.has];exact hd
 ·refine aU sh (eF.ne ⟨[],rfl,by simp⟩) ?_
  intro r o hr
  obtain⟨q',s,rfl,rfl,hd⟩:=kn _ _ r o (by simp[mW]) (by simp[mT]) hr
  simp only[↓zq,zs,ah,aO,hb.has];exact hd
 ·refine aU sh (eF.ne ⟨[],rfl,by simp⟩) ?_
  intro r o hr
  obtain⟨q',s,rfl,rfl,hd⟩:=kn _ _ r o (by simp[mW]) (by simp[mT]) hr
  simp only[↓zq,zs,ah,aO,hb.has];exact hd
 ·refine aU sh (eF.ne ⟨[],rfl,by simp⟩) ?_
  intro r o hr
  obtain⟨q',s,rfl,rfl,hd⟩:=kn _ _ r o (by simp[mW]) (by simp[mT]) hr
  simp only[↓zq,zs,ah,aO,hb.has];exact hd
 ·refine aU kw (eF.ne ⟨[],rfl,by simp⟩) ?_
  intro r o hr
  obtain⟨q',s,rfl,rfl,hd⟩:=kn _ _ r o (by omega) (by omega) hr
  simp only[↓zq,zs,ah,aO,hb.has];exact hd
def Jl:AV->Prop:=fun r=>∃s t:Nm,r=.cP [.v (.string (mk s)),.v (.string (mk t))]
theorem Nt(b:AV)(l:List UInt8)(hb:sX b l)(p:Nat)(hp:p<10000000000000):aB Tryz.prog 44 [.ref 0 0] [.cells [b,.v (.int .i64 (p:Int))]] (eF b p 50000000000 Jl):=by
 refine My _ _ hb.has ?_
 unfold Hw
 refine aU (Og b l hb p (by omega)) (eF.ne ⟨[],rfl,by simp⟩) ?_
 rintro r o ⟨q,h1,h2,⟨s,rfl,_⟩,rfl⟩
 simp only[↓zq,zs,ah,aO,hb.has]
 refine aU (Dr b l hb q (by omega) s) (eF.ne ⟨[],rfl,by simp⟩) ?_
 rintro r o ⟨q1,g1,g2,⟨t,rfl,_⟩,rfl⟩
 simp only[↓zq,zs,ah,aO,hb.has]
 exact⟨q1,by omega,by omega,⟨s,t,rfl⟩,rfl⟩
theorem Mu(b:AV)(l:List UInt8)(hb:sX b l)(p:Nat)(hp:p<1000000000000):aB Tryz.prog 23 [.ref 0 0] [.cells [b,.v (.int .i64 (p:Int))]] (eF b p 60000000000 Jl):=by
 refine L0 _ _ hb.has ?_
 unfold HX
 have hfar:p5=1000000000000000:=rfl
 refine aU (Ay b l hb p (by omega)) (eF.ne ⟨[],rfl,by simp⟩) ?_
 rintro r o ⟨q,h1,h2,⟨s,rfl,_⟩,rfl⟩
 simp only[↓zq,zs,ah,aO,hb.has]
 refine aU (vX b l hb q 12 (by omega) (by decide)) (eF.ne ⟨0,rfl,fun h=>by omega,by omega⟩) ?_
 rintro r o ⟨q1,g1,g2,⟨k,rfl,_,_⟩,rfl⟩
 simp only[↓zq,zs,ah,aO,hb.has]
 refine⟨fun _=>?_,fun _=>?_⟩
 ·refine aU (Nt b l hb q1 (by omega)) (eF.ne ⟨[],[],rfl⟩) ?_
  rintro r o ⟨q2,e1,e2,⟨x,y,rfl⟩,rfl⟩
  simp only[↓zq,zs,ah,zt,aO,hb.has]
  exact⟨q2,by omega,by omega,⟨x,y,rfl⟩,rfl⟩
 ·refine aU (Dr b l hb q1 (by omega) s) (eF.ne ⟨[],rfl,by simp⟩) ?_
  rintro r o ⟨q2,e1,e2,⟨t,rfl,_⟩,rfl⟩
  simp only[↓zq,zs,ah,aO,hb.has]
  exact⟨q2,by omega,by omega,⟨s,t,rfl⟩,rfl⟩
end Go.Proofs.Trees
namespace Go.Proofs.Trees
open Go Go.VL
theorem wO(l:List (List UInt8)):(bO l).length=l.length:=by simp[bO]
end Go.Proofs.Trees
namespace Go.Proofs.Trees
open Go Go.VL Go.RowKit
theorem Jq(l:List Pt)(hl:l.length<=1000):∀(k i:Nat) (out:List (List UInt8)),i+k=l.length->out.length+k<=1000 ->
 FB [.sl (l6 l),.v (.bool true),.v (.int .i64 (i:Int))] [.vec 1 (bO out)] (kl 1 [.v (.bool true)] [.vec 1 (bO (out++u9 (l.drop i)))])
 |
  0,i,out,hi,ho=>by
  refine F0 _ _ _ _ ?_
  have:i=l.length:=by omega
  subst this
  simp only[CE,↓zq,zs,ah,kO]
  exact⟨fun h=>by omega,fun _=>by simp[kl,u9]⟩
 |
  k+1,i,out,hi,ho=>by
  have hlt:i<l.length:=by omega
  refine F0 _ _ _ _ ?_
  simp only[CE,↓zq,zs,ah,zt,kO,AF hlt,wO,Gk]
  refine⟨fun _=>⟨fun _=>?_,fun h=>(by cases h)⟩,fun h=>by omega⟩
  repeat refine⟨by omega,?_⟩
  refine⟨⟨xA _,by omega⟩,?_⟩
  have:=Jq l hl k (i+1) (out++[(l[i]).1.dw]) (by omega) (by simp;omega)
  rw[bX i (by omega),aP hlt]
  rw[bq]at this
  exact this
theorem Mz(s v:List UInt8):aB Tryz.prog 25 [.v (.string (mk s)),.v (.string (mk v))] [] (bU (.cP [.sl (bO (vW s v)),.v (.bool (fF s v).isSome)])):=by
 refine L6 _ _ ?_
 unfold HY
 refine aU (L4 s v) (Jm.ne _ s v) ?_
 rintro r o ⟨rfl,x,hx,rfl,hl⟩
 cases h:fF s v with
 |
  none =>
  simp only[↓zq,zs,ah,hx,Option.isSome_none]
  refine db (ys:=[.v (.bool false)]) (o:=[.vec 1 []]) ?_ ?_
  ·refine F0 _ _ _ _ ?_
   simp only[CE,↓zq,zs,ah,hx]
   exact⟨fun _=>⟨fun h=>(by cases h),fun _=>⟨rfl,rfl,rfl⟩⟩,fun _=>⟨rfl,rfl,rfl⟩⟩
  ·simp[↓zq,zs,ah,bU,vW,h,bO,Ob.es]
 |
  some l =>
  rw[hl l h]
  have:=(rK h).1
  simp only[↓zq,zs,ah,Option.isSome_some,kO]
  have:=Jq l (by omega) l.length 0 [] (by omega) (by simp;omega)
  rw[bz,bg]at this
  refine db this ?_
  simp[↓zq,zs,ah,bU,vW,h,Ob.es]
end Go.Proofs.Trees
namespace Go.Proofs.Trees
open Go Go.VL Go.RowKit
abbrev hN(k:Nat):Nm:=35::dd k
abbrev OA(f:Nat)(g:Bool):Ob:=.cells [.v (.int .i64 (f:Int)),.v (.bool g)]
def Ow(o:Option Ty)(f B:Nat):AV->List Ob->Prop:=fun r ob=>∃f':Nat,f<=f'/\f'<=f+B/\r=(o.getD .zero).av/\ob=[OA f' o.isNone]
theorem Ow.ne(o:Option Ty)(f B:Nat):∃r ob,Ow o f B r ob:=⟨_,_,f,aq _,da _ _,rfl,rfl⟩
def Ot(o:Option Ty):AV->List Ob->Prop:=fun r ob=>ob=[]/\∃p,LK.ptr.has p/\r=.cP [p,.v (.bool o.isSome)]/\∀d,o=some d->p=d.av
theorem Ot.ne(o:Option Ty):∃r ob,Ot o r ob:=by
 cases o with
 |none=>exact⟨_,_,rfl,jZ,(j3).mpr trivial,rfl,fun d h=>by cases h⟩
 |some d=>exact⟨_,_,rfl,d.av,(bm _).mpr trivial,rfl,fun d' h=>by cases h;rfl⟩
end Go.Proofs.Trees
namespace Go.Proofs.Trees
open Go Go.VL Go.RowKit
theorem AA{s:Nm}{p:List Nm}{f:Nm}{l:List Vl}{v:Vl}(h:Gl s p f=some (l,v)):∃d a x A B D,ZT s d a x A B D/\ZI a l v/\p=l.map (·.dw)/\f=v.dw/\p.length<=50/\zA s=a/\eV s f=some v/\ig d p=some l:=by
 unfold Gl at h
 split at h
 ·rename_i v' d h1 h2
  split at h
  ·rename_i hl
   obtain⟨l',h3,h4⟩:=Option.map_eq_some_iff.1 h
   cases h4
   obtain⟨a,_,_,_,L⟩:=iw h1
   obtain⟨x,A,B,D,z⟩:=ZT.of L.l h2
   obtain⟨q1,q2⟩:=rl z p l h3
   obtain⟨q3,q4⟩:=z.B3 h1
   exact⟨d,a,x,A,B,D,z,⟨q2,q3⟩,q1,q4,hl,by unfold zA;rw[L.l];rfl,h1,h3⟩
  ·cases h
 ·cases h
end Go.Proofs.Trees
namespace Go.Proofs.Trees
open Go Go.VL Go.RowKit
abbrev tZ(s:Nm):Option (List Vl×Vl)->Nm×List Nm×Nm
 |some r=>(s,r.1.map (·.dw),r.2.dw)
 |none=>([],[],[])
def GZ(o:Option (List Vl×Vl)):Prop:=∀r,o=some r->(∀c,c∈r.1->c.dw.length<=900000)/\r.2.dw.length<=900000/\r.1.length<=51
theorem Cx.dw{a:Ty}{c:Vl}(h:Cx a c):c.dw.length<=900000:=by have:=fq c h.dW;have:=h.nd;omega
theorem Fo.dw{a:Ty}{c:Vl}(h:Fo a c):c.dw.length<=900000:=by have:=fq c h.dW;have:=h.nd;omega
theorem GZ.none:GZ none:=fun r hr=>by cases hr
theorem pD{s:Nm}{p:List Nm}{f:Nm}{l:List Vl}{v:Vl}(h:vU s p f=some (l,v)):Gl s p f=some (l,v)/\(yX (zA s) l v).isSome=true:=by
 unfold vU at h
 obtain⟨r,h1,h2⟩:=cn.1 h
 split at h2
 ·rename_i hc
  cases h2
  exact⟨h1,hc⟩
 ·cases h2
end Go.Proofs.Trees
namespace Go.Proofs.Trees
open Go Go.VL Go.RowKit
theorem ZT.le{s d:Nm}{a:Ty}{x A B:E}{D:Ty}(z:ZT s d a x A B D):oS s=some (.list [x,A,B]):=by
 unfold oS;rw[z.ce];simp[lf,z.hx]
theorem re{d:Nm}:∀{p:List Nm} {l:List Vl},ig d p=some l->p=l.map (·.dw)->∀c,c∈l->ng d c.dw 100=some c
 |[],l,h,_,c,hc=>by cases h;cases hc
 |
  q::r,l,h,hp,c,hc=>by
  simp only[ig]at h
  split at h
  ·rename_i w l' h1 h2
   cases h
   simp only[a6,List.cons.injEq]at hp
   rcases aI.1 hc with rfl|hc
   ·rw[<-hp.1];exact h1
   ·exact re h2 hp.2 c hc
  ·cases h
structure St(s d:Nm)(a:Ty)(l:List Vl)(v:Vl):Prop where
 z:∃x A B D,ZT s d a x A B D
 i:ZI a l v
 each:∀c,c∈l->ng d c.dw 100=some c
 len:l.length<=50
theorem St.up{s d:Nm}{a:Ty}{l l':List Vl}{v w:Vl}(h:St s d a l v)(hu:Ee a l v=some (l',w)):St s d a l' w:=by
 obtain⟨h1,h2,c,h3,_⟩:=Fw h.i hu
 have hl:=h.len
 exact⟨h.z,h1,fun c' hc'=>h.each c' (by rw[h3];exact aA _ hc'),by omega⟩
def Kf(o:Option Vl):AV->List Ob->Prop:=fun r ob=>ob=[]/\∃c0 pa c2,LK.sl.has pa/\r=.cP [.agg [.v (.string c0),pa,.v (.string c2)],.v (.bool o.isSome)]/\∀w,o=some w->c2=mk w.dw
theorem Kf.ne(o:Option Vl):∃r ob,Kf o r ob:=⟨_,[],rfl,mk [],.sl [],mk ((o.map (·.dw)).getD []),(cE _).mpr trivial,rfl,fun w h=>by rw[h];rfl⟩
theorem zL(s:Nm)(p:List Nm)(f:Nm):Gl s p f=(iP s).bind fun d=>(gq s).bind fun _=>(ng s f 100).bind fun v=>if p.length<=50 then(ig d p).map fun l=>(l,v)else none:=by
 unfold Gl eV
 cases gq s with
 |none=>cases iP s<;>rfl
 |some a=>cases ng s f 100<;>cases iP s<;>rfl
end Go.Proofs.Trees
namespace Go.Proofs.Trees
open Go Go.VL Go.RowKit
inductive Rl(x:Nm):Nat->Tg->Tg->Prop
 |nm (i):Rl x i (.nm x) (.bd i)
 |kS (i s) (h:s≠x):Rl x i (.nm s) (.nm s)
 |bd (i j) (h:j≠i):Rl x i (.bd j) (.bd j)
theorem Rl.up{x:Nm}{i:Nat}{a b:Tg}(h:Rl x i a b):Rl x (i+1) a.up b.up:=by
 cases h with
 |nm=>exact .nm _
 |kS s h=>exact .kS _ _ h
 |bd j h=>exact .bd _ _ (by omega)
theorem Rl.at{x:Nm}{i:Nat}{a b:Tg}(h:Rl x i a b):∀t:Ty,bA x t=false->dO (eB (.name x) t i) a=dO t b
 |
  .bound k,_=>by
  simp only[eB]
  cases h with
  |
   nm =>
   by_cases e:k=i
   ·simp[e,dO]
   ·simp[e,dO]
  |
   kS s h =>
   by_cases e:k=i
   ·simp[e,dO,Ne.symm h]
   ·simp[e,dO]
  |
   bd j h =>
   by_cases e:k=i
   ·simp[e,dO,Ne.symm h]
   ·simp[e,dO]
 |
  .name s,hn=>by
  have hs:s≠x:=by simpa[bA]using hn
  cases h with
  |nm=>simp[eB,dO,hs]
  |kS=>rfl
  |bd=>rfl
 | .plus _ _,_=>by cases h<;>rfl
 | .times _ _,_=>by cases h<;>rfl
 | .rc _,_=>by cases h<;>rfl
 | .zero,_=>by cases h<;>rfl
 | .one,_=>by cases h<;>rfl
theorem gG(x:Nm):∀(n:Nat) (t:Ty) (i:Nat) (a b:Tg) (v:Vl),bA x t=false->Rl x i a b->dJ n (eB (.name x) t i) a v=dJ n t b v
 |0,_,_,_,_,_,_,_=>rfl
 |
  n+1,t,i,a,b,v,hn,h=>by
  rw[dJ,dJ,h.at t hn]
  by_cases ht:dO t b=true
  ·rw[if_pos ht,if_pos ht]
  ·rw[if_neg ht,if_neg ht]
   cases t with
   |
    plus p q =>
    simp only[bA,Bool.or_eq_false_iff]at hn
    cases v<;>simp only[eB,jz,gG x n p i a b _ hn.1 h,gG x n q i a b _ hn.2 h]
   |
    times p q =>
    simp only[bA,Bool.or_eq_false_iff]at hn
    cases v<;>simp only[eB,jz,gG x n p i a b _ hn.1 h,gG x n q i a b _ hn.2 h]
   |
    rc p =>
    have h0:Rl x (i+1) (.bd 0) (.bd 0):=.bd _ _ (by omega)
    cases v<;>simp only[eB,jz]
    rename_i w
    rw[gG x n p (i+1) a.up b.up w hn h.up,gG x n p (i+1) (.bd 0) (.bd 0) w hn h0]
    congr 1
    apply jE
    intro k _
    have:=gG x n (.rc p) i a b k.2 hn h
    simp only[eB]at this
    rw[this]
   |
    bound k =>
    simp only[eB]
    by_cases e:k=i
    ·rw[if_pos e];cases v<;>rfl
    ·rw[if_neg e];cases v<;>rfl
   |name s=>rfl
   |zero=>rfl
   |one=>rfl
theorem ni(x:Nm){t:Ty}{i:Nat}{a b:Tg}(v:Vl)(hn:bA x t=false)(h:Rl x i a b):bF (eB (.name x) t i) a v=bF t b v:=gG x _ t i a b v hn h
theorem lX(n:Nat):∀(m:Nat) (v:Vl),v.nodes<=m->∀(t:Ty) (s:Nm) (d:Ty) (σ:Nm->Option Ty),Dv t s d->Dx σ->fh t 0->vT n v (eN σ t)=true->∀h,h∈bF t (.nm s) v ->
 vT n h.1 (eN σ d)=true/\vT n h.2 (eN σ (.name s))=true/\ct t h.1 h.2=v
 |0,v,hm=>by have:=ba v;omega
 |
  m+1,v,hm=>by
  intro t s d σ hd hσ hl hv h hh
  cases hd with
  |zero=>rw[cQ rfl (by cases v<;>rfl)]at hh;cases hh
  |one=>rw[cQ rfl (by cases v<;>rfl)]at hh;cases hh
  |bound=>rw[cQ rfl (by cases v<;>rfl)]at hh;cases hh
  |sf hne=>rw[cQ (by simp[dO,hne]) (by cases v<;>rfl)]at hh;cases hh
  |
   hit =>
   rw[iW v (by simp[dO])]at hh
   simp only[aQ]at hh
   subst hh
   exact⟨rfl,hv,mO _ _ _⟩
  |
   @plus a b _ a' b' h1 h2 _ =>
   rcases lb hv with⟨w,rfl,hw⟩|⟨w,rfl,hw⟩
   ·simp only[Vl.nodes]at hm
    rw[gk]at hh
    obtain⟨k,hk,rfl⟩:=bW hh
    obtain⟨q1,q2,q3⟩:=lX n m w (by omega) _ s _ σ h1 hσ hl.1 hw k hk
    exact⟨q1,q2,congrArg Vl.l q3⟩
   ·simp only[Vl.nodes]at hm
    rw[gj]at hh
    obtain⟨k,hk,rfl⟩:=bW hh
    obtain⟨q1,q2,q3⟩:=lX n m w (by omega) _ s _ σ h2 hσ hl.2 hw k hk
    exact⟨q1,q2,congrArg Vl.r q3⟩
  |
   @times a b _ a' b' h1 h2 _ =>
   obtain⟨x,y,rfl,hx,hy⟩:=jy hv
   simp only[Vl.nodes]at hm
   rw[eY]at hh
   rcases aH.1 hh with hh|hh
   ·obtain⟨k,hk,rfl⟩:=bW hh
    obtain⟨q1,q2,q3⟩:=lX n m x (by omega) _ s _ σ h1 hσ hl.1 hx k hk
    refine⟨?_,q2,congrArg (fun q=>Vl.p q y) q3⟩
    show (vT n k.1 (eN σ a')&&vT n y (eN σ b))=true
    rw[q1,hy];rfl
   ·obtain⟨k,hk,rfl⟩:=bW hh
    obtain⟨q1,q2,q3⟩:=lX n m y (by omega) _ s _ σ h2 hσ hl.2 hy k hk
    refine⟨?_,q2,congrArg (Vl.p x) q3⟩
    show (vT n x (eN σ a)&&vT n k.1 (eN σ b'))=true
    rw[q1,hx];rfl
  |
   @rc a _ c0 d0 x hx hs h1 h2 hsz =>
   have lo:fh (eB (.name x) a 0) 0:=iK x a hl
   obtain⟨X,e1,e2⟩:=rk (x:=x) hσ hl (h1.lc lo) (h2.lc lo)
   obtain⟨w,rfl,hw⟩:=DD hv
   simp only[Vl.nodes]at hm
   have hcl:=oR hσ x (kg hσ (.rc a) hl)
   have hop:eN (i5 σ x (eN σ (.rc a))) (eB (.name x) a 0)=eB (eN σ (.rc a)) (eN σ a) 0:=ji hσ x _ a 0 hx
   have hns:eN (i5 σ x (eN σ (.rc a))) (.name s)=eN σ (.name s):=by simp only[eN,i5,if_neg (Ne.symm hs)]
   have hnx:eN (i5 σ x (eN σ (.rc a))) (.name x)=eN σ (.rc a):=by simp[eN,i5]
   have hw':vT n w (eN (i5 σ x (eN σ (.rc a))) (eB (.name x) a 0))=true:=by rw[hop];exact hw
   have ty:∀y,vT n y (eB (.rc X) X 0)=true->vT n (.f y) (eN σ (zJ a x c0 d0))=true:=fun y hy=>by rw[e1];exact hy
   rw[eZ]at hh
   rcases aH.1 hh with hh|hh
   ·obtain⟨k,hk,rfl⟩:=bW hh
    have hk':k∈bF (eB (.name x) a 0) (.nm s) w:=by rw[ni x w hx (.kS 0 s (Ne.symm hs))];exact hk
    obtain⟨q1,q2,q3⟩:=lX n m w (by omega) _ s _ _ h1 hcl lo hw' k hk'
    rw[eS x k.1.nodes k.1 a 0 k.2 (aq _)]at q3
    refine⟨ty _ ?_,by rw[<-hns];exact q2,congrArg Vl.f q3⟩
    rw[e2];exact q1
   ·obtain⟨k,hk,hh⟩:=cu.1 hh
    obtain⟨k2,hk2,rfl⟩:=bW hh
    have hk':k∈bF (eB (.name x) a 0) (.nm x) w:=by rw[ni x w hx (.nm 0)];exact hk
    obtain⟨q1,q2,q3⟩:=lX n m w (by omega) _ x _ _ h2 hcl lo hw' k hk'
    rw[eS x k.1.nodes k.1 a 0 k.2 (aq _)]at q3
    rw[hnx]at q2
    have hsz2:=(gd hk).1
    obtain⟨r1,r2,r3⟩:=lX n m k.2 (by omega) (.rc a) s _ σ (.rc x hx hs h1 h2 hsz) hσ hl q2 k2 hk2
    refine⟨ty _ ?_,r2,?_⟩
    ·rw[e2]
     show (vT n k.1 _&&vT n k2.1 _)=true
     rw[q1,r1];rfl
    ·show Vl.f (ct a k.1 (ct (.rc a) k2.1 k2.2))=.f w
     rw[r3,q3]
theorem CZ{n:Nat}{a D:Ty}{x:Nm}(hx:bA x a=false)(hl:fh (.rc a) 0)(h:B4 a x=some D){v:Vl}(hv:vT n v (.rc a)=true){k:Hl}(hk:k∈kids a v) :
 vT n k.1 D=true/\vT n k.2 (.rc a)=true/\.f (ct a k.1 k.2)=v:=by
 simp only[B4,cn,qj,ou]at h
 obtain⟨d,hd,_,rfl⟩:=h
 have lo:fh (eB (.name x) a 0) 0:=iK x a hl
 have hcl:=oR ue x hl
 have e1:sub x (.rc a) d=eN (i5 Et x (.rc a)) d:=by
  have:=iT Et x (.rc a) d
  rw[jJ,jJ]at this;exact this
 obtain⟨w,rfl,hw⟩:=DD hv
 have hk':k∈bF (eB (.name x) a 0) (.nm x) w:=by rw[ni x w hx (.nm 0)];exact hk
 have hop:eN (i5 Et x (.rc a)) (eB (.name x) a 0)=eB (.rc a) a 0:=by rw[ji ue x _ a 0 hx,jJ]
 obtain⟨q1,q2,q3⟩:=lX n w.nodes w (aq _) _ x _ _ hd hcl lo (by rw[hop];exact hw) k hk'
 rw[eS x k.1.nodes k.1 a 0 k.2 (aq _)]at q3
 refine⟨by rw[e1];exact q1,?_,congrArg Vl.f q3⟩
 simpa[eN,i5]using q2
theorem gB:∀{t:Ty},bL t=true->∃y,bA y t=true/\cU y=true
 | .name s,h=>⟨s,by simp[bA],h⟩
 |
  .plus a b,h=>by
  simp only[bL,bn]at h
  rcases h with h|h
  ·obtain⟨y,h1,h2⟩:=gB h;exact⟨y,by simp[bA,h1],h2⟩
  ·obtain⟨y,h1,h2⟩:=gB h;exact⟨y,by simp[bA,h1],h2⟩
 |
  .times a b,h=>by
  simp only[bL,bn]at h
  rcases h with h|h
  ·obtain⟨y,h1,h2⟩:=gB h;exact⟨y,by simp[bA,h1],h2⟩
  ·obtain⟨y,h1,h2⟩:=gB h;exact⟨y,by simp[bA,h1],h2⟩
 |
  .rc a,h=>by
  obtain⟨y,h1,h2⟩:=gB (t:=a) h;exact⟨y,by simp[bA,h1],h2⟩
theorem gv:∀{t:Ty} {y:Nm},bA y t=true->cU y=true->bL t=true
 |
  .name s,y,h,hl=>by
  have:s=y:=by simpa[bA]using h
  rw[this];exact hl
 |
  .plus a b,y,h,hl=>by
  simp only[bA,bn]at h
  simp only[bL,bn]
  exact h.imp (gv · hl) (gv · hl)
 |
  .times a b,y,h,hl=>by
  simp only[bA,bn]at h
  simp only[bL,bn]
  exact h.imp (gv · hl) (gv · hl)
 | .rc a,y,h,hl=>gv (t:=a) h hl
 | .zero,y,h,_=>by simp[bA]at h
 | .one,y,h,_=>by simp[bA]at h
 | .bound k,y,h,_=>by simp[bA]at h
theorem ZT.OJ{s d:Nm}{a:Ty}{x A B:E}{D:Ty}(z:ZT s d a x A B D):∃e,jk d=some e/\Ask e [] D:=by
 have hcl:bL D=false:=by
  cases q:bL D with
  |false=>rfl
  |
   true =>
   obtain⟨y,h1,h2⟩:=gB q
   have:=gv (t:=.rc a) (sL z.lp y h1) h2
   rw[z.ask.cl]at this;cases this
 have hc:wJ d=some D:=by unfold wJ;rw[z.bk];simp only;rw[if_pos (by rw[sY,hcl];rfl)]
 cases q:jk d with
 |none=>rw[mM q]at hc;cases hc
 |
  some e =>
  obtain⟨t,h1,hA,_⟩:=gC q
  rw[hc]at h1;cases h1
  exact⟨e,rfl,hA⟩
theorem ZT.Ou{s d:Nm}{a:Ty}{x A B:E}{D:Ty}(z:ZT s d a x A B D){w:Vl}(hb:w.dW 100)(hv:vT 100 w D=true):ng d w.dw 100=if w.nodes<=200 then some w else none:=by
 obtain⟨e,he,hA⟩:=z.OJ
 unfold ng
 rw[he]
 by_cases hn:w.nodes<=200
 ·rw[tV hb hn,if_pos hn]
  simp only
  rw[if_pos ⟨by omega,by rw[show (100:Int).toNat=100 from rfl,jn hA];exact hv⟩]
 ·rw[if_neg hn]
  cases q:qy w.dw with
  |none=>rfl
  |
   some w' =>
   exfalso
   obtain⟨_,h2,h3⟩:=kX q
   have:=tD hb h2 (kZ q)
   rw[this]at hn;exact hn h3
theorem ZT.Oy{s d:Nm}{a:Ty}{x A B:E}{D:Ty}(z:ZT s d a x A B D){v:Vl}(hv:Fo a v){k:Hl}(hk:k∈kids a v):vT 100 k.1 D=true/\Fo a k.2/\.f (ct a k.1 k.2)=v:=by
 obtain⟨e2,he2,hw2,hte2,_,_⟩:=rC z.y
 have hlc:fh (.rc a) 0:=hte2 ▸ hw2.CD.1
 obtain⟨q1,q2,q3⟩:=CZ (Ao z.y) hlc z.lp hv.ty hk
 have:=ot hk
 have:=hv.nd
 exact⟨q1,⟨q2,(mJ hv.dW hk).2,by omega⟩,q3⟩
def Ek(a:Ty)(l:List Vl)(v:Vl)(k:Int):Option (List Vl×Vl) :=
 if l.length=50 then none else if 0<=k/\k.toNat<(kids a v).length then
  (if((kids a v).getD k.toNat (.u,.u)).1.nodes<=200 then some (l++[((kids a v).getD k.toNat (.u,.u)).1],((kids a v).getD k.toNat (.u,.u)).2)else none)else none
theorem u5{a:Ty}{l:List Vl}{c e v:Vl}(h:.f (ct a c e)=v)(hn:v.nodes<=200):Ee a (l++[c]) e=some (l,v)/\yX a (l++[c]) e=yX a l v:=by
 have hu:Ee a (l++[c]) e=some (l,v):=by
  unfold Ee
  rw[List.getLast?_concat]
  simp only
  rw[h,if_pos hn,List.dropLast_concat]
 refine⟨hu,?_⟩
 unfold yX
 rw[ak,List.length_singleton,qS,hu]
 rfl
theorem zd{s d:Nm}{l:List Vl}{v:Vl}(hs:St s d (zA s) l v)(hd:iP s=some d)(hv:vU s (l.map (·.dw)) v.dw=some (l,v)){k:Hl}(hk:k∈kids (zA s) v) :
 vU s (l.map (·.dw)++[k.1.dw]) k.2.dw=if l.length=50 then none else if k.1.nodes<=200 then some (l++[k.1],k.2)else none:=by
 obtain⟨x,A,B,D,z⟩:=hs.z
 obtain⟨t1,t2,t3⟩:=z.Oy hs.i.B3 hk
 have hb:=(mJ hs.i.B3.dW hk).1
 have hz:=(pD hv).1
 have hclo:=(pD hv).2
 have hlen:=hs.len
 have hlp:ig d (l.map (·.dw))=some l:=by
  rw[zL,hd]at hz
  simp only[Option.bind_some,z.l]at hz
  obtain⟨_,h1,h2⟩:=cn.1 hz
  split at h2
  ·obtain⟨l',h3,h4⟩:=Option.map_eq_some_iff.1 h2
   cases h4;exact h3
  ·cases h2
 have e1:ng s k.2.dw 100=some k.2:=by rw[z.dw t2.dW t2.ty,if_pos t2.nd]
 unfold vU
 rw[zL,hd]
 simp only[Option.bind_some,z.l,e1,s6,hlp,ig,z.Ou hb t1,ak,cg,List.length_singleton]
 by_cases h50:l.length=50
 ·rw[if_neg (by omega),if_pos h50];rfl
 ·rw[if_pos (by omega),if_neg h50]
  by_cases hn:k.1.nodes<=200
  ·rw[if_pos hn,if_pos hn]
   simp only[cy,Option.bind_some,(u5 (l:=l) t3 hs.i.B3.nd).2]
   rw[if_pos hclo]
  ·rw[if_neg hn,if_neg hn];rfl
end Go.Proofs.Trees
namespace Go.Proofs.Trees
open Go Go.VL Go.RowKit
def Lz(s:Nm)(o:Option (List Vl×Vl)):AV->List Ob->Prop:=fun r obs=>obs=[]/\∃pa,dT pa (tZ s o).2.1/\r=.cP [.agg [.v (.string (mk (tZ s o).1)),pa,.v (.string (mk (tZ s o).2.2))],.v (.bool o.isSome)]
theorem Lz.ne(s:Nm)(o:Option (List Vl×Vl)):∃r ob,Lz s o r ob:=⟨_,[],rfl,_,dT.of _,rfl⟩
theorem Lz.none(s:Nm):Lz s none (.cP [.agg [.v (.string (mk [])),.v (.slice none 0 0),.v (.string (mk []))],.v (.bool false)]) []:=⟨rfl,_,dT.nil,rfl⟩
def G5(l:List Hl):List (List AV):=l.map fun h=>[.v (.string (mk h.1.dw)),.v (.string (mk h.2.dw))]
end Go.Proofs.Trees
namespace Go.Proofs.Trees
open Go Go.VL Go.RowKit
theorem uG{a:Ty}{l l':List Vl}{v w:Vl}{k:Int}(h:Ek a l v k=some (l',w)):∃q,q∈kids a v/\l'=l++[q.1]/\w=q.2/\q.1.nodes<=200/\l.length≠50/\0<=k/\(kids a v)[k.toNat]?=some q:=by
 unfold Ek at h
 split at h
 ·cases h
 ·rename_i h0
  split at h
  ·rename_i h1
   split at h
   ·rename_i h2
    cases h
    have e:(kids a v).getD k.toNat (.u,.u)=(kids a v)[k.toNat]'h1.2:=by simp[aa,h1.2]
    rw[e]at h2 |-
    exact⟨_,bY _,rfl,rfl,h2,h0,h1.1,by simp[h1.2]⟩
   ·cases h
  ·cases h
theorem St.dn{s d:Nm}{a:Ty}{l l':List Vl}{v w:Vl}{k:Int}(h:St s d a l v)(hu:Ek a l v k=some (l',w)):St s d a l' w/\Ee a l' w=some (l,v)/\l'.length=l.length+1:=by
 obtain⟨q,hq,rfl,rfl,hn,h50,_,_⟩:=uG hu
 obtain⟨x,A,B,D,z⟩:=h.z
 obtain⟨t1,t2,t3⟩:=z.Oy h.i.B3 hq
 have hv:ng d q.1.dw 100=some q.1:=by rw[z.Ou (mJ h.i.B3.dW hq).1 t1,if_pos hn]
 have hlen:=h.len
 refine⟨⟨⟨x,A,B,D,z⟩,⟨fun c hc=>?_,t2⟩,fun c hc=>?_,by simp;omega⟩,(u5 t3 h.i.B3.nd).1,by simp⟩
 ·rcases aH.1 hc with hc|hc
  ·exact h.i.ctx c hc
  ·simp only[aQ]at hc;subst hc;exact z.ctx hv
 ·rcases aH.1 hc with hc|hc
  ·exact h.each c hc
  ·simp only[aQ]at hc;subst hc;exact hv
theorem Gq{s:Nm}{p:List Nm}{f:Nm}{r:List Vl×Vl}(h:Gl s p f=some r):∃d,iP s=some d/\St s d (zA s) r.1 r.2/\p=r.1.map (·.dw)/\f=r.2.dw:=by
 obtain⟨d,a,x,A,B,D,z,hz,hp,hf,hl,hza,_,hr⟩:=AA (l:=r.1) (v:=r.2) h
 rw[hza]
 exact⟨d,z.dl,⟨⟨x,A,B,D,z⟩,hz,re hr hp,by rw[hp]at hl;simpa using hl⟩,hp,hf⟩
theorem H8{s d:Nm}{l:List Vl}{v:Vl}(hs:St s d (zA s) l v)(hd:iP s=some d)(hv:vU s (l.map (·.dw)) v.dw=some (l,v)){k:Int}(h0:0<=k)(hk:k.toNat<(kids (zA s) v).length) :
 vU s (l.map (·.dw)++[((kids (zA s) v)[k.toNat]).1.dw]) ((kids (zA s) v)[k.toNat]).2.dw=Ek (zA s) l v k:=by
 rw[zd hs hd hv (bY hk)]
 unfold Ek
 by_cases h5:l.length=50
 ·rw[if_pos h5,if_pos h5]
 ·rw[if_neg h5,if_neg h5,if_pos (show 0<=k/\k.toNat<(kids (zA s) v).length from ⟨h0,hk⟩)]
  have hg2:(kids (zA s) v).getD k.toNat (.u,.u)=(kids (zA s) v)[k.toNat]:=by simp[aa,hk]
  rw[hg2]
end Go.Proofs.Trees
namespace Go.Proofs.Trees
open Go Go.VL Go.RowKit
def Oq(n:Nat):AV->List Ob->Prop:=fun r o=>∃x:Int,r=.v (.int .i64 x)/\(0<=x->n<=1048576)
theorem Oq.ne(n:Nat):∃r o,Oq n r o:=⟨_,[],-1,rfl,fun h=>by omega⟩
end Go.Proofs.Trees
namespace Go.Proofs.Trees
open Go Go.VL Go.RowKit
def uD(l:List Int):List (List AV):=l.map fun k=>[.v (.int .i64 k)]
def pU(a:AV)(l:List Int):Prop:=LK.sl.has a/\a.elems=uD l
theorem zr(l:List Int):(uD l).length=l.length:=by simp[uD]
theorem pU.of(l:List Int):pU (.sl (uD l)) l:=⟨(cE _).mpr trivial,rfl⟩
theorem pU.nil:pU (.v (.slice none 0 0)) []:=⟨(bp).mpr trivial,rfl⟩
theorem pU.len{a:AV}{l:List Int}(h:pU a l):a.elems.length=l.length:=by rw[h.2,zr]
theorem pU.idx{a:AV}{l:List Int}(h:pU a l){i:Nat}(hi:i<l.length):a.elems.getD i []=[.v (.int .i64 (l.getD i 0))]:=by
 rw[h.2];simp[uD,aa,hi]
end Go.Proofs.Trees
namespace Go.Proofs.Trees
open Go Go.VL Go.RowKit
abbrev ZO:=Option (List Vl×Vl)
def Gd(s:Nm)(o:ZO):Prop:=∀r,o=some r->∃d,St s d (zA s) r.1 r.2
def OK(a:Ty)(pl:List Int)(o:ZO):ZO:=pl.foldl (fun o k=>o.bind fun r=>Ek a r.1 r.2 k) o
theorem Gd.dn{s:Nm}{o:ZO}(h:Gd s o)(k:Int):Gd s (o.bind fun r=>Ek (zA s) r.1 r.2 k):=fun r hr=>by
 obtain⟨q,h1,h2⟩:=cn.1 hr
 obtain⟨d,hs⟩:=h q h1
 exact⟨d,(hs.dn (l':=r.1) (w:=r.2) h2).1⟩
theorem Gd.go{s:Nm}:∀{pl:List Int} {o:ZO},Gd s o->Gd s (OK (zA s) pl o)
 |[],o,h=>h
 |k::pl,o,h=>Gd.go (pl:=pl) (h.dn k)
def Na(s:Nm)(o:ZO):Prop:=∀r,o=some r->vU s (r.1.map (·.dw)) r.2.dw=some r
theorem Na.dn{s:Nm}{o:ZO}(h:Na s o)(k:Int):Na s (o.bind fun r=>Ek (zA s) r.1 r.2 k):=fun r hr=>by
 obtain⟨q,h1,h2⟩:=cn.1 hr
 have hq:=h q h1
 obtain⟨d,hd,hs,_⟩:=Gq (pD (l:=q.1) (v:=q.2) hq).1
 obtain⟨e,_,h3,h4,_,_,h0,h5⟩:=uG (l':=r.1) (w:=r.2) h2
 have hk:k.toNat<(kids (zA s) q.2).length:=by
  rcases Nat.lt_or_ge k.toNat (kids (zA s) q.2).length with h|h
  ·exact h
  ·rw[List.getElem?_eq_none h]at h5;cases h5
 have he:(kids (zA s) q.2)[k.toNat]=e:=by rw[aV hk]at h5;cases h5;rfl
 have:=H8 hs hd hq h0 hk
 rw[h2,he]at this
 obtain⟨l1,v1⟩:=r
 simp only at h3 h4 |-
 subst h3 h4
 rw[bV]
 exact this
end Go.Proofs.Trees
namespace Go.Proofs.Trees
open Go Go.VL Go.RowKit
def Oo:AV->List Ob->Prop:=fun r o=>o=[]/\∃(l:List Hl) (b:Bool),l.length<=1000/\r=.cP [.sl (G5 l),.v (.bool b)]
theorem Oo.ne:∃r o,Oo r o:=⟨_,_,rfl,[],false,by simp,rfl⟩
def KD:AV->List Ob->Prop:=fun r o=>o=[]/\∃s x c e:Nm,r=.cP [.v (.string (mk s)),.v (.string (mk x)),.v (.string (mk c)),.v (.string (mk e))]
end Go.Proofs.Trees
namespace Go.Proofs.Trees
open Go Go.VL Go.RowKit
def wk(a:Ty):Vl->List Nat->Option Vl
 |v,[]=>some v
 |
  v,k::ks=>match (kids a v)[k]? with
  |some h=>wk a h.2 ks
  |none=>none
theorem uO{s v:Nm}{l:List Pt}(h:fF s v=some l):∃w l',eV s v=some w/\l=(w,[])::l':=by
 unfold fF at h
 split at h
 ·rename_i a w h1 h2
  have hp:∃l',parts a w=(w,[])::l':=by
   unfold parts
   obtain⟨n,hn⟩:∃n,w.nodes=n+1:=⟨w.nodes-1,by have:=ba w;omega⟩
   rw[hn,jb]
   exact⟨_,rfl⟩
  obtain⟨l',hl'⟩:=hp
  split at h
  ·cases h;exact⟨w,l',h2,hl'⟩
  ·cases h
 ·cases h
end Go.Proofs.Trees
namespace Go.Proofs.Trees
open Go Go.VL Go.RowKit
theorem Oa(a:AV)(ha:xJ a):aB Tryz.prog 7 [a] [] KD:=by
 refine Oh _ ha.1 ?_
 unfold JW
 have hfar:p5=1000000000000000:=rfl
 refine aU (MG a ha) LG.ne ?_
 rintro r o ⟨b,l,hb,rfl,rfl⟩
 simp only[↓zq,zs,ah,zt,hb.has]
 refine⟨by simp[cc,hb.has,ug],aU (Mu b l hb 0 (by omega)) (eF.ne ⟨[],[],rfl⟩) ?_⟩
 rintro r o ⟨q,_,hq,⟨s,t,rfl⟩,rfl⟩
 simp only[↓zq,zs,ah,zt,aO,hb.has]
 refine aU (Dr b l hb q (by omega) s) (eF.ne ⟨[],rfl,by simp⟩) ?_
 rintro r o ⟨q1,b1,b2,⟨g,rfl,_⟩,rfl⟩
 simp only[↓zq,zs,ah,zt,aO,hb.has]
 refine an (Mz s t) ?_
 have hsl:(bO (vW s t)).length=(vW s t).length:=by simp[bO]
 have hpl:=Cw s t
 simp only[↓zq,zs,ah,zt,aO,hb.has,hsl]
 have last:∀q:Nat,q<=200000000000->eH Tryz.prog 55 (.call 24 [.ref 0 0,.v (.string (mk s))] [.cells [b,.v (.int .i64 (q:Int))]] fun r9 o9=>.al ((o9.headD .dead)=.cells (o9.headD .dead).cs)<|.al (LK.sl.has ((o9.headD .dead).cs.getD 0 .any)/\(LK.int .i64).has ((o9.headD .dead).cs.getD (0+1) .any)/\(o9.headD .dead).cs.length=0+1+1)<|.al (LK.has .str r9)<|.done 0 [.cP [.v (.string (mk s)),.v (.string (mk t)),.v (.string r9.toStr),.v (.string (mk g))]] []) (fun _ xs obs=>KD (xs.headD .any) obs):=fun q hq2=>by
  refine aU (Dr b l hb q (by omega) s) (eF.ne ⟨[],rfl,by simp⟩) ?_
  rintro r o ⟨q3,_,_,⟨g2,rfl,_⟩,rfl⟩
  simp only[↓zq,zs,ah,zt,aO,hb.has]
  exact⟨rfl,s,t,g2,g,rfl⟩
 refine⟨fun hs=>?_,fun _=>last q1 (by omega)⟩
 obtain⟨ps,hps⟩:=a7.1 hs
 have hpos:1<=(vW s t).length:=by
  obtain⟨w,l',_,hl'⟩:=uO hps
  unfold vW;rw[hps];simp only;rw[hl'];simp[u9]
 refine aU (vX b l hb q1 5 (by omega) (by omega)) (eF.ne ⟨0,rfl,fun h=>by omega,by omega⟩) ?_
 rintro r o ⟨q2,c1,c2,⟨k,rfl,_,_⟩,rfl⟩
 simp only[↓zq,zs,ah,zt,aO,hb.has]
 refine⟨fun _=>?_,fun _=>last q2 (by omega)⟩
 refine aU (vX b l hb q2 (vW s t).length (by omega) (by omega)) (eF.ne ⟨0,rfl,fun h=>by omega,by omega⟩) ?_
 rintro r o ⟨q3,d1,d2,⟨k2,rfl,hk2,_⟩,rfl⟩
 have hk2:=hk2 hpos
 obtain⟨j,hj,hjl⟩:∃j:Nat,IntKind.wrap .i64 (IntKind.wrap .i64 (((vW s t).length:Int)-1)-IntKind.wrap .i64 ((k2:Int).tdiv 2))=(j:Int)/\j<(vW s t).length:=by
  have e1:((k2:Int).tdiv 2)=((k2/2:Nat):Int):=by rfl
  refine⟨(vW s t).length-1-k2/2,?_,by omega⟩
  rw[e1,Go.VL.wrap64 ((k2/2:Nat):Int) (by omega) (by omega),Go.VL.wrap64 (((vW s t).length:Int)-1) (by omega) (by omega),Go.VL.wrap64 _ (by omega) (by omega)]
  omega
 have hg:(bO (vW s t)).getD j []=[.v (.string (mk (vW s t)[j]))]:=by simp[bO,aa,hjl]
 simp only[↓zq,zs,ah,zt,aO,hb.has,hj,cj,hg]
 repeat refine⟨by omega,?_⟩
 exact⟨rfl,s,t,_,g,rfl⟩
theorem ND(a:AV)(ha:xJ a):aB Tryz.prog 4 [a] [] (bU (.v (.bool true))):=by
 refine Nj _ ha.1 ?_
 simp only[Ir,↓zq,zs,ah,zt,bU]
 refine⟨ha.1,fun _=>trivial,fun _=>?_⟩
 refine aU (Oa a ha) ⟨_,_,rfl,[],[],[],[],rfl⟩ ?_
 rintro r o ⟨rfl,s,v,f,t,rfl⟩
 simp only[↓zq,zs,ah,zt]
 have WI:=IL s v f t
 have WS:=N4 s v f t
 rw[By]at WI WS
 refine an WI ?_
 simp only[↓zq,zs,ah,zt]
 refine an WS ?_
 simp only[↓zq,zs,ah,zt]
 refine⟨fun h=>absurd rfl h,fun _=>⟨fun h=>absurd rfl h,fun _=>⟨fun h=>absurd rfl h,fun _=>⟨fun _=>?_,fun h=>?_⟩⟩⟩⟩
 ·simp
 ·obtain⟨r,hr⟩:=a7.1 h
  obtain⟨e1,e2,e3⟩:=Ch hr
  have W2:=IL s v f f
  rw[By,e1]at W2
  rw[hr]
  refine an W2 ?_
  simp only[↓zq,zs,ah,zt,Ma,Option.getD_some,Option.isSome_some]
  refine⟨fun _=>⟨fun _=>⟨fun _=>?_,fun h=>absurd rfl h⟩,fun h=>absurd rfl h⟩,fun h=>by cases h⟩
  refine an (Mo s r.1 100) ?_
  simp only[↓zq,zs,ah,zt,e2]
  refine⟨fun _=>⟨fun _=>trivial,fun h0=>?_⟩,fun h=>by cases h⟩
  have:r.2=0:=by first|omega|(simp at h0;omega)|(have:=h0;simp at this;exact this)|(trace_state;sorry)
  rw[e3 this];simp
end Go.Proofs.Trees
