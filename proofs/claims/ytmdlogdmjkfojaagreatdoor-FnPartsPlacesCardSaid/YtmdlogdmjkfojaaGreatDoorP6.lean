/-
  Part of a proof: Go functions read by values, trees of functions, their contracts.
-/
import Derived.Test.YtmdlogdmjkfojaaGreatDoorP5
set_option linter.unusedVariables false
set_option linter.unusedSimpArgs false
open And renaming intro→aF
open Bool renaming and_eq_true→aq,eq_iff_iff→cj,or_eq_true→bf,true_and→bA
open ByteArray renaming toList→ac
open Int renaming tmod→dc,toNat→bE,toNat_natCast→bS
open List renaming all_cons→cH,all_eq_true→bC,any_eq_true→bJ,append_assoc→aQ,cons_append→cx,drop_eq_getElem_cons→aL,drop_zero→aV,flatMap_cons→cy,getD_eq_getElem?_getD→aa,getElem?_eq_getElem→bo,getElem_mem→bD,headD_cons→ba,length_append→al,length_cons→aw,length_map→cQ,length_nil→aG,map_append→dr,map_cons→bi,mem_append→aI,mem_append_left→aA,mem_cons→aE,mem_cons_of_mem→ai,mem_cons_self→af,mem_map→bP,mem_singleton→aY,nil_append→bh,tail_cons→bw
open Nat renaming le_add_right→cR,le_refl→ap,mod_lt→dK,mul_le_mul_right→aS,zero_add→aP,zero_le→db
open Option renaming bind_eq_some_iff→cf,isSome_iff_exists→bF,map_some→ct
open UInt8 renaming ofNat→aZ
namespace Go.Proofs.Trees
open Go Go.VL Go.RowKit
theorem hG:∀(e:E) (ar:List Nm) (t:Ty),cz e ar=some t->∀y,bq y t=true->KT y
 |
  .atom s,ar,t,ht,y,hy=>by
  simp only[cz]at ht
  split at ht
  ·cases ht;cases hy
  ·split at ht
   ·cases ht;cases hy
   ·split at ht
    ·rename_i hp
     cases ht
     simp only[bq,decide_eq_true_eq]at hy
     subst hy;exact .inl hp
    ·split at ht
     ·rename_i hq
      split at ht
      ·cases ht;cases hy
      ·cases ht
       simp only[bq,decide_eq_true_eq]at hy
       subst hy;exact .inr hq
     ·cases ht
 |
  .list [x,a,b],ar,t,ht,y,hy=>by
  by_cases h0:x.at=[43]
  ·obtain⟨t1,t2,h1,h2,rfl⟩:=eW h0 ht
   simp only[bq,bf]at hy
   rcases hy with hy|hy
   ·exact hG a ar t1 h1 y hy
   ·exact hG b ar t2 h2 y hy
  ·by_cases h1:x.at=[42]
   ·obtain⟨t1,t2,h2,h3,rfl⟩:=ew h1 ht
    simp only[bq,bf]at hy
    rcases hy with hy|hy
    ·exact hG a ar t1 h2 y hy
    ·exact hG b ar t2 h3 y hy
   ·by_cases h2:x.at=[114,101,99]
    ·obtain⟨t1,hla,h3,rfl⟩:=cW h2 ht
     exact hG b _ t1 h3 y hy
    ·rw[iu _ h0 h1 h2]at ht;cases ht
 | .list [],ar,t,ht,_,_=>by cases ht
 | .list [_],ar,t,ht,_,_=>by cases ht
 | .list [_,_],ar,t,ht,_,_=>by cases ht
 | .list (_::_::_::_::_),ar,t,ht,_,_=>by cases ht
theorem DW{y:Nm}(h:KT y):y.length<=3/\∀r,y≠35::r:=by
 have key:∀lo hi,116<=lo->named lo hi y=true->y.length<=3/\∀r,y≠35::r:=fun lo hi hlo h=>by
  cases y with
  |nil=>cases h
  |
   cons c r =>
   simp only[named,aq,decide_eq_true_eq]at h
   refine⟨by simp;omega,fun r' e=>?_⟩
   have:c=35:=by injection e
   subst this
   have:=h.1.2.1
   have e35:(35:UInt8).toNat=35:=rfl
   omega
 rcases h with h|h
 ·exact key 120 122 (by omega) h
 ·exact key 116 116 (by omega) h
theorem rJ{s:Nm}{t:Ty}(h:tO s=some t):∀y,bq y t=true->KT y:=by
 rw[uZ]at h
 cases he:wB s with
 |none=>rw[he]at h;cases h
 |some e=>rw[he]at h;exact hG e [] t h
theorem zO{s:Nm}{a:Ty}(h:tO s=some (.rc a)):bq rL a=false:=by
 cases q:bq rL a with
 |false=>rfl
 |true=>exact absurd rfl ((DW (rJ h rL q)).2 [49])
end Go.Proofs.Trees
namespace Go.Proofs.Trees
open Go Go.VL Go.RowKit
def vT(n:Nat):Vl->Ty->Bool
 | .u,.one=>true
 | .el k,.name _=>decide (k<n)
 | .l w,.plus a _=>vT n w a
 | .r w,.plus _ b=>vT n w b
 | .p x y,.times a b=>vT n x a&&vT n y b
 | .f w,.rc a=>vT n w (ej (.rc a) a 0)
 |_,_=>false
def k8(us:List Ty):Ty->Nat->Ty
 | .cc k,i=>if k<i then .cc k else us.getD (k-i) .zero
 | .plus a b,i=>.plus (k8 us a i) (k8 us b i)
 | .times a b,i=>.times (k8 us a i) (k8 us b i)
 | .rc a,i=>.rc (k8 us a (i+1))
 |t,_=>t
def w4:List Fr->List Ty
 |[]=>[]
 |f::r=>k8 (w4 r) (wt f.ex r) 0::w4 r
theorem kV(u:Ty):∀(t:Ty) {i:Nat},jF t i->ej u t i=t
 | .cc k,i,h=>by simp only[ej];rw[if_neg (by have:k<i:=h;omega)]
 | .plus a b,i,h=>by simp only[ej];rw[kV u a h.1,kV u b h.2]
 | .times a b,i,h=>by simp only[ej];rw[kV u a h.1,kV u b h.2]
 | .rc a,i,h=>by simp only[ej];rw[kV u a (i:=i+1) h]
 | .zero,_,_=>rfl
 | .one,_,_=>rfl
 | .name _,_,_=>rfl
theorem oN(us:List Ty):∀(t:Ty) {i:Nat},jF t i->k8 us t i=t
 | .cc k,i,h=>by simp only[k8];rw[if_pos (by have:k<i:=h;omega)]
 | .plus a b,i,h=>by simp only[k8];rw[oN us a h.1,oN us b h.2]
 | .times a b,i,h=>by simp only[k8];rw[oN us a h.1,oN us b h.2]
 | .rc a,i,h=>by simp only[k8];rw[oN us a (i:=i+1) h]
 | .zero,_,_=>rfl
 | .one,_,_=>rfl
 | .name _,_,_=>rfl
theorem wE{us:List Ty}(hu:∀u,u∈us->jF u 0)(k:Nat):jF (us.getD k .zero) 0:=by
 by_cases h:k<us.length
 ·rw[aa,bo h];exact hu _ (bD h)
 ·rw[aa,List.getElem?_eq_none (by omega)];trivial
theorem ou{us:List Ty}(hu:∀u,u∈us->jF u 0):∀(t:Ty) (i:Nat),jF (k8 us t i) i
 |
  .cc k,i=>by
  simp only[k8]
  split
  ·rename_i h;exact h
  ·exact fR _ (wE hu _) (db _)
 | .plus a b,i=>⟨ou hu a i,ou hu b i⟩
 | .times a b,i=>⟨ou hu a i,ou hu b i⟩
 | .rc a,i=>ou hu a (i+1)
 | .zero,_=>trivial
 | .one,_=>trivial
 | .name _,_=>trivial
theorem mi{us:List Ty}(hu:∀u,u∈us->jF u 0)(U:Ty):∀(t:Ty) (i:Nat),ej U (k8 us t (i+1)) i=k8 (U::us) t i
 |
  .cc k,i=>by
  simp only[k8]
  by_cases h1:k<i
  ·rw[if_pos (by omega),if_pos h1];simp only[ej];rw[if_neg (by omega)]
  ·rw[if_neg h1]
   by_cases h2:k=i
   ·subst h2;rw[if_pos (by omega)];simp[ej]
   ·rw[if_neg (by omega),kV U _ (fR _ (wE hu _) (db _)),show k-i=(k-(i+1))+1 by omega,List.getD_cons_succ]
 | .plus a b,i=>by simp only[k8,ej];rw[mi hu U a i,mi hu U b i]
 | .times a b,i=>by simp only[k8,ej];rw[mi hu U a i,mi hu U b i]
 | .rc a,i=>by simp only[k8,ej];rw[mi hu U a (i+1)]
 | .zero,_=>rfl
 | .one,_=>rfl
 | .name _,_=>rfl
theorem vr:∀env:List Fr,∀u,u∈w4 env->jF u 0
 |[],u,h=>by cases h
 |
  f::r,u,h=>by
  rcases aE.1 h with rfl|h
  ·exact ou (vr r) _ 0
  ·exact vr r u h
theorem BA{env:List Fr}(h:WF env):∀{u:Nat} {g:Fr},env[u]?=some g->(w4 env).getD u .zero=k8 (w4 g.out) (wt g.ex g.out) 0:=by
 induction h with
 |nil=>intro u g hg;simp at hg
 |
  cons hs hok hx ht hf hr ih =>
  intro u g hg
  cases u with
  |zero=>simp at hg;subst hg;rfl
  |
   succ u =>
   have:=ih (u:=u) (g:=g) (by simpa using hg)
   simpa[w4]using this
theorem oB(n:Nat):∀(m:Nat) (v:Vl),v.nodes<=m->∀(e:E) (env:List Fr) (t:Ty),Ask e env t->ei n v (e,env)=vT n v (k8 (w4 env) t 0)
 |0,v,hm=>by have:=cB v;omega
 |
  m+1,v,hm=>by
  intro e env t A
  have recCase:∀(x a b:E) (env:List Fr) (t1:Ty),Ask (.list [x,a,b]) env (.rc t1)->x.at=[114,101,99]->ei n v (.list [x,a,b],env)=vT n v (k8 (w4 env) (.rc t1) 0):=by
   intro x a b env t1 A hx
   have hhd:hd (.list [x,a,b]) env=(.list [x,a,b],env):=oL A.wf
   obtain⟨t1',he1,h1,f1,hw1⟩:=jp A.wf A.ok hx A.ty A.cl
   cases he1
   obtain⟨ok1,ok2,ok3,_⟩:=A.ok
   have A':Ask b (.mk a.at (.list [x,a,b]) env::env) t1:=⟨ok3,hw1,h1,f1⟩
   cases v with
   |
    f w =>
    simp only[Vl.nodes]at hm
    simp only[ei,hhd,hx,beq_self_eq_true,bA]
    rw[oB n m w (by omega) b _ t1 A']
    have hty:wt (.list [x,a,b]) env=.rc t1:=by unfold wt;rw[A.ty];rfl
    show vT n w (k8 (k8 (w4 env) (wt (.list [x,a,b]) env) 0::w4 env) t1 0)=vT n w (ej (.rc (k8 (w4 env) t1 1)) (k8 (w4 env) t1 1) 0)
    rw[hty,mi (vr env)]
    rfl
   |_=>simp[ei,hhd,hx,k8,vT]
  rcases gx A.wf A.ty with⟨hb,hq⟩|⟨u,g,rfl,hq,hu⟩
  ·have hhd:hd e env=(e,env):=jG hq
   rcases fB A.ty hb A.cl with⟨rfl,rfl⟩|⟨rfl,rfl⟩|⟨s,rfl,rfl,hp,h0,h1⟩|⟨x,a,b,t1,t2,rfl,hx,rfl,ha,hbb⟩|⟨x,a,b,t1,t2,rfl,hx,rfl,ha,hbb⟩|⟨x,a,b,t1,rfl,hx,rfl⟩
   ·have hp0:gj [48]=false:=rfl
    cases v<;>simp[ei,hhd,k8,vT,hp0]
   ·cases v<;>simp[ei,hhd,k8,vT]
   ·cases v<;>simp[ei,hhd,k8,vT,hp,h1]
   ·obtain⟨ok1,ok2,ok3,_⟩:=A.ok
    obtain⟨f1,f2⟩:=fy A.cl
    cases v with
    |
     l w =>
     simp only[Vl.nodes]at hm
     simp only[ei,hhd,hx,beq_self_eq_true,bA,k8,vT]
     exact oB n m w (by omega) a env t1 ⟨ok2,A.wf,ha,f1⟩
    |
     r w =>
     simp only[Vl.nodes]at hm
     simp only[ei,hhd,hx,beq_self_eq_true,bA,k8,vT]
     exact oB n m w (by omega) b env t2 ⟨ok3,A.wf,hbb,f2⟩
    |_=>simp[ei,hhd,hx,k8,vT]
   ·obtain⟨ok1,ok2,ok3,_⟩:=A.ok
    obtain⟨f1,f2⟩:=eV A.cl
    cases v with
    |
     p w w' =>
     simp only[Vl.nodes]at hm
     simp only[ei,hhd,hx,beq_self_eq_true,bA,k8,vT]
     rw[oB n m w (by omega) a env t1 ⟨ok2,A.wf,ha,f1⟩,oB n m w' (by omega) b env t2 ⟨ok3,A.wf,hbb,f2⟩]
    |_=>simp[ei,hhd,hx,k8,vT]
   ·exact recCase x a b env t1 A hx
  ·obtain⟨x,a,b,t',hfe,hok,hx,ht',hf',hwf,hlt⟩:=nw A.wf hq
   have hrec:hd g.ex g.out=(g.ex,g.out):=by rw[hfe];exact oL hwf
   rw[s6 n v (pE hq) hrec]
   have hcl:k8 (w4 env) (.cc u) 0=k8 (w4 g.out) (wt g.ex g.out) 0:=by
    simp only[k8];rw[if_neg (by omega),Nat.sub_zero];exact BA A.wf hu
   rw[hcl]
   have hty:wt g.ex g.out=t':=by unfold wt;rw[ht'];rfl
   rw[hty,hfe]
   rw[hfe]at ht'
   obtain⟨t1,_,_,rfl⟩:=cW hx ht'
   exact recCase x a b g.out t1 ⟨hok,hwf,ht',hf'⟩ hx
theorem ni{n:Nat}{v:Vl}{e:E}{t:Ty}(A:Ask e [] t):ei n v (e,[])=vT n v t:=by
 have:=oB n v.nodes v (ap _) e [] t A
 rw[this]
 obtain⟨w,ht⟩:=jI e [] t A.ok (fun w hw=>by cases hw) A.ty
 have hl:=u6 w []
 rw[ht]at hl
 exact congrArg (vT n v) (oN _ t hl)
def eB(σ:Nm->Option Ty):Ty->Ty
 | .name s=>(σ s).getD (.name s)
 | .plus a b=>.plus (eB σ a) (eB σ b)
 | .times a b=>.times (eB σ a) (eB σ b)
 | .rc a=>.rc (eB σ a)
 |t=>t
def iF(σ:Nm->Option Ty)(x:Nm)(u:Ty):Nm->Option Ty:=fun s=>if s=x then some u else σ s
theorem iq(σ:Nm->Option Ty)(x:Nm)(u:Ty):∀t:Ty,eB σ (sub x u t)=eB (iF σ x (eB σ u)) t
 |
  .name s=>by
  by_cases h:s=x
  ·simp[sub,eB,iF,h]
  ·simp[sub,eB,iF,h]
 | .plus a b=>by simp only[sub,eB,iq σ x u a,iq σ x u b]
 | .times a b=>by simp only[sub,eB,iq σ x u a,iq σ x u b]
 | .rc a=>by simp only[sub,eB,iq σ x u a]
 | .zero=>rfl
 | .one=>rfl
 | .cc k=>rfl
def AI(σ:Nm->Option Ty):Prop:=∀s u,σ s=some u->jF u 0
theorem jZ{σ:Nm->Option Ty}(hσ:AI σ):∀(t:Ty) {i:Nat},jF t i->jF (eB σ t) i
 |
  .name s,i,_=>by
  simp only[eB]
  cases q:σ s with
  |none=>trivial
  |some u=>exact fR u (hσ s u q) (db _)
 | .plus a b,i,h=>⟨jZ hσ a h.1,jZ hσ b h.2⟩
 | .times a b,i,h=>⟨jZ hσ a h.1,jZ hσ b h.2⟩
 | .rc a,i,h=>jZ hσ a (i:=i+1) h
 | .zero,_,_=>trivial
 | .one,_,_=>trivial
 | .cc k,_,h=>h
theorem iY{σ:Nm->Option Ty}(hσ:AI σ)(x:Nm)(U:Ty):∀(t:Ty) (i:Nat),bq x t=false->eB (iF σ x U) (ej (.name x) t i)=ej U (eB σ t) i
 |
  .name s,i,h=>by
  have hs:s≠x:=by simpa[bq]using h
  simp only[ej,eB,iF,if_neg hs]
  cases q:σ s with
  |none=>rfl
  |some u=>exact(kV U u (fR u (hσ s u q) (db _))).symm
 |
  .cc k,i,h=>by
  simp only[ej,eB]
  split
  ·simp[eB,iF]
  ·rfl
 |
  .plus a b,i,h=>by
  simp only[bq,Bool.or_eq_false_iff]at h
  simp only[ej,eB,iY hσ x U a i h.1,iY hσ x U b i h.2]
 |
  .times a b,i,h=>by
  simp only[bq,Bool.or_eq_false_iff]at h
  simp only[ej,eB,iY hσ x U a i h.1,iY hσ x U b i h.2]
 | .rc a,i,h=>by simp only[ej,eB,iY hσ x U a (i+1) h]
 | .zero,_,_=>rfl
 | .one,_,_=>rfl
theorem n9{σ:Nm->Option Ty}(hσ:AI σ)(x:Nm){u:Ty}(hu:jF u 0):AI (iF σ x u):=fun s v h=>by
 unfold iF at h
 split at h
 ·cases h;exact hu
 ·exact hσ s v h
theorem iv(x:Nm):∀(n:Nat) (c:Vl) (t:Ty) (i:Nat),c.nodes<=n->gW (ej (.name x) t i) c=gW t c
 |0,c,_,_,h=>by have:=cB c;omega
 |
  n+1,c,t,i,hn=>by
  cases t with
  |cc k=>simp only[ej];split<;>(cases c<;>rfl)
  |
   plus a b =>
   cases c with
   |l c=>simp only[Vl.nodes]at hn;exact iv x n c a i (by omega)
   |r c=>simp only[Vl.nodes]at hn;exact iv x n c b i (by omega)
   |_=>rfl
  |
   times a b =>
   cases c with
   |
    l c =>
    cases c with
    |p y z=>simp only[Vl.nodes]at hn;exact iv x n y a i (by omega)
    |_=>rfl
   |
    r c =>
    cases c with
    |p y z=>simp only[Vl.nodes]at hn;exact iv x n z b i (by omega)
    |_=>rfl
   |_=>rfl
  |
   rc a =>
   cases c with
   |
    f c =>
    cases c with
    |l y=>simp only[Vl.nodes]at hn;exact iv x n y a (i+1) (by omega)
    |
     r c =>
     cases c with
     |
      p y z =>
      simp only[Vl.nodes]at hn
      have h1:=iv x n y a (i+1) (by omega)
      have h2:=iv x n z (.rc a) i (by omega)
      show (gW (ej (.name x) a (i+1)) y&&gW (.rc (ej (.name x) a (i+1))) z)=(gW a y&&gW (.rc a) z)
      rw[h1]
      exact congrArg _ h2
     |_=>rfl
    |_=>rfl
   |_=>rfl
  |_=>rfl
end Go.Proofs.Trees
namespace Go.Proofs.Trees
open Go Go.VL Go.RowKit
theorem eA(x:Nm):∀(n:Nat) (c:Vl) (t:Ty) (i:Nat) (v:Vl),c.nodes<=n->fD (ej (.name x) t i) c v=fD t c v
 |0,c,_,_,_,h=>by have:=cB c;omega
 |
  n+1,c,t,i,v,hn=>by
  cases t with
  |cc k=>simp only[ej];split<;>(cases c<;>rfl)
  |
   plus a b =>
   cases c with
   |l c=>simp only[Vl.nodes]at hn;exact congrArg Vl.l (eA x n c a i v (by omega))
   |r c=>simp only[Vl.nodes]at hn;exact congrArg Vl.r (eA x n c b i v (by omega))
   |_=>rfl
  |
   times a b =>
   cases c with
   |
    l c =>
    cases c with
    |p y z=>simp only[Vl.nodes]at hn;exact congrArg (fun q=>Vl.p q z) (eA x n y a i v (by omega))
    |_=>rfl
   |
    r c =>
    cases c with
    |p y z=>simp only[Vl.nodes]at hn;exact congrArg (Vl.p y) (eA x n z b i v (by omega))
    |_=>rfl
   |_=>rfl
  |
   rc a =>
   cases c with
   |
    f c =>
    cases c with
    |l y=>simp only[Vl.nodes]at hn;exact congrArg Vl.f (eA x n y a (i+1) v (by omega))
    |
     r c =>
     cases c with
     |
      p y z =>
      simp only[Vl.nodes]at hn
      have h2:=eA x n z (.rc a) i v (by omega)
      have h1:=eA x n y a (i+1) (fD (.rc a) z v) (by omega)
      show Vl.f (fD (ej (.name x) a (i+1)) y (fD (.rc (ej (.name x) a (i+1))) z v))=Vl.f (fD a y (fD (.rc a) z v))
      have h3:fD (.rc (ej (.name x) a (i+1))) z v=fD (.rc a) z v:=h2
      rw[h3,h1]
     |_=>rfl
    |_=>rfl
   |_=>rfl
  |_=>rfl
theorem BR{n:Nat}{c:Vl}{a:Ty}(h:vT n c (.rc a)=true):∃w,c=.f w/\vT n w (ej (.rc a) a 0)=true:=by
 cases c with
 |f w=>exact⟨w,rfl,h⟩
 |_=>simp[vT]at h
theorem kN{n:Nat}{c:Vl}{a b:Ty}(h:vT n c (.plus a b)=true):(∃w,c=.l w/\vT n w a=true)\/∃w,c=.r w/\vT n w b=true:=by
 cases c with
 |l w=>exact .inl ⟨w,rfl,h⟩
 |r w=>exact .inr ⟨w,rfl,h⟩
 |_=>simp[vT]at h
theorem jw{n:Nat}{c:Vl}{a b:Ty}(h:vT n c (.times a b)=true):∃x y,c=.p x y/\vT n x a=true/\vT n y b=true:=by
 cases c with
 |p x y=>simp only[vT,aq]at h;exact⟨x,y,rfl,h.1,h.2⟩
 |_=>simp[vT]at h
theorem qC{σ:Nm->Option Ty}(hσ:AI σ){a c d:Ty}{x:Nm}(ha:jF (.rc a) 0)(hc:jF c 0)(hd:jF d 0):∃X,eB σ (ye a x c d)=.rc X/\ej (.rc X) X 0=.plus (eB (iF σ x (eB σ (.rc a))) c) (.times (eB (iF σ x (eB σ (.rc a))) d) (eB σ (ye a x c d))):=by
 refine⟨.plus (eB σ (sub x (.rc a) c)) (.times (eB σ (sub x (.rc a) d)) (.cc 0)),rfl,?_⟩
 have h1:=jZ hσ (sub x (.rc a) c) (j0 ha c hc)
 have h2:=jZ hσ (sub x (.rc a) d) (j0 ha d hd)
 simp only[ej,kV _ _ h1,kV _ _ h2,if_true]
 rw[iq,iq]
 simp only[ye,eB,iq]
theorem uk(n:Nat):∀(m:Nat) (c:Vl),c.nodes<=m->∀(t:Ty) (s:Nm) (d:Ty) (σ:Nm->Option Ty),Dv t s d->AI σ->jF t 0->vT n c (eB σ d)=true->gW t c=true
 |0,c,h=>by have:=cB c;omega
 |
  m+1,c,hm=>by
  intro t s d σ hd hσ hl hv
  cases hd with
  |zero=>cases c<;>rfl
  |one=>cases c<;>rfl
  |cc=>cases c<;>rfl
  |hit=>cases c<;>rfl
  |qX=>cases c<;>rfl
  |
   plus h1 h2 _ =>
   rcases kN hv with⟨w,rfl,hw⟩|⟨w,rfl,hw⟩
   ·simp only[Vl.nodes]at hm;exact uk n m w (by omega) _ s _ σ h1 hσ hl.1 hw
   ·simp only[Vl.nodes]at hm;exact uk n m w (by omega) _ s _ σ h2 hσ hl.2 hw
  |
   times h1 h2 _ =>
   rcases kN hv with⟨w,rfl,hw⟩|⟨w,rfl,hw⟩
   ·obtain⟨x,y,rfl,hx,hy⟩:=jw hw
    simp only[Vl.nodes]at hm;exact uk n m x (by omega) _ s _ σ h1 hσ hl.1 hx
   ·obtain⟨x,y,rfl,hx,hy⟩:=jw hw
    simp only[Vl.nodes]at hm;exact uk n m y (by omega) _ s _ σ h2 hσ hl.2 hy
  |
   @rc a _ c0 d0 x hx hs h1 h2 hsz =>
   have lo:jF (ej (.name x) a 0) 0:=ig x a hl
   obtain⟨X,e1,e2⟩:=qC (x:=x) hσ hl (h1.lc lo) (h2.lc lo)
   have hv':=hv
   rw[e1]at hv'
   obtain⟨w,rfl,hw⟩:=BR hv'
   rw[e2]at hw
   have hcl:=n9 hσ x (jZ hσ (.rc a) hl)
   rcases kN hw with⟨y,rfl,hy⟩|⟨y,rfl,hy⟩
   ·simp only[Vl.nodes]at hm
    have:=uk n m y (by omega) _ s _ _ h1 hcl lo hy
    rw[iv x y.nodes y a 0 (ap _)]at this
    exact this
   ·obtain⟨y,z,rfl,hy,hz⟩:=jw hy
    simp only[Vl.nodes]at hm
    have q1:=uk n m y (by omega) _ x _ _ h2 hcl lo hy
    rw[iv x y.nodes y a 0 (ap _)]at q1
    have q2:=uk n m z (by omega) (.rc a) s _ σ (.rc x hx hs h1 h2 hsz) hσ hl hz
    show (gW a y&&gW (.rc a) z)=true
    rw[q1,q2];rfl
theorem pi(n:Nat):∀(m:Nat) (c:Vl),c.nodes<=m->∀(t:Ty) (s:Nm) (d:Ty) (σ:Nm->Option Ty),Dv t s d->AI σ->jF t 0->vT n c (eB σ d)=true->∀v,vT n v (eB σ (.name s))=true->vT n (fD t c v) (eB σ t)=true
 |0,c,h=>by have:=cB c;omega
 |
  m+1,c,hm=>by
  intro t s d σ hd hσ hl hv v hvv
  have no:∀c,vT n c .zero=false:=fun c=>by cases c<;>rfl
  cases hd with
  |zero=>rw[show eB σ .zero=.zero from rfl,no]at hv;cases hv
  |one=>rw[show eB σ .zero=.zero from rfl,no]at hv;cases hv
  |cc=>rw[show eB σ .zero=.zero from rfl,no]at hv;cases hv
  |qX=>rw[show eB σ .zero=.zero from rfl,no]at hv;cases hv
  |hit=>rw[sq];exact hvv
  |
   plus h1 h2 _ =>
   rcases kN hv with⟨w,rfl,hw⟩|⟨w,rfl,hw⟩
   ·simp only[Vl.nodes]at hm;exact pi n m w (by omega) _ s _ σ h1 hσ hl.1 hw v hvv
   ·simp only[Vl.nodes]at hm;exact pi n m w (by omega) _ s _ σ h2 hσ hl.2 hw v hvv
  |
   times h1 h2 _ =>
   rcases kN hv with⟨w,rfl,hw⟩|⟨w,rfl,hw⟩
   ·obtain⟨x,y,rfl,hx,hy⟩:=jw hw
    simp only[Vl.nodes]at hm
    have:=pi n m x (by omega) _ s _ σ h1 hσ hl.1 hx v hvv
    show (vT n _ _&&vT n _ _)=true
    rw[this,hy];rfl
   ·obtain⟨x,y,rfl,hx,hy⟩:=jw hw
    simp only[Vl.nodes]at hm
    have:=pi n m y (by omega) _ s _ σ h2 hσ hl.2 hy v hvv
    show (vT n _ _&&vT n _ _)=true
    rw[this,hx];rfl
  |
   @rc a _ c0 d0 x hx hs h1 h2 hsz =>
   have lo:jF (ej (.name x) a 0) 0:=ig x a hl
   obtain⟨X,e1,e2⟩:=qC (x:=x) hσ hl (h1.lc lo) (h2.lc lo)
   have hv':=hv
   rw[e1]at hv'
   obtain⟨w,rfl,hw⟩:=BR hv'
   rw[e2]at hw
   have hcl:=n9 hσ x (jZ hσ (.rc a) hl)
   have hop:eB (iF σ x (eB σ (.rc a))) (ej (.name x) a 0)=ej (eB σ (.rc a)) (eB σ a) 0:=iY hσ x _ a 0 hx
   have hns:eB (iF σ x (eB σ (.rc a))) (.name s)=eB σ (.name s):=by simp only[eB,iF,if_neg (Ne.symm hs)]
   have hnx:eB (iF σ x (eB σ (.rc a))) (.name x)=eB σ (.rc a):=by simp[eB,iF]
   rcases kN hw with⟨y,rfl,hy⟩|⟨y,rfl,hy⟩
   ·simp only[Vl.nodes]at hm
    have:=pi n m y (by omega) _ s _ _ h1 hcl lo hy v (by rw[hns];exact hvv)
    rw[hop,eA x y.nodes y a 0 v (ap _)]at this
    exact this
   ·obtain⟨y,z,rfl,hy,hz⟩:=jw hy
    simp only[Vl.nodes]at hm
    have q2:=pi n m z (by omega) (.rc a) s _ σ (.rc x hx hs h1 h2 hsz) hσ hl hz v hvv
    have q1:=pi n m y (by omega) _ x _ _ h2 hcl lo hy (fD (.rc a) z v) (by rw[hnx];exact q2)
    rw[hop,eA x y.nodes y a 0 _ (ap _)]at q1
    exact q1
def Ek:Nm->Option Ty:=fun _=>none
theorem sO:AI Ek:=fun _ _ h=>by cases h
theorem jB:∀t:Ty,eB Ek t=t
 | .name s=>rfl
 | .plus a b=>by simp only[eB,jB a,jB b]
 | .times a b=>by simp only[eB,jB a,jB b]
 | .rc a=>by simp only[eB,jB a]
 | .zero=>rfl
 | .one=>rfl
 | .cc k=>rfl
theorem Ei{n:Nat}{a D:Ty}{x:Nm}(hx:bq x a=false)(hl:jF (.rc a) 0)(h:AB a x=some D){c:Vl}(hc:vT n c D=true) :
 gW a c=true/\∀v,vT n v (.rc a)=true->vT n (.f (fD a c v)) (.rc a)=true:=by
 simp only[AB,cf,pF,nP]at h
 obtain⟨d,hd,_,rfl⟩:=h
 have lo:jF (ej (.name x) a 0) 0:=ig x a hl
 have hcl:=n9 sO x hl
 have e1:sub x (.rc a) d=eB (iF Ek x (.rc a)) d:=by
  have:=iq Ek x (.rc a) d
  rw[jB,jB]at this;exact this
 rw[e1]at hc
 have h1:=uk n c.nodes c (ap _) _ x _ _ hd hcl lo hc
 rw[iv x c.nodes c a 0 (ap _)]at h1
 refine⟨h1,fun v hv=>?_⟩
 have h2:=pi n c.nodes c (ap _) _ x _ _ hd hcl lo hc v (by simpa[eB,iF]using hv)
 rw[eA x c.nodes c a 0 v (ap _),iY sO x _ a 0 hx,jB]at h2
 exact h2
end Go.Proofs.Trees
namespace Go.Proofs.Trees
open Go Go.VL Go.RowKit
theorem FQ{b:UInt8}(h:gv b=true):en b=true:=by
 simp only[gv,en,decide_eq_true_eq]at h |-;omega
theorem BU{y:Nm}(h:KT y):y≠[]/\y.all en=true:=by
 have key:∀lo hi,97<=lo->hi<=122->named lo hi y=true->y≠[]/\y.all en=true:=fun lo hi h1 h2 h=>by
  cases y with
  |nil=>cases h
  |
   cons c r =>
   simp only[named,aq,decide_eq_true_eq]at h
   refine⟨by simp,?_⟩
   rw[cH,aq]
   refine⟨?_,?_⟩
   ·simp only[en,decide_eq_true_eq];omega
   ·rw[bC]
    intro b hb
    exact FQ (bC.1 h.2 b hb)
 rcases h with h|h
 ·exact key 120 122 (by omega) (by omega) h
 ·exact key 116 116 (by omega) (by omega) h
theorem yL(m:Nat):(tN m).all en=true:=by
 rw[cH,uO (m+1) m (by omega)];rfl
theorem om(F:List Nm):∀(t:Ty) (to:List Nm) (k:Nat),(∀y,bq y t=true->y≠[]/\y.all en=true)->(∀w,w∈to->w≠[]/\w.all en=true)->jF t to.length->(lz F t to k).1.pr
 | .zero,_,_,_,_,_=>⟨by simp,by decide⟩
 | .one,_,_,_,_,_=>⟨by simp,by decide⟩
 | .name s,_,_,hn,_,_=>hn s (by simp[bq])
 |
  .cc u,to,_,_,ht,hl=>by
  have:to.length-1-u<to.length:=by have:u<to.length:=hl;omega
  show (E.atom (gL to u)).pr
  unfold gL
  rw[aa,bo this]
  exact ht _ (bD this)
 | .plus a b,to,k,hn,ht,hl=>⟨by simp,⟨by simp,by decide⟩,om F a to k (fun y hy=>hn y (by simp[bq,hy])) ht hl.1,om F b to _ (fun y hy=>hn y (by simp[bq,hy])) ht hl.2,trivial⟩
 | .times a b,to,k,hn,ht,hl=>⟨by simp,⟨by simp,by decide⟩,om F a to k (fun y hy=>hn y (by simp[bq,hy])) ht hl.1,om F b to _ (fun y hy=>hn y (by simp[bq,hy])) ht hl.2,trivial⟩
 |
  .rc a,to,k,hn,ht,hl=>by
  refine⟨by simp,⟨by simp,by decide⟩,⟨by simp,yL _⟩,om F a (to++[tN (nx F k)]) _ hn (fun w hw=>?_) (by rw[al];exact hl),trivial⟩
  rcases aI.1 hw with hw|hw
  ·exact ht w hw
  ·simp only[aY]at hw;rw[hw];exact⟨by simp,yL _⟩
theorem xh{D:Ty}{dt:Nm}(g:jC D)(hn:∀y,bq y D=true->KT y)(h:told D=some dt):tO dt=some D:=by
 unfold told at h
 split at h
 ·rename_i hh
  cases h
  obtain⟨t,ht⟩:=bF.1 hh.2
  obtain⟨e,he,hw,hte,_,_⟩:=sT ht
  obtain⟨h1,_,_⟩:=p6 he
  obtain⟨hx,hpr,_⟩:=wJ h1
  obtain⟨w1,w2,_⟩:=lA (bH D []) D [] 0 (.nil _ _) g.1 fun y hy=>⟨(fj D [] y).2 (.inr hy),g.2 y hy⟩
  have hp:=om (bH D []) D [] 0 (fun y hy=>BU (hn y hy)) (fun w hw=>by cases hw) g.1
  have:=yX hp hpr hx
  rw[ht,<-hte,<-this,w2]
 ·cases h
theorem rU{a d:Ty}{x:Nm}(h:AB a x=some d):∀y,bq y d=true->bq y a=true:=by
 simp only[AB,cf,pF,nP]at h
 obtain⟨d',h1,_,rfl⟩:=h
 intro y hy
 rcases ir _ hy with h|⟨h,h'⟩
 ·exact h
 ·rcases il a 0 (h1.names y h')with e|e
  ·exact absurd e h
  ·exact e
structure ZT(s d:Nm)(a:Ty)(x A B:E)(D:Ty):Prop where
 l:jm s=some a
 ce:iV s=some (.list [x,A,B])
 ask:Ask (.list [x,A,B]) [] (.rc a)
 hx:x.at=[114,101,99]
 body:Ask B [.mk A.at (.list [x,A,B]) []] a
 dl:io s=some d
 y:tO s=some (.rc a)
 lp:AB a rL=some D
 bk:tO d=some D
theorem wl{s:Nm}{t:Ty}(h:uP s=some t):tO s=some t:=by
 unfold uP at h
 split at h
 ·cases h
 ·rename_i u hu
  split at h
  ·cases h;exact hu
  ·cases h
theorem ZT.of{s d:Nm}{a:Ty}(hl:jm s=some a)(hd:io s=some d):∃x A B D,ZT s d a x A B D:=by
 have hc:=th hl
 cases hce:iV s with
 |none=>rw[mo hce]at hc;cases hc
 |
  some e =>
  obtain⟨t,h1,hA,_⟩:=gf hce
  rw[hc]at h1;cases h1
  obtain⟨x,A,B,rfl,hx,hA',hB⟩:=rE hA
  have hy:=wl hc
  have hd':=hd
  unfold io at hd'
  rw[hy]at hd'
  obtain⟨D,h2,h3⟩:=cf.1 hd'
  obtain⟨e2,he2,hw2,hte2,_,_⟩:=sT hy
  have hg:=yJ hw2 hte2 (x:=rL) ⟨by simp,by simp,by simp⟩ h2
  exact⟨x,A,B,D,hl,hce,hA,hx,hB,hd,hy,h2,xh hg.1 (fun y hy'=>rJ hy y (rU h2 y hy')) h3⟩
structure Cx(a:Ty)(w:Vl):Prop where
 ok:gW a w=true
 ty:∀v,vT 100 v (.rc a)=true->vT 100 (.f (fD a w v)) (.rc a)=true
 iK:w.iK 100
 nd:w.nodes<=200
structure Fo(a:Ty)(v:Vl):Prop where
 ty:vT 100 v (.rc a)=true
 iK:v.iK 100
 nd:v.nodes<=200
theorem ZT.F7{s d:Nm}{a:Ty}{x A B:E}{D:Ty}(z:ZT s d a x A B D){c:Nm}{w:Vl}(h:pu d c 100=some w):Cx a w:=by
 obtain⟨e,t,m,h1,h2,h3,h4,h5,h6,h7⟩:=qM h
 have hm:m=100:=by omega
 subst hm
 have:=wl h3
 rw[z.bk]at this;cases this
 rw[ni h4]at h7
 obtain⟨e2,he2,hw2,hte2,_,_⟩:=sT z.y
 have hlc:jF (.rc a) 0:=hte2 ▸ hw2.FB.1
 obtain⟨q1,q2⟩:=Ei (zO z.y) hlc z.lp h7
 exact⟨q1,q2,(kD h2).2.1,(kD h2).2.2⟩
theorem ZT.Ay{s d:Nm}{a:Ty}{x A B:E}{D:Ty}(z:ZT s d a x A B D){f:Nm}{v:Vl}(h:lh s f=some v):Fo a v/\f=v.fa:=by
 obtain⟨a',x',A',B',L⟩:=jb h
 have:=L.l
 rw[z.l]at this;cases this
 exact⟨⟨by rw[<-ni L.ask];exact L.ei,L.iK,L.nodes⟩,pR L.v⟩
theorem Fo.ei{s d:Nm}{a:Ty}{x A B:E}{D:Ty}(z:ZT s d a x A B D){v:Vl}(h:Fo a v):ei 100 v (.list [x,A,B],[])=true:=by rw[ni z.ask];exact h.ty
theorem ZT.fa{s d:Nm}{a:Ty}{x A B:E}{D:Ty}(z:ZT s d a x A B D){w:Vl}(hb:w.iK 100)(hv:vT 100 w (.rc a)=true):pu s w.fa 100=if w.nodes<=200 then some w else none:=by
 unfold pu
 rw[z.ce]
 by_cases hn:w.nodes<=200
 ·rw[vV hb hn,if_pos hn]
  simp only
  rw[if_pos ⟨by omega,by rw[show (100:Int).toNat=100 from rfl,ni z.ask];exact hv⟩]
 ·rw[if_neg hn]
  cases q:rb w.fa with
  |none=>rfl
  |
   some w' =>
   exfalso
   obtain⟨_,h2,h3⟩:=kD q
   have:=wU hb h2 (pR q)
   rw[this]at hn;exact hn h3
theorem ZT.lv{s d:Nm}{a:Ty}{x A B:E}{D:Ty}(z:ZT s d a x A B D)(f:Nm):lh s f=pu s f 100:=by
 unfold lh;rw[z.l]
def gV(d:Nm):List Nm->Option (List Vl)
 |[]=>some []
 |
  c::r=>match pu d c 100,gV d r with
  |some w,some l=>some (w::l)
  |_,_=>none
theorem qj{s d:Nm}{a:Ty}{x A B:E}{D:Ty}(z:ZT s d a x A B D):∀(p:List Nm) (l:List Vl),gV d p=some l->p=l.map (·.fa)/\∀c,c∈l->Cx a c
 |[],l,h=>by cases h;exact⟨rfl,fun c hc=>by cases hc⟩
 |
  c::r,l,h=>by
  simp only[gV]at h
  split at h
  ·rename_i w l' h1 h2
   cases h
   obtain⟨q1,q2⟩:=qj z r l' h2
   obtain⟨_,_,_,_,hv,_⟩:=qM h1
   refine⟨by rw[bi,<-q1,<-pR hv],fun c' hc'=>?_⟩
   rcases aE.1 hc' with rfl|hc'
   ·exact z.F7 h1
   ·exact q2 c' hc'
  ·cases h
theorem so(d:Nm):∀(p q:List Nm),gV d (p++q)=(gV d p).bind fun l=>(gV d q).map (l++·)
 |[],q=>by cases h:gV d q<;>simp[gV,h]
 |
  c::p,q=>by
  simp only[cx,gV,so d p q]
  cases pu d c 100 with
  |none=>rfl
  |
   some w =>
   cases gV d p with
   |none=>rfl
   |some l=>cases gV d q<;>rfl
noncomputable def EM (s:Nm) (p:List Nm) (f:Nm):Option (List Vl×Vl):=match lh s f,io s with
 |some v,some d=>if p.length<=50 then(gV d p).map fun l=>(l,v)else none
 |_,_=>none
def zA(s:Nm):Ty:=(jm s).getD .zero
def CA(a:Ty)(l:List Vl)(v:Vl):Option (List Vl×Vl):=match l.getLast? with
 |none=>none
 |some c=>if(Vl.f (fD a c v)).nodes<=200 then some (l.dropLast,.f (fD a c v))else none
def p7:Nat->Ty->List Vl->Vl->Option Vl
 |0,_,_,v=>some v
 |n+1,a,l,v=>(CA a l v).bind fun r=>p7 n a r.1 r.2
def xR(a:Ty)(l:List Vl)(v:Vl):Option Vl:=p7 l.length a l v
noncomputable def uj (s:Nm) (p:List Nm) (f:Nm):Option (List Vl×Vl):=(EM s p f).bind fun r=>if(xR (zA s) r.1 r.2).isSome=true then some r else none
structure ZI(a:Ty)(l:List Vl)(v:Vl):Prop where
 F7:∀c,c∈l->Cx a c
 Ay:Fo a v
theorem FY{a:Ty}{l l':List Vl}{v w:Vl}(h:ZI a l v)(hu:CA a l v=some (l',w)):ZI a l' w/\l'.length+1=l.length/\∃c,l=l'++[c]/\w=.f (fD a c v):=by
 unfold CA at hu
 cases q:l.getLast? with
 |none=>rw[q]at hu;cases hu
 |
  some c =>
  rw[q]at hu
  simp only at hu
  split at hu
  ·rename_i hn
   cases hu
   have hne:l≠[]:=by rintro rfl;cases q
   have hl:l.dropLast++[c]=l:=by
    have:=List.dropLast_concat_getLast hne
    rw[List.getLast?_eq_some_getLast hne]at q
    cases q;exact this
   have hc:c∈l:=by rw[<-hl];simp
   have hC:=h.F7 c hc
   refine⟨⟨fun c' hc'=>h.F7 c' (by rw[<-hl];exact aA _ hc'),hC.ty v h.Ay.ty,yz 100 a c v hC.iK h.Ay.iK,hn⟩,?_,c,hl.symm,rfl⟩
   have:=congrArg List.length hl
   simpa using this
  ·cases hu
end Go.Proofs.Trees
namespace Go.Proofs.Trees
open Go Go.VL Go.RowKit
abbrev hN(k:Nat):Nm:=35::dd k
abbrev Oz(f:Nat)(g:Bool):Ob:=.cells [.v (.int .i64 (f:Int)),.v (.bool g)]
def Ot(o:Option Ty)(f B:Nat):AV->List Ob->Prop:=fun r ob=>∃f':Nat,f<=f'/\f'<=f+B/\r=(o.getD .zero).av/\ob=[Oz f' o.isNone]
theorem Ot.ne(o:Option Ty)(f B:Nat):∃r ob,Ot o f B r ob:=⟨_,_,f,ap _,cR _ _,rfl,rfl⟩
def Ol(o:Option Ty):AV->List Ob->Prop:=fun r ob=>ob=[]/\∃p,LK.ptr.has p/\r=.da [p,.v (.bool o.isSome)]/\∀d,o=some d->p=d.av
theorem Ol.ne(o:Option Ty):∃r ob,Ol o r ob:=by
 cases o with
 |none=>exact⟨_,_,rfl,j6,(jO).mpr trivial,rfl,fun d h=>by cases h⟩
 |some d=>exact⟨_,_,rfl,d.av,(be _).mpr trivial,rfl,fun d' h=>by cases h;rfl⟩
end Go.Proofs.Trees
namespace Go.Proofs.Trees
open Go Go.VL Go.RowKit
theorem Ax{s:Nm}{p:List Nm}{f:Nm}{l:List Vl}{v:Vl}(h:EM s p f=some (l,v)):∃d a x A B D,ZT s d a x A B D/\ZI a l v/\p=l.map (·.fa)/\f=v.fa/\p.length<=50/\zA s=a/\lh s f=some v/\gV d p=some l:=by
 unfold EM at h
 split at h
 ·rename_i v' d h1 h2
  split at h
  ·rename_i hl
   obtain⟨l',h3,h4⟩:=Option.map_eq_some_iff.1 h
   cases h4
   obtain⟨a,_,_,_,L⟩:=jb h1
   obtain⟨x,A,B,D,z⟩:=ZT.of L.l h2
   obtain⟨q1,q2⟩:=qj z p l h3
   obtain⟨q3,q4⟩:=z.Ay h1
   exact⟨d,a,x,A,B,D,z,⟨q2,q3⟩,q1,q4,hl,by unfold zA;rw[L.l];rfl,h1,h3⟩
  ·cases h
 ·cases h
end Go.Proofs.Trees
namespace Go.Proofs.Trees
open Go Go.VL Go.RowKit
abbrev tZ(s:Nm):Option (List Vl×Vl)->Nm×List Nm×Nm
 |some r=>(s,r.1.map (·.fa),r.2.fa)
 |none=>([],[],[])
def GZ(o:Option (List Vl×Vl)):Prop:=∀r,o=some r->(∀c,c∈r.1->c.fa.length<=900000)/\r.2.fa.length<=900000/\r.1.length<=51
theorem Cx.fa{a:Ty}{c:Vl}(h:Cx a c):c.fa.length<=900000:=by have:=iR c h.iK;have:=h.nd;omega
theorem Fo.fa{a:Ty}{c:Vl}(h:Fo a c):c.fa.length<=900000:=by have:=iR c h.iK;have:=h.nd;omega
theorem GZ.none:GZ none:=fun r hr=>by cases hr
theorem oG{s:Nm}{p:List Nm}{f:Nm}{l:List Vl}{v:Vl}(h:uj s p f=some (l,v)):EM s p f=some (l,v)/\(xR (zA s) l v).isSome=true:=by
 unfold uj at h
 obtain⟨r,h1,h2⟩:=cf.1 h
 split at h2
 ·rename_i hc
  cases h2
  exact⟨h1,hc⟩
 ·cases h2
end Go.Proofs.Trees
namespace Go.Proofs.Trees
open Go Go.VL Go.RowKit
def kE:E->Option E
 | .list [x,a,b]=>if x.at=[114,101,99]then some (.list [x,a,b])else none
 |_=>none
def nF(s:List UInt8):Option E:=match iV s with
 |some e=>kE e
 |none=>none
theorem LZ(s:List UInt8):au Tryz.prog 45 [.v (.string (mk s))] [] (l4 (nF s) (nF s).isSome):=by
 refine L8 _ ?_
 unfold Hk
 refine aU (Fw s) (l4.ne _ _ (fun h=>h)) ?_
 rintro r o ⟨c,d,hd,rfl,hh⟩
 have hhas:bY [.str,.sl] [.v (.string (mk c)),d] 0:=by simp[bY,eI,hd]
 simp only[↓zq,zs,ae,zt]
 refine⟨hhas,fun h=>?_,fun h=>?_⟩
 ·obtain⟨e,he,hce⟩:=hh h
  obtain⟨t,h1,hA,h3,h4,h5,_⟩:=gf he
  have hce':=hce
  rw[dU]at hce'
  simp only[AV.agg.injEq,List.cons.injEq,AV.v.injEq,Value.string.injEq,and_true]at hce'
  obtain⟨hc1,rfl⟩:=hce'
  have hc2:=vE hc1
  subst hc2
  have head:∀w:List UInt8,au Tryz.prog 71 [.agg [.v (.string (mk e.at)),e.sp]] [] (bK (.v (.string (mk w))))->(w=[114,101,99]↔(kE e).isSome=true)->((kE e).isSome=true->kE e=some e) ->
   ek Tryz.prog 18 (Tree.call 71 [.agg [.v (.string (mk e.at)),e.sp]] [] fun r2 o2=>Tree.ak (LK.str.has r2) (Tree.done 0 [.da [.agg [.v (.string (mk e.at)),e.sp],.v (.bool (ac r2.aj==[114,101,99]))]] [])) fun _ xs obs=>l4 (nF s) (nF s).isSome (xs.headD .any) obs:=by
   intro w hw h1 h2
   refine an hw ?_
   simp only[↓zq,zs,ae,zt]
   refine⟨e.at,e.sp,hd,?_,fun hs=>⟨e,?_,(dU e).symm⟩⟩
   ·congr 3
    simp only[nF,he,AV.v.injEq,Value.bool.injEq,List.cons.injEq,and_true]
    rw[cj];simpa using h1
   ·simp only[nF,he]at hs |-;exact h2 hs
  have hl:∀x l,e=.list (x::l)->au Tryz.prog 71 [.agg [.v (.string (mk e.at)),e.sp]] [] (bK (.v (.string (mk x.at)))):=by
   rintro x l rfl;exact uT x l
  have ha:∀s0,e=.atom s0->au Tryz.prog 71 [.agg [.v (.string (mk e.at)),e.sp]] [] (bK (.v (.string (mk [])))):=by
   rintro s0 rfl;exact zi s0 _ ((bg).mpr trivial) hA.ok
  rcases gx hA.wf hA.ty with⟨hb,_⟩|⟨u,g,rfl,_,hg⟩
  ·rcases fB hA.ty hb hA.cl with⟨rfl,rfl⟩|⟨rfl,rfl⟩|⟨s0,rfl,rfl,hp,h0,h1⟩|⟨x,a,b,t1,t2,rfl,hx,rfl,ha',hbb⟩|⟨x,a,b,t1,t2,rfl,hx,rfl,ha',hbb⟩|⟨x,a,b,t1,rfl,hx,rfl⟩
   ·exact head _ (ha _ rfl) (by simp[kE]) (by simp[kE])
   ·exact head _ (ha _ rfl) (by simp[kE]) (by simp[kE])
   ·exact head _ (ha _ rfl) (by simp[kE]) (by simp[kE])
   ·exact head _ (hl _ _ rfl) (by simp[kE,hx]) (by simp[kE,hx])
   ·exact head _ (hl _ _ rfl) (by simp[kE,hx]) (by simp[kE,hx])
   ·exact head _ (hl _ _ rfl) (by simp[kE,hx]) (by simp[kE,hx])
  ·simp at hg
 ·have hn:iV s=none:=by cases hq:iV s<;>simp[hq]at h |-
  refine⟨c,d,hd,?_,fun h=>?_⟩
  ·simp[nF,hn]
  ·simp[nF,hn]at h
theorem tV(s:List UInt8):(nF s).isSome=(jm s).isSome:=by
 unfold nF jm
 cases h:iV s with
 |none=>rw[mo h];rfl
 |
  some e =>
  obtain⟨t,h1,hA,h3,h4,h5,_⟩:=gf h
  rw[h1]
  simp only
  rcases gx hA.wf hA.ty with⟨hb,_⟩|⟨u,g,rfl,_,hg⟩
  ·rcases fB hA.ty hb hA.cl with⟨rfl,rfl⟩|⟨rfl,rfl⟩|⟨s0,rfl,rfl,hp,h0,h1⟩|⟨x,a,b,t1,t2,rfl,hx,rfl,ha',hbb⟩|⟨x,a,b,t1,t2,rfl,hx,rfl,ha',hbb⟩|⟨x,a,b,t1,rfl,hx,rfl⟩<;>simp_all[kE]
  ·simp at hg
theorem LV.le{s v:List UInt8}{w:Vl}{a:Ty}{x A B:E}(h:LV s v w a x A B):nF s=some (.list [x,A,B]):=by
 unfold nF;rw[h.ce];simp[kE,h.hx]
theorem Ms(n:Nat)(v:Vl)(x A B:E)(a:Ty)(hA:Ask B [.mk A.at (.list [x,A,B]) []] a)(hx:x.at=[114,101,99])(w:Vl)(hw:v=.f w)(hv:ei n v (.list [x,A,B],[])=true)(hl:v.nodes<90000) :
 au Tryz.prog 77 [.agg [.v (.string (mk B.at)),B.sp],.v (.string (mk A.at)),.agg [.v (.string (mk w.dh.at)),w.dh.sp]] [] (bK (.sl (lu (kids a v)))):=by
 subst hw
 obtain⟨w',e,hw'⟩:=pN .nil hx hv
 cases e
 simp only[Vl.nodes]at hl
 have hnm:names [Fr.mk A.at (.list [x,A,B]) []]=[]++[A.at]:=rfl
 have h:=Cu n w.nodes w (ap _) B _ a hA hw' (by simp;omega) A.at (by rw[hnm];right;rw[gb];rfl)
 rw[hnm,tH]at h
 exact h
end Go.Proofs.Trees
namespace Go.Proofs.Trees
open Go Go.VL Go.RowKit
theorem ZT.le{s d:Nm}{a:Ty}{x A B:E}{D:Ty}(z:ZT s d a x A B D):nF s=some (.list [x,A,B]):=by
 unfold nF;rw[z.ce];simp[kE,z.hx]
theorem pX{d:Nm}:∀{p:List Nm} {l:List Vl},gV d p=some l->p=l.map (·.fa)->∀c,c∈l->pu d c.fa 100=some c
 |[],l,h,_,c,hc=>by cases h;cases hc
 |
  q::r,l,h,hp,c,hc=>by
  simp only[gV]at h
  split at h
  ·rename_i w l' h1 h2
   cases h
   simp only[bi,List.cons.injEq]at hp
   rcases aE.1 hc with rfl|hc
   ·rw[<-hp.1];exact h1
   ·exact pX h2 hp.2 c hc
  ·cases h
structure St(s d:Nm)(a:Ty)(l:List Vl)(v:Vl):Prop where
 z:∃x A B D,ZT s d a x A B D
 i:ZI a l v
 each:∀c,c∈l->pu d c.fa 100=some c
 len:l.length<=50
theorem St.up{s d:Nm}{a:Ty}{l l':List Vl}{v w:Vl}(h:St s d a l v)(hu:CA a l v=some (l',w)):St s d a l' w:=by
 obtain⟨h1,h2,c,h3,_⟩:=FY h.i hu
 have hl:=h.len
 exact⟨h.z,h1,fun c' hc'=>h.each c' (by rw[h3];exact aA _ hc'),by omega⟩
def GF(o:Option Vl):AV->List Ob->Prop:=fun r ob=>ob=[]/\∃c0 pa c2,LK.sl.has pa/\r=.da [.agg [.v (.string c0),pa,.v (.string c2)],.v (.bool o.isSome)]/\∀w,o=some w->c2=mk w.fa
theorem GF.ne(o:Option Vl):∃r ob,GF o r ob:=⟨_,[],rfl,mk [],.sl [],mk ((o.map (·.fa)).getD []),(bU _).mpr trivial,rfl,fun w h=>by rw[h];rfl⟩
theorem yr(s:Nm)(p:List Nm)(f:Nm):EM s p f=(io s).bind fun d=>(jm s).bind fun _=>(pu s f 100).bind fun v=>if p.length<=50 then(gV d p).map fun l=>(l,v)else none:=by
 unfold EM lh
 cases jm s with
 |none=>cases io s<;>rfl
 |some a=>cases pu s f 100<;>cases io s<;>rfl
end Go.Proofs.Trees
namespace Go.Proofs.Trees
open Go Go.VL Go.RowKit
inductive Rl(x:Nm):Nat->Tg->Tg->Prop
 |nm (i):Rl x i (.nm x) (.bd i)
 |jH (i s) (h:s≠x):Rl x i (.nm s) (.nm s)
 |bd (i j) (h:j≠i):Rl x i (.bd j) (.bd j)
theorem Rl.up{x:Nm}{i:Nat}{a b:Tg}(h:Rl x i a b):Rl x (i+1) a.up b.up:=by
 cases h with
 |nm=>exact .nm _
 |jH s h=>exact .jH _ _ h
 |bd j h=>exact .bd _ _ (by omega)
theorem Rl.at{x:Nm}{i:Nat}{a b:Tg}(h:Rl x i a b):∀t:Ty,bq x t=false->eX (ej (.name x) t i) a=eX t b
 |
  .cc k,_=>by
  simp only[ej]
  cases h with
  |
   nm =>
   by_cases e:k=i
   ·simp[e,eX]
   ·simp[e,eX]
  |
   jH s h =>
   by_cases e:k=i
   ·simp[e,eX,Ne.symm h]
   ·simp[e,eX]
  |
   bd j h =>
   by_cases e:k=i
   ·simp[e,eX,Ne.symm h]
   ·simp[e,eX]
 |
  .name s,hn=>by
  have hs:s≠x:=by simpa[bq]using hn
  cases h with
  |nm=>simp[ej,eX,hs]
  |jH=>rfl
  |bd=>rfl
 | .plus _ _,_=>by cases h<;>rfl
 | .times _ _,_=>by cases h<;>rfl
 | .rc _,_=>by cases h<;>rfl
 | .zero,_=>by cases h<;>rfl
 | .one,_=>by cases h<;>rfl
theorem gq(x:Nm):∀(n:Nat) (t:Ty) (i:Nat) (a b:Tg) (v:Vl),bq x t=false->Rl x i a b->dT n (ej (.name x) t i) a v=dT n t b v
 |0,_,_,_,_,_,_,_=>rfl
 |
  n+1,t,i,a,b,v,hn,h=>by
  rw[dT,dT,h.at t hn]
  by_cases ht:eX t b=true
  ·rw[if_pos ht,if_pos ht]
  ·rw[if_neg ht,if_neg ht]
   cases t with
   |
    plus p q =>
    simp only[bq,Bool.or_eq_false_iff]at hn
    cases v<;>simp only[ej,jY,gq x n p i a b _ hn.1 h,gq x n q i a b _ hn.2 h]
   |
    times p q =>
    simp only[bq,Bool.or_eq_false_iff]at hn
    cases v<;>simp only[ej,jY,gq x n p i a b _ hn.1 h,gq x n q i a b _ hn.2 h]
   |
    rc p =>
    have h0:Rl x (i+1) (.bd 0) (.bd 0):=.bd _ _ (by omega)
    cases v<;>simp only[ej,jY]
    rename_i w
    rw[gq x n p (i+1) a.up b.up w hn h.up,gq x n p (i+1) (.bd 0) (.bd 0) w hn h0]
    congr 1
    apply ji
    intro k _
    have:=gq x n (.rc p) i a b k.2 hn h
    simp only[ej]at this
    rw[this]
   |
    cc k =>
    simp only[ej]
    by_cases e:k=i
    ·rw[if_pos e];cases v<;>rfl
    ·rw[if_neg e];cases v<;>rfl
   |name s=>rfl
   |zero=>rfl
   |one=>rfl
theorem mH(x:Nm){t:Ty}{i:Nat}{a b:Tg}(v:Vl)(hn:bq x t=false)(h:Rl x i a b):bQ (ej (.name x) t i) a v=bQ t b v:=gq x _ t i a b v hn h
theorem lQ(n:Nat):∀(m:Nat) (v:Vl),v.nodes<=m->∀(t:Ty) (s:Nm) (d:Ty) (σ:Nm->Option Ty),Dv t s d->AI σ->jF t 0->vT n v (eB σ t)=true->∀h,h∈bQ t (.nm s) v ->
 vT n h.1 (eB σ d)=true/\vT n h.2 (eB σ (.name s))=true/\fD t h.1 h.2=v
 |0,v,hm=>by have:=cB v;omega
 |
  m+1,v,hm=>by
  intro t s d σ hd hσ hl hv h hh
  cases hd with
  |zero=>rw[dy rfl (by cases v<;>rfl)]at hh;cases hh
  |one=>rw[dy rfl (by cases v<;>rfl)]at hh;cases hh
  |cc=>rw[dy rfl (by cases v<;>rfl)]at hh;cases hh
  |qX hne=>rw[dy (by simp[eX,hne]) (by cases v<;>rfl)]at hh;cases hh
  |
   hit =>
   rw[lL v (by simp[eX])]at hh
   simp only[aY]at hh
   subst hh
   exact⟨rfl,hv,sq _ _ _⟩
  |
   @plus a b _ a' b' h1 h2 _ =>
   rcases kN hv with⟨w,rfl,hw⟩|⟨w,rfl,hw⟩
   ·simp only[Vl.nodes]at hm
    rw[mn]at hh
    obtain⟨k,hk,rfl⟩:=df hh
    obtain⟨q1,q2,q3⟩:=lQ n m w (by omega) _ s _ σ h1 hσ hl.1 hw k hk
    exact⟨q1,q2,congrArg Vl.l q3⟩
   ·simp only[Vl.nodes]at hm
    rw[mh]at hh
    obtain⟨k,hk,rfl⟩:=df hh
    obtain⟨q1,q2,q3⟩:=lQ n m w (by omega) _ s _ σ h2 hσ hl.2 hw k hk
    exact⟨q1,q2,congrArg Vl.r q3⟩
  |
   @times a b _ a' b' h1 h2 _ =>
   obtain⟨x,y,rfl,hx,hy⟩:=jw hv
   simp only[Vl.nodes]at hm
   rw[l9]at hh
   rcases aI.1 hh with hh|hh
   ·obtain⟨k,hk,rfl⟩:=df hh
    obtain⟨q1,q2,q3⟩:=lQ n m x (by omega) _ s _ σ h1 hσ hl.1 hx k hk
    refine⟨?_,q2,congrArg (fun q=>Vl.p q y) q3⟩
    show (vT n k.1 (eB σ a')&&vT n y (eB σ b))=true
    rw[q1,hy];rfl
   ·obtain⟨k,hk,rfl⟩:=df hh
    obtain⟨q1,q2,q3⟩:=lQ n m y (by omega) _ s _ σ h2 hσ hl.2 hy k hk
    refine⟨?_,q2,congrArg (Vl.p x) q3⟩
    show (vT n x (eB σ a)&&vT n k.1 (eB σ b'))=true
    rw[q1,hx];rfl
  |
   @rc a _ c0 d0 x hx hs h1 h2 hsz =>
   have lo:jF (ej (.name x) a 0) 0:=ig x a hl
   obtain⟨X,e1,e2⟩:=qC (x:=x) hσ hl (h1.lc lo) (h2.lc lo)
   obtain⟨w,rfl,hw⟩:=BR hv
   simp only[Vl.nodes]at hm
   have hcl:=n9 hσ x (jZ hσ (.rc a) hl)
   have hop:eB (iF σ x (eB σ (.rc a))) (ej (.name x) a 0)=ej (eB σ (.rc a)) (eB σ a) 0:=iY hσ x _ a 0 hx
   have hns:eB (iF σ x (eB σ (.rc a))) (.name s)=eB σ (.name s):=by simp only[eB,iF,if_neg (Ne.symm hs)]
   have hnx:eB (iF σ x (eB σ (.rc a))) (.name x)=eB σ (.rc a):=by simp[eB,iF]
   have hw':vT n w (eB (iF σ x (eB σ (.rc a))) (ej (.name x) a 0))=true:=by rw[hop];exact hw
   have ty:∀y,vT n y (ej (.rc X) X 0)=true->vT n (.f y) (eB σ (ye a x c0 d0))=true:=fun y hy=>by rw[e1];exact hy
   rw[ml]at hh
   rcases aI.1 hh with hh|hh
   ·obtain⟨k,hk,rfl⟩:=df hh
    have hk':k∈bQ (ej (.name x) a 0) (.nm s) w:=by rw[mH x w hx (.jH 0 s (Ne.symm hs))];exact hk
    obtain⟨q1,q2,q3⟩:=lQ n m w (by omega) _ s _ _ h1 hcl lo hw' k hk'
    rw[eA x k.1.nodes k.1 a 0 k.2 (ap _)]at q3
    refine⟨ty _ ?_,by rw[<-hns];exact q2,congrArg Vl.f q3⟩
    rw[e2];exact q1
   ·obtain⟨k,hk,hh⟩:=List.mem_flatMap.1 hh
    obtain⟨k2,hk2,rfl⟩:=df hh
    have hk':k∈bQ (ej (.name x) a 0) (.nm x) w:=by rw[mH x w hx (.nm 0)];exact hk
    obtain⟨q1,q2,q3⟩:=lQ n m w (by omega) _ x _ _ h2 hcl lo hw' k hk'
    rw[eA x k.1.nodes k.1 a 0 k.2 (ap _)]at q3
    rw[hnx]at q2
    have hsz2:=(jv hk).1
    obtain⟨r1,r2,r3⟩:=lQ n m k.2 (by omega) (.rc a) s _ σ (.rc x hx hs h1 h2 hsz) hσ hl q2 k2 hk2
    refine⟨ty _ ?_,r2,?_⟩
    ·rw[e2]
     show (vT n k.1 _&&vT n k2.1 _)=true
     rw[q1,r1];rfl
    ·show Vl.f (fD a k.1 (fD (.rc a) k2.1 k2.2))=.f w
     rw[r3,q3]
theorem Bw{n:Nat}{a D:Ty}{x:Nm}(hx:bq x a=false)(hl:jF (.rc a) 0)(h:AB a x=some D){v:Vl}(hv:vT n v (.rc a)=true){k:Hl}(hk:k∈kids a v) :
 vT n k.1 D=true/\vT n k.2 (.rc a)=true/\.f (fD a k.1 k.2)=v:=by
 simp only[AB,cf,pF,nP]at h
 obtain⟨d,hd,_,rfl⟩:=h
 have lo:jF (ej (.name x) a 0) 0:=ig x a hl
 have hcl:=n9 sO x hl
 have e1:sub x (.rc a) d=eB (iF Ek x (.rc a)) d:=by
  have:=iq Ek x (.rc a) d
  rw[jB,jB]at this;exact this
 obtain⟨w,rfl,hw⟩:=BR hv
 have hk':k∈bQ (ej (.name x) a 0) (.nm x) w:=by rw[mH x w hx (.nm 0)];exact hk
 have hop:eB (iF Ek x (.rc a)) (ej (.name x) a 0)=ej (.rc a) a 0:=by rw[iY sO x _ a 0 hx,jB]
 obtain⟨q1,q2,q3⟩:=lQ n w.nodes w (ap _) _ x _ _ hd hcl lo (by rw[hop];exact hw) k hk'
 rw[eA x k.1.nodes k.1 a 0 k.2 (ap _)]at q3
 refine⟨by rw[e1];exact q1,?_,congrArg Vl.f q3⟩
 simpa[eB,iF]using q2
theorem fY:∀{t:Ty},bG t=true->∃y,bq y t=true/\cK y=true
 | .name s,h=>⟨s,by simp[bq],h⟩
 |
  .plus a b,h=>by
  simp only[bG,bf]at h
  rcases h with h|h
  ·obtain⟨y,h1,h2⟩:=fY h;exact⟨y,by simp[bq,h1],h2⟩
  ·obtain⟨y,h1,h2⟩:=fY h;exact⟨y,by simp[bq,h1],h2⟩
 |
  .times a b,h=>by
  simp only[bG,bf]at h
  rcases h with h|h
  ·obtain⟨y,h1,h2⟩:=fY h;exact⟨y,by simp[bq,h1],h2⟩
  ·obtain⟨y,h1,h2⟩:=fY h;exact⟨y,by simp[bq,h1],h2⟩
 |
  .rc a,h=>by
  obtain⟨y,h1,h2⟩:=fY (t:=a) h;exact⟨y,by simp[bq,h1],h2⟩
theorem gn:∀{t:Ty} {y:Nm},bq y t=true->cK y=true->bG t=true
 |
  .name s,y,h,hl=>by
  have:s=y:=by simpa[bq]using h
  rw[this];exact hl
 |
  .plus a b,y,h,hl=>by
  simp only[bq,bf]at h
  simp only[bG,bf]
  exact h.imp (gn · hl) (gn · hl)
 |
  .times a b,y,h,hl=>by
  simp only[bq,bf]at h
  simp only[bG,bf]
  exact h.imp (gn · hl) (gn · hl)
 | .rc a,y,h,hl=>gn (t:=a) h hl
 | .zero,y,h,_=>by simp[bq]at h
 | .one,y,h,_=>by simp[bq]at h
 | .cc k,y,h,_=>by simp[bq]at h
theorem ZT.Ov{s d:Nm}{a:Ty}{x A B:E}{D:Ty}(z:ZT s d a x A B D):∃e,iV d=some e/\Ask e [] D:=by
 have hcl:bG D=false:=by
  cases q:bG D with
  |false=>rfl
  |
   true =>
   obtain⟨y,h1,h2⟩:=fY q
   have:=gn (t:=.rc a) (rU z.lp y h1) h2
   rw[z.ask.cl]at this;cases this
 have hc:uP d=some D:=by unfold uP;rw[z.bk];simp only;rw[if_pos (by rw[sk,hcl];rfl)]
 cases q:iV d with
 |none=>rw[mo q]at hc;cases hc
 |
  some e =>
  obtain⟨t,h1,hA,_⟩:=gf q
  rw[hc]at h1;cases h1
  exact⟨e,rfl,hA⟩
theorem ZT.Oq{s d:Nm}{a:Ty}{x A B:E}{D:Ty}(z:ZT s d a x A B D){w:Vl}(hb:w.iK 100)(hv:vT 100 w D=true):pu d w.fa 100=if w.nodes<=200 then some w else none:=by
 obtain⟨e,he,hA⟩:=z.Ov
 unfold pu
 rw[he]
 by_cases hn:w.nodes<=200
 ·rw[vV hb hn,if_pos hn]
  simp only
  rw[if_pos ⟨by omega,by rw[show (100:Int).toNat=100 from rfl,ni hA];exact hv⟩]
 ·rw[if_neg hn]
  cases q:rb w.fa with
  |none=>rfl
  |
   some w' =>
   exfalso
   obtain⟨_,h2,h3⟩:=kD q
   have:=wU hb h2 (pR q)
   rw[this]at hn;exact hn h3
theorem ZT.Oo{s d:Nm}{a:Ty}{x A B:E}{D:Ty}(z:ZT s d a x A B D){v:Vl}(hv:Fo a v){k:Hl}(hk:k∈kids a v):vT 100 k.1 D=true/\Fo a k.2/\.f (fD a k.1 k.2)=v:=by
 obtain⟨e2,he2,hw2,hte2,_,_⟩:=sT z.y
 have hlc:jF (.rc a) 0:=hte2 ▸ hw2.FB.1
 obtain⟨q1,q2,q3⟩:=Bw (zO z.y) hlc z.lp hv.ty hk
 have:=iS hk
 have:=hv.nd
 exact⟨q1,⟨q2,(lO hv.iK hk).2,by omega⟩,q3⟩
def Cv(a:Ty)(l:List Vl)(v:Vl)(k:Int):Option (List Vl×Vl) :=
 if l.length=50 then none else if 0<=k/\k.toNat<(kids a v).length then
  (if((kids a v).getD k.toNat (.u,.u)).1.nodes<=200 then some (l++[((kids a v).getD k.toNat (.u,.u)).1],((kids a v).getD k.toNat (.u,.u)).2)else none)else none
theorem uz{a:Ty}{l:List Vl}{c e v:Vl}(h:.f (fD a c e)=v)(hn:v.nodes<=200):CA a (l++[c]) e=some (l,v)/\xR a (l++[c]) e=xR a l v:=by
 have hu:CA a (l++[c]) e=some (l,v):=by
  unfold CA
  rw[List.getLast?_concat]
  simp only
  rw[h,if_pos hn,List.dropLast_concat]
 refine⟨hu,?_⟩
 unfold xR
 rw[al,List.length_singleton,p7,hu]
 rfl
theorem xV{s d:Nm}{l:List Vl}{v:Vl}(hs:St s d (zA s) l v)(hd:io s=some d)(hv:uj s (l.map (·.fa)) v.fa=some (l,v)){k:Hl}(hk:k∈kids (zA s) v) :
 uj s (l.map (·.fa)++[k.1.fa]) k.2.fa=if l.length=50 then none else if k.1.nodes<=200 then some (l++[k.1],k.2)else none:=by
 obtain⟨x,A,B,D,z⟩:=hs.z
 obtain⟨t1,t2,t3⟩:=z.Oo hs.i.Ay hk
 have hb:=(lO hs.i.Ay.iK hk).1
 have hz:=(oG hv).1
 have hclo:=(oG hv).2
 have hlen:=hs.len
 have hlp:gV d (l.map (·.fa))=some l:=by
  rw[yr,hd]at hz
  simp only[Option.bind_some,z.l]at hz
  obtain⟨_,h1,h2⟩:=cf.1 hz
  split at h2
  ·obtain⟨l',h3,h4⟩:=Option.map_eq_some_iff.1 h2
   cases h4;exact h3
  ·cases h2
 have e1:pu s k.2.fa 100=some k.2:=by rw[z.fa t2.iK t2.ty,if_pos t2.nd]
 unfold uj
 rw[yr,hd]
 simp only[Option.bind_some,z.l,e1,so,hlp,gV,z.Oq hb t1,al,cQ,List.length_singleton]
 by_cases h50:l.length=50
 ·rw[if_neg (by omega),if_pos h50];rfl
 ·rw[if_pos (by omega),if_neg h50]
  by_cases hn:k.1.nodes<=200
  ·rw[if_pos hn,if_pos hn]
   simp only[ct,Option.bind_some,(uz (l:=l) t3 hs.i.Ay.nd).2]
   rw[if_pos hclo]
  ·rw[if_neg hn,if_neg hn];rfl
end Go.Proofs.Trees
namespace Go.Proofs.Trees
open Go Go.VL Go.RowKit
def K7(s:Nm)(o:Option (List Vl×Vl)):AV->List Ob->Prop:=fun r obs=>obs=[]/\∃pa,dL pa (tZ s o).2.1/\r=.da [.agg [.v (.string (mk (tZ s o).1)),pa,.v (.string (mk (tZ s o).2.2))],.v (.bool o.isSome)]
theorem K7.ne(s:Nm)(o:Option (List Vl×Vl)):∃r ob,K7 s o r ob:=⟨_,[],rfl,_,dL.of _,rfl⟩
theorem K7.none(s:Nm):K7 s none (.da [.agg [.v (.string (mk [])),.v (.slice none 0 0),.v (.string (mk []))],.v (.bool false)]) []:=⟨rfl,_,dL.nil,rfl⟩
end Go.Proofs.Trees
namespace Go.Proofs.Trees
open Go Go.VL Go.RowKit
theorem ub{a:Ty}{l l':List Vl}{v w:Vl}{k:Int}(h:Cv a l v k=some (l',w)):∃q,q∈kids a v/\l'=l++[q.1]/\w=q.2/\q.1.nodes<=200/\l.length≠50/\0<=k/\(kids a v)[k.toNat]?=some q:=by
 unfold Cv at h
 split at h
 ·cases h
 ·rename_i h0
  split at h
  ·rename_i h1
   split at h
   ·rename_i h2
    cases h
    have e:(kids a v).getD k.toNat (.u,.u)=(kids a v)[k.toNat]'h1.2:=by simp[aa,h1.2]
    rw[e]at h2 |-
    exact⟨_,bD _,rfl,rfl,h2,h0,h1.1,by simp[h1.2]⟩
   ·cases h
  ·cases h
theorem St.dn{s d:Nm}{a:Ty}{l l':List Vl}{v w:Vl}{k:Int}(h:St s d a l v)(hu:Cv a l v k=some (l',w)):St s d a l' w/\CA a l' w=some (l,v)/\l'.length=l.length+1:=by
 obtain⟨q,hq,rfl,rfl,hn,h50,_,_⟩:=ub hu
 obtain⟨x,A,B,D,z⟩:=h.z
 obtain⟨t1,t2,t3⟩:=z.Oo h.i.Ay hq
 have hv:pu d q.1.fa 100=some q.1:=by rw[z.Oq (lO h.i.Ay.iK hq).1 t1,if_pos hn]
 have hlen:=h.len
 refine⟨⟨⟨x,A,B,D,z⟩,⟨fun c hc=>?_,t2⟩,fun c hc=>?_,by simp;omega⟩,(uz t3 h.i.Ay.nd).1,by simp⟩
 ·rcases aI.1 hc with hc|hc
  ·exact h.i.F7 c hc
  ·simp only[aY]at hc;subst hc;exact z.F7 hv
 ·rcases aI.1 hc with hc|hc
  ·exact h.each c hc
  ·simp only[aY]at hc;subst hc;exact hv
theorem C7{s:Nm}{p:List Nm}{f:Nm}{r:List Vl×Vl}(h:EM s p f=some r):∃d,io s=some d/\St s d (zA s) r.1 r.2/\p=r.1.map (·.fa)/\f=r.2.fa:=by
 obtain⟨d,a,x,A,B,D,z,hz,hp,hf,hl,hza,_,hr⟩:=Ax (l:=r.1) (v:=r.2) h
 rw[hza]
 exact⟨d,z.dl,⟨⟨x,A,B,D,z⟩,hz,pX hr hp,by rw[hp]at hl;simpa using hl⟩,hp,hf⟩
theorem Jj{s d:Nm}{l:List Vl}{v:Vl}(hs:St s d (zA s) l v)(hd:io s=some d)(hv:uj s (l.map (·.fa)) v.fa=some (l,v)){k:Int}(h0:0<=k)(hk:k.toNat<(kids (zA s) v).length) :
 uj s (l.map (·.fa)++[((kids (zA s) v)[k.toNat]).1.fa]) ((kids (zA s) v)[k.toNat]).2.fa=Cv (zA s) l v k:=by
 rw[xV hs hd hv (bD hk)]
 unfold Cv
 by_cases h5:l.length=50
 ·rw[if_pos h5,if_pos h5]
 ·rw[if_neg h5,if_neg h5,if_pos (show 0<=k/\k.toNat<(kids (zA s) v).length from ⟨h0,hk⟩)]
  have hg2:(kids (zA s) v).getD k.toNat (.u,.u)=(kids (zA s) v)[k.toNat]:=by simp[aa,hk]
  rw[hg2]
end Go.Proofs.Trees
namespace Go.Proofs.Trees
open Go Go.VL Go.RowKit
abbrev ZO:=Option (List Vl×Vl)
def FE(s:Nm)(o:ZO):Prop:=∀r,o=some r->∃d,St s d (zA s) r.1 r.2
def OF(a:Ty)(pl:List Int)(o:ZO):ZO:=pl.foldl (fun o k=>o.bind fun r=>Cv a r.1 r.2 k) o
theorem FE.dn{s:Nm}{o:ZO}(h:FE s o)(k:Int):FE s (o.bind fun r=>Cv (zA s) r.1 r.2 k):=fun r hr=>by
 obtain⟨q,h1,h2⟩:=cf.1 hr
 obtain⟨d,hs⟩:=h q h1
 exact⟨d,(hs.dn (l':=r.1) (w:=r.2) h2).1⟩
theorem FE.go{s:Nm}:∀{pl:List Int} {o:ZO},FE s o->FE s (OF (zA s) pl o)
 |[],o,h=>h
 |k::pl,o,h=>FE.go (pl:=pl) (h.dn k)
def N8(s:Nm)(o:ZO):Prop:=∀r,o=some r->uj s (r.1.map (·.fa)) r.2.fa=some r
theorem N8.dn{s:Nm}{o:ZO}(h:N8 s o)(k:Int):N8 s (o.bind fun r=>Cv (zA s) r.1 r.2 k):=fun r hr=>by
 obtain⟨q,h1,h2⟩:=cf.1 hr
 have hq:=h q h1
 obtain⟨d,hd,hs,_⟩:=C7 (oG (l:=q.1) (v:=q.2) hq).1
 obtain⟨e,_,h3,h4,_,_,h0,h5⟩:=ub (l':=r.1) (w:=r.2) h2
 have hk:k.toNat<(kids (zA s) q.2).length:=by
  rcases Nat.lt_or_ge k.toNat (kids (zA s) q.2).length with h|h
  ·exact h
  ·rw[List.getElem?_eq_none h]at h5;cases h5
 have he:(kids (zA s) q.2)[k.toNat]=e:=by rw[bo hk]at h5;cases h5;rfl
 have:=Jj hs hd hq h0 hk
 rw[h2,he]at this
 obtain⟨l1,v1⟩:=r
 simp only at h3 h4 |-
 subst h3 h4
 rw[dr]
 exact this
end Go.Proofs.Trees
namespace Go.Proofs.Trees
open Go Go.VL Go.RowKit
theorem ur{s v:Nm}{l:List Pt}(h:dw s v=some l):∃w l',lh s v=some w/\l=(w,[])::l':=by
 unfold dw at h
 split at h
 ·rename_i a w h1 h2
  have hp:∃l',parts a w=(w,[])::l':=by
   unfold parts
   obtain⟨n,hn⟩:∃n,w.nodes=n+1:=⟨w.nodes-1,by have:=cB w;omega⟩
   rw[hn,eu]
   exact⟨_,rfl⟩
  obtain⟨l',hl'⟩:=hp
  split at h
  ·cases h;exact⟨w,l',h2,hl'⟩
  ·cases h
 ·cases h
structure Ord(pl:List Nat)(L:List Pt):Prop where
 hd:∃v rest,L=(v,pl)::rest
 pre:∀q,q∈L->∃path,q.2=pl++path
 nd:(L.map (·.2)).Nodup
 Mu:∀i (h:i<L.length),1<=i->(L[i]).2.length>pl.length/\∃k,∃hk:k<i,(L[k]'(by omega)).2=(L[i]).2.dropLast
def BY(pl:List Nat)(i:Nat)(M:List Pt):Prop :=
 (∀q,q∈M->∃j path,i<=j/\q.2=pl++j::path)/\(M.map (·.2)).Nodup/\∀m (h:m<M.length),(M[m]).2.dropLast=pl\/∃k,∃hk:k<m,(M[k]'(by omega)).2=(M[m]).2.dropLast
theorem yF(pl:List Nat)(i:Nat):BY pl i []:=⟨fun q h=>(by cases h),List.nodup_nil,fun m h=>absurd h (by simp)⟩
theorem xE{pl:List Nat}{i:Nat}{L M:List Pt}(hL:Ord (pl++[i]) L)(hM:BY pl (i+1) M):BY pl i (L++M):=by
 obtain⟨m1,m2,m3⟩:=hM
 refine⟨fun q hq=>?_,?_,fun m h=>?_⟩
 ·rcases aI.1 hq with hq|hq
  ·obtain⟨path,e⟩:=hL.pre q hq
   exact⟨i,path,ap _,by rw[e];simp⟩
  ·obtain⟨j,path,h1,h2⟩:=m1 q hq
   exact⟨j,path,by omega,h2⟩
 ·rw[dr,List.nodup_append]
  refine⟨hL.nd,m2,?_⟩
  intro x hx y hy e
  obtain⟨q,hq,rfl⟩:=bP.1 hx
  obtain⟨q',hq',rfl⟩:=bP.1 hy
  obtain⟨path,e1⟩:=hL.pre q hq
  obtain⟨j,path',h1,e2⟩:=m1 q' hq'
  rw[e1,e2,aQ]at e
  have:=List.append_cancel_left e
  simp only[List.singleton_append,List.cons.injEq]at this
  omega
 ·by_cases hm:m<L.length
  ·rw[List.getElem_append_left hm]
   by_cases h0:m=0
   ·subst h0
    obtain⟨v,rest,rfl⟩:=hL.hd
    left;simp
   ·obtain⟨_,k,hk,e⟩:=hL.Mu m hm (by omega)
    right
    exact⟨k,hk,by rw[List.getElem_append_left (by omega)];exact e⟩
  ·have hm2:m-L.length<M.length:=by rw[al]at h;omega
   rw[List.getElem_append_right (by omega)]
   rcases m3 (m-L.length) hm2 with e|⟨k,hk,e⟩
   ·exact .inl e
   ·right
    refine⟨L.length+k,by omega,?_⟩
    rw[List.getElem_append_right (by omega)]
    simp only[Nat.add_sub_cancel_left]
    exact e
theorem rK:∀(n:Nat) (a:Ty) (p:Pt),p.1.nodes<=n->Ord p.2 (eu n a p)
 |0,a,p,h=>by have:=cB p.1;omega
 |
  n+1,a,p,h=>by
  have sub:∀(l:List Hl) (i:Nat),(∀h,h∈l->h.2.nodes<=n)->BY p.2 i ((fJ p.2 l i).flatMap (eu n a)):=by
   intro l
   induction l with
   |nil=>intro i _;simp[fJ];exact yF _ _
   |
    cons h l ih =>
    intro i hl
    rw[fJ,cy]
    exact xE (rK n a (h.2,p.2++[i]) (hl h af)) (ih (i+1) fun x hx=>hl x (ai _ hx))
  obtain⟨m1,m2,m3⟩:=sub (kids a p.1) 0 fun x hx=>by have:=iS hx;omega
  rw[eu]
  refine⟨⟨p.1,_,rfl⟩,fun q hq=>?_,?_,fun i hi h1=>?_⟩
  ·rcases aE.1 hq with rfl|hq
   ·exact⟨[],by simp⟩
   ·obtain⟨j,path,_,e⟩:=m1 q hq;exact⟨j::path,e⟩
  ·rw[bi,List.nodup_cons]
   refine⟨fun hm=>?_,m2⟩
   obtain⟨q,hq,e⟩:=bP.1 hm
   obtain⟨j,path,_,e2⟩:=m1 q hq
   rw[e2]at e
   have:=congrArg List.length e
   simp at this
  ·obtain⟨m,rfl⟩:∃m,i=m+1:=⟨i-1,by omega⟩
   have hm:m<((fJ p.2 (kids a p.1) 0).flatMap (eu n a)).length:=by rw[aw]at hi;omega
   rw[List.getElem_cons_succ]
   obtain⟨j,path,_,e2⟩:=m1 _ (bD hm)
   refine⟨by rw[e2];simp,?_⟩
   rcases m3 m hm with e|⟨k,hk,e⟩
   ·exact⟨0,by omega,by rw[e];rfl⟩
   ·exact⟨k+1,by omega,by rw[List.getElem_cons_succ];exact e⟩
end Go.Proofs.Trees
namespace Go.Proofs.Trees
open Go Go.VL Go.RowKit
def lX(l:List Pt):List (List AV):=l.map fun p=>[.sl (dQ p.2),.v (.string (mk p.1.fa)),.v (.string (mk []))]
theorem kp(l:List Pt):(lX l).length=l.length:=by simp[lX]
theorem yU{l:List Pt}{i:Nat}(hi:i<l.length):(lX l).getD i []=[.sl (dQ (l[i]).2),.v (.string (mk (l[i]).1.fa)),.v (.string (mk []))]:=by simp[lX,aa,hi]
theorem zr(out:List Pt)(p:Pt):lX out++[[.sl (dQ p.2),.v (.string (mk p.1.fa)),.v (.string (mk []))]]=lX (out++[p]):=by simp[lX]
theorem Mv(a b c:AV):cb 3 [[a,b,c]]:=fun x hx=>by simp at hx;rw[hx];rfl
def Co(x A B:E)(a:Ty)(n:Nat)(q:Pt):Prop:=∀out:List Pt,out.length+q.1.nodes<=600->au Tryz.prog 66 [.agg [.v (.string (mk [])),(E.list [x,A,B]).sp],.agg [.v (.string (mk q.1.dh.at)),q.1.dh.sp],.sl (dQ q.2),.vec 0] [.vec 3 (lX out)] (cZ (.vec 1) [.dead,.vec 3 (lX (la n a out q))])
abbrev vJ(n:Nat)(a:Ty):List Pt->Pt->List Pt:=fun o q=>if o.length<=100 then la n a o q else o
theorem qB(n:Nat)(a:Ty):∀(l:List Pt) (o:List Pt),100<o.length->l.foldl (vJ n a) o=o
 |[],_,_=>rfl
 |q::l,o,h=>by rw[List.foldl_cons,vJ,if_neg (by omega)];exact qB n a l o h
theorem HB(x A B:E)(a:Ty)(n:Nat)(pl:List Nat)(hpl:pl.length<=1000)(l:List Hl)(hl:l.length<=1000)(ih:∀q,q∈fJ pl l 0->Co x A B a n q)(hn:∀q,q∈fJ pl l 0->q.1.nodes<=n):∀(k i:Nat) (out:List Pt),i+k=l.length->out.length+fS (l.drop i)<=600->(∀q,q∈fJ pl (l.drop i) i->q∈fJ pl l 0) ->
 EA [.sl (dQ pl),.sl (lu l),.v (.int .i64 (i:Int))] [.cells [.v (.string (mk [])),(E.list [x,A,B]).sp],.vec 3 (lX out)] (gk 1 [] [.vec 3 (lX ((fJ pl (l.drop i) i).foldl (vJ n a) out))])
 |
  0,i,out,hi,ho,hm=>by
  refine JW _ _ _ _ _ _ ?_
  have:i=l.length:=by omega
  subst this
  simp only[Dk,↓zq,zs,ae,eJ,a8]
  exact⟨fun h=>by omega,fun _=>by simp[gk,fJ]⟩
 |
  k+1,i,out,hi,ho,hm=>by
  have hlt:i<l.length:=by omega
  have hd:=si pl l hlt
  rw[hd]at hm |-
  have hq:=hm _ af
  have hsum:fS (l.drop i)=(l[i]).2.nodes+fS (l.drop (i+1)):=by rw[aL hlt];rfl
  have hw:=(qy n a ((l[i]).2,pl++[i]) (hn _ hq) out).2.2.2
  have hp:=jy n a ((l[i]).2,pl++[i])
  simp only at hw hp
  refine JW _ _ _ _ _ _ ?_
  simp only[Dk,↓zq,zs,ae,zt,eJ,fQ hlt,aN,a8,bh,jr,qk,kp]
  refine⟨fun _=>⟨fun hle=>?_,fun hgt=>?_⟩,fun h=>by omega⟩
  ·repeat refine⟨by omega,?_⟩
   refine⟨⟨oX _,by omega⟩,⟨pL _,by omega⟩,?_⟩
   have hcall:=ih _ hq out (by show out.length+(l[i]).2.nodes<=600;omega)
   refine bM hcall ?_
   simp only[↓zq,zs,ae]
   rw[bp i (by omega),List.foldl_cons,show vJ n a out ((l[i]).2,pl++[i])=la n a out ((l[i]).2,pl++[i]) from if_pos (by omega)]
   exact HB x A B a n pl hpl l hl ih hn k (i+1) _ (by omega) (by omega) (fun q hq=>hm q (ai _ hq))
  ·rw[qB n a _ _ (by omega)]
   simp[gk]
theorem Ir(c:Nat)(x A B:E)(a:Ty)(hA:Ask B [.mk A.at (.list [x,A,B]) []] a)(hx:x.at=[114,101,99]):∀(n:Nat) (q:Pt),q.1.nodes<=n->n<=200->q.2.length+n<=200->q.1.iK 100->ei c q.1 (.list [x,A,B],[])=true->Co x A B a n q
 |0,q,h,_,_,_,_=>by have:=cB q.1;omega
 |
  n+1,q,h,hn,hpl,hb,hv=>by
  intro out ho
  have hk:=ov a q.1
  have hkl:=nA (kids a q.1)
  have htx:=iR q.1 hb
  obtain⟨w,hqw,hw⟩:=pN .nil hx hv
  have hP:=P3.of x A B
  have hW:=P2.of (.atom [102]) w.dh
  have hqe:q.1.dh=.list [.atom [102],w.dh]:=by rw[hqw];rfl
  have htext:=MZ q.1.dh (oE _) (by show q.1.fa.length<=900000;omega)
  rw[dU]at htext
  refine MC _ _ _ _ _ _ ((a8 _).mpr trivial) ((a8 _).mpr trivial) ((bU _).mpr trivial) ?_
  unfold Hz
  refine an htext ?_
  have ol:(out++[q]).length=out.length+1:=by simp
  rw[hqe]
  simp only[↓zq,zs,ae,zt,kp,toNat_one,bj,hP.1,hP.2.1,hP.2.2.1,hP.2.2.2,hW.1,hW.2.1,hW.2.2,aN]
  refine⟨⟨Mv _ _ _,by omega⟩,?_⟩
  repeat refine⟨by omega,?_⟩
  refine an (Ms c q.1 x A B a hA hx w hqw hv (by omega)) ?_
  simp only[↓zq,zs,ae]
  have hl:=HB x A B a n q.2 (by omega) (kids a q.1) (by omega) (fun r hr=>by
   obtain⟨k,h1,h2⟩:=iC hr
   have:=iS h1
   have hlen:r.2.length=q.2.length+1:=by
    have:∀(l:List Hl) (i:Nat),r∈fJ q.2 l i->r.2.length=q.2.length+1:=by
     intro l
     induction l with
     |nil=>intro i hh;cases hh
     |
      cons k l ih =>
      intro i hh
      rcases aE.1 hh with rfl|hh
      ·simp
      ·exact ih _ hh
    exact this _ _ hr
   exact Ir c x A B a hA hx n r (by rw[h2];omega) (by omega) (by omega) (by rw[h2];exact(lO hb h1).2) (by rw[h2];exact ux hA .nil hx hv h1)) (fun r hr=>by
   obtain⟨k,h1,h2⟩:=iC hr
   have:=iS h1
   rw[h2];omega) (kids a q.1).length 0 (out++[q]) (by omega) (by rw[rM,ol];omega) (fun r hr=>hr)
  rw[aV]at hl
  rw[show lX out++[[.sl (dQ q.2),.v (.string (mk (gh (.list [.atom [102],w.dh])))),.v (.string (mk []))]]=lX (out++[q]) by rw[<-hqe];exact zr out q]
  refine bZ hl ?_
  rw[la];simp[↓zq,zs,ae,cZ]
theorem Ny(s v:List UInt8):au Tryz.prog 41 [.v (.string (mk s)),.v (.string (mk v))] [] (Eb lX s v):=by
 refine Nj _ _ ?_
 unfold JD
 refine aU (LZ s) (l4.ne _ _ (fun h=>h)) ?_
 rintro r o ⟨c,d,hd,rfl,hh⟩
 have hhas:bY [.str,.sl] [.v (.string (mk c)),d] 0:=by simp[bY,eI,hd]
 simp only[↓zq,zs,ae,zt]
 refine⟨hhas,?_⟩
 refine aU (Il v) (l4.ne _ _ (fun h=>by cases hq:rb v<;>simp[hq]at h |-)) ?_
 rintro r o ⟨c',d',hd',rfl,hh'⟩
 have hhas':bY [.str,.sl] [.v (.string (mk c')),d'] 0:=by simp[bY,eI,hd']
 simp only[↓zq,zs,ae,zt]
 have none1:dw s v=none->Eb lX s v (.da [.sl [],.v (.bool false)]) []:=fun hn=>⟨rfl,.sl [],(bU _).mpr trivial,by rw[hn];rfl,fun l hl=>by rw[hn]at hl;cases hl⟩
 refine⟨hhas',fun h=>none1 ?_,fun h=>?_⟩
 ·rw[tV]at h
  have:jm s=none:=by cases hq:jm s<;>simp[hq]at h |-
  unfold dw;rw[this]
 ·refine an (Ou s v 100) ?_
  simp only[↓zq,zs,ae]
  refine⟨fun h2=>none1 ?_,fun h2=>?_⟩
  ·have:pu s v 100=none:=by cases hq:pu s v 100<;>simp[hq]at h2 |-
   have:lh s v=none:=by unfold lh;rw[this];cases jm s<;>rfl
   unfold dw;rw[this];cases jm s<;>rfl
  ·obtain⟨w,hw⟩:=bF.1 h2
   rw[tV]at h
   obtain⟨a0,ha0⟩:=bF.1 h
   have hlv:lh s v=some w:=by unfold lh;rw[ha0];exact hw
   obtain⟨a,x,A,B,L⟩:=jb hlv
   obtain⟨e,he,hce⟩:=hh (by rw[L.le];rfl)
   rw[L.le]at he;cases he
   obtain⟨e2,he2,hce2⟩:=hh' (by rw[L.v];rfl)
   rw[L.v]at he2;cases he2
   rw[hce,hce2,dU,dU]
   have hnd:=L.nodes
   obtain⟨p1,p2,p3⟩:=u4 a w
   have hs:=Ir 100 x A B a L.body L.hx w.nodes (w,[]) (ap _) hnd (by simp;omega) L.iK L.ei [] (by simp;omega)
   refine bM hs ?_
   simp only[↓zq,zs,ae,kp]
   refine⟨rfl,.sl (lX (la w.nodes a [] (w,[]))),(bU _).mpr trivial,?_,fun l hl=>?_⟩
   ·congr 4
    have:dw s v=if(parts a w).length<=100 then some (parts a w)else none:=by unfold dw;rw[L.l,hlv]
    rw[this]
    by_cases hc:(parts a w).length<=100
    ·rw[if_pos hc,p1 hc];simp;omega
    ·rw[if_neg hc];have:=p2 (by omega);simp;omega
   ·unfold dw at hl
    rw[L.l,hlv]at hl
    simp only at hl
    split at hl
    ·rename_i hc
     cases hl
     rw[p1 hc]
    ·cases hl
end Go.Proofs.Trees
namespace Go.Proofs.Trees
open Go Go.VL Go.RowKit
def oS(l:List UInt8):List (List AV):=l.map fun(x:UInt8)=>[.v (.int .u8 (x.toNat:Int))]
structure rX(b:AV)(l:List UInt8):Prop where
 has:LK.sl.has b
 el:b.aM=oS l
 len:l.length<=2000
theorem rX.ln{b:AV}{l:List UInt8}(h:rX b l):b.aM.length=l.length:=by rw[h.el];simp[oS]
theorem rX.get{b:AV}{l:List UInt8}(h:rX b l){i:Nat}(hi:i<l.length):b.aM.getD i []=[.v (.int .u8 ((l[i]).toNat:Int))]:=by rw[h.el];simp[oS,aa,hi]
def ep(b:AV)(p c:Nat)(X:AV->Prop):AV->List Ob->Prop:=fun r o=>∃q:Nat,p<=q/\q<=p+c/\X r/\o=[.cells [b,.v (.int .i64 (q:Int))]]
theorem ep.ne{b:AV}{p c:Nat}{X:AV->Prop}{r:AV}(h:X r):∃r o,ep b p c X r o:=⟨r,_,p,ap _,cR _ _,h,rfl⟩
theorem AZ{a b:Int}(ha:0<=a)(hb:0<=b)(ha':a<9223372036854775808)(hb':b<9223372036854775808):∃W:Nat,zu .i64 a b=(W:Int):=by
 obtain⟨x,rfl⟩:∃x:Nat,a=(x:Int):=⟨a.toNat,by omega⟩
 obtain⟨y,rfl⟩:∃y:Nat,b=(y:Int):=⟨b.toNat,by omega⟩
 have e1:(BitVec.ofInt 64 (x:Int)).toNat=x:=by simp;omega
 have e2:(BitVec.ofInt 64 (y:Int)).toNat=y:=by simp;omega
 have hlt:x ^^^ y<2 ^ 63:=Nat.xor_lt_two_pow (by omega) (by omega)
 refine⟨x ^^^ y,?_⟩
 unfold zu
 have e3:(BitVec.ofInt (IntKind.bits .i64) (x:Int) ^^^ BitVec.ofInt (IntKind.bits .i64) (y:Int)).toNat=x ^^^ y:=by
  show (BitVec.ofInt 64 (x:Int) ^^^ BitVec.ofInt 64 (y:Int)).toNat=_
  rw[BitVec.toNat_xor,e1,e2]
 rw[e3,VL.wrap64]<;>omega
theorem wy(a b:Nat):Int.tdiv (a:Int) (b:Int)=((a/b:Nat):Int):=(Int.ofNat_tdiv a b).symm
theorem pM(a b:Nat):dc (a:Int) (b:Int)=((a%b:Nat):Int):=(Int.ofNat_tmod a b).symm
theorem tR(n:Nat)(h:n<9223372036854775808):IntKind.wrap .i64 (n:Int)=(n:Int):=VL.wrap64 _ (by omega) (by omega)
def CH(n:Nat):AV->Prop:=fun r=>∃k:Nat,r=.v (.int .i64 (k:Int))/\(1<=n->k<n)/\k<=n
abbrev pD:Nat:=1000000000000000
theorem wj(b:AV)(l:List UInt8)(hb:rX b l)(p n:Nat)(hp:p<2*pD)(hn:n<pD):au Tryz.prog 29 [.ref 0 0,.v (.int .i64 (n:Int))] [.cells [b,.v (.int .i64 (p:Int))]] (ep b p 1 (CH n)):=by
 refine Lw _ _ _ hb.has ?_
 have e1:IntKind.wrap .i64 ((p:Int)+1)=((p+1:Nat):Int):=by rw[VL.wrap64]<;>simp[pD]at hp<;>omega
 have e2:IntKind.wrap .i64 (((p+1:Nat):Int)-1)=(p:Int):=by rw[VL.wrap64]<;>simp[pD]at hp<;>omega
 have fin:∀k:Nat,(1<=n->k<n)->k<=n->ep b p 1 (CH n) (.v (.int .i64 (k:Int))) [.cells [b,.v (.int .i64 ((p+1:Nat):Int))]]:=fun k h h'=>⟨p+1,by omega,ap _,⟨k,rfl,h,h'⟩,rfl⟩
 simp only[Jw,↓zq,zs,ae,e1,e2,hb.ln,wy,pM]
 refine⟨fun h=>fin 0 (fun h'=>by omega) (db _),fun h=>⟨hb.has,fun h0=>fin 0 (fun h'=>by omega) (db _),fun h0=>?_⟩⟩
 have hl:0<l.length:=by omega
 have hll:=hb.len
 refine⟨hb.has,fun hlt=>?_,fun hge=>?_⟩
 ·have hlt:p<l.length:=by omega
  have hx:=(l[p]).toNat_lt
  simp only[bS,hb.get hlt,hb.has,↓zq,zs,ae]
  rw[tR _ (by omega),pM]
  have:=fin ((l[p]).toNat%n) (fun h'=>dK _ (by omega)) (Nat.le_of_lt (dK _ (by omega)))
  repeat (first|exact this|refine⟨by omega,?_⟩)
 ·have h1:p%l.length<l.length:=dK _ hl
  have e3:IntKind.wrap .i64 ((p:Int)*7)=((p*7:Nat):Int):=by rw[VL.wrap64]<;>simp[pD]at hp<;>omega
  have e4:IntKind.wrap .i64 (((p*7:Nat):Int)+3)=((p*7+3:Nat):Int):=by rw[VL.wrap64]<;>simp[pD]at hp<;>omega
  have h2:(p*7+3)%l.length<l.length:=dK _ hl
  have hx:=(l[p%l.length]).toNat_lt
  have hy:=(l[(p*7+3)%l.length]).toNat_lt
  have hq:p/l.length<=p:=Nat.div_le_self _ _
  simp only[e3,e4,pM,bS,hb.get h1,hb.get h2,hb.has,↓zq,zs,ae]
  generalize hxx:(l[p%l.length]).toNat=x at hx |-
  generalize hyy:(l[(p*7+3)%l.length]).toNat=y at hy |-
  generalize hqq:p/l.length=q at hq |-
  have f1:IntKind.wrap .i64 ((x:Int))=(x:Int):=tR _ (by omega)
  have f2:IntKind.wrap .i64 ((y:Int))=(y:Int):=tR _ (by omega)
  have f3:IntKind.wrap .i64 ((x:Int)*131)=((x*131:Nat):Int):=by rw[VL.wrap64]<;>omega
  have f4:IntKind.wrap .i64 ((y:Int)*1117)=((y*1117:Nat):Int):=by rw[VL.wrap64]<;>omega
  have f5:IntKind.wrap .i64 (((x*131:Nat):Int)+((y*1117:Nat):Int))=((x*131+y*1117:Nat):Int):=by rw[VL.wrap64]<;>omega
  have f6:IntKind.wrap .i64 ((p:Int)*29)=((p*29:Nat):Int):=by rw[VL.wrap64]<;>simp[pD]at hp<;>omega
  have f7:IntKind.wrap .i64 (((x*131+y*1117:Nat):Int)+((p*29:Nat):Int))=((x*131+y*1117+p*29:Nat):Int):=by rw[VL.wrap64]<;>simp[pD]at hp<;>omega
  have f8:IntKind.wrap .i64 ((q:Int))=(q:Int):=tR _ (by simp[pD]at hp;omega)
  have f9:IntKind.wrap .i64 ((q:Int)*53)=((q*53:Nat):Int):=by rw[VL.wrap64]<;>simp[pD]at hp<;>omega
  have f10:IntKind.wrap .i64 (((x*131+y*1117+p*29:Nat):Int)+((q*53:Nat):Int))=((x*131+y*1117+p*29+q*53:Nat):Int):=by rw[VL.wrap64]<;>simp[pD]at hp<;>omega
  simp only[f1,f2,f3,f4,f5,f6,f7,f8,f9,f10]
  generalize hV:x*131+y*1117+p*29+q*53=V
  have hVl:V<1000000000000000000:=by simp[pD]at hp;omega
  have f11:IntKind.wrap .i64 (Int.tdiv (V:Int) 64)=((V/64:Nat):Int):=by
   have:Int.tdiv (V:Int) 64=((V/64:Nat):Int):=wy V 64
   rw[this,tR _ (by omega)]
  rw[f11]
  obtain⟨W,hW⟩:=AZ (a:=(V:Int)) (b:=((V/64:Nat):Int)) (by omega) (by omega) (by omega) (by omega)
  rw[hW,pM]
  have:=fin (W%n) (fun h'=>dK _ (by omega)) (Nat.le_of_lt (dK _ (by omega)))
  repeat (first|exact this|refine⟨by omega,?_⟩)
def km(L:List (List UInt8)):AV->Prop:=fun r=>∃s,s∈L/\r=.v (.string (mk s))
theorem Cc(b:AV)(l:List UInt8)(hb:rX b l)(p:Nat)(hp:p<2*pD)(L:List (List UInt8))(a:AV)(ha:dL a L)(hL:0<L.length)(hLl:L.length<1000000):au Tryz.prog 80 [.ref 0 0,a] [.cells [b,.v (.int .i64 (p:Int))]] (ep b p 1 (km L)):=by
 refine Ln _ _ _ ha.1 hb.has ?_
 unfold IF
 simp only[↓zq,zs,ae,ha.len]
 refine⟨ha.1,?_⟩
 have hpk:=wj b l hb p L.length hp (by simp[pD];omega)
 refine aU hpk (ep.ne ⟨0,rfl,fun h=>h,db _⟩) ?_
 rintro r o ⟨q,h1,h2,⟨k,rfl,h3,h4⟩,rfl⟩
 have hk:=h3 hL
 simp only[↓zq,zs,ae,zt,aO,hb.has,ha.idx hk,bS]
 refine⟨⟨ha.1,by omega⟩,?_⟩
 have:ep b p 1 (km L) (.v (.string (mk (L.getD k [])))) [.cells [b,.v (.int .i64 (q:Int))]]:=⟨q,h1,h2,⟨_,by simp[aa,hk],rfl⟩,rfl⟩
 repeat (first|exact this|refine⟨by omega,?_⟩)
def fN(n:Nat):AV->Prop:=fun r=>∃s:List UInt8,r=.v (.string (mk s))/\s.length<=n
theorem km.fa{L:List (List UInt8)}{n:Nat}(h:∀s,s∈L->s.length<=n){r:AV}(hr:km L r):fN n r:=by
 obtain⟨s,h1,h2⟩:=hr;exact⟨s,h2,h s h1⟩
end Go.Proofs.Trees
namespace Go.Proofs.Trees
open Go Go.VL Go.RowKit
def jD:AV->List Ob->Prop:=fun r o=>o=[]/\∃b:Bool,r=.v (.bool b)
theorem jD.ne:∃r o,jD r o:=⟨_,_,rfl,true,rfl⟩
theorem jD.mk(b:Bool):jD (.v (.bool b)) []:=⟨rfl,b,rfl⟩
theorem jD.call{n:Nat}{f:Nat}{xs:List AV}{k:AV->List Ob->Tree}{Q:Nat->List AV->List Ob->Prop}(h:au Tryz.prog f xs [] jD)(hk:∀b:Bool,ek Tryz.prog n (k (.v (.bool b)) []) Q):ek Tryz.prog n (.call f xs [] k) Q :=
 aU h jD.ne (by rintro r o ⟨rfl,b,rfl⟩;exact hk b)
theorem HH{e:E}(h:Wf e):∀(l:List Nm) (a:AV),dL a l->l.length+e.sz<100000->au Tryz.prog 108 [.agg [.v (.string (mk e.at)),e.sp],a] [] jD:=by
 induction h with
 |
  @atom s hs =>
  intro l a ha hl
  simp only[E.sz]at hl
  refine BH _ _ _ ((a8 _).mpr trivial) ha.1 ?_
  simp only[Ad,eh,↓zq,zs,ae]
  refine an (zi s _ ((a8 (.atom s)).mpr trivial) hs) ?_
  simp only[↓zq,zs,ae,zt,ha.1]
  refine⟨fun h=>(by cases h),fun _=>⟨fun h=>(by cases h),fun _=>⟨fun h=>(by cases h),fun _=>⟨fun _=>.mk true,fun _=>?_⟩⟩⟩⟩
  refine an (F4 l a ha s (by omega)) ?_
  simp only[↓zq,zs,ae]
  exact .mk _
 |
  @plus x y hx hy i1 i2 =>
  intro l a ha hl
  simp only[E.sz,E.iM]at hl
  refine BH _ _ _ ((a8 _).mpr trivial) ha.1 ?_
  have hP:=P3.of (.atom [43]) x y
  simp only[Ad,cT,toNat_one,bj,↓zq,zs,ae,zt,hP.1,hP.2.1,hP.2.2.1,hP.2.2.2,aN]
  refine an (qV [43] x y) ?_
  simp only[↓zq,zs,ae,zt,ha.1,aN]
  refine⟨fun _=>⟨by omega,by omega,jD.call (i1 l a ha (by omega)) fun b=>?_⟩,fun h=>absurd rfl h⟩
  simp only[↓zq,zs,ae]
  refine⟨fun _=>⟨by omega,by omega,jD.call (i2 l a ha (by omega)) fun b=>?_⟩,fun _=>.mk _⟩
  simp only[↓zq,zs,ae]
  exact .mk _
 |
  @times x y hx hy i1 i2 =>
  intro l a ha hl
  simp only[E.sz,E.iM]at hl
  refine BH _ _ _ ((a8 _).mpr trivial) ha.1 ?_
  have hP:=P3.of (.atom [42]) x y
  simp only[Ad,cT,toNat_one,bj,↓zq,zs,ae,zt,hP.1,hP.2.1,hP.2.2.1,hP.2.2.2,aN]
  refine an (qV [42] x y) ?_
  simp only[↓zq,zs,ae,zt,ha.1,aN]
  refine⟨fun h=>(by cases h),fun _=>⟨fun _=>⟨by omega,by omega,jD.call (i1 l a ha (by omega)) fun b=>?_⟩,fun h=>absurd rfl h⟩⟩
  simp only[↓zq,zs,ae]
  refine⟨fun _=>.mk _,fun _=>⟨by omega,by omega,jD.call (i2 l a ha (by omega)) fun b=>?_⟩⟩
  simp only[↓zq,zs,ae]
  exact .mk _
 |
  @rc n b hn hb i =>
  intro l a ha hl
  simp only[E.sz,E.iM]at hl
  refine BH _ _ _ ((a8 _).mpr trivial) ha.1 ?_
  have hP:=P3.of (.atom gN) (.atom n) b
  simp only[Ad,cT,toNat_one,bj,↓zq,zs,ae,zt,hP.1,hP.2.1,hP.2.2.1,hP.2.2.2,aN]
  refine an (qV gN (.atom n) b) ?_
  simp only[↓zq,zs,ae,zt,ha.1,aN]
  refine⟨fun h=>(by cases h),fun _=>⟨fun h=>(by cases h),fun _=>⟨fun _=>⟨by omega,by omega,by omega,by omega,?_⟩,fun h=>absurd rfl h⟩⟩⟩
  refine an (xA l a ha n (by omega)) ?_
  simp only[↓zq,zs,ae,zt]
  refine jD.call (i (l++[n]) _ (.of _) (by simp;omega)) fun b=>?_
  simp only[↓zq,zs,ae]
  exact .mk _
def LR:AV->List Ob->Prop:=fun r o=>o=[]/\∃(g:E) (b:Bool),r=.da [.agg [.v (.string (mk g.at)),g.sp],.v (.bool b)]/\Wf g/\g.dW<=400
theorem MX{n:Nm}{b:E}(hn:tD n)(hb:Wf b)(hl:(E.list [.atom gN,.atom n,b]).dW<=400):au Tryz.prog 110 [.agg [.v (.string (mk [])),(E.list [.atom gN,.atom n,b]).sp]] [] LR:=by
 have hw:Wf (.list [.atom gN,.atom n,b]):=.rc hn hb
 refine NR _ _ ((a8 _).mpr trivial) ?_
 have hP:=P3.of (.atom gN) (.atom n) b
 have hbl:b.dW<=400:=by simp only[E.dW,E.eY]at hl;omega
 simp only[Ix,toNat_one,bj,↓zq,zs,ae,zt,hP.1,hP.2.1,hP.2.2.1,hP.2.2.2,aN]
 refine⟨by omega,by omega,by omega,by omega,?_⟩
 have hf:=Nw hn hb hw (by omega) (by omega)
 obtain⟨g,g1,g2,g3⟩:=Lu hn hb hw hbl hl
 simp only[cT]at hf g3
 refine an hf ?_
 simp only[↓zq,zs,ae,zt,aN]
 refine⟨fun h=>⟨rfl,_,false,rfl,hw,hl⟩,fun h=>?_⟩
 repeat refine⟨by omega,?_⟩
 refine an g3 ?_
 simp only[↓zq,zs,ae,zt,aN]
 refine⟨rfl,g,true,rfl,g1,?_⟩
 rw[g1.dW [],g2]
 simpa using h
end Go.Proofs.Trees
namespace Go.Proofs.Trees
open Go Go.VL Go.RowKit
def jl(n:Nat):AV->Prop:=fun r=>∃e:E,r=.agg [.v (.string (mk e.at)),e.sp]/\e.ok/\(gh e).length<=n
theorem jl.u(n:Nat)(h:1<=n):jl n (.agg [.v (.string (mk [117])),.v (.slice none 0 0)]):=⟨.atom [117],rfl,by simp[E.ok],by simpa[gh]using h⟩
def jd(b:AV)(d:Int)(e:E)(B C:Nat):Prop:=∀p:Nat,p+C<pD->au Tryz.prog 82 [.ref 0 0,.agg [.v (.string (mk e.at)),e.sp],.v (.int .i64 d)] [.cells [b,.v (.int .i64 (p:Int))]] (ep b p C (jl B))
theorem jd.mono{b:AV}{d:Int}{e:E}{B C B' C':Nat}(h:jd b d e B C)(hB:B<=B')(hC:C<=C'):jd b d e B' C':=fun p hp=>au.mono (h p (by omega)) fun r o ⟨q,h1,h2,⟨g,h3,h4,h5⟩,h6⟩=>⟨q,h1,by omega,⟨g,h3,h4,by omega⟩,h6⟩
theorem nC(b:AV)(p C B:Nat)(h:1<=B):∃r o,ep b p C (jl B) r o:=ep.ne (jl.u B h)
theorem OM(w:Nm)(e:E)(h:w.length=1):(gh (.list [.atom w,e])).length=(gh e).length+4:=by
 simp[gh,eE];omega
theorem OU(w:Nm)(e f:E)(h:w.length=1):(gh (.list [.atom w,e,f])).length=(gh e).length+(gh f).length+5:=by
 simp[gh,eE];omega
theorem Ha{b:AV}{p q q' C B:Nat}{w:Nm}{e:E}(hw:w.length=1)(h1:p<=q)(h2:q<=p+1)(h3:q<=q')(h4:q'<=q+C)(ho:e.ok)(hl:(gh e).length<=B) :
 ep b p (C+1) (jl (B+5)) (.agg [.v (.string (mk [])),(E.list [.atom w,e]).sp]) [.cells [b,.v (.int .i64 (q':Int))]] :=
 ⟨q',by omega,by omega,⟨.list [.atom w,e],rfl,⟨by intro h;rw[h]at hw;simp at hw,ho,trivial⟩,by rw[OM w e hw];omega⟩,rfl⟩
theorem Jg(b:AV)(l:List UInt8)(hb:rX b l)(d:Int){s:Nm}(hs:s≠[]):jd b d (.atom s) 5 1:=by
 intro p hp
 refine AN _ _ _ _ _ ((a8 (.atom s)).mpr trivial) hb.has ?_
 simp only[An,eh,↓zq,zs,ae]
 refine an (zi s _ ((a8 (.atom s)).mpr trivial) hs) ?_
 simp only[↓zq,zs,ae,zt]
 refine⟨fun h=>(by cases h),fun _=>⟨fun h=>(by cases h),fun _=>⟨fun h=>(by cases h),fun _=>⟨fun _=>?_,fun _=>?_⟩⟩⟩⟩
 ·exact⟨p,ap _,by omega,jl.u 5 (by omega),rfl⟩
 ·refine aU (wj b l hb p 3 (by omega) (by decide)) (ep.ne ⟨0,rfl,fun h=>by omega,by omega⟩) ?_
  rintro r o ⟨q,h1,h2,⟨k,rfl,h3,h4⟩,rfl⟩
  have hk:k<3:=h3 (by omega)
  simp only[↓zq,zs,ae,aO,hb.has]
  refine an (A5 (k+1) k (by omega) (by omega)) ?_
  have hd:dd k=[aZ (48+k)]:=eH (by omega)
  simp only[↓zq,zs,ae,zt,hd]
  refine⟨by simp,q,h1,h2,⟨.atom ([101]++[aZ (48+k)]),rfl,by simp[E.ok],by simp[gh]⟩,rfl⟩
theorem J7(b:AV)(l:List UInt8)(hb:rX b l)(d:Int)(hd:-100000<=d/\d<=100000){n:Nm}{e:E}(hn:tD n)(he:Wf e)(hl:(E.list [.atom gN,.atom n,e]).dW<=400)(B C:Nat)(ih:-12<=d->∀g,Wf g->g.dW<=400->jd b (d-1) g B C)(hB:1<=B):jd b d (.list [.atom gN,.atom n,e]) (B+5) (C+1):=by
 intro p hp
 refine AN _ _ _ _ _ ((a8 _).mpr trivial) hb.has ?_
 have ed:IntKind.wrap .i64 (d-1)=d-1:=VL.wrap64 _ (by omega) (by omega)
 simp only[An,cT,↓zq,zs,ae,ed]
 refine an (qV gN (.atom n) e) ?_
 simp only[↓zq,zs,ae,zt]
 have hu:=MX hn he hl
 refine⟨fun h=>(by cases h),fun _=>⟨fun h=>(by cases h),fun _=>⟨fun _=>?_,fun h=>absurd rfl h⟩⟩⟩
 refine aU hu ⟨_,_,rfl,.atom [117],true,rfl,.atom (by simp),by simp[E.dW]⟩ ?_
 rintro r o ⟨rfl,g,c,rfl,g1,g2⟩
 have u:ep b p (C+1) (jl (B+5)) (.agg [.v (.string (mk [117])),.v (.slice none 0 0)]) [.cells [b,.v (.int .i64 (p:Int))]]:=⟨p,ap _,by omega,jl.u _ (by omega),rfl⟩
 simp only[↓zq,zs,ae,zt,aN]
 refine⟨fun _=>u,fun _=>⟨fun _=>u,fun hd2=>?_⟩⟩
 refine aU (ih (by omega) g g1 g2 p (by omega)) (nC b p C B hB) ?_
 rintro r o ⟨q,h1,h2,⟨f,rfl,h4,h5⟩,rfl⟩
 simp only[↓zq,zs,ae,zt,aO,hb.has,aN]
 repeat refine⟨by omega,?_⟩
 refine an (Az [102] f) ?_
 simp only[↓zq,zs,ae,zt,aO,hb.has,aN]
 have fin:=Ha (b:=b) (w:=[102]) rfl (ap p) (by omega) h1 h2 h4 h5
 first|exact fin|exact⟨by omega,fin⟩
theorem JG(b:AV)(l:List UInt8)(hb:rX b l)(d:Int)(hd:-100000<=d/\d<=100000){x y:E}(hx:Wf x)(hy:Wf y)(B1 C1 B2 C2:Nat)(ix:jd b (d-1) x B1 C1)(iy:jd b (d-1) y B2 C2)(hB:1<=B1)(hB2:1<=B2):jd b d (.list [.atom [42],x,y]) (B1+B2+5) (C1+C2+1):=by
 intro p hp
 refine AN _ _ _ _ _ ((a8 _).mpr trivial) hb.has ?_
 have ed:IntKind.wrap .i64 (d-1)=d-1:=VL.wrap64 _ (by omega) (by omega)
 have hP:=P3.of (.atom [42]) x y
 simp only[An,cT,toNat_one,bj,↓zq,zs,ae,zt,hP.1,hP.2.1,hP.2.2.1,hP.2.2.2,aN,ed]
 refine an (qV [42] x y) ?_
 simp only[↓zq,zs,ae,zt]
 refine⟨fun h=>(by cases h),fun _=>⟨fun _=>?_,fun h=>absurd rfl h⟩⟩
 refine⟨by omega,by omega,aU (ix p (by omega)) (nC b p C1 B1 hB) ?_⟩
 rintro r o ⟨q,h1,h2,⟨f,rfl,h4,h5⟩,rfl⟩
 simp only[↓zq,zs,ae,zt,aO,hb.has,aN]
 repeat refine⟨by omega,?_⟩
 refine aU (iy q (by omega)) (nC b q C2 B2 hB2) ?_
 rintro r o ⟨q',g1,g2,⟨g,rfl,g4,g5⟩,rfl⟩
 simp only[↓zq,zs,ae,zt,aO,hb.has,aN]
 repeat refine⟨by omega,?_⟩
 refine an (AC [112] f g) ?_
 simp only[↓zq,zs,ae,zt,aO,hb.has,aN]
 have fin:ep b p (C1+C2+1) (jl (B1+B2+5)) (.agg [.v (.string (mk [])),(E.list [.atom [112],f,g]).sp]) [.cells [b,.v (.int .i64 (q':Int))]]:=⟨q',by omega,by omega,⟨.list [.atom [112],f,g],rfl,⟨by simp[E.ok],h4,g4,trivial⟩,by rw[OU [112] f g rfl];omega⟩,rfl⟩
 first|exact fin|exact⟨by omega,fin⟩
theorem Gl(b:AV)(l:List UInt8)(hb:rX b l)(d:Int)(hd:-100000<=d/\d<=100000){x y:E}(hx:Wf x)(hy:Wf y)(hl:(E.list [.atom [43],x,y]).dW<=400)(B C:Nat)(ix:jd b (d-1) x B C)(iy:jd b (d-1) y B C)(hB:1<=B):jd b d (.list [.atom [43],x,y]) (B+5) (C+1):=by
 intro p hp
 refine AN _ _ _ _ _ ((a8 _).mpr trivial) hb.has ?_
 have ed:IntKind.wrap .i64 (d-1)=d-1:=VL.wrap64 _ (by omega) (by omega)
 have hP:=P3.of (.atom [43]) x y
 simp only[E.dW,E.eY]at hl
 have s1:=hx.sz
 have s2:=hy.sz
 simp only[An,cT,toNat_one,bj,↓zq,zs,ae,zt,hP.1,hP.2.1,hP.2.2.1,hP.2.2.2,aN,ed]
 refine an (qV [43] x y) ?_
 simp only[↓zq,zs,ae,zt]
 refine⟨fun _=>?_,fun h=>absurd rfl h⟩
 refine aU (wj b l hb p 2 (by omega) (by decide)) (ep.ne ⟨0,rfl,fun h=>by omega,by omega⟩) ?_
 rintro r o ⟨q,h1,h2,⟨k,rfl,_,_⟩,rfl⟩
 simp only[↓zq,zs,ae,zt,aO,hb.has,aN]
 have ex:=HH hx [] (.sl []) (.of []) (by simp;omega)
 have ey:=HH hy [] (.sl []) (.of []) (by simp;omega)
 have ax:=Ja x hx.ok (by omega)
 have ay:=Ja y hy.ok (by omega)
 rw[dU]at ax ay
 have lx:=ix q (by omega)
 have ly:=iy q (by omega)
 have t:=nC b q C B hB
 have leaf:∀(w:Nm) (q':Nat) (f:E),w.length=1->q<=q'->q'<=q+C->f.ok->(gh f).length<=B->ep b p (C+1) (jl (B+5)) (.agg [.v (.string (mk [])),(E.list [.atom w,f]).sp]) [.cells [b,.v (.int .i64 (q':Int))]]:=fun w q' f hw g1 g2 h4 h5=>Ha hw h1 h2 g1 g2 h4 h5
 repeat' first
  |intro _
  |refine⟨by omega,?_⟩
  |(
   with_reducible refine aU lx t ?_
   rintro r o ⟨q',g1,g2,⟨f,rfl,h4,h5⟩,rfl⟩
   simp only[↓zq,zs,ae,zt,aO,hb.has,aN]
   repeat refine⟨by omega,?_⟩
   refine an (Az _ f) ?_
   simp only[↓zq,zs,ae,zt,aO,hb.has,aN]
   have fin:=leaf [108] q' f rfl g1 g2 h4 h5
   first|exact fin|exact⟨by omega,fin⟩)
  |(
   with_reducible refine aU ly t ?_
   rintro r o ⟨q',g1,g2,⟨f,rfl,h4,h5⟩,rfl⟩
   simp only[↓zq,zs,ae,zt,aO,hb.has,aN]
   repeat refine⟨by omega,?_⟩
   refine an (Az _ f) ?_
   simp only[↓zq,zs,ae,zt,aO,hb.has,aN]
   have fin:=leaf [114] q' f rfl g1 g2 h4 h5
   first|exact fin|exact⟨by omega,fin⟩)
  |(with_reducible refine jD.call ex fun _=>?_;simp only[↓zq,zs,ae,zt,aN])
  |(with_reducible refine jD.call ey fun _=>?_;simp only[↓zq,zs,ae,zt,aN])
  |(with_reducible refine an ax ?_;simp only[↓zq,zs,ae,zt,aN])
  |(with_reducible refine an ay ?_;simp only[↓zq,zs,ae,zt,aN])
  |with_reducible refine aF ?_ ?_
  |(exfalso;omega)
end Go.Proofs.Trees
namespace Go.Proofs.Trees
open Go Go.VL Go.RowKit
def my:Nat->Nat
 |0=>2
 |d+1=>2*my d+15
def mv:Nat->Nat
 |0=>3
 |d+1=>2*mv d+8
theorem Mx(d:Nat):2<=my d:=by cases d<;>simp only[my]<;>omega
theorem MJ(d:Nat):3<=mv d:=by cases d<;>simp only[mv]<;>omega
theorem FH:∀d:Nat,d<=10->my d<=100000000
 |0,_=>by decide
 |1,_=>by decide
 |2,_=>by decide
 |3,_=>by decide
 |4,_=>by decide
 |5,_=>by decide
 |6,_=>by decide
 |7,_=>by decide
 |8,_=>by decide
 |9,_=>by decide
 |10,_=>by decide
 |d+11,h=>by omega
theorem Aw(b:AV)(l:List UInt8)(hb:rX b l)(p:Nat)(hp:p<2*pD):au Tryz.prog 50 [.ref 0 0] [.cells [b,.v (.int .i64 (p:Int))]] (ep b p 1 (fN 60)):=by
 refine Mh _ _ hb.has ?_
 unfold JL
 refine aU (Cc b l hb p hp _ _ (.of [_,_,_,_,_,_,_]) (by simp) (by simp)) (ep.ne ⟨_,af,rfl⟩) ?_
 rintro r o ⟨q,h1,h2,hr,rfl⟩
 obtain⟨s,rfl,hs⟩:=km.fa (n:=60) (by decide) hr
 simp only[↓zq,zs,ae,aO,hb.has]
 exact⟨q,h1,h2,⟨s,rfl,hs⟩,rfl⟩
theorem Dx(b:AV)(l:List UInt8)(hb:rX b l):∀(d:Nat),d<=10->∀(p:Nat) (ls:List (List UInt8)) (a:AV),dL a ls->(∀s,s∈ls->s.length<=2)->ls.length+d<=100->p+mv d<2*pD ->
 au Tryz.prog 107 [.ref 0 0,a,.v (.int .i64 (d:Int))] [.cells [b,.v (.int .i64 (p:Int))]] (ep b p (mv d) (fN (my d))):=by
 intro d
 induction d with
 |
  zero =>
  intro hd p ls a ha hls hll hp
  simp only[mv]at hp
  refine Js _ _ _ _ ha.1 hb.has ?_
  simp only[D5,↓zq,zs,ae,ha.len]
  refine⟨fun _=>⟨ha.1,fun hpos=>?_,fun _=>?_⟩,fun h=>by omega⟩
  ·refine aU (wj b l hb p 3 (by omega) (by decide)) (ep.ne ⟨0,rfl,fun h=>by omega,by omega⟩) ?_
   rintro r o ⟨q1,h1,h2,⟨k,rfl,h3,h4⟩,rfl⟩
   simp only[↓zq,zs,ae,aO,hb.has]
   refine⟨fun _=>⟨ha.1,?_⟩,fun _=>?_⟩
   ·refine aU (wj b l hb q1 ls.length (by omega) (by simp[pD];omega)) (ep.ne ⟨0,rfl,fun h=>by omega,by omega⟩) ?_
    rintro r o ⟨q2,g1,g2,⟨k2,rfl,g3,g4⟩,rfl⟩
    have hk:=g3 (by omega)
    simp only[↓zq,zs,ae,aO,hb.has,bS,ha.idx hk]
    have:ep b p (mv 0) (fN (my 0)) (.v (.string (mk (ls.getD k2 [])))) [.cells [b,.v (.int .i64 (q2:Int))]]:=⟨q2,by omega,by simp only[mv];omega,⟨_,rfl,by
     have:=hls (ls.getD k2 []) (by simp[aa,hk]);simp only[my];omega⟩,rfl⟩
    refine⟨⟨ha.1,by omega⟩,?_⟩
    repeat (first|exact this|refine⟨by omega,?_⟩)
   ·refine aU (Cc b l hb q1 (by omega) _ _ (.of [_,_,_,_,_,_]) (by simp) (by simp)) (ep.ne ⟨_,af,rfl⟩) ?_
    rintro r o ⟨q2,g1,g2,hr,rfl⟩
    obtain⟨s,rfl,hs⟩:=km.fa (n:=2) (by decide) hr
    simp only[↓zq,zs,ae,aO,hb.has]
    exact⟨q2,by omega,by simp only[mv];omega,⟨s,rfl,by simp only[my];omega⟩,rfl⟩
  ·refine aU (Cc b l hb p (by omega) _ _ (.of [_,_,_,_,_,_]) (by simp) (by simp)) (ep.ne ⟨_,af,rfl⟩) ?_
   rintro r o ⟨q2,g1,g2,hr,rfl⟩
   obtain⟨s,rfl,hs⟩:=km.fa (n:=2) (by decide) hr
   simp only[↓zq,zs,ae,aO,hb.has]
   exact⟨q2,by omega,by simp only[mv];omega,⟨s,rfl,by simp only[my];omega⟩,rfl⟩
 |
  succ d ih =>
  intro hd p ls a ha hls hll hp
  simp only[mv]at hp
  have hL:=Mx d
  have hC:=MJ d
  have ih:=ih (by omega)
  have hL8:=FH d (by omega)
  have ed:IntKind.wrap .i64 (((d+1:Nat):Int)-1)=(d:Int):=by rw[VL.wrap64]<;>omega
  refine Js _ _ _ _ ha.1 hb.has ?_
  simp only[D5,↓zq,zs,ae,ha.len,ed]
  refine⟨fun h=>by omega,fun _=>?_⟩
  refine aU (wj b l hb p 4 (by omega) (by decide)) (ep.ne ⟨0,rfl,fun h=>by omega,by omega⟩) ?_
  rintro r o ⟨q0,a1,a2,⟨k0,rfl,_,_⟩,rfl⟩
  simp only[↓zq,zs,ae,aO,hb.has]
  refine⟨fun _=>⟨ha.1,fun hpos=>?_,fun _=>?_⟩,fun _=>?_⟩
  ·refine aU (wj b l hb q0 3 (by omega) (by decide)) (ep.ne ⟨0,rfl,fun h=>by omega,by omega⟩) ?_
   rintro r o ⟨q1,h1,h2,⟨k,rfl,h3,h4⟩,rfl⟩
   simp only[↓zq,zs,ae,aO,hb.has]
   refine⟨fun _=>⟨ha.1,?_⟩,fun _=>?_⟩
   ·refine aU (wj b l hb q1 ls.length (by omega) (by simp[pD];omega)) (ep.ne ⟨0,rfl,fun h=>by omega,by omega⟩) ?_
    rintro r o ⟨q2,g1,g2,⟨k2,rfl,g3,g4⟩,rfl⟩
    have hk:=g3 (by omega)
    simp only[↓zq,zs,ae,aO,hb.has,bS,ha.idx hk]
    have:ep b p (mv (d+1)) (fN (my (d+1))) (.v (.string (mk (ls.getD k2 [])))) [.cells [b,.v (.int .i64 (q2:Int))]]:=⟨q2,by omega,by simp only[mv];omega,⟨_,rfl,by
     have:=hls (ls.getD k2 []) (by simp[aa,hk]);simp only[my];omega⟩,rfl⟩
    refine⟨⟨ha.1,by omega⟩,?_⟩
    repeat (first|exact this|refine⟨by omega,?_⟩)
   ·refine aU (Cc b l hb q1 (by omega) _ _ (.of [_,_,_,_,_,_]) (by simp) (by simp)) (ep.ne ⟨_,af,rfl⟩) ?_
    rintro r o ⟨q2,g1,g2,hr,rfl⟩
    obtain⟨s,rfl,hs⟩:=km.fa (n:=2) (by decide) hr
    simp only[↓zq,zs,ae,aO,hb.has]
    exact⟨q2,by omega,by simp only[mv];omega,⟨s,rfl,by simp only[my];omega⟩,rfl⟩
  ·refine aU (Cc b l hb q0 (by omega) _ _ (.of [_,_,_,_,_,_]) (by simp) (by simp)) (ep.ne ⟨_,af,rfl⟩) ?_
   rintro r o ⟨q2,g1,g2,hr,rfl⟩
   obtain⟨s,rfl,hs⟩:=km.fa (n:=2) (by decide) hr
   simp only[↓zq,zs,ae,aO,hb.has]
   exact⟨q2,by omega,by simp only[mv];omega,⟨s,rfl,by simp only[my];omega⟩,rfl⟩
  ·refine aU (wj b l hb q0 5 (by omega) (by decide)) (ep.ne ⟨0,rfl,fun h=>by omega,by omega⟩) ?_
   rintro r o ⟨q1,b1,b2,⟨k1,rfl,c3,_⟩,rfl⟩
   have hk1:=c3 (by omega)
   obtain rfl|rfl|rfl|rfl|rfl:k1=0\/k1=1\/k1=2\/k1=3\/k1=4:=by omega
   ·simp only[↓zq,zs,ae,aO,hb.has]
    refine⟨fun _=>?_,fun h=>absurd rfl h⟩
    refine aU (ih q1 ls a ha hls (by omega) (by omega)) (ep.ne ⟨[],rfl,by simp⟩) ?_
    rintro r o ⟨q2,d1,d2,⟨s1,rfl,d3⟩,rfl⟩
    simp only[↓zq,zs,ae,zt,aO,hb.has,al]
    repeat refine⟨by first|omega|(simp only[al,aw,aG];omega),?_⟩
    refine aU (ih q2 ls a ha hls (by omega) (by omega)) (ep.ne ⟨[],rfl,by simp⟩) ?_
    rintro r o ⟨q3,e1,e2,⟨s2,rfl,e3⟩,rfl⟩
    simp only[↓zq,zs,ae,zt,aO,hb.has,al]
    have fin:∀s:List UInt8,s.length<=my (d+1)->ep b p (mv (d+1)) (fN (my (d+1))) (.v (.string (mk s))) [.cells [b,.v (.int .i64 (q3:Int))]]:=fun s hs=>⟨q3,by omega,by simp only[mv];omega,⟨s,rfl,hs⟩,rfl⟩
    repeat (first|exact fin _ (by simp only[al,aw,aG,my];omega)|refine⟨by first|omega|(simp only[al,aw,aG];omega),?_⟩)
   ·simp only[↓zq,zs,ae,aO,hb.has]
    refine⟨fun h=>by omega,fun _=>⟨fun _=>?_,fun h=>absurd rfl h⟩⟩
    refine aU (ih q1 ls a ha hls (by omega) (by omega)) (ep.ne ⟨[],rfl,by simp⟩) ?_
    rintro r o ⟨q2,d1,d2,⟨s1,rfl,d3⟩,rfl⟩
    simp only[↓zq,zs,ae,zt,aO,hb.has,al]
    repeat refine⟨by first|omega|(simp only[al,aw,aG];omega),?_⟩
    refine aU (ih q2 ls a ha hls (by omega) (by omega)) (ep.ne ⟨[],rfl,by simp⟩) ?_
    rintro r o ⟨q3,e1,e2,⟨s2,rfl,e3⟩,rfl⟩
    simp only[↓zq,zs,ae,zt,aO,hb.has,al]
    have fin:∀s:List UInt8,s.length<=my (d+1)->ep b p (mv (d+1)) (fN (my (d+1))) (.v (.string (mk s))) [.cells [b,.v (.int .i64 (q3:Int))]]:=fun s hs=>⟨q3,by omega,by simp only[mv];omega,⟨s,rfl,hs⟩,rfl⟩
    repeat (first|exact fin _ (by simp only[al,aw,aG,my];omega)|refine⟨by first|omega|(simp only[al,aw,aG];omega),?_⟩)
   ·simp only[↓zq,zs,ae,aO,hb.has]
    refine⟨fun h=>by omega,fun _=>⟨fun h=>by omega,fun _=>⟨fun _=>?_,fun h=>absurd rfl h⟩⟩⟩
    refine aU (ih q1 ls a ha hls (by omega) (by omega)) (ep.ne ⟨[],rfl,by simp⟩) ?_
    rintro r o ⟨q2,d1,d2,⟨s1,rfl,d3⟩,rfl⟩
    simp only[↓zq,zs,ae,zt,aO,hb.has,al]
    repeat refine⟨by first|omega|(simp only[al,aw,aG];omega),?_⟩
    refine aU (ih q2 ls a ha hls (by omega) (by omega)) (ep.ne ⟨[],rfl,by simp⟩) ?_
    rintro r o ⟨q3,e1,e2,⟨s2,rfl,e3⟩,rfl⟩
    simp only[↓zq,zs,ae,zt,aO,hb.has,al]
    have fin:∀s:List UInt8,s.length<=my (d+1)->ep b p (mv (d+1)) (fN (my (d+1))) (.v (.string (mk s))) [.cells [b,.v (.int .i64 (q3:Int))]]:=fun s hs=>⟨q3,by omega,by simp only[mv];omega,⟨s,rfl,hs⟩,rfl⟩
    repeat (first|exact fin _ (by simp only[al,aw,aG,my];omega)|refine⟨by first|omega|(simp only[al,aw,aG];omega),?_⟩)
   ·simp only[↓zq,zs,ae,aO,hb.has]
    refine⟨fun h=>by omega,fun _=>⟨fun h=>by omega,fun _=>⟨fun h=>by omega,fun _=>⟨fun _=>?_,fun h=>absurd rfl h⟩⟩⟩⟩
    refine aU (ih q1 ls a ha hls (by omega) (by omega)) (ep.ne ⟨[],rfl,by simp⟩) ?_
    rintro r o ⟨q2,d1,d2,⟨s1,rfl,d3⟩,rfl⟩
    simp only[↓zq,zs,ae,zt,aO,hb.has,al]
    repeat refine⟨by first|omega|(simp only[al,aw,aG];omega),?_⟩
    refine aU (ih q2 ls a ha hls (by omega) (by omega)) (ep.ne ⟨[],rfl,by simp⟩) ?_
    rintro r o ⟨q3,e1,e2,⟨s2,rfl,e3⟩,rfl⟩
    simp only[↓zq,zs,ae,zt,aO,hb.has,al]
    have fin:∀s:List UInt8,s.length<=my (d+1)->ep b p (mv (d+1)) (fN (my (d+1))) (.v (.string (mk s))) [.cells [b,.v (.int .i64 (q3:Int))]]:=fun s hs=>⟨q3,by omega,by simp only[mv];omega,⟨s,rfl,hs⟩,rfl⟩
    repeat (first|exact fin _ (by simp only[al,aw,aG,my];omega)|refine⟨by first|omega|(simp only[al,aw,aG];omega),?_⟩)
   ·simp only[↓zq,zs,ae,aO,hb.has]
    refine⟨fun h=>by omega,fun _=>⟨fun h=>by omega,fun _=>⟨fun h=>by omega,fun _=>⟨fun h=>by omega,fun _=>?_⟩⟩⟩⟩
    refine aU (Cc b l hb q1 (by omega) _ _ (.of [_,_,_]) (by simp) (by simp)) (ep.ne ⟨_,af,rfl⟩) ?_
    rintro r o ⟨q2,g1,g2,hr,rfl⟩
    obtain⟨s,rfl,hs⟩:=km.fa (n:=2) (by decide) hr
    simp only[↓zq,zs,ae,zt,aO,hb.has]
    repeat refine⟨by first|omega|(simp only[al,aw,aG];omega),?_⟩
    refine an (xA ls a ha s (by omega)) ?_
    simp only[↓zq,zs,ae]
    refine aU (ih q2 (ls++[s]) _ (.of _) (fun w hw=>by
     rcases aI.1 hw with hw|hw
     ·exact hls w hw
     ·simp at hw;rw[hw];exact hs) (by simp;omega) (by omega)) (ep.ne ⟨[],rfl,by simp⟩) ?_
    rintro r o ⟨q3,e1,e2,⟨s2,rfl,e3⟩,rfl⟩
    simp only[↓zq,zs,ae,zt,aO,hb.has,al]
    have fin:∀s:List UInt8,s.length<=my (d+1)->ep b p (mv (d+1)) (fN (my (d+1))) (.v (.string (mk s))) [.cells [b,.v (.int .i64 (q3:Int))]]:=fun s hs=>⟨q3,by omega,by simp only[mv];omega,⟨s,rfl,hs⟩,rfl⟩
    repeat (first|exact fin _ (by simp only[al,aw,aG,my];omega)|refine⟨by first|omega|(simp only[al,aw,aG];omega),?_⟩)
end Go.Proofs.Trees
namespace Go.Proofs.Trees
open Go Go.VL Go.RowKit
theorem ep.mono{b:AV}{p c c':Nat}{X Y:AV->Prop}(hc:c<=c')(h:∀r,X r->Y r){r:AV}{o:List Ob}(hr:ep b p c X r o):ep b p c' Y r o:=by
 obtain⟨q,h1,h2,h3,h4⟩:=hr;exact⟨q,h1,by omega,h r h3,h4⟩
theorem fN.le{n m:Nat}(h:n<=m){r:AV}(hr:fN n r):fN m r:=by obtain⟨s,h1,h2⟩:=hr;exact⟨s,h1,by omega⟩
theorem L3(b:AV)(l:List UInt8)(hb:rX b l)(p:Nat)(hp:p<pD):au Tryz.prog 106 [.ref 0 0] [.cells [b,.v (.int .i64 (p:Int))]] (ep b p 100 (fN 200)):=by
 refine N3 _ _ hb.has ?_
 unfold I8
 have hfar:pD=1000000000000000:=rfl
 refine aU (wj b l hb p 12 (by omega) (by decide)) (ep.ne ⟨0,rfl,fun h=>by omega,by omega⟩) ?_
 rintro r o ⟨q,h1,h2,⟨k,rfl,_,_⟩,rfl⟩
 have kn:∀(c m:Nat) (r:AV) (o:List Ob),c<=90->m<=200->ep b q c (fN m) r o->∃q':Nat,∃s:List UInt8,r=.v (.string (mk s))/\o=[.cells [b,.v (.int .i64 (q':Int))]]/\ep b p 100 (fN 200) (.v (.string (mk s))) [.cells [b,.v (.int .i64 (q':Int))]]:=by
  rintro c m r o hc hm ⟨q',g1,g2,⟨s,rfl,hs⟩,rfl⟩
  exact⟨q',s,rfl,rfl,q',by omega,by omega,⟨s,rfl,by omega⟩,rfl⟩
 simp only[↓zq,zs,ae,aO,hb.has]
 refine⟨fun _=>?_,fun _=>⟨fun _=>?_,fun _=>⟨fun _=>?_,fun _=>⟨fun _=>?_,fun _=>⟨fun _=>?_,fun _=>?_⟩⟩⟩⟩⟩
 ·refine aU (Cc b l hb q (by omega) _ _ (.of [_,_,_,_,_,_,_,_,_]) (by simp) (by simp)) (ep.ne ⟨_,af,rfl⟩) ?_
  intro r o hr
  obtain⟨q',s,rfl,rfl,hd⟩:=kn 1 20 r o (by omega) (by omega) (hr.mono (ap _) fun r h=>km.fa (n:=20) (by decide) h)
  simp only[↓zq,zs,ae,aO,hb.has];exact hd
 ·refine aU (Aw b l hb q (by omega)) (ep.ne ⟨[],rfl,by simp⟩) ?_
  intro r o hr
  obtain⟨q',s,rfl,rfl,hd⟩:=kn _ _ r o (by omega) (by omega) hr
  simp only[↓zq,zs,ae,aO,hb.has];exact hd
 ·refine aU (Aw b l hb q (by omega)) (ep.ne ⟨[],rfl,by simp⟩) ?_
  intro r o hr
  obtain⟨q',s,rfl,rfl,hd⟩:=kn _ _ r o (by omega) (by omega) hr
  simp only[↓zq,zs,ae,aO,hb.has];exact hd
 ·refine aU (Aw b l hb q (by omega)) (ep.ne ⟨[],rfl,by simp⟩) ?_
  intro r o hr
  obtain⟨q',s,rfl,rfl,hd⟩:=kn _ _ r o (by omega) (by omega) hr
  simp only[↓zq,zs,ae,aO,hb.has];exact hd
 ·refine aU (Dx b l hb 2 (by omega) q [[116],[116,49]] _ (dL.of [[116],[116,49]]) (by decide) (by simp) (by simp[mv];omega)) (ep.ne ⟨[],rfl,by simp⟩) ?_
  intro r o hr
  obtain⟨q',s,rfl,rfl,hd⟩:=kn _ _ r o (by simp[mv]) (by simp[my]) hr
  simp only[↓zq,zs,ae,aO,hb.has];exact hd
 ·refine aU (Dx b l hb 3 (by omega) q [] _ (dL.of []) (by simp) (by simp) (by simp[mv];omega)) (ep.ne ⟨[],rfl,by simp⟩) ?_
  intro r o hr
  obtain⟨q',s,rfl,rfl,hd⟩:=kn _ _ r o (by simp[mv]) (by simp[my]) hr
  simp only[↓zq,zs,ae,aO,hb.has];exact hd
def wV(a:AV):Prop:=LK.sl.has a/\∃l:List UInt8,a.aM=oS l
def K5(r:AV)(o:List Ob):Prop:=∃(b:AV) (l:List UInt8),rX b l/\r=.ref 0 0/\o=[.cells [b,.v (.int .i64 0)]]
theorem K5.ne:∃r o,K5 r o:=⟨_,_,.v (.slice none 0 0),[],⟨(bg).mpr trivial,rfl,by simp⟩,rfl,rfl⟩
theorem Mc(a:AV)(ha:wV a):au Tryz.prog 27 [a] [] K5:=by
 obtain⟨hs,l,hl⟩:=ha
 have hln:a.aM.length=l.length:=by rw[hl];simp[oS]
 refine NQ _ hs ?_
 simp only[Gj,↓zq,zs,ae,hln]
 refine⟨hs,fun h=>⟨⟨hs,by omega⟩,?_⟩,fun h=>?_⟩
 ·refine⟨_,l.take 2000,⟨(bU _).mpr trivial,?_,?_⟩,rfl,rfl⟩
  ·rw[eD,hl];simp[oS]
  ·simp;omega
 ·exact⟨a,l,⟨hs,hl,by omega⟩,rfl,rfl⟩
end Go.Proofs.Trees
namespace Go.Proofs.Trees
open Go Go.VL Go.RowKit
theorem Ag(b:AV)(l:List UInt8)(hb:rX b l){e:E}(h:Wf e):∀d:Int,d<=-13->-50000+(e.sz:Int)<=d->e.dW<=400->jd b d e (5*e.sz) e.sz:=by
 induction h with
 |
  @atom s hs =>
  intro d h1 h2 h3
  exact(Jg b l hb d hs).mono (by simp[E.sz]) (by simp[E.sz])
 |
  @plus x y hx hy i1 i2 =>
  intro d h1 h2 h3
  have h4:=h3
  simp only[E.sz,E.iM,E.dW,E.eY]at h2 h4 |-
  exact(Gl b l hb d (by omega) hx hy h3 (5*(x.sz+y.sz)+1) (x.sz+y.sz) ((i1 (d-1) (by omega) (by omega) (by omega)).mono (by omega) (by omega)) ((i2 (d-1) (by omega) (by omega) (by omega)).mono (by omega) (by omega)) (by omega)).mono (by omega) (by omega)
 |
  @times x y hx hy i1 i2 =>
  intro d h1 h2 h3
  have h4:=h3
  simp only[E.sz,E.iM,E.dW,E.eY]at h2 h4 |-
  exact(JG b l hb d (by omega) hx hy (5*x.sz+1) x.sz (5*y.sz+1) y.sz ((i1 (d-1) (by omega) (by omega) (by omega)).mono (by omega) (by omega)) ((i2 (d-1) (by omega) (by omega) (by omega)).mono (by omega) (by omega)) (by omega) (by omega)).mono (by omega) (by omega)
 |
  @rc n x hn hx i =>
  intro d h1 h2 h3
  simp only[E.sz,E.iM]at h2 |-
  exact(J7 b l hb d (by omega) hn hx h3 1 0 (fun h=>absurd h (by omega)) (by omega)).mono (by omega) (by omega)
def og:Nat->Nat
 |0=>6100
 |n+1=>2*og n+5
theorem Dr:∀n,6100<=og n
 |0=>ap _
 |n+1=>by have:=Dr n;simp only[og];omega
theorem uY:∀n k:Nat,og (n+k)+5=2 ^ k*(og n+5)
 |n,0=>by simp
 |
  n,k+1=>by
  have:=uY n k
  rw[show n+(k+1)=n+k+1 from rfl,og,Nat.pow_succ,Nat.mul_comm (2 ^ k) 2,Nat.mul_assoc,<-this];omega
theorem yY{n m:Nat}(h:n<=m):og n<=og m:=by
 obtain⟨k,rfl⟩:=Nat.exists_eq_add_of_le h
 have:=uY n k
 have h2:1*(og n+5)<=2 ^ k*(og n+5):=aS _ Nat.one_le_two_pow
 omega
theorem Kx:og 22<=30000000000:=by
 have:=uY 0 22
 simp only[aP]at this
 have h0:og 0=6100:=rfl
 rw[h0]at this
 omega
theorem vZ(b:AV)(l:List UInt8)(hb:rX b l):∀n:Nat,n<=40->∀e,Wf e->e.dW<=400->jd b ((n:Int)-13) e (og n) (og n)
 |
  0,hn,e,h,hl=>by
  have:=h.sz
  exact(Ag b l hb h _ (by simp) (by simp;omega) hl).mono (by simp only[og];omega) (by simp only[og];omega)
 |
  n+1,hn,e,h,hl=>by
  have hb1:=Dr n
  have ih:∀g,Wf g->g.dW<=400->jd b (((n+1:Nat):Int)-13-1) g (og n) (og n):=by
   rw[show ((n+1:Nat):Int)-13-1=(n:Int)-13 by omega];exact vZ b l hb n (by omega)
  cases h with
  |@atom s hs=>exact(Jg b l hb _ hs).mono (by simp only[og];omega) (by simp only[og];omega)
  |
   @plus x y hx hy =>
   have h4:=hl
   simp only[E.dW,E.eY]at h4
   exact(Gl b l hb _ (by omega) hx hy hl _ _ (ih x hx (by omega)) (ih y hy (by omega)) (by omega)).mono (by simp only[og];omega) (by simp only[og];omega)
  |
   @times x y hx hy =>
   simp only[E.dW,E.eY]at hl
   exact(JG b l hb _ (by omega) hx hy _ _ _ _ (ih x hx (by omega)) (ih y hy (by omega)) (by omega) (by omega)).mono (by simp only[og];omega) (by simp only[og];omega)
  |@rc m x hm hx=>exact(J7 b l hb _ (by omega) hm hx hl _ _ (fun _=>ih) (by omega)).mono (by simp only[og];omega) (by simp only[og];omega)
theorem JQ(b:AV)(l:List UInt8)(hb:rX b l)(p:Nat)(hp:p<100000000000000)(s:Nm):au Tryz.prog 52 [.ref 0 0,.v (.string (mk s))] [.cells [b,.v (.int .i64 (p:Int))]] (ep b p 40000000000 (fN 40000000000)):=by
 refine Nb _ _ _ hb.has ?_
 have hfar:pD=1000000000000000:=rfl
 have oneL:∀(q:Nat) (r:AV) (o:List Ob),p<=q->q<=p+1->ep b q 1 (km [[],[117],[101,48],[101,48,48],[101,49,48,48],[40,108,32,117,41],[40,112,32,117,41],[40,102,32,40,108,32,117,41,41],[40,120,32,117,41],[40,108,32,32,117,41]]) r o->∃q':Nat,∃t:List UInt8,r=.v (.string (mk t))/\o=[.cells [b,.v (.int .i64 (q':Int))]]/\ep b p 40000000000 (fN 40000000000) (.v (.string (mk t))) [.cells [b,.v (.int .i64 (q':Int))]]:=by
  rintro q r o h1 h2 ⟨q',g1,g2,hr,rfl⟩
  obtain⟨t,rfl,ht⟩:=km.fa (n:=20) (by decide) hr
  exact⟨q',t,rfl,rfl,q',by omega,by omega,⟨t,rfl,by omega⟩,rfl⟩
 unfold HX
 refine aU (Fw s) (l4.ne _ _ (fun h=>h)) ?_
 rintro r o ⟨c,d,hd,rfl,hh⟩
 have hhas:bY [.str,.sl] [.v (.string (mk c)),d] 0:=by simp[bY,eI,hd]
 simp only[↓zq,zs,ae,zt]
 refine⟨hhas,fun h=>?_,fun h=>?_⟩
 ·refine aU (Cc b l hb p (by omega) _ _ (.of [_,_,_,_,_,_,_,_,_,_]) (by simp) (by simp)) (ep.ne ⟨_,af,rfl⟩) ?_
  intro r o hr
  obtain⟨q',t,rfl,rfl,hd⟩:=oneL p r o (ap _) (by omega) hr
  simp only[↓zq,zs,ae,aO,hb.has];exact hd
 ·obtain⟨e,he,hce⟩:=hh (by simpa using h)
  obtain⟨t,h1,hA,h3,h4,h5,_⟩:=gf he
  rw[dU]at hce
  simp only[AV.agg.injEq,List.cons.injEq,AV.v.injEq,Value.string.injEq,and_true]at hce
  obtain⟨hc1,rfl⟩:=hce
  have hc2:=vE hc1
  subst hc2
  obtain⟨hw,hwt⟩:=jI e [] t hA.ok (by simp) hA.ty
  have hats:e.dW<=400:=by rw[hw.dW [],hwt];exact h5
  have hsz:=hw.sz
  refine aU (wj b l hb p 16 (by omega) (by decide)) (ep.ne ⟨0,rfl,fun h=>by omega,by omega⟩) ?_
  rintro r o ⟨q,h1,h2,⟨k,rfl,_,_⟩,rfl⟩
  simp only[↓zq,zs,ae,aO,hb.has]
  refine⟨fun _=>?_,fun _=>?_⟩
  ·refine aU (Cc b l hb q (by omega) _ _ (.of [_,_,_,_,_,_,_,_,_,_]) (by simp) (by simp)) (ep.ne ⟨_,af,rfl⟩) ?_
   intro r o hr
   obtain⟨q',t,rfl,rfl,hd⟩:=oneL q r o h1 h2 hr
   simp only[↓zq,zs,ae,aO,hb.has];exact hd
  ·obtain⟨w1,w2,_⟩:=yy (os:=[]) hw
   have hap:=GJ hw (.v (.slice none 0 0)) [] ⟨(bg).mpr trivial,rfl⟩ (by omega) (by simp) (by simp)
   refine an hap ?_
   simp only[↓zq,zs,ae,zt,aN]
   repeat refine⟨by omega,?_⟩
   have hats2:(CD e []).dW<=400:=by rw[w1.dW [],w2,<-hw.dW []];exact hats
   refine aU (wj b l hb q 5 (by omega) (by decide)) (ep.ne ⟨0,rfl,fun h=>by omega,by omega⟩) ?_
   rintro r o ⟨q1,g1,g2,⟨k1,rfl,c3,_⟩,rfl⟩
   have hk1:=c3 (by omega)
   simp only[↓zq,zs,ae,zt,aO,hb.has,aN]
   have ed:IntKind.wrap .i64 (5+(k1:Int))=((18+k1:Nat):Int)-13:=by rw[VL.wrap64 _ (by omega) (by omega)];omega
   have hB:=Kx
   have hB2:og (18+k1)<=og 22:=yY (by omega)
   have hB3:=Dr (18+k1)
   rw[ed]
   refine aU (vZ b l hb (18+k1) (by omega) (CD e []) w1 hats2 q1 (by omega)) (nC b q1 _ _ (by omega)) ?_
   rintro r o ⟨q2,d1,d2,⟨f,rfl,f1,f2⟩,rfl⟩
   simp only[↓zq,zs,ae,zt,aO,hb.has,aN]
   repeat refine⟨by omega,?_⟩
   have ht:=Bk (f.sz+1) f (by omega) f1 (by omega)
   rw[dU]at ht
   refine an ht ?_
   simp only[↓zq,zs,ae,zt,aO,hb.has,aN]
   exact⟨q2,by omega,by omega,⟨gh f,rfl,by omega⟩,rfl⟩
theorem N5(b:AV)(l:List UInt8)(hb:rX b l)(p:Nat)(hp:p<100000000000000):au Tryz.prog 81 [.ref 0 0] [.cells [b,.v (.int .i64 (p:Int))]] (ep b p 200 (fN 200)):=by
 refine Np _ _ hb.has ?_
 unfold Kt
 have hfar:pD=1000000000000000:=rfl
 refine aU (wj b l hb p 8 (by omega) (by decide)) (ep.ne ⟨0,rfl,fun h=>by omega,by omega⟩) ?_
 rintro r o ⟨q,h1,h2,⟨k,rfl,_,_⟩,rfl⟩
 have kn:∀(c m:Nat) (r:AV) (o:List Ob),c<=190->m<=200->ep b q c (fN m) r o->∃q':Nat,∃s:List UInt8,r=.v (.string (mk s))/\o=[.cells [b,.v (.int .i64 (q':Int))]]/\ep b p 200 (fN 200) (.v (.string (mk s))) [.cells [b,.v (.int .i64 (q':Int))]]:=by
  rintro c m r o hc hm ⟨q',g1,g2,⟨s,rfl,hs⟩,rfl⟩
  exact⟨q',s,rfl,rfl,q',by omega,by omega,⟨s,rfl,by omega⟩,rfl⟩
 have sh:=Dx b l hb 3 (by omega) q [] _ (dL.of []) (by simp) (by simp) (by simp[mv];omega)
 have ty:=L3 b l hb q (by omega)
 have kw:=Aw b l hb q (by omega)
 simp only[↓zq,zs,ae,aO,hb.has]
 refine⟨fun _=>?_,fun _=>⟨fun _=>?_,fun _=>⟨fun _=>?_,fun _=>⟨fun _=>?_,fun _=>?_⟩⟩⟩⟩
 ·refine aU ty (ep.ne ⟨[],rfl,by simp⟩) ?_
  intro r o hr
  obtain⟨q',s,rfl,rfl,hd⟩:=kn _ _ r o (by omega) (by omega) hr
  simp only[↓zq,zs,ae,aO,hb.has];exact hd
 ·refine aU sh (ep.ne ⟨[],rfl,by simp⟩) ?_
  intro r o hr
  obtain⟨q',s,rfl,rfl,hd⟩:=kn _ _ r o (by simp[mv]) (by simp[my]) hr
  simp only[↓zq,zs,ae,aO,hb.has];exact hd
 ·refine aU sh (ep.ne ⟨[],rfl,by simp⟩) ?_
  intro r o hr
  obtain⟨q',s,rfl,rfl,hd⟩:=kn _ _ r o (by simp[mv]) (by simp[my]) hr
  simp only[↓zq,zs,ae,aO,hb.has];exact hd
 ·refine aU sh (ep.ne ⟨[],rfl,by simp⟩) ?_
  intro r o hr
  obtain⟨q',s,rfl,rfl,hd⟩:=kn _ _ r o (by simp[mv]) (by simp[my]) hr
  simp only[↓zq,zs,ae,aO,hb.has];exact hd
 ·refine aU kw (ep.ne ⟨[],rfl,by simp⟩) ?_
  intro r o hr
  obtain⟨q',s,rfl,rfl,hd⟩:=kn _ _ r o (by omega) (by omega) hr
  simp only[↓zq,zs,ae,aO,hb.has];exact hd
def DZ:AV->Prop:=fun r=>∃s t:Nm,r=.da [.v (.string (mk s)),.v (.string (mk t))]
theorem NF(b:AV)(l:List UInt8)(hb:rX b l)(p:Nat)(hp:p<10000000000000):au Tryz.prog 51 [.ref 0 0] [.cells [b,.v (.int .i64 (p:Int))]] (ep b p 50000000000 DZ):=by
 refine Mf _ _ hb.has ?_
 unfold IA
 refine aU (N5 b l hb p (by omega)) (ep.ne ⟨[],rfl,by simp⟩) ?_
 rintro r o ⟨q,h1,h2,⟨s,rfl,_⟩,rfl⟩
 simp only[↓zq,zs,ae,aO,hb.has]
 refine aU (JQ b l hb q (by omega) s) (ep.ne ⟨[],rfl,by simp⟩) ?_
 rintro r o ⟨q1,g1,g2,⟨t,rfl,_⟩,rfl⟩
 simp only[↓zq,zs,ae,aO,hb.has]
 exact⟨q1,by omega,by omega,⟨s,t,rfl⟩,rfl⟩
theorem NJ(b:AV)(l:List UInt8)(hb:rX b l)(p:Nat)(hp:p<1000000000000):au Tryz.prog 28 [.ref 0 0] [.cells [b,.v (.int .i64 (p:Int))]] (ep b p 60000000000 DZ):=by
 refine MH _ _ hb.has ?_
 unfold Ki
 have hfar:pD=1000000000000000:=rfl
 refine aU (Aw b l hb p (by omega)) (ep.ne ⟨[],rfl,by simp⟩) ?_
 rintro r o ⟨q,h1,h2,⟨s,rfl,_⟩,rfl⟩
 simp only[↓zq,zs,ae,aO,hb.has]
 refine aU (wj b l hb q 12 (by omega) (by decide)) (ep.ne ⟨0,rfl,fun h=>by omega,by omega⟩) ?_
 rintro r o ⟨q1,g1,g2,⟨k,rfl,_,_⟩,rfl⟩
 simp only[↓zq,zs,ae,aO,hb.has]
 refine⟨fun _=>?_,fun _=>?_⟩
 ·refine aU (NF b l hb q1 (by omega)) (ep.ne ⟨[],[],rfl⟩) ?_
  rintro r o ⟨q2,e1,e2,⟨x,y,rfl⟩,rfl⟩
  simp only[↓zq,zs,ae,zt,aO,hb.has]
  exact⟨q2,by omega,by omega,⟨x,y,rfl⟩,rfl⟩
 ·refine aU (JQ b l hb q1 (by omega) s) (ep.ne ⟨[],rfl,by simp⟩) ?_
  rintro r o ⟨q2,e1,e2,⟨t,rfl,_⟩,rfl⟩
  simp only[↓zq,zs,ae,aO,hb.has]
  exact⟨q2,by omega,by omega,⟨s,t,rfl⟩,rfl⟩
end Go.Proofs.Trees
namespace Go.Proofs.Trees
open Go Go.VL Go.RowKit
theorem Jy(a b:AV)(l r:List Int)(ha:gJ a l)(hb:gJ b r)(he:l.length=r.length)(hl:l.length<=2000000):∀(m i:Nat),i+m=l.length->l.take i=r.take i->E7 [a,b,.v (.int .i64 (i:Int))] [] (pI (if l=r then(1,[],[])else(2,[.v (.bool false)],[])))
 |
  0,i,hi,ht=>by
  refine Jt _ _ _ ?_
  have:l=r:=by rw[List.take_of_length_le (by omega),List.take_of_length_le (by omega)]at ht;exact ht
  simp only[EE,↓zq,zs,ae,ha.len]
  exact⟨ha.1,hb.1,ha.1,fun h=>by omega,fun _=>by simp[pI,this]⟩
 |
  m+1,i,hi,ht=>by
  have hlt:i<l.length:=by omega
  have hlt2:i<r.length:=by omega
  refine Jt _ _ _ ?_
  simp only[EE,↓zq,zs,ae,zt,ha.len,hb.len,ha.idx hlt,hb.idx hlt2,bS]
  refine⟨ha.1,hb.1,ha.1,fun _=>⟨⟨ha.1,by omega,by omega⟩,by omega,⟨hb.1,by omega,by omega⟩,by omega,fun h=>?_,fun h=>?_⟩,fun h=>by omega⟩
  ·have:¬l=r:=fun e=>by subst e;exact h rfl
   simp[pI,this]
  ·rw[bp i (by omega)]
   refine Jy a b l r ha hb he hl m (i+1) (by omega) ?_
   have hg:l[i]=r[i]:=by simpa[aa,hlt,hlt2]using h
   rw[List.take_succ_eq_append_getElem hlt,List.take_succ_eq_append_getElem hlt2,ht,hg]
theorem CZ(a b:AV)(l r:List Int)(ha:gJ a l)(hb:gJ b r)(hl:l.length<=2000000):au Tryz.prog 13 [a,b] [] (bK (.v (.bool (decide (l=r))))):=by
 refine L0 _ _ ha.1 hb.1 ?_
 simp only[Jv,↓zq,zs,ae,ha.len,hb.len]
 refine⟨ha.1,hb.1,fun h=>?_,fun h=>?_⟩
 ·have:¬l=r:=fun e=>by subst e;exact h rfl
  simp[this,bK]
 ·refine gK (Jy a b l r ha hb (by omega) hl l.length 0 (by omega) (by simp)) (fun ys o e=>?_) (fun ys o e=>?_)
  ·split at e
   ·rename_i q;simp[↓zq,zs,ae,bK,q]
   ·cases e
  ·split at e
   ·cases e
   ·rename_i q;cases e;simp[↓zq,zs,ae,bK,q]
abbrev pZ(p:List Nat):List Int:=p.map Int.ofNat
theorem lY(p:List Nat):gJ (lj p) (pZ p):=⟨by rw[lV];trivial,by rw[nQ,mO]⟩
abbrev F8(p:List Nat):AV:=.sl (dQ p)
theorem Gy(p:List Nat):gJ (F8 p) (pZ p):=⟨(bU _).mpr trivial,by rw[eD,mO]⟩
theorem Ar{p q:List Nat}:pZ p=pZ q↔p=q:=by
 refine⟨fun h=>?_,fun h=>by rw[h]⟩
 have:∀(p q:List Nat),p.map Int.ofNat=q.map Int.ofNat->p=q:=by
  intro p
  induction p with
  |
   nil=>intro q h;cases q with
   |nil=>rfl
   |cons y q=>simp at h
  |
   cons x p ih =>
   intro q h
   cases q with
   |nil=>simp at h
   |
    cons y q =>
    simp only[bi,List.cons.injEq]at h
    have e:x=y:=Int.ofNat.inj h.1
    rw[e,ih q h.2]
 exact this p q h
theorem nk(f:List Nat->AV){l:List Pt}{i:Nat}(hi:i<l.length):(cM f l).getD i []=[f (l[i]).2]:=by simp[cM,aa,hi]
theorem J3(f g:List Nat->AV)(hf:∀p,gJ (f p) (pZ p))(hg:∀p,gJ (g p) (pZ p))(l:List Pt)(hl:l.length<=1000)(hd:∀q,q∈l->q.2.length<=200):∀(m i:Nat),i+m=l.length->Ey [.sl (cM f l),.sl (cM g l),.v (.int .i64 (i:Int))] [] (gk 1 [] [])
 |
  0,i,hi=>by
  refine E6 _ _ _ ?_
  simp only[A7,↓zq,zs,ae,dA]
  exact⟨fun h=>by omega,fun _=>⟨rfl,rfl,rfl⟩⟩
 |
  m+1,i,hi=>by
  have hlt:i<l.length:=by omega
  have h2:=hd _ (bD hlt)
  refine E6 _ _ _ ?_
  simp only[A7,↓zq,zs,ae,zt,dA,nk _ hlt,bS,eq_true (hf (l[i]).2).1,eq_true (hg (l[i]).2).1]
  refine⟨fun _=>?_,fun h=>by omega⟩
  repeat refine⟨by omega,?_⟩
  refine an (CZ _ _ _ _ (hf (l[i]).2) (hg (l[i]).2) (by simp;omega)) ?_
  simp only[↓zq,zs,ae,zt,decide_true]
  refine⟨fun h=>by simp at h,fun _=>?_⟩
  rw[bp i (by omega)]
  exact J3 f g hf hg l hl hd m (i+1) (by omega)
theorem N6(f g:List Nat->AV)(hf:∀p,gJ (f p) (pZ p))(hg:∀p,gJ (g p) (pZ p))(l:List Pt)(hl:l.length<=1000)(hd:∀q,q∈l->q.2.length<=200):au Tryz.prog 21 [.sl (cM f l),.sl (cM g l)] [] (bK (.v (.bool true))):=by
 refine Hu _ _ ((bU _).mpr trivial) ((bU _).mpr trivial) ?_
 simp only[Ea,↓zq,zs,ae,dA]
 refine⟨fun h=>by simp at h,fun _=>?_⟩
 refine bZ (J3 f g hf hg l hl hd l.length 0 (by omega)) ?_
 simp[bK,↓zq,zs,ae]
theorem JA(l:List Pt)(hl:l.length<=1000):∀(k i:Nat) (out:List Pt),i+k=l.length->out.length+k<=1000 ->
 CO [.sl (lX l),.v (.bool true),.v (.int .i64 (i:Int))] [.vec 1 (cM F8 out)] (gk 1 [.v (.bool true)] [.vec 1 (cM F8 (out++l.drop i))])
 |
  0,i,out,hi,ho=>by
  refine FR _ _ _ _ ?_
  have:i=l.length:=by omega
  subst this
  simp only[AP,↓zq,zs,ae,kp]
  exact⟨fun h=>by omega,fun _=>by simp[gk]⟩
 |
  k+1,i,out,hi,ho=>by
  have hlt:i<l.length:=by omega
  refine FR _ _ _ _ ?_
  simp only[AP,↓zq,zs,ae,zt,kp,yU hlt,dA]
  refine⟨fun _=>⟨fun _=>?_,fun h=>(by cases h)⟩,fun h=>by omega⟩
  repeat refine⟨by omega,?_⟩
  refine⟨⟨pL _,by omega⟩,?_⟩
  have:=JA l hl k (i+1) (out++[l[i]]) (by omega) (by simp;omega)
  rw[bp i (by omega),aL hlt]
  rw[aQ,<-nX F8 out]at this
  exact this
theorem LY(s v:Nm):au Tryz.prog 20 [.v (.string (mk s)),.v (.string (mk v))] [] (bK (.da [.sl (cM F8 ((dw s v).getD [])),.v (.bool (dw s v).isSome)])):=by
 refine MU _ _ ?_
 unfold KO
 refine aU (Ny s v) (Eb.ne _ s v) ?_
 rintro r o ⟨rfl,x,hx,rfl,hl⟩
 cases h:dw s v with
 |
  none =>
  simp only[↓zq,zs,ae,hx,Option.isSome_none]
  refine bZ (ys:=[.v (.bool false)]) (o:=[.vec 1 []]) ?_ ?_
  ·refine FR _ _ _ _ ?_
   simp only[AP,↓zq,zs,ae,hx]
   exact⟨fun _=>⟨fun h=>(by cases h),fun _=>⟨rfl,rfl,rfl⟩⟩,fun _=>⟨rfl,rfl,rfl⟩⟩
  ·simp[↓zq,zs,ae,bK,h,cM,Ob.es]
 |
  some l =>
  rw[hl l h]
  have:=(mG h).1
  simp only[↓zq,zs,ae,Option.isSome_some,kp]
  have:=JA l (by omega) l.length 0 [] (by omega) (by simp;omega)
  rw[aV,bh]at this
  refine bZ this ?_
  simp[↓zq,zs,ae,bK,h,Ob.es]
end Go.Proofs.Trees
namespace Go.Proofs.Trees
open Go Go.VL Go.RowKit
theorem Me(a:AV)(ha:wV a):au Tryz.prog 19 [a] [] (fun r o=>o=[]/\DZ r):=by
 refine Mm _ ha.1 ?_
 unfold GM
 refine aU (Mc a ha) K5.ne ?_
 rintro r o ⟨b,l,hb,rfl,rfl⟩
 simp only[↓zq,zs,ae,zt,hb.has]
 refine⟨by simp[bY,hb.has,sE],aU (NJ b l hb 0 (by omega)) (ep.ne ⟨[],[],rfl⟩) ?_⟩
 rintro r o ⟨q,_,_,⟨s,t,rfl⟩,rfl⟩
 simp only[↓zq,zs,ae,zt,aO,hb.has]
 first|exact⟨rfl,s,t,rfl⟩|exact⟨s,t,rfl⟩|exact⟨trivial,s,t,rfl⟩
theorem vf{s v:Nm}{l:List Pt}(h:dw s v=some l):Ord [] l:=by
 unfold dw at h
 split at h
 ·rename_i a w h1 h2
  split at h
  ·cases h;exact rK w.nodes a (w,[]) (ap _)
  ·cases h
 ·cases h
theorem AL(p:List Nat)(n:Nat):gJ (.sl ((dQ p).take n)) (pZ (p.take n)):=⟨(bU _).mpr trivial,by rw[eD,<-mO];simp[dQ]⟩
def u3(l:List Pt)(p:List Nat):Bool:=l.any fun q=>decide (q.2=p)
theorem Ef(l:List Pt)(hl:l.length<=1000)(hd:∀q,q∈l->q.2.length<=200)(O:Ord [] l)(j:Nat)(hj:j<l.length)(h1:1<=j):∀(k i:Nat) (b:Bool),i+k=j->b=u3 (l.take i) (l[j]).2.dropLast ->
 DJ [.sl (cM lj l),.v (.int .i64 (j:Int)),.v (.int .i64 ((l[j]).2.length:Int)),.v (.bool b),.v (.int .i64 (i:Int))] [] (gk 1 [.sl (cM lj l),.v (.int .i64 (j:Int)),.v (.bool (u3 (l.take j) (l[j]).2.dropLast))] [])
 |
  0,i,b,hi,hb=>by
  have:i=j:=by omega
  subst this
  refine KU _ _ _ _ _ ?_
  simp only[Dt,↓zq,zs,ae,dA]
  exact⟨fun h=>by omega,fun _=>⟨rfl,by rw[hb],rfl⟩⟩
 |
  k+1,i,b,hi,hb=>by
  have hlt:i<l.length:=by omega
  obtain⟨o1,_⟩:=O.Mu j hj h1
  have d1:=hd _ (bD hlt)
  have d2:=hd _ (bD hj)
  have hne:¬(l[i]).2=(l[j]).2:=fun e=>by
   have hn:=O.nd
   have:=(List.getElem_inj (i:=i) (j:=j) (h₀:=by simpa using hlt) (h₁:=by simpa using hj) hn).1 (by simpa using e)
   omega
  have step:u3 (l.take (i+1)) (l[j]).2.dropLast=(b||decide ((l[i]).2=(l[j]).2.dropLast)):=by
   rw[hb];unfold u3
   rw[List.take_succ_eq_append_getElem hlt,List.any_append]
   simp only[List.any_cons,List.any_nil,Bool.or_false]
  refine KU _ _ _ _ _ ?_
  simp only[Dt,↓zq,zs,ae,zt,dA,nk _ hlt,nk _ hj,bS,eq_true (lY (l[i]).2).1,eq_true (lY (l[j]).2).1,nQ,jr]
  rw[bp i (by omega),wrap64 (((l[j]).2.length:Int)-1) (by omega) (by omega)]
  refine⟨fun _=>⟨fun h=>?_,fun _=>?_⟩,fun h=>by omega⟩
  ·simp only[aG]at o1;omega
  ·repeat refine⟨by omega,?_⟩
   refine an (CZ _ _ _ _ (lY (l[i]).2) (lY (l[j]).2) (by simp;omega)) ?_
   simp only[↓zq,zs,ae,zt,Ar,hne,decide_false]
   refine⟨fun h=>(by cases h),fun _=>⟨fun hbt=>?_,fun hbf=>?_⟩⟩
   ·exact Ef l hl hd O j hj h1 k (i+1) true (by omega) (by rw[step,hbt];rfl)
   ·simp only[aG]at o1
    repeat refine⟨by omega,?_⟩
    have e1:bE (((l[j]).2.length:Int)-1)=(l[j]).2.length-1:=by omega
    simp only[e1,Int.toNat_zero,aV]
    refine an (CZ _ _ _ _ (lY (l[i]).2) (AL (l[j]).2 ((l[j]).2.length-1)) (by simp;omega)) ?_
    simp only[↓zq,zs,ae,zt,Ar]
    refine Ef l hl hd O j hj h1 k (i+1) _ (by omega) ?_
    rw[step,hbf,List.dropLast_eq_take];rfl
theorem KJ(l:List Pt)(hl:l.length<=1000)(hd:∀q,q∈l->q.2.length<=200)(O:Ord [] l):∀(k j:Nat),j+k=l.length->1<=j ->
 Eh [.sl (cM lj l),.v (.int .i64 (j:Int))] [] (gk 1 [.sl (cM lj l)] [])
 |
  0,j,hi,h1=>by
  have:j=l.length:=by omega
  subst this
  refine IU _ _ ?_
  simp only[DB,↓zq,zs,ae,dA]
  exact⟨fun h=>by omega,fun _=>⟨rfl,rfl,rfl⟩⟩
 |
  k+1,j,hi,h1=>by
  have hj:j<l.length:=by omega
  obtain⟨_,k0,hk0,e⟩:=O.Mu j hj h1
  refine IU _ _ ?_
  simp only[DB,↓zq,zs,ae,zt,dA,nk _ hj,bS,eq_true (lY (l[j]).2).1,nQ,jr]
  refine⟨fun _=>?_,fun h=>by omega⟩
  repeat refine⟨by omega,?_⟩
  refine bZ (Ef l hl hd O j hj h1 j 0 false (by omega) (by simp[u3])) ?_
  have hh:u3 (l.take j) (l[j]).2.dropLast=true:=by
   unfold u3
   rw[bJ]
   exact⟨l[k0]'(by omega),List.mem_take_iff_getElem.2 ⟨k0,by omega,rfl⟩,by simp[e]⟩
  simp only[↓zq,zs,ae,zt,hh,ba,bw]
  refine⟨fun h=>(by cases h),fun _=>?_⟩
  rw[bp j (by omega)]
  exact KJ l hl hd O k (j+1) (by omega) (by omega)
theorem Mt(a:AV)(ha:wV a):au Tryz.prog 5 [a] [] (bK (.v (.bool true))):=by
 refine Lt _ ha.1 ?_
 simp only[JS,↓zq,zs,ae,zt,bK]
 refine⟨ha.1,fun _=>trivial,fun _=>?_⟩
 refine aU (Me a ha) ⟨_,_,rfl,[],[],rfl⟩ ?_
 rintro r o ⟨rfl,s,v,rfl⟩
 simp only[↓zq,zs,ae,zt]
 refine an (NK s v) ?_
 have PS:=LY s v
 cases hp:dw s v with
 |
  none =>
  rw[hp]at PS
  have EQ:au Tryz.prog 21 [.v (.slice none 0 0),.sl []] [] (bK (.v (.bool true))):=by
   refine Hu _ _ ((bg).mpr trivial) ((bU _).mpr trivial) ?_
   simp only[Ea,↓zq,zs,ae]
   refine⟨fun h=>by simp at h,fun _=>?_⟩
   refine bZ (ys:=[]) (o:=[]) ?_ ?_
   ·refine E6 _ _ _ ?_
    simp[A7,↓zq,zs,ae,gk]
   ·simp[bK,↓zq,zs,ae]
  simp only[zG,↓zq,zs,ae,zt]
  refine an PS ?_
  simp only[Option.getD_none,cM,List.map_nil,Option.isSome_none,↓zq,zs,ae,zt]
  refine⟨fun h=>by simp at h,fun _=>an EQ ?_⟩
  simp only[↓zq,zs,ae,zt]
  refine⟨fun h=>by simp at h,fun _=>⟨fun _=>⟨fun _=>an EQ ?_,fun h=>absurd rfl h⟩,fun h=>by simp at h⟩⟩
  simp only[↓zq,zs,ae]
 |
  some l =>
  rw[hp]at PS
  have hl:=(mG hp).1
  have hd:=sy hp
  have O:=vf hp
  obtain⟨w,l',_,he⟩:=ur hp
  have EQ:=N6 lj F8 lY Gy l (by omega) hd
  simp only[zG,↓zq,zs,ae,zt]
  refine an PS ?_
  simp only[Option.getD_some,Option.isSome_some,↓zq,zs,ae,zt]
  refine⟨fun h=>by simp at h,fun _=>an EQ ?_⟩
  simp only[↓zq,zs,ae,zt]
  refine⟨fun h=>by simp at h,fun _=>⟨fun h=>by simp at h,fun _=>?_⟩⟩
  have h0:0<l.length:=by rw[he];simp
  refine bZ (KJ l (by omega) hd O (l.length-1) 1 (by omega) (by omega)) ?_
  have e0:(l[0]).2=[]:=by simp[he]
  simp only[↓zq,zs,ae,zt,ba,dA,nk _ h0,Int.toNat_zero,e0,eq_true (lY []).1,nQ]
  refine⟨fun _=>?_,fun h=>by omega⟩
  repeat refine⟨by omega,?_⟩
  simp[dQ]
end Go.Proofs.Trees
