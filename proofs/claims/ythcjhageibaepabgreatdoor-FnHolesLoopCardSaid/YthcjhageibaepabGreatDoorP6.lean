/-
  Part of a proof: Go functions read by values, trees of functions, their contracts.
-/
import Derived.Test.YthcjhageibaepabGreatDoorP5
set_option linter.unusedVariables false
set_option linter.unusedSimpArgs false
open And renaming intro→aH
open Bool renaming and_eq_true→au,eq_iff_iff→cr,or_eq_false_iff→cf,or_eq_true→bh,true_and→bG
open ByteArray renaming toList→ag
open Int renaming tmod→dj,toNat_natCast→bW
open List renaming all_cons→cI,all_eq_true→bI,append_assoc→a7,cons_append→bC,drop_eq_getElem_cons→aV,drop_zero→bj,getD_cons_zero→bc,getD_eq_getElem?_getD→aa,getElem?_eq_getElem→bm,getElem_mem→bJ,headD_cons→aX,length_append→an,length_cons→aw,length_map→cG,length_nil→aG,map_cons→bD,mem_append→aK,mem_append_left→aB,mem_cons→aJ,mem_cons_self→ai,mem_singleton→aR,nil_append→ba,tail_cons→bK
open Nat renaming le_add_right→cJ,le_refl→az,mod_lt→dW,mul_add→cX,mul_le_mul_right→aU,mul_one→dQ,zero_add→aS,zero_le→dA
open Option renaming bind_eq_some_iff→bx,bind_none→cK,bind_some→bB,getD_none→dI,getD_some→cH,isSome_iff_exists→bM,map_some→ct
open UInt8 renaming ofNat→aZ
namespace Go.Proofs.Trees
open Go Go.VL Go.RowKit
theorem nA:∀(n k:Nat),k<10 ^ (n+1)->(dd k).length<=n+1
 |0,k,h=>by rw[ep (by omega)];simp
 |
  n+1,k,h=>by
  by_cases h1:k<10
  ·rw[ep h1];simp
  ·rw[fw h1]
   have:=nA n (k/10) (by
    have:10 ^ (n+1+1)=10*10 ^ (n+1):=by rw[Nat.pow_succ,Nat.mul_comm]
    omega)
   simp;omega
inductive Sh:E->Prop
 |atom {s:Nm} (h:s.length<=20):Sh (.atom s)
 |l3 {h:Nm} {a b:E} (hh:h.length<=20) (ha:Sh a) (hb:Sh b):Sh (.list [.atom h,a,b])
theorem Sh.dm{e:E}(hw:Wf e)(h:Sh e):(eI e).length<=50*e.en:=by
 induction hw with
 |atom _=>cases h with|atom h=>simp only[eI,E.en];omega
 |
  plus _ _ i1 i2 =>
  cases h with|l3 hh ha hb =>
  have:=i1 ha
  have:=i2 hb
  simp only[eI,dT,aw,an,aG,E.en,E.fp];omega
 |
  times _ _ i1 i2 =>
  cases h with|l3 hh ha hb =>
  have:=i1 ha
  have:=i2 hb
  simp only[eI,dT,aw,an,aG,E.en,E.fp];omega
 |
  rc _ _ i =>
  cases h with|l3 hh ha hb =>
  cases ha with|atom ha =>
  have:=i hb
  simp only[eI,dT,aw,an,aG,E.en,E.fp];omega
def yF(t:Ty):Prop:=∀y,bg y t=true->y.length<=20
theorem zz{k:Nat}(h:k<100000000):(tN k).length<=20:=by
 have:=nA 7 k (by omega)
 simp;omega
def HG(t:Ty):Nm:=eI (i7 (bL t []) t [] 0).1
def told(t:Ty):Option Nm:=if t.atoms<=400/\(so (HG t)).isSome=true then some (HG t)else none
abbrev l7:Nm:=[35,49]
noncomputable def dE (s:Nm):Option Nm:=match so s with
 |some (.rc a)=>(u4 a l7).bind told
 |_=>none
theorem qJ{s:Nm}{t:Ty}(h:so s=some t):∃e,xi s=some e/\Wf e/\ew e []=t/\e.en<=400/\e.ok:=by
 rw[vL]at h
 cases he:xi s with
 |none=>rw[he]at h;cases h
 |
  some e =>
  rw[he]at h
  obtain⟨h1,h2,h3⟩:=qW he
  obtain⟨hok,_⟩:=nj h1
  obtain⟨w1,w2⟩:=j5 e [] t hok (fun w hw=>by cases hw) h
  exact⟨e,rfl,w1,w2,h3,hok⟩
theorem tS{e:E}{x:Nm}{a d:Ty}(hw:Wf e)(ht:ew e []=.rc a)(hx:tO x)(hd:u4 a x=some d):ia d/\(yF (.rc a)->yF d):=by
 simp only[u4,bx,dC,iV]at hd
 obtain⟨d',h1,_,rfl⟩:=hd
 have g:ia (.rc a):=ht ▸ hw.DX
 have go:ia (dM (.name x) a 0):=⟨iE x a g.1,fun y hy=>by
  rcases gb a 0 hy with rfl|h
  ·exact hx
  ·exact g.2 y h⟩
 refine⟨g.sub (go.dv h1),fun hs y hy=>?_⟩
 rcases iL _ hy with h|⟨h,h'⟩
 ·exact hs y h
 ·rcases gb a 0 (h1.names y h')with e|e
  ·exact absurd e h
  ·exact hs y e
def KQ(y:Nm):Prop:=gC y=true\/cP y=true
theorem ik:∀(e:E) (ar:List Nm) (t:Ty),cB e ar=some t->∀y,bg y t=true->KQ y
 |
  .atom s,ar,t,ht,y,hy=>by
  simp only[cB]at ht
  split at ht
  ·cases ht;cases hy
  ·split at ht
   ·cases ht;cases hy
   ·split at ht
    ·rename_i hp
     cases ht
     simp only[bg,decide_eq_true_eq]at hy
     subst hy;exact .inl hp
    ·split at ht
     ·rename_i hq
      split at ht
      ·cases ht;cases hy
      ·cases ht
       simp only[bg,decide_eq_true_eq]at hy
       subst hy;exact .inr hq
     ·cases ht
 |
  .list [x,a,b],ar,t,ht,y,hy=>by
  by_cases h0:x.at=[43]
  ·obtain⟨t1,t2,h1,h2,rfl⟩:=fh h0 ht
   simp only[bg,bh]at hy
   rcases hy with hy|hy
   ·exact ik a ar t1 h1 y hy
   ·exact ik b ar t2 h2 y hy
  ·by_cases h1:x.at=[42]
   ·obtain⟨t1,t2,h2,h3,rfl⟩:=eN h1 ht
    simp only[bg,bh]at hy
    rcases hy with hy|hy
    ·exact ik a ar t1 h2 y hy
    ·exact ik b ar t2 h3 y hy
   ·by_cases h2:x.at=[114,101,99]
    ·obtain⟨t1,hla,h3,rfl⟩:=df h2 ht
     exact ik b _ t1 h3 y hy
    ·rw[iO _ h0 h1 h2]at ht;cases ht
 | .list [],ar,t,ht,_,_=>by cases ht
 | .list [_],ar,t,ht,_,_=>by cases ht
 | .list [_,_],ar,t,ht,_,_=>by cases ht
 | .list (_::_::_::_::_),ar,t,ht,_,_=>by cases ht
theorem vg{y:Nm}(h:KQ y):y.length<=3/\∀r,y≠35::r:=by
 have key:∀lo hi,116<=lo->named lo hi y=true->y.length<=3/\∀r,y≠35::r:=fun lo hi hlo h=>by
  cases y with
  |nil=>cases h
  |
   cons c r =>
   simp only[named,au,decide_eq_true_eq]at h
   refine⟨by simp;omega,fun r' e=>?_⟩
   have:c=35:=by injection e
   subst this
   have:=h.1.2.1
   have e35:(35:UInt8).toNat=35:=rfl
   omega
 rcases h with h|h
 ·exact key 120 122 (by omega) h
 ·exact key 116 116 (by omega) h
theorem mE{s:Nm}{t:Ty}(h:so s=some t):∀y,bg y t=true->KQ y:=by
 rw[vL]at h
 cases he:xi s with
 |none=>rw[he]at h;cases h
 |some e=>rw[he]at h;exact ik e [] t h
theorem zc{s:Nm}{a:Ty}(h:so s=some (.rc a)):bg l7 a=false:=by
 cases q:bg l7 a with
 |false=>rfl
 |true=>exact absurd rfl ((vg (mE h l7 q)).2 [49])
theorem EA{s:Nm}{t:Ty}(h:so s=some t):yF t:=fun y hy=>by have:=(vg (mE h y hy)).1;omega
end Go.Proofs.Trees
namespace Go.Proofs.Trees
open Go Go.VL Go.RowKit
def vT(n:Nat):Vl->Ty->Bool
 | .u,.one=>true
 | .el k,.name _=>decide (k<n)
 | .l w,.plus a _=>vT n w a
 | .r w,.plus _ b=>vT n w b
 | .p x y,.times a b=>vT n x a&&vT n y b
 | .f w,.rc a=>vT n w (dM (.rc a) a 0)
 |_,_=>false
def cls(us:List Ty):Ty->Nat->Ty
 | .bound k,i=>if k<i then .bound k else us.getD (k-i) .zero
 | .plus a b,i=>.plus (cls us a i) (cls us b i)
 | .times a b,i=>.times (cls us a i) (cls us b i)
 | .rc a,i=>.rc (cls us a (i+1))
 |t,_=>t
def wF:List Fr->List Ty
 |[]=>[]
 |f::r=>cls (wF r) (wU f.ex r) 0::wF r
theorem kW(u:Ty):∀(t:Ty) {i:Nat},jU t i->dM u t i=t
 | .bound k,i,h=>by simp only[dM];rw[if_neg (by have:k<i:=h;omega)]
 | .plus a b,i,h=>by simp only[dM];rw[kW u a h.1,kW u b h.2]
 | .times a b,i,h=>by simp only[dM];rw[kW u a h.1,kW u b h.2]
 | .rc a,i,h=>by simp only[dM];rw[kW u a (i:=i+1) h]
 | .zero,_,_=>rfl
 | .one,_,_=>rfl
 | .name _,_,_=>rfl
theorem oR(us:List Ty):∀(t:Ty) {i:Nat},jU t i->cls us t i=t
 | .bound k,i,h=>by simp only[cls];rw[if_pos (by have:k<i:=h;omega)]
 | .plus a b,i,h=>by simp only[cls];rw[oR us a h.1,oR us b h.2]
 | .times a b,i,h=>by simp only[cls];rw[oR us a h.1,oR us b h.2]
 | .rc a,i,h=>by simp only[cls];rw[oR us a (i:=i+1) h]
 | .zero,_,_=>rfl
 | .one,_,_=>rfl
 | .name _,_,_=>rfl
theorem wG{us:List Ty}(hu:∀u,u∈us->jU u 0)(k:Nat):jU (us.getD k .zero) 0:=by
 by_cases h:k<us.length
 ·rw[aa,bm h];exact hu _ (bJ h)
 ·rw[aa,List.getElem?_eq_none (by omega)];trivial
theorem oY{us:List Ty}(hu:∀u,u∈us->jU u 0):∀(t:Ty) (i:Nat),jU (cls us t i) i
 |
  .bound k,i=>by
  simp only[cls]
  split
  ·rename_i h;exact h
  ·exact gd _ (wG hu _) (dA _)
 | .plus a b,i=>⟨oY hu a i,oY hu b i⟩
 | .times a b,i=>⟨oY hu a i,oY hu b i⟩
 | .rc a,i=>oY hu a (i+1)
 | .zero,_=>trivial
 | .one,_=>trivial
 | .name _,_=>trivial
theorem mv{us:List Ty}(hu:∀u,u∈us->jU u 0)(U:Ty):∀(t:Ty) (i:Nat),dM U (cls us t (i+1)) i=cls (U::us) t i
 |
  .bound k,i=>by
  simp only[cls]
  by_cases h1:k<i
  ·rw[if_pos (by omega),if_pos h1];simp only[dM];rw[if_neg (by omega)]
  ·rw[if_neg h1]
   by_cases h2:k=i
   ·subst h2;rw[if_pos (by omega)];simp[dM]
   ·rw[if_neg (by omega),kW U _ (gd _ (wG hu _) (dA _)),show k-i=(k-(i+1))+1 by omega,List.getD_cons_succ]
 | .plus a b,i=>by simp only[cls,dM];rw[mv hu U a i,mv hu U b i]
 | .times a b,i=>by simp only[cls,dM];rw[mv hu U a i,mv hu U b i]
 | .rc a,i=>by simp only[cls,dM];rw[mv hu U a (i+1)]
 | .zero,_=>rfl
 | .one,_=>rfl
 | .name _,_=>rfl
theorem ve:∀env:List Fr,∀u,u∈wF env->jU u 0
 |[],u,h=>by cases h
 |
  f::r,u,h=>by
  rcases aJ.1 h with rfl|h
  ·exact oY (ve r) _ 0
  ·exact ve r u h
theorem CA{env:List Fr}(h:WF env):∀{u:Nat} {g:Fr},env[u]?=some g->(wF env).getD u .zero=cls (wF g.out) (wU g.ex g.out) 0:=by
 induction h with
 |nil=>intro u g hg;simp at hg
 |
  cons hs hok hx ht hf hr ih =>
  intro u g hg
  cases u with
  |zero=>simp at hg;subst hg;rfl
  |
   succ u =>
   have:=ih (u:=u) (g:=g) (by simpa using hg)
   simpa[wF]using this
theorem oC(n:Nat):∀(m:Nat) (v:Vl),v.nodes<=m->∀(e:E) (env:List Fr) (t:Ty),Ask e env t->eG n v (e,env)=vT n v (cls (wF env) t 0)
 |0,v,hm=>by have:=dx v;omega
 |
  m+1,v,hm=>by
  intro e env t A
  have recCase:∀(x a b:E) (env:List Fr) (t1:Ty),Ask (.list [x,a,b]) env (.rc t1)->x.at=[114,101,99]->eG n v (.list [x,a,b],env)=vT n v (cls (wF env) (.rc t1) 0):=by
   intro x a b env t1 A hx
   have hhd:hd (.list [x,a,b]) env=(.list [x,a,b],env):=o0 A.wf
   obtain⟨t1',he1,h1,f1,hw1⟩:=jI A.wf A.ok hx A.ty A.cl
   cases he1
   obtain⟨ok1,ok2,ok3,_⟩:=A.ok
   have A':Ask b (.mk a.at (.list [x,a,b]) env::env) t1:=⟨ok3,hw1,h1,f1⟩
   cases v with
   |
    f w =>
    simp only[Vl.nodes]at hm
    simp only[eG,hhd,hx,beq_self_eq_true,bG]
    rw[oC n m w (by omega) b _ t1 A']
    have hty:wU (.list [x,a,b]) env=.rc t1:=by unfold wU;rw[A.ty];rfl
    show vT n w (cls (cls (wF env) (wU (.list [x,a,b]) env) 0::wF env) t1 0)=vT n w (dM (.rc (cls (wF env) t1 1)) (cls (wF env) t1 1) 0)
    rw[hty,mv (ve env)]
    rfl
   |_=>simp[eG,hhd,hx,cls,vT]
  rcases gT A.wf A.ty with⟨hb,hq⟩|⟨u,g,rfl,hq,hu⟩
  ·have hhd:hd e env=(e,env):=j4 hq
   rcases fM A.ty hb A.cl with⟨rfl,rfl⟩|⟨rfl,rfl⟩|⟨s,rfl,rfl,hp,h0,h1⟩|⟨x,a,b,t1,t2,rfl,hx,rfl,ha,hbb⟩|⟨x,a,b,t1,t2,rfl,hx,rfl,ha,hbb⟩|⟨x,a,b,t1,rfl,hx,rfl⟩
   ·have hp0:gC [48]=false:=rfl
    cases v<;>simp[eG,hhd,cls,vT,hp0]
   ·cases v<;>simp[eG,hhd,cls,vT]
   ·cases v<;>simp[eG,hhd,cls,vT,hp,h1]
   ·obtain⟨ok1,ok2,ok3,_⟩:=A.ok
    obtain⟨f1,f2⟩:=fP A.cl
    cases v with
    |
     l w =>
     simp only[Vl.nodes]at hm
     simp only[eG,hhd,hx,beq_self_eq_true,bG,cls,vT]
     exact oC n m w (by omega) a env t1 ⟨ok2,A.wf,ha,f1⟩
    |
     r w =>
     simp only[Vl.nodes]at hm
     simp only[eG,hhd,hx,beq_self_eq_true,bG,cls,vT]
     exact oC n m w (by omega) b env t2 ⟨ok3,A.wf,hbb,f2⟩
    |_=>simp[eG,hhd,hx,cls,vT]
   ·obtain⟨ok1,ok2,ok3,_⟩:=A.ok
    obtain⟨f1,f2⟩:=fj A.cl
    cases v with
    |
     p w w' =>
     simp only[Vl.nodes]at hm
     simp only[eG,hhd,hx,beq_self_eq_true,bG,cls,vT]
     rw[oC n m w (by omega) a env t1 ⟨ok2,A.wf,ha,f1⟩,oC n m w' (by omega) b env t2 ⟨ok3,A.wf,hbb,f2⟩]
    |_=>simp[eG,hhd,hx,cls,vT]
   ·exact recCase x a b env t1 A hx
  ·obtain⟨x,a,b,t',hfe,hok,hx,ht',hf',hwf,hlt⟩:=nO A.wf hq
   have hrec:hd g.ex g.out=(g.ex,g.out):=by rw[hfe];exact o0 hwf
   rw[sS n v (pT hq) hrec]
   have hcl:cls (wF env) (.bound u) 0=cls (wF g.out) (wU g.ex g.out) 0:=by
    simp only[cls];rw[if_neg (by omega),Nat.sub_zero];exact CA A.wf hu
   rw[hcl]
   have hty:wU g.ex g.out=t':=by unfold wU;rw[ht'];rfl
   rw[hty,hfe]
   rw[hfe]at ht'
   obtain⟨t1,_,_,rfl⟩:=df hx ht'
   exact recCase x a b g.out t1 ⟨hok,hwf,ht',hf'⟩ hx
theorem mz{n:Nat}{v:Vl}{e:E}{t:Ty}(A:Ask e [] t):eG n v (e,[])=vT n v t:=by
 have:=oC n v.nodes v (az _) e [] t A
 rw[this]
 obtain⟨w,ht⟩:=j5 e [] t A.ok (fun w hw=>by cases hw) A.ty
 have hl:=vw w []
 rw[ht]at hl
 exact congrArg (vT n v) (oR _ t hl)
def eQ(σ:Nm->Option Ty):Ty->Ty
 | .name s=>(σ s).getD (.name s)
 | .plus a b=>.plus (eQ σ a) (eQ σ b)
 | .times a b=>.times (eQ σ a) (eQ σ b)
 | .rc a=>.rc (eQ σ a)
 |t=>t
def iQ(σ:Nm->Option Ty)(x:Nm)(u:Ty):Nm->Option Ty:=fun s=>if s=x then some u else σ s
theorem iP(σ:Nm->Option Ty)(x:Nm)(u:Ty):∀t:Ty,eQ σ (sub x u t)=eQ (iQ σ x (eQ σ u)) t
 |
  .name s=>by
  by_cases h:s=x
  ·simp[sub,eQ,iQ,h]
  ·simp[sub,eQ,iQ,h]
 | .plus a b=>by simp only[sub,eQ,iP σ x u a,iP σ x u b]
 | .times a b=>by simp only[sub,eQ,iP σ x u a,iP σ x u b]
 | .rc a=>by simp only[sub,eQ,iP σ x u a]
 | .zero=>rfl
 | .one=>rfl
 | .bound k=>rfl
def BY(σ:Nm->Option Ty):Prop:=∀s u,σ s=some u->jU u 0
theorem ka{σ:Nm->Option Ty}(hσ:BY σ):∀(t:Ty) {i:Nat},jU t i->jU (eQ σ t) i
 |
  .name s,i,_=>by
  simp only[eQ]
  cases q:σ s with
  |none=>trivial
  |some u=>exact gd u (hσ s u q) (dA _)
 | .plus a b,i,h=>⟨ka hσ a h.1,ka hσ b h.2⟩
 | .times a b,i,h=>⟨ka hσ a h.1,ka hσ b h.2⟩
 | .rc a,i,h=>ka hσ a (i:=i+1) h
 | .zero,_,_=>trivial
 | .one,_,_=>trivial
 | .bound k,_,h=>h
theorem jl{σ:Nm->Option Ty}(hσ:BY σ)(x:Nm)(U:Ty):∀(t:Ty) (i:Nat),bg x t=false->eQ (iQ σ x U) (dM (.name x) t i)=dM U (eQ σ t) i
 |
  .name s,i,h=>by
  have hs:s≠x:=by simpa[bg]using h
  simp only[dM,eQ,iQ,if_neg hs]
  cases q:σ s with
  |none=>rfl
  |some u=>exact(kW U u (gd u (hσ s u q) (dA _))).symm
 |
  .bound k,i,h=>by
  simp only[dM,eQ]
  split
  ·simp[eQ,iQ]
  ·rfl
 |
  .plus a b,i,h=>by
  simp only[bg,cf]at h
  simp only[dM,eQ,jl hσ x U a i h.1,jl hσ x U b i h.2]
 |
  .times a b,i,h=>by
  simp only[bg,cf]at h
  simp only[dM,eQ,jl hσ x U a i h.1,jl hσ x U b i h.2]
 | .rc a,i,h=>by simp only[dM,eQ,jl hσ x U a (i+1) h]
 | .zero,_,_=>rfl
 | .one,_,_=>rfl
theorem nH{σ:Nm->Option Ty}(hσ:BY σ)(x:Nm){u:Ty}(hu:jU u 0):BY (iQ σ x u):=fun s v h=>by
 unfold iQ at h
 split at h
 ·cases h;exact hu
 ·exact hσ s v h
theorem iI(x:Nm):∀(n:Nat) (c:Vl) (t:Ty) (i:Nat),c.nodes<=n->dy (dM (.name x) t i) c=dy t c
 |0,c,_,_,h=>by have:=dx c;omega
 |
  n+1,c,t,i,hn=>by
  cases t with
  |bound k=>simp only[dM];split<;>(cases c<;>rfl)
  |
   plus a b =>
   cases c with
   |l c=>simp only[Vl.nodes]at hn;exact iI x n c a i (by omega)
   |r c=>simp only[Vl.nodes]at hn;exact iI x n c b i (by omega)
   |_=>rfl
  |
   times a b =>
   cases c with
   |
    l c =>
    cases c with
    |p y z=>simp only[Vl.nodes]at hn;exact iI x n y a i (by omega)
    |_=>rfl
   |
    r c =>
    cases c with
    |p y z=>simp only[Vl.nodes]at hn;exact iI x n z b i (by omega)
    |_=>rfl
   |_=>rfl
  |
   rc a =>
   cases c with
   |
    f c =>
    cases c with
    |l y=>simp only[Vl.nodes]at hn;exact iI x n y a (i+1) (by omega)
    |
     r c =>
     cases c with
     |
      p y z =>
      simp only[Vl.nodes]at hn
      have h1:=iI x n y a (i+1) (by omega)
      have h2:=iI x n z (.rc a) i (by omega)
      show (dy (dM (.name x) a (i+1)) y&&dy (.rc (dM (.name x) a (i+1))) z)=(dy a y&&dy (.rc a) z)
      rw[h1]
      exact congrArg _ h2
     |_=>rfl
    |_=>rfl
   |_=>rfl
  |_=>rfl
end Go.Proofs.Trees
namespace Go.Proofs.Trees
open Go Go.VL Go.RowKit
theorem eU(x:Nm):∀(n:Nat) (c:Vl) (t:Ty) (i:Nat) (v:Vl),c.nodes<=n->dS (dM (.name x) t i) c v=dS t c v
 |0,c,_,_,_,h=>by have:=dx c;omega
 |
  n+1,c,t,i,v,hn=>by
  cases t with
  |bound k=>simp only[dM];split<;>(cases c<;>rfl)
  |
   plus a b =>
   cases c with
   |l c=>simp only[Vl.nodes]at hn;exact congrArg Vl.l (eU x n c a i v (by omega))
   |r c=>simp only[Vl.nodes]at hn;exact congrArg Vl.r (eU x n c b i v (by omega))
   |_=>rfl
  |
   times a b =>
   cases c with
   |
    l c =>
    cases c with
    |p y z=>simp only[Vl.nodes]at hn;exact congrArg (fun q=>Vl.p q z) (eU x n y a i v (by omega))
    |_=>rfl
   |
    r c =>
    cases c with
    |p y z=>simp only[Vl.nodes]at hn;exact congrArg (Vl.p y) (eU x n z b i v (by omega))
    |_=>rfl
   |_=>rfl
  |
   rc a =>
   cases c with
   |
    f c =>
    cases c with
    |l y=>simp only[Vl.nodes]at hn;exact congrArg Vl.f (eU x n y a (i+1) v (by omega))
    |
     r c =>
     cases c with
     |
      p y z =>
      simp only[Vl.nodes]at hn
      have h2:=eU x n z (.rc a) i v (by omega)
      have h1:=eU x n y a (i+1) (dS (.rc a) z v) (by omega)
      show Vl.f (dS (dM (.name x) a (i+1)) y (dS (.rc (dM (.name x) a (i+1))) z v))=Vl.f (dS a y (dS (.rc a) z v))
      have h3:dS (.rc (dM (.name x) a (i+1))) z v=dS (.rc a) z v:=h2
      rw[h3,h1]
     |_=>rfl
    |_=>rfl
   |_=>rfl
  |_=>rfl
theorem By{n:Nat}{c:Vl}{a:Ty}(h:vT n c (.rc a)=true):∃w,c=.f w/\vT n w (dM (.rc a) a 0)=true:=by
 cases c with
 |f w=>exact⟨w,rfl,h⟩
 |_=>simp[vT]at h
theorem kN{n:Nat}{c:Vl}{a b:Ty}(h:vT n c (.plus a b)=true):(∃w,c=.l w/\vT n w a=true)\/∃w,c=.r w/\vT n w b=true:=by
 cases c with
 |l w=>exact .inl ⟨w,rfl,h⟩
 |r w=>exact .inr ⟨w,rfl,h⟩
 |_=>simp[vT]at h
theorem jC{n:Nat}{c:Vl}{a b:Ty}(h:vT n c (.times a b)=true):∃x y,c=.p x y/\vT n x a=true/\vT n y b=true:=by
 cases c with
 |p x y=>simp only[vT,au]at h;exact⟨x,y,rfl,h.1,h.2⟩
 |_=>simp[vT]at h
theorem qS{σ:Nm->Option Ty}(hσ:BY σ){a c d:Ty}{x:Nm}(ha:jU (.rc a) 0)(hc:jU c 0)(hd:jU d 0):∃X,eQ σ (si a x c d)=.rc X/\dM (.rc X) X 0=.plus (eQ (iQ σ x (eQ σ (.rc a))) c) (.times (eQ (iQ σ x (eQ σ (.rc a))) d) (eQ σ (si a x c d))):=by
 refine⟨.plus (eQ σ (sub x (.rc a) c)) (.times (eQ σ (sub x (.rc a) d)) (.bound 0)),rfl,?_⟩
 have h1:=ka hσ (sub x (.rc a) c) (kh ha c hc)
 have h2:=ka hσ (sub x (.rc a) d) (kh ha d hd)
 simp only[dM,kW _ _ h1,kW _ _ h2,if_true]
 rw[iP,iP]
 simp only[si,eQ,iP]
theorem uH(n:Nat):∀(m:Nat) (c:Vl),c.nodes<=m->∀(t:Ty) (s:Nm) (d:Ty) (σ:Nm->Option Ty),Dv t s d->BY σ->jU t 0->vT n c (eQ σ d)=true->dy t c=true
 |0,c,h=>by have:=dx c;omega
 |
  m+1,c,hm=>by
  intro t s d σ hd hσ hl hv
  cases hd with
  |zero=>cases c<;>rfl
  |one=>cases c<;>rfl
  |bound=>cases c<;>rfl
  |hit=>cases c<;>rfl
  |ql=>cases c<;>rfl
  |
   plus h1 h2 _ =>
   rcases kN hv with⟨w,rfl,hw⟩|⟨w,rfl,hw⟩
   ·simp only[Vl.nodes]at hm;exact uH n m w (by omega) _ s _ σ h1 hσ hl.1 hw
   ·simp only[Vl.nodes]at hm;exact uH n m w (by omega) _ s _ σ h2 hσ hl.2 hw
  |
   times h1 h2 _ =>
   rcases kN hv with⟨w,rfl,hw⟩|⟨w,rfl,hw⟩
   ·obtain⟨x,y,rfl,hx,hy⟩:=jC hw
    simp only[Vl.nodes]at hm;exact uH n m x (by omega) _ s _ σ h1 hσ hl.1 hx
   ·obtain⟨x,y,rfl,hx,hy⟩:=jC hw
    simp only[Vl.nodes]at hm;exact uH n m y (by omega) _ s _ σ h2 hσ hl.2 hy
  |
   @rc a _ c0 d0 x hx hs h1 h2 hsz =>
   have lo:jU (dM (.name x) a 0) 0:=iE x a hl
   obtain⟨X,e1,e2⟩:=qS (x:=x) hσ hl (h1.lc lo) (h2.lc lo)
   have hv':=hv
   rw[e1]at hv'
   obtain⟨w,rfl,hw⟩:=By hv'
   rw[e2]at hw
   have hcl:=nH hσ x (ka hσ (.rc a) hl)
   rcases kN hw with⟨y,rfl,hy⟩|⟨y,rfl,hy⟩
   ·simp only[Vl.nodes]at hm
    have:=uH n m y (by omega) _ s _ _ h1 hcl lo hy
    rw[iI x y.nodes y a 0 (az _)]at this
    exact this
   ·obtain⟨y,z,rfl,hy,hz⟩:=jC hy
    simp only[Vl.nodes]at hm
    have q1:=uH n m y (by omega) _ x _ _ h2 hcl lo hy
    rw[iI x y.nodes y a 0 (az _)]at q1
    have q2:=uH n m z (by omega) (.rc a) s _ σ (.rc x hx hs h1 h2 hsz) hσ hl hz
    show (dy a y&&dy (.rc a) z)=true
    rw[q1,q2];rfl
theorem pA(n:Nat):∀(m:Nat) (c:Vl),c.nodes<=m->∀(t:Ty) (s:Nm) (d:Ty) (σ:Nm->Option Ty),Dv t s d->BY σ->jU t 0->vT n c (eQ σ d)=true->∀v,vT n v (eQ σ (.name s))=true->vT n (dS t c v) (eQ σ t)=true
 |0,c,h=>by have:=dx c;omega
 |
  m+1,c,hm=>by
  intro t s d σ hd hσ hl hv v hvv
  have no:∀c,vT n c .zero=false:=fun c=>by cases c<;>rfl
  cases hd with
  |zero=>rw[show eQ σ .zero=.zero from rfl,no]at hv;cases hv
  |one=>rw[show eQ σ .zero=.zero from rfl,no]at hv;cases hv
  |bound=>rw[show eQ σ .zero=.zero from rfl,no]at hv;cases hv
  |ql=>rw[show eQ σ .zero=.zero from rfl,no]at hv;cases hv
  |hit=>rw[oL];exact hvv
  |
   plus h1 h2 _ =>
   rcases kN hv with⟨w,rfl,hw⟩|⟨w,rfl,hw⟩
   ·simp only[Vl.nodes]at hm;exact pA n m w (by omega) _ s _ σ h1 hσ hl.1 hw v hvv
   ·simp only[Vl.nodes]at hm;exact pA n m w (by omega) _ s _ σ h2 hσ hl.2 hw v hvv
  |
   times h1 h2 _ =>
   rcases kN hv with⟨w,rfl,hw⟩|⟨w,rfl,hw⟩
   ·obtain⟨x,y,rfl,hx,hy⟩:=jC hw
    simp only[Vl.nodes]at hm
    have:=pA n m x (by omega) _ s _ σ h1 hσ hl.1 hx v hvv
    show (vT n _ _&&vT n _ _)=true
    rw[this,hy];rfl
   ·obtain⟨x,y,rfl,hx,hy⟩:=jC hw
    simp only[Vl.nodes]at hm
    have:=pA n m y (by omega) _ s _ σ h2 hσ hl.2 hy v hvv
    show (vT n _ _&&vT n _ _)=true
    rw[this,hx];rfl
  |
   @rc a _ c0 d0 x hx hs h1 h2 hsz =>
   have lo:jU (dM (.name x) a 0) 0:=iE x a hl
   obtain⟨X,e1,e2⟩:=qS (x:=x) hσ hl (h1.lc lo) (h2.lc lo)
   have hv':=hv
   rw[e1]at hv'
   obtain⟨w,rfl,hw⟩:=By hv'
   rw[e2]at hw
   have hcl:=nH hσ x (ka hσ (.rc a) hl)
   have hop:eQ (iQ σ x (eQ σ (.rc a))) (dM (.name x) a 0)=dM (eQ σ (.rc a)) (eQ σ a) 0:=jl hσ x _ a 0 hx
   have hns:eQ (iQ σ x (eQ σ (.rc a))) (.name s)=eQ σ (.name s):=by simp only[eQ,iQ,if_neg (Ne.symm hs)]
   have hnx:eQ (iQ σ x (eQ σ (.rc a))) (.name x)=eQ σ (.rc a):=by simp[eQ,iQ]
   rcases kN hw with⟨y,rfl,hy⟩|⟨y,rfl,hy⟩
   ·simp only[Vl.nodes]at hm
    have:=pA n m y (by omega) _ s _ _ h1 hcl lo hy v (by rw[hns];exact hvv)
    rw[hop,eU x y.nodes y a 0 v (az _)]at this
    exact this
   ·obtain⟨y,z,rfl,hy,hz⟩:=jC hy
    simp only[Vl.nodes]at hm
    have q2:=pA n m z (by omega) (.rc a) s _ σ (.rc x hx hs h1 h2 hsz) hσ hl hz v hvv
    have q1:=pA n m y (by omega) _ x _ _ h2 hcl lo hy (dS (.rc a) z v) (by rw[hnx];exact q2)
    rw[hop,eU x y.nodes y a 0 _ (az _)]at q1
    exact q1
def E7:Nm->Option Ty:=fun _=>none
theorem tD:BY E7:=fun _ _ h=>by cases h
theorem jG:∀t:Ty,eQ E7 t=t
 | .name s=>rfl
 | .plus a b=>by simp only[eQ,jG a,jG b]
 | .times a b=>by simp only[eQ,jG a,jG b]
 | .rc a=>by simp only[eQ,jG a]
 | .zero=>rfl
 | .one=>rfl
 | .bound k=>rfl
theorem F2{n:Nat}{a D:Ty}{x:Nm}(hx:bg x a=false)(hl:jU (.rc a) 0)(h:u4 a x=some D){c:Vl}(hc:vT n c D=true) :
 dy a c=true/\∀v,vT n v (.rc a)=true->vT n (.f (dS a c v)) (.rc a)=true:=by
 simp only[u4,bx,dC,iV]at h
 obtain⟨d,hd,_,rfl⟩:=h
 have lo:jU (dM (.name x) a 0) 0:=iE x a hl
 have hcl:=nH tD x hl
 have e1:sub x (.rc a) d=eQ (iQ E7 x (.rc a)) d:=by
  have:=iP E7 x (.rc a) d
  rw[jG,jG]at this;exact this
 rw[e1]at hc
 have h1:=uH n c.nodes c (az _) _ x _ _ hd hcl lo hc
 rw[iI x c.nodes c a 0 (az _)]at h1
 refine⟨h1,fun v hv=>?_⟩
 have h2:=pA n c.nodes c (az _) _ x _ _ hd hcl lo hc v (by simpa[eQ,iQ]using hv)
 rw[eU x c.nodes c a 0 v (az _),jl tD x _ a 0 hx,jG]at h2
 exact h2
end Go.Proofs.Trees
namespace Go.Proofs.Trees
open Go Go.VL Go.RowKit
theorem xM{env:List Fr}(h:WF env):∀w,w∈names env->cP w=true:=by
 induction h with
 |nil=>intro w hw;cases hw
 |
  cons hs _ _ _ _ _ ih =>
  intro w hw
  simp only[names,aK,aR]at hw
  rcases hw with hw|rfl
  ·exact ih w hw
  ·exact hs
theorem An{ar:List (List UInt8)}{k:Nat}(h:k<ar.length):gj ar k∈ar:=by
 unfold gj
 have:ar.length-1-k<ar.length:=by omega
 simp[aa,this]
def za(s:List UInt8)(ar:List (List UInt8)):Prop:=gC s=true\/(bH s ar ar.length).isSome=true
theorem uD{s:List UInt8}{ar:List (List UInt8)}{u:Nat}(hl:∀w,w∈ar->cP w=true)(h:bH s ar ar.length=some u):cP s=true:=by
 obtain⟨h1,h2⟩:=fN _ _ (az _) h
 rw[<-h2];exact hl _ (An h1)
theorem Gg{s0 s:List UInt8}{ar:List (List UInt8)}{t:Ty}(ht:cB (.atom s0) ar=some t)(hl:∀w,w∈ar->cP w=true)(hs:za s ar):fm t (oy s ar)=decide (s0=s):=by
 have h48:∀b:UInt8,gC [b]=false->cP [b]=false->s≠[b]:=fun b h1 h2 e=>by
  subst e
  rcases hs with h|h
  ·rw[h1]at h;cases h
  ·obtain⟨u,hu⟩:=bM.1 h
   rw[uD hl hu]at h2;cases h2
 simp only[cB]at ht
 split at ht
 ·rename_i e;cases ht;subst e
  have:=h48 48 rfl rfl
  rw[decide_eq_false (fun h=>this h.symm)];cases oy s ar<;>rfl
 ·split at ht
  ·rename_i e;cases ht;subst e
   have:=h48 49 rfl rfl
   rw[decide_eq_false (fun h=>this h.symm)];cases oy s ar<;>rfl
  ·split at ht
   ·rename_i hp
    cases ht
    unfold oy
    cases e:bH s ar ar.length with
    |none=>rfl
    |
     some u =>
     have hloo:=uD hl e
     show false=_
     rw[decide_eq_false]
     rintro rfl
     rw[jY hp]at hloo;cases hloo
   ·rename_i hnp
    split at ht
    ·split at ht
     ·rename_i u hu
      cases ht
      unfold oy
      cases e:bH s ar ar.length with
      |
       none =>
       show false=_
       rw[decide_eq_false]
       rintro rfl
       rw[hu]at e;cases e
      |
       some u' =>
       show decide (u=u')=_
       rw[cr,decide_eq_true_eq,decide_eq_true_eq]
       constructor
       ·rintro rfl
        rw[<-(fN _ _ (az _) hu).2,<-(fN _ _ (az _) e).2]
       ·rintro rfl
        rw[hu]at e;cases e;rfl
     ·rename_i hn
      cases ht
      unfold oy
      cases e:bH s ar ar.length with
      |none=>rfl
      |
       some u =>
       show false=_
       rw[decide_eq_false]
       rintro rfl
       rw[hn]at e;cases e
    ·cases ht
theorem Cw{b:E}{ar:List (List UInt8)}{w:List UInt8}{t:Ty}(hb:cB b (ar++[w])=some t)(hw:cP w=true)(hs:za w ar):tJ t (oy w ar).up=false:=by
 rcases hs with h|h
 ·rw[jY h]at hw;cases hw
 ·obtain⟨u,hu⟩:=bM.1 h
  rw[oy,hu];exact Em hb hu
theorem xQ{s w:List UInt8}{ar:List (List UInt8)}(h:w≠s)(hs:za s ar):za s (ar++[w]):=by
 rcases hs with h1|h1
 ·exact .inl h1
 ·right;rw[jk ar h];obtain⟨u,hu⟩:=bM.1 h1;rw[hu];rfl
def Mn(e:E)(s:List UInt8)(t:Ty)(tg:Tg)(v:Vl):Prop:=aq Tryz.prog 37 [.agg [.v (.string (mk e.at)),e.sp],.v (.string (mk s)),.agg [.v (.string (mk v.dc.at)),v.dc.sp]] [] (bz (.sl (lF (bT t tg v))))
theorem Dy(n:Nat):∀(m:Nat) (v:Vl),v.nodes<=m->∀(e:E) (env:List Fr) (t:Ty),Ask e env t->eG n v (e,env)=true->env.length+v.nodes<100000->∀(s:List UInt8),za s (names env)->Mn e s t (oy s (names env)) v
 |0,v,hm=>by have:=dx v;omega
 |
  m+1,v,hm=>by
  intro e env t A hv hl s hs
  have hloo:=xM A.wf
  unfold Mn
  refine Mt _ _ _ _ _ ((bb _).mpr trivial) ((bb _).mpr trivial) ?_
  have hlen:=mD t (oy s (names env)) v
  have atomCase:∀s0,e=.atom s0->stuck t v=true->eK Tryz.prog 244 (vK (mk e.at) e.sp (mk s) (mk v.dc.at) v.dc.sp) fun _ xs obs=>bz (.sl (lF (bT t (oy s (names env)) v))) (xs.headD .any) obs:=by
   rintro s0 rfl hst
   have hat:=Gg A.ty hloo hs
   have hne:s0≠[]:=A.ok
   simp only[vK,E.at,↓zq,zs,af,zt]
   refine⟨fun _=>⟨fun h=>?_,fun h=>?_⟩,fun h=>absurd h hne⟩
   ·rw[decide_eq_true h]at hat
    rw[l8 v hat]
    refine⟨⟨xP _ _ _ _,by omega⟩,?_⟩
    simp[bz,lF,Vl.dc,E.at,E.sp]
   ·rw[decide_eq_false h]at hat
    rw[dF hat hst]
    simp[bz,lF]
  have hvh:=Jy v
  rw[ei]at hvh
  rcases gT A.wf A.ty with⟨hb,hq⟩|⟨u,g,rfl,hq,hu⟩
  ·have hhd:hd e env=(e,env):=j4 hq
   rcases fM A.ty hb A.cl with⟨rfl,rfl⟩|⟨rfl,rfl⟩|⟨s0,rfl,rfl,hp,h0,h1⟩|⟨x,a,b,t1,t2,rfl,hx,rfl,ha,hbb⟩|⟨x,a,b,t1,t2,rfl,hx,rfl,ha,hbb⟩|⟨x,a,b,t1,rfl,hx,rfl⟩
   ·exact atomCase _ rfl (by cases v<;>rfl)
   ·exact atomCase _ rfl (by cases v<;>rfl)
   ·exact atomCase _ rfl (by cases v<;>rfl)
   ·obtain⟨ok1,ok2,ok3,_⟩:=A.ok
    obtain⟨f1,f2⟩:=fP A.cl
    have hP:=P3.of x a b
    cases v with
    |
     l w =>
     simp only[eG,hhd,hx,beq_self_eq_true,bG]at hv
     simp only[Vl.nodes]at hm hl hlen
     rw[mF]at hlen |-
     rw[fA]at hlen
     have hW:=P2.of (.atom [108]) w.dc
     simp only[vK,E.at,↓zq,zs,af,zt]
     refine⟨fun h=>absurd rfl h,fun _=>ak hvh ?_⟩
     simp only[vh,Vl.dc,toNat_one,bq,↓zq,zs,af,zt,hP.1,hP.2.1,hP.2.2.1,hP.2.2.2,hW.1,hW.2.1,hW.2.2,aP]
     refine⟨fun _=>?_,fun h=>absurd rfl h⟩
     repeat refine⟨by omega,?_⟩
     refine ak (Dy n m w (by omega) a env t1 ⟨ok2,A.wf,ha,f1⟩ hv (by omega) s hs) ?_
     simp only[↓zq,zs,af]
     refine aY (GW [108] Vl.l (fun c=>rfl) (bT t1 (oy s (names env)) w) [] (by simp;omega)) ?_
     simp[↓zq,zs,af,bz,aX,bK]
    |
     r w =>
     simp only[eG,hhd,hx,beq_self_eq_true,bG]at hv
     simp only[Vl.nodes]at hm hl hlen
     rw[mC]at hlen |-
     rw[fA]at hlen
     have hW:=P2.of (.atom [114]) w.dc
     simp only[vK,E.at,↓zq,zs,af,zt]
     refine⟨fun h=>absurd rfl h,fun _=>ak hvh ?_⟩
     simp only[vh,Vl.dc,toNat_one,bq,↓zq,zs,af,zt,hP.1,hP.2.1,hP.2.2.1,hP.2.2.2,hW.1,hW.2.1,hW.2.2,aP]
     refine⟨fun h=>by simp at h,fun _=>⟨fun _=>?_,fun h=>absurd rfl h⟩⟩
     repeat refine⟨by omega,?_⟩
     refine ak (Dy n m w (by omega) b env t2 ⟨ok3,A.wf,hbb,f2⟩ hv (by omega) s hs) ?_
     simp only[↓zq,zs,af]
     refine aY (GW [114] Vl.r (fun c=>rfl) (bT t2 (oy s (names env)) w) [] (by simp;omega)) ?_
     simp[↓zq,zs,af,bz,aX,bK]
    |_=>simp[eG,hhd,hx]at hv
   ·obtain⟨ok1,ok2,ok3,_⟩:=A.ok
    obtain⟨f1,f2⟩:=fj A.cl
    have hP:=P3.of x a b
    cases v with
    |
     p w w' =>
     simp only[eG,hhd,hx,beq_self_eq_true,bG,au]at hv
     simp only[Vl.nodes]at hm hl hlen
     rw[mn]at hlen |-
     simp only[an,fA]at hlen
     have hW:=P3.of (.atom [112]) w.dc w'.dc
     simp only[vK,E.at,↓zq,zs,af,zt]
     refine⟨fun h=>absurd rfl h,fun _=>ak hvh ?_⟩
     simp only[vh,Vl.dc,toNat_one,bq,↓zq,zs,af,zt,hP.1,hP.2.1,hP.2.2.1,hP.2.2.2,hW.1,hW.2.1,hW.2.2.1,hW.2.2.2,aP]
     refine⟨fun h=>by simp at h,fun _=>⟨fun h=>by simp at h,fun _=>⟨fun _=>?_,fun h=>absurd rfl h⟩⟩⟩
     repeat refine⟨by omega,?_⟩
     refine ak (Dy n m w (by omega) a env t1 ⟨ok2,A.wf,ha,f1⟩ hv.1 (by omega) s hs) ?_
     simp only[↓zq,zs,af]
     have h1:=Hx s (mk []) (E.list [x,a,b]).sp ((bb _).mpr trivial) (mk []) (E.list [.atom [112],w.dc,w'.dc]).sp w w' (P3.of _ _ _) (bT t1 (oy s (names env)) w) (by omega) _ 0 [] (aS _) (by simp;omega)
     rw[bj,ba]at h1
     refine cm h1 ?_
     simp only[↓zq,zs,af,bb,af,bq,hP.1,hP.2.1,hP.2.2.2,hW.1,hW.2.1,hW.2.2.2,aP]
     repeat refine⟨by omega,?_⟩
     refine ak (Dy n m w' (by omega) b env t2 ⟨ok3,A.wf,hbb,f2⟩ hv.2 (by omega) s hs) ?_
     simp only[↓zq,zs,af]
     have h2:=Kv (mk []) (E.list [.atom [112],w.dc,w'.dc]).sp w w' (P3.of _ _ _) (bT t2 (oy s (names env)) w') (by omega) _ 0 (ja (fun c=>Vl.l (.p c w')) (bT t1 (oy s (names env)) w)) (aS _) (by rw[fA];omega)
     rw[bj]at h2
     refine cm h2 ?_
     simp[↓zq,zs,af,bz]
    |_=>simp[eG,hhd,hx]at hv
   ·obtain⟨t1',he1,h1,f1,hw1⟩:=jI A.wf A.ok hx A.ty A.cl
    cases he1
    obtain⟨ok1,ok2,ok3,_⟩:=A.ok
    obtain⟨_,hla,_,_⟩:=df hx A.ty
    have A':Ask b (.mk a.at (.list [x,a,b]) env::env) t1:=⟨ok3,hw1,h1,f1⟩
    have hnm:names (.mk a.at (.list [x,a,b]) env::env)=names env++[a.at]:=rfl
    have hP:=P3.of x a b
    cases v with
    |
     f w =>
     simp only[eG,hhd,hx,beq_self_eq_true,bG]at hv
     simp only[Vl.nodes]at hm hl hlen
     have hW:=P2.of (.atom [102]) w.dc
     simp only[vK,E.at,↓zq,zs,af,zt]
     refine⟨fun h=>absurd rfl h,fun _=>ak hvh ?_⟩
     simp only[vh,Vl.dc,toNat_one,bq,↓zq,zs,af,zt,hP.1,hP.2.1,hP.2.2.1,hP.2.2.2,hW.1,hW.2.1,hW.2.2,aP]
     refine⟨fun h=>by simp at h,fun _=>⟨fun h=>by simp at h,fun _=>⟨fun h=>by simp at h,fun _=>?_⟩⟩⟩
     repeat refine⟨by omega,?_⟩
     refine⟨fun h=>?_,fun h=>?_⟩
     ·
      have hh:a.at=s:=h
      subst hh
      have:tJ (.rc t1) (oy a.at (names env))=false:=Cw h1 hla hs
      rw[iv _ _ (az _) _ _ this]
      simp[bz,lF]
     ·have hh:a.at≠s:=h
      rw[my]at hlen |-
      simp only[an,fA]at hlen
      repeat refine⟨by omega,?_⟩
      have i1:=Dy n m w (by omega) b _ t1 A' hv (by simp;omega) s (by rw[hnm];exact xQ hh hs)
      rw[hnm,xV _ hh]at i1
      refine ak i1 ?_
      simp only[↓zq,zs,af]
      have h3:=Hc s a.at (mk []) (E.list [x,a,b]).sp ((bb _).mpr trivial) (mk []) (E.list [.atom [102],w.dc]).sp ((bb _).mpr trivial) (bT t1 (oy s (names env)).up w) (by omega) _ 0 [] (aS _) (by simp;omega)
      rw[bj,ba]at h3
      refine cm h3 ?_
      simp only[↓zq,zs,af,bb,af,toNat_one,bq,hP.1,hP.2.1,hP.2.2.2,hW.1,hW.2.1,hW.2.2,aP]
      repeat refine⟨by omega,?_⟩
      have i2:=Dy n m w (by omega) b _ t1 A' hv (by simp;omega) a.at (by rw[hnm];right;rw[gp];rfl)
      rw[hnm,uA]at i2
      refine ak i2 ?_
      simp only[↓zq,zs,af]
      have hl2:=mD t1 (.bd 0) w
      have ih3:∀h,h∈bT t1 (.bd 0) w->Mn (.list [x,a,b]) s (.rc t1) (oy s (names env)) h.2:=fun h hh=>by
       have h3:=(i6 hh).1
       have h4:=gP n m w (by omega) b _ t1 A' hv 0 _ rfl h hh
       exact Dy n m h.2 (by omega) (.list [x,a,b]) env (.rc t1) A h4 (by omega) s hs
      have h4:=K5 s (.list [x,a,b]) t1 (oy s (names env)) (bT t1 (.bd 0) w) (by omega) ih3 _ 0 (ja (fun c=>.f (.l c)) (bT t1 (oy s (names env)).up w)) (aS _) (by
       simp only[bj,an,fA]
       have hlen2:(bT t1 (oy s (names env)).up w).length+((bT t1 (.bd 0) w).flatMap (yR t1 (oy s (names env)))).length<=1+w.nodes:=hlen
       omega)
      rw[bj]at h4
      simp only[E.at]at h4
      refine cm h4 ?_
      simp[↓zq,zs,af,bz]
    |_=>simp[eG,hhd,hx]at hv
  ·cases e with
   |atom s0=>exact atomCase _ rfl (by cases v<;>rfl)
   |list l=>exact absurd hq (by rw[show (E.list l).at=[] from rfl,mr A.wf];simp)
end Go.Proofs.Trees
namespace Go.Proofs.Trees
open Go Go.VL Go.RowKit
def lL(s:List UInt8):Option Ty:=match vP s with
 |some (.rc a)=>some a
 |_=>none
def yY:Option Ty->AV
 |some a=>(Ty.rc a).av
 |none=>iR
theorem OI(s:List UInt8):aq Tryz.prog 51 [.v (.string (mk s))] [] (bz (yY (lL s))):=by
 refine MR _ ?_
 unfold Iw
 refine ak (Hm s) ?_
 cases h:vP s with
 |none=>simp[↓zq,zs,af,gK,yY,lL,h,bz]
 |some t=>cases t<;>simp[↓zq,zs,af,gK,yY,lL,h,bz,Ty.av]
def jW(s v:List UInt8):Option Vl:=match lL s with
 |some _=>mI s v 100
 |none=>none
def ES(s:List UInt8):AV:=match lL s with
 |some a=>(Ty.rc a).av
 |none=>iR
theorem sL{s:List UInt8}{a:Ty}(h:lL s=some a):vP s=some (.rc a):=by
 unfold lL at h
 split at h
 ·rename_i e;cases h;exact e
 ·cases h
theorem J9(s v:List UInt8):aq Tryz.prog 24 [.v (.string (mk s)),.v (.string (mk v))] [] (bz (.cW [ES s,gm (jW s v)])):=by
 refine MY _ _ ?_
 unfold JC
 refine ak (OI s) ?_
 cases h:lL s with
 |none=>simp[↓zq,zs,af,yY,ES,jW,h,bz,gm]
 |
  some a =>
  simp only[↓zq,zs,af,yY,aE,fk]
  refine⟨fun h=>(by cases h),fun _=>?_⟩
  refine ak (DC s v 100) ?_
  rw[sL h]
  simp[↓zq,zs,af,gK,gM,ES,jW,h,bz,aE]
structure LV(s v:List UInt8)(w:Vl)(a:Ty)(x A B:E):Prop where
 l:lL s=some a
 ce:jo s=some (.list [x,A,B])
 v:qy v=some w
 ask:Ask (.list [x,A,B]) [] (.rc a)
 hx:x.at=[114,101,99]
 PJ:cP A.at=true
 body:Ask B [.mk A.at (.list [x,A,B]) []] a
 eG:eG 100 w (.list [x,A,B],[])=true
theorem rE{e:E}{env:List Fr}{a:Ty}(A:Ask e env (.rc a)):∃x y z,e=.list [x,y,z]/\x.at=[114,101,99]/\cP y.at=true/\Ask z (.mk y.at (.list [x,y,z]) env::env) a:=by
 rcases fM A.ty rfl A.cl with⟨_,h⟩|⟨_,h⟩|⟨s,_,h,_⟩|⟨x,y,z,t1,t2,_,_,h,_⟩|⟨x,y,z,t1,t2,_,_,h,_⟩|⟨x,y,z,t1,rfl,hx,h⟩
 ·cases h
 ·cases h
 ·cases h
 ·cases h
 ·cases h
 ·cases h
  obtain⟨t1',he1,h1,f1,hw1⟩:=jI A.wf A.ok hx A.ty A.cl
  cases he1
  obtain⟨_,_,ok3,_⟩:=A.ok
  obtain⟨_,hla,_,_⟩:=df hx A.ty
  exact⟨x,y,z,rfl,hx,hla,ok3,hw1,h1,f1⟩
theorem oK{s v:List UInt8}{w:Vl}(h:jW s v=some w):∃a x A B,LV s v w a x A B:=by
 unfold jW at h
 split at h
 ·rename_i a hl
  obtain⟨e,t,m,h1,h2,h3,h4,h5,h6,h7⟩:=qg h
  rw[sL hl]at h3
  cases h3
  obtain⟨x,A,B,rfl,hx,hA,hB⟩:=rE h4
  have:m=100:=by omega
  subst this
  exact⟨a,x,A,B,hl,h1,h2,h4,hx,hA,hB,h7⟩
 ·cases h
theorem LV.iq{s v:List UInt8}{w:Vl}{a:Ty}{x A B:E}(h:LV s v w a x A B):w.iq 100:=(jQ h.v).2.1
theorem LV.nodes{s v:List UInt8}{w:Vl}{a:Ty}{x A B:E}(h:LV s v w a x A B):w.nodes<=200:=(jQ h.v).2.2
theorem sW{n:Nat}{v:Vl}{x A B:E}{env:List Fr}(hw:WF env)(hx:x.at=[114,101,99])(h:eG n v (.list [x,A,B],env)=true):∃w,v=.f w/\eG n w (B,.mk A.at (.list [x,A,B]) env::env)=true:=by
 have hd:=o0 (x:=x) (a:=A) (b:=B) hw
 cases v<;>simp[eG,hd,hx]at h |-
 exact h
theorem NK(n:Nat)(v:Vl)(x A B:E)(a:Ty)(hA:Ask B [.mk A.at (.list [x,A,B]) []] a)(hx:x.at=[114,101,99])(hv:eG n v (.list [x,A,B],[])=true)(hl:v.nodes<90000):aq Tryz.prog 35 [(Ty.rc a).av,v.cn] [] (bz (.sl (gU (kids a v)))):=by
 obtain⟨w,rfl,hw⟩:=sW .nil hx hv
 refine MX _ _ ((aE _).mpr trivial) ((aL _).mpr trivial) ?_
 unfold HO
 refine aQ (Bl a iR [] .nil) (Az.ne a iR []) ?_
 rintro r o ⟨⟨m,hm,rfl⟩,rfl⟩
 have he2:kg (.ptr [.pid m [(Ty.rc a).av,iR],iR]) [m]:=.cons hm .nil
 have hfr:LK.ptr.has (.pid m [(Ty.rc a).av,iR]):=.inr (.inr ⟨_,_,rfl⟩)
 simp only[Ty.av]at he2 hfr
 simp only[↓zq,zs,af,bO,aE,he2.has,hfr,Vl.cn,aL,Ty.av]
 repeat refine⟨by omega,?_⟩
 simp only[Vl.nodes]at hl
 have i2:=Dw n w.nodes w (az _) B _ a hA hw (by simp;omega) _ _ he2 (by simp) (.bd 0) [] _ (by have:=yS.bd (k:=0) (ids:=[m]) (by simp) [(Ty.rc a).av,iR] [];simpa only[bc,Ty.av]using this)
 unfold D5 at i2
 refine ak i2 ?_
 simp[↓zq,zs,af,bz,kids]
def qo(l:List Nat):List (List AV):=l.map fun(k:Nat)=>[.v (.int .i64 (k:Int))]
theorem vy(l:List Nat):(qo l).length=l.length:=by simp[qo]
end Go.Proofs.Trees
namespace Go.Proofs.Trees
open Go Go.VL Go.RowKit
theorem EV{b:UInt8}(h:gL b=true):eJ b=true:=by
 simp only[gL,eJ,decide_eq_true_eq]at h |-;omega
theorem Br{y:Nm}(h:KQ y):y≠[]/\y.all eJ=true:=by
 have key:∀lo hi,97<=lo->hi<=122->named lo hi y=true->y≠[]/\y.all eJ=true:=fun lo hi h1 h2 h=>by
  cases y with
  |nil=>cases h
  |
   cons c r =>
   simp only[named,au,decide_eq_true_eq]at h
   refine⟨by simp,?_⟩
   rw[cI,au]
   refine⟨?_,?_⟩
   ·simp only[eJ,decide_eq_true_eq];omega
   ·rw[bI]
    intro b hb
    exact EV (bI.1 h.2 b hb)
 rcases h with h|h
 ·exact key 120 122 (by omega) (by omega) h
 ·exact key 116 116 (by omega) (by omega) h
theorem AM(m:Nat):(tN m).all eJ=true:=by
 rw[cI,vH (m+1) m (by omega)];rfl
theorem oO(F:List Nm):∀(t:Ty) (to:List Nm) (k:Nat),(∀y,bg y t=true->y≠[]/\y.all eJ=true)->(∀w,w∈to->w≠[]/\w.all eJ=true)->jU t to.length->(i7 F t to k).1.pr
 | .zero,_,_,_,_,_=>⟨by simp,by decide⟩
 | .one,_,_,_,_,_=>⟨by simp,by decide⟩
 | .name s,_,_,hn,_,_=>hn s (by simp[bg])
 |
  .bound u,to,_,_,ht,hl=>by
  have:to.length-1-u<to.length:=by have:u<to.length:=hl;omega
  show (E.atom (gj to u)).pr
  unfold gj
  rw[aa,bm this]
  exact ht _ (bJ this)
 | .plus a b,to,k,hn,ht,hl=>⟨by simp,⟨by simp,by decide⟩,oO F a to k (fun y hy=>hn y (by simp[bg,hy])) ht hl.1,oO F b to _ (fun y hy=>hn y (by simp[bg,hy])) ht hl.2,trivial⟩
 | .times a b,to,k,hn,ht,hl=>⟨by simp,⟨by simp,by decide⟩,oO F a to k (fun y hy=>hn y (by simp[bg,hy])) ht hl.1,oO F b to _ (fun y hy=>hn y (by simp[bg,hy])) ht hl.2,trivial⟩
 |
  .rc a,to,k,hn,ht,hl=>by
  refine⟨by simp,⟨by simp,by decide⟩,⟨by simp,AM _⟩,oO F a (to++[tN (nx F k)]) _ hn (fun w hw=>?_) (by rw[an];exact hl),trivial⟩
  rcases aK.1 hw with hw|hw
  ·exact ht w hw
  ·simp only[aR]at hw;rw[hw];exact⟨by simp,AM _⟩
theorem yH{D:Ty}{dt:Nm}(g:ia D)(hn:∀y,bg y D=true->KQ y)(h:told D=some dt):so dt=some D:=by
 unfold told at h
 split at h
 ·rename_i hh
  cases h
  obtain⟨t,ht⟩:=bM.1 hh.2
  obtain⟨e,he,hw,hte,_,_⟩:=qJ ht
  obtain⟨h1,_,_⟩:=qW he
  obtain⟨hx,hpr,_⟩:=xd h1
  obtain⟨w1,w2,_⟩:=l4 (bL D []) D [] 0 (.nil _ _) g.1 fun y hy=>⟨(fF D [] y).2 (.inr hy),g.2 y hy⟩
  have hp:=oO (bL D []) D [] 0 (fun y hy=>Br (hn y hy)) (fun w hw=>by cases hw) g.1
  have:=yT hp hpr hx
  rw[ht,<-hte,<-this,w2]
 ·cases h
theorem sf{a d:Ty}{x:Nm}(h:u4 a x=some d):∀y,bg y d=true->bg y a=true:=by
 simp only[u4,bx,dC,iV]at h
 obtain⟨d',h1,_,rfl⟩:=h
 intro y hy
 rcases iL _ hy with h|⟨h,h'⟩
 ·exact h
 ·rcases gb a 0 (h1.names y h')with e|e
  ·exact absurd e h
  ·exact e
structure ZT(s d:Nm)(a:Ty)(x A B:E)(D:Ty):Prop where
 l:lL s=some a
 ce:jo s=some (.list [x,A,B])
 ask:Ask (.list [x,A,B]) [] (.rc a)
 hx:x.at=[114,101,99]
 body:Ask B [.mk A.at (.list [x,A,B]) []] a
 dl:dE s=some d
 y:so s=some (.rc a)
 lp:u4 a l7=some D
 bk:so d=some D
theorem xc{s:Nm}{t:Ty}(h:vP s=some t):so s=some t:=by
 unfold vP at h
 split at h
 ·cases h
 ·rename_i u hu
  split at h
  ·cases h;exact hu
  ·cases h
theorem ZT.of{s d:Nm}{a:Ty}(hl:lL s=some a)(hd:dE s=some d):∃x A B D,ZT s d a x A B D:=by
 have hc:=sL hl
 cases hce:jo s with
 |none=>rw[mo hce]at hc;cases hc
 |
  some e =>
  obtain⟨t,h1,hA,_⟩:=gu hce
  rw[hc]at h1;cases h1
  obtain⟨x,A,B,rfl,hx,hA',hB⟩:=rE hA
  have hy:=xc hc
  have hd':=hd
  unfold dE at hd'
  rw[hy]at hd'
  obtain⟨D,h2,h3⟩:=bx.1 hd'
  obtain⟨e2,he2,hw2,hte2,_,_⟩:=qJ hy
  have hg:=tS hw2 hte2 (x:=l7) ⟨by simp,by simp,by simp⟩ h2
  exact⟨x,A,B,D,hl,hce,hA,hx,hB,hd,hy,h2,yH hg.1 (fun y hy'=>mE hy y (sf h2 y hy')) h3⟩
structure Cx(a:Ty)(w:Vl):Prop where
 ok:dy a w=true
 ty:∀v,vT 100 v (.rc a)=true->vT 100 (.f (dS a w v)) (.rc a)=true
 iq:w.iq 100
 nd:w.nodes<=200
structure Fo(a:Ty)(v:Vl):Prop where
 ty:vT 100 v (.rc a)=true
 iq:v.iq 100
 nd:v.nodes<=200
theorem ZT.ctx{s d:Nm}{a:Ty}{x A B:E}{D:Ty}(z:ZT s d a x A B D){c:Nm}{w:Vl}(h:mI d c 100=some w):Cx a w:=by
 obtain⟨e,t,m,h1,h2,h3,h4,h5,h6,h7⟩:=qg h
 have hm:m=100:=by omega
 subst hm
 have:=xc h3
 rw[z.bk]at this;cases this
 rw[mz h4]at h7
 obtain⟨e2,he2,hw2,hte2,_,_⟩:=qJ z.y
 have hlc:jU (.rc a) 0:=hte2 ▸ hw2.DX.1
 obtain⟨q1,q2⟩:=F2 (zc z.y) hlc z.lp h7
 exact⟨q1,q2,(jQ h2).2.1,(jQ h2).2.2⟩
theorem ZT.Bi{s d:Nm}{a:Ty}{x A B:E}{D:Ty}(z:ZT s d a x A B D){f:Nm}{v:Vl}(h:jW s f=some v):Fo a v/\f=v.dm:=by
 obtain⟨a',x',A',B',L⟩:=oK h
 have:=L.l
 rw[z.l]at this;cases this
 exact⟨⟨by rw[<-mz L.ask];exact L.eG,L.iq,L.nodes⟩,mB L.v⟩
theorem Fo.eG{s d:Nm}{a:Ty}{x A B:E}{D:Ty}(z:ZT s d a x A B D){v:Vl}(h:Fo a v):eG 100 v (.list [x,A,B],[])=true:=by rw[mz z.ask];exact h.ty
theorem ZT.dm{s d:Nm}{a:Ty}{x A B:E}{D:Ty}(z:ZT s d a x A B D){w:Vl}(hb:w.iq 100)(hv:vT 100 w (.rc a)=true):mI s w.dm 100=if w.nodes<=200 then some w else none:=by
 unfold mI
 rw[z.ce]
 by_cases hn:w.nodes<=200
 ·rw[tx hb hn,if_pos hn]
  simp only
  rw[if_pos ⟨by omega,by rw[show (100:Int).toNat=100 from rfl,mz z.ask];exact hv⟩]
 ·rw[if_neg hn]
  cases q:qy w.dm with
  |none=>rfl
  |
   some w' =>
   exfalso
   obtain⟨_,h2,h3⟩:=jQ q
   have:=sG hb h2 (mB q)
   rw[this]at hn;exact hn h3
theorem ZT.lv{s d:Nm}{a:Ty}{x A B:E}{D:Ty}(z:ZT s d a x A B D)(f:Nm):jW s f=mI s f 100:=by
 unfold jW;rw[z.l]
def ig(d:Nm):List Nm->Option (List Vl)
 |[]=>some []
 |
  c::r=>match mI d c 100,ig d r with
  |some w,some l=>some (w::l)
  |_,_=>none
theorem qa{s d:Nm}{a:Ty}{x A B:E}{D:Ty}(z:ZT s d a x A B D):∀(p:List Nm) (l:List Vl),ig d p=some l->p=l.map (·.dm)/\∀c,c∈l->Cx a c
 |[],l,h=>by cases h;exact⟨rfl,fun c hc=>by cases hc⟩
 |
  c::r,l,h=>by
  simp only[ig]at h
  split at h
  ·rename_i w l' h1 h2
   cases h
   obtain⟨q1,q2⟩:=qa z r l' h2
   obtain⟨_,_,_,_,hv,_⟩:=qg h1
   refine⟨by rw[bD,<-q1,<-mB hv],fun c' hc'=>?_⟩
   rcases aJ.1 hc' with rfl|hc'
   ·exact z.ctx h1
   ·exact q2 c' hc'
  ·cases h
theorem se(d:Nm):∀(p q:List Nm),ig d (p++q)=(ig d p).bind fun l=>(ig d q).map (l++·)
 |[],q=>by cases h:ig d q<;>simp[ig,h]
 |
  c::p,q=>by
  simp only[bC,ig,se d p q]
  cases mI d c 100 with
  |none=>rfl
  |
   some w =>
   cases ig d p with
   |none=>rfl
   |some l=>cases ig d q<;>rfl
noncomputable def FB (s:Nm) (p:List Nm) (f:Nm):Option (List Vl×Vl):=match jW s f,dE s with
 |some v,some d=>if p.length<=50 then(ig d p).map fun l=>(l,v)else none
 |_,_=>none
def zA(s:Nm):Ty:=(lL s).getD .zero
def Dr(a:Ty)(l:List Vl)(v:Vl):Option (List Vl×Vl):=match l.getLast? with
 |none=>none
 |some c=>if(Vl.f (dS a c v)).nodes<=200 then some (l.dropLast,.f (dS a c v))else none
def qs:Nat->Ty->List Vl->Vl->Option Vl
 |0,_,_,v=>some v
 |n+1,a,l,v=>(Dr a l v).bind fun r=>qs n a r.1 r.2
def yQ(a:Ty)(l:List Vl)(v:Vl):Option Vl:=qs l.length a l v
noncomputable def uO (s:Nm) (p:List Nm) (f:Nm):Option (List Vl×Vl):=(FB s p f).bind fun r=>if(yQ (zA s) r.1 r.2).isSome=true then some r else none
structure ZI(a:Ty)(l:List Vl)(v:Vl):Prop where
 ctx:∀c,c∈l->Cx a c
 Bi:Fo a v
theorem DK{a:Ty}{l l':List Vl}{v w:Vl}(h:ZI a l v)(hu:Dr a l v=some (l',w)):ZI a l' w/\l'.length+1=l.length/\∃c,l=l'++[c]/\w=.f (dS a c v):=by
 unfold Dr at hu
 cases q:l.getLast? with
 |none=>rw[q]at hu;cases hu
 |
  some c =>
  rw[q]at hu
  simp only at hu
  split at hu
  ·rename_i hn
   cases hu
   have hne:l≠[]:=by rintro rfl;cases q
   have hl:l.dropLast++[c]=l:=by
    have:=List.dropLast_concat_getLast hne
    rw[List.getLast?_eq_some_getLast hne]at q
    cases q;exact this
   have hc:c∈l:=by rw[<-hl];simp
   have hC:=h.ctx c hc
   refine⟨⟨fun c' hc'=>h.ctx c' (by rw[<-hl];exact aB _ hc'),hC.ty v h.Bi.ty,tR 100 a c v hC.iq h.Bi.iq,hn⟩,?_,c,hl.symm,rfl⟩
   have:=congrArg List.length hl
   simpa using this
  ·cases hu
end Go.Proofs.Trees
namespace Go.Proofs.Trees
open Go Go.VL Go.RowKit
theorem u9(w:World)(k:Nat)(os:Array Obj):Below w.heap.size w (Go.«Sort».grow (w.drewN k) os):=by
 refine⟨rfl,rfl,rfl,?_,fun b hb=>?_⟩
 ·simp[Go.«Sort».grow,World.drewN]
 ·simp only[Go.«Sort».grow,World.drewN]
  rw[Array.getElem?_append_left hb]
theorem EW(k:Nat)(hk:k<1000000000):aq Tryz.prog 120 [.v (.int .i64 (k:Int))] [] (bz (.v (.string (mk (dd k))))):=by
 refine aq.Nw (xs:=[.int .i64 (k:Int)]) ⟨pK,by kernel_rfl,by kernel_rfl,by kernel_rfl⟩ fun w ht=>?_
 have:=Any.strconv_Itoa Tryz.Aa (k:Int) (by omega) (by omega) w ht
 refine Calls.mono this fun e w' ⟨h1,n,os,h2⟩=>⟨?_,?_⟩
 ·rw[h1,Lib.itoa_nonneg];rfl
 ·rw[h2];exact u9 w n os
abbrev hN(k:Nat):Nm:=35::dd k
theorem tn{j k:Nat}(h:hN j=hN k):j=k:=we (j+1) j k (by omega) (List.cons.inj h).2
theorem vQ(u:Ty):∀(t:Ty) (i:Nat),i+t.atoms<1000000->aq Tryz.prog 79 [t.av,u.av,.v (.int .i64 (i:Int))] [] (bz (dM u t i).av)
 |
  .zero,i,_=>by
  refine u6 _ _ _ ((aE _).mpr trivial) ((aE _).mpr trivial) ?_
  simp[Ds,Ty.av,dM,↓zq,zs,af,bz]
 |
  .one,i,_=>by
  refine u6 _ _ _ ((aE _).mpr trivial) ((aE _).mpr trivial) ?_
  simp[Ds,Ty.av,dM,↓zq,zs,af,bz]
 |
  .name s,i,_=>by
  refine u6 _ _ _ ((aE _).mpr trivial) ((aE _).mpr trivial) ?_
  simp[Ds,Ty.av,dM,↓zq,zs,af,bz]
 |
  .bound k,i,_=>by
  refine u6 _ _ _ ((aE _).mpr trivial) ((aE _).mpr trivial) ?_
  simp only[Ds,Ty.av,dM,↓zq,zs,af,bz]
  refine⟨by omega,fun _=>⟨by omega,fun h=>?_,fun h=>?_⟩,fun h=>absurd rfl h⟩
  ·rw[if_pos (by omega)]
  ·rw[if_neg (by omega)];rfl
 |
  .plus a b,i,hl=>by
  simp only[Ty.atoms]at hl
  refine u6 _ _ _ ((aE _).mpr trivial) ((aE _).mpr trivial) ?_
  simp only[Ds,Ty.av,dM,↓zq,zs,af,aE]
  refine⟨by omega,fun h=>by omega,fun _=>⟨fun _=>?_,fun h=>absurd rfl h⟩⟩
  repeat refine⟨by omega,?_⟩
  refine ak (vQ u a i (by omega)) ?_
  simp only[↓zq,zs,af,aE]
  repeat refine⟨by omega,?_⟩
  refine ak (vQ u b i (by omega)) ?_
  simp only[↓zq,zs,af,aE]
  exact⟨rfl,rfl⟩
 |
  .times a b,i,hl=>by
  simp only[Ty.atoms]at hl
  refine u6 _ _ _ ((aE _).mpr trivial) ((aE _).mpr trivial) ?_
  simp only[Ds,Ty.av,dM,↓zq,zs,af,aE]
  refine⟨by omega,fun h=>by omega,fun _=>⟨fun h=>by omega,fun _=>⟨fun _=>?_,fun h=>absurd rfl h⟩⟩⟩
  repeat refine⟨by omega,?_⟩
  refine ak (vQ u a i (by omega)) ?_
  simp only[↓zq,zs,af,aE]
  repeat refine⟨by omega,?_⟩
  refine ak (vQ u b i (by omega)) ?_
  simp only[↓zq,zs,af,aE]
  exact⟨rfl,rfl⟩
 |
  .rc a,i,hl=>by
  simp only[Ty.atoms]at hl
  refine u6 _ _ _ ((aE _).mpr trivial) ((aE _).mpr trivial) ?_
  simp only[Ds,Ty.av,dM,↓zq,zs,af,aE]
  refine⟨by omega,fun h=>by omega,fun _=>⟨fun h=>by omega,fun _=>⟨fun h=>by omega,fun _=>⟨fun _=>?_,fun h=>absurd rfl h⟩⟩⟩⟩
  repeat refine⟨by omega,?_⟩
  rw[bw i (by omega)]
  refine ak (vQ u a (i+1) (by omega)) ?_
  simp only[↓zq,zs,af,aE]
  exact⟨rfl,rfl⟩
theorem AG(x:Nm)(u:Ty):∀(t:Ty),aq Tryz.prog 80 [t.av,.v (.string (mk x)),u.av] [] (bz (sub x u t).av)
 |
  .zero=>by
  refine vJ _ _ _ ((aE _).mpr trivial) ((aE _).mpr trivial) ?_
  simp[Dm,Ty.av,sub,↓zq,zs,af,bz]
 |
  .one=>by
  refine vJ _ _ _ ((aE _).mpr trivial) ((aE _).mpr trivial) ?_
  simp[Dm,Ty.av,sub,↓zq,zs,af,bz]
 |
  .bound k=>by
  refine vJ _ _ _ ((aE _).mpr trivial) ((aE _).mpr trivial) ?_
  simp[Dm,Ty.av,sub,↓zq,zs,af,bz]
 |
  .name s=>by
  refine vJ _ _ _ ((aE _).mpr trivial) ((aE _).mpr trivial) ?_
  simp only[Dm,Ty.av,sub,↓zq,zs,af,zt,bz]
  refine⟨by omega,fun _=>⟨by omega,fun h=>?_,fun h=>?_⟩,fun h=>absurd rfl h⟩
  ·rw[if_pos h]
  ·rw[if_neg h];rfl
 |
  .plus a b=>by
  refine vJ _ _ _ ((aE _).mpr trivial) ((aE _).mpr trivial) ?_
  simp only[Dm,Ty.av,sub,↓zq,zs,af,aE]
  refine⟨by omega,fun h=>by omega,fun _=>⟨fun _=>?_,fun h=>absurd rfl h⟩⟩
  repeat refine⟨by omega,?_⟩
  refine ak (AG x u a) ?_
  simp only[↓zq,zs,af,aE]
  repeat refine⟨by omega,?_⟩
  refine ak (AG x u b) ?_
  simp only[↓zq,zs,af,aE]
  exact⟨rfl,rfl⟩
 |
  .times a b=>by
  refine vJ _ _ _ ((aE _).mpr trivial) ((aE _).mpr trivial) ?_
  simp only[Dm,Ty.av,sub,↓zq,zs,af,aE]
  refine⟨by omega,fun h=>by omega,fun _=>⟨fun h=>by omega,fun _=>⟨fun _=>?_,fun h=>absurd rfl h⟩⟩⟩
  repeat refine⟨by omega,?_⟩
  refine ak (AG x u a) ?_
  simp only[↓zq,zs,af,aE]
  repeat refine⟨by omega,?_⟩
  refine ak (AG x u b) ?_
  simp only[↓zq,zs,af,aE]
  exact⟨rfl,rfl⟩
 |
  .rc a=>by
  refine vJ _ _ _ ((aE _).mpr trivial) ((aE _).mpr trivial) ?_
  simp only[Dm,Ty.av,sub,↓zq,zs,af,aE]
  refine⟨by omega,fun h=>by omega,fun _=>⟨fun h=>by omega,fun _=>⟨fun h=>by omega,fun _=>⟨fun _=>?_,fun h=>absurd rfl h⟩⟩⟩⟩
  repeat refine⟨by omega,?_⟩
  refine ak (AG x u a) ?_
  simp only[↓zq,zs,af,aE]
  exact⟨rfl,rfl⟩
theorem wA(c:Int)(a b:Ty):aq Tryz.prog 121 [.v (.int .u8 c),a.av,b.av] [] (bz (.ptr [.v (.int .u8 c),.v (.string (mk [])),.v (.int .i64 0),a.av,b.av])):=by
 refine OO _ _ _ ((aE _).mpr trivial) ((aE _).mpr trivial) ?_
 simp[JW,↓zq,zs,af,bz]
abbrev CD(f:Nat)(g:Bool):Ob:=.cells [.v (.int .i64 (f:Int)),.v (.bool g)]
theorem Le(f:Nat)(g:Bool)(hf:f<100000000):aq Tryz.prog 76 [.ref 0 0] [CD f g] (cY (.v (.string (mk (hN (f+1))))) [CD (f+1) g]):=by
 refine Nn _ _ ?_
 simp only[LL,↓zq,zs,af,zt]
 rw[bw f (by omega)]
 refine ak (EW (f+1) (by omega)) ?_
 have hd:=nA 8 (f+1) (by omega)
 simp only[↓zq,zs,af,zt,bC,ba]
 exact⟨by simp[cU];omega,rfl,rfl⟩
def tL(g:Bool)(t:Ty):Ty:=if g=true\/400<t.atoms then .zero else t
def yO(g:Bool)(t:Ty):Bool:=g||decide (400<t.atoms)
theorem wK(t:Ty):tL true t=.zero:=by simp[tL]
theorem uK(t:Ty):yO true t=true:=rfl
theorem uw{t:Ty}(h:t.atoms<=400):tL false t=t:=by simp[tL,show ¬400<t.atoms by omega]
theorem uB{t:Ty}(h:t.atoms<=400):yO false t=false:=by simp[yO,show ¬400<t.atoms by omega]
theorem Dc{t:Ty}(h:¬t.atoms<=400):yO false t=true:=by simp[yO,show 400<t.atoms by omega]
theorem Dp{t:Ty}(h:¬t.atoms<=400):tL false t=.zero:=by simp[tL,show 400<t.atoms by omega]
theorem uS(f:Nat)(g:Bool)(t:Ty)(hl:t.atoms<1000000):aq Tryz.prog 77 [.ref 0 0,t.av] [CD f g] (cY (tL g t).av [CD f (yO g t)]):=by
 refine MB _ _ _ ((aE _).mpr trivial) ?_
 simp only[HT,↓zq,zs,af,zt]
 cases g with
 |true=>exact⟨fun _=>⟨rfl,rfl⟩,fun h=>(by cases h)⟩
 |
  false =>
  refine⟨fun h=>(by cases h),fun _=>?_⟩
  refine ak (Dl t hl) ?_
  simp only[↓zq,zs,af,zt]
  refine⟨fun h=>?_,fun h=>?_⟩
  ·have h:400<t.atoms:=by omega
   simp[tL,yO,h,cY,Ty.av]
  ·have h:¬400<t.atoms:=by omega
   simp[tL,yO,h,cY]
theorem Gj(t:Ty)(s:Nm)(f:Nat):aq Tryz.prog 78 [.ref 0 0,t.av,.v (.string (mk s))] [CD f true] (cY Ty.zero.av [CD f true]):=by
 refine JA _ _ _ _ ((aE _).mpr trivial) ?_
 simp only[BI,↓zq,zs,af]
 exact⟨fun _=>⟨rfl,rfl⟩,fun h=>(by cases h)⟩
def Bk(f:Nat)(t:Ty):Prop:=∀j,f<j->bg (hN j) t=false
def pE(o:Option Ty)(t:Ty):Nat:=match o with|some d=>d.atoms|none=>1000*t.atoms
def zo(o:Option Ty)(f B:Nat):AV->List Ob->Prop:=fun r ob=>∃f':Nat,f<=f'/\f'<=f+B/\r=(o.getD .zero).av/\ob=[CD f' o.isNone]
theorem zo.ne(o:Option Ty)(f B:Nat):∃r ob,zo o f B r ob:=⟨_,_,f,az _,cJ _ _,rfl,rfl⟩
theorem qM{f f':Nat}{t:Ty}(h:Bk f t)(hf:f<=f'):Bk f' t:=fun j hj=>h j (by omega)
theorem vG:∀(n:Nat) (t:Ty),t.atoms<=n->t.atoms<=400->∀(s:Nm) (f:Nat),Bk f t->(∀j,f<j->s≠hN j)->f+1000*t.atoms<50000000->aq Tryz.prog 78 [.ref 0 0,t.av,.v (.string (mk s))] [CD f false] (zo (oA t s) f (pE (oA t s) t))
 |0,t,h=>by have:=fQ t;omega
 |
  n+1,t,hn=>by
  intro h4 s f hf hs hb
  refine JA _ _ _ _ ((aE _).mpr trivial) ?_
  have fin0:∀u:Ty,oA t s=some u->zo (oA t s) f (pE (oA t s) t) u.av [CD f false]:=fun u hu=>by
   rw[hu];exact⟨f,az _,cJ _ _,rfl,rfl⟩
  cases t with
  |
   zero =>
   have:=fin0 .zero (zG s)
   simpa[BI,Ty.av,↓zq,zs,af]using this
  |
   one =>
   have:=fin0 .zero (Bv s)
   simpa[BI,Ty.av,↓zq,zs,af]using this
  |
   bound k =>
   have:=fin0 .zero (yM k s)
   simpa[BI,Ty.av,↓zq,zs,af]using this
  |
   name c =>
   simp only[BI,Ty.av,↓zq,zs,af,zt]
   refine⟨fun h=>(by cases h),fun _=>⟨by omega,fun _=>⟨by omega,fun h=>?_,fun h=>?_⟩,fun h=>absurd rfl h⟩⟩
   ·exact fin0 .one (by rw[uj,if_pos h])
   ·exact fin0 .zero (by rw[uj,if_neg h])
  |
   plus a b =>
   simp only[Ty.atoms]at hn h4 hb
   have pa:=fQ a
   have pb:=fQ b
   have fa:Bk f a:=fun j hj=>by have:=hf j hj;simp only[bg,cf]at this;exact this.1
   have fb:Bk f b:=fun j hj=>by have:=hf j hj;simp only[bg,cf]at this;exact this.2
   simp only[BI,Ty.av,↓zq,zs,af,zt,aE]
   refine⟨fun h=>(by cases h),fun _=>⟨by omega,fun h=>by omega,fun _=>⟨fun _=>?_,fun h=>absurd rfl h⟩⟩⟩
   repeat refine⟨by omega,?_⟩
   rw[AL]
   refine aQ (vG n a (by omega) (by omega) s f fa hs (by omega)) (zo.ne _ _ _) ?_
   rintro r ob ⟨f1,g1,g2,rfl,rfl⟩
   simp only[↓zq,zs,af,zt,aM,aE]
   repeat refine⟨by omega,?_⟩
   cases q1:oA a s with
   |
    none =>
    rw[q1]at g2
    simp only[pE]at g2
    simp only[Option.isNone_none,dI,cK]
    refine aY (Gj b s f1) ?_
    simp only[↓zq,zs,af,zt,aM,aE]
    repeat refine⟨by omega,?_⟩
    refine ak (wA 43 _ _) ?_
    simp only[↓zq,zs,af,zt,cc]
    refine aY (uS f1 true (.plus .zero .zero) (by simp[Ty.atoms])) ?_
    simp only[↓zq,zs,af,zt,aM,aE]
    exact⟨f1,g1,by simp only[pE,Ty.atoms];omega,rfl,rfl⟩
   |
    some a' =>
    rw[q1]at g2
    simp only[pE]at g2
    have la:=(dC.1 q1).small
    simp only[Option.isNone_some,cH,bB]
    refine aQ (vG n b (by omega) (by omega) s f1 (qM fb g1) (fun j hj=>hs j (by omega)) (by omega)) (zo.ne _ _ _) ?_
    rintro r ob ⟨f2,k1,k2,rfl,rfl⟩
    simp only[↓zq,zs,af,zt,aM,aE]
    repeat refine⟨by omega,?_⟩
    refine ak (wA 43 _ _) ?_
    simp only[↓zq,zs,af,zt,cc]
    cases q2:oA b s with
    |
     none =>
     rw[q2]at k2
     simp only[pE]at k2
     simp only[Option.isNone_none,dI,cK]
     refine aY (uS f2 true (.plus a' .zero) (by simp[Ty.atoms];omega)) ?_
     simp only[↓zq,zs,af,zt,aM,aE]
     exact⟨f2,by omega,by simp only[pE,Ty.atoms];omega,rfl,rfl⟩
    |
     some b' =>
     rw[q2]at k2
     simp only[pE]at k2
     have lb:=(dC.1 q2).small
     simp only[Option.isNone_some,cH,bB]
     refine aY (uS f2 false (.plus a' b') (by simp only[Ty.atoms];omega)) ?_
     simp only[↓zq,zs,af,zt,aM,aE]
     unfold vm
     by_cases hle:(Ty.plus a' b').atoms<=400
     ·rw[if_pos hle]
      refine⟨f2,by omega,by simp only[pE,Ty.atoms];omega,?_,?_⟩
      ·simp[tL,show ¬400<(Ty.plus a' b').atoms by omega]
      ·simp[yO,show ¬400<(Ty.plus a' b').atoms by omega]
     ·rw[if_neg hle]
      refine⟨f2,by omega,by simp only[pE,Ty.atoms];omega,?_,?_⟩
      ·simp[tL,show 400<(Ty.plus a' b').atoms by omega]
      ·simp[yO,show 400<(Ty.plus a' b').atoms by omega]
  |
   times a b =>
   simp only[Ty.atoms]at hn h4 hb
   have pa:=fQ a
   have pb:=fQ b
   have fa:Bk f a:=fun j hj=>by have:=hf j hj;simp only[bg,cf]at this;exact this.1
   have fb:Bk f b:=fun j hj=>by have:=hf j hj;simp only[bg,cf]at this;exact this.2
   simp only[BI,Ty.av,↓zq,zs,af,zt,aE]
   refine⟨fun h=>(by cases h),fun _=>⟨by omega,fun h=>by omega,fun _=>⟨fun h=>by omega,fun _=>⟨fun _=>?_,fun h=>absurd rfl h⟩⟩⟩⟩
   repeat refine⟨by omega,?_⟩
   rw[xX]
   refine aQ (vG n a (by omega) (by omega) s f fa hs (by omega)) (zo.ne _ _ _) ?_
   rintro r ob ⟨f1,g1,g2,rfl,rfl⟩
   simp only[↓zq,zs,af,zt,aM,aE]
   repeat refine⟨by omega,?_⟩
   refine ak (wA 42 _ _) ?_
   simp only[↓zq,zs,af,zt,cc]
   repeat refine⟨by omega,?_⟩
   cases q1:oA a s with
   |
    none =>
    rw[q1]at g2
    simp only[pE]at g2
    simp only[Option.isNone_none,dI,cK]
    refine aY (Gj b s f1) ?_
    simp only[↓zq,zs,af,zt,aM,aE]
    repeat refine⟨by omega,?_⟩
    refine ak (wA 42 _ _) ?_
    simp only[↓zq,zs,af,zt,cc]
    refine ak (wA 43 (.times .zero b) (.times a .zero)) ?_
    simp only[↓zq,zs,af,zt,cc]
    refine aY (uS f1 true (.plus (.times .zero b) (.times a .zero)) (by simp only[Ty.atoms];omega)) ?_
    simp only[↓zq,zs,af,zt,aM,aE]
    exact⟨f1,g1,by simp only[pE,Ty.atoms];omega,rfl,rfl⟩
   |
    some a' =>
    rw[q1]at g2
    simp only[pE]at g2
    have la:=(dC.1 q1).small
    simp only[Option.isNone_some,cH,bB]
    refine aQ (vG n b (by omega) (by omega) s f1 (qM fb g1) (fun j hj=>hs j (by omega)) (by omega)) (zo.ne _ _ _) ?_
    rintro r ob ⟨f2,k1,k2,rfl,rfl⟩
    simp only[↓zq,zs,af,zt,aM,aE]
    repeat refine⟨by omega,?_⟩
    refine ak (wA 42 _ _) ?_
    simp only[↓zq,zs,af,zt,cc]
    cases q2:oA b s with
    |
     none =>
     rw[q2]at k2
     simp only[pE]at k2
     simp only[Option.isNone_none,dI,cK]
     refine ak (wA 43 (.times a' b) (.times a .zero)) ?_
     simp only[↓zq,zs,af,zt,cc]
     refine aY (uS f2 true (.plus (.times a' b) (.times a .zero)) (by simp only[Ty.atoms];omega)) ?_
     simp only[↓zq,zs,af,zt,aM,aE]
     exact⟨f2,by omega,by simp only[pE,Ty.atoms];omega,rfl,rfl⟩
    |
     some b' =>
     rw[q2]at k2
     simp only[pE]at k2
     have lb:=(dC.1 q2).small
     simp only[Option.isNone_some,cH,bB]
     refine ak (wA 43 (.times a' b) (.times a b')) ?_
     simp only[↓zq,zs,af,zt,cc]
     refine aY (uS f2 false (.plus (.times a' b) (.times a b')) (by simp only[Ty.atoms];omega)) ?_
     simp only[↓zq,zs,af,zt,aM,aE]
     unfold vm
     by_cases hle:(Ty.plus (.times a' b) (.times a b')).atoms<=400
     ·rw[if_pos hle]
      refine⟨f2,by omega,by simp only[pE,Ty.atoms];omega,?_,?_⟩
      ·simp[tL,show ¬400<(Ty.plus (.times a' b) (.times a b')).atoms by omega]
      ·simp[yO,show ¬400<(Ty.plus (.times a' b) (.times a b')).atoms by omega]
     ·rw[if_neg hle]
      refine⟨f2,by omega,by simp only[pE,Ty.atoms];omega,?_,?_⟩
      ·simp[tL,show 400<(Ty.plus (.times a' b) (.times a b')).atoms by omega]
      ·simp[yO,show 400<(Ty.plus (.times a' b) (.times a b')).atoms by omega]
  |
   rc a =>
   simp only[Ty.atoms]at hn h4 hb
   have pa:=fQ a
   have fa:Bk f a:=fun j hj=>hf j hj
   have hxa:bg (hN (f+1)) a=false:=fa _ (by omega)
   have hxs:hN (f+1)≠s:=fun e=>hs _ (by omega) e.symm
   have fo:Bk (f+1) (dM (.name (hN (f+1))) a 0):=fun j hj=>by
    cases q:bg (hN j) (dM (.name (hN (f+1))) a 0)with
    |false=>rfl
    |
     true =>
     rcases gb a 0 q with e|e
     ·have:=tn e;omega
     ·rw[fa j (by omega)]at e;cases e
   have hoa:(dM (.name (hN (f+1))) a 0).atoms=a.atoms:=fK _ _ _
   have hop:=vQ (.name (hN (f+1))) a 0 (by omega)
   rw[GD hxa hxs]
   simp only[BI,Ty.av,↓zq,zs,af,zt,aE]
   refine⟨fun h=>(by cases h),fun _=>⟨by omega,fun h=>by omega,fun _=>⟨fun h=>by omega,fun _=>⟨fun h=>by omega,fun _=>⟨fun _=>?_,fun h=>absurd rfl h⟩⟩⟩⟩⟩
   refine aY (Le f false (by omega)) ?_
   simp only[↓zq,zs,af,zt,aM,aE]
   repeat refine⟨by omega,?_⟩
   simp only[Ty.av]at hop
   refine ak hop ?_
   simp only[↓zq,zs,af,zt,aM,aE]
   refine aQ (vG n (dM (.name (hN (f+1))) a 0) (by omega) (by omega) s (f+1) fo (fun j hj=>hs j (by omega)) (by omega)) (zo.ne _ _ _) ?_
   rintro r ob ⟨f1,g1,g2,rfl,rfl⟩
   simp only[↓zq,zs,af,zt,aM,aE]
   generalize hx:hN (f+1)=x at *
   generalize hin:dM (.name x) a 0=i at *
   have hrc:(Ty.rc a).av=.ptr [.v (.int .u8 114),.v (.string (mk [])),.v (.int .i64 0),a.av,.v (.pointer none)]:=rfl
   cases q1:oA i s with
   |
    none =>
    rw[q1]at g2
    simp only[pE]at g2
    simp only[Option.isNone_none,dI,cK]
    refine aY (uS f1 true .zero (by simp[Ty.atoms])) ?_
    simp only[↓zq,zs,af,zt,aM,aE]
    rw[<-hrc]
    refine ak (AG x (.rc a) _) ?_
    simp only[↓zq,zs,af,zt,aE]
    refine aY (Gj i x f1) ?_
    simp only[↓zq,zs,af,zt,aM,aE]
    refine aY (uS f1 true .zero (by simp[Ty.atoms])) ?_
    simp only[↓zq,zs,af,zt,aM,aE]
    refine ak (AG x (.rc a) _) ?_
    simp only[↓zq,zs,af,zt,aE]
    refine ak (wA 42 _ (.bound 0)) ?_
    simp only[↓zq,zs,af,zt,cc]
    refine ak (wA 43 (sub x (.rc a) (tL true .zero)) (.times (sub x (.rc a) (tL true .zero)) (.bound 0))) ?_
    simp only[↓zq,zs,af,zt,cc,uK]
    have hz:sub x (.rc a) (tL true .zero)=.zero:=by rw[wK];rfl
    refine aY (uS f1 true (.rc (.plus (sub x (.rc a) (tL true .zero)) (.times (sub x (.rc a) (tL true .zero)) (.bound 0)))) (by rw[hz];simp only[Ty.atoms];omega)) ?_
    simp only[↓zq,zs,af,zt,aM,aE]
    rw[wK,uK]
    exact⟨f1,by omega,by simp only[pE,Ty.atoms];omega,rfl,rfl⟩
   |
    some c =>
    rw[q1]at g2
    simp only[pE]at g2
    have lc:=(dC.1 q1).small
    simp only[Option.isNone_some,cH,bB]
    refine aY (uS f1 false c (by omega)) ?_
    simp only[↓zq,zs,af,zt,aM,aE]
    rw[uw lc,uB lc,<-hrc]
    refine ak (AG x (.rc a) c) ?_
    simp only[↓zq,zs,af,zt,aE]
    refine aQ (vG n i (by omega) (by omega) x f1 (qM fo g1) (fun j hj=>by rw[<-hx];exact fun e=>by have:=tn e;omega) (by omega)) (zo.ne _ _ _) ?_
    rintro r ob ⟨f2,k1,k2,rfl,rfl⟩
    simp only[↓zq,zs,af,zt,aM,aE]
    have hsc:(sub x (.rc a) c).atoms+eY x c=c.atoms+eY x c*(Ty.rc a).atoms:=dJ x (.rc a) c
    have hcc:∀t:Ty,eY x t<=t.atoms:=fun t=>by
     have h1:=dJ x .zero t
     have h2:=gv x .zero t
     simp only[Ty.atoms,dQ]at h1
     have h3:∀t:Ty,eY x t<=t.atoms:=by
      intro t
      induction t with
      |name s=>simp only[eY,Ty.atoms];split<;>omega
      |plus a b i1 i2=>simp only[eY,Ty.atoms];omega
      |times a b i1 i2=>simp only[eY,Ty.atoms];omega
      |rc a i=>simp only[eY,Ty.atoms];omega
      |_=>simp[eY,Ty.atoms]
     exact h3 t
    have hbig:∀t:Ty,t.atoms<=400->(sub x (.rc a) t).atoms<=400+400*402:=fun t ht=>by
     have h1:=dJ x (.rc a) t
     have h2:=hcc t
     have h3:eY x t*(Ty.rc a).atoms<=400*402:=Nat.mul_le_mul (by omega) (by simp only[Ty.atoms];omega)
     omega
    have b1:=hbig c lc
    cases q2:oA i x with
    |
     none =>
     rw[q2]at k2
     simp only[pE]at k2
     simp only[Option.isNone_none,dI,cK]
     refine aY (uS f2 true .zero (by simp[Ty.atoms])) ?_
     simp only[↓zq,zs,af,zt,aM,aE]
     rw[wK,uK]
     refine ak (AG x (.rc a) .zero) ?_
     simp only[↓zq,zs,af,zt,aE]
     refine ak (wA 42 _ (.bound 0)) ?_
     simp only[↓zq,zs,af,zt,cc]
     refine ak (wA 43 (sub x (.rc a) c) (.times (sub x (.rc a) .zero) (.bound 0))) ?_
     simp only[↓zq,zs,af,zt,cc]
     refine aY (uS f2 true (.rc (.plus (sub x (.rc a) c) (.times (sub x (.rc a) .zero) (.bound 0)))) (by simp only[sub,Ty.atoms];omega)) ?_
     simp only[↓zq,zs,af,zt,aM,aE]
     rw[wK,uK]
     exact⟨f2,by omega,by simp only[pE,Ty.atoms];omega,rfl,rfl⟩
    |
     some d =>
     rw[q2]at k2
     simp only[pE]at k2
     have ld:=(dC.1 q2).small
     have b2:=hbig d ld
     simp only[Option.isNone_some,cH,bB]
     refine aY (uS f2 false d (by omega)) ?_
     simp only[↓zq,zs,af,zt,aM,aE]
     rw[uw ld,uB ld]
     refine ak (AG x (.rc a) d) ?_
     simp only[↓zq,zs,af,zt,aE]
     refine ak (wA 42 _ (.bound 0)) ?_
     simp only[↓zq,zs,af,zt,cc]
     refine ak (wA 43 (sub x (.rc a) c) (.times (sub x (.rc a) d) (.bound 0))) ?_
     simp only[↓zq,zs,af,zt,cc]
     have hdrc:si a x c d=.rc (.plus (sub x (.rc a) c) (.times (sub x (.rc a) d) (.bound 0))):=rfl
     refine aY (uS f2 false (si a x c d) (by rw[hdrc];simp only[Ty.atoms];omega)) ?_
     simp only[↓zq,zs,af,zt,aM,aE]
     have s1:=gv x (.rc a) c
     have s2:=gv x (.rc a) d
     unfold vm
     by_cases hle:(si a x c d).atoms<=400
     ·rw[if_pos hle,uw hle,uB hle]
      exact⟨f2,by omega,by simp only[pE,hdrc,Ty.atoms];omega,rfl,rfl⟩
     ·rw[if_neg hle,Dp hle,Dc hle]
      exact⟨f2,by omega,by simp only[pE,Ty.atoms];omega,rfl,rfl⟩
def L0(o:Option Ty):AV->List Ob->Prop:=fun r ob=>ob=[]/\∃p,LK.ptr.has p/\r=.cW [p,.v (.bool o.isSome)]/\∀d,o=some d->p=d.av
theorem L0.ne(o:Option Ty):∃r ob,L0 o r ob:=by
 cases o with
 |none=>exact⟨_,_,rfl,iR,(iG).mpr trivial,rfl,fun d h=>by cases h⟩
 |some d=>exact⟨_,_,rfl,d.av,(aE _).mpr trivial,rfl,fun d' h=>by cases h;rfl⟩
theorem DN:hN 1=l7:=by show (35::dd 1:Nm)=_;rw[ep (by omega)];rfl
theorem L6(a:Ty)(h4:a.atoms+2<=400)(hf:∀j,bg (hN j) a=false):aq Tryz.prog 39 [(Ty.rc a).av] [] (L0 (u4 a l7)):=by
 have hxa:bg (hN 1) a=false:=hf 1
 have fo:Bk 1 (dM (.name (hN 1)) a 0):=fun j hj=>by
  cases q:bg (hN j) (dM (.name (hN 1)) a 0)with
  |false=>rfl
  |
   true =>
   rcases gb a 0 q with e|e
   ·have:=tn e;omega
   ·rw[hf j]at e;cases e
 have hoa:(dM (.name (hN 1)) a 0).atoms=a.atoms:=fK _ _ _
 have hop:=vQ (.name (hN 1)) a 0 (by omega)
 rw[<-DN]
 have hrc:(Ty.rc a).av=.ptr [.v (.int .u8 114),.v (.string (mk [])),.v (.int .i64 0),a.av,.v (.pointer none)]:=rfl
 refine Ms _ ((aE _).mpr trivial) ?_
 unfold KS
 refine aY (Le 0 false (by omega)) ?_
 simp only[Ty.av,↓zq,zs,af,zt,aM,aE]
 repeat refine⟨by omega,?_⟩
 simp only[Ty.av]at hop
 refine ak hop ?_
 simp only[↓zq,zs,af,zt,aM,aE]
 refine aQ (vG 400 (dM (.name (hN 1)) a 0) (by omega) (by omega) (hN 1) 1 fo (fun j hj e=>by have:=tn e;omega) (by omega)) (zo.ne _ _ _) ?_
 rintro r ob ⟨f1,g1,g2,rfl,rfl⟩
 simp only[↓zq,zs,af,zt,aM,aE]
 unfold u4
 cases q1:oA (dM (.name (hN 1)) a 0) (hN 1)with
 |
  none =>
  simp only[Option.isNone_none,dI,cK]
  refine aY (uS f1 true .zero (by simp[Ty.atoms])) ?_
  simp only[↓zq,zs,af,zt,aM,aE,uK]
  exact⟨fun _=>⟨rfl,iR,(iG).mpr trivial,rfl,fun d h=>(by cases h)⟩,fun h=>(by cases h)⟩
 |
  some d =>
  have ld:=(dC.1 q1).small
  simp only[Option.isNone_some,cH,bB]
  refine aY (uS f1 false d (by omega)) ?_
  simp only[↓zq,zs,af,zt,aM,aE]
  rw[uw ld,uB ld]
  refine⟨fun h=>(by cases h),fun _=>?_⟩
  rw[<-hrc]
  refine ak (AG (hN 1) (.rc a) d) ?_
  simp only[↓zq,zs,af,zt,aE]
  have h1:=dJ (hN 1) (.rc a) d
  have hcn:eY (hN 1) d<=d.atoms:=by
   have h3:∀t:Ty,eY (hN 1) t<=t.atoms:=by
    intro t
    induction t with
    |name s=>simp only[eY,Ty.atoms];split<;>omega
    |plus a b i1 i2=>simp only[eY,Ty.atoms];omega
    |times a b i1 i2=>simp only[eY,Ty.atoms];omega
    |rc a i=>simp only[eY,Ty.atoms];omega
    |_=>simp[eY,Ty.atoms]
   exact h3 d
  have h3:eY (hN 1) d*(Ty.rc a).atoms<=400*402:=Nat.mul_le_mul (by omega) (by simp only[Ty.atoms];omega)
  refine aY (uS f1 false (sub (hN 1) (.rc a) d) (by omega)) ?_
  simp only[↓zq,zs,af,zt,aM,aE]
  unfold vm
  by_cases hle:(sub (hN 1) (.rc a) d).atoms<=400
  ·rw[if_pos hle,uw hle,uB hle]
   exact⟨rfl,_,(aE _).mpr trivial,rfl,fun d' h=>by cases h;rfl⟩
  ·rw[if_neg hle,Dp hle,Dc hle]
   exact⟨rfl,_,(aE _).mpr trivial,rfl,fun d' h=>(by cases h)⟩
end Go.Proofs.Trees
namespace Go.Proofs.Trees
open Go Go.VL Go.RowKit
theorem qi(h:Nm)(a b:E):(eI (.list [.atom h,a,b])).length=h.length+(eI a).length+(eI b).length+4:=by
 simp only[eI,dT,aw,an,aG];omega
theorem iK(F:List Nm)(hF:F.length<=10000):∀(t:Ty) (to:List Nm) (k:Nat),yF t->(∀w,w∈to->w.length<=20)->k+(F.length+1)*t.atoms<90000000->(eI (i7 F t to k).1).length<=50*t.atoms
 | .zero,_,_,_,_,_=>by simp[i7,eI,Ty.atoms]
 | .one,_,_,_,_,_=>by simp[i7,eI,Ty.atoms]
 | .name s,_,_,hn,_,_=>by have:=hn s (by simp[bg]);simp only[i7,eI,Ty.atoms];omega
 |
  .bound u,to,_,_,ht,_=>by
  show (gj to u).length<=50*1
  unfold gj
  by_cases h:to.length-1-u<to.length
  ·rw[aa,bm h];have:=ht _ (bJ h);simp only[cH];omega
  ·rw[aa,List.getElem?_eq_none (by omega)];simp
 |
  .plus a b,to,k,hn,ht,hk=>by
  have h1:=jd F a to k
  have:(F.length+1)*(1+a.atoms+b.atoms)=(F.length+1)+(F.length+1)*a.atoms+(F.length+1)*b.atoms:=by simp only[cX,dQ]
  simp only[Ty.atoms]at hk
  have i1:=iK F hF a to k (fun y hy=>hn y (by simp[bg,hy])) ht (by omega)
  have i2:=iK F hF b to _ (fun y hy=>hn y (by simp[bg,hy])) ht (show (i7 F a to k).2+_<_ by omega)
  simp only[i7,qi,Ty.atoms,aw,aG];omega
 |
  .times a b,to,k,hn,ht,hk=>by
  have h1:=jd F a to k
  have:(F.length+1)*(1+a.atoms+b.atoms)=(F.length+1)+(F.length+1)*a.atoms+(F.length+1)*b.atoms:=by simp only[cX,dQ]
  simp only[Ty.atoms]at hk
  have i1:=iK F hF a to k (fun y hy=>hn y (by simp[bg,hy])) ht (by omega)
  have i2:=iK F hF b to _ (fun y hy=>hn y (by simp[bg,hy])) ht (show (i7 F a to k).2+_<_ by omega)
  simp only[i7,qi,Ty.atoms,aw,aG];omega
 |
  .rc a,to,k,hn,ht,hk=>by
  obtain⟨g1,g2,_,_⟩:=kX F k
  have:(F.length+1)*(2+a.atoms)=(F.length+1)*2+(F.length+1)*a.atoms:=by simp only[cX]
  simp only[Ty.atoms]at hk
  have hl:=zz (k:=nx F k) (by omega)
  have i1:=iK F hF a (to++[tN (nx F k)]) (nx F k+1) hn (fun w hw=>by
   rcases aK.1 hw with hw|hw
   ·exact ht w hw
   ·simp only[aR]at hw;rw[hw];exact hl) (by omega)
  simp only[i7,qi,Ty.atoms,aw,aG]
  simp only[eI]
  simp only[aw]at hl |-
  omega
theorem K3(x0 a fv:AV)(F:List Nm)(h0:LK.ptr.has x0)(ha:LK.sl.has a)(hfv:dG fv F)(hF:F.length<100000):∀(n j:Nat),re F n j<j+n->j+n<100000000 ->
 CT [x0,a,.v (.string (mk (tN j)))] [.cells [fv],.cells [.v (.int .i64 ((j+1:Nat):Int))]] (hZ 1 [x0,a,.v (.string (mk (tN (re F n j))))] [.cells [fv],.cells [.v (.int .i64 ((re F n j+1:Nat):Int))]])
 |0,j,h,_=>by simp only[re]at h;omega
 |
  n+1,j,h,hj=>by
  refine GR _ _ _ _ _ ?_
  simp only[Ft,↓zq,zs,af,zt,af,hfv.1,h0,ha]
  refine⟨fun h=>(by simp at h),fun _=>?_⟩
  refine ak (Kj F fv hfv (tN j) (by omega)) ?_
  simp only[↓zq,zs,af,zt]
  rw[re]at h |-
  refine⟨fun hm=>?_,fun hm=>?_⟩
  ·rw[if_pos hm]at h |-
   refine ak (EW (j+1) (by omega)) ?_
   have hd:=nA 8 (j+1) (by omega)
   simp only[↓zq,zs,af,zt,bC,ba]
   rw[bw (j+1) (by omega)]
   exact⟨by simp[cU];omega,K3 x0 a fv F h0 ha hfv hF n (j+1) (by omega) (by omega)⟩
  ·rw[if_neg hm]
   exact⟨rfl,rfl,rfl⟩
theorem O5(x0 a fv:AV)(F:List Nm)(h0:LK.ptr.has x0)(ha:LK.sl.has a)(hfv:dG fv F)(hF:F.length<10000)(k:Nat)(hk:k<90000000) :
 CT [x0,a,.v (.string (mk []))] [.cells [fv],.cells [.v (.int .i64 (k:Int))]] (hZ 1 [x0,a,.v (.string (mk (tN (nx F k))))] [.cells [fv],.cells [.v (.int .i64 ((nx F k+1:Nat):Int))]]):=by
 obtain⟨g1,g2,_,_⟩:=kX F k
 refine GR _ _ _ _ _ ?_
 simp only[Ft,↓zq,zs,af,zt,af,hfv.1,h0,ha]
 refine⟨fun _=>?_,fun h=>(by simp at h)⟩
 refine ak (EW k (by omega)) ?_
 have hd:=nA 8 k (by omega)
 simp only[↓zq,zs,af,zt,bC,ba]
 rw[bw k (by omega)]
 exact⟨by simp[cU];omega,K3 x0 a fv F h0 ha hfv (by omega) (F.length+1) k (by show nx F k<_;omega) (by omega)⟩
theorem yl(F:List Nm)(fv:AV)(hfv:dG fv F)(hF:F.length<=1000):∀(t:Ty) (to:List Nm) (a:AV) (k:Nat),dG a to->to.length+t.atoms<10000->jU t to.length->yF t->(∀w,w∈to->w.length<=20)->k+(F.length+1)*t.atoms<80000000 ->
 aq Tryz.prog 123 [t.av,a,.gf 123 [none,some 0,some 1],.ref 0 0,.ref 1 0] [.cells [fv],.cells [.v (.int .i64 (k:Int))]] (cY (.v (.string (mk (eI (i7 F t to k).1)))) [.cells [fv],.cells [.v (.int .i64 ((i7 F t to k).2:Int))]])
 |
  .zero,to,a,k,ha,hl,hlc,hs,ht,hk=>by
  refine DJ _ _ _ _ ((aE _).mpr trivial) ha.1 hfv.1 ?_
  simp only[C8,Ty.av,↓zq,zs,af,zt,aE]
  refine⟨by omega,fun h=>by omega,fun _=>⟨fun h=>by omega,fun _=>⟨fun h=>by omega,fun _=>⟨fun h=>by omega,fun _=>⟨fun h=>by omega,fun _=>?_⟩⟩⟩⟩⟩
  repeat refine⟨by omega,?_⟩
  exact⟨⟨rfl,(lz _ _).mpr trivial,trivial⟩,rfl,rfl⟩
 |
  .one,to,a,k,ha,hl,hlc,hs,ht,hk=>by
  refine DJ _ _ _ _ ((aE _).mpr trivial) ha.1 hfv.1 ?_
  simp only[C8,Ty.av,↓zq,zs,af,zt,aE]
  refine⟨by omega,fun h=>by omega,fun _=>⟨fun h=>by omega,fun _=>⟨fun h=>by omega,fun _=>⟨fun h=>by omega,fun _=>⟨fun h=>by omega,fun _=>?_⟩⟩⟩⟩⟩
  repeat refine⟨by omega,?_⟩
  exact⟨⟨rfl,(lz _ _).mpr trivial,trivial⟩,rfl,rfl⟩
 |
  .name s,to,a,k,ha,hl,hlc,hs,ht,hk=>by
  refine DJ _ _ _ _ ((aE _).mpr trivial) ha.1 hfv.1 ?_
  simp[C8,Ty.av,↓zq,zs,af,cY,i7,eI]
 |
  .bound u,to,a,k,ha,hl,hlc,hs,ht,hk=>by
  have hu:u<to.length:=hlc
  refine DJ _ _ _ _ ((aE _).mpr trivial) ha.1 hfv.1 ?_
  simp only[C8,Ty.av,↓zq,zs,af,zt,ha.len]
  rw[wrap64 ((to.length:Int)-1) (by omega) (by omega),wrap64 _ (by omega) (by omega)]
  have e1:(to.length:Int)-1-(u:Int)=((to.length-1-u:Nat):Int):=by omega
  rw[e1]
  simp only[bW,ha.idx (show to.length-1-u<to.length by omega),↓zq,zs,af,zt]
  refine⟨by omega,fun h=>by omega,fun _=>⟨fun _=>⟨ha.1,by omega,⟨ha.1,by omega,by omega⟩,by omega,rfl,rfl⟩,fun h=>absurd rfl h⟩⟩
 |
  .plus x y,to,a,k,ha,hl,hlc,hs,ht,hk=>by
  simp only[Ty.atoms]at hl hk
  have h1:=jd F x to k
  have hm:(F.length+1)*(1+x.atoms+y.atoms)=(F.length+1)+(F.length+1)*x.atoms+(F.length+1)*y.atoms:=by simp only[cX,dQ]
  have sx:yF x:=fun z hz=>hs z (by simp[bg,hz])
  have sy:yF y:=fun z hz=>hs z (by simp[bg,hz])
  have t1:=iK F (by omega) x to k sx ht (by omega)
  have t2:=iK F (by omega) y to (i7 F x to k).2 sy ht (by omega)
  have hb:(⟨(bytesOf [[.v (.int .u8 43)]]).toArray⟩:ByteArray)=mk [43]:=rfl
  have h8:jh [[AV.v (.int .u8 43)]]:=⟨rfl,(lz _ _).mpr trivial,trivial⟩
  refine DJ _ _ _ _ ((aE _).mpr trivial) ha.1 hfv.1 ?_
  simp only[C8,Ty.av,↓zq,zs,af,zt,aE,hb]
  refine⟨by omega,fun h=>by omega,fun _=>⟨fun h=>by omega,fun _=>⟨fun _=>?_,fun h=>absurd rfl h⟩⟩⟩
  repeat refine⟨by omega,?_⟩
  refine aY (yl F fv hfv hF x to a k ha (by omega) hlc.1 sx ht (by omega)) ?_
  simp only[↓zq,zs,af,zt,aM,hfv.1,hb,bC,ba]
  repeat (first|refine⟨by omega,?_⟩|refine⟨h8,?_⟩|refine⟨by simp[cU];omega,?_⟩)
  refine aY (yl F fv hfv hF y to a _ ha (by omega) hlc.2 sy ht (by omega)) ?_
  simp only[↓zq,zs,af,zt,aM,hfv.1,hb,bC,ba]
  repeat (first|refine⟨by omega,?_⟩|refine⟨h8,?_⟩|refine⟨by simp[cU];omega,?_⟩)
  refine⟨?_,rfl⟩
  simp[i7,eI,dT]
 |
  .times x y,to,a,k,ha,hl,hlc,hs,ht,hk=>by
  simp only[Ty.atoms]at hl hk
  have h1:=jd F x to k
  have hm:(F.length+1)*(1+x.atoms+y.atoms)=(F.length+1)+(F.length+1)*x.atoms+(F.length+1)*y.atoms:=by simp only[cX,dQ]
  have sx:yF x:=fun z hz=>hs z (by simp[bg,hz])
  have sy:yF y:=fun z hz=>hs z (by simp[bg,hz])
  have t1:=iK F (by omega) x to k sx ht (by omega)
  have t2:=iK F (by omega) y to (i7 F x to k).2 sy ht (by omega)
  have hb:(⟨(bytesOf [[.v (.int .u8 42)]]).toArray⟩:ByteArray)=mk [42]:=rfl
  have h8:jh [[AV.v (.int .u8 42)]]:=⟨rfl,(lz _ _).mpr trivial,trivial⟩
  refine DJ _ _ _ _ ((aE _).mpr trivial) ha.1 hfv.1 ?_
  simp only[C8,Ty.av,↓zq,zs,af,zt,aE,hb]
  refine⟨by omega,fun h=>by omega,fun _=>⟨fun h=>by omega,fun _=>⟨fun h=>by omega,fun _=>⟨fun _=>?_,fun h=>absurd rfl h⟩⟩⟩⟩
  repeat refine⟨by omega,?_⟩
  refine aY (yl F fv hfv hF x to a k ha (by omega) hlc.1 sx ht (by omega)) ?_
  simp only[↓zq,zs,af,zt,aM,hfv.1,hb,bC,ba]
  repeat (first|refine⟨by omega,?_⟩|refine⟨h8,?_⟩|refine⟨by simp[cU];omega,?_⟩)
  refine aY (yl F fv hfv hF y to a _ ha (by omega) hlc.2 sy ht (by omega)) ?_
  simp only[↓zq,zs,af,zt,aM,hfv.1,hb,bC,ba]
  repeat (first|refine⟨by omega,?_⟩|refine⟨h8,?_⟩|refine⟨by simp[cU];omega,?_⟩)
  refine⟨?_,rfl⟩
  simp[i7,eI,dT]
 |
  .rc x,to,a,k,ha,hl,hlc,hs,ht,hk=>by
  simp only[Ty.atoms]at hl hk
  obtain⟨g1,g2,_,_⟩:=kX F k
  have hm:(F.length+1)*(2+x.atoms)=(F.length+1)*2+(F.length+1)*x.atoms:=by simp only[cX]
  have hln:=zz (k:=nx F k) (by omega)
  have ht':∀w,w∈to++[tN (nx F k)]->w.length<=20:=fun w hw=>by
   rcases aK.1 hw with hw|hw
   ·exact ht w hw
   ·simp only[aR]at hw;rw[hw];exact hln
  have t1:=iK F (by omega) x (to++[tN (nx F k)]) (nx F k+1) hs ht' (by omega)
  have hrc:(Ty.rc x).av=.ptr [.v (.int .u8 114),.v (.string (mk [])),.v (.int .i64 0),x.av,.v (.pointer none)]:=rfl
  refine DJ _ _ _ _ ((aE _).mpr trivial) ha.1 hfv.1 ?_
  simp only[C8,Ty.av,↓zq,zs,af,zt,aE]
  refine⟨by omega,fun h=>by omega,fun _=>⟨fun h=>by omega,fun _=>⟨fun h=>by omega,fun _=>⟨fun h=>by omega,fun _=>⟨fun _=>?_,fun h=>absurd rfl h⟩⟩⟩⟩⟩
  rw[<-hrc]
  repeat refine⟨by omega,?_⟩
  refine cm (O5 (Ty.rc x).av a fv F ((aE _).mpr trivial) ha.1 hfv (by omega) k (by omega)) ?_
  simp only[Ty.av,↓zq,zs,af,zt,af,aM,hfv.1,ha.1,aE,ha.2,DO,ba,pz,j2]
  have hl2:(dd (nx F k)).length+1<=20:=hln
  have hl3:(tN (nx F k)).length=(dd (nx F k)).length+1:=rfl
  refine⟨by omega,by simp only[an,aw,aG,hl3];omega,by omega,by omega,⟨fun c hc=>by simp at hc;rw[hc];rfl,by omega⟩,?_⟩
  refine aY (yl F fv hfv hF x (to++[tN (nx F k)]) _ (nx F k+1) (.of _) (by simp;omega) (by rw[an];exact hlc) hs ht' (by omega)) ?_
  simp only[↓zq,zs,af,zt,aM,hfv.1]
  repeat refine⟨by omega,?_⟩
  refine⟨by simp only[an,aw,aG,hl3];omega,by simp only[an,aw,aG,hl3];omega,?_,rfl⟩
  simp[i7,eI,dT]
theorem O6(t:Ty)(g:ia t)(hs:yF t)(h4:t.atoms<=400):aq Tryz.prog 81 [t.av] [] (bz (.v (.string (mk (HG t))))):=by
 refine ME _ ((aE _).mpr trivial) ?_
 unfold Iv
 have hn:=eF t []
 simp only[aG,aS]at hn
 have hm:((bL t []).length+1)*t.atoms<=401*400:=Nat.mul_le_mul (by omega) h4
 refine ak (Je t (by omega)) ?_
 simp only[↓zq,zs,af,zt,ck]
 refine aY (yl (bL t []) _ (.of _) (by omega) t [] Ig 0 .nil (by simp;omega) g.1 hs (fun w hw=>by cases hw) (by omega)) ?_
 simp only[↓zq,zs,af,zt,aM,ck]
 exact⟨rfl,rfl⟩
theorem ND(t:Ty)(g:ia t)(hs:yF t)(hl:t.atoms<1000000):aq Tryz.prog 40 [t.av] [] (bz (rb (told t))):=by
 refine On _ ((aE _).mpr trivial) ?_
 unfold IF
 refine ak (Dl t hl) ?_
 simp only[↓zq,zs,af,zt]
 refine⟨fun h=>?_,fun h=>?_⟩
 ·have:told t=none:=by unfold told;rw[if_neg fun h'=>by have:=h'.1;omega]
  rw[this];exact⟨rfl,rfl⟩
 ·have h4:t.atoms<=400:=by omega
  refine ak (O6 t g hs h4) ?_
  simp only[↓zq,zs,af,zt]
  refine ak (FG (HG t)) ?_
  simp only[↓zq,zs,af,zt,fH]
  unfold told
  cases q:so (HG t)with
  |
   none =>
   simp only[gK,↓zq,zs,af]
   rw[if_neg (by simp)]
   exact⟨fun _=>⟨rfl,rfl⟩,fun h=>(by cases h)⟩
  |
   some u =>
   simp only[gK,↓zq,zs,af,fk]
   rw[if_pos ⟨h4,rfl⟩]
   exact⟨fun h=>(by cases h),fun _=>⟨rfl,rfl⟩⟩
theorem FX(s:Nm):aq Tryz.prog 15 [.v (.string (mk s))] [] (bz (rb (dE s))):=by
 refine Mp _ ?_
 unfold Ih
 refine ak (FG s) ?_
 simp only[↓zq,zs,af,zt,fH]
 cases q:so s with
 |
  none =>
  have:dE s=none:=by unfold dE;rw[q]
  rw[this]
  simp only[gK,↓zq,zs,af]
  exact⟨fun _=>⟨rfl,rfl⟩,fun h=>(by cases h)⟩
 |
  some t =>
  simp only[gK,↓zq,zs,af,fk]
  have notRec:(∀a,t≠.rc a)->dE s=none:=fun hn=>by
   unfold dE;rw[q]
   cases t<;>first|rfl|exact absurd rfl (hn _)
  refine⟨fun h=>(by cases h),fun _=>?_⟩
  cases t with
  |
   rc a =>
   have h4:=rV q
   simp only[Ty.atoms]at h4
   have hq:dE s=(u4 a l7).bind told:=by unfold dE;rw[q]
   obtain⟨e,he,hw,hte,hats,hok⟩:=qJ q
   have hgood:∀d,u4 a l7=some d->ia d/\(yF (.rc a)->yF d):=fun d hd=>tS hw hte ⟨by simp,by simp,by simp⟩ hd
   rw[hq]
   simp only[Ty.av,↓zq,zs,af]
   refine⟨by omega,fun h=>by omega,fun _=>?_⟩
   have hld:=L6 a (by omega) (fun j=>by
    cases q2:bg (hN j) a with
    |false=>rfl
    |true=>exact absurd rfl ((vg (mE q (hN j) q2)).2 (dd j)))
   simp only[Ty.av]at hld
   refine aQ hld (L0.ne _) ?_
   rintro r ob ⟨rfl,p,hp,rfl,hpe⟩
   simp only[↓zq,zs,af,zt,eq_true hp]
   cases q1:u4 a l7 with
   |
    none =>
    simp only[Option.isSome_none,cK]
    exact⟨fun _=>⟨rfl,rfl⟩,fun h=>(by cases h)⟩
   |
    some d =>
    simp only[Option.isSome_some,bB]
    refine⟨fun h=>(by cases h),fun _=>?_⟩
    rw[hpe d q1]
    have hl:d.atoms<=400:=by
     simp only[u4,bx,iV]at q1
     obtain⟨_,_,h1,h2⟩:=q1
     rw[<-h2];exact h1
    refine ak (ND d (hgood d q1).1 ((hgood d q1).2 (EA q)) (by omega)) ?_
    cases told d<;>simp only[rb,↓zq,zs,af,zt]<;>exact⟨rfl,rfl⟩
  |
   _ =>
   rw[notRec fun a h=>by cases h]
   simp only[Ty.av,↓zq,zs,af]
   exact⟨by omega,fun _=>⟨rfl,rfl⟩,fun h=>by omega⟩
end Go.Proofs.Trees
namespace Go.Proofs.Trees
open Go Go.VL Go.RowKit
theorem Dq:∀(m:Nat) (c:Vl),c.nodes<=m->∀(t:Ty) (v:Vl),dy t c=true->∀(ea:AV) (ids:List Nat),kg ea ids->∀(s:List UInt8) (fr:AV),LK.has .ptr fr->aq Tryz.prog 86 [.agg [t.av,ea],c.cn,.agg [.v (.string (mk s)),fr],v.cn] [] (bz (dS t c v).cn)
 |0,c,hm=>by have:=dx c;omega
 |
  m+1,c,hm=>by
  intro t v hc ea ids he s fr hf
  refine ON _ _ _ _ _ _ ((aE _).mpr trivial) he.has ((aL _).mpr trivial) hf ((aL _).mpr trivial) ?_
  have fin:∀x:AV,LK.has .ptr x->LK.has .ptr x=True:=fun x h=>eq_true h
  cases t with
  |zero=>rw[yo];simp[AO,Ty.av,↓zq,zs,af,bz]
  |one=>rw[Ap];simp[AO,Ty.av,↓zq,zs,af,bz]
  |name n=>rw[oL];simp[AO,Ty.av,↓zq,zs,af,bz]
  |bound u=>rw[vk];simp[AO,Ty.av,↓zq,zs,af,bz]
  |
   plus a b =>
   have hL:=yh a.av b.av ea 43 (mk []) 0 ((aE _).mpr trivial) he.has
   have hR:=yy a.av b.av ea 43 (mk []) 0 ((aE _).mpr trivial) he.has
   rcases A7 hc with⟨x,rfl,hx⟩|⟨x,rfl,hx⟩
   ·simp only[Vl.nodes]at hm
    simp only[AO,Ty.av,↓zq,zs,af]
    refine⟨by omega,fun _=>?_,fun h=>absurd rfl h⟩
    refine ak hL ?_
    simp only[↓zq,zs,af,bO,aE,he.has,Vl.cn,aL]
    refine⟨by omega,fun h=>by omega,fun _=>⟨by omega,by omega,?_⟩⟩
    refine ak (Dq m x (by omega) a v hx ea ids he s fr hf) ?_
    simp only[↓zq,zs,af,aL]
    refine ak (xK 108 _ ((aL _).mpr trivial)) ?_
    simp[↓zq,zs,af,bz,dS,Vl.cn,cc]
   ·simp only[Vl.nodes]at hm
    simp only[AO,Ty.av,↓zq,zs,af]
    refine⟨by omega,fun _=>?_,fun h=>absurd rfl h⟩
    refine ak hL ?_
    simp only[↓zq,zs,af,bO,aE,he.has,Vl.cn,aL]
    refine⟨by omega,fun _=>?_,fun h=>absurd rfl h⟩
    refine ak hR ?_
    simp only[↓zq,zs,af,bO,aE,he.has,Vl.cn,aL]
    refine⟨by omega,by omega,?_⟩
    refine ak (Dq m x (by omega) b v hx ea ids he s fr hf) ?_
    simp only[↓zq,zs,af,aL]
    refine ak (xK 114 _ ((aL _).mpr trivial)) ?_
    simp[↓zq,zs,af,bz,dS,Vl.cn,cc]
  |
   times a b =>
   have hL:=yh a.av b.av ea 42 (mk []) 0 ((aE _).mpr trivial) he.has
   have hR:=yy a.av b.av ea 42 (mk []) 0 ((aE _).mpr trivial) he.has
   rcases yC hc with⟨x,y,rfl,hx⟩|⟨x,y,rfl,hx⟩
   ·simp only[Vl.nodes]at hm
    simp only[AO,Ty.av,↓zq,zs,af,Vl.cn]
    refine⟨by omega,fun h=>by omega,fun _=>⟨fun _=>⟨by omega,fun _=>?_,fun h=>absurd rfl h⟩,fun h=>absurd rfl h⟩⟩
    refine ak hL ?_
    simp only[↓zq,zs,af,bO,aE,he.has,Vl.cn,aL]
    repeat refine⟨by omega,?_⟩
    refine ak (Dq m x (by omega) a v hx ea ids he s fr hf) ?_
    simp only[↓zq,zs,af,aL]
    repeat refine⟨by omega,?_⟩
    refine ak (yw _ _ ((aL _).mpr trivial) ((aL _).mpr trivial)) ?_
    simp[↓zq,zs,af,bz,dS,Vl.cn,cc]
   ·simp only[Vl.nodes]at hm
    simp only[AO,Ty.av,↓zq,zs,af,Vl.cn,aL]
    refine⟨by omega,fun h=>by omega,fun _=>⟨fun _=>⟨by omega,fun h=>by omega,fun _=>?_⟩,fun h=>absurd rfl h⟩⟩
    repeat refine⟨by omega,?_⟩
    refine ak hR ?_
    simp only[↓zq,zs,af,bO,aE,he.has,Vl.cn,aL]
    repeat refine⟨by omega,?_⟩
    refine ak (Dq m y (by omega) b v hx ea ids he s fr hf) ?_
    simp only[↓zq,zs,af,aL]
    refine ak (yw _ _ ((aL _).mpr trivial) ((aL _).mpr trivial)) ?_
    simp[↓zq,zs,af,bz,dS,Vl.cn,cc]
  |
   rc a =>
   have hin:=Bl a ea ids he
   simp only[Ty.av]at hin
   rcases EI hc with⟨x,rfl,hx⟩|⟨x,y,rfl,hx,hy⟩
   ·simp only[Vl.nodes]at hm
    simp only[AO,Ty.av,↓zq,zs,af,Vl.cn,aL]
    refine⟨by omega,fun h=>by omega,fun _=>⟨fun h=>by omega,fun _=>⟨fun _=>?_,fun h=>absurd rfl h⟩⟩⟩
    refine aQ hin (by have:=Az.ne a ea ids;simpa only[Az,Ty.av]using this) ?_
    intro r o hr
    obtain⟨⟨q,hq,rfl⟩,rfl⟩:=hr
    have he2:kg (.ptr [.pid q [(Ty.rc a).av,ea],ea]) (q::ids):=.cons hq he
    have hfr:LK.ptr.has (.pid q [(Ty.rc a).av,ea]):=.inr (.inr ⟨_,_,rfl⟩)
    simp only[Ty.av]at he2 hfr
    simp only[↓zq,zs,af,bO,aE,he2.has,hfr,Vl.cn,aL,Ty.av]
    repeat refine⟨by omega,?_⟩
    refine⟨fun _=>?_,fun h=>absurd rfl h⟩
    repeat refine⟨by omega,?_⟩
    refine ak (Dq m x (by omega) a v hx _ _ he2 s fr hf) ?_
    simp only[↓zq,zs,af,aL]
    refine ak (xK 102 _ ((aL _).mpr trivial)) ?_
    simp[↓zq,zs,af,bz,dS,Vl.cn,cc]
   ·simp only[Vl.nodes]at hm
    simp only[AO,Ty.av,↓zq,zs,af,Vl.cn,aL]
    refine⟨by omega,fun h=>by omega,fun _=>⟨fun h=>by omega,fun _=>⟨fun _=>?_,fun h=>absurd rfl h⟩⟩⟩
    refine aQ hin (by have:=Az.ne a ea ids;simpa only[Az,Ty.av]using this) ?_
    intro r o hr
    obtain⟨⟨q,hq,rfl⟩,rfl⟩:=hr
    have he2:kg (.ptr [.pid q [(Ty.rc a).av,ea],ea]) (q::ids):=.cons hq he
    have hfr:LK.ptr.has (.pid q [(Ty.rc a).av,ea]):=.inr (.inr ⟨_,_,rfl⟩)
    simp only[Ty.av]at he2 hfr
    simp only[↓zq,zs,af,bO,aE,he2.has,hfr,Vl.cn,aL,Ty.av]
    repeat refine⟨by omega,?_⟩
    refine fun _=>?_
    repeat refine⟨by omega,?_⟩
    have i1:=Dq m y (by omega) (.rc a) v hy ea ids he s fr hf
    simp only[Ty.av]at i1
    refine ak i1 ?_
    simp only[↓zq,zs,af,aL]
    repeat refine⟨by omega,?_⟩
    refine ak (Dq m x (by omega) a (dS (.rc a) y v) hx _ _ he2 [] _ hfr) ?_
    simp only[↓zq,zs,af,aL]
    refine ak (xK 102 _ ((aL _).mpr trivial)) ?_
    simp[↓zq,zs,af,bz,dS,Vl.cn,cc]
theorem MU(a:Ty)(c v:Vl)(hc:dy a c=true):aq Tryz.prog 43 [(Ty.rc a).av,c.cn,v.cn] [] (bz (Vl.f (dS a c v)).cn):=by
 refine OW _ _ _ ((aE _).mpr trivial) ((aL _).mpr trivial) ((aL _).mpr trivial) ?_
 unfold Ly
 refine aQ (Bl a iR [] .nil) (Az.ne a iR []) ?_
 rintro r o ⟨⟨m,hm,rfl⟩,rfl⟩
 have he2:kg (.ptr [.pid m [(Ty.rc a).av,iR],iR]) [m]:=.cons hm .nil
 have hfr:LK.ptr.has (.pid m [(Ty.rc a).av,iR]):=.inr (.inr ⟨_,_,rfl⟩)
 simp only[Ty.av]at he2 hfr
 simp only[↓zq,zs,af,bO,aE,he2.has,hfr,Ty.av]
 repeat refine⟨by omega,?_⟩
 refine ak (Dq c.nodes c (az _) a v hc _ _ he2 [] _ hfr) ?_
 simp only[↓zq,zs,af,aL]
 refine ak (xK 102 _ ((aL _).mpr trivial)) ?_
 simp[↓zq,zs,af,bz,Vl.cn,cc]
end Go.Proofs.Trees
namespace Go.Proofs.Trees
open Go Go.VL Go.RowKit
theorem zW{s:Nm}{p:List Nm}{f:Nm}{l:List Vl}{v:Vl}(h:FB s p f=some (l,v)):∃d a x A B D,ZT s d a x A B D/\ZI a l v/\p=l.map (·.dm)/\f=v.dm/\p.length<=50/\zA s=a/\jW s f=some v/\ig d p=some l:=by
 unfold FB at h
 split at h
 ·rename_i v' d h1 h2
  split at h
  ·rename_i hl
   obtain⟨l',h3,h4⟩:=Option.map_eq_some_iff.1 h
   cases h4
   obtain⟨a,_,_,_,L⟩:=oK h1
   obtain⟨x,A,B,D,z⟩:=ZT.of L.l h2
   obtain⟨q1,q2⟩:=qa z p l h3
   obtain⟨q3,q4⟩:=z.Bi h1
   exact⟨d,a,x,A,B,D,z,⟨q2,q3⟩,q1,q4,hl,by unfold zA;rw[L.l];rfl,h1,h3⟩
  ·cases h
 ·cases h
end Go.Proofs.Trees
namespace Go.Proofs.Trees
open Go Go.VL Go.RowKit
abbrev tZ(s:Nm):Option (List Vl×Vl)->Nm×List Nm×Nm
 |some r=>(s,r.1.map (·.dm),r.2.dm)
 |none=>([],[],[])
def GZ(o:Option (List Vl×Vl)):Prop:=∀r,o=some r->(∀c,c∈r.1->c.dm.length<=900000)/\r.2.dm.length<=900000/\r.1.length<=51
theorem Cx.dm{a:Ty}{c:Vl}(h:Cx a c):c.dm.length<=900000:=by have:=iM c h.iq;have:=h.nd;omega
theorem Fo.dm{a:Ty}{c:Vl}(h:Fo a c):c.dm.length<=900000:=by have:=iM c h.iq;have:=h.nd;omega
theorem GZ.none:GZ none:=fun r hr=>by cases hr
theorem oW{s:Nm}{p:List Nm}{f:Nm}{l:List Vl}{v:Vl}(h:uO s p f=some (l,v)):FB s p f=some (l,v)/\(yQ (zA s) l v).isSome=true:=by
 unfold uO at h
 obtain⟨r,h1,h2⟩:=bx.1 h
 split at h2
 ·rename_i hc
  cases h2
  exact⟨h1,hc⟩
 ·cases h2
end Go.Proofs.Trees
namespace Go.Proofs.Trees
open Go Go.VL Go.RowKit
def lA:E->Option E
 | .list [x,a,b]=>if x.at=[114,101,99]then some (.list [x,a,b])else none
 |_=>none
def nU(s:List UInt8):Option E:=match jo s with
 |some e=>lA e
 |none=>none
theorem Pg(s:List UInt8):aq Tryz.prog 26 [.v (.string (mk s))] [] (kT (nU s) (nU s).isSome):=by
 refine Ox _ ?_
 unfold JT
 refine aQ (EU s) (kT.ne _ _ (fun h=>h)) ?_
 rintro r o ⟨c,d,hd,rfl,hh⟩
 have hhas:bO [.str,.sl] [.v (.string (mk c)),d] 0:=by simp[bO,eX,hd]
 simp only[↓zq,zs,af,zt]
 refine⟨hhas,fun h=>?_,fun h=>?_⟩
 ·obtain⟨e,he,hce⟩:=hh h
  obtain⟨t,h1,hA,h3,h4,h5,_⟩:=gu he
  have hce':=hce
  rw[ei]at hce'
  simp only[AV.agg.injEq,List.cons.injEq,AV.v.injEq,Value.string.injEq,and_true]at hce'
  obtain⟨hc1,rfl⟩:=hce'
  have hc2:=mk_inj hc1
  subst hc2
  have head:∀w:List UInt8,aq Tryz.prog 54 [.agg [.v (.string (mk e.at)),e.sp]] [] (bz (.v (.string (mk w))))->(w=[114,101,99]↔(lA e).isSome=true)->((lA e).isSome=true->lA e=some e) ->
   eK Tryz.prog 18 (Tree.call 54 [.agg [.v (.string (mk e.at)),e.sp]] [] fun r2 o2=>Tree.aj (LK.str.has r2) (Tree.done 0 [.cW [.agg [.v (.string (mk e.at)),e.sp],.v (.bool (ag r2.toStr==[114,101,99]))]] [])) fun _ xs obs=>kT (nU s) (nU s).isSome (xs.headD .any) obs:=by
   intro w hw h1 h2
   refine ak hw ?_
   simp only[↓zq,zs,af,zt]
   refine⟨e.at,e.sp,hd,?_,fun hs=>⟨e,?_,(ei e).symm⟩⟩
   ·congr 3
    simp only[nU,he,AV.v.injEq,Value.bool.injEq,List.cons.injEq,and_true]
    rw[cr];simpa using h1
   ·simp only[nU,he]at hs |-;exact h2 hs
  have hl:∀x l,e=.list (x::l)->aq Tryz.prog 54 [.agg [.v (.string (mk e.at)),e.sp]] [] (bz (.v (.string (mk x.at)))):=by
   rintro x l rfl;exact vf x l
  have ha:∀s0,e=.atom s0->aq Tryz.prog 54 [.agg [.v (.string (mk e.at)),e.sp]] [] (bz (.v (.string (mk [])))):=by
   rintro s0 rfl;exact AR s0 _ ((bp).mpr trivial) hA.ok
  rcases gT hA.wf hA.ty with⟨hb,_⟩|⟨u,g,rfl,_,hg⟩
  ·rcases fM hA.ty hb hA.cl with⟨rfl,rfl⟩|⟨rfl,rfl⟩|⟨s0,rfl,rfl,hp,h0,h1⟩|⟨x,a,b,t1,t2,rfl,hx,rfl,ha',hbb⟩|⟨x,a,b,t1,t2,rfl,hx,rfl,ha',hbb⟩|⟨x,a,b,t1,rfl,hx,rfl⟩
   ·exact head _ (ha _ rfl) (by simp[lA]) (by simp[lA])
   ·exact head _ (ha _ rfl) (by simp[lA]) (by simp[lA])
   ·exact head _ (ha _ rfl) (by simp[lA]) (by simp[lA])
   ·exact head _ (hl _ _ rfl) (by simp[lA,hx]) (by simp[lA,hx])
   ·exact head _ (hl _ _ rfl) (by simp[lA,hx]) (by simp[lA,hx])
   ·exact head _ (hl _ _ rfl) (by simp[lA,hx]) (by simp[lA,hx])
  ·simp at hg
 ·have hn:jo s=none:=by cases hq:jo s<;>simp[hq]at h |-
  refine⟨c,d,hd,?_,fun h=>?_⟩
  ·simp[nU,hn]
  ·simp[nU,hn]at h
theorem Ai(s:List UInt8):(nU s).isSome=(lL s).isSome:=by
 unfold nU lL
 cases h:jo s with
 |none=>rw[mo h];rfl
 |
  some e =>
  obtain⟨t,h1,hA,h3,h4,h5,_⟩:=gu h
  rw[h1]
  simp only
  rcases gT hA.wf hA.ty with⟨hb,_⟩|⟨u,g,rfl,_,hg⟩
  ·rcases fM hA.ty hb hA.cl with⟨rfl,rfl⟩|⟨rfl,rfl⟩|⟨s0,rfl,rfl,hp,h0,h1⟩|⟨x,a,b,t1,t2,rfl,hx,rfl,ha',hbb⟩|⟨x,a,b,t1,t2,rfl,hx,rfl,ha',hbb⟩|⟨x,a,b,t1,rfl,hx,rfl⟩<;>simp_all[lA]
  ·simp at hg
theorem LV.le{s v:List UInt8}{w:Vl}{a:Ty}{x A B:E}(h:LV s v w a x A B):nU s=some (.list [x,A,B]):=by
 unfold nU;rw[h.ce];simp[lA,h.hx]
theorem Oz(n:Nat)(v:Vl)(x A B:E)(a:Ty)(hA:Ask B [.mk A.at (.list [x,A,B]) []] a)(hx:x.at=[114,101,99])(w:Vl)(hw:v=.f w)(hv:eG n v (.list [x,A,B],[])=true)(hl:v.nodes<90000) :
 aq Tryz.prog 37 [.agg [.v (.string (mk B.at)),B.sp],.v (.string (mk A.at)),.agg [.v (.string (mk w.dc.at)),w.dc.sp]] [] (bz (.sl (lF (kids a v)))):=by
 subst hw
 obtain⟨w',e,hw'⟩:=sW .nil hx hv
 cases e
 simp only[Vl.nodes]at hl
 have hnm:names [Fr.mk A.at (.list [x,A,B]) []]=[]++[A.at]:=rfl
 have h:=Dy n w.nodes w (az _) B _ a hA hw' (by simp;omega) A.at (by rw[hnm];right;rw[gp];rfl)
 rw[hnm,uA]at h
 exact h
end Go.Proofs.Trees
namespace Go.Proofs.Trees
open Go Go.VL Go.RowKit
theorem ZT.le{s d:Nm}{a:Ty}{x A B:E}{D:Ty}(z:ZT s d a x A B D):nU s=some (.list [x,A,B]):=by
 unfold nU;rw[z.ce];simp[lA,z.hx]
theorem tq(o:Option Nm):rb o=.cW [.v (.string (mk (o.getD []))),.v (.bool o.isSome)]:=by cases o<;>rfl
abbrev DH(a:Ty)(w v:Vl):Option Nm:=if(Vl.f (dS a w v)).nodes<=200 then some (Vl.f (dS a w v)).dm else none
theorem qe{d:Nm}:∀{p:List Nm} {l:List Vl},ig d p=some l->p=l.map (·.dm)->∀c,c∈l->mI d c.dm 100=some c
 |[],l,h,_,c,hc=>by cases h;cases hc
 |
  q::r,l,h,hp,c,hc=>by
  simp only[ig]at h
  split at h
  ·rename_i w l' h1 h2
   cases h
   simp only[bD,List.cons.injEq]at hp
   rcases aJ.1 hc with rfl|hc
   ·rw[<-hp.1];exact h1
   ·exact qe h2 hp.2 c hc
  ·cases h
structure St(s d:Nm)(a:Ty)(l:List Vl)(v:Vl):Prop where
 z:∃x A B D,ZT s d a x A B D
 i:ZI a l v
 each:∀c,c∈l->mI d c.dm 100=some c
 len:l.length<=50
theorem St.up{s d:Nm}{a:Ty}{l l':List Vl}{v w:Vl}(h:St s d a l v)(hu:Dr a l v=some (l',w)):St s d a l' w:=by
 obtain⟨h1,h2,c,h3,_⟩:=DK h.i hu
 have hl:=h.len
 exact⟨h.z,h1,fun c' hc'=>h.each c' (by rw[h3];exact aB _ hc'),by omega⟩
def KP(o:Option Vl):AV->List Ob->Prop:=fun r ob=>ob=[]/\∃c0 pa c2,LK.sl.has pa/\r=.cW [.agg [.v (.string c0),pa,.v (.string c2)],.v (.bool o.isSome)]/\∀w,o=some w->c2=mk w.dm
theorem KP.ne(o:Option Vl):∃r ob,KP o r ob:=⟨_,[],rfl,mk [],.sl [],mk ((o.map (·.dm)).getD []),(ck _).mpr trivial,rfl,fun w h=>by rw[h];rfl⟩
theorem AI(s:Nm)(p:List Nm)(f:Nm):FB s p f=(dE s).bind fun d=>(lL s).bind fun _=>(mI s f 100).bind fun v=>if p.length<=50 then(ig d p).map fun l=>(l,v)else none:=by
 unfold FB jW
 cases lL s with
 |none=>cases dE s<;>rfl
 |some a=>cases mI s f 100<;>cases dE s<;>rfl
end Go.Proofs.Trees
namespace Go.Proofs.Trees
open Go Go.VL Go.RowKit
inductive Rl(x:Nm):Nat->Tg->Tg->Prop
 |nm (i):Rl x i (.nm x) (.bd i)
 |ki (i s) (h:s≠x):Rl x i (.nm s) (.nm s)
 |bd (i j) (h:j≠i):Rl x i (.bd j) (.bd j)
theorem Rl.up{x:Nm}{i:Nat}{a b:Tg}(h:Rl x i a b):Rl x (i+1) a.up b.up:=by
 cases h with
 |nm=>exact .nm _
 |ki s h=>exact .ki _ _ h
 |bd j h=>exact .bd _ _ (by omega)
theorem Rl.at{x:Nm}{i:Nat}{a b:Tg}(h:Rl x i a b):∀t:Ty,bg x t=false->fm (dM (.name x) t i) a=fm t b
 |
  .bound k,_=>by
  simp only[dM]
  cases h with
  |
   nm =>
   by_cases e:k=i
   ·simp[e,fm]
   ·simp[e,fm]
  |
   ki s h =>
   by_cases e:k=i
   ·simp[e,fm,Ne.symm h]
   ·simp[e,fm]
  |
   bd j h =>
   by_cases e:k=i
   ·simp[e,fm,Ne.symm h]
   ·simp[e,fm]
 |
  .name s,hn=>by
  have hs:s≠x:=by simpa[bg]using hn
  cases h with
  |nm=>simp[dM,fm,hs]
  |ki=>rfl
  |bd=>rfl
 | .plus _ _,_=>by cases h<;>rfl
 | .times _ _,_=>by cases h<;>rfl
 | .rc _,_=>by cases h<;>rfl
 | .zero,_=>by cases h<;>rfl
 | .one,_=>by cases h<;>rfl
theorem gH(x:Nm):∀(n:Nat) (t:Ty) (i:Nat) (a b:Tg) (v:Vl),bg x t=false->Rl x i a b->eg n (dM (.name x) t i) a v=eg n t b v
 |0,_,_,_,_,_,_,_=>rfl
 |
  n+1,t,i,a,b,v,hn,h=>by
  rw[eg,eg,h.at t hn]
  by_cases ht:fm t b=true
  ·rw[if_pos ht,if_pos ht]
  ·rw[if_neg ht,if_neg ht]
   cases t with
   |
    plus p q =>
    simp only[bg,cf]at hn
    cases v<;>simp only[dM,j8,gH x n p i a b _ hn.1 h,gH x n q i a b _ hn.2 h]
   |
    times p q =>
    simp only[bg,cf]at hn
    cases v<;>simp only[dM,j8,gH x n p i a b _ hn.1 h,gH x n q i a b _ hn.2 h]
   |
    rc p =>
    have h0:Rl x (i+1) (.bd 0) (.bd 0):=.bd _ _ (by omega)
    cases v<;>simp only[dM,j8]
    rename_i w
    rw[gH x n p (i+1) a.up b.up w hn h.up,gH x n p (i+1) (.bd 0) (.bd 0) w hn h0]
    congr 1
    apply jP
    intro k _
    have:=gH x n (.rc p) i a b k.2 hn h
    simp only[dM]at this
    rw[this]
   |
    bound k =>
    simp only[dM]
    by_cases e:k=i
    ·rw[if_pos e];cases v<;>rfl
    ·rw[if_neg e];cases v<;>rfl
   |name s=>rfl
   |zero=>rfl
   |one=>rfl
theorem mY(x:Nm){t:Ty}{i:Nat}{a b:Tg}(v:Vl)(hn:bg x t=false)(h:Rl x i a b):bT (dM (.name x) t i) a v=bT t b v:=gH x _ t i a b v hn h
theorem lP(n:Nat):∀(m:Nat) (v:Vl),v.nodes<=m->∀(t:Ty) (s:Nm) (d:Ty) (σ:Nm->Option Ty),Dv t s d->BY σ->jU t 0->vT n v (eQ σ t)=true->∀h,h∈bT t (.nm s) v ->
 vT n h.1 (eQ σ d)=true/\vT n h.2 (eQ σ (.name s))=true/\dS t h.1 h.2=v
 |0,v,hm=>by have:=dx v;omega
 |
  m+1,v,hm=>by
  intro t s d σ hd hσ hl hv h hh
  cases hd with
  |zero=>rw[dF rfl (by cases v<;>rfl)]at hh;cases hh
  |one=>rw[dF rfl (by cases v<;>rfl)]at hh;cases hh
  |bound=>rw[dF rfl (by cases v<;>rfl)]at hh;cases hh
  |ql hne=>rw[dF (by simp[fm,hne]) (by cases v<;>rfl)]at hh;cases hh
  |
   hit =>
   rw[l8 v (by simp[fm])]at hh
   simp only[aR]at hh
   subst hh
   exact⟨rfl,hv,oL _ _ _⟩
  |
   @plus a b _ a' b' h1 h2 _ =>
   rcases kN hv with⟨w,rfl,hw⟩|⟨w,rfl,hw⟩
   ·simp only[Vl.nodes]at hm
    rw[mF]at hh
    obtain⟨k,hk,rfl⟩:=dk hh
    obtain⟨q1,q2,q3⟩:=lP n m w (by omega) _ s _ σ h1 hσ hl.1 hw k hk
    exact⟨q1,q2,congrArg Vl.l q3⟩
   ·simp only[Vl.nodes]at hm
    rw[mC]at hh
    obtain⟨k,hk,rfl⟩:=dk hh
    obtain⟨q1,q2,q3⟩:=lP n m w (by omega) _ s _ σ h2 hσ hl.2 hw k hk
    exact⟨q1,q2,congrArg Vl.r q3⟩
  |
   @times a b _ a' b' h1 h2 _ =>
   obtain⟨x,y,rfl,hx,hy⟩:=jC hv
   simp only[Vl.nodes]at hm
   rw[mn]at hh
   rcases aK.1 hh with hh|hh
   ·obtain⟨k,hk,rfl⟩:=dk hh
    obtain⟨q1,q2,q3⟩:=lP n m x (by omega) _ s _ σ h1 hσ hl.1 hx k hk
    refine⟨?_,q2,congrArg (fun q=>Vl.p q y) q3⟩
    show (vT n k.1 (eQ σ a')&&vT n y (eQ σ b))=true
    rw[q1,hy];rfl
   ·obtain⟨k,hk,rfl⟩:=dk hh
    obtain⟨q1,q2,q3⟩:=lP n m y (by omega) _ s _ σ h2 hσ hl.2 hy k hk
    refine⟨?_,q2,congrArg (Vl.p x) q3⟩
    show (vT n x (eQ σ a)&&vT n k.1 (eQ σ b'))=true
    rw[q1,hx];rfl
  |
   @rc a _ c0 d0 x hx hs h1 h2 hsz =>
   have lo:jU (dM (.name x) a 0) 0:=iE x a hl
   obtain⟨X,e1,e2⟩:=qS (x:=x) hσ hl (h1.lc lo) (h2.lc lo)
   obtain⟨w,rfl,hw⟩:=By hv
   simp only[Vl.nodes]at hm
   have hcl:=nH hσ x (ka hσ (.rc a) hl)
   have hop:eQ (iQ σ x (eQ σ (.rc a))) (dM (.name x) a 0)=dM (eQ σ (.rc a)) (eQ σ a) 0:=jl hσ x _ a 0 hx
   have hns:eQ (iQ σ x (eQ σ (.rc a))) (.name s)=eQ σ (.name s):=by simp only[eQ,iQ,if_neg (Ne.symm hs)]
   have hnx:eQ (iQ σ x (eQ σ (.rc a))) (.name x)=eQ σ (.rc a):=by simp[eQ,iQ]
   have hw':vT n w (eQ (iQ σ x (eQ σ (.rc a))) (dM (.name x) a 0))=true:=by rw[hop];exact hw
   have ty:∀y,vT n y (dM (.rc X) X 0)=true->vT n (.f y) (eQ σ (si a x c0 d0))=true:=fun y hy=>by rw[e1];exact hy
   rw[my]at hh
   rcases aK.1 hh with hh|hh
   ·obtain⟨k,hk,rfl⟩:=dk hh
    have hk':k∈bT (dM (.name x) a 0) (.nm s) w:=by rw[mY x w hx (.ki 0 s (Ne.symm hs))];exact hk
    obtain⟨q1,q2,q3⟩:=lP n m w (by omega) _ s _ _ h1 hcl lo hw' k hk'
    rw[eU x k.1.nodes k.1 a 0 k.2 (az _)]at q3
    refine⟨ty _ ?_,by rw[<-hns];exact q2,congrArg Vl.f q3⟩
    rw[e2];exact q1
   ·obtain⟨k,hk,hh⟩:=List.mem_flatMap.1 hh
    obtain⟨k2,hk2,rfl⟩:=dk hh
    have hk':k∈bT (dM (.name x) a 0) (.nm x) w:=by rw[mY x w hx (.nm 0)];exact hk
    obtain⟨q1,q2,q3⟩:=lP n m w (by omega) _ x _ _ h2 hcl lo hw' k hk'
    rw[eU x k.1.nodes k.1 a 0 k.2 (az _)]at q3
    rw[hnx]at q2
    have hsz2:=(i6 hk).1
    obtain⟨r1,r2,r3⟩:=lP n m k.2 (by omega) (.rc a) s _ σ (.rc x hx hs h1 h2 hsz) hσ hl q2 k2 hk2
    refine⟨ty _ ?_,r2,?_⟩
    ·rw[e2]
     show (vT n k.1 _&&vT n k2.1 _)=true
     rw[q1,r1];rfl
    ·show Vl.f (dS a k.1 (dS (.rc a) k2.1 k2.2))=.f w
     rw[r3,q3]
theorem CN{n:Nat}{a D:Ty}{x:Nm}(hx:bg x a=false)(hl:jU (.rc a) 0)(h:u4 a x=some D){v:Vl}(hv:vT n v (.rc a)=true){k:Hl}(hk:k∈kids a v) :
 vT n k.1 D=true/\vT n k.2 (.rc a)=true/\.f (dS a k.1 k.2)=v:=by
 simp only[u4,bx,dC,iV]at h
 obtain⟨d,hd,_,rfl⟩:=h
 have lo:jU (dM (.name x) a 0) 0:=iE x a hl
 have hcl:=nH tD x hl
 have e1:sub x (.rc a) d=eQ (iQ E7 x (.rc a)) d:=by
  have:=iP E7 x (.rc a) d
  rw[jG,jG]at this;exact this
 obtain⟨w,rfl,hw⟩:=By hv
 have hk':k∈bT (dM (.name x) a 0) (.nm x) w:=by rw[mY x w hx (.nm 0)];exact hk
 have hop:eQ (iQ E7 x (.rc a)) (dM (.name x) a 0)=dM (.rc a) a 0:=by rw[jl tD x _ a 0 hx,jG]
 obtain⟨q1,q2,q3⟩:=lP n w.nodes w (az _) _ x _ _ hd hcl lo (by rw[hop];exact hw) k hk'
 rw[eU x k.1.nodes k.1 a 0 k.2 (az _)]at q3
 refine⟨by rw[e1];exact q1,?_,congrArg Vl.f q3⟩
 simpa[eQ,iQ]using q2
theorem gJ:∀{t:Ty},bN t=true->∃y,bg y t=true/\cP y=true
 | .name s,h=>⟨s,by simp[bg],h⟩
 |
  .plus a b,h=>by
  simp only[bN,bh]at h
  rcases h with h|h
  ·obtain⟨y,h1,h2⟩:=gJ h;exact⟨y,by simp[bg,h1],h2⟩
  ·obtain⟨y,h1,h2⟩:=gJ h;exact⟨y,by simp[bg,h1],h2⟩
 |
  .times a b,h=>by
  simp only[bN,bh]at h
  rcases h with h|h
  ·obtain⟨y,h1,h2⟩:=gJ h;exact⟨y,by simp[bg,h1],h2⟩
  ·obtain⟨y,h1,h2⟩:=gJ h;exact⟨y,by simp[bg,h1],h2⟩
 |
  .rc a,h=>by
  obtain⟨y,h1,h2⟩:=gJ (t:=a) h;exact⟨y,by simp[bg,h1],h2⟩
theorem gA:∀{t:Ty} {y:Nm},bg y t=true->cP y=true->bN t=true
 |
  .name s,y,h,hl=>by
  have:s=y:=by simpa[bg]using h
  rw[this];exact hl
 |
  .plus a b,y,h,hl=>by
  simp only[bg,bh]at h
  simp only[bN,bh]
  exact h.imp (gA · hl) (gA · hl)
 |
  .times a b,y,h,hl=>by
  simp only[bg,bh]at h
  simp only[bN,bh]
  exact h.imp (gA · hl) (gA · hl)
 | .rc a,y,h,hl=>gA (t:=a) h hl
 | .zero,y,h,_=>by simp[bg]at h
 | .one,y,h,_=>by simp[bg]at h
 | .bound k,y,h,_=>by simp[bg]at h
theorem ZT.Pr{s d:Nm}{a:Ty}{x A B:E}{D:Ty}(z:ZT s d a x A B D):∃e,jo d=some e/\Ask e [] D:=by
 have hcl:bN D=false:=by
  cases q:bN D with
  |false=>rfl
  |
   true =>
   obtain⟨y,h1,h2⟩:=gJ q
   have:=gA (t:=.rc a) (sf z.lp y h1) h2
   rw[z.ask.cl]at this;cases this
 have hc:vP d=some D:=by unfold vP;rw[z.bk];simp only;rw[if_pos (by rw[rM,hcl];rfl)]
 cases q:jo d with
 |none=>rw[mo q]at hc;cases hc
 |
  some e =>
  obtain⟨t,h1,hA,_⟩:=gu q
  rw[hc]at h1;cases h1
  exact⟨e,rfl,hA⟩
theorem ZT.My{s d:Nm}{a:Ty}{x A B:E}{D:Ty}(z:ZT s d a x A B D){w:Vl}(hb:w.iq 100)(hv:vT 100 w D=true):mI d w.dm 100=if w.nodes<=200 then some w else none:=by
 obtain⟨e,he,hA⟩:=z.Pr
 unfold mI
 rw[he]
 by_cases hn:w.nodes<=200
 ·rw[tx hb hn,if_pos hn]
  simp only
  rw[if_pos ⟨by omega,by rw[show (100:Int).toNat=100 from rfl,mz hA];exact hv⟩]
 ·rw[if_neg hn]
  cases q:qy w.dm with
  |none=>rfl
  |
   some w' =>
   exfalso
   obtain⟨_,h2,h3⟩:=jQ q
   have:=sG hb h2 (mB q)
   rw[this]at hn;exact hn h3
theorem ZT.MS{s d:Nm}{a:Ty}{x A B:E}{D:Ty}(z:ZT s d a x A B D){v:Vl}(hv:Fo a v){k:Hl}(hk:k∈kids a v):vT 100 k.1 D=true/\Fo a k.2/\.f (dS a k.1 k.2)=v:=by
 obtain⟨e2,he2,hw2,hte2,_,_⟩:=qJ z.y
 have hlc:jU (.rc a) 0:=hte2 ▸ hw2.DX.1
 obtain⟨q1,q2,q3⟩:=CN (zc z.y) hlc z.lp hv.ty hk
 have:=xH hk
 have:=hv.nd
 exact⟨q1,⟨q2,(lU hv.iq hk).2,by omega⟩,q3⟩
def C3(a:Ty)(l:List Vl)(v:Vl)(k:Int):Option (List Vl×Vl) :=
 if l.length=50 then none else if 0<=k/\k.toNat<(kids a v).length then
  (if((kids a v).getD k.toNat (.u,.u)).1.nodes<=200 then some (l++[((kids a v).getD k.toNat (.u,.u)).1],((kids a v).getD k.toNat (.u,.u)).2)else none)else none
theorem uz{a:Ty}{l:List Vl}{c e v:Vl}(h:.f (dS a c e)=v)(hn:v.nodes<=200):Dr a (l++[c]) e=some (l,v)/\yQ a (l++[c]) e=yQ a l v:=by
 have hu:Dr a (l++[c]) e=some (l,v):=by
  unfold Dr
  rw[List.getLast?_concat]
  simp only
  rw[h,if_pos hn,List.dropLast_concat]
 refine⟨hu,?_⟩
 unfold yQ
 rw[an,List.length_singleton,qs,hu]
 rfl
theorem yq{s d:Nm}{l:List Vl}{v:Vl}(hs:St s d (zA s) l v)(hd:dE s=some d)(hv:uO s (l.map (·.dm)) v.dm=some (l,v)){k:Hl}(hk:k∈kids (zA s) v) :
 uO s (l.map (·.dm)++[k.1.dm]) k.2.dm=if l.length=50 then none else if k.1.nodes<=200 then some (l++[k.1],k.2)else none:=by
 obtain⟨x,A,B,D,z⟩:=hs.z
 obtain⟨t1,t2,t3⟩:=z.MS hs.i.Bi hk
 have hb:=(lU hs.i.Bi.iq hk).1
 have hz:=(oW hv).1
 have hclo:=(oW hv).2
 have hlen:=hs.len
 have hlp:ig d (l.map (·.dm))=some l:=by
  rw[AI,hd]at hz
  simp only[bB,z.l]at hz
  obtain⟨_,h1,h2⟩:=bx.1 hz
  split at h2
  ·obtain⟨l',h3,h4⟩:=Option.map_eq_some_iff.1 h2
   cases h4;exact h3
  ·cases h2
 have e1:mI s k.2.dm 100=some k.2:=by rw[z.dm t2.iq t2.ty,if_pos t2.nd]
 unfold uO
 rw[AI,hd]
 simp only[bB,z.l,e1,se,hlp,ig,z.My hb t1,an,cG,List.length_singleton]
 by_cases h50:l.length=50
 ·rw[if_neg (by omega),if_pos h50];rfl
 ·rw[if_pos (by omega),if_neg h50]
  by_cases hn:k.1.nodes<=200
  ·rw[if_pos hn,if_pos hn]
   simp only[ct,bB,(uz (l:=l) t3 hs.i.Bi.nd).2]
   rw[if_pos hclo]
  ·rw[if_neg hn,if_neg hn];rfl
end Go.Proofs.Trees
namespace Go.Proofs.Trees
open Go Go.VL Go.RowKit
def LS(s:Nm)(o:Option (List Vl×Vl)):AV->List Ob->Prop:=fun r obs=>obs=[]/\∃pa,dG pa (tZ s o).2.1/\r=.cW [.agg [.v (.string (mk (tZ s o).1)),pa,.v (.string (mk (tZ s o).2.2))],.v (.bool o.isSome)]
theorem LS.ne(s:Nm)(o:Option (List Vl×Vl)):∃r ob,LS s o r ob:=⟨_,[],rfl,_,dG.of _,rfl⟩
theorem LS.none(s:Nm):LS s none (.cW [.agg [.v (.string (mk [])),.v (.slice none 0 0),.v (.string (mk []))],.v (.bool false)]) []:=⟨rfl,_,dG.nil,rfl⟩
def eh(l:List Hl):List (List AV):=l.map fun h=>[.v (.string (mk h.1.dm)),.v (.string (mk h.2.dm))]
theorem fI(l:List Hl):(eh l).length=l.length:=by simp[eh]
theorem Hz(l:List Hl)(hl:l.length<=1000)(h1:∀h,h∈l->h.1.dm.length<=900000)(h2:∀h,h∈l->h.2.dm.length<=900000):∀(k i:Nat) (out:List Hl),i+k=l.length->out.length<=i ->
 DY [.sl (lF l),.v (.int .i64 (i:Int))] [.vec 2 (eh out)] (hZ 1 [] [.vec 2 (eh (out++l.drop i))])
 |
  0,i,out,hi,ho=>by
  refine Kh _ _ _ ?_
  have:i=l.length:=by omega
  subst this
  simp only[E6,↓zq,zs,af,eZ,List.drop_length]
  exact⟨fun h=>by omega,fun _=>by simp[hZ]⟩
 |
  k+1,i,out,hi,ho=>by
  have hlt:i<l.length:=by omega
  have hm:=bJ hlt
  have t1:=Jz (l[i]).1.dc (m9 _) (h1 _ hm)
  have t2:=Jz (l[i]).2.dc (m9 _) (h2 _ hm)
  rw[ei]at t1 t2
  refine Kh _ _ _ ?_
  simp only[E6,↓zq,zs,af,zt,eZ,ga hlt,bO,bb]
  refine⟨fun _=>?_,fun h=>by omega⟩
  repeat refine⟨by omega,?_⟩
  refine ak t1 ?_
  simp only[↓zq,zs,af,zt]
  repeat refine⟨by omega,?_⟩
  refine ak t2 ?_
  simp only[↓zq,zs,af,zt,fI]
  refine⟨⟨fun c hc=>by simp at hc;rw[hc];rfl,by omega⟩,?_⟩
  rw[bw i (by omega),aV hlt]
  have:=Hz l hl h1 h2 k (i+1) (out++[l[i]]) (by omega) (by simp;omega)
  rw[a7]at this
  simpa[eh]using this
theorem Oo(l:List Hl)(hl:l.length<=1000)(h1:∀h,h∈l->h.1.dm.length<=900000)(h2:∀h,h∈l->h.2.dm.length<=900000):aq Tryz.prog 36 [.sl (lF l)] [] (bz (.sl (eh l))):=by
 refine M7 _ ((ck _).mpr trivial) ?_
 unfold H8
 refine cm (Hz l hl h1 h2 l.length 0 [] (by omega) (by simp)) ?_
 simp only[↓zq,zs,af]
 exact⟨rfl,rfl⟩
theorem nJ{a:Ty}{v:Vl}(h:Fo a v){k:Hl}(hk:k∈kids a v):k.1.dm.length<=900000/\k.2.dm.length<=900000:=by
 obtain⟨b1,b2⟩:=lU h.iq hk
 have h1:=iM _ b1
 have h2:=iM _ b2
 have h3:=xH hk
 have h4:=h.nd
 have h5:k.1.nodes<=4*v.nodes:=by
  cases v with
  |f w=>have:=(i6 hk).2;simp only[Vl.nodes];omega
  |_=>cases hk
 omega
end Go.Proofs.Trees
namespace Go.Proofs.Trees
open Go Go.VL Go.RowKit
theorem uh{a:Ty}{l l':List Vl}{v w:Vl}{k:Int}(h:C3 a l v k=some (l',w)):∃q,q∈kids a v/\l'=l++[q.1]/\w=q.2/\q.1.nodes<=200/\l.length≠50/\0<=k/\(kids a v)[k.toNat]?=some q:=by
 unfold C3 at h
 split at h
 ·cases h
 ·rename_i h0
  split at h
  ·rename_i h1
   split at h
   ·rename_i h2
    cases h
    have e:(kids a v).getD k.toNat (.u,.u)=(kids a v)[k.toNat]'h1.2:=by simp[aa,h1.2]
    rw[e]at h2 |-
    exact⟨_,bJ _,rfl,rfl,h2,h0,h1.1,by simp[h1.2]⟩
   ·cases h
  ·cases h
theorem St.dn{s d:Nm}{a:Ty}{l l':List Vl}{v w:Vl}{k:Int}(h:St s d a l v)(hu:C3 a l v k=some (l',w)):St s d a l' w/\Dr a l' w=some (l,v)/\l'.length=l.length+1:=by
 obtain⟨q,hq,rfl,rfl,hn,h50,_,_⟩:=uh hu
 obtain⟨x,A,B,D,z⟩:=h.z
 obtain⟨t1,t2,t3⟩:=z.MS h.i.Bi hq
 have hv:mI d q.1.dm 100=some q.1:=by rw[z.My (lU h.i.Bi.iq hq).1 t1,if_pos hn]
 have hlen:=h.len
 refine⟨⟨⟨x,A,B,D,z⟩,⟨fun c hc=>?_,t2⟩,fun c hc=>?_,by simp;omega⟩,(uz t3 h.i.Bi.nd).1,by simp⟩
 ·rcases aK.1 hc with hc|hc
  ·exact h.i.ctx c hc
  ·simp only[aR]at hc;subst hc;exact z.ctx hv
 ·rcases aK.1 hc with hc|hc
  ·exact h.each c hc
  ·simp only[aR]at hc;subst hc;exact hv
theorem qk{l:List Hl}{i:Nat}(h:i<l.length):(eh l).getD i []=[.v (.string (mk (l[i]).1.dm)),.v (.string (mk (l[i]).2.dm))]:=by simp[eh,aa,h]
theorem EN{s:Nm}{p:List Nm}{f:Nm}{r:List Vl×Vl}(h:FB s p f=some r):∃d,dE s=some d/\St s d (zA s) r.1 r.2/\p=r.1.map (·.dm)/\f=r.2.dm:=by
 obtain⟨d,a,x,A,B,D,z,hz,hp,hf,hl,hza,_,hr⟩:=zW (l:=r.1) (v:=r.2) h
 rw[hza]
 exact⟨d,z.dl,⟨⟨x,A,B,D,z⟩,hz,qe hr hp,by rw[hp]at hl;simpa using hl⟩,hp,hf⟩
theorem Jh{s d:Nm}{l:List Vl}{v:Vl}(hs:St s d (zA s) l v)(hd:dE s=some d)(hv:uO s (l.map (·.dm)) v.dm=some (l,v)){k:Int}(h0:0<=k)(hk:k.toNat<(kids (zA s) v).length) :
 uO s (l.map (·.dm)++[((kids (zA s) v)[k.toNat]).1.dm]) ((kids (zA s) v)[k.toNat]).2.dm=C3 (zA s) l v k:=by
 rw[yq hs hd hv (bJ hk)]
 unfold C3
 by_cases h5:l.length=50
 ·rw[if_pos h5,if_pos h5]
 ·rw[if_neg h5,if_neg h5,if_pos (show 0<=k/\k.toNat<(kids (zA s) v).length from ⟨h0,hk⟩)]
  have hg2:(kids (zA s) v).getD k.toNat (.u,.u)=(kids (zA s) v)[k.toNat]:=by simp[aa,hk]
  rw[hg2]
end Go.Proofs.Trees
namespace Go.Proofs.Trees
open Go Go.VL Go.RowKit
def Pe(n:Nat):AV->List Ob->Prop:=fun r o=>∃x:Int,r=.v (.int .i64 x)/\(0<=x->n<=1048576)
theorem Pe.ne(n:Nat):∃r o,Pe n r o:=⟨_,[],-1,rfl,fun h=>by omega⟩
end Go.Proofs.Trees
namespace Go.Proofs.Trees
open Go Go.VL Go.RowKit
def pk(a:AV)(l:List Nat):Prop:=LK.sl.has a/\a.elems=qo l
theorem pk.of(l:List Nat):pk (.sl (qo l)) l:=⟨(ck _).mpr trivial,rfl⟩
theorem pk.nil:pk (.v (.slice none 0 0)) []:=⟨(bp).mpr trivial,rfl⟩
theorem pk.len{a:AV}{l:List Nat}(h:pk a l):a.elems.length=l.length:=by rw[h.2,vy]
theorem pk.idx{a:AV}{l:List Nat}(h:pk a l){i:Nat}(hi:i<l.length):a.elems.getD i []=[.v (.int .i64 (l.getD i 0:Nat))]:=by
 rw[h.2];simp[qo,aa,hi]
end Go.Proofs.Trees
namespace Go.Proofs.Trees
open Go Go.VL Go.RowKit
def uP(l:List Int):List (List AV):=l.map fun k=>[.v (.int .i64 k)]
def px(a:AV)(l:List Int):Prop:=LK.sl.has a/\a.elems=uP l
theorem yc(l:List Int):(uP l).length=l.length:=by simp[uP]
theorem px.of(l:List Int):px (.sl (uP l)) l:=⟨(ck _).mpr trivial,rfl⟩
theorem px.nil:px (.v (.slice none 0 0)) []:=⟨(bp).mpr trivial,rfl⟩
theorem px.len{a:AV}{l:List Int}(h:px a l):a.elems.length=l.length:=by rw[h.2,yc]
theorem px.idx{a:AV}{l:List Int}(h:px a l){i:Nat}(hi:i<l.length):a.elems.getD i []=[.v (.int .i64 (l.getD i 0))]:=by
 rw[h.2];simp[uP,aa,hi]
end Go.Proofs.Trees
namespace Go.Proofs.Trees
open Go Go.VL Go.RowKit
abbrev ZO:=Option (List Vl×Vl)
def Es(s:Nm)(o:ZO):Prop:=∀r,o=some r->∃d,St s d (zA s) r.1 r.2
def PC(a:Ty)(pl:List Int)(o:ZO):ZO:=pl.foldl (fun o k=>o.bind fun r=>C3 a r.1 r.2 k) o
theorem Es.dn{s:Nm}{o:ZO}(h:Es s o)(k:Int):Es s (o.bind fun r=>C3 (zA s) r.1 r.2 k):=fun r hr=>by
 obtain⟨q,h1,h2⟩:=bx.1 hr
 obtain⟨d,hs⟩:=h q h1
 exact⟨d,(hs.dn (l':=r.1) (w:=r.2) h2).1⟩
theorem Es.go{s:Nm}:∀{pl:List Int} {o:ZO},Es s o->Es s (PC (zA s) pl o)
 |[],o,h=>h
 |k::pl,o,h=>Es.go (pl:=pl) (h.dn k)
def NY(s:Nm)(o:ZO):Prop:=∀r,o=some r->uO s (r.1.map (·.dm)) r.2.dm=some r
theorem NY.dn{s:Nm}{o:ZO}(h:NY s o)(k:Int):NY s (o.bind fun r=>C3 (zA s) r.1 r.2 k):=fun r hr=>by
 obtain⟨q,h1,h2⟩:=bx.1 hr
 have hq:=h q h1
 obtain⟨d,hd,hs,_⟩:=EN (oW (l:=q.1) (v:=q.2) hq).1
 obtain⟨e,_,h3,h4,_,_,h0,h5⟩:=uh (l':=r.1) (w:=r.2) h2
 have hk:k.toNat<(kids (zA s) q.2).length:=by
  rcases Nat.lt_or_ge k.toNat (kids (zA s) q.2).length with h|h
  ·exact h
  ·rw[List.getElem?_eq_none h]at h5;cases h5
 have he:(kids (zA s) q.2)[k.toNat]=e:=by rw[bm hk]at h5;cases h5;rfl
 have:=Jh hs hd hq h0 hk
 rw[h2,he]at this
 obtain⟨l1,v1⟩:=r
 simp only at h3 h4 |-
 subst h3 h4
 rw[List.map_append]
 exact this
end Go.Proofs.Trees
namespace Go.Proofs.Trees
open Go Go.VL Go.RowKit
def Ec(x:Nm)(i:Nat)(tg tg':Tg):Prop:=(tg=.bd i/\tg'=.nm x)\/(∃s,s≠x/\tg=.nm s/\tg'=.nm s)\/∃j,j<i/\tg=.bd j/\tg'=.bd j
theorem Ec.up{x:Nm}{i:Nat}{tg tg':Tg}(h:Ec x i tg tg'):Ec x (i+1) tg.up tg'.up:=by
 rcases h with⟨rfl,rfl⟩|⟨s,h,rfl,rfl⟩|⟨j,h,rfl,rfl⟩
 ·exact .inl ⟨rfl,rfl⟩
 ·exact .inr (.inl ⟨s,h,rfl,rfl⟩)
 ·exact .inr (.inr ⟨j+1,by omega,rfl,rfl⟩)
end Go.Proofs.Trees
namespace Go.Proofs.Trees
open Go Go.VL Go.RowKit
noncomputable def Cm (s c v:Nm):Option Nm:=(jW s v).bind fun w=>(dE s).bind fun d=>(mI d c 100).bind fun c'=>DH (zA s) c' w
def rl(s v:Nm):Option (List Hl):=(jW s v).map fun w=>kids (zA s) w
end Go.Proofs.Trees
namespace Go.Proofs.Trees
open Go Go.VL Go.RowKit
theorem K7(l:List Hl)(hl:l.length<=1000)(h1:∀h,h∈l->h.1.dm.length<=900000)(h2:∀h,h∈l->h.2.dm.length<=900000):∀(k i:Nat) (out:List Hl),i+k=l.length->out.length<=i ->
 Ee [.sl (gU l),.v (.int .i64 (l.length:Int)),.v (.int .i64 (i:Int))] [.vec 2 (eh out)] (hZ 1 [] [.vec 2 (eh (out++l.drop i))])
 |
  0,i,out,hi,ho=>by
  have:i=l.length:=by omega
  subst this
  refine HH _ _ _ _ ?_
  simp only[Fb,↓zq,zs,af,dL,List.drop_length,List.append_nil]
  exact⟨fun h=>by omega,fun _=>⟨rfl,rfl,rfl⟩⟩
 |
  k+1,i,out,hi,ho=>by
  have hlt:i<l.length:=by omega
  have hm:=bJ hlt
  refine HH _ _ _ _ ?_
  simp only[Fb,↓zq,zs,af,zt,dL,kM hlt,bO,aL,bW]
  refine⟨fun _=>?_,fun h=>by omega⟩
  repeat refine⟨by first|trivial|omega,?_⟩
  refine ak (Dg _ (h1 _ hm)) ?_
  simp only[↓zq,zs,af,zt,aL]
  repeat refine⟨by first|trivial|omega,?_⟩
  refine ak (Dg _ (h2 _ hm)) ?_
  simp only[↓zq,zs,af,zt,fI]
  refine⟨⟨fun c hc=>by simp at hc;rw[hc];rfl,by omega⟩,?_⟩
  rw[bw i (by omega),aV hlt]
  have:=K7 l hl h1 h2 k (i+1) (out++[l[i]]) (by omega) (by simp;omega)
  rw[a7]at this
  simpa[eh]using this
theorem NQ(l:List Hl)(hl:l.length<=1000)(h1:∀h,h∈l->h.1.dm.length<=900000)(h2:∀h,h∈l->h.2.dm.length<=900000):aq Tryz.prog 34 [.sl (gU l)] [] (bz (.sl (eh l))):=by
 refine Ny _ ((ck _).mpr trivial) ?_
 simp only[GM,↓zq,zs,af,dL]
 refine cm (K7 l hl h1 h2 l.length 0 [] (by omega) (by simp)) ?_
 simp only[↓zq,zs,af,Ob.es,aX]
 exact⟨rfl,rfl⟩
def KO:Option (List Hl)->AV
 |some l=>.cW [.sl (eh l),.v (.bool true)]
 |none=>.cW [.v (.slice none 0 0),.v (.bool false)]
theorem ss{a:Ty}{v:Vl}(h:Fo a v):(kids a v).length<=1000:=by
 have hlen:=sE a v
 have:=oi (kids a v)
 have:=h.nd
 omega
theorem nr{s v:Nm}{w:Vl}(h:jW s v=some w):∃x A B,lL s=some (zA s)/\Fo (zA s) w/\v=w.dm/\LV s v w (zA s) x A B:=by
 obtain⟨a,x,A,B,L⟩:=oK h
 have ha:zA s=a:=by unfold zA;rw[L.l];rfl
 rw[ha]
 exact⟨x,A,B,L.l,⟨by rw[<-mz L.ask];exact L.eG,L.iq,L.nodes⟩,mB L.v,L⟩
theorem uk{s:Nm}{a:Ty}(h:lL s=some a):ES s=(Ty.rc a).av:=by unfold ES;rw[h]
theorem MJ(s v:Nm):aq Tryz.prog 12 [.v (.string (mk s)),.v (.string (mk v))] [] (bz (KO (rl s v))):=by
 refine OJ _ _ ?_
 unfold IB
 refine ak (J9 s v) ?_
 unfold rl
 cases q:jW s v with
 |
  none =>
  simp only[↓zq,zs,af,gm,KO,Option.map_none]
  refine⟨by unfold ES;split<;>simp[aE,iG],?_⟩
  exact⟨fun _=>⟨rfl,rfl⟩,fun h=>(by cases h)⟩
 |
  some w =>
  obtain⟨x,A,B,hl,hf,hv,L⟩:=nr q
  rw[uk hl]
  simp only[↓zq,zs,af,gm,KO,ct,aL,er,aE]
  refine⟨fun h=>(by cases h),fun _=>?_⟩
  have:=hf.nd
  refine ak (NK 100 w x A B (zA s) L.body L.hx L.eG (by omega)) ?_
  simp only[↓zq,zs,af,zt]
  refine ak (NQ (kids (zA s) w) (ss hf) (fun h hh=>(nJ hf hh).1) (fun h hh=>(nJ hf hh).2)) ?_
  simp only[↓zq,zs,af,zt]
  exact⟨rfl,rfl⟩
theorem OS(s c v:Nm):aq Tryz.prog 17 [.v (.string (mk s)),.v (.string (mk c)),.v (.string (mk v))] [] (bz (rb (Cm s c v))):=by
 refine N6 _ _ _ ?_
 unfold H0
 refine ak (J9 s v) ?_
 unfold Cm
 cases q:jW s v with
 |
  none =>
  simp only[↓zq,zs,af,gm,cK]
  refine⟨by unfold ES;split<;>simp[aE,iG],?_⟩
  refine ak (FX s) ?_
  rw[tq]
  simp only[↓zq,zs,af,zt]
  exact⟨fun _=>⟨rfl,rfl⟩,fun h=>(by cases h)⟩
 |
  some w =>
  obtain⟨x,A,B,hl,hf,hv,L⟩:=nr q
  rw[uk hl]
  simp only[↓zq,zs,af,gm,bB,aL,er,aE]
  refine ak (FX s) ?_
  cases q2:dE s with
  |
   none =>
   simp only[↓zq,zs,af,zt,rb,cK]
   exact⟨fun h=>(by cases h),fun _=>⟨fun _=>⟨rfl,rfl⟩,fun h=>(by cases h)⟩⟩
  |
   some d =>
   simp only[↓zq,zs,af,zt,rb,bB]
   refine⟨fun h=>(by cases h),fun _=>⟨fun h=>(by cases h),fun _=>?_⟩⟩
   refine ak (DC d c 100) ?_
   cases q3:mI d c 100 with
   |
    none =>
    simp only[↓zq,zs,af,zt,gm,fH,cK]
    exact⟨fun _=>⟨rfl,rfl⟩,fun h=>(by cases h)⟩
   |
    some c' =>
    obtain⟨x2,A2,B2,D,z⟩:=ZT.of hl q2
    have hx:=z.ctx q3
    simp only[↓zq,zs,af,zt,gm,fH,bB,aL,er,aE]
    refine⟨fun h=>(by cases h),fun _=>?_⟩
    refine ak (MU (zA s) c' w hx.ok) ?_
    simp only[↓zq,zs,af,zt,aL]
    have hb:(Vl.f (dS (zA s) c' w)).iq 100:=tR 100 _ c' w hx.iq hf.iq
    have hn:(Vl.f (dS (zA s) c' w)).nodes<100000:=by
     have:=vx (zA s) c' w
     have:=hx.nd
     have:=hf.nd
     simp only[Vl.nodes];omega
    refine ak (L7 _ hb hn) ?_
    unfold DH
    split<;>simp[rb,↓zq,zs,af,zt,bz]
end Go.Proofs.Trees
namespace Go.Proofs.Trees
open Go Go.VL Go.RowKit
def pg(l:List UInt8):List (List AV):=l.map fun(x:UInt8)=>[.v (.int .u8 (x.toNat:Int))]
structure sB(b:AV)(l:List UInt8):Prop where
 has:LK.sl.has b
 el:b.elems=pg l
 len:l.length<=2000
theorem sB.ln{b:AV}{l:List UInt8}(h:sB b l):b.elems.length=l.length:=by rw[h.el];simp[pg]
theorem sB.get{b:AV}{l:List UInt8}(h:sB b l){i:Nat}(hi:i<l.length):b.elems.getD i []=[.v (.int .u8 ((l[i]).toNat:Int))]:=by rw[h.el];simp[pg,aa,hi]
def eM(b:AV)(p c:Nat)(X:AV->Prop):AV->List Ob->Prop:=fun r o=>∃q:Nat,p<=q/\q<=p+c/\X r/\o=[.cells [b,.v (.int .i64 (q:Int))]]
theorem eM.ne{b:AV}{p c:Nat}{X:AV->Prop}{r:AV}(h:X r):∃r o,eM b p c X r o:=⟨r,_,p,az _,cJ _ _,h,rfl⟩
theorem Bq{a b:Int}(ha:0<=a)(hb:0<=b)(ha':a<9223372036854775808)(hb':b<9223372036854775808):∃W:Nat,AU .i64 a b=(W:Int):=by
 obtain⟨x,rfl⟩:∃x:Nat,a=(x:Int):=⟨a.toNat,by omega⟩
 obtain⟨y,rfl⟩:∃y:Nat,b=(y:Int):=⟨b.toNat,by omega⟩
 have e1:(BitVec.ofInt 64 (x:Int)).toNat=x:=by simp;omega
 have e2:(BitVec.ofInt 64 (y:Int)).toNat=y:=by simp;omega
 have hlt:x ^^^ y<2 ^ 63:=Nat.xor_lt_two_pow (by omega) (by omega)
 refine⟨x ^^^ y,?_⟩
 unfold AU
 have e3:(BitVec.ofInt (IntKind.bits .i64) (x:Int) ^^^ BitVec.ofInt (IntKind.bits .i64) (y:Int)).toNat=x ^^^ y:=by
  show (BitVec.ofInt 64 (x:Int) ^^^ BitVec.ofInt 64 (y:Int)).toNat=_
  rw[BitVec.toNat_xor,e1,e2]
 rw[e3,VL.wrap64]<;>omega
theorem xu(a b:Nat):Int.tdiv (a:Int) (b:Int)=((a/b:Nat):Int):=(Int.ofNat_tdiv a b).symm
theorem pW(a b:Nat):dj (a:Int) (b:Int)=((a%b:Nat):Int):=(Int.ofNat_tmod a b).symm
theorem uF(n:Nat)(h:n<9223372036854775808):IntKind.wrap .i64 (n:Int)=(n:Int):=VL.wrap64 _ (by omega) (by omega)
def isNum(n:Nat):AV->Prop:=fun r=>∃k:Nat,r=.v (.int .i64 (k:Int))/\(1<=n->k<n)/\k<=n
abbrev pP:Nat:=1000000000000000
theorem wQ(b:AV)(l:List UInt8)(hb:sB b l)(p n:Nat)(hp:p<2*pP)(hn:n<pP):aq Tryz.prog 45 [.ref 0 0,.v (.int .i64 (n:Int))] [.cells [b,.v (.int .i64 (p:Int))]] (eM b p 1 (isNum n)):=by
 refine Ma _ _ _ hb.has ?_
 have e1:IntKind.wrap .i64 ((p:Int)+1)=((p+1:Nat):Int):=by rw[VL.wrap64]<;>simp[pP]at hp<;>omega
 have e2:IntKind.wrap .i64 (((p+1:Nat):Int)-1)=(p:Int):=by rw[VL.wrap64]<;>simp[pP]at hp<;>omega
 have fin:∀k:Nat,(1<=n->k<n)->k<=n->eM b p 1 (isNum n) (.v (.int .i64 (k:Int))) [.cells [b,.v (.int .i64 ((p+1:Nat):Int))]]:=fun k h h'=>⟨p+1,by omega,az _,⟨k,rfl,h,h'⟩,rfl⟩
 simp only[J0,↓zq,zs,af,e1,e2,hb.ln,xu,pW]
 refine⟨fun h=>fin 0 (fun h'=>by omega) (dA _),fun h=>⟨hb.has,fun h0=>fin 0 (fun h'=>by omega) (dA _),fun h0=>?_⟩⟩
 have hl:0<l.length:=by omega
 have hll:=hb.len
 refine⟨hb.has,fun hlt=>?_,fun hge=>?_⟩
 ·have hlt:p<l.length:=by omega
  have hx:=(l[p]).toNat_lt
  simp only[bW,hb.get hlt,hb.has,↓zq,zs,af]
  rw[uF _ (by omega),pW]
  have:=fin ((l[p]).toNat%n) (fun h'=>dW _ (by omega)) (Nat.le_of_lt (dW _ (by omega)))
  repeat (first|exact this|refine⟨by omega,?_⟩)
 ·have h1:p%l.length<l.length:=dW _ hl
  have e3:IntKind.wrap .i64 ((p:Int)*7)=((p*7:Nat):Int):=by rw[VL.wrap64]<;>simp[pP]at hp<;>omega
  have e4:IntKind.wrap .i64 (((p*7:Nat):Int)+3)=((p*7+3:Nat):Int):=by rw[VL.wrap64]<;>simp[pP]at hp<;>omega
  have h2:(p*7+3)%l.length<l.length:=dW _ hl
  have hx:=(l[p%l.length]).toNat_lt
  have hy:=(l[(p*7+3)%l.length]).toNat_lt
  have hq:p/l.length<=p:=Nat.div_le_self _ _
  simp only[e3,e4,pW,bW,hb.get h1,hb.get h2,hb.has,↓zq,zs,af]
  generalize hxx:(l[p%l.length]).toNat=x at hx |-
  generalize hyy:(l[(p*7+3)%l.length]).toNat=y at hy |-
  generalize hqq:p/l.length=q at hq |-
  have f1:IntKind.wrap .i64 ((x:Int))=(x:Int):=uF _ (by omega)
  have f2:IntKind.wrap .i64 ((y:Int))=(y:Int):=uF _ (by omega)
  have f3:IntKind.wrap .i64 ((x:Int)*131)=((x*131:Nat):Int):=by rw[VL.wrap64]<;>omega
  have f4:IntKind.wrap .i64 ((y:Int)*1117)=((y*1117:Nat):Int):=by rw[VL.wrap64]<;>omega
  have f5:IntKind.wrap .i64 (((x*131:Nat):Int)+((y*1117:Nat):Int))=((x*131+y*1117:Nat):Int):=by rw[VL.wrap64]<;>omega
  have f6:IntKind.wrap .i64 ((p:Int)*29)=((p*29:Nat):Int):=by rw[VL.wrap64]<;>simp[pP]at hp<;>omega
  have f7:IntKind.wrap .i64 (((x*131+y*1117:Nat):Int)+((p*29:Nat):Int))=((x*131+y*1117+p*29:Nat):Int):=by rw[VL.wrap64]<;>simp[pP]at hp<;>omega
  have f8:IntKind.wrap .i64 ((q:Int))=(q:Int):=uF _ (by simp[pP]at hp;omega)
  have f9:IntKind.wrap .i64 ((q:Int)*53)=((q*53:Nat):Int):=by rw[VL.wrap64]<;>simp[pP]at hp<;>omega
  have f10:IntKind.wrap .i64 (((x*131+y*1117+p*29:Nat):Int)+((q*53:Nat):Int))=((x*131+y*1117+p*29+q*53:Nat):Int):=by rw[VL.wrap64]<;>simp[pP]at hp<;>omega
  simp only[f1,f2,f3,f4,f5,f6,f7,f8,f9,f10]
  generalize hV:x*131+y*1117+p*29+q*53=V
  have hVl:V<1000000000000000000:=by simp[pP]at hp;omega
  have f11:IntKind.wrap .i64 (Int.tdiv (V:Int) 64)=((V/64:Nat):Int):=by
   have:Int.tdiv (V:Int) 64=((V/64:Nat):Int):=xu V 64
   rw[this,uF _ (by omega)]
  rw[f11]
  obtain⟨W,hW⟩:=Bq (a:=(V:Int)) (b:=((V/64:Nat):Int)) (by omega) (by omega) (by omega) (by omega)
  rw[hW,pW]
  have:=fin (W%n) (fun h'=>dW _ (by omega)) (Nat.le_of_lt (dW _ (by omega)))
  repeat (first|exact this|refine⟨by omega,?_⟩)
def kp(L:List (List UInt8)):AV->Prop:=fun r=>∃s,s∈L/\r=.v (.string (mk s))
theorem B8(b:AV)(l:List UInt8)(hb:sB b l)(p:Nat)(hp:p<2*pP)(L:List (List UInt8))(a:AV)(ha:dG a L)(hL:0<L.length)(hLl:L.length<1000000):aq Tryz.prog 94 [.ref 0 0,a] [.cells [b,.v (.int .i64 (p:Int))]] (eM b p 1 (kp L)):=by
 refine Od _ _ _ ha.1 hb.has ?_
 unfold IK
 simp only[↓zq,zs,af,ha.len]
 refine⟨ha.1,?_⟩
 have hpk:=wQ b l hb p L.length hp (by simp[pP];omega)
 refine aQ hpk (eM.ne ⟨0,rfl,fun h=>h,dA _⟩) ?_
 rintro r o ⟨q,h1,h2,⟨k,rfl,h3,h4⟩,rfl⟩
 have hk:=h3 hL
 simp only[↓zq,zs,af,zt,aM,hb.has,ha.idx hk,bW]
 refine⟨⟨ha.1,by omega⟩,?_⟩
 have:eM b p 1 (kp L) (.v (.string (mk (L.getD k [])))) [.cells [b,.v (.int .i64 (q:Int))]]:=⟨q,h1,h2,⟨_,by simp[aa,hk],rfl⟩,rfl⟩
 repeat (first|exact this|refine⟨by omega,?_⟩)
def fV(n:Nat):AV->Prop:=fun r=>∃s:List UInt8,r=.v (.string (mk s))/\s.length<=n
theorem kp.dm{L:List (List UInt8)}{n:Nat}(h:∀s,s∈L->s.length<=n){r:AV}(hr:kp L r):fV n r:=by
 obtain⟨s,h1,h2⟩:=hr;exact⟨s,h2,h s h1⟩
end Go.Proofs.Trees
namespace Go.Proofs.Trees
open Go Go.VL Go.RowKit
def jD:AV->List Ob->Prop:=fun r o=>o=[]/\∃b:Bool,r=.v (.bool b)
theorem jD.ne:∃r o,jD r o:=⟨_,_,rfl,true,rfl⟩
theorem jD.mk(b:Bool):jD (.v (.bool b)) []:=⟨rfl,b,rfl⟩
theorem jD.call{n:Nat}{f:Nat}{xs:List AV}{k:AV->List Ob->Tree}{Q:Nat->List AV->List Ob->Prop}(h:aq Tryz.prog f xs [] jD)(hk:∀b:Bool,eK Tryz.prog n (k (.v (.bool b)) []) Q):eK Tryz.prog n (.call f xs [] k) Q :=
 aQ h jD.ne (by rintro r o ⟨rfl,b,rfl⟩;exact hk b)
theorem LJ{e:E}(h:Wf e):∀(l:List Nm) (a:AV),dG a l->l.length+e.sz<100000->aq Tryz.prog 133 [.agg [.v (.string (mk e.at)),e.sp],a] [] jD:=by
 induction h with
 |
  @atom s hs =>
  intro l a ha hl
  simp only[E.sz]at hl
  refine BZ _ _ _ ((bb _).mpr trivial) ha.1 ?_
  simp only[Ac,eD,↓zq,zs,af]
  refine ak (AR s _ ((bb (.atom s)).mpr trivial) hs) ?_
  simp only[↓zq,zs,af,zt,ha.1]
  refine⟨fun h=>(by cases h),fun _=>⟨fun h=>(by cases h),fun _=>⟨fun h=>(by cases h),fun _=>⟨fun _=>.mk true,fun _=>?_⟩⟩⟩⟩
  refine ak (GI l a ha s (by omega)) ?_
  simp only[↓zq,zs,af]
  exact .mk _
 |
  @plus x y hx hy i1 i2 =>
  intro l a ha hl
  simp only[E.sz,E.je]at hl
  refine BZ _ _ _ ((bb _).mpr trivial) ha.1 ?_
  have hP:=P3.of (.atom [43]) x y
  simp only[Ac,cV,toNat_one,bq,↓zq,zs,af,zt,hP.1,hP.2.1,hP.2.2.1,hP.2.2.2,aP]
  refine ak (qY [43] x y) ?_
  simp only[↓zq,zs,af,zt,ha.1,aP]
  refine⟨fun _=>⟨by omega,by omega,jD.call (i1 l a ha (by omega)) fun b=>?_⟩,fun h=>absurd rfl h⟩
  simp only[↓zq,zs,af]
  refine⟨fun _=>⟨by omega,by omega,jD.call (i2 l a ha (by omega)) fun b=>?_⟩,fun _=>.mk _⟩
  simp only[↓zq,zs,af]
  exact .mk _
 |
  @times x y hx hy i1 i2 =>
  intro l a ha hl
  simp only[E.sz,E.je]at hl
  refine BZ _ _ _ ((bb _).mpr trivial) ha.1 ?_
  have hP:=P3.of (.atom [42]) x y
  simp only[Ac,cV,toNat_one,bq,↓zq,zs,af,zt,hP.1,hP.2.1,hP.2.2.1,hP.2.2.2,aP]
  refine ak (qY [42] x y) ?_
  simp only[↓zq,zs,af,zt,ha.1,aP]
  refine⟨fun h=>(by cases h),fun _=>⟨fun _=>⟨by omega,by omega,jD.call (i1 l a ha (by omega)) fun b=>?_⟩,fun h=>absurd rfl h⟩⟩
  simp only[↓zq,zs,af]
  refine⟨fun _=>.mk _,fun _=>⟨by omega,by omega,jD.call (i2 l a ha (by omega)) fun b=>?_⟩⟩
  simp only[↓zq,zs,af]
  exact .mk _
 |
  @rc n b hn hb i =>
  intro l a ha hl
  simp only[E.sz,E.je]at hl
  refine BZ _ _ _ ((bb _).mpr trivial) ha.1 ?_
  have hP:=P3.of (.atom gX) (.atom n) b
  simp only[Ac,cV,toNat_one,bq,↓zq,zs,af,zt,hP.1,hP.2.1,hP.2.2.1,hP.2.2.2,aP]
  refine ak (qY gX (.atom n) b) ?_
  simp only[↓zq,zs,af,zt,ha.1,aP]
  refine⟨fun h=>(by cases h),fun _=>⟨fun h=>(by cases h),fun _=>⟨fun _=>⟨by omega,by omega,by omega,by omega,?_⟩,fun h=>absurd rfl h⟩⟩⟩
  refine aY (GH l a ha n (by omega)) ?_
  simp only[↓zq,zs,af,zt,Ob.es,aX]
  refine⟨ir _,?_⟩
  refine jD.call (i (l++[n]) _ (.of _) (by simp;omega)) fun b=>?_
  simp only[↓zq,zs,af]
  exact .mk _
def Ot:AV->List Ob->Prop:=fun r o=>o=[]/\∃(g:E) (b:Bool),r=.cW [.agg [.v (.string (mk g.at)),g.sp],.v (.bool b)]/\Wf g/\g.en<=400
theorem MF{n:Nm}{b:E}(hn:tO n)(hb:Wf b)(hl:(E.list [.atom gX,.atom n,b]).en<=400):aq Tryz.prog 135 [.agg [.v (.string (mk [])),(E.list [.atom gX,.atom n,b]).sp]] [] Ot:=by
 have hw:Wf (.list [.atom gX,.atom n,b]):=.rc hn hb
 refine NX _ _ ((bb _).mpr trivial) ?_
 have hP:=P3.of (.atom gX) (.atom n) b
 have hbl:b.en<=400:=by simp only[E.en,E.fp]at hl;omega
 simp only[GN,toNat_one,bq,↓zq,zs,af,zt,hP.1,hP.2.1,hP.2.2.1,hP.2.2.2,aP]
 refine⟨by omega,by omega,by omega,by omega,?_⟩
 have hf:=Pa hn hb hw (by omega) (by omega)
 obtain⟨g,g1,g2,g3⟩:=Nq hn hb hw hbl hl
 simp only[cV]at hf g3
 refine ak hf ?_
 simp only[↓zq,zs,af,zt,aP]
 refine⟨fun h=>⟨rfl,_,false,rfl,hw,hl⟩,fun h=>?_⟩
 repeat refine⟨by omega,?_⟩
 refine ak g3 ?_
 simp only[↓zq,zs,af,zt,aP]
 refine⟨rfl,g,true,rfl,g1,?_⟩
 rw[g1.en [],g2]
 simpa using h
end Go.Proofs.Trees
namespace Go.Proofs.Trees
open Go Go.VL Go.RowKit
def jH(n:Nat):AV->Prop:=fun r=>∃e:E,r=.agg [.v (.string (mk e.at)),e.sp]/\e.ok/\(eI e).length<=n
theorem jH.u(n:Nat)(h:1<=n):jH n (.agg [.v (.string (mk [117])),.v (.slice none 0 0)]):=⟨.atom [117],rfl,by simp[E.ok],by simpa[eI]using h⟩
def jR(b:AV)(d:Int)(e:E)(B C:Nat):Prop:=∀p:Nat,p+C<pP->aq Tryz.prog 95 [.ref 0 0,.agg [.v (.string (mk e.at)),e.sp],.v (.int .i64 d)] [.cells [b,.v (.int .i64 (p:Int))]] (eM b p C (jH B))
theorem jR.mono{b:AV}{d:Int}{e:E}{B C B' C':Nat}(h:jR b d e B C)(hB:B<=B')(hC:C<=C'):jR b d e B' C':=fun p hp=>aq.mono (h p (by omega)) fun r o ⟨q,h1,h2,⟨g,h3,h4,h5⟩,h6⟩=>⟨q,h1,by omega,⟨g,h3,h4,by omega⟩,h6⟩
theorem n7(b:AV)(p C B:Nat)(h:1<=B):∃r o,eM b p C (jH B) r o:=eM.ne (jH.u B h)
theorem Pk(w:Nm)(e:E)(h:w.length=1):(eI (.list [.atom w,e])).length=(eI e).length+4:=by
 simp[eI,dT];omega
theorem Pp(w:Nm)(e f:E)(h:w.length=1):(eI (.list [.atom w,e,f])).length=(eI e).length+(eI f).length+5:=by
 simp[eI,dT];omega
theorem H4{b:AV}{p q q' C B:Nat}{w:Nm}{e:E}(hw:w.length=1)(h1:p<=q)(h2:q<=p+1)(h3:q<=q')(h4:q'<=q+C)(ho:e.ok)(hl:(eI e).length<=B) :
 eM b p (C+1) (jH (B+5)) (.agg [.v (.string (mk [])),(E.list [.atom w,e]).sp]) [.cells [b,.v (.int .i64 (q':Int))]] :=
 ⟨q',by omega,by omega,⟨.list [.atom w,e],rfl,⟨by intro h;rw[h]at hw;simp at hw,ho,trivial⟩,by rw[Pk w e hw];omega⟩,rfl⟩
theorem Lz(b:AV)(l:List UInt8)(hb:sB b l)(d:Int){s:Nm}(hs:s≠[]):jR b d (.atom s) 5 1:=by
 intro p hp
 refine Bz _ _ _ _ _ ((bb (.atom s)).mpr trivial) hb.has ?_
 simp only[zH,eD,↓zq,zs,af]
 refine ak (AR s _ ((bb (.atom s)).mpr trivial) hs) ?_
 simp only[↓zq,zs,af,zt]
 refine⟨fun h=>(by cases h),fun _=>⟨fun h=>(by cases h),fun _=>⟨fun h=>(by cases h),fun _=>⟨fun _=>?_,fun _=>?_⟩⟩⟩⟩
 ·exact⟨p,az _,by omega,jH.u 5 (by omega),rfl⟩
 ·refine aQ (wQ b l hb p 3 (by omega) (by decide)) (eM.ne ⟨0,rfl,fun h=>by omega,by omega⟩) ?_
  rintro r o ⟨q,h1,h2,⟨k,rfl,h3,h4⟩,rfl⟩
  have hk:k<3:=h3 (by omega)
  simp only[↓zq,zs,af,aM,hb.has]
  refine ak (BJ (k+1) k (by omega) (by omega)) ?_
  have hd:dd k=[aZ (48+k)]:=ep (by omega)
  simp only[↓zq,zs,af,zt,hd]
  refine⟨by simp,q,h1,h2,⟨.atom ([101]++[aZ (48+k)]),rfl,by simp[E.ok],by simp[eI]⟩,rfl⟩
theorem Lx(b:AV)(l:List UInt8)(hb:sB b l)(d:Int)(hd:-100000<=d/\d<=100000){n:Nm}{e:E}(hn:tO n)(he:Wf e)(hl:(E.list [.atom gX,.atom n,e]).en<=400)(B C:Nat)(ih:-12<=d->∀g,Wf g->g.en<=400->jR b (d-1) g B C)(hB:1<=B):jR b d (.list [.atom gX,.atom n,e]) (B+5) (C+1):=by
 intro p hp
 refine Bz _ _ _ _ _ ((bb _).mpr trivial) hb.has ?_
 have ed:IntKind.wrap .i64 (d-1)=d-1:=VL.wrap64 _ (by omega) (by omega)
 simp only[zH,cV,↓zq,zs,af,ed]
 refine ak (qY gX (.atom n) e) ?_
 simp only[↓zq,zs,af,zt]
 have hu:=MF hn he hl
 refine⟨fun h=>(by cases h),fun _=>⟨fun h=>(by cases h),fun _=>⟨fun _=>?_,fun h=>absurd rfl h⟩⟩⟩
 refine aQ hu ⟨_,_,rfl,.atom [117],true,rfl,.atom (by simp),by simp[E.en]⟩ ?_
 rintro r o ⟨rfl,g,c,rfl,g1,g2⟩
 have u:eM b p (C+1) (jH (B+5)) (.agg [.v (.string (mk [117])),.v (.slice none 0 0)]) [.cells [b,.v (.int .i64 (p:Int))]]:=⟨p,az _,by omega,jH.u _ (by omega),rfl⟩
 simp only[↓zq,zs,af,zt,aP]
 refine⟨fun _=>u,fun _=>⟨fun _=>u,fun hd2=>?_⟩⟩
 refine aQ (ih (by omega) g g1 g2 p (by omega)) (n7 b p C B hB) ?_
 rintro r o ⟨q,h1,h2,⟨f,rfl,h4,h5⟩,rfl⟩
 simp only[↓zq,zs,af,zt,aM,hb.has,aP]
 repeat refine⟨by omega,?_⟩
 refine ak (Bh [102] f) ?_
 simp only[↓zq,zs,af,zt,aM,hb.has,aP]
 have fin:=H4 (b:=b) (w:=[102]) rfl (az p) (by omega) h1 h2 h4 h5
 first|exact fin|exact⟨by omega,fin⟩
theorem KB(b:AV)(l:List UInt8)(hb:sB b l)(d:Int)(hd:-100000<=d/\d<=100000){x y:E}(hx:Wf x)(hy:Wf y)(B1 C1 B2 C2:Nat)(ix:jR b (d-1) x B1 C1)(iy:jR b (d-1) y B2 C2)(hB:1<=B1)(hB2:1<=B2):jR b d (.list [.atom [42],x,y]) (B1+B2+5) (C1+C2+1):=by
 intro p hp
 refine Bz _ _ _ _ _ ((bb _).mpr trivial) hb.has ?_
 have ed:IntKind.wrap .i64 (d-1)=d-1:=VL.wrap64 _ (by omega) (by omega)
 have hP:=P3.of (.atom [42]) x y
 simp only[zH,cV,toNat_one,bq,↓zq,zs,af,zt,hP.1,hP.2.1,hP.2.2.1,hP.2.2.2,aP,ed]
 refine ak (qY [42] x y) ?_
 simp only[↓zq,zs,af,zt]
 refine⟨fun h=>(by cases h),fun _=>⟨fun _=>?_,fun h=>absurd rfl h⟩⟩
 refine⟨by omega,by omega,aQ (ix p (by omega)) (n7 b p C1 B1 hB) ?_⟩
 rintro r o ⟨q,h1,h2,⟨f,rfl,h4,h5⟩,rfl⟩
 simp only[↓zq,zs,af,zt,aM,hb.has,aP]
 repeat refine⟨by omega,?_⟩
 refine aQ (iy q (by omega)) (n7 b q C2 B2 hB2) ?_
 rintro r o ⟨q',g1,g2,⟨g,rfl,g4,g5⟩,rfl⟩
 simp only[↓zq,zs,af,zt,aM,hb.has,aP]
 repeat refine⟨by omega,?_⟩
 refine ak (Bj [112] f g) ?_
 simp only[↓zq,zs,af,zt,aM,hb.has,aP]
 have fin:eM b p (C1+C2+1) (jH (B1+B2+5)) (.agg [.v (.string (mk [])),(E.list [.atom [112],f,g]).sp]) [.cells [b,.v (.int .i64 (q':Int))]]:=⟨q',by omega,by omega,⟨.list [.atom [112],f,g],rfl,⟨by simp[E.ok],h4,g4,trivial⟩,by rw[Pp [112] f g rfl];omega⟩,rfl⟩
 first|exact fin|exact⟨by omega,fin⟩
theorem Ks(b:AV)(l:List UInt8)(hb:sB b l)(d:Int)(hd:-100000<=d/\d<=100000){x y:E}(hx:Wf x)(hy:Wf y)(hl:(E.list [.atom [43],x,y]).en<=400)(B C:Nat)(ix:jR b (d-1) x B C)(iy:jR b (d-1) y B C)(hB:1<=B):jR b d (.list [.atom [43],x,y]) (B+5) (C+1):=by
 intro p hp
 refine Bz _ _ _ _ _ ((bb _).mpr trivial) hb.has ?_
 have ed:IntKind.wrap .i64 (d-1)=d-1:=VL.wrap64 _ (by omega) (by omega)
 have hP:=P3.of (.atom [43]) x y
 simp only[E.en,E.fp]at hl
 have s1:=hx.sz
 have s2:=hy.sz
 simp only[zH,cV,toNat_one,bq,↓zq,zs,af,zt,hP.1,hP.2.1,hP.2.2.1,hP.2.2.2,aP,ed]
 refine ak (qY [43] x y) ?_
 simp only[↓zq,zs,af,zt]
 refine⟨fun _=>?_,fun h=>absurd rfl h⟩
 refine aQ (wQ b l hb p 2 (by omega) (by decide)) (eM.ne ⟨0,rfl,fun h=>by omega,by omega⟩) ?_
 rintro r o ⟨q,h1,h2,⟨k,rfl,_,_⟩,rfl⟩
 simp only[↓zq,zs,af,zt,aM,hb.has,aP]
 have ex:=LJ hx [] (.sl []) (.of []) (by simp;omega)
 have ey:=LJ hy [] (.sl []) (.of []) (by simp;omega)
 have ax:=Lg x hx.ok (by omega)
 have ay:=Lg y hy.ok (by omega)
 rw[ei]at ax ay
 have lx:=ix q (by omega)
 have ly:=iy q (by omega)
 have t:=n7 b q C B hB
 have leaf:∀(w:Nm) (q':Nat) (f:E),w.length=1->q<=q'->q'<=q+C->f.ok->(eI f).length<=B->eM b p (C+1) (jH (B+5)) (.agg [.v (.string (mk [])),(E.list [.atom w,f]).sp]) [.cells [b,.v (.int .i64 (q':Int))]]:=fun w q' f hw g1 g2 h4 h5=>H4 hw h1 h2 g1 g2 h4 h5
 repeat' first
  |intro _
  |refine⟨by omega,?_⟩
  |(
   with_reducible refine aQ lx t ?_
   rintro r o ⟨q',g1,g2,⟨f,rfl,h4,h5⟩,rfl⟩
   simp only[↓zq,zs,af,zt,aM,hb.has,aP]
   repeat refine⟨by omega,?_⟩
   refine ak (Bh _ f) ?_
   simp only[↓zq,zs,af,zt,aM,hb.has,aP]
   have fin:=leaf [108] q' f rfl g1 g2 h4 h5
   first|exact fin|exact⟨by omega,fin⟩)
  |(
   with_reducible refine aQ ly t ?_
   rintro r o ⟨q',g1,g2,⟨f,rfl,h4,h5⟩,rfl⟩
   simp only[↓zq,zs,af,zt,aM,hb.has,aP]
   repeat refine⟨by omega,?_⟩
   refine ak (Bh _ f) ?_
   simp only[↓zq,zs,af,zt,aM,hb.has,aP]
   have fin:=leaf [114] q' f rfl g1 g2 h4 h5
   first|exact fin|exact⟨by omega,fin⟩)
  |(with_reducible refine jD.call ex fun _=>?_;simp only[↓zq,zs,af,zt,aP])
  |(with_reducible refine jD.call ey fun _=>?_;simp only[↓zq,zs,af,zt,aP])
  |(with_reducible refine ak ax ?_;simp only[↓zq,zs,af,zt,aP])
  |(with_reducible refine ak ay ?_;simp only[↓zq,zs,af,zt,aP])
  |with_reducible refine aH ?_ ?_
  |(exfalso;omega)
end Go.Proofs.Trees
namespace Go.Proofs.Trees
open Go Go.VL Go.RowKit
def mK:Nat->Nat
 |0=>2
 |d+1=>2*mK d+15
def mJ:Nat->Nat
 |0=>3
 |d+1=>2*mJ d+8
theorem MH(d:Nat):2<=mK d:=by cases d<;>simp only[mK]<;>omega
theorem Nb(d:Nat):3<=mJ d:=by cases d<;>simp only[mJ]<;>omega
theorem Fk:∀d:Nat,d<=10->mK d<=100000000
 |0,_=>by decide
 |1,_=>by decide
 |2,_=>by decide
 |3,_=>by decide
 |4,_=>by decide
 |5,_=>by decide
 |6,_=>by decide
 |7,_=>by decide
 |8,_=>by decide
 |9,_=>by decide
 |10,_=>by decide
 |d+11,h=>by omega
theorem zd(b:AV)(l:List UInt8)(hb:sB b l)(p:Nat)(hp:p<2*pP):aq Tryz.prog 68 [.ref 0 0] [.cells [b,.v (.int .i64 (p:Int))]] (eM b p 1 (fV 60)):=by
 refine Nh _ _ hb.has ?_
 unfold IZ
 refine aQ (B8 b l hb p hp _ _ (.of [_,_,_,_,_,_,_]) (by simp) (by simp)) (eM.ne ⟨_,ai,rfl⟩) ?_
 rintro r o ⟨q,h1,h2,hr,rfl⟩
 obtain⟨s,rfl,hs⟩:=kp.dm (n:=60) (by decide) hr
 simp only[↓zq,zs,af,aM,hb.has]
 exact⟨q,h1,h2,⟨s,rfl,hs⟩,rfl⟩
theorem EP(b:AV)(l:List UInt8)(hb:sB b l):∀(d:Nat),d<=10->∀(p:Nat) (ls:List (List UInt8)) (a:AV),dG a ls->(∀s,s∈ls->s.length<=2)->ls.length+d<=100->p+mJ d<2*pP ->
 aq Tryz.prog 143 [.ref 0 0,a,.v (.int .i64 (d:Int))] [.cells [b,.v (.int .i64 (p:Int))]] (eM b p (mJ d) (fV (mK d))):=by
 intro d
 induction d with
 |
  zero =>
  intro hd p ls a ha hls hll hp
  simp only[mJ]at hp
  refine Lh _ _ _ _ ha.1 hb.has ?_
  simp only[EH,↓zq,zs,af,ha.len]
  refine⟨fun _=>⟨ha.1,fun hpos=>?_,fun _=>?_⟩,fun h=>by omega⟩
  ·refine aQ (wQ b l hb p 3 (by omega) (by decide)) (eM.ne ⟨0,rfl,fun h=>by omega,by omega⟩) ?_
   rintro r o ⟨q1,h1,h2,⟨k,rfl,h3,h4⟩,rfl⟩
   simp only[↓zq,zs,af,aM,hb.has]
   refine⟨fun _=>⟨ha.1,?_⟩,fun _=>?_⟩
   ·refine aQ (wQ b l hb q1 ls.length (by omega) (by simp[pP];omega)) (eM.ne ⟨0,rfl,fun h=>by omega,by omega⟩) ?_
    rintro r o ⟨q2,g1,g2,⟨k2,rfl,g3,g4⟩,rfl⟩
    have hk:=g3 (by omega)
    simp only[↓zq,zs,af,aM,hb.has,bW,ha.idx hk]
    have:eM b p (mJ 0) (fV (mK 0)) (.v (.string (mk (ls.getD k2 [])))) [.cells [b,.v (.int .i64 (q2:Int))]]:=⟨q2,by omega,by simp only[mJ];omega,⟨_,rfl,by
     have:=hls (ls.getD k2 []) (by simp[aa,hk]);simp only[mK];omega⟩,rfl⟩
    refine⟨⟨ha.1,by omega⟩,?_⟩
    repeat (first|exact this|refine⟨by omega,?_⟩)
   ·refine aQ (B8 b l hb q1 (by omega) _ _ (.of [_,_,_,_,_,_]) (by simp) (by simp)) (eM.ne ⟨_,ai,rfl⟩) ?_
    rintro r o ⟨q2,g1,g2,hr,rfl⟩
    obtain⟨s,rfl,hs⟩:=kp.dm (n:=2) (by decide) hr
    simp only[↓zq,zs,af,aM,hb.has]
    exact⟨q2,by omega,by simp only[mJ];omega,⟨s,rfl,by simp only[mK];omega⟩,rfl⟩
  ·refine aQ (B8 b l hb p (by omega) _ _ (.of [_,_,_,_,_,_]) (by simp) (by simp)) (eM.ne ⟨_,ai,rfl⟩) ?_
   rintro r o ⟨q2,g1,g2,hr,rfl⟩
   obtain⟨s,rfl,hs⟩:=kp.dm (n:=2) (by decide) hr
   simp only[↓zq,zs,af,aM,hb.has]
   exact⟨q2,by omega,by simp only[mJ];omega,⟨s,rfl,by simp only[mK];omega⟩,rfl⟩
 |
  succ d ih =>
  intro hd p ls a ha hls hll hp
  simp only[mJ]at hp
  have hL:=MH d
  have hC:=Nb d
  have ih:=ih (by omega)
  have hL8:=Fk d (by omega)
  have ed:IntKind.wrap .i64 (((d+1:Nat):Int)-1)=(d:Int):=by rw[VL.wrap64]<;>omega
  refine Lh _ _ _ _ ha.1 hb.has ?_
  simp only[EH,↓zq,zs,af,ha.len,ed]
  refine⟨fun h=>by omega,fun _=>?_⟩
  refine aQ (wQ b l hb p 4 (by omega) (by decide)) (eM.ne ⟨0,rfl,fun h=>by omega,by omega⟩) ?_
  rintro r o ⟨q0,a1,a2,⟨k0,rfl,_,_⟩,rfl⟩
  simp only[↓zq,zs,af,aM,hb.has]
  refine⟨fun _=>⟨ha.1,fun hpos=>?_,fun _=>?_⟩,fun _=>?_⟩
  ·refine aQ (wQ b l hb q0 3 (by omega) (by decide)) (eM.ne ⟨0,rfl,fun h=>by omega,by omega⟩) ?_
   rintro r o ⟨q1,h1,h2,⟨k,rfl,h3,h4⟩,rfl⟩
   simp only[↓zq,zs,af,aM,hb.has]
   refine⟨fun _=>⟨ha.1,?_⟩,fun _=>?_⟩
   ·refine aQ (wQ b l hb q1 ls.length (by omega) (by simp[pP];omega)) (eM.ne ⟨0,rfl,fun h=>by omega,by omega⟩) ?_
    rintro r o ⟨q2,g1,g2,⟨k2,rfl,g3,g4⟩,rfl⟩
    have hk:=g3 (by omega)
    simp only[↓zq,zs,af,aM,hb.has,bW,ha.idx hk]
    have:eM b p (mJ (d+1)) (fV (mK (d+1))) (.v (.string (mk (ls.getD k2 [])))) [.cells [b,.v (.int .i64 (q2:Int))]]:=⟨q2,by omega,by simp only[mJ];omega,⟨_,rfl,by
     have:=hls (ls.getD k2 []) (by simp[aa,hk]);simp only[mK];omega⟩,rfl⟩
    refine⟨⟨ha.1,by omega⟩,?_⟩
    repeat (first|exact this|refine⟨by omega,?_⟩)
   ·refine aQ (B8 b l hb q1 (by omega) _ _ (.of [_,_,_,_,_,_]) (by simp) (by simp)) (eM.ne ⟨_,ai,rfl⟩) ?_
    rintro r o ⟨q2,g1,g2,hr,rfl⟩
    obtain⟨s,rfl,hs⟩:=kp.dm (n:=2) (by decide) hr
    simp only[↓zq,zs,af,aM,hb.has]
    exact⟨q2,by omega,by simp only[mJ];omega,⟨s,rfl,by simp only[mK];omega⟩,rfl⟩
  ·refine aQ (B8 b l hb q0 (by omega) _ _ (.of [_,_,_,_,_,_]) (by simp) (by simp)) (eM.ne ⟨_,ai,rfl⟩) ?_
   rintro r o ⟨q2,g1,g2,hr,rfl⟩
   obtain⟨s,rfl,hs⟩:=kp.dm (n:=2) (by decide) hr
   simp only[↓zq,zs,af,aM,hb.has]
   exact⟨q2,by omega,by simp only[mJ];omega,⟨s,rfl,by simp only[mK];omega⟩,rfl⟩
  ·refine aQ (wQ b l hb q0 5 (by omega) (by decide)) (eM.ne ⟨0,rfl,fun h=>by omega,by omega⟩) ?_
   rintro r o ⟨q1,b1,b2,⟨k1,rfl,c3,_⟩,rfl⟩
   have hk1:=c3 (by omega)
   obtain rfl|rfl|rfl|rfl|rfl:k1=0\/k1=1\/k1=2\/k1=3\/k1=4:=by omega
   ·simp only[↓zq,zs,af,aM,hb.has]
    refine⟨fun _=>?_,fun h=>absurd rfl h⟩
    refine aQ (ih q1 ls a ha hls (by omega) (by omega)) (eM.ne ⟨[],rfl,by simp⟩) ?_
    rintro r o ⟨q2,d1,d2,⟨s1,rfl,d3⟩,rfl⟩
    simp only[↓zq,zs,af,zt,aM,hb.has,an]
    repeat refine⟨by first|omega|(simp only[an,aw,aG];omega),?_⟩
    refine aQ (ih q2 ls a ha hls (by omega) (by omega)) (eM.ne ⟨[],rfl,by simp⟩) ?_
    rintro r o ⟨q3,e1,e2,⟨s2,rfl,e3⟩,rfl⟩
    simp only[↓zq,zs,af,zt,aM,hb.has,an]
    have fin:∀s:List UInt8,s.length<=mK (d+1)->eM b p (mJ (d+1)) (fV (mK (d+1))) (.v (.string (mk s))) [.cells [b,.v (.int .i64 (q3:Int))]]:=fun s hs=>⟨q3,by omega,by simp only[mJ];omega,⟨s,rfl,hs⟩,rfl⟩
    repeat (first|exact fin _ (by simp only[an,aw,aG,mK];omega)|refine⟨by first|omega|(simp only[an,aw,aG];omega),?_⟩)
   ·simp only[↓zq,zs,af,aM,hb.has]
    refine⟨fun h=>by omega,fun _=>⟨fun _=>?_,fun h=>absurd rfl h⟩⟩
    refine aQ (ih q1 ls a ha hls (by omega) (by omega)) (eM.ne ⟨[],rfl,by simp⟩) ?_
    rintro r o ⟨q2,d1,d2,⟨s1,rfl,d3⟩,rfl⟩
    simp only[↓zq,zs,af,zt,aM,hb.has,an]
    repeat refine⟨by first|omega|(simp only[an,aw,aG];omega),?_⟩
    refine aQ (ih q2 ls a ha hls (by omega) (by omega)) (eM.ne ⟨[],rfl,by simp⟩) ?_
    rintro r o ⟨q3,e1,e2,⟨s2,rfl,e3⟩,rfl⟩
    simp only[↓zq,zs,af,zt,aM,hb.has,an]
    have fin:∀s:List UInt8,s.length<=mK (d+1)->eM b p (mJ (d+1)) (fV (mK (d+1))) (.v (.string (mk s))) [.cells [b,.v (.int .i64 (q3:Int))]]:=fun s hs=>⟨q3,by omega,by simp only[mJ];omega,⟨s,rfl,hs⟩,rfl⟩
    repeat (first|exact fin _ (by simp only[an,aw,aG,mK];omega)|refine⟨by first|omega|(simp only[an,aw,aG];omega),?_⟩)
   ·simp only[↓zq,zs,af,aM,hb.has]
    refine⟨fun h=>by omega,fun _=>⟨fun h=>by omega,fun _=>⟨fun _=>?_,fun h=>absurd rfl h⟩⟩⟩
    refine aQ (ih q1 ls a ha hls (by omega) (by omega)) (eM.ne ⟨[],rfl,by simp⟩) ?_
    rintro r o ⟨q2,d1,d2,⟨s1,rfl,d3⟩,rfl⟩
    simp only[↓zq,zs,af,zt,aM,hb.has,an]
    repeat refine⟨by first|omega|(simp only[an,aw,aG];omega),?_⟩
    refine aQ (ih q2 ls a ha hls (by omega) (by omega)) (eM.ne ⟨[],rfl,by simp⟩) ?_
    rintro r o ⟨q3,e1,e2,⟨s2,rfl,e3⟩,rfl⟩
    simp only[↓zq,zs,af,zt,aM,hb.has,an]
    have fin:∀s:List UInt8,s.length<=mK (d+1)->eM b p (mJ (d+1)) (fV (mK (d+1))) (.v (.string (mk s))) [.cells [b,.v (.int .i64 (q3:Int))]]:=fun s hs=>⟨q3,by omega,by simp only[mJ];omega,⟨s,rfl,hs⟩,rfl⟩
    repeat (first|exact fin _ (by simp only[an,aw,aG,mK];omega)|refine⟨by first|omega|(simp only[an,aw,aG];omega),?_⟩)
   ·simp only[↓zq,zs,af,aM,hb.has]
    refine⟨fun h=>by omega,fun _=>⟨fun h=>by omega,fun _=>⟨fun h=>by omega,fun _=>⟨fun _=>?_,fun h=>absurd rfl h⟩⟩⟩⟩
    refine aQ (ih q1 ls a ha hls (by omega) (by omega)) (eM.ne ⟨[],rfl,by simp⟩) ?_
    rintro r o ⟨q2,d1,d2,⟨s1,rfl,d3⟩,rfl⟩
    simp only[↓zq,zs,af,zt,aM,hb.has,an]
    repeat refine⟨by first|omega|(simp only[an,aw,aG];omega),?_⟩
    refine aQ (ih q2 ls a ha hls (by omega) (by omega)) (eM.ne ⟨[],rfl,by simp⟩) ?_
    rintro r o ⟨q3,e1,e2,⟨s2,rfl,e3⟩,rfl⟩
    simp only[↓zq,zs,af,zt,aM,hb.has,an]
    have fin:∀s:List UInt8,s.length<=mK (d+1)->eM b p (mJ (d+1)) (fV (mK (d+1))) (.v (.string (mk s))) [.cells [b,.v (.int .i64 (q3:Int))]]:=fun s hs=>⟨q3,by omega,by simp only[mJ];omega,⟨s,rfl,hs⟩,rfl⟩
    repeat (first|exact fin _ (by simp only[an,aw,aG,mK];omega)|refine⟨by first|omega|(simp only[an,aw,aG];omega),?_⟩)
   ·simp only[↓zq,zs,af,aM,hb.has]
    refine⟨fun h=>by omega,fun _=>⟨fun h=>by omega,fun _=>⟨fun h=>by omega,fun _=>⟨fun h=>by omega,fun _=>?_⟩⟩⟩⟩
    refine aQ (B8 b l hb q1 (by omega) _ _ (.of [_,_,_]) (by simp) (by simp)) (eM.ne ⟨_,ai,rfl⟩) ?_
    rintro r o ⟨q2,g1,g2,hr,rfl⟩
    obtain⟨s,rfl,hs⟩:=kp.dm (n:=2) (by decide) hr
    simp only[↓zq,zs,af,zt,aM,hb.has]
    repeat refine⟨by first|omega|(simp only[an,aw,aG];omega),?_⟩
    refine aY (GH ls a ha s (by omega)) ?_
    simp only[↓zq,zs,af,Ob.es,aX]
    refine⟨ir _,?_⟩
    refine aQ (ih q2 (ls++[s]) _ (.of _) (fun w hw=>by
     rcases aK.1 hw with hw|hw
     ·exact hls w hw
     ·simp at hw;rw[hw];exact hs) (by simp;omega) (by omega)) (eM.ne ⟨[],rfl,by simp⟩) ?_
    rintro r o ⟨q3,e1,e2,⟨s2,rfl,e3⟩,rfl⟩
    simp only[↓zq,zs,af,zt,aM,hb.has,an]
    have fin:∀s:List UInt8,s.length<=mK (d+1)->eM b p (mJ (d+1)) (fV (mK (d+1))) (.v (.string (mk s))) [.cells [b,.v (.int .i64 (q3:Int))]]:=fun s hs=>⟨q3,by omega,by simp only[mJ];omega,⟨s,rfl,hs⟩,rfl⟩
    repeat (first|exact fin _ (by simp only[an,aw,aG,mK];omega)|refine⟨by first|omega|(simp only[an,aw,aG];omega),?_⟩)
end Go.Proofs.Trees
namespace Go.Proofs.Trees
open Go Go.VL Go.RowKit
theorem eM.mono{b:AV}{p c c':Nat}{X Y:AV->Prop}(hc:c<=c')(h:∀r,X r->Y r){r:AV}{o:List Ob}(hr:eM b p c X r o):eM b p c' Y r o:=by
 obtain⟨q,h1,h2,h3,h4⟩:=hr;exact⟨q,h1,by omega,h r h3,h4⟩
theorem fV.le{n m:Nat}(h:n<=m){r:AV}(hr:fV n r):fV m r:=by obtain⟨s,h1,h2⟩:=hr;exact⟨s,h1,by omega⟩
theorem OY(b:AV)(l:List UInt8)(hb:sB b l)(p:Nat)(hp:p<pP):aq Tryz.prog 142 [.ref 0 0] [.cells [b,.v (.int .i64 (p:Int))]] (eM b p 100 (fV 200)):=by
 refine Oh _ _ hb.has ?_
 unfold Jf
 have hfar:pP=1000000000000000:=rfl
 refine aQ (wQ b l hb p 12 (by omega) (by decide)) (eM.ne ⟨0,rfl,fun h=>by omega,by omega⟩) ?_
 rintro r o ⟨q,h1,h2,⟨k,rfl,_,_⟩,rfl⟩
 have kn:∀(c m:Nat) (r:AV) (o:List Ob),c<=90->m<=200->eM b q c (fV m) r o->∃q':Nat,∃s:List UInt8,r=.v (.string (mk s))/\o=[.cells [b,.v (.int .i64 (q':Int))]]/\eM b p 100 (fV 200) (.v (.string (mk s))) [.cells [b,.v (.int .i64 (q':Int))]]:=by
  rintro c m r o hc hm ⟨q',g1,g2,⟨s,rfl,hs⟩,rfl⟩
  exact⟨q',s,rfl,rfl,q',by omega,by omega,⟨s,rfl,by omega⟩,rfl⟩
 simp only[↓zq,zs,af,aM,hb.has]
 refine⟨fun _=>?_,fun _=>⟨fun _=>?_,fun _=>⟨fun _=>?_,fun _=>⟨fun _=>?_,fun _=>⟨fun _=>?_,fun _=>?_⟩⟩⟩⟩⟩
 ·refine aQ (B8 b l hb q (by omega) _ _ (.of [_,_,_,_,_,_,_,_,_]) (by simp) (by simp)) (eM.ne ⟨_,ai,rfl⟩) ?_
  intro r o hr
  obtain⟨q',s,rfl,rfl,hd⟩:=kn 1 20 r o (by omega) (by omega) (hr.mono (az _) fun r h=>kp.dm (n:=20) (by decide) h)
  simp only[↓zq,zs,af,aM,hb.has];exact hd
 ·refine aQ (zd b l hb q (by omega)) (eM.ne ⟨[],rfl,by simp⟩) ?_
  intro r o hr
  obtain⟨q',s,rfl,rfl,hd⟩:=kn _ _ r o (by omega) (by omega) hr
  simp only[↓zq,zs,af,aM,hb.has];exact hd
 ·refine aQ (zd b l hb q (by omega)) (eM.ne ⟨[],rfl,by simp⟩) ?_
  intro r o hr
  obtain⟨q',s,rfl,rfl,hd⟩:=kn _ _ r o (by omega) (by omega) hr
  simp only[↓zq,zs,af,aM,hb.has];exact hd
 ·refine aQ (zd b l hb q (by omega)) (eM.ne ⟨[],rfl,by simp⟩) ?_
  intro r o hr
  obtain⟨q',s,rfl,rfl,hd⟩:=kn _ _ r o (by omega) (by omega) hr
  simp only[↓zq,zs,af,aM,hb.has];exact hd
 ·refine aQ (EP b l hb 2 (by omega) q [[116],[116,49]] _ (dG.of [[116],[116,49]]) (by decide) (by simp) (by simp[mJ];omega)) (eM.ne ⟨[],rfl,by simp⟩) ?_
  intro r o hr
  obtain⟨q',s,rfl,rfl,hd⟩:=kn _ _ r o (by simp[mJ]) (by simp[mK]) hr
  simp only[↓zq,zs,af,aM,hb.has];exact hd
 ·refine aQ (EP b l hb 3 (by omega) q [] _ (dG.of []) (by simp) (by simp) (by simp[mJ];omega)) (eM.ne ⟨[],rfl,by simp⟩) ?_
  intro r o hr
  obtain⟨q',s,rfl,rfl,hd⟩:=kn _ _ r o (by simp[mJ]) (by simp[mK]) hr
  simp only[↓zq,zs,af,aM,hb.has];exact hd
def xI(a:AV):Prop:=LK.sl.has a/\∃l:List UInt8,a.elems=pg l
def LW(r:AV)(o:List Ob):Prop:=∃(b:AV) (l:List UInt8),sB b l/\r=.ref 0 0/\o=[.cells [b,.v (.int .i64 0)]]
theorem LW.ne:∃r o,LW r o:=⟨_,_,.v (.slice none 0 0),[],⟨(bp).mpr trivial,rfl,by simp⟩,rfl,rfl⟩
theorem OP(a:AV)(ha:xI a):aq Tryz.prog 23 [a] [] LW:=by
 obtain⟨hs,l,hl⟩:=ha
 have hln:a.elems.length=l.length:=by rw[hl];simp[pg]
 refine M6 _ hs ?_
 simp only[Li,↓zq,zs,af,hln]
 refine⟨hs,fun h=>⟨⟨hs,by omega⟩,?_⟩,fun h=>?_⟩
 ·refine⟨_,l.take 2000,⟨(ck _).mpr trivial,?_,?_⟩,rfl,rfl⟩
  ·rw[fe,hl];simp[pg]
  ·simp;omega
 ·exact⟨a,l,⟨hs,hl,by omega⟩,rfl,rfl⟩
end Go.Proofs.Trees
namespace Go.Proofs.Trees
open Go Go.VL Go.RowKit
theorem Bb(b:AV)(l:List UInt8)(hb:sB b l){e:E}(h:Wf e):∀d:Int,d<=-13->-50000+(e.sz:Int)<=d->e.en<=400->jR b d e (5*e.sz) e.sz:=by
 induction h with
 |
  @atom s hs =>
  intro d h1 h2 h3
  exact(Lz b l hb d hs).mono (by simp[E.sz]) (by simp[E.sz])
 |
  @plus x y hx hy i1 i2 =>
  intro d h1 h2 h3
  have h4:=h3
  simp only[E.sz,E.je,E.en,E.fp]at h2 h4 |-
  exact(Ks b l hb d (by omega) hx hy h3 (5*(x.sz+y.sz)+1) (x.sz+y.sz) ((i1 (d-1) (by omega) (by omega) (by omega)).mono (by omega) (by omega)) ((i2 (d-1) (by omega) (by omega) (by omega)).mono (by omega) (by omega)) (by omega)).mono (by omega) (by omega)
 |
  @times x y hx hy i1 i2 =>
  intro d h1 h2 h3
  have h4:=h3
  simp only[E.sz,E.je,E.en,E.fp]at h2 h4 |-
  exact(KB b l hb d (by omega) hx hy (5*x.sz+1) x.sz (5*y.sz+1) y.sz ((i1 (d-1) (by omega) (by omega) (by omega)).mono (by omega) (by omega)) ((i2 (d-1) (by omega) (by omega) (by omega)).mono (by omega) (by omega)) (by omega) (by omega)).mono (by omega) (by omega)
 |
  @rc n x hn hx i =>
  intro d h1 h2 h3
  simp only[E.sz,E.je]at h2 |-
  exact(Lx b l hb d (by omega) hn hx h3 1 0 (fun h=>absurd h (by omega)) (by omega)).mono (by omega) (by omega)
def oB:Nat->Nat
 |0=>6100
 |n+1=>2*oB n+5
theorem EX:∀n,6100<=oB n
 |0=>az _
 |n+1=>by have:=EX n;simp only[oB];omega
theorem vq:∀n k:Nat,oB (n+k)+5=2 ^ k*(oB n+5)
 |n,0=>by simp
 |
  n,k+1=>by
  have:=vq n k
  rw[show n+(k+1)=n+k+1 from rfl,oB,Nat.pow_succ,Nat.mul_comm (2 ^ k) 2,Nat.mul_assoc,<-this];omega
theorem zN{n m:Nat}(h:n<=m):oB n<=oB m:=by
 obtain⟨k,rfl⟩:=Nat.exists_eq_add_of_le h
 have:=vq n k
 have h2:1*(oB n+5)<=2 ^ k*(oB n+5):=aU _ Nat.one_le_two_pow
 omega
theorem IU:oB 22<=30000000000:=by
 have:=vq 0 22
 simp only[aS]at this
 have h0:oB 0=6100:=rfl
 rw[h0]at this
 omega
theorem xG(b:AV)(l:List UInt8)(hb:sB b l):∀n:Nat,n<=40->∀e,Wf e->e.en<=400->jR b ((n:Int)-13) e (oB n) (oB n)
 |
  0,hn,e,h,hl=>by
  have:=h.sz
  exact(Bb b l hb h _ (by simp) (by simp;omega) hl).mono (by simp only[oB];omega) (by simp only[oB];omega)
 |
  n+1,hn,e,h,hl=>by
  have hb1:=EX n
  have ih:∀g,Wf g->g.en<=400->jR b (((n+1:Nat):Int)-13-1) g (oB n) (oB n):=by
   rw[show ((n+1:Nat):Int)-13-1=(n:Int)-13 by omega];exact xG b l hb n (by omega)
  cases h with
  |@atom s hs=>exact(Lz b l hb _ hs).mono (by simp only[oB];omega) (by simp only[oB];omega)
  |
   @plus x y hx hy =>
   have h4:=hl
   simp only[E.en,E.fp]at h4
   exact(Ks b l hb _ (by omega) hx hy hl _ _ (ih x hx (by omega)) (ih y hy (by omega)) (by omega)).mono (by simp only[oB];omega) (by simp only[oB];omega)
  |
   @times x y hx hy =>
   simp only[E.en,E.fp]at hl
   exact(KB b l hb _ (by omega) hx hy _ _ _ _ (ih x hx (by omega)) (ih y hy (by omega)) (by omega) (by omega)).mono (by simp only[oB];omega) (by simp only[oB];omega)
  |@rc m x hm hx=>exact(Lx b l hb _ (by omega) hm hx hl _ _ (fun _=>ih) (by omega)).mono (by simp only[oB];omega) (by simp only[oB];omega)
theorem K6(b:AV)(l:List UInt8)(hb:sB b l)(p:Nat)(hp:p<100000000000000)(s:Nm):aq Tryz.prog 50 [.ref 0 0,.v (.string (mk s))] [.cells [b,.v (.int .i64 (p:Int))]] (eM b p 40000000000 (fV 40000000000)):=by
 refine Oc _ _ _ hb.has ?_
 have hfar:pP=1000000000000000:=rfl
 have oneL:∀(q:Nat) (r:AV) (o:List Ob),p<=q->q<=p+1->eM b q 1 (kp [[],[117],[101,48],[101,48,48],[101,49,48,48],[40,108,32,117,41],[40,112,32,117,41],[40,102,32,40,108,32,117,41,41],[40,120,32,117,41],[40,108,32,32,117,41]]) r o->∃q':Nat,∃t:List UInt8,r=.v (.string (mk t))/\o=[.cells [b,.v (.int .i64 (q':Int))]]/\eM b p 40000000000 (fV 40000000000) (.v (.string (mk t))) [.cells [b,.v (.int .i64 (q':Int))]]:=by
  rintro q r o h1 h2 ⟨q',g1,g2,hr,rfl⟩
  obtain⟨t,rfl,ht⟩:=kp.dm (n:=20) (by decide) hr
  exact⟨q',t,rfl,rfl,q',by omega,by omega,⟨t,rfl,by omega⟩,rfl⟩
 unfold KE
 refine aQ (EU s) (kT.ne _ _ (fun h=>h)) ?_
 rintro r o ⟨c,d,hd,rfl,hh⟩
 have hhas:bO [.str,.sl] [.v (.string (mk c)),d] 0:=by simp[bO,eX,hd]
 simp only[↓zq,zs,af,zt]
 refine⟨hhas,fun h=>?_,fun h=>?_⟩
 ·refine aQ (B8 b l hb p (by omega) _ _ (.of [_,_,_,_,_,_,_,_,_,_]) (by simp) (by simp)) (eM.ne ⟨_,ai,rfl⟩) ?_
  intro r o hr
  obtain⟨q',t,rfl,rfl,hd⟩:=oneL p r o (az _) (by omega) hr
  simp only[↓zq,zs,af,aM,hb.has];exact hd
 ·obtain⟨e,he,hce⟩:=hh (by simpa using h)
  obtain⟨t,h1,hA,h3,h4,h5,_⟩:=gu he
  rw[ei]at hce
  simp only[AV.agg.injEq,List.cons.injEq,AV.v.injEq,Value.string.injEq,and_true]at hce
  obtain⟨hc1,rfl⟩:=hce
  have hc2:=mk_inj hc1
  subst hc2
  obtain⟨hw,hwt⟩:=j5 e [] t hA.ok (by simp) hA.ty
  have hats:e.en<=400:=by rw[hw.en [],hwt];exact h5
  have hsz:=hw.sz
  refine aQ (wQ b l hb p 16 (by omega) (by decide)) (eM.ne ⟨0,rfl,fun h=>by omega,by omega⟩) ?_
  rintro r o ⟨q,h1,h2,⟨k,rfl,_,_⟩,rfl⟩
  simp only[↓zq,zs,af,aM,hb.has]
  refine⟨fun _=>?_,fun _=>?_⟩
  ·refine aQ (B8 b l hb q (by omega) _ _ (.of [_,_,_,_,_,_,_,_,_,_]) (by simp) (by simp)) (eM.ne ⟨_,ai,rfl⟩) ?_
   intro r o hr
   obtain⟨q',t,rfl,rfl,hd⟩:=oneL q r o h1 h2 hr
   simp only[↓zq,zs,af,aM,hb.has];exact hd
  ·obtain⟨w1,w2,_⟩:=AW (os:=[]) hw
   have hap:=Jc hw (.v (.slice none 0 0)) [] ⟨(bp).mpr trivial,rfl⟩ (by omega) (by simp) (by simp)
   refine ak hap ?_
   simp only[↓zq,zs,af,zt,aP]
   repeat refine⟨by omega,?_⟩
   have hats2:(Du e []).en<=400:=by rw[w1.en [],w2,<-hw.en []];exact hats
   refine aQ (wQ b l hb q 5 (by omega) (by decide)) (eM.ne ⟨0,rfl,fun h=>by omega,by omega⟩) ?_
   rintro r o ⟨q1,g1,g2,⟨k1,rfl,c3,_⟩,rfl⟩
   have hk1:=c3 (by omega)
   simp only[↓zq,zs,af,zt,aM,hb.has,aP]
   have ed:IntKind.wrap .i64 (5+(k1:Int))=((18+k1:Nat):Int)-13:=by rw[VL.wrap64 _ (by omega) (by omega)];omega
   have hB:=IU
   have hB2:oB (18+k1)<=oB 22:=zN (by omega)
   have hB3:=EX (18+k1)
   rw[ed]
   refine aQ (xG b l hb (18+k1) (by omega) (Du e []) w1 hats2 q1 (by omega)) (n7 b q1 _ _ (by omega)) ?_
   rintro r o ⟨q2,d1,d2,⟨f,rfl,f1,f2⟩,rfl⟩
   simp only[↓zq,zs,af,zt,aM,hb.has,aP]
   repeat refine⟨by omega,?_⟩
   have ht:=Bs (f.sz+1) f (by omega) f1 (by omega)
   rw[ei]at ht
   refine ak ht ?_
   simp only[↓zq,zs,af,zt,aM,hb.has,aP]
   exact⟨q2,by omega,by omega,⟨eI f,rfl,by omega⟩,rfl⟩
theorem Nc(b:AV)(l:List UInt8)(hb:sB b l)(p:Nat)(hp:p<100000000000000):aq Tryz.prog 105 [.ref 0 0] [.cells [b,.v (.int .i64 (p:Int))]] (eM b p 200 (fV 200)):=by
 refine OG _ _ hb.has ?_
 unfold G9
 have hfar:pP=1000000000000000:=rfl
 refine aQ (wQ b l hb p 8 (by omega) (by decide)) (eM.ne ⟨0,rfl,fun h=>by omega,by omega⟩) ?_
 rintro r o ⟨q,h1,h2,⟨k,rfl,_,_⟩,rfl⟩
 have kn:∀(c m:Nat) (r:AV) (o:List Ob),c<=190->m<=200->eM b q c (fV m) r o->∃q':Nat,∃s:List UInt8,r=.v (.string (mk s))/\o=[.cells [b,.v (.int .i64 (q':Int))]]/\eM b p 200 (fV 200) (.v (.string (mk s))) [.cells [b,.v (.int .i64 (q':Int))]]:=by
  rintro c m r o hc hm ⟨q',g1,g2,⟨s,rfl,hs⟩,rfl⟩
  exact⟨q',s,rfl,rfl,q',by omega,by omega,⟨s,rfl,by omega⟩,rfl⟩
 have sh:=EP b l hb 3 (by omega) q [] _ (dG.of []) (by simp) (by simp) (by simp[mJ];omega)
 have ty:=OY b l hb q (by omega)
 have kw:=zd b l hb q (by omega)
 simp only[↓zq,zs,af,aM,hb.has]
 refine⟨fun _=>?_,fun _=>⟨fun _=>?_,fun _=>⟨fun _=>?_,fun _=>⟨fun _=>?_,fun _=>?_⟩⟩⟩⟩
 ·refine aQ ty (eM.ne ⟨[],rfl,by simp⟩) ?_
  intro r o hr
  obtain⟨q',s,rfl,rfl,hd⟩:=kn _ _ r o (by omega) (by omega) hr
  simp only[↓zq,zs,af,aM,hb.has];exact hd
 ·refine aQ sh (eM.ne ⟨[],rfl,by simp⟩) ?_
  intro r o hr
  obtain⟨q',s,rfl,rfl,hd⟩:=kn _ _ r o (by simp[mJ]) (by simp[mK]) hr
  simp only[↓zq,zs,af,aM,hb.has];exact hd
 ·refine aQ sh (eM.ne ⟨[],rfl,by simp⟩) ?_
  intro r o hr
  obtain⟨q',s,rfl,rfl,hd⟩:=kn _ _ r o (by simp[mJ]) (by simp[mK]) hr
  simp only[↓zq,zs,af,aM,hb.has];exact hd
 ·refine aQ sh (eM.ne ⟨[],rfl,by simp⟩) ?_
  intro r o hr
  obtain⟨q',s,rfl,rfl,hd⟩:=kn _ _ r o (by simp[mJ]) (by simp[mK]) hr
  simp only[↓zq,zs,af,aM,hb.has];exact hd
 ·refine aQ kw (eM.ne ⟨[],rfl,by simp⟩) ?_
  intro r o hr
  obtain⟨q',s,rfl,rfl,hd⟩:=kn _ _ r o (by omega) (by omega) hr
  simp only[↓zq,zs,af,aM,hb.has];exact hd
def F6:AV->Prop:=fun r=>∃s t:Nm,r=.cW [.v (.string (mk s)),.v (.string (mk t))]
theorem O9(b:AV)(l:List UInt8)(hb:sB b l)(p:Nat)(hp:p<10000000000000):aq Tryz.prog 69 [.ref 0 0] [.cells [b,.v (.int .i64 (p:Int))]] (eM b p 50000000000 F6):=by
 refine Ol _ _ hb.has ?_
 unfold Ib
 refine aQ (Nc b l hb p (by omega)) (eM.ne ⟨[],rfl,by simp⟩) ?_
 rintro r o ⟨q,h1,h2,⟨s,rfl,_⟩,rfl⟩
 simp only[↓zq,zs,af,aM,hb.has]
 refine aQ (K6 b l hb q (by omega) s) (eM.ne ⟨[],rfl,by simp⟩) ?_
 rintro r o ⟨q1,g1,g2,⟨t,rfl,_⟩,rfl⟩
 simp only[↓zq,zs,af,aM,hb.has]
 exact⟨q1,by omega,by omega,⟨s,t,rfl⟩,rfl⟩
theorem N2(b:AV)(l:List UInt8)(hb:sB b l)(p:Nat)(hp:p<1000000000000):aq Tryz.prog 33 [.ref 0 0] [.cells [b,.v (.int .i64 (p:Int))]] (eM b p 60000000000 F6):=by
 refine Mm _ _ hb.has ?_
 unfold G2
 have hfar:pP=1000000000000000:=rfl
 refine aQ (zd b l hb p (by omega)) (eM.ne ⟨[],rfl,by simp⟩) ?_
 rintro r o ⟨q,h1,h2,⟨s,rfl,_⟩,rfl⟩
 simp only[↓zq,zs,af,aM,hb.has]
 refine aQ (wQ b l hb q 12 (by omega) (by decide)) (eM.ne ⟨0,rfl,fun h=>by omega,by omega⟩) ?_
 rintro r o ⟨q1,g1,g2,⟨k,rfl,_,_⟩,rfl⟩
 simp only[↓zq,zs,af,aM,hb.has]
 refine⟨fun _=>?_,fun _=>?_⟩
 ·refine aQ (O9 b l hb q1 (by omega)) (eM.ne ⟨[],[],rfl⟩) ?_
  rintro r o ⟨q2,e1,e2,⟨x,y,rfl⟩,rfl⟩
  simp only[↓zq,zs,af,zt,aM,hb.has]
  exact⟨q2,by omega,by omega,⟨x,y,rfl⟩,rfl⟩
 ·refine aQ (K6 b l hb q1 (by omega) s) (eM.ne ⟨[],rfl,by simp⟩) ?_
  rintro r o ⟨q2,e1,e2,⟨t,rfl,_⟩,rfl⟩
  simp only[↓zq,zs,af,aM,hb.has]
  exact⟨q2,by omega,by omega,⟨s,t,rfl⟩,rfl⟩
end Go.Proofs.Trees
namespace Go.Proofs.Trees
open Go Go.VL Go.RowKit
theorem NF{s:Nm}{a:Ty}{x A B:E}{v:Vl}(z:LV s v.dm v a x A B)(hv2:mI s v.dm 100=some v)(hv:Fo a v):aq Tryz.prog 13 [.v (.string (mk s)),.v (.string (mk v.dm))] [] (bz (.cW [.sl (eh (kids a v)),.v (.bool true)])):=by
 have hP:=P3.of x A B
 have hn:=hv.nd
 obtain⟨v0,hv0,_⟩:=sW .nil z.hx (z.eG)
 have hkids:=Oz 100 v x A B a z.body z.hx v0 hv0 (z.eG) (by omega)
 have hV:=P2.of (.atom [102]) v0.dc
 refine Lw _ _ ?_
 unfold DP
 refine aQ (Pg s) (kT.ne _ _ (fun h=>h)) ?_
 rintro r o ⟨c,e,he,rfl,hh⟩
 rw[z.le]at hh
 obtain⟨e',he',hce⟩:=hh rfl
 cases he'
 rw[ei]at hce
 rw[hce,z.le]
 simp only[↓zq,zs,af,zt,aP,cV]
 repeat refine⟨by omega,?_⟩
 refine aQ (N4 v.dm) (kT.ne _ _ (fun h=>by simpa using h)) ?_
 rw[tx hv.iq hn]
 rintro r o ⟨c,e,he,rfl,hh⟩
 obtain⟨e',he',hce⟩:=hh rfl
 cases he'
 rw[ei]at hce
 rw[hce]
 simp only[↓zq,zs,af,zt,aP,Option.isSome_some]
 repeat refine⟨by omega,?_⟩
 refine⟨fun h=>by simp at h,fun _=>?_⟩
 refine ak (Ph s v.dm 100) ?_
 rw[hv2,hv0]
 simp only[toNat_one,bq,Vl.dc,cV,↓zq,zs,af,zt,hP.1,hP.2.1,hP.2.2.1,hP.2.2.2,hV.1,hV.2.1,hV.2.2,aP,bb,Option.isSome_some]
 refine⟨fun h=>by simp at h,fun _=>?_⟩
 repeat refine⟨by omega,?_⟩
 refine ak hkids ?_
 simp only[↓zq,zs,af]
 repeat refine⟨by omega,?_⟩
 have hlen:=sE a v
 have:=oi (kids a v)
 refine ak (Oo (kids a v) (by omega) (fun h hh=>(nJ hv hh).1) (fun h hh=>(nJ hv hh).2)) ?_
 rw[<-hv0]
 simp only[↓zq,zs,af]
 exact⟨rfl,rfl⟩
def Pc:AV->List Ob->Prop:=fun r o=>o=[]/\∃(l:List Hl) (b:Bool),l.length<=1000/\r=.cW [.sl (eh l),.v (.bool b)]
theorem Pc.ne:∃r o,Pc r o:=⟨_,_,rfl,[],false,by simp,rfl⟩
end Go.Proofs.Trees
namespace Go.Proofs.Trees
open Go Go.VL Go.RowKit
theorem zb{s v d:Nm}{l:List Hl}(h:rl s v=some l)(hd:dE s=some d):∀q,q∈l->(mI s q.2.dm 100).isSome=true/\((qy q.1.dm).isSome=true->Cm s q.1.dm q.2.dm=some v):=by
 intro q hq
 unfold rl at h
 obtain⟨w,hw,rfl⟩:=Option.map_eq_some_iff.1 h
 obtain⟨x0,A0,B0,hl,hf,rfl,L⟩:=nr hw
 obtain⟨x,A,B,D,z⟩:=ZT.of hl hd
 obtain⟨t1,t2,t3⟩:=z.MS hf hq
 have e1:mI s q.2.dm 100=some q.2:=by rw[z.dm t2.iq t2.ty,if_pos t2.nd]
 have e2:jW s q.2.dm=some q.2:=by unfold jW;rw[hl];exact e1
 refine⟨by rw[e1];rfl,fun hc=>?_⟩
 obtain⟨c',hc'⟩:=bM.1 hc
 have hb:=(lU hf.iq hq).1
 have hcc:c'=q.1:=sG (jQ hc').2.1 hb (mB hc').symm
 have hn:q.1.nodes<=200:=by rw[<-hcc];exact(jQ hc').2.2
 have e3:mI d q.1.dm 100=some q.1:=by rw[z.My hb t1,if_pos hn]
 unfold Cm
 rw[e2,bB,hd,bB,e3,bB]
 unfold DH
 rw[t3,if_pos hf.nd]
theorem Kn(s v:Nm):aq Tryz.prog 13 [.v (.string (mk s)),.v (.string (mk v))] [] (bz (.cW [.sl (eh ((rl s v).getD [])),.v (.bool (rl s v).isSome)])):=by
 unfold rl
 cases q:jW s v with
 |
  some w =>
  obtain⟨x,A,B,hl,hf,rfl,L⟩:=nr q
  have hv2:mI s w.dm 100=some w:=by have:=q;unfold jW at this;rw[hl]at this;exact this
  exact NF L hv2 hf
 |
  none =>
  refine Lw _ _ ?_
  unfold DP
  refine aQ (Pg s) (kT.ne _ _ (fun h=>h)) ?_
  rintro r o ⟨c,e,he,rfl,hh⟩
  have hhas:bO [.str,.sl] [.v (.string (mk c)),e] 0:=by simp[bO,eX,he]
  simp only[↓zq,zs,af,zt]
  refine⟨hhas,?_⟩
  refine aQ (N4 v) (kT.ne _ _ (fun h=>by simpa using h)) ?_
  rintro r o ⟨c2,e2,he2,rfl,hh2⟩
  have hhas2:bO [.str,.sl] [.v (.string (mk c2)),e2] 0:=by simp[bO,eX,he2]
  simp only[↓zq,zs,af,zt]
  refine⟨hhas2,fun _=>⟨rfl,rfl⟩,fun h=>?_⟩
  refine ak (Ph s v 100) ?_
  have hn:mI s v 100=none:=by
   rw[Ai]at h
   obtain⟨a,ha⟩:=bM.1 h
   unfold jW at q;rw[ha]at q;exact q
  simp only[hn,↓zq,zs,af,zt]
  exact⟨fun _=>⟨rfl,rfl⟩,fun h=>(by cases h)⟩
theorem Md(s:Nm):aq Tryz.prog 18 [.v (.string (mk s))] [] (bz (.v (.bool (qy s).isSome))):=by
 refine L4 _ ?_
 unfold Ln
 refine ak (GY s) ?_
 cases q:qy s with
 |none=>simp only[↓zq,zs,af,gm];exact⟨rfl,rfl⟩
 |some v=>simp only[↓zq,zs,af,gm,aL,er];exact⟨rfl,rfl⟩
theorem Kk(l:List Hl)(hl:l.length<=1000)(x:AV)(hx:LK.sl.has x)(hxe:x.elems=eh l):∀(m i:Nat),i+m=l.length->FN [x,.sl (eh l),.v (.int .i64 (i:Int))] [] (hZ 1 [] [])
 |
  0,i,hi=>by
  refine KW _ _ _ ?_
  simp only[Fv,↓zq,zs,af,fI,hxe]
  exact⟨hx,hx,fun h=>by omega,fun _=>⟨rfl,rfl,rfl⟩⟩
 |
  m+1,i,hi=>by
  have hlt:i<l.length:=by omega
  refine KW _ _ _ ?_
  simp only[Fv,↓zq,zs,af,zt,bO,fI,qk hlt,hxe,bW]
  rw[bw i (by omega)]
  refine⟨hx,hx,fun _=>?_,fun h=>by omega⟩
  refine⟨⟨hx,by omega,by omega⟩,?_⟩
  repeat refine⟨by omega,?_⟩
  refine⟨fun h=>by simp at h,fun _=>?_⟩
  exact Kk l hl x hx hxe m (i+1) (by omega)
theorem Ld(l:List Hl)(hl:l.length<=1000)(x:AV)(hx:LK.sl.has x)(hxe:x.elems=eh l):aq Tryz.prog 14 [x,.sl (eh l)] [] (bz (.v (.bool true))):=by
 refine Nf _ _ hx ((ck _).mpr trivial) ?_
 simp only[JD,↓zq,zs,af,zt,fI,hxe]
 refine⟨hx,fun h=>by simp at h,fun _=>?_⟩
 refine cm (Kk l hl x hx hxe l.length 0 (by omega)) ?_
 simp[bz,↓zq,zs,af]
theorem K9(s v d:Nm)(l:List Hl)(hh:rl s v=some l)(hd:dE s=some d)(hl:l.length<=1000):∀(k i:Nat),i+k=l.length->CM [.v (.string (mk s)),.v (.string (mk v)),.sl (eh l),.v (.bool true),.v (.int .i64 (i:Int))] [] (hZ 1 [] [])
 |
  0,i,hi=>by
  refine D7 _ _ _ _ _ ?_
  simp only[Ci,↓zq,zs,af,fI]
  exact⟨fun h=>by omega,fun _=>⟨rfl,rfl,rfl⟩⟩
 |
  k+1,i,hi=>by
  have hlt:i<l.length:=by omega
  obtain⟨b1,b2⟩:=zb hh hd l[i] (bJ hlt)
  refine D7 _ _ _ _ _ ?_
  simp only[Ci,↓zq,zs,af,zt,fI,qk hlt,bW]
  rw[bw i (by omega)]
  refine⟨fun _=>⟨fun _=>?_,fun h=>by simp at h⟩,fun h=>by omega⟩
  repeat refine⟨by omega,?_⟩
  refine ak (Oj s l[i].2.dm 100) ?_
  simp only[↓zq,zs,af,zt,b1]
  refine⟨fun h=>by simp at h,fun _=>?_⟩
  repeat refine⟨by omega,?_⟩
  have WP:=OS s l[i].1.dm l[i].2.dm
  rw[tq]at WP
  refine ak WP ?_
  simp only[↓zq,zs,af,zt]
  repeat refine⟨by omega,?_⟩
  refine ak (Md l[i].1.dm) ?_
  simp only[↓zq,zs,af,zt]
  have nx:=K9 s v d l hh hd hl k (i+1) (by omega)
  refine⟨fun hv=>?_,fun _=>nx⟩
  rw[b2 hv]
  exact⟨fun h=>by simp at h,fun _=>⟨fun h=>by simp at h,fun _=>nx⟩⟩
theorem MQ(s v:Nm)(l:List Hl):CM [.v (.string (mk s)),.v (.string (mk v)),.sl (eh l),.v (.bool false),.v (.int .i64 0)] [] (hZ 1 [] []):=by
 refine D7 _ _ _ _ _ ?_
 simp only[Ci,↓zq,zs,af,zt,fI]
 exact⟨fun _=>⟨fun h=>by simp at h,fun _=>⟨rfl,rfl,rfl⟩⟩,fun _=>⟨rfl,rfl,rfl⟩⟩
theorem OU(a:AV)(ha:xI a):aq Tryz.prog 11 [a] [] (fun r o=>o=[]/\F6 r):=by
 refine MM _ ha.1 ?_
 unfold Ja
 refine aQ (OP a ha) LW.ne ?_
 rintro r o ⟨b,l,hb,rfl,rfl⟩
 simp only[↓zq,zs,af,zt,hb.has]
 refine⟨by simp[bO,hb.has,lz],aQ (N2 b l hb 0 (by omega)) (eM.ne ⟨[],[],rfl⟩) ?_⟩
 rintro r o ⟨q,_,_,⟨s,t,rfl⟩,rfl⟩
 simp only[↓zq,zs,af,zt,aM,hb.has]
 first|exact⟨rfl,s,t,rfl⟩|exact⟨s,t,rfl⟩
theorem Mw(a:AV)(ha:xI a):aq Tryz.prog 4 [a] [] (bz (.v (.bool true))):=by
 refine NJ _ ha.1 ?_
 simp only[LD,↓zq,zs,af,zt,bz]
 refine⟨ha.1,fun _=>trivial,fun _=>?_⟩
 refine aQ (OU a ha) ⟨_,_,rfl,[],[],rfl⟩ ?_
 rintro r o ⟨rfl,s,v,rfl⟩
 simp only[↓zq,zs,af,zt]
 refine ak (MJ s v) ?_
 cases hr:rl s v with
 |
  none =>
  have WS:=Kn s v
  rw[hr]at WS
  have EQ:=Ld [] (by simp) (.v (.slice none 0 0)) ((bp).mpr trivial) rfl
  simp only[KO,↓zq,zs,af,zt,bp]
  refine ak WS ?_
  simp only[↓zq,zs,af,zt,dI,Option.isSome_none]
  refine⟨fun h=>absurd rfl h,fun _=>ak EQ ?_⟩
  simp only[↓zq,zs,af]
  refine⟨fun h=>by simp at h,fun _=>⟨fun _=>⟨fun _=>ak EQ ?_,fun h=>absurd rfl h⟩,fun h=>by simp at h⟩⟩
  simp[↓zq,zs,af]
 |
  some l =>
  have hll:l.length<=1000:=by
   unfold rl at hr
   cases q2:jW s v with
   |none=>rw[q2]at hr;cases hr
   |
    some w =>
    obtain⟨_,_,_,_,hf,_⟩:=nr q2
    rw[q2]at hr;cases hr
    exact ss hf
  have WS:=Kn s v
  rw[hr]at WS
  have EQ:=Ld l hll (.sl (eh l)) ((ck _).mpr trivial) (fe _)
  simp only[KO,↓zq,zs,af,zt]
  refine ak WS ?_
  simp only[↓zq,zs,af,zt,cH,Option.isSome_some]
  refine⟨fun h=>absurd rfl h,fun _=>ak EQ ?_⟩
  simp only[↓zq,zs,af]
  refine⟨fun h=>by simp at h,fun _=>⟨fun h=>by simp at h,fun _=>?_⟩⟩
  refine ak (FX s) ?_
  rw[tq]
  simp only[↓zq,zs,af,zt]
  cases hd:dE s with
  |
   none =>
   refine cm (MQ s v l) ?_
   simp[↓zq,zs,af,zt]
  |
   some d =>
   refine cm (K9 s v d l hr hd hll l.length 0 (by omega)) ?_
   simp[↓zq,zs,af,zt]
end Go.Proofs.Trees
