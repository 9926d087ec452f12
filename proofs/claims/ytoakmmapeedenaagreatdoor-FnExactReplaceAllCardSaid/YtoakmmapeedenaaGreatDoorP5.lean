/-
  Part of a proof: Go functions read by values, trees of functions, their contracts.
-/
import Derived.Test.YtoakmmapeedenaaGreatDoorP4
import Derived.Lib.Atoi
set_option linter.unusedVariables false
set_option linter.unusedSimpArgs false
open Bool renaming and_eq_true→ai,eq_iff_iff→cA,or_eq_true→br,true_and→bI
open ByteArray renaming toList→ab
open Int renaming toNat→bC
open List renaming all_cons→cn,all_eq_true→bg,any_eq_true→bB,append_assoc→bH,cons_append→bA,drop_eq_getElem_cons→aN,drop_eq_nil_of_le→a8,drop_zero→bw,flatMap_cons→aV,getD_cons_succ→cF,getD_cons_zero→aQ,getD_eq_getElem?_getD→aa,getElem?_drop→bV,getElem?_eq_getElem→aO,getElem?_eq_some_iff→bO,getElem_mem→cc,headD_cons→ba,length→dR,length_append→aq,length_cons→aw,length_drop→bh,length_map→bQ,length_nil→aM,map_append→bJ,map_cons→aS,mem_append→aC,mem_append_left→ao,mem_append_right→ak,mem_cons→aB,mem_cons_of_mem→af,mem_cons_self→ae,mem_flatMap→cB,mem_map→bp,mem_singleton→aR,nil_append→bc,sum_cons→cq,tail_cons→bD
open Nat renaming add_assoc→dz,add_zero→bo,beq→az,beq_refl→dx,eq_of_beq_eq_true→au,le_refl→an,lt_of_lt_of_le→cx,mul_le_mul_right→aI,zero_add→aK,zero_le→dj
open Option renaming isSome_iff_exists→aZ,map_some→cK
open UInt8 renaming ofNat→aU
namespace Go.Proofs.Trees
open Go Go.VL Go.RowKit
theorem eg(l:List E):(E.list l).at=[]:=rfl
def cE:Ty->Vl->Vl->Vl
 | .plus a _,.l c,v=>.l (cE a c v)
 | .plus _ b,.r c,v=>.r (cE b c v)
 | .times a _,.l (.p x y),v=>.p (cE a x v) y
 | .times _ b,.r (.p x y),v=>.p x (cE b y v)
 | .rc a,.f (.l x),v=>.f (cE a x v)
 | .rc a,.f (.r (.p x y)),v=>.f (cE a x (cE (.rc a) y v))
 |_,_,v=>v
def dI:Ty->Vl->Bool
 | .plus a _,.l c=>dI a c
 | .plus _ b,.r c=>dI b c
 | .times a _,.l (.p x _)=>dI a x
 | .times _ b,.r (.p _ y)=>dI b y
 | .rc a,.f (.l x)=>dI a x
 | .rc a,.f (.r (.p x y))=>dI a x&&dI (.rc a) y
 | .plus _ _,_=>false
 | .times _ _,_=>false
 | .rc _,_=>false
 |_,_=>true
theorem vL(c v:Vl):cE .zero c v=v:=by cases c<;>rfl
theorem xL(c v:Vl):cE .one c v=v:=by cases c<;>rfl
theorem qh(s:List UInt8)(c v:Vl):cE (.name s) c v=v:=by cases c<;>rfl
theorem oV(u:Nat)(c v:Vl):cE (.bound u) c v=v:=by cases c<;>rfl
theorem w7{a b:Ty}{c:Vl}(h:dI (.plus a b) c=true):(∃x,c=.l x/\dI a x=true)\/∃x,c=.r x/\dI b x=true:=by
 cases c<;>simp[dI]at h<;>simp[h]
theorem vD{a b:Ty}{c:Vl}(h:dI (.times a b) c=true):(∃x y,c=.l (.p x y)/\dI a x=true)\/∃x y,c=.r (.p x y)/\dI b y=true:=by
 cases c with
 |l c=>cases c<;>simp[dI]at h<;>simp[h]
 |r c=>cases c<;>simp[dI]at h<;>exact .inr ⟨_,_,rfl,h⟩
 |_=>simp[dI]at h
theorem CV{a:Ty}{c:Vl}(h:dI (.rc a) c=true):(∃x,c=.f (.l x)/\dI a x=true)\/∃x y,c=.f (.r (.p x y))/\dI a x=true/\dI (.rc a) y=true:=by
 cases c with
 |
  f c =>
  cases c with
  |l c=>simp[dI]at h;simp[h]
  |r c=>cases c<;>simp[dI]at h<;>exact .inr ⟨_,_,rfl,h⟩
  |_=>simp[dI]at h
 |_=>simp[dI]at h
theorem By{t:Ty}{tg:Tg}(c:Vl)(h:ec t tg=true):dI t c=true:=by
 cases t<;>first|(simp[ec]at h;done)|(cases c<;>rfl)
theorem gT:∀(n:Nat) (t:Ty) (tg:Tg) (v:Vl) (h:Hl),h∈dJ n t tg v->dI t h.1=true
 |0,t,tg,v,h,hm=>by simp[dJ]at hm
 |
  n+1,t,tg,v,h,hm=>by
  unfold dJ at hm
  split at hm
  ·rename_i e
   exact By _ e
  ·unfold kJ at hm
   split at hm
   ·obtain⟨k,h1,rfl⟩:=bN hm
    exact gT n _ _ _ k h1
   ·obtain⟨k,h1,rfl⟩:=bN hm
    exact gT n _ _ _ k h1
   ·rcases aC.1 hm with hm|hm
    ·obtain⟨k,h1,rfl⟩:=bN hm
     exact gT n _ _ _ k h1
    ·obtain⟨k,h1,rfl⟩:=bN hm
     exact gT n _ _ _ k h1
   ·rcases aC.1 hm with hm|hm
    ·obtain⟨k,h1,rfl⟩:=bN hm
     exact gT n _ _ _ k h1
    ·obtain⟨k,h1,h2⟩:=cB.1 hm
     obtain⟨k2,h3,rfl⟩:=bN h2
     have q1:=gT n _ _ _ k h1
     have q2:=gT n _ _ _ k2 h3
     simp[dI,q1,q2]
   ·simp at hm
theorem Ao{a:Ty}{v:Vl}{h:Hl}(hh:h∈kids a v):dI a h.1=true:=by
 cases v with
 |f w=>exact gT _ _ _ _ h hh
 |_=>cases hh
def I4:Hl:=(.u,.u)
end Go.Proofs.Trees
namespace Go.Proofs.Trees
open Go Go.VL Go.RowKit
abbrev eI(l:List Hl):List Vl:=l.map (·.2)
theorem a6(g:Vl->Vl)(l:List Hl):eI (eX g l)=eI l:=by simp[eI,eX,Function.comp_def]
theorem cd(l r:List Hl):eI (l++r)=eI l++eI r:=bJ
theorem ij{g:Vl->Vl}{L A B:List Hl}{c e:Vl}(h:eX g L=A++(c,e)::B):∃A0 c0 B0,L=A0++(c0,e)::B0/\A=eX g A0/\c=g c0/\B=eX g B0:=by
 unfold eX at *
 obtain⟨A0,R,rfl,rfl,h2⟩:=List.map_eq_append_iff.1 h
 obtain⟨y,B0,rfl,h3,rfl⟩:=List.map_eq_cons_iff.1 h2
 obtain⟨c0,e0⟩:=y
 cases h3
 exact⟨A0,c0,B0,rfl,rfl,rfl,rfl⟩
theorem nf{L1 L2 A B:List Hl}{y:Hl}(h:L1++L2=A++y::B):(∃B1,L1=A++y::B1/\B=B1++L2)\/∃A2,A=L1++A2/\L2=A2++y::B:=by
 rcases List.append_eq_append_iff.1 h with⟨xs,h1,h2⟩|⟨ys,h1,h2⟩
 ·exact .inr ⟨xs,h1,h2⟩
 ·cases ys with
  |nil=>exact .inr ⟨[],by simpa using h1.symm,by simpa using h2.symm⟩
  |
   cons z ys =>
   rw[bA]at h2
   cases h2
   exact .inl ⟨ys,h1,rfl⟩
theorem oY{f:Hl->List Hl}:∀{L A B:List Hl} {y:Hl},L.flatMap f=A++y::B->∃L1 h L2 A1 B1,L=L1++h::L2/\f h=A1++y::B1/\A=L1.flatMap f++A1/\B=B1++L2.flatMap f
 |[],A,B,y,h=>by simp at h
 |
  h::L,A,B,y,hh=>by
  rw[aV]at hh
  rcases nf hh with⟨B1,h1,h2⟩|⟨A2,h1,h2⟩
  ·exact⟨[],h,L,A,B1,rfl,h1,rfl,h2⟩
  ·obtain⟨L1,h',L2,A1,B1,e1,e2,e3,e4⟩:=oY h2
   exact⟨h::L1,h',L2,A1,B1,by rw[e1];rfl,e2,by rw[h1,e3,aV,bH],e4⟩
theorem iL(a:Ty)(tg:Tg)(g:Vl->Vl->Vl):∀{l r:List Hl},eI l=eI r->eI (l.flatMap fun h=>eX (g h.1) (bm (.rc a) tg h.2))=eI (r.flatMap fun h=>eX (g h.1) (bm (.rc a) tg h.2))
 |[],[],_=>rfl
 |[],_::_,h=>by simp[eI]at h
 |_::_,[],h=>by simp[eI]at h
 |
  x::l,y::r,h=>by
  simp only[eI,aS,List.cons.injEq]at h
  rw[aV,aV,cd,cd,a6,a6,h.1,iL a tg g h.2]
theorem FF{a b:Tg}(h:a≠b):a.up≠b.up:=by
 intro e
 cases a<;>cases b<;>simp[Tg.up]at e<;>subst e<;>exact h rfl
theorem um(a:Tg):a.up≠.bd 0:=by cases a<;>simp[Tg.up]
theorem uo{t:Ty}{a b:Tg}(h:ec t a=true)(hn:b≠a):ec t b=false:=by
 cases t<;>cases a<;>simp[ec]at h
 ·subst h
  cases b with
  |nm s=>simp only[ec];exact decide_eq_false fun e=>hn (by rw[e])
  |bd k=>rfl
 ·subst h
  cases b with
  |nm s=>rfl
  |bd k=>simp only[ec];exact decide_eq_false fun e=>hn (by rw[e])
theorem sI{t:Ty}{a:Tg}(h:ec t a=true)(v:Vl):stuck t v=true:=by
 cases t<;>simp[ec]at h<;>(cases v<;>rfl)
theorem rE{t:Ty}{a:Tg}(h:ec t a=true)(c x:Vl):cE t c x=x:=by
 cases t<;>simp[ec]at h
 ·exact qh _ c x
 ·exact oV _ c x
theorem ff:∀(n:Nat) (v:Vl),v.nodes<=n->∀(t:Ty) (tg:Tg) (A B:List Hl) (c e:Vl),bm t tg v=A++(c,e)::B->∀x:Vl,
 (∃A' B',bm t tg (cE t c x)=A'++(c,x)::B'/\eI A'=eI A/\eI B'=eI B)/\∀tg',tg'≠tg->eI (bm t tg' (cE t c x))=eI (bm t tg' v)
 |0,v,hn=>by have:=aX v;omega
 |
  n+1,v,hn=>by
  intro t tg A B c e hh x
  cases hat:ec t tg with
  |
   true =>
   rw[iv v hat]at hh
   have h1:A=[]:=by cases A with
    |nil=>rfl
    |cons y A=>simp at hh
   subst h1
   simp only[bc,List.cons.injEq,Prod.mk.injEq]at hh
   obtain⟨⟨rfl,rfl⟩,rfl⟩:=hh
   rw[rE hat]
   refine⟨⟨[],[],iv x hat,rfl,rfl⟩,fun tg' hne=>?_⟩
   rw[cP (uo hat hne) (sI hat x),cP (uo hat hne) (sI hat v)]
  |
   false =>
   have hst:stuck t v=false:=by
    cases q:stuck t v with
    |false=>rfl
    |true=>rw[cP hat q]at hh;simp at hh
   unfold stuck at hst
   split at hst
   ·rename_i a b w
    simp only[Vl.nodes]at hn
    rw[fO]at hh
    obtain⟨A0,c0,B0,h0,rfl,rfl,rfl⟩:=ij hh
    obtain⟨⟨A',B',e1,e2,e3⟩,e4⟩:=ff n w (by omega) a tg A0 B0 c0 e h0 x
    refine⟨⟨eX .l A',eX .l B',?_,by rw[a6,a6,e2],by rw[a6,a6,e3]⟩,fun tg' hne=>?_⟩
    ·rw[cE,fO,e1];simp[eX]
    ·rw[cE,fO,fO,a6,a6,e4 tg' hne]
   ·rename_i a b w
    simp only[Vl.nodes]at hn
    rw[fT]at hh
    obtain⟨A0,c0,B0,h0,rfl,rfl,rfl⟩:=ij hh
    obtain⟨⟨A',B',e1,e2,e3⟩,e4⟩:=ff n w (by omega) b tg A0 B0 c0 e h0 x
    refine⟨⟨eX .r A',eX .r B',?_,by rw[a6,a6,e2],by rw[a6,a6,e3]⟩,fun tg' hne=>?_⟩
    ·rw[cE,fT,e1];simp[eX]
    ·rw[cE,fT,fT,a6,a6,e4 tg' hne]
   ·rename_i a b y z
    simp only[Vl.nodes]at hn
    rw[eD]at hh
    rcases nf hh with⟨B1,h1,rfl⟩|⟨A2,rfl,h2⟩
    ·obtain⟨A0,c0,B0,h0,rfl,rfl,rfl⟩:=ij h1
     obtain⟨⟨A',B',e1,e2,e3⟩,e4⟩:=ff n y (by omega) a tg A0 B0 c0 e h0 x
     refine⟨⟨eX (fun c=>.l (.p c z)) A',eX (fun c=>.l (.p c z)) B'++eX (fun c=>.r (.p (cE a c0 x) c)) (bm b tg z),?_,by rw[a6,a6,e2],by rw[cd,cd,a6,a6,a6,a6,e3]⟩,fun tg' hne=>?_⟩
     ·rw[cE,eD,e1];simp[eX]
     ·rw[cE,eD,eD,cd,cd,a6,a6,a6,a6,e4 tg' hne]
    ·obtain⟨A0,c0,B0,h0,rfl,rfl,rfl⟩:=ij h2
     obtain⟨⟨A',B',e1,e2,e3⟩,e4⟩:=ff n z (by omega) b tg A0 B0 c0 e h0 x
     refine⟨⟨eX (fun c=>.l (.p c (cE b c0 x))) (bm a tg y)++eX (fun c=>.r (.p y c)) A',eX (fun c=>.r (.p y c)) B',?_,by rw[cd,cd,a6,a6,a6,a6,e2],by rw[a6,a6,e3]⟩,fun tg' hne=>?_⟩
     ·rw[cE,eD,e1];simp[eX]
     ·rw[cE,eD,eD,cd,cd,a6,a6,a6,a6,e4 tg' hne]
   ·rename_i a w
    simp only[Vl.nodes]at hn
    rw[eB]at hh
    rcases nf hh with⟨B1,h1,rfl⟩|⟨A2,rfl,h2⟩
    ·obtain⟨A0,c0,B0,h0,rfl,rfl,rfl⟩:=ij h1
     obtain⟨⟨A',B',e1,e2,e3⟩,e4⟩:=ff n w (by omega) a tg.up A0 B0 c0 e h0 x
     have hb:=e4 (.bd 0) (Ne.symm (um tg))
     refine⟨⟨eX (fun c=>.f (.l c)) A',eX (fun c=>.f (.l c)) B'++(bm a (.bd 0) (cE a c0 x)).flatMap fun h=>eX (fun c=>.f (.r (.p h.1 c))) (bm (.rc a) tg h.2),?_,by rw[a6,a6,e2],?_⟩,fun tg' hne=>?_⟩
     ·rw[cE,eB,e1];simp[eX]
     ·rw[cd,cd,a6,a6,e3,iL a tg (fun p c=>.f (.r (.p p c))) hb]
     ·rw[cE,eB,eB,cd,cd,a6,a6,e4 _ (FF hne),iL a tg' (fun p c=>.f (.r (.p p c))) hb]
    ·obtain⟨L1,h,L2,A1,B1,g1,g2,rfl,rfl⟩:=oY h2
     obtain⟨A0,c0,B0,h0,rfl,rfl,rfl⟩:=ij g2
     obtain⟨hc,he⟩:=h
     have hsz:=(gI (t:=a) (tg:=.bd 0) (v:=w) (h:=(hc,he)) (by rw[g1];simp)).1
     simp only at hsz h0
     obtain⟨⟨A',B',e1,e2,e3⟩,e4⟩:=ff n he (by omega) (.rc a) tg A0 B0 c0 e h0 x
     obtain⟨⟨M1,M2,d1,d2,d3⟩,d4⟩:=ff n w (by omega) a (.bd 0) L1 L2 hc he g1 (cE (.rc a) c0 x)
     refine⟨⟨eX (fun c=>.f (.l c)) (bm a tg.up (cE a hc (cE (.rc a) c0 x)))++(M1.flatMap (fun h=>eX (fun c=>.f (.r (.p h.1 c))) (bm (.rc a) tg h.2))++eX (fun c=>.f (.r (.p hc c))) A'),eX (fun c=>.f (.r (.p hc c))) B'++M2.flatMap (fun h=>eX (fun c=>.f (.r (.p h.1 c))) (bm (.rc a) tg h.2)),?_,?_,?_⟩,fun tg' hne=>?_⟩
     ·rw[cE,eB,d1,List.flatMap_append,aV]
      simp only[e1]
      simp[eX]
     ·rw[cd,cd,cd,cd,a6,a6,a6,a6,d4 _ (um tg),e2,iL a tg (fun p c=>.f (.r (.p p c))) d2]
     ·rw[cd,cd,a6,a6,e3,iL a tg (fun p c=>.f (.r (.p p c))) d3]
     ·have hk:=e4 tg' hne
      rw[cE,eB,eB,cd,cd,a6,a6,d4 _ (um tg'),d1,g1,List.flatMap_append,List.flatMap_append,aV,aV,cd,cd,cd,cd,a6,a6,hk,iL a tg' (fun p c=>.f (.r (.p p c))) d2,iL a tg' (fun p c=>.f (.r (.p p c))) d3]
   ·cases hst
end Go.Proofs.Trees
namespace Go.Proofs.Trees
open Go Go.VL Go.RowKit
abbrev Nm:=List UInt8
def i0(u:Ty):Ty->Nat->Ty
 | .bound k,i=>if k=i then u else .bound k
 | .plus a b,i=>.plus (i0 u a i) (i0 u b i)
 | .times a b,i=>.times (i0 u a i) (i0 u b i)
 | .rc a,i=>.rc (i0 u a (i+1))
 |t,_=>t
def sub(x:Nm)(u:Ty):Ty->Ty
 | .name s=>if s=x then u else .name s
 | .plus a b=>.plus (sub x u a) (sub x u b)
 | .times a b=>.times (sub x u a) (sub x u b)
 | .rc a=>.rc (sub x u a)
 |t=>t
def bU(x:Nm):Ty->Bool
 | .name s=>decide (s=x)
 | .plus a b=>bU x a||bU x b
 | .times a b=>bU x a||bU x b
 | .rc a=>bU x a
 |_=>false
def iX(f:Nm->Nm):Ty->Ty
 | .name s=>.name (f s)
 | .plus a b=>.plus (iX f a) (iX f b)
 | .times a b=>.times (iX f a) (iX f b)
 | .rc a=>.rc (iX f a)
 |t=>t
def Gr(f:Nm->Nm):Prop:=∀x y,f x=f y->x=y
theorem j5(f:Nm->Nm)(x:Nm):∀(t:Ty) (i:Nat),iX f (i0 (.name x) t i)=i0 (.name (f x)) (iX f t) i
 | .bound k,i=>by simp only[i0,iX];split<;>rfl
 | .plus a b,i=>by simp only[i0,iX,j5 f x a i,j5 f x b i]
 | .times a b,i=>by simp only[i0,iX,j5 f x a i,j5 f x b i]
 | .rc a,i=>by simp only[i0,iX,j5 f x a (i+1)]
 | .zero,i=>rfl
 | .one,i=>rfl
 | .name s,i=>rfl
theorem jJ{f:Nm->Nm}(hf:Gr f)(x:Nm)(u:Ty):∀t:Ty,iX f (sub x u t)=sub (f x) (iX f u) (iX f t)
 |
  .name s=>by
  simp only[sub,iX]
  by_cases h:s=x
  ·subst h;simp
  ·rw[if_neg h,if_neg fun e=>h (hf _ _ e)];rfl
 | .plus a b=>by simp only[sub,iX,jJ hf x u a,jJ hf x u b]
 | .times a b=>by simp only[sub,iX,jJ hf x u a,jJ hf x u b]
 | .rc a=>by simp only[sub,iX,jJ hf x u a]
 | .zero=>rfl
 | .one=>rfl
 | .bound k=>rfl
theorem lb{f:Nm->Nm}(hf:Gr f)(x:Nm):∀t:Ty,bU (f x) (iX f t)=bU x t
 | .name s=>by simp only[bU,iX];rw[cA];simp only[decide_eq_true_eq];exact⟨fun e=>hf _ _ e,fun e=>by rw[e]⟩
 | .plus a b=>by simp only[bU,iX,lb hf x a,lb hf x b]
 | .times a b=>by simp only[bU,iX,lb hf x a,lb hf x b]
 | .rc a=>by simp only[bU,iX,lb hf x a]
 | .zero=>rfl
 | .one=>rfl
 | .bound k=>rfl
theorem fy(f:Nm->Nm):∀t:Ty,(iX f t).atoms=t.atoms
 | .plus a b=>by simp only[Ty.atoms,iX,fy f a,fy f b]
 | .times a b=>by simp only[Ty.atoms,iX,fy f a,fy f b]
 | .rc a=>by simp only[Ty.atoms,iX,fy f a]
 | .name s=>rfl
 | .zero=>rfl
 | .one=>rfl
 | .bound k=>rfl
theorem nw{f:Nm->Nm}:∀t:Ty,(∀x,bU x t=true->f x=x)->iX f t=t
 | .name s,h=>by simp only[iX];rw[h s (by simp[bU])]
 | .plus a b,h=>by simp only[iX];rw[nw a fun x hx=>h x (by simp[bU,hx]),nw b fun x hx=>h x (by simp[bU,hx])]
 | .times a b,h=>by simp only[iX];rw[nw a fun x hx=>h x (by simp[bU,hx]),nw b fun x hx=>h x (by simp[bU,hx])]
 | .rc a,h=>by simp only[iX];rw[nw a fun x hx=>h x hx]
 | .zero,_=>rfl
 | .one,_=>rfl
 | .bound k,_=>rfl
theorem gr(x:Nm):∀(t:Ty) (i:Nat),(i0 (.name x) t i).atoms=t.atoms
 | .bound k,i=>by simp only[i0];split<;>rfl
 | .plus a b,i=>by simp only[i0,Ty.atoms,gr x a i,gr x b i]
 | .times a b,i=>by simp only[i0,Ty.atoms,gr x a i,gr x b i]
 | .rc a,i=>by simp only[i0,Ty.atoms,gr x a (i+1)]
 | .zero,i=>rfl
 | .one,i=>rfl
 | .name s,i=>rfl
theorem wu(t:Ty):1<=t.atoms:=by cases t<;>simp only[Ty.atoms]<;>omega
theorem gF{x y:Nm}:∀(t:Ty) (i:Nat),bU y (i0 (.name x) t i)=true->y=x\/bU y t=true
 |
  .bound k,i,h=>by
  simp only[i0]at h
  split at h
  ·left;simp only[bU,decide_eq_true_eq]at h;exact h.symm
  ·cases h
 |
  .plus a b,i,h=>by
  simp only[i0,bU,br]at h |-
  rcases h with h|h
  ·rcases gF a i h with h|h<;>simp[h]
  ·rcases gF b i h with h|h<;>simp[h]
 |
  .times a b,i,h=>by
  simp only[i0,bU,br]at h |-
  rcases h with h|h
  ·rcases gF a i h with h|h<;>simp[h]
  ·rcases gF b i h with h|h<;>simp[h]
 | .rc a,i,h=>gF a (i+1) h
 | .zero,i,h=>by cases h
 | .one,i,h=>by cases h
 | .name s,i,h=>.inr h
theorem gz{x y:Nm}{u:Ty}:∀t:Ty,bU y (sub x u t)=true->bU y u=true\/(y≠x/\bU y t=true)
 |
  .name s,h=>by
  simp only[sub]at h
  split at h
  ·exact .inl h
  ·rename_i hs
   simp only[bU,decide_eq_true_eq]at h
   subst h
   exact .inr ⟨hs,by simp[bU]⟩
 |
  .plus a b,h=>by
  simp only[sub,bU,br]at h |-
  rcases h with h|h
  ·rcases gz a h with h|h<;>simp[h]
  ·rcases gz b h with h|h<;>simp[h]
 |
  .times a b,h=>by
  simp only[sub,bU,br]at h |-
  rcases h with h|h
  ·rcases gz a h with h|h<;>simp[h]
  ·rcases gz b h with h|h<;>simp[h]
 |
  .rc a,h=>by
  simp only[sub,bU]at h |-
  exact gz a h
 | .zero,h=>by cases h
 | .one,h=>by cases h
 | .bound k,h=>by cases h
def swp(x y:Nm):Nm->Nm:=fun s=>if s=x then y else if s=y then x else s
theorem uI(x y:Nm):Gr (swp x y):=by
 intro a b h
 unfold swp at h
 by_cases h1:a=x<;>by_cases h2:a=y<;>by_cases h3:b=x<;>by_cases h4:b=y<;>simp_all
theorem wW(x y:Nm):swp x y x=y:=by simp[swp]
theorem AE{x y s:Nm}(h:s≠x)(h':s≠y):swp x y s=s:=by simp[swp,h,h']
theorem ri{x y:Nm}{t:Ty}(h:bU x t=false)(h':bU y t=false):iX (swp x y) t=t :=
 nw t fun z hz=>AE (fun e=>by subst e;rw[h]at hz;cases hz) (fun e=>by subst e;rw[h']at hz;cases hz)
def AI(a:Ty)(x:Nm)(c d:Ty):Ty:=.rc (.plus (sub x (.rc a) c) (.times (sub x (.rc a) d) (.bound 0)))
inductive Dv:Ty->Nm->Ty->Prop
 |zero (s):Dv .zero s .zero
 |one (s):Dv .one s .zero
 |bound (k s):Dv (.bound k) s .zero
 |hit (s):Dv (.name s) s .one
 |tK {n s} (h:n≠s):Dv (.name n) s .zero
 |plus {a b s a' b'} (h1:Dv a s a') (h2:Dv b s b') (hl:(Ty.plus a' b').atoms<=400):Dv (.plus a b) s (.plus a' b')
 |times {a b s a' b'} (h1:Dv a s a') (h2:Dv b s b') (hl:(Ty.plus (.times a' b) (.times a b')).atoms<=400):Dv (.times a b) s (.plus (.times a' b) (.times a b'))
 |rc {a s c d} (x:Nm) (hx:bU x a=false) (hs:x≠s) (h1:Dv (i0 (.name x) a 0) s c) (h2:Dv (i0 (.name x) a 0) x d) (hl:(AI a x c d).atoms<=400):Dv (.rc a) s (AI a x c d)
theorem u4{f:Nm->Nm}(hf:Gr f)(a:Ty)(x:Nm)(c d:Ty):iX f (AI a x c d)=AI (iX f a) (f x) (iX f c) (iX f d):=by
 simp only[AI,iX,jJ hf]
theorem Dv.iX{f:Nm->Nm}(hf:Gr f){t d:Ty}{s:Nm}(h:Dv t s d):Dv (iX f t) (f s) (iX f d):=by
 induction h with
 |zero s=>exact .zero _
 |one s=>exact .one _
 |bound k s=>exact .bound _ _
 |hit s=>exact .hit _
 |tK h=>exact .tK fun e=>h (hf _ _ e)
 |plus h1 h2 hl i1 i2=>exact .plus i1 i2 (by rw[<-fy f]at hl;exact hl)
 |times h1 h2 hl i1 i2=>exact .times i1 i2 (by rw[<-fy f]at hl;exact hl)
 |
  rc x hx hs h1 h2 hl i1 i2 =>
  rw[u4 hf]
  rw[j5]at i1 i2
  exact .rc (f x) (by rw[lb hf];exact hx) (fun e=>hs (hf _ _ e)) i1 i2 (by rw[<-u4 hf,fy];exact hl)
theorem Dv.names{t d:Ty}{s:Nm}(h:Dv t s d):∀y,bU y d=true->bU y t=true:=by
 induction h with
 |zero s=>intro y hy;cases hy
 |one s=>intro y hy;cases hy
 |bound k s=>intro y hy;cases hy
 |hit s=>intro y hy;cases hy
 |tK h=>intro y hy;cases hy
 |
  plus h1 h2 hl i1 i2 =>
  intro y hy
  simp only[bU,br]at hy |-
  rcases hy with hy|hy
  ·exact .inl (i1 y hy)
  ·exact .inr (i2 y hy)
 |
  times h1 h2 hl i1 i2 =>
  intro y hy
  simp only[bU,br]at hy |-
  rcases hy with(hy|hy)|(hy|hy)
  ·exact .inl (i1 y hy)
  ·exact .inr hy
  ·exact .inl hy
  ·exact .inr (i2 y hy)
 |
  rc x hx hs h1 h2 hl i1 i2 =>
  intro y hy
  simp only[AI,bU,br,Bool.or_false]at hy |-
  have key:∀{a c:Ty},(∀y,bU y c=true->bU y (i0 (.name x) a 0)=true)->bU y (sub x (.rc a) c)=true->bU y a=true:=fun i h=>by
   rcases gz _ h with h|⟨h,h'⟩
   ·exact h
   ·rcases gF _ _ (i y h')with e|e
    ·exact absurd e h
    ·exact e
  rcases hy with hy|hy
  ·exact key i1 hy
  ·exact key i2 hy
theorem Dv.fresh{t d:Ty}{s y:Nm}(h:Dv t s d)(hy:bU y t=false):bU y d=false:=by
 cases e:bU y d with
 |false=>rfl
 |true=>rw[h.names y e]at hy;cases hy
theorem Dv.move{a c:Ty}{x y s:Nm}(hx:bU x a=false)(hy:bU y a=false)(h:Dv (i0 (.name x) a 0) s c):Dv (i0 (.name y) a 0) (swp x y s) (Go.Proofs.Trees.iX (swp x y) c):=by
 have:=h.iX (uI x y)
 rw[j5,wW,ri hx hy]at this
 exact this
theorem sn{a c:Ty}{x y s:Nm}(hx:bU x a=false)(hy:bU y a=false)(h:Dv (i0 (.name x) a 0) s c):sub y (.rc a) (iX (swp x y) c)=sub x (.rc a) c:=by
 have e:=jJ (uI x y) x (.rc a) c
 rw[wW,ri (t:=.rc a) hx hy]at e
 rw[<-e]
 have key:∀z,(z=x\/z=y)->bU z (sub x (.rc a) c)=false:=fun z hz=>by
  cases q:bU z (sub x (.rc a) c)with
  |false=>rfl
  |
   true =>
   exfalso
   have hz':bU z a=false:=by rcases hz with rfl|rfl<;>assumption
   rcases gz _ q with h1|⟨h1,h2⟩
   ·rw[show bU z (.rc a)=bU z a from rfl,hz']at h1;cases h1
   ·rcases gF _ _ (h.names z h2)with e|e
    ·exact h1 e
    ·rw[hz']at e;cases e
 exact ri (key x (.inl rfl)) (key y (.inr rfl))
theorem Dv.uniq:∀(n:Nat) (t:Ty),t.atoms<=n->∀{s:Nm} {d d':Ty},Dv t s d->Dv t s d'->d=d'
 |0,t,h,_,_,_,_,_=>by have:=wu t;omega
 |
  n+1,t,hn,s,d,d',h,h'=>by
  cases h with
  |zero=>cases h';rfl
  |one=>cases h';rfl
  |bound=>cases h';rfl
  |
   hit =>
   cases h' with
   |hit=>rfl
   |tK h=>exact absurd rfl h
  |
   tK h =>
   cases h' with
   |hit=>exact absurd rfl h
   |tK _=>rfl
  |
   plus h1 h2 =>
   simp only[Ty.atoms]at hn
   cases h' with
   |plus g1 g2=>rw[Dv.uniq n _ (by omega) h1 g1,Dv.uniq n _ (by omega) h2 g2]
  |
   times h1 h2 =>
   simp only[Ty.atoms]at hn
   cases h' with
   |times g1 g2=>rw[Dv.uniq n _ (by omega) h1 g1,Dv.uniq n _ (by omega) h2 g2]
  |
   rc x hx hs h1 h2 =>
   simp only[Ty.atoms]at hn
   cases h' with
   |
    rc y hy hs' g1 g2 =>
    rename_i a _ _ _ _ _ _
    have m1:=h1.move hx hy
    have m2:=h2.move hx hy
    rw[AE (Ne.symm hs) (Ne.symm hs')]at m1
    rw[wW]at m2
    have e1:=Dv.uniq n _ (by rw[gr];omega) m1 g1
    have e2:=Dv.uniq n _ (by rw[gr];omega) m2 g2
    rw[AI,AI,<-e1,<-e2,sn hx hy h1,sn hx hy h2]
open Classical in
noncomputable def Iw (t:Ty) (s:Nm):Option Ty:=if h:∃d,Dv t s d then some (Classical.choose h)else none
theorem vj{t:Ty}{s:Nm}{d:Ty}:Iw t s=some d↔Dv t s d:=by
 unfold Iw
 by_cases h:∃d,Dv t s d
 ·rw[dif_pos h]
  have:=Classical.choose_spec h
  constructor
  ·intro e;cases e;exact this
  ·intro g;rw[Dv.uniq _ t (an _) this g]
 ·rw[dif_neg h]
  exact⟨fun e=>(by cases e),fun g=>absurd ⟨d,g⟩ h⟩
def AO(t:Ty):Option Ty:=if t.atoms<=400 then some t else none
theorem sO{t d:Ty}:AO t=some d↔t.atoms<=400/\t=d:=by
 unfold AO
 split
 ·rename_i h;simp[h]
 ·rename_i h;simp[h]
noncomputable def Dp (a:Ty) (x:Nm):Option Ty:=(Iw (i0 (.name x) a 0) x).bind fun d=>AO (sub x (.rc a) d)
end Go.Proofs.Trees
namespace Go.Proofs.Trees
open Go Go.VL Go.RowKit
inductive Fr where
 |mk (s:List UInt8) (e:E) (o:List Fr)
def Fr.nm:Fr->List UInt8| .mk s _ _=>s
def Fr.ex:Fr->E| .mk _ e _=>e
def Fr.out:Fr->List Fr| .mk _ _ o=>o
def names:List Fr->List (List UInt8)
 |[]=>[]
 |f::r=>names r++[f.nm]
def uZ(e:E)(o:List Fr):Ty:=(cf e (names o)).getD .zero
def E.sp:E->AV
 | .atom _=>.v (.slice none 0 0)
 | .list l=>.sl (E.a7 l)
theorem jw(e:E):e.gn=[.v (.string (mk e.at)),e.sp]:=by cases e<;>rfl
theorem dD(e:E):e.ja=.agg [.v (.string (mk e.at)),e.sp]:=by cases e<;>rfl
theorem bE(e:E):LK.has .sl e.sp=True:=by cases e<;>simp[E.sp,bF,cG]
mutual
def Fr.cells:Fr->List AV
 | .mk s e o=>[.v (.string (mk s)),.v (.string (mk e.at)),e.sp,.sl (iS o)]
def iS:List Fr->List (List AV)
 |[]=>[]
 |f::r=>iS r++[f.cells]
end
mutual
def Fr.dF:Fr->AV
 | .mk s e o=>.ptr [(uZ e o).av,mI o]
def mI:List Fr->AV
 |[]=>je
 |f::r=>.ptr [f.dF,mI r]
end
inductive WF:List Fr->Prop
 |nil:WF []
 |cons {s:List UInt8} {x a b:E} {t:Ty} {r:List Fr} (hs:cC s=true) (hok:(E.list [x,a,b]).ok) (hx:x.at=[114,101,99]) (ht:cf (.list [x,a,b]) (names r)=some t) (hf:bL t=false) (hr:WF r):WF (.mk s (.list [x,a,b]) r::r)
theorem jh:∀env:List Fr,(iS env).length=env.length
 |[]=>rfl
 |f::r=>by simp[iS,jh r]
theorem du(env:List Fr):LK.has .ptr (mI env)=True:=by cases env<;>simp[mI,j1,fK]
theorem xD(f:Fr):LK.has .ptr f.dF=True:=by cases f;simp[Fr.dF,fK]
def findF(s:List UInt8):List Fr->Option Fr
 |[]=>none
 |f::r=>if f.nm=s then some f else findF s r
def hd(e:E)(env:List Fr):E×List Fr:=match findF e.at env with|some f=>(f.ex,f.out)|none=>(e,env)
theorem ji{env:List Fr}(h:WF env):findF [] env=none:=by
 induction h with
 |nil=>rfl
 |
  @cons s x a b t r hs hok hx ht hf hr ih =>
  rw[findF,if_neg (show ¬(Fr.mk s (.list [x,a,b]) r).nm=[] from xB hs)];exact ih
theorem wc{env:List Fr}(h:WF env){s:List UInt8}{f:Fr}(hf:findF s env=some f):cC s=true:=by
 induction h with
 |nil=>cases hf
 |
  cons hs hok hx ht hf' hr ih =>
  rw[findF]at hf
  split at hf
  ·rename_i e;exact e ▸ hs
  ·exact ih hf
theorem lY{env:List Fr}(h:WF env){s:List UInt8}{f:Fr}(hf:findF s env=some f):∃x a b t,f.ex=.list [x,a,b]/\(E.list [x,a,b]).ok/\x.at=[114,101,99]/\cf f.ex (names f.out)=some t/\bL t=false/\WF f.out/\f.out.length<env.length:=by
 induction h with
 |nil=>cases hf
 |
  cons hs hok hx ht hf' hr ih =>
  rw[findF]at hf
  split at hf
  ·cases hf;exact⟨_,_,_,_,rfl,hok,hx,ht,hf',hr,by simp[Fr.out]⟩
  ·obtain⟨x,a,b,t,h1,h2,h3,h4,h5,h6,h7⟩:=ih hf
   exact⟨x,a,b,t,h1,h2,h3,h4,h5,h6,by simp;omega⟩
theorem iY(s w:List UInt8)(ar:List (List UInt8)):∀i,i<=ar.length->bR s (ar++[w]) i=(bR s ar i).map (·+1)
 |0,_=>rfl
 |
  i+1,hi=>by
  have hlt:i<ar.length:=by omega
  have e:(ar++[w]).getD i []=ar.getD i []:=by simp[aa,List.getElem?_append_left hlt]
  rw[bR,bR,e,iY s w ar i (by omega)]
  split
  ·simp only[aq,aw,aM,cK,Option.some.injEq];omega
  ·rfl
theorem so(s:List UInt8)(f:Fr)(r:List Fr):bR s (names (f::r)) (names (f::r)).length=if f.nm=s then some 0 else(bR s (names r) (names r).length).map (·+1):=by
 have e:(names (f::r)).length=(names r).length+1:=by simp[names]
 rw[e,bR]
 have e2:(names (f::r)).getD (names r).length []=f.nm:=by simp[names,aa]
 rw[e2]
 split
 ·rw[e];simp
 ·rw[names,iY _ _ _ _ (an _)]
theorem mj(s:List UInt8):∀env:List Fr,bR s (names env) (names env).length=none/\findF s env=none\/∃(u:Nat) (f:Fr),bR s (names env) (names env).length=some u/\findF s env=some f/\env[u]?=some f
 |[]=>.inl ⟨rfl,rfl⟩
 |
  f::r=>by
  rw[so,findF]
  split
  ·exact .inr ⟨0,f,rfl,rfl,rfl⟩
  ·rcases mj s r with⟨h1,h2⟩|⟨u,g,h1,h2,h3⟩
   ·exact .inl ⟨by rw[h1];rfl,h2⟩
   ·exact .inr ⟨u+1,g,by rw[h1];rfl,h2,by simpa using h3⟩
def Ty.G2:Ty->Bool
 | .bound _=>true
 |_=>false
theorem gK{e:E}{env:List Fr}{t:Ty}(hw:WF env)(ht:cf e (names env)=some t) :
 (t.G2=false/\findF e.at env=none)\/∃(u:Nat) (f:Fr),t=.bound u/\findF e.at env=some f/\env[u]?=some f:=by
 cases e with
 |
  list l =>
  left
  refine⟨?_,ji hw⟩
  match l,ht with
  |
   [x,a,b],ht =>
   by_cases h0:x.at=[43]
   ·obtain⟨t1,t2,_,_,rfl⟩:=ep h0 ht;rfl
   ·by_cases h1:x.at=[42]
    ·obtain⟨t1,t2,_,_,rfl⟩:=dW h1 ht;rfl
    ·by_cases h2:x.at=[114,101,99]
     ·obtain⟨t1,_,_,rfl⟩:=cI h2 ht;rfl
     ·rw[gC _ h0 h1 h2]at ht;cases ht
  |[],ht=>cases ht
  |[_],ht=>cases ht
  |[_,_],ht=>cases ht
  |_::_::_::_::_,ht=>cases ht
 |
  atom s =>
  simp only[cf]at ht
  have hno:cC s=false->findF s env=none:=fun h=>by
   cases hq:findF s env with
   |none=>rfl
   |some f=>rw[wc hw hq]at h;cases h
  split at ht
  ·rename_i h;cases ht;subst h;exact .inl ⟨rfl,hno rfl⟩
  ·split at ht
   ·rename_i h;cases ht;subst h;exact .inl ⟨rfl,hno rfl⟩
   ·split at ht
    ·rename_i h
     cases ht
     refine .inl ⟨rfl,hno ?_⟩
     cases hq:cC s with
     |false=>rfl
     |
      true =>
      obtain⟨c,r,rfl,h1,h2⟩:=jG h
      obtain⟨c',r',he,h3,h4⟩:=jG hq
      cases he;omega
    ·split at ht
     ·rcases mj s env with⟨h1,h2⟩|⟨u,f,h1,h2,h3⟩
      ·rw[h1]at ht;cases ht;exact .inl ⟨rfl,h2⟩
      ·rw[h1]at ht;cases ht;exact .inr ⟨u,f,rfl,h2,h3⟩
     ·cases ht
def en(n:Nat):Vl->E×List Fr->Bool
 | .u,p=>match hd p.1 p.2 with|(.atom s,_)=>s==[49]|_=>false
 | .el k,p=>match hd p.1 p.2 with|(.atom s,_)=>!(s==[49])&&(fC s&&decide (k<n))|_=>false
 | .l w,p=>match hd p.1 p.2 with|(.list [x,a,b],o)=>(x.at==[43])&&en n w (a,o)|_=>false
 | .r w,p=>match hd p.1 p.2 with|(.list [x,a,b],o)=>(x.at==[43])&&en n w (b,o)|_=>false
 | .f w,p=>match hd p.1 p.2 with|(.list [x,a,b],o)=>(x.at==[114,101,99])&&en n w (b,.mk a.at (.list [x,a,b]) o::o)|_=>false
 | .p v w,p=>match hd p.1 p.2 with|(.list [x,a,b],o)=>(x.at==[42])&&(en n v (a,o)&&en n w (b,o))|_=>false
theorem jX{e:E}{env:List Fr}(h:findF e.at env=none):hd e env=(e,env):=by rw[hd,h]
theorem oy{e:E}{env:List Fr}{f:Fr}(h:findF e.at env=some f):hd e env=(f.ex,f.out):=by rw[hd,h]
theorem nJ{x a b:E}{o:List Fr}(h:WF o):hd (.list [x,a,b]) o=(.list [x,a,b],o):=jX (ji h)
theorem qI(n:Nat)(v:Vl){e e':E}{env o:List Fr}(h:hd e env=(e',o))(h':hd e' o=(e',o)):en n v (e,env)=en n v (e',o):=by
 cases v<;>simp only[en,h,h']
theorem iD{x a b:E}{env:List Fr}{t:Ty}(hw:WF env)(hok:(E.list [x,a,b]).ok)(hx:x.at=[114,101,99])(ht:cf (.list [x,a,b]) (names env)=some t)(hf:bL t=false) :
 ∃t1,t=.rc t1/\cf b (names (.mk a.at (.list [x,a,b]) env::env))=some t1/\bL t1=false/\WF (.mk a.at (.list [x,a,b]) env::env):=by
 obtain⟨t1,hl,h1,rfl⟩:=cI hx ht
 exact⟨t1,rfl,h1,hf,.cons hl hok hx ht hf hw⟩
theorem At(a b env:AV)(n:Int)(s:ByteArray)(u:Int)(ha:LK.ptr.has a)(he:LK.ptr.has env):ay Tryz.prog 39 [.agg [.ptr [.v (.int .u8 n),.v (.string s),.v (.int .i64 u),a,b],env]] [] (bK (.agg [a,env])):=by
 refine Hs _ _ ((fK _).mpr trivial) he ?_
 simp only[D4,↓zq,zs,ah,bK]
 exact⟨ha,by omega⟩
theorem Ah(a b env:AV)(n:Int)(s:ByteArray)(u:Int)(hb:LK.ptr.has b)(he:LK.ptr.has env):ay Tryz.prog 40 [.agg [.ptr [.v (.int .u8 n),.v (.string s),.v (.int .i64 u),a,b],env]] [] (bK (.agg [b,env])):=by
 refine IT _ _ ((fK _).mpr trivial) he ?_
 simp only[Gf,↓zq,zs,ah,bK]
 exact⟨hb,by omega⟩
theorem HT(t:Ty)(env:List Fr)(s:List UInt8)(e:E)(ht:uZ e env=.rc t):ay Tryz.prog 18 [.agg [(Ty.rc t).av,mI env]] [] (bK (.cQ [.agg [t.av,mI (.mk s e env::env)],(Fr.mk s e env).dF])):=by
 refine HZ _ _ ((aT _).mpr trivial) ((du _).mpr trivial) ?_
 simp only[Eg,Ty.av,↓zq,zs,ah,aT,bK,mI,Fr.dF,ht]
 omega
theorem qD(env:List Fr)(i:Nat)(f:Fr)(h:env[i]?=some f):mI (env.drop i)=.ptr [f.dF,mI (env.drop (i+1))]:=by
 obtain⟨hlt,he⟩:=bO.1 h
 rw[aN hlt,he,mI]
theorem Ea(env:List Fr)(u:Nat)(hu:u<env.length)(hl:env.length<1000000):∀(k i:Nat),i+k=u->yX [mI (env.drop i),.v (.int .i64 (u:Int)),.v (.int .i64 (i:Int))] [] (kq 1 [mI (env.drop u)] [])
 |
  0,i,hi=>by
  refine G8 _ _ _ ?_
  have:i=u:=by omega
  subst this
  simp only[EP,↓zq,zs,ah,du]
  exact⟨fun h=>by omega,fun _=>by simp[kq]⟩
 |
  k+1,i,hi=>by
  refine G8 _ _ _ ?_
  have hlt:i<env.length:=by omega
  have hg:env[i]?=some env[i]:=aO hlt
  have hd:=qD env i _ hg
  rw[hd]
  simp only[EP,↓zq,zs,ah,du]
  refine⟨fun _=>⟨by omega,?_⟩,fun h=>by omega⟩
  rw[bW i (by omega)]
  exact Ea env u hu hl k (i+1) (by omega)
theorem Hu(env:List Fr)(u:Nat)(f:Fr)(hf:env[u]?=some f)(hl:env.length<1000000):ay Tryz.prog 38 [.agg [(Ty.bound u).av,mI env]] [] (bK f.dF):=by
 refine Gb _ _ ((aT _).mpr trivial) ((du _).mpr trivial) ?_
 obtain⟨hlt,he⟩:=bO.1 hf
 simp only[Cy,Ty.av,↓zq,zs,ah]
 refine⟨by omega,?_⟩
 have h:=Ea env u hlt hl u 0 (by omega)
 simp only[bw]at h
 refine df h ?_
 rw[qD env u f hf]
 simp only[↓zq,zs,ah,xD,bK]
 omega
theorem Ab(k:Nat)(h:k<100):Lib.atoi (dd k)=some (k:Int):=by
 have e:∀k,k<100->dd k=if k<10 then [aU (48+k)]else [aU (48+k/10),aU (48+k%10)]:=by
  intro k hk
  by_cases h1:k<10
  ·rw[eJ h1,if_pos h1]
  ·rw[fj h1,eJ (by omega),if_neg h1];rfl
 have key:∀k:Fin 100,Lib.atoi (if k.val<10 then [aU (48+k.val)]else [aU (48+k.val/10),aU (48+k.val%10)])=some (k.val:Int):=by decide +kernel
 rw[e k h];exact key ⟨k,h⟩
theorem Ik(k:Nat)(hk:k<100):ay Tryz.prog 72 [.v (.string (mk (dd k)))] [] (bK (.cQ [.v (.int .i64 (k:Int)),.v .nilIface])):=by
 have hl:=tq 1000 k (by omega)
 have hl2:(dd k).length<=18:=by
  have e:(dd k).length<=2:=by
   by_cases h1:k<10
   ·rw[eJ h1];simp
   ·rw[fj h1,eJ (by omega)];simp
  omega
 refine ay.H4 (xs:=[.string (mk (dd k))]) (v:=.tuple #[.int .i64 (k:Int),.nilIface]) ⟨n7,by kernel_rfl,by kernel_rfl,by kernel_rfl⟩ (fun M=>?_) fun w=>?_
 ·refine aW.cQ _ _ [.int .i64 (k:Int),.nilIface] rfl fun i hi=>?_
  match i,hi with
  |0,_=>exact .v _ _
  |1,_=>exact .v _ _
 ·have:=Any.strconv_Atoi Tryz.zW (mk (dd k)) (k:Int) (by rw[cY];exact hl2) (by
   have:(mk (dd k)).data.toList=dd k:=by simp[mk]
   rw[this];exact Ab k hk) w
  refine Calls.mono this fun e w' ⟨h1,t,h2⟩=>⟨h1,?_⟩
  subst h2
  refine⟨rfl,rfl,rfl,?_,fun b hb=>Lib.bytesWorld_at_old _ _ _ _ hb⟩
  simp[Lib.bytesWorld,World.freeze]
end Go.Proofs.Trees
namespace Go.Proofs.Trees
open Go Go.VL Go.RowKit
theorem eV{a b:Ty}(h:bL (.plus a b)=false):bL a=false/\bL b=false:=by simpa[bL]using h
theorem er{a b:Ty}(h:bL (.times a b)=false):bL a=false/\bL b=false:=by simpa[bL]using h
theorem eS{e:E}{ar:List (List UInt8)}{t:Ty}(ht:cf e ar=some t)(hb:t.G2=false)(hf:bL t=false) :
 (e=.atom [48]/\t=.zero)\/(e=.atom [49]/\t=.one)\/(∃s,e=.atom s/\t=.name s/\fC s=true/\s≠[48]/\s≠[49]) ∨
 (∃x a b t1 t2,e=.list [x,a,b]/\x.at=[43]/\t=.plus t1 t2/\cf a ar=some t1/\cf b ar=some t2) ∨
 (∃x a b t1 t2,e=.list [x,a,b]/\x.at=[42]/\t=.times t1 t2/\cf a ar=some t1/\cf b ar=some t2) ∨
 (∃x a b t1,e=.list [x,a,b]/\x.at=[114,101,99]/\t=.rc t1):=by
 cases e with
 |
  list l =>
  match l,ht with
  |
   [x,a,b],ht =>
   by_cases h0:x.at=[43]
   ·obtain⟨t1,t2,h1,h2,rfl⟩:=ep h0 ht
    exact .inr (.inr (.inr (.inl ⟨x,a,b,t1,t2,rfl,h0,rfl,h1,h2⟩)))
   ·by_cases h1:x.at=[42]
    ·obtain⟨t1,t2,h3,h2,rfl⟩:=dW h1 ht
     exact .inr (.inr (.inr (.inr (.inl ⟨x,a,b,t1,t2,rfl,h1,rfl,h3,h2⟩))))
    ·by_cases h2:x.at=[114,101,99]
     ·obtain⟨t1,_,_,rfl⟩:=cI h2 ht
      exact .inr (.inr (.inr (.inr (.inr ⟨x,a,b,t1,rfl,h2,rfl⟩))))
     ·rw[gC _ h0 h1 h2]at ht;cases ht
  |[],ht=>cases ht
  |[_],ht=>cases ht
  |[_,_],ht=>cases ht
  |_::_::_::_::_,ht=>cases ht
 |
  atom s =>
  simp only[cf]at ht
  split at ht
  ·rename_i h;cases ht;subst h;exact .inl ⟨rfl,rfl⟩
  ·rename_i h0
   split at ht
   ·rename_i h;cases ht;subst h;exact .inr (.inl ⟨rfl,rfl⟩)
   ·rename_i h1
    split at ht
    ·rename_i h;cases ht;exact .inr (.inr (.inl ⟨s,rfl,rfl,h,h0,h1⟩))
    ·split at ht
     ·rename_i h
      split at ht
      ·cases ht;cases hb
      ·cases ht;simp only[bL]at hf;rw[h]at hf;cases hf
     ·cases ht
def nQ(n:Nat)(v:Vl)(e:E)(env:List Fr)(t:Ty):Prop:=ay Tryz.prog 51 [.agg [t.av,mI env],v.dF,.v (.int .i64 (n:Int))] [] (bK (.v (.bool (en n v (e,env)))))
structure Ask(e:E)(env:List Fr)(t:Ty):Prop where
 ok:e.ok
 wf:WF env
 ty:cf e (names env)=some t
 cl:bL t=false
theorem FX(n:Nat)(hn:n<=100)(v:Vl)(hv:v.fe 100)(IH:∀w:Vl,w.nodes<v.nodes->w.fe 100->∀e env t,Ask e env t->env.length+w.nodes<100000->nQ n w e env t)
 (e:E) (env:List Fr) (t:Ty) (A:Ask e env t) (hl:env.length+v.nodes<100000) (hb:t.G2=false) (hh:findF e.at env=none):nQ n v e env t:=by
 have hhd:hd e env=(e,env):=jX hh
 unfold nQ
 refine E5 _ _ _ _ ((aT _).mpr trivial) ((du _).mpr trivial) ((aY _).mpr trivial) ?_
 rcases eS A.ty hb A.cl with⟨rfl,rfl⟩|⟨rfl,rfl⟩|⟨s,rfl,rfl,hp,h0,h1⟩|⟨x,a,b,t1,t2,rfl,hx,rfl,ha,hbb⟩|⟨x,a,b,t1,t2,rfl,hx,rfl,ha,hbb⟩|⟨x,a,b,t1,rfl,hx,rfl⟩
 ·have hp0:fC [48]=false:=rfl
  cases v<;>simp[wH,Ty.av,↓zq,zs,ah,bK,en,hhd,hp0]
 ·have hp0:fC [49]=false:=rfl
  cases v<;>simp[wH,Ty.av,Vl.dF,↓zq,zs,ah,bK,en,hhd,hp0]
 ·have h1':(s==[49])=false:=by simpa using h1
  cases v with
  |
   el k =>
   have hk:k<100:=hv
   simp only[wH,Ty.av,Vl.dF,↓zq,zs,ah,zt]
   refine⟨by omega,fun h=>by omega,fun _=>⟨fun _=>⟨by omega,fun h=>absurd rfl h,fun _=>⟨by omega,by omega,?_⟩⟩,fun h=>absurd rfl h⟩⟩
   have e1:(List.take ((dd k).length+1) (s8 k)).drop (bC 1)=dd k:=by simp[s8]
   rw[e1]
   refine al (Ik k hk) ?_
   simp only[↓zq,zs,ah,bK,en,hhd,h1',hp,zf]
   refine⟨rfl,?_⟩
   congr 2
   rw[cA];simp
  |
   _ =>
   simp only[wH,Ty.av,Vl.dF,↓zq,zs,ah,zt,en,hhd,h1',bK]
   exact⟨by omega,fun h=>by omega,fun _=>⟨fun _=>⟨by omega,fun _=>trivial,fun h=>by omega⟩,fun h=>absurd rfl h⟩⟩
 ·have hok:=A.ok
  obtain⟨ok1,ok2,ok3,_⟩:=hok
  obtain⟨f1,f2⟩:=eV A.cl
  cases v with
  |
   l w =>
   simp only[Vl.nodes]at hl
   simp only[wH,Ty.av,Vl.dF,↓zq,zs,ah]
   refine⟨by omega,fun h=>by omega,fun _=>⟨fun h=>by omega,fun _=>⟨fun h=>by omega,fun _=>⟨fun _=>⟨by omega,fun _=>?_,fun h=>absurd rfl h⟩,fun h=>absurd rfl h⟩⟩⟩⟩
   refine al (At _ _ _ _ _ _ ((aT _).mpr trivial) ((du _).mpr trivial)) ?_
   simp only[↓zq,zs,ah,bT,aT,du,aY]
   refine⟨by omega,?_⟩
   refine al (IH w (by simp only[Vl.nodes];omega) hv a env t1 ⟨ok2,A.wf,ha,f1⟩ (by omega)) ?_
   simp only[↓zq,zs,ah,bK,en,hhd,hx]
   refine⟨fun h=>?_,fun h=>⟨by omega,fun h=>by omega,fun _=>?_⟩⟩
   ·simp[h]
   ·simp[h]
  |
   r w =>
   simp only[Vl.nodes]at hl
   simp only[wH,Ty.av,Vl.dF,↓zq,zs,ah]
   refine⟨by omega,fun h=>by omega,fun _=>⟨fun h=>by omega,fun _=>⟨fun h=>by omega,fun _=>⟨fun _=>⟨by omega,fun h=>by omega,fun _=>⟨by omega,fun _=>?_,fun h=>absurd rfl h⟩⟩,fun h=>absurd rfl h⟩⟩⟩⟩
   refine al (Ah _ _ _ _ _ _ ((aT _).mpr trivial) ((du _).mpr trivial)) ?_
   simp only[↓zq,zs,ah,bT,aT,du,aY]
   refine⟨by omega,?_⟩
   refine al (IH w (by simp only[Vl.nodes];omega) hv b env t2 ⟨ok3,A.wf,hbb,f2⟩ (by omega)) ?_
   simp[↓zq,zs,ah,bK,en,hhd,hx]
  |
   _ =>
   simp only[wH,Ty.av,Vl.dF,↓zq,zs,ah,en,hhd,bK]
   exact⟨by omega,fun h=>by omega,fun _=>⟨fun h=>by omega,fun _=>⟨fun h=>by omega,fun _=>⟨fun _=>⟨by omega,fun h=>by omega,fun _=>⟨by omega,fun h=>by omega,fun _=>by simp[hx]⟩⟩,fun h=>absurd rfl h⟩⟩⟩⟩
 ·have hok:=A.ok
  obtain⟨ok1,ok2,ok3,_⟩:=hok
  obtain⟨f1,f2⟩:=er A.cl
  cases v with
  |
   p v w =>
   simp only[Vl.nodes]at hl
   simp only[wH,Ty.av,Vl.dF,↓zq,zs,ah]
   refine⟨by omega,fun h=>by omega,fun _=>⟨fun h=>by omega,fun _=>⟨fun h=>by omega,fun _=>⟨fun h=>by omega,fun _=>⟨fun _=>⟨by omega,fun _=>?_,fun h=>absurd rfl h⟩,fun h=>absurd rfl h⟩⟩⟩⟩⟩
   refine al (At _ _ _ _ _ _ ((aT _).mpr trivial) ((du _).mpr trivial)) ?_
   simp only[↓zq,zs,ah,bT,aT,du,aY]
   refine⟨by omega,?_⟩
   refine al (IH v (by simp only[Vl.nodes];omega) hv.1 a env t1 ⟨ok2,A.wf,ha,f1⟩ (by omega)) ?_
   simp only[↓zq,zs,ah,bK,en,hhd,hx]
   refine⟨fun h=>?_,fun h=>?_⟩
   ·refine al (Ah _ _ _ _ _ _ ((aT _).mpr trivial) ((du _).mpr trivial)) ?_
    simp only[↓zq,zs,ah,bT,aT,du,aY]
    refine⟨by omega,?_⟩
    refine al (IH w (by simp only[Vl.nodes];omega) hv.2 b env t2 ⟨ok3,A.wf,hbb,f2⟩ (by omega)) ?_
    simp[↓zq,zs,ah,h]
   ·simp[h]
  |
   _ =>
   simp only[wH,Ty.av,Vl.dF,↓zq,zs,ah,en,hhd,bK]
   exact⟨by omega,fun h=>by omega,fun _=>⟨fun h=>by omega,fun _=>⟨fun h=>by omega,fun _=>⟨fun h=>by omega,fun _=>⟨fun _=>⟨by omega,fun h=>by omega,fun _=>by simp[hx]⟩,fun h=>absurd rfl h⟩⟩⟩⟩⟩
 ·obtain⟨t1',he1,h1,f1,hw1⟩:=iD A.wf A.ok hx A.ty A.cl
  cases he1
  have hok:=A.ok
  obtain⟨ok1,ok2,ok3,_⟩:=hok
  have htD:uZ (.list [x,a,b]) env=.rc t1:=by rw[uZ,A.ty];rfl
  have hin:=HT t1 env a.at (.list [x,a,b]) htD
  simp only[Ty.av]at hin
  simp only[wH,Ty.av,↓zq,zs,ah]
  refine⟨by omega,fun h=>by omega,fun _=>⟨fun h=>by omega,fun _=>⟨fun h=>by omega,fun _=>⟨fun h=>by omega,fun _=>⟨fun h=>by omega,fun _=>⟨fun _=>?_,fun h=>absurd rfl h⟩⟩⟩⟩⟩⟩
  refine al hin ?_
  simp only[↓zq,zs,ah,bT,aT,du,xD,aY,dY]
  cases v with
  |
   f w =>
   simp only[Vl.nodes]at hl
   simp only[Vl.dF,↓zq,zs,ah,aY]
   refine⟨by omega,fun _=>⟨by omega,?_⟩,fun h=>absurd rfl h⟩
   refine al (IH w (by simp only[Vl.nodes];omega) hv b (.mk a.at (.list [x,a,b]) env::env) t1 ⟨ok3,hw1,h1,f1⟩ (by simp;omega)) ?_
   simp[↓zq,zs,ah,bK,en,hhd,hx]
  |
   _ =>
   simp only[Vl.dF,↓zq,zs,ah,en,hhd,bK]
   exact⟨by omega,fun h=>by omega,fun _=>by simp[hx]⟩
theorem FV(n:Nat)(hn:n<=100):∀(m:Nat) (v:Vl),v.nodes<m->v.fe 100->∀e env t,Ask e env t->env.length+v.nodes<100000->nQ n v e env t
 |0,v,h,_=>by omega
 |
  m+1,v,h,hv=>by
  intro e env t A hl
  have IH:∀w:Vl,w.nodes<v.nodes->w.fe 100->∀e env t,Ask e env t->env.length+w.nodes<100000->nQ n w e env t:=fun w hw hb=>FV n hn m w (by omega) hb
  rcases gK A.wf A.ty with⟨hb,hh⟩|⟨u,f,rfl,hh,hu⟩
  ·exact FX n hn v hv IH e env t A hl hb hh
  ·obtain⟨x,a,b,t',hfe,hok,hx,ht',hf',hwf,hlt⟩:=lY A.wf hh
   obtain⟨t1,hl1,h1,rfl⟩:=cI hx (hfe ▸ ht')
   have hvis:en n v (e,env)=en n v (f.ex,f.out):=qI n v (oy hh) (by rw[hfe];exact nJ hwf)
   unfold nQ
   refine E5 _ _ _ _ ((aT _).mpr trivial) ((du _).mpr trivial) ((aY _).mpr trivial) ?_
   have hbd:=Hu env u f hu (by omega)
   simp only[Ty.av]at hbd
   simp only[wH,Ty.av,↓zq,zs,ah]
   refine⟨by omega,fun h=>by omega,fun _=>⟨fun h=>by omega,fun _=>⟨fun _=>?_,fun h=>absurd rfl h⟩⟩⟩
   refine al hbd ?_
   cases f with
   |
    mk s ee oo =>
    simp only[Fr.ex,Fr.out]at hfe ht' hf' hwf hvis hlt
    have htD:uZ ee oo=.rc t1:=by rw[uZ,ht'];rfl
    simp only[Fr.dF,htD,↓zq,zs,ah,bT,aT,du]
    refine⟨by omega,?_⟩
    have hs:=FX n hn v hv IH ee oo (.rc t1) ⟨by rw[hfe];exact hok,hwf,ht',hf'⟩ (by omega) rfl (by rw[hfe];exact ji hwf)
    unfold nQ at hs
    refine al hs ?_
    simp[↓zq,zs,ah,bK,hvis]
end Go.Proofs.Trees
namespace Go.Proofs.Trees
open Go Go.VL Go.RowKit
theorem qu:∀(env:List Fr) (k:Nat) (f:Fr),env[k]?=some f->(iS env).getD (env.length-1-k) []=f.cells
 |[],k,f,h=>by cases h
 |
  g::r,0,f,h=>by
  cases h
  have:(g::r).length-1-0=(iS r).length:=by simp[jh]
  rw[this,iS];simp[aa]
 |
  g::r,k+1,f,h=>by
  have h':r[k]?=some f:=by simpa using h
  have hlt:=(bO.1 h').1
  have e:(g::r).length-1-(k+1)=r.length-1-k:=by simp;omega
  have:=qu r k f h'
  rw[e,iS,aa,List.getElem?_append_left (by rw[jh];omega),<-aa]
  exact this
theorem oN(f:Fr):f.cells=[.v (.string (mk f.nm)),.v (.string (mk f.ex.at)),f.ex.sp,.sl (iS f.out)]:=by cases f;rfl
theorem Fv(e:E)(env:List Fr)(hl:env.length<1000000):∀(j k:Nat),k+j=env.length->Be [.sl (iS env),.v (.int .i64 ((env.length:Int)-1-(k:Int)))] [.cells [.v (.string (mk e.at)),e.sp],.cells [.v (.string (mk [])),.v (.slice none 0 0)]]
 (qQ (match findF e.at (env.drop k)with|some f=>(2,[.sl (iS f.out)],[.cells [.v (.string (mk f.ex.at)),f.ex.sp]])|none=>(1,[.sl (iS env)],[.cells [.v (.string (mk e.at)),e.sp],.cells [.v (.string (mk [])),.v (.slice none 0 0)]])))
 |
  0,k,hk=>by
  refine FL _ _ _ _ _ _ ?_
  have hd:env.drop k=[]:=a8 (by omega)
  simp only[A5,↓zq,zs,ah,bE,hd,findF]
  exact⟨fun h=>by omega,fun _=>by first|trivial|rfl⟩
 |
  j+1,k,hk=>by
  refine FL _ _ _ _ _ _ ?_
  have hlt:k<env.length:=by omega
  have hg:env[k]?=some env[k]:=aO hlt
  have hc:=qu env k _ hg
  have e1:((env.length:Int)-1-(k:Int))=((env.length-1-k:Nat):Int):=by omega
  have hdr:env.drop k=env[k]::env.drop (k+1):=aN hlt
  rw[hdr,findF,e1]
  simp only[A5,Int.toNat_natCast,hc,oN,↓zq,zs,ah,zt,bE,jh,bT]
  refine⟨fun _=>⟨by omega,by omega,fun h=>⟨by omega,by omega,by omega,by omega,?_⟩,fun h=>?_⟩,fun h=>by omega⟩
  ·rw[if_pos h]
  ·rw[if_neg h]
   have e2:IntKind.wrap .i64 (((env.length-1-k:Nat):Int)-1)=(env.length:Int)-1-((k+1:Nat):Int):=by
    have:IntKind.wrap .i64 (((env.length-1-k:Nat):Int)-1)=((env.length-1-k:Nat):Int)-1:=wrap64 _ (by omega) (by omega)
    omega
   rw[e2]
   exact Fv e env hl j (k+1) (by omega)
theorem Hf(e:E)(env:List Fr)(hl:env.length<1000000):ay Tryz.prog 55 [e.ja,.sl (iS env)] [] (bK (.cQ [(hd e env).1.ja,.sl (iS (hd e env).2)])):=by
 rw[dD e]
 refine Hd _ _ _ ((bE _).mpr trivial) ((cG _).mpr trivial) ?_
 simp only[DF,↓zq,zs,ah,jh,bK]
 have h:=Fv e env hl env.length 0 (by omega)
 simp only[bw]at h
 rw[wrap64 _ (by omega) (by omega)]
 rw[show (env.length:Int)-1-((0:Nat):Int)=(env.length:Int)-1 by omega]at h
 refine iN h (fun ys o e'=>?_) (fun ys o e'=>?_)
 ·unfold hd
  cases hq:findF e.at env<;>rw[hq]at e'<;>cases e'
  simp only[↓zq,zs,ah,zt,bE,dD]
 ·unfold hd
  cases hq:findF e.at env<;>rw[hq]at e'<;>cases e'
  simp only[↓zq,zs,ah,zt,bE,dD]
theorem nR:∀env:List Fr,cN 4 (iS env)
 |[]=>fun c hc=>by cases hc
 |
  f::r=>fun c hc=>by
  simp only[iS,aC,aR]at hc
  rcases hc with hc|rfl
  ·exact nR r c hc
  ·rw[oN];rfl
theorem H6(x a b:E)(env:List Fr)(hl:env.length<1000000):ay Tryz.prog 58 [(E.list [x,a,b]).ja,.sl (iS env)] [] (bK (.cQ [b.ja,.sl (iS (.mk a.at (.list [x,a,b]) env::env))])):=by
 refine IK _ _ _ ((cG _).mpr trivial) ((cG _).mpr trivial) ?_
 simp only[ED,E.a7,toNat_one,bG,↓zq,zs,ah,zt,gq,fb,gu,kF,an,jh,bK,bc]
 refine⟨by omega,⟨nR env,by omega⟩,by omega,by omega,⟨fun c hc=>(by simp at hc;rw[hc];rfl),by omega⟩,?_⟩
 simp only[iS,oN,Fr.nm,Fr.ex,Fr.out,E.at,E.sp,E.a7]
theorem Am(s:ByteArray)(e:E):bT [.str,.sl] [.v (.string s),e.sp] 0=True:=by apply eq_true;simp[bT,dU,bE]
theorem Dj{e:E}{env:List Fr}{t:Ty}(A:Ask e env t):∃e' o t',hd e env=(e',o)/\Ask e' o t'/\t'.G2=false/\hd e' o=(e',o)/\o.length<=env.length:=by
 rcases gK A.wf A.ty with⟨hb,hh⟩|⟨u,f,rfl,hh,hu⟩
 ·exact⟨e,env,t,jX hh,A,hb,jX hh,an _⟩
 ·obtain⟨x,a,b,t',hfe,hok,hx,ht',hf',hwf,hlt⟩:=lY A.wf hh
  refine⟨f.ex,f.out,t',oy hh,⟨by rw[hfe];exact hok,hwf,ht',hf'⟩,?_,?_,by omega⟩
  ·obtain⟨t1,_,_,rfl⟩:=cI hx (hfe ▸ ht');rfl
  ·rw[hfe];exact nJ hwf
def vh:Vl->List UInt8
 | .l _=>[108]
 | .r _=>[114]
 | .f _=>[102]
 | .p _ _=>[112]
 |_=>[]
theorem xj(v:Vl):ay Tryz.prog 29 [v.bM.ja] [] (bK (.v (.string (mk (vh v))))):=by
 cases v with
 |u=>exact Bu _ _ ((bF).mpr trivial) (by simp)
 |el k=>exact Bu _ _ ((bF).mpr trivial) (by simp)
 |l v=>exact rL _ _
 |r v=>exact rL _ _
 |f v=>exact rL _ _
 |p v w=>exact rL _ _
theorem Jr(v:Vl)(hv:v.fe 100):v.bM.at=(match v with| .u=>[117]| .el k=>s8 k|_=>[])/\ym v.bM.at=(match v with| .el k=>(k:Int)|_=>-1):=by
 cases v with
 |el k=>exact⟨rfl,CW k hv⟩
 |u=>exact⟨rfl,rfl⟩
 |_=>exact⟨rfl,rfl⟩
theorem Dw(n:Nat)(hn:n<=100):∀(m:Nat) (v:Vl),v.nodes<m->v.fe 100->∀e env t,Ask e env t->env.length+v.nodes<100000->ay Tryz.prog 31 [e.ja,.sl (iS env),v.bM.ja,.v (.int .i64 (n:Int))] [] (bK (.v (.bool (en n v (e,env)))))
 |0,v,hm,hv,e,env,t,A,hl=>by omega
 |
  m+1,v,hm,hv,e,env,t,A,hl=>by
  obtain⟨e',o,t',hhd,A',hb,hh',hlen⟩:=Dj A
  rw[qI n v hhd hh',dD e,dD v.bM]
  refine IG _ _ _ _ _ _ ((bE _).mpr trivial) ((cG _).mpr trivial) ((bE _).mpr trivial) ?_
  have hf:=Hf e env (by omega)
  rw[dD e,hhd]at hf
  have hvh:=xj v
  rw[dD]at hvh
  unfold FP
  refine al hf ?_
  simp only[dD e',↓zq,zs,ah,zt,bE,Am,bK]
  rcases eS A'.ty hb A'.cl with⟨rfl,rfl⟩|⟨rfl,rfl⟩|⟨s,rfl,rfl,hp,h0,h1⟩|⟨x,a,b,t1,t2,rfl,hx,rfl,ha,hbb⟩|⟨x,a,b,t1,t2,rfl,hx,rfl,ha,hbb⟩|⟨x,a,b,t1,rfl,hx,rfl⟩
  ·refine⟨fun _=>⟨fun h=>by simp[E.at]at h,fun _=>al (BE _) ?_⟩,fun h=>by simp[E.at]at h⟩
   have hp0:fC (E.atom [48]).at=false:=rfl
   have hp1:fC [48]=false:=rfl
   cases v<;>simp[↓zq,zs,ah,hp0,en,hh',hp1]
  ·refine⟨fun _=>⟨fun _=>?_,fun h=>absurd rfl h⟩,fun h=>by simp[E.at]at h⟩
   have hp1:fC [49]=false:=rfl
   cases v<;>simp[en,hh',hp1,Vl.bM,E.at]
  ·have hne:s≠[]:=A'.ok
   have h1':(s==[49])=false:=by simpa using h1
   refine⟨fun _=>⟨fun h=>absurd h h1,fun _=>al (BE _) ?_⟩,fun h=>absurd h hne⟩
   have hat:(E.atom s).at=s:=rfl
   simp only[hat,hp,↓zq,zs,ah]
   refine⟨fun _=>al (Fm _) ?_,fun h=>by cases h⟩
   simp only[↓zq,zs,ah]
   rw[wrap64 _ (by omega) (by omega)]
   refine al (Ag _ _ _) ?_
   simp only[↓zq,zs,ah,AX,(Jr v hv).2]
   cases v with
   |
    el k =>
    simp only[en,hh',h1',hp,zf]
    congr 2
    rw[cA];simp;omega
   |_=>simp[en,hh',h1']
  ·have hok:=A'.ok
   obtain⟨ok1,ok2,ok3,_⟩:=hok
   obtain⟨f1,f2⟩:=eV A'.cl
   refine⟨fun h=>absurd rfl h,fun _=>al (rL x [a,b]) ?_⟩
   simp only[↓zq,zs,ah]
   refine al hvh ?_
   rw[hx]
   cases v with
   |
    l w =>
    simp only[Vl.nodes]at hl
    simp only[vh,Vl.bM,E.sp,E.a7,toNat_one,bG,↓zq,zs,ah,zt,gq,fb,gu,kF,an]
    refine⟨by simp,fun _=>⟨by omega,by omega,al (Dw n hn m w (by simp only[Vl.nodes]at hm;omega) hv a o t1 ⟨ok2,A'.wf,ha,f1⟩ (by omega)) ?_⟩,fun h=>absurd rfl h⟩
    simp[↓zq,zs,ah,en,hh',hx]
   |
    r w =>
    simp only[Vl.nodes]at hl
    simp only[vh,Vl.bM,E.sp,E.a7,toNat_one,bG,↓zq,zs,ah,zt,gq,fb,gu,kF,an]
    refine⟨by simp,fun h=>by simp at h,fun _=>⟨fun _=>⟨by omega,by omega,al (Dw n hn m w (by simp only[Vl.nodes]at hm;omega) hv b o t2 ⟨ok3,A'.wf,hbb,f2⟩ (by omega)) ?_⟩,fun h=>absurd rfl h⟩⟩
    simp[↓zq,zs,ah,en,hh',hx]
   |_=>simp[vh,↓zq,zs,ah,zt,en,hh',hx]
  ·have hok:=A'.ok
   obtain⟨ok1,ok2,ok3,_⟩:=hok
   obtain⟨f1,f2⟩:=er A'.cl
   refine⟨fun h=>absurd rfl h,fun _=>al (rL x [a,b]) ?_⟩
   simp only[↓zq,zs,ah]
   refine al hvh ?_
   rw[hx]
   cases v with
   |
    p w z =>
    simp only[Vl.nodes]at hl
    simp only[vh,Vl.bM,E.sp,E.a7,toNat_one,bG,↓zq,zs,ah,zt,gq,fb,gu,kF,an]
    refine⟨by simp,fun h=>by simp at h,fun _=>⟨fun h=>by simp at h,fun _=>⟨fun _=>⟨by omega,by omega,al (Dw n hn m w (by simp only[Vl.nodes]at hm;omega) hv.1 a o t1 ⟨ok2,A'.wf,ha,f1⟩ (by omega)) ?_⟩,fun h=>absurd rfl h⟩⟩⟩
    simp only[↓zq,zs,ah,en,hh',hx]
    refine⟨fun h=>⟨by omega,by omega,al (Dw n hn m z (by simp only[Vl.nodes]at hm;omega) hv.2 b o t2 ⟨ok3,A'.wf,hbb,f2⟩ (by omega)) ?_⟩,fun h=>?_⟩
    ·simp[↓zq,zs,ah,h]
    ·simp[h]
   |_=>simp[vh,↓zq,zs,ah,zt,en,hh',hx]
  ·obtain⟨t1',he1,h1,f1,hw1⟩:=iD A'.wf A'.ok hx A'.ty A'.cl
   cases he1
   have hok:=A'.ok
   obtain⟨ok1,ok2,ok3,_⟩:=hok
   refine⟨fun h=>absurd rfl h,fun _=>al (rL x [a,b]) ?_⟩
   simp only[↓zq,zs,ah]
   refine al hvh ?_
   rw[hx]
   cases v with
   |
    f w =>
    simp only[Vl.nodes]at hl
    simp only[vh,Vl.bM,E.sp,E.a7,toNat_one,bG,↓zq,zs,ah,zt,gq,fb,gu,kF,an]
    refine⟨by simp,fun h=>by simp at h,fun _=>⟨fun h=>by simp at h,fun _=>⟨fun h=>by simp at h,fun _=>⟨fun _=>al (H6 x a b o (by omega)) ?_,fun h=>absurd rfl h⟩⟩⟩⟩
    simp only[↓zq,zs,ah,vo,Aj]
    refine⟨by omega,al (Dw n hn m w (by simp only[Vl.nodes]at hm;omega) hv b (.mk a.at (.list [x,a,b]) o::o) t1 ⟨ok3,hw1,h1,f1⟩ (by simp;omega)) ?_⟩
    simp[↓zq,zs,ah,en,hh',hx]
   |_=>simp[vh,↓zq,zs,ah,zt,en,hh',hx]
theorem H9(n:Nat)(hn:n<=100)(v:Vl)(hv:v.fe 100)(e:E)(env:List Fr)(t:Ty)(A:Ask e env t)(hl:env.length+v.nodes<100000):ay Tryz.prog 31 [e.ja,.sl (iS env),v.bM.ja,.v (.int .i64 (n:Int))] [] (bK (.v (.bool (en n v (e,env))))):=Dw n hn (v.nodes+1) v (by omega) hv e env t A hl
end Go.Proofs.Trees
namespace Go.Proofs.Trees
open Go Go.VL Go.RowKit
theorem EI(l:List (List UInt8))(a:AV)(ha:fJ a l)(s:List UInt8)(hl:l.length<1000000):∀(k i:Nat),i+k=l.length->BP [a,.v (.string (mk s)),.v (.int .i64 (i:Int))] []
 (qQ (if s∈l.drop i then(2,[.v (.bool true)],[])else(1,[],[])))
 |
  0,i,hi=>by
  refine FQ _ _ _ ?_
  have hd:l.drop i=[]:=a8 (by omega)
  simp only[BV,↓zq,zs,ah,hd,ha.len]
  exact⟨ha.1,ha.1,fun h=>by omega,fun _=>by simp[qQ]⟩
 |
  k+1,i,hi=>by
  have hlt:i<l.length:=by omega
  have hdr:l.drop i=l.getD i []::l.drop (i+1):=by
   rw[aN hlt];simp[aa,hlt]
  refine FQ _ _ _ ?_
  simp only[BV,↓zq,zs,ah,zt,ha.len,ha.idx hlt]
  refine⟨ha.1,ha.1,fun _=>⟨⟨ha.1,by omega,by omega⟩,by omega,fun h=>?_,fun h=>?_⟩,fun h=>by omega⟩
  ·rw[hdr,h];simp[qQ]
  ·rw[bW i (by omega)]
   have:=EI l a ha s hl k (i+1) (by omega)
   have e:s∈l.drop i↔s∈l.drop (i+1):=by
    rw[hdr,aB];exact⟨fun q=>q.resolve_left (fun q=>h q.symm),.inr⟩
   simp only[e];exact this
theorem Fc(l:List (List UInt8))(a:AV)(ha:fJ a l)(s:List UInt8)(hl:l.length<1000000):ay Tryz.prog 74 [a,.v (.string (mk s))] [] (bK (.v (.bool (decide (s∈l))))):=by
 refine Hj _ _ ha.1 ?_
 unfold GU
 refine iN (EI l a ha s hl l.length 0 (by omega)) (fun ys o e=>?_) (fun ys o e=>?_)
 ·simp only[bw]at e
  split at e<;>cases e
  rename_i h
  simp[↓zq,zs,ah,bK,h]
 ·simp only[bw]at e
  split at e<;>cases e
  rename_i h
  simp[↓zq,zs,ah,bK,h]
theorem Iq(l:List (List UInt8))(a:AV)(ha:fJ a l)(s:List UInt8)(hl:l.length<1000000):ay Tryz.prog 75 [a,.v (.string (mk s))] [] (ic (.vec 0) [.vec 1 (cV (l++[s]))]):=by
 refine Hq _ _ ha.1 ?_
 simp only[EX,↓zq,zs,ah,ha.2,ic,bc]
 have:(cV l).length=l.length:=by simp[cV]
 refine⟨⟨ha.1,nP l,by omega⟩,⟨fun c hc=>(by simp at hc;rw[hc];rfl),by omega⟩,?_⟩
 first|exact⟨rfl,by rw[D9]⟩|rw[D9]
def pI:E->List (List UInt8)->List (List UInt8)->List (List UInt8)
 | .atom s,bd,l=>if s=[48]\/s=[49]\/s∈bd\/s∈l then l else l++[s]
 | .list [x,a,b],bd,l=>if x.at=[114,101,99]then pI b (bd++[a.at]) l else pI b bd (pI a bd l)
 | .list _,_,l=>l
theorem mZ:∀(e:E) (bd l:List (List UInt8)),(pI e bd l).length<=l.length+e.sz
 | .atom s,bd,l=>by rw[pI];split<;>simp[E.sz]
 | .list [],bd,l=>by simp[pI]
 | .list [_],bd,l=>by simp[pI]
 | .list [_,_],bd,l=>by simp[pI]
 | .list (_::_::_::_::_),bd,l=>by simp[pI]
 |
  .list [x,a,b],bd,l=>by
  rw[pI]
  simp only[E.sz,E.jF]
  split
  ·have:=mZ b (bd++[a.at]) l;omega
  ·have:=mZ a bd l
   have:=mZ b bd (pI a bd l)
   omega
theorem zR:∀(e:E) (bd l:List (List UInt8)) (a:AV),e.ok->iO e=true->fJ a bd->bd.length+l.length+e.sz<100000->ay Tryz.prog 53 [e.ja,a,.vec 0] [.vec 1 (cV l)] (ic (.vec 1) [.dead,.vec 1 (cV (pI e bd l))])
 |
  .atom s,bd,l,a,hok,hty,ha,hl=>by
  simp only[E.sz]at hl
  refine I5 _ _ _ _ ((bF).mpr trivial) ha.1 ?_
  have hne:s≠[]:=hok
  have hll:(cV l).length=l.length:=by simp[cV]
  simp only[HN,↓zq,zs,ah,zt,ic,pI]
  refine⟨fun _=>⟨fun h=>?_,fun h=>⟨fun h1=>?_,fun h1=>?_⟩⟩,fun h=>absurd h hne⟩
  ·rw[if_pos (.inl h)]
  ·rw[if_pos (.inr (.inl h1))]
  ·refine al (Fc bd a ha s (by omega)) ?_
   simp only[↓zq,zs,ah]
   refine⟨fun h2=>?_,fun h2=>al (Fc l _ (.of l) s (by omega)) ?_⟩
   ·rw[if_pos (.inr (.inr (.inl h2)))]
   ·simp only[↓zq,zs,ah]
    refine⟨fun h3=>?_,fun h3=>⟨⟨fun c hc=>(by simp at hc;rw[hc];rfl),by omega⟩,?_⟩⟩
    ·rw[if_pos (.inr (.inr (.inr h3)))]
    ·rw[D9,if_neg]
     rintro(q|q|q|q)
     ·exact h q
     ·exact h1 q
     ·exact h2 q
     ·exact h3 q
 | .list [],_,_,_,_,h,_,_=>by cases h
 | .list [_],_,_,_,_,h,_,_=>by cases h
 | .list [_,_],_,_,_,_,h,_,_=>by cases h
 | .list (_::_::_::_::_),_,_,_,_,h,_,_=>by cases h
 |
  .list [x,y,z],bd,l,a,hok,hty,ha,hl=>by
  simp only[E.sz,E.jF]at hl
  obtain⟨ok1,ok2,ok3,_⟩:=hok
  refine I5 _ _ _ _ ((cG _).mpr trivial) ha.1 ?_
  simp only[HN,E.a7,toNat_one,bG,↓zq,zs,ah,zt,gq,fb,gu,kF,an,ic]
  refine⟨fun h=>absurd rfl h,fun _=>al (rL x [y,z]) ?_⟩
  simp only[↓zq,zs,ah,zt]
  have hyl:=mZ y bd l
  rw[iO]at hty
  refine⟨fun h=>⟨by omega,by omega,by omega,cr (Iq bd a ha y.at (by omega)) ?_⟩,fun h=>⟨by omega,by omega,?_⟩⟩
  ·have hz:iO z=true:=by
    rw[if_neg (by rw[h];decide),if_neg (by rw[h];decide),if_pos h]at hty
    simp only[ai]at hty;exact hty.2
   simp only[↓zq,zs,ah,Ob.es,ba]
   refine⟨tu _,?_⟩
   refine cr (zR z (bd++[y.at]) l _ ok3 hz (.of _) (by simp;omega)) ?_
   simp only[↓zq,zs,ah]
   rw[pI,if_pos h]
  ·have hyz:iO y=true/\iO z=true:=by
    split at hty
    ·simpa using hty
    ·split at hty
     ·simpa using hty
     ·cases hty
   refine cr (zR y bd l a ok2 hyz.1 ha (by omega)) ?_
   simp only[↓zq,zs,ah]
   refine cr (zR z bd (pI y bd l) a ok3 hyz.2 ha (by omega)) ?_
   simp only[↓zq,zs,ah]
   rw[pI,if_neg h]
theorem iW{s:List UInt8}(h:fC s=true):cC s=false:=by
 cases hq:cC s with
 |false=>rfl
 |
  true =>
  obtain⟨c,r,rfl,h1,h2⟩:=jG h
  obtain⟨c',r',he,h3,h4⟩:=jG hq
  cases he;omega
theorem kZ(s:List UInt8)(ar:List (List UInt8)):∀i,i<=ar.length->(bR s ar i=none↔s∉ar.take i)
 |0,_=>by simp[bR]
 |
  i+1,hi=>by
  have hlt:i<ar.length:=by omega
  have e:ar.getD i []=ar[i]:=by simp[aa,hlt]
  have e2:s∈ar.take (i+1)↔s∈ar.take i\/s=ar[i]:=by
   rw[show ar.take (i+1)=ar.take i++[ar[i]] from (List.take_append_getElem hlt).symm]
   simp only[aC,aR]
  rw[bR,e,e2]
  by_cases h:ar[i]=s
  ·rw[if_pos h]
   exact⟨fun h=>(by cases h),fun h'=>absurd (.inr h.symm) h'⟩
  ·rw[if_neg h,kZ s ar i (by omega)]
   exact⟨fun h1 h2=>h2.elim h1 (fun h3=>h h3.symm),fun h1 h2=>h1 (.inl h2)⟩
theorem jQ:∀(e:E) (ar l:List (List UInt8)) (t:Ty),cf e ar=some t->(∀w,w∈ar->cC w=true)->(pI e ar l).any cC=(l.any cC||bL t)
 |
  .atom s,ar,l,t,h,har=>by
  simp only[cf]at h
  rw[pI]
  split at h
  ·rename_i h0;cases h;rw[if_pos (.inl h0)];simp[bL]
  ·rename_i h0
   split at h
   ·rename_i h1;cases h;rw[if_pos (.inr (.inl h1))];simp[bL]
   ·rename_i h1
    split at h
    ·rename_i h2
     cases h
     have hn:=iW h2
     simp only[bL,hn]
     split
     ·simp
     ·simp[hn]
    ·split at h
     ·rename_i h2 h3
      have hlo:=kZ s ar ar.length (an _)
      rw[List.take_length]at hlo
      cases hq:bR s ar ar.length with
      |
       some u =>
       rw[hq]at h;cases h
       have hm:s∈ar:=Classical.byContradiction fun hm=>by rw[hlo.2 hm]at hq;cases hq
       rw[if_pos (.inr (.inr (.inl hm)))];simp[bL]
      |
       none =>
       rw[hq]at h;cases h
       have hm:=hlo.1 hq
       simp only[bL,h3,Bool.or_true]
       split
       ·rename_i hh
        rcases hh with q|q|q|q
        ·exact absurd q h0
        ·exact absurd q h1
        ·exact absurd q hm
        ·rw[bB];exact⟨s,q,h3⟩
       ·simp[h3]
     ·cases h
 | .list [],_,_,_,h,_=>by cases h
 | .list [_],_,_,_,h,_=>by cases h
 | .list [_,_],_,_,_,h,_=>by cases h
 | .list (_::_::_::_::_),_,_,_,h,_=>by cases h
 |
  .list [x,a,b],ar,l,t,h,har=>by
  rw[pI]
  by_cases h0:x.at=[43]
  ·obtain⟨t1,t2,e1,e2,rfl⟩:=ep h0 h
   rw[if_neg (by rw[h0];decide),jQ b ar _ t2 e2 har,jQ a ar l t1 e1 har,bL,Bool.or_assoc]
  ·by_cases h1:x.at=[42]
   ·obtain⟨t1,t2,e1,e2,rfl⟩:=dW h1 h
    rw[if_neg (by rw[h1];decide),jQ b ar _ t2 e2 har,jQ a ar l t1 e1 har,bL,Bool.or_assoc]
   ·by_cases h2:x.at=[114,101,99]
    ·obtain⟨t1,hl,e1,rfl⟩:=cI h2 h
     rw[if_pos h2,jQ b _ l t1 e1 (fun w hw=>by
      simp only[aC,aR]at hw
      rcases hw with hw|rfl
      ·exact har w hw
      ·exact hl),bL]
    ·rw[gC _ h0 h1 h2]at h;cases h
def iU(s:List UInt8):Option E:=match ve s with
 |none=>none
 |some e=>if(pI e [] []).any cC=true then none else some e
theorem yo{s:List UInt8}:vI s=match iU s with|none=>none|some e=>cf e []:=by
 unfold vI iU
 rw[tR]
 cases he:ve s with
 |none=>rfl
 |
  some e =>
  obtain⟨h1,h2,h3⟩:=oM he
  have hs:=il e []
  rw[h2]at hs
  obtain⟨t,ht⟩:=aZ.1 hs
  have ha:=jQ e [] [] t ht (fun w hw=>by cases hw)
  simp only[ht,wC,ha,List.any_nil,Bool.false_or]
  cases hf:bL t<;>simp[ht]
theorem ig{s:List UInt8}{e:E}(h:iU s=some e):∃t,vI s=some t/\Ask e [] t/\iO e=true/\e.sz<=8000/\t.atoms<=400/\ov s=some e:=by
 have h0:=h
 unfold iU at h
 split at h
 ·cases h
 ·rename_i e' he
  split at h
  ·cases h
  ·rename_i hn
   cases h
   obtain⟨h1,h2,h3⟩:=oM he
   obtain⟨hok,hsz⟩:=lD h1
   have hs:=il e []
   rw[h2]at hs
   obtain⟨t,ht⟩:=aZ.1 hs
   have ha:=jQ e [] [] t ht (fun w hw=>by cases hw)
   rw[ha]at hn
   refine⟨t,by rw[yo,h0];exact ht,⟨hok,.nil,ht,by simpa using hn⟩,h2,hsz,?_,h1⟩
   rw[<-iF e [] t ht];exact h3
theorem nt{s:List UInt8}(h:iU s=none):vI s=none:=by rw[yo,h]
theorem DT(e:E)(l:List (List UInt8))(hl:l.length<1000000):∀(k i:Nat),i+k=l.length->Cs [.v (.int .i64 (i:Int))] [.cells [.v (.string (mk [])),.v (.slice none 0 0)],.cells [.v (.string (mk e.at)),e.sp],.vec 1 (cV l)]
 (qQ (if(l.drop i).any cC=true then(2,[.v (.bool false)],[.cells [.v (.string (mk e.at)),e.sp]])else(1,[],[.cells [.v (.string (mk [])),.v (.slice none 0 0)],.cells [.v (.string (mk e.at)),e.sp]])))
 |
  0,i,hi=>by
  refine Fy _ _ _ _ _ _ ?_
  have hd:l.drop i=[]:=a8 (by omega)
  have hll:(cV l).length=l.length:=by simp[cV]
  simp only[CA,↓zq,zs,ah,hd,hll,bE]
  exact⟨fun h=>by omega,fun _=>by simp[qQ]⟩
 |
  k+1,i,hi=>by
  have hlt:i<l.length:=by omega
  have hll:(cV l).length=l.length:=by simp[cV]
  have hdr:l.drop i=l.getD i []::l.drop (i+1):=by
   rw[aN hlt];simp[aa,hlt]
  have hg:=(fJ.of l).idx hlt
  simp only[fR]at hg
  refine Fy _ _ _ _ _ _ ?_
  simp only[CA,↓zq,zs,ah,zt,hll,hg,bE]
  refine⟨fun _=>⟨by omega,by omega,al (BY _) ?_⟩,fun h=>by omega⟩
  simp only[↓zq,zs,ah,hdr,List.any_cons]
  refine⟨fun h=>?_,fun h=>?_⟩
  ·rw[h];simp[qQ]
  ·rw[h,bW i (by omega)]
   simp only[Bool.false_or]
   exact DT e l hl k (i+1) (by omega)
theorem DZ(s:List UInt8):ay Tryz.prog 28 [.v (.string (mk s))] [] (kG (iU s) (iU s).isSome):=by
 refine H2 _ ?_
 unfold EC
 refine dN (IL s) (kG.ne _ _ (fun h=>h)) ?_
 rintro r o ⟨c,d,hd,rfl,hh⟩
 have hhas:bT [.str,.sl] [.v (.string (mk c)),d] 0:=by simp[bT,dU,hd]
 simp only[↓zq,zs,ah,zt]
 refine⟨hhas,fun h=>?_,fun h=>?_⟩
 ·have hn:ve s=none:=by cases hq:ve s<;>simp[hq]at h |-
  unfold iU
  rw[hn]
  exact⟨c,d,hd,rfl,fun h=>by cases h⟩
 ·obtain⟨e,he,hce⟩:=hh h
  obtain⟨h1,h2,h3⟩:=oM he
  obtain⟨hok,hsz⟩:=lD h1
  have hce':=hce
  rw[dD]at hce'
  simp only[AV.agg.injEq,List.cons.injEq,AV.v.injEq,Value.string.injEq,and_true]at hce'
  obtain⟨hc1,rfl⟩:=hce'
  have hc2:=mk_inj hc1
  subst hc2
  rw[<-dD]
  refine cr (zR e [] [] _ hok h2 (.of []) (by simp;omega)) ?_
  have hfl:=mZ e [] []
  simp only[↓zq,zs,ah]
  have hLS:=DT e (pI e [] []) (by simp at hfl;omega) (pI e [] []).length 0 (by omega)
  simp only[bw]at hLS
  unfold iU
  rw[he]
  refine iN hLS (fun ys o e'=>?_) (fun ys o e'=>?_)
  ·split at e'<;>cases e'
   rename_i hn
   simp only[↓zq,zs,ah,bE,if_neg hn]
   exact⟨e.at,e.sp,hd,rfl,fun _=>⟨e,rfl,(dD e).symm⟩⟩
  ·split at e'<;>cases e'
   rename_i hn
   simp only[↓zq,zs,ah,bE,if_pos hn]
   exact⟨e.at,e.sp,hd,rfl,fun h=>by cases h⟩
def tM(s v:List UInt8)(n:Int):Option Vl:=match iU s,pQ v with
 |some e,some w=>if(0<=n/\n<=100)/\en n.toNat w (e,[])=true then some w else none
 |_,_=>none
theorem xt{s v:List UInt8}{n:Int}{w:Vl}(h:tM s v n=some w):∃e t m,iU s=some e/\pQ v=some w/\vI s=some t/\Ask e [] t/\n=(m:Nat)/\m<=100/\en m w (e,[])=true:=by
 unfold tM at h
 split at h
 ·rename_i e w' he hw
  split at h
  ·rename_i hh
   cases h
   obtain⟨t,h1,h2,_⟩:=ig he
   exact⟨e,t,n.toNat,he,hw,h1,h2,by omega,by omega,hh.2⟩
  ·cases h
 ·cases h
theorem HC(s v:List UInt8)(n:Int):ay Tryz.prog 27 [.v (.string (mk s)),.v (.string (mk v)),.v (.int .i64 n)] [] (bK (.cQ [gN (vI s),gR (tM s v n)])):=by
 refine Hw _ _ _ ?_
 unfold GW
 refine al (Gj s) ?_
 simp only[↓zq,zs,ah,jx]
 refine al (HW v) ?_
 simp only[↓zq,zs,ah,eG,bK]
 unfold tM
 cases he:iU s with
 |none=>rw[nt he];cases pQ v<;>simp[gN,gR,↓zq,zs,ah]
 |
  some e =>
  obtain⟨t,h1,h2,h3,h4,h5,_⟩:=ig he
  rw[h1]
  cases hv:pQ v with
  |none=>simp only[gN,gR,aT,eZ,↓zq,zs,ah];exact⟨fun h=>(by cases h),fun _=>⟨fun _=>trivial,fun h=>(by cases h)⟩⟩
  |
   some w =>
   obtain⟨h6,h7,h8⟩:=nI hv
   simp only[gN,gR,aT,eZ,aY,dY,↓zq,zs,ah]
   refine⟨fun h=>(by cases h),fun _=>⟨fun h=>(by cases h),fun _=>⟨fun h=>?_,fun h=>⟨fun h'=>?_,fun h'=>?_⟩⟩⟩⟩
   ·rw[if_neg (by omega)]
   ·rw[if_neg (by omega)]
   ·obtain⟨m,rfl⟩:∃m:Nat,n=(m:Int):=⟨n.toNat,by omega⟩
    have hi:=FV m (by omega) (w.nodes+1) w (by omega) h7 e [] t h2 (by simp;omega)
    unfold nQ at hi
    refine al hi ?_
    simp only[↓zq,zs,ah,Int.toNat_natCast]
    refine⟨fun hq=>?_,fun hq=>?_⟩
    ·rw[if_neg (by rw[hq];simp)]
    ·rw[if_pos ⟨by omega,hq⟩]
theorem BU(s v:List UInt8)(n:Int):ay Tryz.prog 10 [.v (.string (mk s)),.v (.string (mk v)),.v (.int .i64 n)] [] (bK (.v (.bool (tM s v n).isSome))):=by
 refine IW _ _ _ ?_
 unfold FD
 refine dN (DZ s) (kG.ne _ _ (fun h=>h)) ?_
 rintro r o ⟨c,d,hd,rfl,hh⟩
 have hhas:bT [.str,.sl] [.v (.string (mk c)),d] 0:=by simp[bT,dU,hd]
 simp only[↓zq,zs,ah,zt]
 refine⟨hhas,?_⟩
 refine dN (Cb v) (kG.ne _ _ (fun h=>by cases hq:pQ v<;>simp[hq]at h |-)) ?_
 rintro r o ⟨c',d',hd',rfl,hh'⟩
 have hhas':bT [.str,.sl] [.v (.string (mk c')),d'] 0:=by simp[bT,dU,hd']
 simp only[↓zq,zs,ah,zt,bK]
 refine⟨hhas',fun h=>⟨fun h2=>?_,fun h2=>?_⟩,fun h=>?_⟩
 ·obtain⟨e,he,hce⟩:=hh h
  obtain⟨t,h1,hA,h3,h4,h5,_⟩:=ig he
  obtain⟨w,hw⟩:=aZ.1 h2
  obtain⟨e2,he2,hce2⟩:=hh' h2
  rw[hw]at he2
  cases he2
  obtain⟨h6,h7,h8⟩:=nI hw
  refine al (Ag _ _ _) ?_
  simp only[↓zq,zs,ah,AX,tM,he,hw]
  refine⟨fun hq=>?_,fun hq=>?_⟩
  ·have hq':0<=n/\n<=100:=by simpa using hq
   obtain⟨m,rfl⟩:∃m:Nat,n=(m:Int):=⟨n.toNat,by omega⟩
   rw[hce,hce2]
   have:=H9 m (by omega) w h7 e [] t hA (by simp;omega)
   rw[show iS []=[] from rfl]at this
   refine al this ?_
   simp only[↓zq,zs,ah,Int.toNat_natCast]
   by_cases hb:en m w (e,[])=true
   ·rw[if_pos ⟨hq',hb⟩,hb];rfl
   ·rw[if_neg (fun h=>hb h.2)]
    rw[Bool.not_eq_true]at hb
    rw[hb];rfl
  ·have hq':¬(0<=n/\n<=100):=by simpa using hq
   rw[if_neg (fun h=>hq' h.1)];rfl
 ·have hn:pQ v=none:=by cases hq:pQ v<;>simp[hq]at h2 |-
  unfold tM
  rw[hn];cases iU s<;>rfl
 ·have hn:iU s=none:=by cases hq:iU s<;>simp[hq]at h |-
  unfold tM
  rw[hn];rfl
end Go.Proofs.Trees
namespace Go.Proofs.Trees
open Go Go.VL Go.RowKit
def gW(ar:List (List UInt8))(k:Nat):List UInt8:=ar.getD (ar.length-1-k) []
theorem eQ{s:List UInt8}{ar:List (List UInt8)}:∀(i u:Nat),i<=ar.length->bR s ar i=some u->u<ar.length/\gW ar u=s
 |0,u,_,h=>by cases h
 |
  i+1,u,hi,h=>by
  rw[bR]at h
  split at h
  ·rename_i e
   cases h
   refine⟨by omega,?_⟩
   rw[gW,show ar.length-1-(ar.length-1-i)=i by omega];exact e
  ·exact eQ i u (by omega) h
def rF:Ty->Tg->Bool
 | .plus a b,tg=>rF a tg||rF b tg
 | .times a b,tg=>rF a tg||rF b tg
 | .rc a,tg=>rF a tg.up
 |t,tg=>ec t tg
theorem gx:∀(n:Nat) (v:Vl),v.nodes<=n->∀(t:Ty) (tg:Tg),rF t tg=false->bm t tg v=[]
 |0,v,h=>by have:=aX v;omega
 |
  n+1,v,hn=>by
  intro t tg ho
  cases hm:stuck t v with
  |
   true =>
   refine cP ?_ hm
   cases t<;>first|exact ho|rfl
  |
   false =>
   unfold stuck at hm
   split at hm
   ·simp only[Vl.nodes]at hn
    simp only[rF,Bool.or_eq_false_iff]at ho
    rw[fO,gx n _ (by omega) _ _ ho.1];rfl
   ·simp only[Vl.nodes]at hn
    simp only[rF,Bool.or_eq_false_iff]at ho
    rw[fT,gx n _ (by omega) _ _ ho.2];rfl
   ·simp only[Vl.nodes]at hn
    simp only[rF,Bool.or_eq_false_iff]at ho
    rw[eD,gx n _ (by omega) _ _ ho.1,gx n _ (by omega) _ _ ho.2];rfl
   ·rename_i a w
    simp only[Vl.nodes]at hn
    have ho':rF a tg.up=false:=ho
    rw[eB,gx n _ (by omega) _ _ ho']
    have:(bm a (.bd 0) w).flatMap (fun h=>eX (fun c=>.f (.r (.p h.1 c))) (bm (.rc a) tg h.2))=(bm a (.bd 0) w).flatMap (fun _=>[]):=j4 fun h hh=>by
     have:=(gI hh).1
     rw[gx n h.2 (by omega) (.rc a) tg ho];rfl
    rw[this]
    induction bm a (.bd 0) w<;>simp_all[eX]
   ·cases hm
theorem jy:∀(e:E) (ar:List (List UInt8)) (t:Ty) (k:Nat),cf e ar=some t->rF t (.bd k)=true->k<ar.length/\bR (gW ar k) ar ar.length=some k
 |
  .atom s,ar,t,k,ht,ho=>by
  simp only[cf]at ht
  split at ht
  ·cases ht;cases ho
  ·split at ht
   ·cases ht;cases ho
   ·split at ht
    ·cases ht;cases ho
    ·split at ht
     ·split at ht
      ·rename_i u hu
       cases ht
       have:u=k:=by simpa[rF,ec]using ho
       subst this
       obtain⟨h1,h2⟩:=eQ _ _ (an _) hu
       exact⟨h1,by rw[h2];exact hu⟩
      ·cases ht;cases ho
     ·cases ht
 |
  .list [x,a,b],ar,t,k,ht,ho=>by
  by_cases h0:x.at=[43]
  ·obtain⟨t1,t2,h1,h2,rfl⟩:=ep h0 ht
   simp only[rF,br]at ho
   rcases ho with ho|ho
   ·exact jy a ar t1 k h1 ho
   ·exact jy b ar t2 k h2 ho
  ·by_cases h1:x.at=[42]
   ·obtain⟨t1,t2,h1,h2,rfl⟩:=dW h1 ht
    simp only[rF,br]at ho
    rcases ho with ho|ho
    ·exact jy a ar t1 k h1 ho
    ·exact jy b ar t2 k h2 ho
   ·by_cases h2:x.at=[114,101,99]
    ·obtain⟨t1,_,h3,rfl⟩:=cI h2 ht
     obtain⟨q1,q2⟩:=jy b (ar++[a.at]) t1 (k+1) h3 ho
     simp only[aq,aw,aM]at q1
     have hk:k<ar.length:=by omega
     have e:gW (ar++[a.at]) (k+1)=gW ar k:=by
      unfold gW
      rw[aq,show ar.length+[a.at].length-1-(k+1)=ar.length-1-k by simp;omega]
      simp[aa,List.getElem?_append_left (show ar.length-1-k<ar.length by omega)]
     rw[e]at q2
     refine⟨hk,?_⟩
     have e2:(ar++[a.at]).length=ar.length+1:=by simp
     rw[e2,bR]at q2
     split at q2
     ·rw[e2]at q2;simp at q2
     ·rw[iY _ _ _ _ (an _)]at q2
      cases hq:bR (gW ar k) ar ar.length with
      |none=>rw[hq]at q2;cases q2
      |some u=>rw[hq]at q2;simpa using q2
    ·rw[gC _ h0 h1 h2]at ht;cases ht
 | .list [],ar,t,k,ht,ho=>by cases ht
 | .list [_],ar,t,k,ht,ho=>by cases ht
 | .list [_,_],ar,t,k,ht,ho=>by cases ht
 | .list (_::_::_::_::_),ar,t,k,ht,ho=>by cases ht
theorem i6(w:List UInt8)(ar:List (List UInt8)):bR w (ar++[w]) (ar++[w]).length=some 0:=by
 have e2:(ar++[w]).length=ar.length+1:=by simp
 rw[e2,bR,if_pos (by simp[aa]),e2];simp
theorem mW{s w:List UInt8}(ar:List (List UInt8))(h:w≠s):bR s (ar++[w]) (ar++[w]).length=(bR s ar ar.length).map (·+1):=by
 have e2:(ar++[w]).length=ar.length+1:=by simp
 rw[e2,bR,if_neg (by simpa[aa]using h),iY _ _ _ _ (an _)]
theorem CG{b:E}{ar:List (List UInt8)}{w:List UInt8}{t:Ty}{k:Nat}(hb:cf b (ar++[w])=some t)(hk:bR w ar ar.length=some k):rF t (.bd (k+1))=false:=by
 cases h:rF t (.bd (k+1))with
 |false=>rfl
 |
  true =>
  obtain⟨_,q2⟩:=jy _ _ _ _ hb h
  obtain⟨h1,h2⟩:=eQ _ _ (an _) hk
  have e:gW (ar++[w]) (k+1)=gW ar k:=by
   unfold gW
   rw[aq,show ar.length+[w].length-1-(k+1)=ar.length-1-k by simp;omega]
   simp[aa,List.getElem?_append_left (show ar.length-1-k<ar.length by omega)]
  rw[e,h2,i6]at q2
  cases q2
def mY(s:List UInt8)(ar:List (List UInt8)):Tg:=match bR s ar ar.length with|some u=>.bd u|none=>.nm s
theorem sP(w:List UInt8)(ar:List (List UInt8)):mY w (ar++[w])=.bd 0:=by rw[mY,i6]
theorem wj{s w:List UInt8}(ar:List (List UInt8))(h:w≠s):mY s (ar++[w])=(mY s ar).up:=by
 rw[mY,mY,mW ar h]
 cases bR s ar ar.length<;>rfl
theorem gP(n:Nat):∀(m:Nat) (v:Vl),v.nodes<=m->∀(e:E) (env:List Fr) (t:Ty),Ask e env t->en n v (e,env)=true->∀(k:Nat) (f:Fr),env[k]?=some f->∀h,h∈bm t (.bd k) v->en n h.2 (f.ex,f.out)=true
 |0,v,hm=>by have:=aX v;omega
 |
  m+1,v,hm=>by
  intro e env t A hv k f hf h hh
  rcases gK A.wf A.ty with⟨hb,hq⟩|⟨u,g,rfl,hq,hu⟩
  ·have hhd:hd e env=(e,env):=jX hq
   rcases eS A.ty hb A.cl with⟨rfl,rfl⟩|⟨rfl,rfl⟩|⟨s,rfl,rfl,hp,h0,h1⟩|⟨x,a,b,t1,t2,rfl,hx,rfl,ha,hbb⟩|⟨x,a,b,t1,t2,rfl,hx,rfl,ha,hbb⟩|⟨x,a,b,t1,rfl,hx,rfl⟩
   ·rw[cP rfl (by cases v<;>rfl)]at hh;cases hh
   ·rw[cP rfl (by cases v<;>rfl)]at hh;cases hh
   ·rw[cP rfl (by cases v<;>rfl)]at hh;cases hh
   ·obtain⟨ok1,ok2,ok3,_⟩:=A.ok
    obtain⟨f1,f2⟩:=eV A.cl
    cases v with
    |
     l w =>
     simp only[en,hhd,hx,beq_self_eq_true,bI]at hv
     simp only[Vl.nodes]at hm
     rw[fO]at hh
     obtain⟨h2,h3,rfl⟩:=bN hh
     exact gP n m w (by omega) a env t1 ⟨ok2,A.wf,ha,f1⟩ hv k f hf h2 h3
    |
     r w =>
     simp only[en,hhd,hx,beq_self_eq_true,bI]at hv
     simp only[Vl.nodes]at hm
     rw[fT]at hh
     obtain⟨h2,h3,rfl⟩:=bN hh
     exact gP n m w (by omega) b env t2 ⟨ok3,A.wf,hbb,f2⟩ hv k f hf h2 h3
    |_=>rw[cP rfl rfl]at hh;cases hh
   ·obtain⟨ok1,ok2,ok3,_⟩:=A.ok
    obtain⟨f1,f2⟩:=er A.cl
    cases v with
    |
     p w w' =>
     simp only[en,hhd,hx,beq_self_eq_true,bI,ai]at hv
     simp only[Vl.nodes]at hm
     rw[eD]at hh
     rcases aC.1 hh with hh|hh
     ·obtain⟨h2,h3,rfl⟩:=bN hh
      exact gP n m w (by omega) a env t1 ⟨ok2,A.wf,ha,f1⟩ hv.1 k f hf h2 h3
     ·obtain⟨h2,h3,rfl⟩:=bN hh
      exact gP n m w' (by omega) b env t2 ⟨ok3,A.wf,hbb,f2⟩ hv.2 k f hf h2 h3
    |_=>rw[cP rfl rfl]at hh;cases hh
   ·obtain⟨t1',he1,h1,f1,hw1⟩:=iD A.wf A.ok hx A.ty A.cl
    cases he1
    obtain⟨ok1,ok2,ok3,_⟩:=A.ok
    cases v with
    |
     f w =>
     simp only[en,hhd,hx,beq_self_eq_true,bI]at hv
     simp only[Vl.nodes]at hm
     rw[eB]at hh
     have A':Ask b (.mk a.at (.list [x,a,b]) env::env) t1:=⟨ok3,hw1,h1,f1⟩
     rcases aC.1 hh with hh|hh
     ·obtain⟨h2,h3,rfl⟩:=bN hh
      exact gP n m w (by omega) b _ t1 A' hv (k+1) f (by simpa using hf) h2 h3
     ·obtain⟨kd,h2,h3⟩:=cB.1 hh
      obtain⟨h4,h5,rfl⟩:=bN h3
      have hkd:=gP n m w (by omega) b _ t1 A' hv 0 _ rfl kd h2
      have:=(gI h2).1
      exact gP n m kd.2 (by omega) (.list [x,a,b]) env _ A hkd k f hf h4 h5
    |_=>rw[cP rfl rfl]at hh;cases hh
  ·by_cases huk:u=k
   ·subst huk
    rw[hu]at hf;cases hf
    rw[iv v (by simp[ec])]at hh
    simp only[aR]at hh
    subst hh
    obtain⟨x,a,b,t',hfe,hok,hx,ht',hf',hwf,hlt⟩:=lY A.wf hq
    rw[<-qI n v (oy hq) (by rw[hfe];exact nJ hwf)];exact hv
   ·rw[cP (by simpa[ec]using huk) (by cases v<;>rfl)]at hh;cases hh
end Go.Proofs.Trees
namespace Go.Proofs.Trees
open Go Go.VL Go.RowKit
def kH:E->List Nm->Ty
 | .atom s,ar=>if s=[48]then .zero else if s=[49]then .one else match bR s ar ar.length with|some u=>.bound u|none=>.name s
 | .list [x,a,b],ar=>if x.at=[43]then .plus (kH a ar) (kH b ar)else if x.at=[42]then .times (kH a ar) (kH b ar)else .rc (kH b (ar++[a.at]))
 | .list _,_=>.zero
def zU(s:Nm):Prop:=s≠[]/\s≠[48]/\s≠[49]
inductive Wf:E->Prop
 |atom {s} (h:s≠[]):Wf (.atom s)
 |plus {a b} (ha:Wf a) (hb:Wf b):Wf (.list [.atom [43],a,b])
 |times {a b} (ha:Wf a) (hb:Wf b):Wf (.list [.atom [42],a,b])
 |rc {n b} (hn:zU n) (hb:Wf b):Wf (.list [.atom [114,101,99],.atom n,b])
theorem ky(a b:E)(ar:List Nm):kH (.list [.atom [43],a,b]) ar=.plus (kH a ar) (kH b ar):=by rw[kH,if_pos (show (E.atom [43]).at=[43] from rfl)]
theorem jo(a b:E)(ar:List Nm):kH (.list [.atom [42],a,b]) ar=.times (kH a ar) (kH b ar):=by rw[kH,if_neg (by decide),if_pos (show (E.atom [42]).at=[42] from rfl)]
theorem oW(a b:E)(ar:List Nm):kH (.list [.atom [114,101,99],a,b]) ar=.rc (kH b (ar++[a.at])):=by rw[kH,if_neg (by decide),if_neg (by decide)]
theorem Wf.ok{e:E}(h:Wf e):e.ok:=by
 induction h with
 |atom h=>exact h
 |plus ha hb i1 i2=>exact⟨by simp[E.ok],i1,i2,trivial⟩
 |times ha hb i1 i2=>exact⟨by simp[E.ok],i1,i2,trivial⟩
 |rc hn hb i=>exact⟨by simp[E.ok],hn.1,i,trivial⟩
theorem Wf.jE{e:E}(h:Wf e):∀ar,e.jE=(kH e ar).atoms:=by
 induction h with
 |
  @atom s h =>
  intro ar
  simp only[E.jE,kH]
  split
  ·rfl
  ·split
   ·rfl
   ·split<;>rfl
 |plus ha hb i1 i2=>intro ar;rw[ky];simp only[E.jE,E.iT,Ty.atoms,<-i1 ar,<-i2 ar];omega
 |times ha hb i1 i2=>intro ar;rw[jo];simp only[E.jE,E.iT,Ty.atoms,<-i1 ar,<-i2 ar];omega
 |@rc n b hn hb i=>intro ar;rw[oW];simp only[E.jE,E.iT,Ty.atoms,<-i];omega
theorem Wf.sz{e:E}(h:Wf e):e.sz<=3*e.jE:=by
 induction h with
 |atom h=>simp[E.sz,E.jE]
 |plus ha hb i1 i2=>simp only[E.sz,E.jF,E.jE,E.iT];omega
 |times ha hb i1 i2=>simp only[E.sz,E.jF,E.jE,E.iT];omega
 |rc hn hb i=>simp only[E.sz,E.jF,E.jE,E.iT];omega
theorem j6:∀(e:E) (ar:List Nm) (t:Ty),e.ok->(∀w,w∈ar->cC w=true)->cf e ar=some t->Wf e/\kH e ar=t
 |
  .atom s,ar,t,hok,hl,ht=>by
  refine⟨.atom hok,?_⟩
  simp only[cf,kH]at ht |-
  split at ht
  ·rename_i h;rw[if_pos h];simpa using ht
  ·rename_i h;rw[if_neg h]
   split at ht
   ·rename_i h1;rw[if_pos h1];simpa using ht
   ·rename_i h1;rw[if_neg h1]
    split at ht
    ·rename_i hp
     cases q:bR s ar ar.length with
     |none=>simpa using ht
     |
      some u =>
      obtain⟨h1,h2⟩:=eQ _ _ (an _) q
      have:=hl (gW ar u) (by
       unfold gW
       have:ar.length-1-u<ar.length:=by omega
       simp[aa,this])
      rw[h2,iW hp]at this;cases this
    ·split at ht
     ·split at ht<;>rename_i q<;>rw[q]<;>simpa using ht
     ·cases ht
 |
  .list [x,a,b],ar,t,hok,hl,ht=>by
  obtain⟨ok1,ok2,ok3,_⟩:=hok
  by_cases h0:x.at=[43]
  ·obtain⟨t1,t2,h1,h2,rfl⟩:=ep h0 ht
   obtain rfl:=iV h0 (by simp)
   obtain⟨w1,e1⟩:=j6 a ar t1 ok2 hl h1
   obtain⟨w2,e2⟩:=j6 b ar t2 ok3 hl h2
   exact⟨.plus w1 w2,by rw[ky,e1,e2]⟩
  ·by_cases h1:x.at=[42]
   ·obtain⟨t1,t2,h2,h3,rfl⟩:=dW h1 ht
    obtain rfl:=iV h1 (by simp)
    obtain⟨w1,e1⟩:=j6 a ar t1 ok2 hl h2
    obtain⟨w2,e2⟩:=j6 b ar t2 ok3 hl h3
    exact⟨.times w1 w2,by rw[jo,e1,e2]⟩
   ·by_cases h2:x.at=[114,101,99]
    ·obtain⟨t1,hla,h3,rfl⟩:=cI h2 ht
     obtain rfl:=iV h2 (by simp)
     have hne:a.at≠[]:=by intro e;rw[e]at hla;cases hla
     have ha:a=.atom a.at:=iV rfl hne
     obtain⟨w1,e1⟩:=j6 b (ar++[a.at]) t1 ok3 (fun w hw=>by
      rcases aC.1 hw with hw|hw
      ·exact hl w hw
      ·simp only[aR]at hw;rw[hw];exact hla) h3
     have hN:zU a.at:=⟨hne,fun e=>by rw[e]at hla;revert hla;decide,fun e=>by rw[e]at hla;revert hla;decide⟩
     refine⟨?_,by rw[oW,e1]⟩
     rw[ha];exact .rc hN w1
    ·rw[gC _ h0 h1 h2]at ht;cases ht
 | .list [],ar,t,_,_,ht=>by cases ht
 | .list [_],ar,t,_,_,ht=>by cases ht
 | .list [_,_],ar,t,_,_,ht=>by cases ht
 | .list (_::_::_::_::_),ar,t,_,_,ht=>by cases ht
theorem lP(s:Nm)(ar:List Nm):bR s ar ar.length=none↔s∉ar:=by
 have:=kZ s ar ar.length (an _)
 rwa[List.take_length]at this
theorem wF{e:E}(h:Wf e):∀ar y,bU y (kH e ar)=true->zU y/\y∉ar:=by
 induction h with
 |
  @atom s h =>
  intro ar y hy
  simp only[kH]at hy
  split at hy
  ·cases hy
  ·rename_i h0
   split at hy
   ·cases hy
   ·rename_i h1
    split at hy
    ·cases hy
    ·rename_i q
     simp only[bU,decide_eq_true_eq]at hy
     subst hy
     exact⟨⟨h,h0,h1⟩,(lP _ _).1 q⟩
 |
  plus ha hb i1 i2 =>
  intro ar y hy
  rw[ky]at hy
  simp only[bU,br]at hy
  rcases hy with hy|hy
  ·exact i1 ar y hy
  ·exact i2 ar y hy
 |
  times ha hb i1 i2 =>
  intro ar y hy
  rw[jo]at hy
  simp only[bU,br]at hy
  rcases hy with hy|hy
  ·exact i1 ar y hy
  ·exact i2 ar y hy
 |
  rc hn hb i =>
  intro ar y hy
  rw[oW]at hy
  obtain⟨h1,h2⟩:=i _ y hy
  exact⟨h1,fun h=>h2 (ao _ h)⟩
theorem eK:∀(t:Ty) (out:List Nm) (y:Nm),y∈bn t out↔y∈out\/bU y t=true
 |
  .name s,out,y=>by
  simp only[bn,nG,bU,decide_eq_true_eq]
  split
  ·rename_i h;exact⟨fun h=>.inl h,fun h'=>by rcases h' with h'|rfl<;>assumption⟩
  ·simp[eq_comm]
 | .plus a b,out,y=>by rw[bn,eK b,eK a];simp[bU,or_assoc]
 | .times a b,out,y=>by rw[bn,eK b,eK a];simp[bU,or_assoc]
 | .rc a,out,y=>by rw[bn,eK a];rfl
 | .zero,out,y=>by simp[bn,bU]
 | .one,out,y=>by simp[bn,bU]
 | .bound k,out,y=>by simp[bn,bU]
end Go.Proofs.Trees
namespace Go.Proofs.Trees
open Go Go.VL Go.RowKit
abbrev zd:Nm:=[114,101,99]
theorem ss(s:Nm):(E.atom s).at=s:=rfl
def AU(x:Nm):E->Nat
 | .atom s=>if s=x then 1 else 0
 | .list [h,a,b]=>if h.at=zd then(if a.at=x then 0 else AU x b)else AU x a+AU x b
 | .list _=>0
def ug(p:Nm->Prop):E->Prop
 | .atom _=>True
 | .list [h,a,b]=>(if h.at=zd then p a.at else ug p a)/\ug p b
 | .list _=>True
theorem yf(p:Nm->Prop)(a b:E):ug p (.list [.atom [43],a,b])↔ug p a/\ug p b:=by rw[ug,if_neg (by decide)]
theorem wz(p:Nm->Prop)(a b:E):ug p (.list [.atom [42],a,b])↔ug p a/\ug p b:=by rw[ug,if_neg (by decide)]
theorem C4(p:Nm->Prop)(n:Nm)(b:E):ug p (.list [.atom zd,.atom n,b])↔p n/\ug p b:=by rw[ug,if_pos (ss _)];rfl
theorem pJ{s:Nm}(hs:zU s){ar:List Nm}(h:s∉ar):kH (.atom s) ar=.name s:=by
 simp only[kH];rw[if_neg hs.2.1,if_neg hs.2.2,(lP s ar).2 h]
abbrev tN(m:Nat):Nm:=116::dd m
theorem AL(m:Nat):dd m≠[]:=by
 by_cases h:m<10
 ·rw[eJ h];simp
 ·rw[fj h];simp
theorem xn:∀(n m k:Nat),m<n->dd m=dd k->m=k
 |0,m,k,h,_=>by omega
 |
  n+1,m,k,h,e=>by
  have d10:∀{a b:Nat},a<10->b<10->aU (48+a)=aU (48+b)->a=b:=fun {a b} ha hb h=>by
   have:=congrArg UInt8.toNat h
   simp only[UInt8.toNat_ofNat']at this
   omega
  by_cases h1:m<10<;>by_cases h2:k<10
  ·rw[eJ h1,eJ h2]at e
   simp only[List.cons.injEq,and_true]at e
   exact d10 h1 h2 e
  ·rw[eJ h1,fj h2]at e
   have:=congrArg dR e
   have:dd (k/10)=[]:=by
    apply List.eq_nil_of_length_eq_zero
    simp at this;simpa using this
   exact absurd this (AL _)
  ·rw[fj h1,eJ h2]at e
   have:=congrArg dR e
   have:dd (m/10)=[]:=by
    apply List.eq_nil_of_length_eq_zero
    simp at this;simpa using this
   exact absurd this (AL _)
  ·rw[fj h1,fj h2]at e
   obtain⟨e1,e2⟩:=List.append_inj' e rfl
   have:=xn n (m/10) (k/10) (by omega) e1
   simp only[List.cons.injEq,and_true]at e2
   have:=d10 (Nat.mod_lt _ (by omega)) (Nat.mod_lt _ (by omega)) e2
   omega
theorem xx{m k:Nat}(h:tN m=tN k):m=k:=xn (m+1) m k (by omega) (List.cons.inj h).2
theorem AP(m:Nat):zU (tN m):=⟨by simp,by simp,by simp⟩
theorem I1:∀(l F:List Nm),l.Nodup->(∀x,x∈l->x∈F)->l.length<=F.length
 |[],_,_,_=>dj _
 |
  x::l,F,hn,hs=>by
  obtain⟨h1,h2⟩:=List.nodup_cons.1 hn
  have hx:=hs x ae
  have:=I1 l (F.erase x) h2 fun y hy=>(List.mem_erase_of_ne (fun e=>h1 (by rw[<-e];exact hy))).2 (hs y (af _ hy))
  rw[List.length_erase_of_mem hx]at this
  have:0<F.length:=List.length_pos_of_mem hx
  simp only[aw];omega
def yO(F:List Nm):Nat->Nat->Nat
 |0,k=>k
 |n+1,k=>if tN k∈F then yO F n (k+1)else k
theorem rM(F:List Nm):∀(n k:Nat),k<=yO F n k/\yO F n k<=k+n/\(∀j,k<=j->j<yO F n k->tN j∈F)/\(yO F n k<k+n->tN (yO F n k)∉F)
 |0,k=>⟨an _,an _,fun j h1 h2=>by simp only[yO]at h2;omega,fun h=>by simp only[yO]at h;omega⟩
 |
  n+1,k=>by
  rw[yO]
  split
  ·rename_i hm
   obtain⟨h1,h2,h3,h4⟩:=rM F n (k+1)
   refine⟨by omega,by omega,fun j hj hl=>?_,fun h=>h4 (by omega)⟩
   by_cases e:j=k
   ·subst e;exact hm
   ·exact h3 j (by omega) hl
  ·rename_i hm
   exact⟨an _,by omega,fun j h1 h2=>by omega,fun _=>hm⟩
def nx(F:List Nm)(k:Nat):Nat:=yO F (F.length+1) k
theorem ua(F:List Nm)(k:Nat):k<=nx F k/\nx F k<=k+F.length/\(∀j,k<=j->j<nx F k->tN j∈F)/\tN (nx F k)∉F:=by
 obtain⟨h1,h2,h3,h4⟩:=rM F (F.length+1) k
 have hlt:nx F k<k+(F.length+1):=by
  rcases Nat.lt_or_ge (nx F k) (k+(F.length+1))with h|h
  ·exact h
  ·exfalso
   have:=I1 ((List.range' k (F.length+1)).map tN) F (by
    refine List.Pairwise.map _ (fun a b hab e=>hab (xx e)) List.nodup_range') (fun x hx=>by
    obtain⟨j,hj,rfl⟩:=bp.1 hx
    obtain⟨i,hi,rfl⟩:=List.mem_range'.1 hj
    exact h3 _ (by omega) (by show _<nx F k;omega))
   simp at this
   omega
 exact⟨h1,by unfold nx at hlt |-;omega,h3,h4 hlt⟩
def pG(F:List Nm):Ty->List Nm->Nat->E×Nat
 | .zero,_,k=>(.atom [48],k)
 | .one,_,k=>(.atom [49],k)
 | .name s,_,k=>(.atom s,k)
 | .bound u,to,k=>(.atom (gW to u),k)
 | .plus a b,to,k=>(.list [.atom [43],(pG F a to k).1,(pG F b to (pG F a to k).2).1],(pG F b to (pG F a to k).2).2)
 | .times a b,to,k=>(.list [.atom [42],(pG F a to k).1,(pG F b to (pG F a to k).2).1],(pG F b to (pG F a to k).2).2)
 | .rc a,to,k=>(.list [.atom zd,.atom (tN (nx F k)),(pG F a (to++[tN (nx F k)]) (nx F k+1)).1],(pG F a (to++[tN (nx F k)]) (nx F k+1)).2)
def gh:Ty->Nat->Prop
 | .bound u,i=>u<i
 | .plus a b,i=>gh a i/\gh b i
 | .times a b,i=>gh a i/\gh b i
 | .rc a,i=>gh a (i+1)
 |_,_=>True
theorem wN{e:E}(h:Wf e):∀ar,gh (kH e ar) ar.length:=by
 induction h with
 |
  @atom s hs =>
  intro ar
  simp only[kH]
  split
  ·trivial
  ·split
   ·trivial
   ·split
    ·rename_i u q;exact(eQ _ _ (an _) q).1
    ·trivial
 |plus ha hb i1 i2=>intro ar;rw[ky];exact⟨i1 ar,i2 ar⟩
 |times ha hb i1 i2=>intro ar;rw[jo];exact⟨i1 ar,i2 ar⟩
 |
  @rc n b hn hb i =>
  intro ar;rw[oW]
  have:=i (ar++[(E.atom n).at])
  rw[aq]at this
  exact this
structure Gn(F to:List Nm)(k:Nat):Prop where
 out:∀w,w∈to->w∉F
 lt:∀w,w∈to->∃j,j<k/\w=tN j
 nd:to.Nodup
theorem Gn.nil(F:List Nm)(k:Nat):Gn F [] k:=⟨fun _ h=>(by cases h),fun _ h=>(by cases h),by simp⟩
theorem Gn.mono{F to:List Nm}{k k':Nat}(h:Gn F to k)(hk:k<=k'):Gn F to k':=⟨h.out,fun w hw=>by obtain⟨j,h1,h2⟩:=h.lt w hw;exact⟨j,by omega,h2⟩,h.nd⟩
theorem Gn.push{F to:List Nm}{k:Nat}(h:Gn F to k):Gn F (to++[tN (nx F k)]) (nx F k+1):=by
 obtain⟨h1,h2,h3,h4⟩:=ua F k
 refine⟨fun w hw=>?_,fun w hw=>?_,?_⟩
 ·rcases aC.1 hw with hw|hw
  ·exact h.out w hw
  ·simp only[aR]at hw;rw[hw];exact h4
 ·rcases aC.1 hw with hw|hw
  ·obtain⟨j,g1,g2⟩:=h.lt w hw;exact⟨j,by omega,g2⟩
  ·simp only[aR]at hw;exact⟨_,by omega,hw⟩
 ·refine List.nodup_append.2 ⟨h.nd,by simp,fun a ha b hb e=>?_⟩
  simp only[aR]at hb
  obtain⟨j,g1,g2⟩:=h.lt a ha
  rw[e,hb]at g2
  have:=xx g2
  omega
theorem qT{to:List Nm}(hn:to.Nodup){u:Nat}(hu:u<to.length):bR (gW to u) to to.length=some u:=by
 have hm:gW to u∈to:=by
  unfold gW
  have:to.length-1-u<to.length:=by omega
  simp[aa,this]
 cases q:bR (gW to u) to to.length with
 |none=>exact absurd hm ((lP _ _).1 q)
 |
  some v =>
  obtain⟨h1,h2⟩:=eQ _ _ (an _) q
  unfold gW at h2
  have e1:to.length-1-v<to.length:=by omega
  have e2:to.length-1-u<to.length:=by omega
  rw[aa,aa,aO e1,aO e2]at h2
  have hp:=List.pairwise_iff_getElem.1 hn
  have h3:to[to.length-1-v]=to[to.length-1-u]:=by simpa using h2
  rcases Nat.lt_trichotomy (to.length-1-v) (to.length-1-u)with hl|he|hl
  ·exact absurd h3 (hp _ _ e1 e2 hl)
  ·congr 1;omega
  ·exact absurd h3.symm (hp _ _ e2 e1 hl)
theorem lQ(F:List Nm):∀(t:Ty) (to:List Nm) (k:Nat),Gn F to k->gh t to.length->(∀y,bU y t=true->y∈F/\zU y) ->
 Wf (pG F t to k).1/\kH (pG F t to k).1 to=t/\k<=(pG F t to k).2/\(pG F t to k).2<=k+(F.length+1)*t.atoms/\ug (·∉F) (pG F t to k).1
 | .zero,to,k,_,_,_=>⟨.atom (by simp),rfl,an _,Nat.le_add_right _ _,trivial⟩
 | .one,to,k,_,_,_=>⟨.atom (by simp),rfl,an _,Nat.le_add_right _ _,trivial⟩
 |
  .name s,to,k,g,hl,hn=>by
  obtain⟨h1,h2⟩:=hn s (by simp[bU])
  exact⟨.atom h2.1,pJ h2 (fun h=>g.out s h h1),an _,Nat.le_add_right _ _,trivial⟩
 |
  .bound u,to,k,g,hl,hn=>by
  have hm:gW to u∈to:=by
   unfold gW
   have:to.length-1-u<to.length:=by have:u<to.length:=hl;omega
   simp[aa,this]
  obtain⟨j,_,e⟩:=g.lt _ hm
  have hok:zU (gW to u):=by rw[e];exact AP j
  refine⟨.atom hok.1,?_,an _,Nat.le_add_right _ _,trivial⟩
  simp only[pG,kH]
  rw[if_neg hok.2.1,if_neg hok.2.2,qT g.nd hl]
 |
  .plus a b,to,k,g,hl,hn=>by
  obtain⟨a1,a2,a3,a4,a5⟩:=lQ F a to k g hl.1 fun y hy=>hn y (by simp[bU,hy])
  obtain⟨b1,b2,b3,b4,b5⟩:=lQ F b to _ (g.mono a3) hl.2 fun y hy=>hn y (by simp[bU,hy])
  simp only[pG,ky,a2,b2,yf,Ty.atoms]
  refine⟨.plus a1 b1,trivial,by omega,?_,a5,b5⟩
  have:(F.length+1)*(1+a.atoms+b.atoms)=(F.length+1)+(F.length+1)*a.atoms+(F.length+1)*b.atoms:=by simp only[Nat.mul_add,Nat.mul_one]
  omega
 |
  .times a b,to,k,g,hl,hn=>by
  obtain⟨a1,a2,a3,a4,a5⟩:=lQ F a to k g hl.1 fun y hy=>hn y (by simp[bU,hy])
  obtain⟨b1,b2,b3,b4,b5⟩:=lQ F b to _ (g.mono a3) hl.2 fun y hy=>hn y (by simp[bU,hy])
  simp only[pG,jo,a2,b2,wz,Ty.atoms]
  refine⟨.times a1 b1,trivial,by omega,?_,a5,b5⟩
  have:(F.length+1)*(1+a.atoms+b.atoms)=(F.length+1)+(F.length+1)*a.atoms+(F.length+1)*b.atoms:=by simp only[Nat.mul_add,Nat.mul_one]
  omega
 |
  .rc a,to,k,g,hl,hn=>by
  obtain⟨h1,h2,h3,h4⟩:=ua F k
  obtain⟨a1,a2,a3,a4,a5⟩:=lQ F a (to++[tN (nx F k)]) (nx F k+1) g.push (by rw[aq];exact hl) hn
  simp only[pG,oW,ss,a2,C4,Ty.atoms]
  refine⟨.rc (AP _) a1,trivial,by omega,?_,h4,a5⟩
  have:(F.length+1)*(2+a.atoms)=(F.length+1)*2+(F.length+1)*a.atoms:=by simp only[Nat.mul_add]
  omega
end Go.Proofs.Trees
namespace Go.Proofs.Trees
open Go Go.VL Go.RowKit
def cu(t:Ty)(u:Nat)(v:Vl):List Vl:=eI (bm t (.bd u) v)
theorem kL(a b:Ty)(u:Nat)(w:Vl):cu (.plus a b) u (.l w)=cu a u w:=by rw[cu,fO,a6];rfl
theorem kK(a b:Ty)(u:Nat)(w:Vl):cu (.plus a b) u (.r w)=cu b u w:=by rw[cu,fT,a6];rfl
theorem jC(a b:Ty)(u:Nat)(x y:Vl):cu (.times a b) u (.p x y)=cu a u x++cu b u y:=by rw[cu,eD,cd,a6,a6];rfl
theorem rW(a:Ty)(u:Nat)(g:Vl->Vl->Vl):∀l:List Hl,eI (l.flatMap fun h=>eX (g h.1) (bm (.rc a) (.bd u) h.2))=(eI l).flatMap (cu (.rc a) u)
 |[]=>rfl
 |
  x::l=>by
  rw[aV,cd,a6,rW a u g l]
  simp only[eI,aS,aV];rfl
theorem jt(a:Ty)(u:Nat)(w:Vl):cu (.rc a) u (.f w)=cu a (u+1) w++(cu a 0 w).flatMap (cu (.rc a) u):=by
 rw[cu,eB,cd,a6,rW a u (fun p c=>.f (.r (.p p c)))];rfl
theorem jb(u:Nat)(v:Vl):cu (.bound u) u v=[v]:=by rw[cu,iv v (by simp[ec])];rfl
theorem nv{u k:Nat}(h:u≠k)(v:Vl):cu (.bound u) k v=[]:=by rw[cu,cP (by simp[ec,h]) (by cases v<;>rfl)];rfl
theorem nk{t:Ty}{u:Nat}{v e:Vl}(h:e∈cu t u v):e.nodes<=v.nodes:=by
 obtain⟨q,hq,rfl⟩:=bp.1 h
 exact(gI hq).1
theorem i9:∀(n:Nat) (v:Vl),v.nodes<=n->∀(t:Ty) (k u:Nat),gh t k->k<=u->cu t u v=[]
 |0,v,hn=>by have:=aX v;omega
 |
  n+1,v,hn=>by
  intro t k u hl hk
  cases hat:ec t (.bd u)with
  |
   true =>
   cases t<;>simp[ec]at hat
   subst hat
   exact absurd hl (by simp[gh];omega)
  |
   false =>
   cases hst:stuck t v with
   |true=>rw[cu,cP hat hst];rfl
   |
    false =>
    unfold stuck at hst
    split at hst
    ·rename_i a b w
     simp only[Vl.nodes]at hn
     rw[kL,i9 n w (by omega) a k u hl.1 hk]
    ·rename_i a b w
     simp only[Vl.nodes]at hn
     rw[kK,i9 n w (by omega) b k u hl.2 hk]
    ·rename_i a b x y
     simp only[Vl.nodes]at hn
     rw[jC,i9 n x (by omega) a k u hl.1 hk,i9 n y (by omega) b k u hl.2 hk];rfl
    ·rename_i a w
     simp only[Vl.nodes]at hn
     rw[jt,i9 n w (by omega) a (k+1) (u+1) hl (by omega),bc]
     rw[List.flatMap_eq_nil_iff]
     intro e he
     have:=nk he
     exact i9 n e (by omega) (.rc a) k u hl hk
    ·cases hst
inductive Sk:Ty->Vl->Vl->Prop
 |id (t:Ty) (v:Vl):Sk t v v
 |bd (u:Nat) (v v':Vl):Sk (.bound u) v v'
 |l {a b:Ty} {w w':Vl}:Sk a w w'->Sk (.plus a b) (.l w) (.l w')
 |r {a b:Ty} {w w':Vl}:Sk b w w'->Sk (.plus a b) (.r w) (.r w')
 |p {a b:Ty} {x x' y y':Vl}:Sk a x x'->Sk b y y'->Sk (.times a b) (.p x y) (.p x' y')
 |f {a:Ty} {w w':Vl}:Sk a w w'->(cu a 0 w).length=(cu a 0 w').length->(∀(i:Nat) (e e':Vl),(cu a 0 w)[i]?=some e->(cu a 0 w')[i]?=some e'->Sk (.rc a) e e')->Sk (.rc a) (.f w) (.f w')
theorem sQ{f g:Vl->List Vl}:∀{l r:List Vl},l.length=r.length->(∀(i:Nat) (e e':Vl),l[i]?=some e->r[i]?=some e'->(f e).length=(g e').length)->(l.flatMap f).length=(r.flatMap g).length
 |[],[],_,_=>rfl
 |[],_::_,h,_=>by simp at h
 |_::_,[],h,_=>by simp at h
 |
  x::l,y::r,h,hf=>by
  rw[aV,aV,aq,aq,hf 0 x y rfl rfl,sQ (by simpa using h) fun i e e' h1 h2=>hf (i+1) e e' (by simpa using h1) (by simpa using h2)]
theorem uF{f g:Vl->List Vl}:∀{l r:List Vl},l.length=r.length->(∀(i:Nat) (e e':Vl),l[i]?=some e->r[i]?=some e'->(f e).length=(g e').length)->l.flatMap f=r.flatMap g->∀(i:Nat) (e e':Vl),l[i]?=some e->r[i]?=some e'->f e=g e'
 |[],[],_,_,_,i,e,e',h1,_=>by simp at h1
 |[],_::_,h,_,_,_,_,_,_,_=>by simp at h
 |_::_,[],h,_,_,_,_,_,_,_=>by simp at h
 |
  x::l,y::r,h,hf,he,i,e,e',h1,h2=>by
  rw[aV,aV]at he
  obtain⟨q1,q2⟩:=List.append_inj he (hf 0 x y rfl rfl)
  cases i with
  |zero=>simp at h1 h2;subst h1;subst h2;exact q1
  |succ i=>exact uF (by simpa using h) (fun i e e' h1 h2=>hf (i+1) e e' (by simpa using h1) (by simpa using h2)) q2 i e e' (by simpa using h1) (by simpa using h2)
theorem Sk.len{t:Ty}{v v':Vl}(h:Sk t v v'):∀u,(cu t u v).length=(cu t u v').length:=by
 induction h with
 |id t v=>exact fun u=>rfl
 |
  bd u v v' =>
  intro k
  by_cases e:u=k
  ·subst e;rw[jb,jb];rfl
  ·rw[nv e,nv e]
 |l _ ih=>intro u;rw[kL,kL];exact ih u
 |r _ ih=>intro u;rw[kK,kK];exact ih u
 |p _ _ ih1 ih2=>intro u;rw[jC,jC,aq,aq,ih1 u,ih2 u]
 |
  f _ hl _ ih1 ih2 =>
  intro u
  rw[jt,jt,aq,aq,ih1 (u+1),sQ hl fun i e e' h1 h2=>ih2 i e e' h1 h2 u]
theorem z8{l r:List Vl}(hl:l.length=r.length)(h:∀(i:Nat) (e e':Vl),l[i]?=some e->r[i]?=some e'->e=e'):l=r:=by
 apply List.ext_getElem hl
 intro i h1 h2
 exact h i _ _ (aO h1) (aO h2)
theorem Sk.Jo{t:Ty}{v v':Vl}(h:Sk t v v'):(∀u,cu t u v=cu t u v')->v=v':=by
 induction h with
 |id t v=>exact fun _=>rfl
 |bd u v v'=>intro h;have:=h u;rw[jb,jb]at this;exact List.singleton_inj.1 this
 |l _ ih=>intro h;rw[ih fun u=>by have:=h u;rwa[kL,kL]at this]
 |r _ ih=>intro h;rw[ih fun u=>by have:=h u;rwa[kK,kK]at this]
 |
  @p a b x x' y y' h1 h2 ih1 ih2 =>
  intro h
  have hu:=fun u=>by
   have:=h u
   rw[jC,jC]at this
   exact List.append_inj this (h1.len u)
  rw[ih1 fun u=>(hu u).1,ih2 fun u=>(hu u).2]
 |
  @f a w w' h1 hl h2 ih1 ih2 =>
  intro h
  have hu:=fun u=>by
   have:=h u
   rw[jt,jt]at this
   exact List.append_inj this (h1.len (u+1))
  have he:cu a 0 w=cu a 0 w':=z8 hl fun i e e' g1 g2=>ih2 i e e' g1 g2 fun u=>uF hl (fun i e e' g1 g2=>(h2 i e e' g1 g2).len u) (hu u).2 i e e' g1 g2
  rw[ih1 fun u=>by cases u with
   |zero=>exact he
   |succ u=>exact(hu u).1]
theorem tj{l r:List Vl}(hl:l.length=r.length){i:Nat}{e:Vl}(h:l[i]?=some e):∃e',r[i]?=some e':=by
 obtain⟨hlt,_⟩:=bO.1 h
 exact⟨_,aO (by omega)⟩
theorem Sk.trans{t:Ty}{v v':Vl}(h:Sk t v v'):∀{v'':Vl},Sk t v' v''->Sk t v v'':=by
 induction h with
 |id t v=>exact fun h=>h
 |bd u v v'=>exact fun _=>.bd u v _
 |
  l h1 ih=>intro v'' h;cases h with
  |id=>exact .l h1
  |l h2=>exact .l (ih h2)
 |
  r h1 ih=>intro v'' h;cases h with
  |id=>exact .r h1
  |r h2=>exact .r (ih h2)
 |
  p h1 h2 ih1 ih2=>intro v'' h;cases h with
  |id=>exact .p h1 h2
  |p g1 g2=>exact .p (ih1 g1) (ih2 g2)
 |
  f h1 hl h2 ih1 ih2=>intro v'' h;cases h with
  |id=>exact .f h1 hl h2
  |
   f g1 gl g2 =>
   refine .f (ih1 g1) (hl.trans gl) fun i e e' q1 q2=>?_
   obtain⟨e1,q3⟩:=tj hl q1
   exact ih2 i e e1 q1 q3 (g2 i e1 e' q3 q2)
theorem zV{A A' B B':List Vl}{e x:Vl}(hA:A'=A)(hB:B'=B){i:Nat}{y z:Vl}(h1:(A++e::B)[i]?=some y)(h2:(A'++x::B')[i]?=some z):(y=z)\/(y=e/\z=x):=by
 subst hA;subst hB
 by_cases hi:i<A'.length
 ·rw[List.getElem?_append_left hi]at h1 h2
  rw[h1]at h2;cases h2;exact .inl rfl
 ·rw[List.getElem?_append_right (by omega)]at h1 h2
  cases hq:i-A'.length with
  |zero=>rw[hq]at h1 h2;simp at h1 h2;exact .inr ⟨h1.symm,h2.symm⟩
  |succ q=>rw[hq]at h1 h2;simp at h1 h2;rw[h1]at h2;cases h2;exact .inl rfl
theorem Sk.cE:∀(n:Nat) (v:Vl),v.nodes<=n->∀(t:Ty) (u:Nat) (c e:Vl),(c,e)∈bm t (.bd u) v->∀x:Vl,Sk t v (Trees.cE t c x)
 |0,v,hn=>by have:=aX v;omega
 |
  n+1,v,hn=>by
  intro t u c e hh x
  cases hat:ec t (.bd u)with
  |
   true =>
   rw[rE hat]
   cases t<;>simp[ec]at hat
   exact .bd _ _ _
  |
   false =>
   have hst:stuck t v=false:=by
    cases q:stuck t v with
    |false=>rfl
    |true=>rw[cP hat q]at hh;simp at hh
   unfold stuck at hst
   split at hst
   ·rename_i a b w
    simp only[Vl.nodes]at hn
    rw[fO]at hh
    obtain⟨⟨c0,e0⟩,h0,he⟩:=bN hh
    cases he
    exact .l (Sk.cE n w (by omega) a u c0 e0 h0 x)
   ·rename_i a b w
    simp only[Vl.nodes]at hn
    rw[fT]at hh
    obtain⟨⟨c0,e0⟩,h0,he⟩:=bN hh
    cases he
    exact .r (Sk.cE n w (by omega) b u c0 e0 h0 x)
   ·rename_i a b y z
    simp only[Vl.nodes]at hn
    rw[eD]at hh
    rcases aC.1 hh with hh|hh
    ·obtain⟨⟨c0,e0⟩,h0,he⟩:=bN hh
     cases he
     exact .p (Sk.cE n y (by omega) a u c0 e0 h0 x) (.id _ _)
    ·obtain⟨⟨c0,e0⟩,h0,he⟩:=bN hh
     cases he
     exact .p (.id _ _) (Sk.cE n z (by omega) b u c0 e0 h0 x)
   ·rename_i a w
    simp only[Vl.nodes]at hn
    rw[eB]at hh
    rcases aC.1 hh with hh|hh
    ·obtain⟨⟨c0,e0⟩,h0,he⟩:=bN hh
     cases he
     obtain⟨A,B,hs⟩:=List.append_of_mem h0
     have ho:=(ff w.nodes w (an _) a (Tg.bd u).up A B c0 e0 hs x).2 (.bd 0) (Ne.symm (um _))
     have hk:=Sk.cE n w (by omega) a (u+1) c0 e0 h0 x
     refine .f hk (hk.len 0) fun i y z h1 h2=>?_
     rw[cu,<-ho]at h1
     have:cu a 0 (Trees.cE a c0 x)=eI (bm a (.bd 0) (Trees.cE a c0 x)):=rfl
     rw[this,h1]at h2
     cases h2;exact .id _ _
    ·obtain⟨⟨hc,he⟩,h1,h2⟩:=cB.1 hh
     obtain⟨⟨c0,e0⟩,h0,heq⟩:=bN h2
     cases heq
     have hsz:=(gI h1).1
     simp only at hsz h0
     obtain⟨A,B,hs⟩:=List.append_of_mem h1
     have hk1:=Sk.cE n he (by omega) (.rc a) u c0 e0 h0 x
     have hk:=Sk.cE n w (by omega) a 0 hc he h1 (Trees.cE (.rc a) c0 x)
     obtain⟨⟨A',B',d1,d2,d3⟩,_⟩:=ff w.nodes w (an _) a (.bd 0) A B hc he hs (Trees.cE (.rc a) c0 x)
     refine .f hk (hk.len 0) fun i y z q1 q2=>?_
     rw[cu,hs,cd]at q1
     rw[cu,d1,cd]at q2
     simp only[eI,aS]at q1 q2 d2 d3
     rcases zV d2 d3 q1 q2 with rfl|⟨rfl,rfl⟩
     ·exact .id _ _
     ·exact hk1
   ·cases hst
end Go.Proofs.Trees
namespace Go.Proofs.Trees
open Go Go.VL Go.RowKit
section
variable (R:Vl->Vl×Nat)
def wG(f:List Ty->Ty->Vl->Vl×Nat)(G:List Ty):Ty->Vl->Vl×Nat
 |
  .bound u,v=>if u=G.length then R v else match G[u]? with
  |some b=>f (G.drop (u+1)) (.rc b) v
  |none=>(v,0)
 | .plus a _,.l w=>(.l (f G a w).1,(f G a w).2)
 | .plus _ b,.r w=>(.r (f G b w).1,(f G b w).2)
 | .times a b,.p x y=>(.p (f G a x).1 (f G b y).1,(f G a x).2+(f G b y).2)
 | .rc b,.f w=>(.f (f (b::G) b w).1,(f (b::G) b w).2)
 |_,v=>(v,0)
def sF:Nat->List Ty->Ty->Vl->Vl×Nat
 |0=>fun _ _ v=>(v,0)
 |n+1=>wG R (sF n)
def py:Ty->Nat
 | .bound _=>1
 |_=>0
theorem bZ(t:Ty):py t<=1:=by cases t<;>simp[py]
theorem lK:∀(n m:Nat) (G:List Ty) (t:Ty) (v:Vl),2*v.nodes+py t<=n->2*v.nodes+py t<=m->sF R n G t v=sF R m G t v
 |0,m,G,t,v,hn,_=>by have:=aX v;omega
 |n+1,0,G,t,v,_,hm=>by have:=aX v;omega
 |
  n+1,m+1,G,t,v,hn,hm=>by
  rw[sF,sF]
  unfold wG
  split
  ·rename_i v u
   split
   ·rfl
   ·split
    ·simp only[py]at hn hm
     exact lK n m _ _ _ (by simp only[py];omega) (by simp only[py];omega)
    ·rfl
  ·rename_i a b w
   simp only[Vl.nodes]at hn hm
   have:=bZ a
   rw[lK n m G a w (by omega) (by omega)]
  ·rename_i a b w
   simp only[Vl.nodes]at hn hm
   have:=bZ b
   rw[lK n m G b w (by omega) (by omega)]
  ·rename_i a b x y
   simp only[Vl.nodes]at hn hm
   have:=bZ a
   have:=bZ b
   have:=aX x
   have:=aX y
   rw[lK n m G a x (by omega) (by omega),lK n m G b y (by omega) (by omega)]
  ·rename_i b w
   simp only[Vl.nodes]at hn hm
   have:=bZ b
   rw[lK n m (b::G) b w (by omega) (by omega)]
  ·rfl
def mm(G:List Ty)(t:Ty)(v:Vl):Vl×Nat:=sF R (2*v.nodes+1) G t v
theorem vX{n:Nat}{G:List Ty}{t:Ty}{v:Vl}(h:2*v.nodes+py t<=n):sF R n G t v=mm R G t v:=lK R _ _ _ _ _ h (by have:=bZ t;omega)
theorem nu(G:List Ty)(v:Vl):mm R G (.bound G.length) v=R v:=by simp[mm,sF,wG]
theorem qy{G:List Ty}{u:Nat}{b:Ty}(h:G[u]?=some b)(v:Vl):mm R G (.bound u) v=mm R (G.drop (u+1)) (.rc b) v:=by
 have hu:u≠G.length:=by rintro rfl;simp at h
 conv=>lhs;unfold mm
 rw[sF,wG,if_neg hu,h]
 exact vX R (by simp only[py];omega)
theorem yl(G:List Ty)(a b:Ty)(w:Vl):mm R G (.plus a b) (.l w)=(.l (mm R G a w).1,(mm R G a w).2):=by
 have:=bZ a
 conv=>lhs;unfold mm
 rw[sF,wG,vX R (by simp only[Vl.nodes];omega)]
theorem yE(G:List Ty)(a b:Ty)(w:Vl):mm R G (.plus a b) (.r w)=(.r (mm R G b w).1,(mm R G b w).2):=by
 have:=bZ b
 conv=>lhs;unfold mm
 rw[sF,wG,vX R (by simp only[Vl.nodes];omega)]
theorem xH(G:List Ty)(a b:Ty)(x y:Vl):mm R G (.times a b) (.p x y)=(.p (mm R G a x).1 (mm R G b y).1,(mm R G a x).2+(mm R G b y).2):=by
 have:=bZ a
 have:=bZ b
 conv=>lhs;unfold mm
 rw[sF,wG,vX R (by simp only[Vl.nodes];omega),vX R (by simp only[Vl.nodes];omega)]
theorem xh(G:List Ty)(b:Ty)(w:Vl):mm R G (.rc b) (.f w)=(.f (mm R (b::G) b w).1,(mm R (b::G) b w).2):=by
 have:=bZ b
 conv=>lhs;unfold mm
 rw[sF,wG,vX R (by simp only[Vl.nodes];omega)]
theorem qa{G:List Ty}{t:Ty}{v:Vl}(hb:∀u,t≠.bound u)(h:stuck t v=true):mm R G t v=(v,0):=by
 unfold mm
 rw[sF]
 unfold wG
 split<;>first|rfl|exact absurd rfl (hb _)|simp[stuck]at h
theorem qW{t:Ty}(h:∀u,t≠.bound u)(u:Nat):ec t (.bd u)=false:=by cases t<;>first|rfl|exact absurd rfl (h _)
def gM(G:List Ty)(u:Nat)(e:Vl):Vl×Nat:=mm R G (.bound u) e
theorem vA(b:Ty)(G:List Ty)(u:Nat)(e:Vl):gM R (b::G) (u+1) e=gM R G u e:=by
 unfold gM
 by_cases h:u=G.length
 ·subst h
  rw[nu,show G.length+1=(b::G).length from rfl,nu]
 ·cases hq:G[u]? with
  |some c=>rw[qy R (G:=b::G) (u:=u+1) (b:=c) (by simpa using hq),qy R hq];rfl
  |
   none =>
   have hlt:G.length<=u:=by simpa using hq
   simp[mm,sF,wG,h,hq]
theorem uA(b:Ty)(G:List Ty)(e:Vl):gM R (b::G) 0 e=mm R G (.rc b) e:=by
 unfold gM;rw[qy R (b:=b) (by rfl)];rfl
theorem oG:∀(n:Nat) (G:List Ty) (t:Ty) (v:Vl),2*v.nodes+py t<=n->Sk t v (mm R G t v).1/\∀u,cu t u (mm R G t v).1=(cu t u v).map fun e=>(gM R G u e).1
 |0,G,t,v,hn=>by have:=aX v;omega
 |
  n+1,G,t,v,hn=>by
  by_cases hb:∃u,t=.bound u
  ·obtain⟨u,rfl⟩:=hb
   refine⟨.bd _ _ _,fun k=>?_⟩
   by_cases e:u=k
   ·subst e;rw[jb,jb];rfl
   ·rw[nv e,nv e];rfl
  ·have hb':∀u,t≠.bound u:=fun u h=>hb ⟨u,h⟩
   cases hst:stuck t v with
   |
    true =>
    rw[qa R hb' hst]
    have hz:∀u,cu t u v=[]:=fun u=>by rw[cu,cP (qW hb' u) hst];rfl
    exact⟨.id _ _,fun u=>by rw[hz];rfl⟩
   |
    false =>
    unfold stuck at hst
    split at hst
    ·rename_i a b w
     simp only[Vl.nodes]at hn
     have:=bZ a
     obtain⟨h1,h2⟩:=oG n G a w (by omega)
     rw[yl]
     exact⟨.l h1,fun u=>by rw[kL,kL];exact h2 u⟩
    ·rename_i a b w
     simp only[Vl.nodes]at hn
     have:=bZ b
     obtain⟨h1,h2⟩:=oG n G b w (by omega)
     rw[yE]
     exact⟨.r h1,fun u=>by rw[kK,kK];exact h2 u⟩
    ·rename_i a b x y
     simp only[Vl.nodes]at hn
     have:=bZ a
     have:=bZ b
     have:=aX x
     have:=aX y
     obtain⟨h1,h2⟩:=oG n G a x (by omega)
     obtain⟨h3,h4⟩:=oG n G b y (by omega)
     rw[xH]
     exact⟨.p h1 h3,fun u=>by rw[jC,jC,bJ,h2 u,h4 u]⟩
    ·rename_i b w
     simp only[Vl.nodes]at hn
     have:=bZ b
     obtain⟨h1,h2⟩:=oG n (b::G) b w (by omega)
     have h0:cu b 0 (mm R (b::G) b w).1=(cu b 0 w).map fun e=>(mm R G (.rc b) e).1:=by
      rw[h2 0];exact List.map_congr_left fun e _=>by rw[uA]
     have hin:∀e,e∈cu b 0 w->Sk (.rc b) e (mm R G (.rc b) e).1/\∀u,cu (.rc b) u (mm R G (.rc b) e).1=(cu (.rc b) u e).map fun e=>(gM R G u e).1:=fun e he=>by
      have:=nk he
      exact oG n G (.rc b) e (by simp only[py];omega)
     rw[xh]
     refine⟨.f h1 (by rw[h0,bQ]) fun i e e' q1 q2=>?_,fun u=>?_⟩
     ·rw[h0,List.getElem?_map,q1]at q2
      cases q2
      exact(hin e (List.mem_of_getElem? q1)).1
     ·rw[jt,jt,bJ,h2 (u+1),h0,List.map_congr_left fun e _=>by rw[vA]]
      congr 1
      rw[List.flatMap_map,List.map_flatMap]
      have key:∀l:List Vl,(∀e,e∈l->e∈cu b 0 w)->(l.flatMap fun e=>cu (.rc b) u (mm R G (.rc b) e).1)=l.flatMap fun e=>(cu (.rc b) u e).map fun e=>(gM R G u e).1:=by
       intro l
       induction l with
       |nil=>intro _;rfl
       |cons x l ih=>intro h;rw[aV,aV,(hin x (h x ae)).2 u,ih fun e he=>h e (af _ he)]
      exact key _ fun e he=>he
    ·cases hst
def nA(G:List Ty)(t:Ty)(v:Vl)(u:Nat):Nat:=((cu t u v).map fun e=>(gM R G u e).2).sum
def m8(G:List Ty)(t:Ty)(v:Vl):Nat->Nat
 |0=>0
 |k+1=>m8 G t v k+nA R G t v k
theorem uh{G:List Ty}{t a b:Ty}{v x y:Vl}(h:∀u,nA R G t v u=nA R G a x u+nA R G b y u):∀k,m8 R G t v k=m8 R G a x k+m8 R G b y k
 |0=>rfl
 |k+1=>by rw[m8,m8,m8,uh h k,h k];omega
theorem tE{G:List Ty}{t a:Ty}{v x:Vl}(h:∀u,nA R G t v u=nA R G a x u):∀k,m8 R G t v k=m8 R G a x k
 |0=>rfl
 |k+1=>by rw[m8,m8,tE h k,h k]
theorem oP{G:List Ty}{t:Ty}{v:Vl}:∀k,(∀u,u<k->nA R G t v u=0)->m8 R G t v k=0
 |0,_=>rfl
 |k+1,h=>by rw[m8,oP k fun u hu=>h u (by omega),h k (by omega)]
theorem u7{G:List Ty}{t:Ty}{v:Vl}{c:Nat}:∀k,c<k->(∀u,u≠c->nA R G t v u=0)->m8 R G t v k=nA R G t v c
 |0,h,_=>by omega
 |
  k+1,h,hz=>by
  rw[m8]
  by_cases e:c=k
  ·subst e;rw[oP R c fun u hu=>hz u (by omega)];omega
  ·rw[u7 k (by omega) hz,hz k (Ne.symm e)];omega
theorem su(f:Vl->List Vl)(g:Vl->Nat):∀l:List Vl,((l.flatMap f).map g).sum=(l.map fun e=>((f e).map g).sum).sum
 |[]=>rfl
 |x::l=>by rw[aV,bJ,List.sum_append,su f g l,aS,cq]
theorem sum_add(f g:Vl->Nat):∀l:List Vl,(l.map fun e=>f e+g e).sum=(l.map f).sum+(l.map g).sum
 |[]=>rfl
 |x::l=>by simp only[aS,cq,sum_add f g l];omega
theorem lT:∀(n:Nat) (G:List Ty) (t:Ty) (v:Vl),2*v.nodes+py t<=n->gh t (G.length+1)->(mm R G t v).2=m8 R G t v (G.length+1)
 |0,G,t,v,hn,hl=>by have:=aX v;omega
 |
  n+1,G,t,v,hn,hl=>by
  by_cases hb:∃u,t=.bound u
  ·obtain⟨u,rfl⟩:=hb
   rw[u7 R (c:=u) _ hl fun k hk=>by rw[nA,nv (Ne.symm hk)];rfl,nA,jb]
   simp[gM]
  ·have hb':∀u,t≠.bound u:=fun u h=>hb ⟨u,h⟩
   cases hst:stuck t v with
   |
    true =>
    have hz:∀u,cu t u v=[]:=fun u=>by rw[cu,cP (qW hb' u) hst];rfl
    rw[qa R hb' hst,oP R _ fun u _=>by rw[nA,hz];rfl]
   |
    false =>
    unfold stuck at hst
    split at hst
    ·rename_i a b w
     simp only[Vl.nodes]at hn
     have:=bZ a
     rw[yl,tE R (a:=a) (x:=w) fun u=>by rw[nA,kL];rfl]
     exact lT n G a w (by omega) hl.1
    ·rename_i a b w
     simp only[Vl.nodes]at hn
     have:=bZ b
     rw[yE,tE R (a:=b) (x:=w) fun u=>by rw[nA,kK];rfl]
     exact lT n G b w (by omega) hl.2
    ·rename_i a b x y
     simp only[Vl.nodes]at hn
     have:=bZ a
     have:=bZ b
     have:=aX x
     have:=aX y
     rw[xH,uh R (a:=a) (b:=b) (x:=x) (y:=y) fun u=>by rw[nA,jC,bJ,List.sum_append];rfl]
     simp only
     rw[lT n G a x (by omega) hl.1,lT n G b y (by omega) hl.2]
    ·rename_i b w
     simp only[Vl.nodes]at hn
     have:=bZ b
     rw[xh]
     simp only
     rw[lT n (b::G) b w (by omega) hl]
     have hin:∀e,e∈cu b 0 w->(mm R G (.rc b) e).2=m8 R G (.rc b) e (G.length+1):=fun e he=>by
      have:=nk he
      exact lT n G (.rc b) e (by simp only[py];omega) hl
     have h0:nA R (b::G) b w 0=((cu b 0 w).map fun e=>m8 R G (.rc b) e (G.length+1)).sum:=by
      rw[nA]
      congr 1
      exact List.map_congr_left fun e he=>by rw[uA,hin e he]
     have hs:∀k,nA R G (.rc b) (.f w) k=nA R (b::G) b w (k+1)+((cu b 0 w).map fun e=>nA R G (.rc b) e k).sum:=fun k=>by
      rw[nA,jt,bJ,List.sum_append,su,nA]
      congr 2
      exact List.map_congr_left fun e _=>by rw[vA]
     have key:∀k,m8 R (b::G) b w (k+1)+((cu b 0 w).map fun e=>m8 R G (.rc b) e k).sum=nA R (b::G) b w 0+m8 R G (.rc b) (.f w) k:=by
      intro k
      induction k with
      |
       zero =>
       have z:∀l:List Vl,(l.map fun _=>0).sum=0:=fun l=>by induction l with
        |nil=>rfl
        |cons x l ih=>simpa using ih
       simp only[m8,z];omega
      |
       succ k ih =>
       rw[m8,show m8 R G (.rc b) (.f w) (k+1)=m8 R G (.rc b) (.f w) k+nA R G (.rc b) (.f w) k from rfl,hs k]
       have:((cu b 0 w).map fun e=>m8 R G (.rc b) e (k+1)).sum=((cu b 0 w).map fun e=>m8 R G (.rc b) e k).sum+((cu b 0 w).map fun e=>nA R G (.rc b) e k).sum:=sum_add _ _ _
       omega
     have:=key (G.length+1)
     rw[<-h0]at this
     show m8 R (b::G) b w (G.length+1+1)=_
     omega
    ·cases hst
end
end Go.Proofs.Trees
namespace Go.Proofs.Trees
open Go Go.VL Go.RowKit
inductive pe:AV->List Nat->Prop
 |nil:pe je []
 |cons {m:Nat} {cs:List AV} {e:AV} {ids:List Nat} (hm:m∉ids) (h:pe e ids):pe (.ptr [.pid m cs,e]) (m::ids)
theorem pe.has{a:AV}{ids:List Nat}(h:pe a ids):LK.has .ptr a:=by
 cases h
 ·exact(j1).mpr trivial
 ·exact(fK _).mpr trivial
theorem pe.Jh{M:Mem}{a:AV}{ids:List Nat}(h:pe a ids):∀{v:Value},aW M cR a v->∀b,b∈ids->M.p b:=by
 induction h with
 |nil=>intro v _ b hb;cases hb
 |
  @cons m cs e ids hm h ih =>
  intro v hr b hb
  cases hr with
  |
   ptr _ _ _ off us hc hr =>
   have h0:=hr 0 (by simp)
   have h1:=hr 1 (by simp)
   simp only[aQ,cF]at h0 h1
   rcases aB.1 hb with rfl|hb
   ·generalize us 0=u0 at h0
    cases h0 with
    |pid _ _ _ us hp _ _=>exact hp
   ·exact ih h1 b hb
theorem pe.nodup{a:AV}{ids:List Nat}(h:pe a ids):ids.Nodup:=by
 induction h with
 |nil=>simp
 |cons hm h ih=>exact List.nodup_cons.2 ⟨hm,ih⟩
theorem wy(a b:AV)(S:Nat->Prop)(R:AV->Prop):xX F9 cfg dw (dr dw) [.agg [.x a,.x b]] S (fun o=>az o 7) R =
 .ax (LK.has .ptr a/\a.isNil=false) (.ax (LK.has .ptr a/\a.isNil=false) (.ax (LK.has .ptr ((a.deref.drop 3).headD .any)/\1<=(a.deref.drop 3).length)
  (.ax (∀ids:Nat->Nat,(∀o,¬S (ids o))->(True/\R (.cQ [.agg [(a.deref.drop 3).headD .any,.ptr [.pid (ids 7) [a,b],b]],.pid (ids 7) [a,b]]))) (.done 0 [] [])))):=by kernel_rfl
def D3(t:Ty)(ea:AV)(ids:List Nat):AV->List Ob->Prop:=fun r o=>(∃m,m∉ids/\r=.cQ [.agg [t.av,.ptr [.pid m [(Ty.rc t).av,ea],ea]],.pid m [(Ty.rc t).av,ea]])/\o=[]
theorem D3.ne(t:Ty)(ea:AV)(ids:List Nat):∃r o,D3 t ea ids r o:=by
 have:∃m,m∉ids:=⟨ids.foldr max 0+1,fun h=>by
  have key:∀(l:List Nat) (x:Nat),x∈l->x<=l.foldr max 0:=by
   intro l
   induction l with
   |nil=>intro x hx;cases hx
   |
    cons y l ih =>
    intro x hx
    rcases aB.1 hx with rfl|hx
    ·simp only[List.foldr_cons];omega
    ·have:=ih x hx;simp only[List.foldr_cons];omega
  have:=key _ _ h
  omega⟩
 obtain⟨m,hm⟩:=this
 exact⟨_,_,⟨m,hm,rfl⟩,rfl⟩
theorem EL(t:Ty)(ea:AV)(ids:List Nat)(he:pe ea ids):ay Tryz.prog 18 [.agg [(Ty.rc t).av,ea]] [] (D3 t ea ids):=by
 have hup:tF [.agg [(Ty.rc t).av,ea]] [.agg [.x (Ty.rc t).av,.x ea]]:=aj (dc (aj (ck ((aT _).mpr trivial)) (aj (ck he.has) aG))) aG
 refine ay.up hup ?_
 refine ay.Jl (cfg:=cfg) (F:=dw) (S:=fun b=>b∈ids) (sel:=fun o=>az o 7) rm mixed (by kernel_rfl) (by kernel_rfl) (c:=dr dw) (by kernel_rfl) (by kernel_rfl) (fun M β vs hr b hb=>?_) ?_
 ·have h0:=hr 0 (by simp)
  simp only[aQ]at h0
  obtain⟨us,_,hl,hq,_⟩:=eW h0
  have h1:=hq 1 (by simp at hl |-)
  simp only[cF,aQ]at h1
  cases h1 with
  |x _ _ _ _ h=>exact he.Jh h b hb
 ·rw[wy]
  simp only[Ty.av,↓zq,zs,ah,aT]
  exact⟨by omega,fun ids' hf=>⟨ids' 7,hf 7,rfl⟩⟩
inductive AQ:Tg->List Nat->List UInt8->AV->Prop
 |nm (s:List UInt8) (ids:List Nat):AQ (.nm s) ids s je
 |bd {k:Nat} {ids:List Nat} (hk:k<ids.length) (cs:List AV) (s:List UInt8):AQ (.bd k) ids s (.pid (ids.getD k 0) cs)
theorem AQ.has{tg:Tg}{ids:List Nat}{s:List UInt8}{fr:AV}(h:AQ tg ids s fr):LK.has .ptr fr:=by
 cases h
 ·exact(j1).mpr trivial
 ·exact .inr (.inr ⟨_,_,rfl⟩)
theorem AQ.push{tg:Tg}{ids:List Nat}{s:List UInt8}{fr:AV}(h:AQ tg ids s fr)(m:Nat):AQ tg.up (m::ids) s fr:=by
 cases h with
 |nm=>exact .nm _ _
 |
  @bd k _ hk cs =>
  have:=AQ.bd (k:=k+1) (ids:=m::ids) (by simpa using hk) cs s
  simpa[Tg.up]using this
theorem wv{ids:List Nat}(h:ids.Nodup){i j:Nat}(hi:i<ids.length)(hj:j<ids.length)(he:ids.getD i 0=ids.getD j 0):i=j:=by
 have e1:ids.getD i 0=ids[i]:=by simp[aa,hi]
 have e2:ids.getD j 0=ids[j]:=by simp[aa,hj]
 rw[e1,e2]at he
 have hp:=List.pairwise_iff_getElem.1 h
 rcases Nat.lt_trichotomy i j with hlt|rfl|hlt
 ·exact absurd he (hp i j hi hj hlt)
 ·rfl
 ·exact absurd he.symm (hp j i hj hi hlt)
end Go.Proofs.Trees
namespace Go.Proofs.Trees
open Go Go.VL Go.RowKit
theorem y6(b:Int)(a:AV)(h:LK.ptr.has a):ay Tryz.prog 19 [.v (.int .u8 b),a] [] (bK (.ptr [.v (.int .u8 b),.v (.string (mk [])),a,je])):=by
 refine Ic _ _ h ?_
 simp[Gy,↓zq,zs,ah,bK]
end Go.Proofs.Trees
namespace Go.Proofs.Trees
open Go Go.VL Go.RowKit
theorem km(g:Vl->Vl)(l:List Hl){i:Nat}(hi:i<l.length):eX g (l.drop i)=(g (l[i]).1,(l[i]).2)::eX g (l.drop (i+1)):=by
 rw[aN hi];rfl
theorem jZ(g:Vl->Vl)(l:List Hl):(eX g l).length=l.length:=by simp[eX]
end Go.Proofs.Trees
namespace Go.Proofs.Trees
open Go Go.VL Go.RowKit
abbrev Du(a:Ty)(tg:Tg):Hl->List Hl:=fun h=>eX (fun c=>.f (.r (.p h.1 c))) (bm (.rc a) tg h.2)
theorem Ch(l:List Hl){i:Nat}(hi:i<l.length):l[i]∈l:=cc _
end Go.Proofs.Trees
namespace Go.Proofs.Trees
open Go Go.VL Go.RowKit
theorem AD:∀(v:Vl),v.fI.length<=900000->ay Tryz.prog 17 [v.dF] [] (bK (.v (.string (mk v.fI))))
 | .u,h=>by refine Dk _ ((aY _).mpr trivial) ?_;simp[A7,Vl.dF,↓zq,zs,ah,bK,Vl.fI,Vl.bM,fV]
 | .el k,h=>by refine Dk _ ((aY _).mpr trivial) ?_;simp[A7,Vl.dF,↓zq,zs,ah,bK,Vl.fI,Vl.bM,fV]
 |
  .l v,h=>by
  simp only[Vl.fI,Vl.bM,fV,dH,aw,aq,aM]at h
  refine Dk _ ((aY _).mpr trivial) ?_
  have hb:(⟨(bytesOf [[.v (.int .u8 108)]]).toArray⟩:ByteArray)=mk [108]:=rfl
  have ha:mC [[.v (.int .u8 108)]]:=nH 108
  simp only[A7,Vl.dF,↓zq,zs,ah,aY,dY,hb]
  refine⟨by omega,fun h=>by omega,fun _=>⟨fun h=>by omega,fun _=>⟨fun h=>by omega,fun _=>⟨by omega,ha,by simp[cY],by rw[k8,cY,cY];simp,by omega,?_⟩⟩⟩⟩
  refine al (AD v (by simp only[Vl.fI];omega)) ?_
  simp only[↓zq,zs,ah,zt,bK,Vl.fI,Vl.bM,fV,dH]
  refine⟨by simp;omega,by simp;omega,by simp⟩
 |
  .r v,h=>by
  simp only[Vl.fI,Vl.bM,fV,dH,aw,aq,aM]at h
  refine Dk _ ((aY _).mpr trivial) ?_
  have hb:(⟨(bytesOf [[.v (.int .u8 114)]]).toArray⟩:ByteArray)=mk [114]:=rfl
  have ha:mC [[.v (.int .u8 114)]]:=nH 114
  simp only[A7,Vl.dF,↓zq,zs,ah,aY,dY,hb]
  refine⟨by omega,fun h=>by omega,fun _=>⟨fun h=>by omega,fun _=>⟨fun h=>by omega,fun _=>⟨by omega,ha,by simp[cY],by rw[k8,cY,cY];simp,by omega,?_⟩⟩⟩⟩
  refine al (AD v (by simp only[Vl.fI];omega)) ?_
  simp only[↓zq,zs,ah,zt,bK,Vl.fI,Vl.bM,fV,dH]
  refine⟨by simp;omega,by simp;omega,by simp⟩
 |
  .f v,h=>by
  simp only[Vl.fI,Vl.bM,fV,dH,aw,aq,aM]at h
  refine Dk _ ((aY _).mpr trivial) ?_
  have hb:(⟨(bytesOf [[.v (.int .u8 102)]]).toArray⟩:ByteArray)=mk [102]:=rfl
  have ha:mC [[.v (.int .u8 102)]]:=nH 102
  simp only[A7,Vl.dF,↓zq,zs,ah,aY,dY,hb]
  refine⟨by omega,fun h=>by omega,fun _=>⟨fun h=>by omega,fun _=>⟨fun h=>by omega,fun _=>⟨by omega,ha,by simp[cY],by rw[k8,cY,cY];simp,by omega,?_⟩⟩⟩⟩
  refine al (AD v (by simp only[Vl.fI];omega)) ?_
  simp only[↓zq,zs,ah,zt,bK,Vl.fI,Vl.bM,fV,dH]
  refine⟨by simp;omega,by simp;omega,by simp⟩
 |
  .p a b,h=>by
  simp only[Vl.fI,Vl.bM,fV,dH,aw,aq,aM]at h
  refine Dk _ ((aY _).mpr trivial) ?_
  simp only[A7,Vl.dF,↓zq,zs,ah,aY,dY]
  refine⟨by omega,fun h=>by omega,fun _=>⟨fun h=>by omega,fun _=>⟨fun _=>⟨by omega,?_⟩,fun h=>absurd rfl h⟩⟩⟩
  refine al (AD a (by simp only[Vl.fI];omega)) ?_
  simp only[↓zq,zs,ah,zt,aY,Vl.fI]
  refine⟨by simp;omega,by simp;omega,by omega,?_⟩
  refine al (AD b (by simp only[Vl.fI];omega)) ?_
  simp only[↓zq,zs,ah,zt,bK,Vl.fI,Vl.bM,fV,dH]
  refine⟨by simp;omega,by simp;omega,by simp⟩
def z7:Option (List UInt8)->AV
 |some s=>.cQ [.v (.string (mk s)),.v (.bool true)]
 |none=>.cQ [.v (.string (mk [])),.v (.bool false)]
theorem HA(v:Vl)(hb:v.fe 100)(hn:v.nodes<100000):ay Tryz.prog 21 [v.dF] [] (bK (z7 (if v.nodes<=200 then some v.fI else none))):=by
 refine H5 _ ((aY _).mpr trivial) ?_
 unfold DE
 refine al (Cg v (by omega)) ?_
 simp only[↓zq,zs,ah,bK]
 refine⟨fun h=>?_,fun h=>?_⟩
 ·rw[if_neg (by omega)];rfl
 ·have:=gA v hb
  refine al (AD v (by omega)) ?_
  rw[if_pos (by omega)]
  simp only[↓zq,zs,ah,z7]
end Go.Proofs.Trees
namespace Go.Proofs.Trees
open Go Go.VL Go.RowKit
def back(n:Nat):Ty->Nat->Vl
 | .name _,c=>.el c
 | .plus a b,c=>match Dy n a with|some x=>if c<x then .l (back n a c)else .r (back n b (c-x))|none=>.u
 | .times a b,c=>match Dy n b with|some y=>.p (back n a (c/y)) (back n b (c%y))|none=>.u
 |_,_=>.u
theorem vc:∀l:List E,cN 2 (E.a7 l)
 |[]=>fun c hc=>by cases hc
 |
  e::l=>fun c hc=>by
  simp only[E.a7,aB]at hc
  rcases hc with rfl|hc
  ·exact fb e
  ·exact vc l c hc
theorem Ee(w:List UInt8)(l:List E)(hl:l.length<1000000):ay Tryz.prog 35 [.v (.string (mk w)),.sl (E.a7 l)] [] (bK (E.ja (.list (.atom w::l)))):=by
 refine Hg _ _ ((cG _).mpr trivial) ?_
 simp only[D7,↓zq,zs,ah,dP,bK,E.ja,E.gn,E.a7]
 exact⟨⟨vc l,by omega⟩,rfl⟩
end Go.Proofs.Trees
namespace Go.Proofs.Trees
open Go Go.VL Go.RowKit
def jN(l:List Hl):List (List AV):=l.map fun h=>[.v (.string (mk h.1.bM.at)),h.1.bM.sp,.v (.string (mk h.2.bM.at)),h.2.bM.sp]
theorem eh(l:List Hl):(jN l).length=l.length:=by simp[jN]
theorem fk{l:List Hl}{i:Nat}(hi:i<l.length):(jN l).getD i []=[.v (.string (mk (l[i]).1.bM.at)),(l[i]).1.bM.sp,.v (.string (mk (l[i]).2.bM.at)),(l[i]).2.bM.sp]:=by simp[jN,aa,hi]
theorem lZ(out:List Hl)(a b:Vl):jN out++[[.v (.string (mk a.bM.at)),a.bM.sp,.v (.string (mk b.bM.at)),b.bM.sp]]=jN (out++[(a,b)]):=by simp[jN]
theorem vP(a b c d:AV):cN 4 [[a,b,c,d]]:=fun x hx=>by simp at hx;rw[hx];rfl
theorem bj(s:ByteArray)(e:E):bT [.str,.sl] [.v (.string s),e.sp] 0=True:=by simp[bT,dU,bE]
theorem iJ(s:ByteArray)(e:E)(x y:AV):bT [.str,.sl] [.v (.string s),e.sp,x,y] 0=True:=by simp[bT,dU,bE]
theorem wI(w:List UInt8)(e:E):ay Tryz.prog 35 [.v (.string (mk w)),.sl [[.v (.string (mk e.at)),e.sp]]] [] (bK (.agg [.v (.string (mk [])),(E.list [.atom w,e]).sp])):=by
 have:=Ee w [e] (by simp)
 simpa only[E.a7,jw,dD,E.at]using this
theorem FB(w:List UInt8)(e e':E):ay Tryz.prog 35 [.v (.string (mk w)),.sl [[.v (.string (mk e.at)),e.sp],[.v (.string (mk e'.at)),e'.sp]]] [] (bK (.agg [.v (.string (mk [])),(E.list [.atom w,e,e']).sp])):=by
 have:=Ee w [e,e'] (by simp)
 simpa only[E.a7,jw,dD,E.at]using this
def P3(pv:AV)(a b:E):Prop:=LK.sl.has pv/\pv.elems.length=3/\pv.elems.getD 1 []=[.v (.string (mk a.at)),a.sp]/\pv.elems.getD 2 []=[.v (.string (mk b.at)),b.sp]
theorem P3.of(x a b:E):P3 (E.list [x,a,b]).sp a b:=⟨by simp[E.sp,cG],by simp[E.sp,E.a7,fR],by simp[E.sp,E.a7,fR,jw],by simp[E.sp,E.a7,fR,jw]⟩
def P2(pv:AV)(a:E):Prop:=LK.sl.has pv/\pv.elems.length=2/\pv.elems.getD 1 []=[.v (.string (mk a.at)),a.sp]
theorem P2.of(x a:E):P2 (E.list [x,a]).sp a:=⟨by simp[E.sp,cG],by simp[E.sp,E.a7,fR],by simp[E.sp,E.a7,fR,jw]⟩
theorem DO(w:List UInt8)(g:Vl->Vl)(hg:∀c,(g c).bM=.list [.atom w,c.bM])(l:List Hl)(hl:l.length<=1000000):∀(k i:Nat) (out:List Hl),i+k=l.length->out.length+k<=1000000 ->
 Bd [.sl (jN l),.v (.string (mk w)),.v (.int .i64 (i:Int))] [.vec 4 (jN out)] (kq 1 [] [.vec 4 (jN (out++eX g (l.drop i)))])
 |
  0,i,out,hi,ho=>by
  refine ET _ _ _ _ ?_
  have:i=l.length:=by omega
  subst this
  simp only[CH,↓zq,zs,ah,eh]
  exact⟨fun h=>by omega,fun _=>by simp[kq,eX]⟩
 |
  k+1,i,out,hi,ho=>by
  have hlt:i<l.length:=by omega
  refine ET _ _ _ _ ?_
  simp only[CH,↓zq,zs,ah,zt,eh,fk hlt,iJ,bj]
  refine⟨fun _=>?_,fun h=>by omega⟩
  repeat refine⟨by omega,?_⟩
  refine al (wI _ _) ?_
  simp only[↓zq,zs,ah,bj]
  repeat refine⟨by omega,?_⟩
  refine⟨⟨vP _ _ _ _,by omega⟩,?_⟩
  rw[bW i (by omega)]
  have:=DO w g hg l hl k (i+1) (out++[(g (l[i]).1,(l[i]).2)]) (by omega) (by simp;omega)
  rw[bH,<-lZ,hg]at this
  rw[km g l hlt]
  exact this
theorem GN(w:List UInt8)(g:Vl->Vl)(hg:∀c,(g c).bM=.list [.atom w,c.bM])(l out:List Hl)(hl:out.length+l.length<=1000000) :
 ay Tryz.prog 60 [.sl (jN l),.v (.string (mk w)),.vec 0] [.vec 4 (jN out)] (ic (.vec 1) [.dead,.vec 4 (jN (out++eX g l))]):=by
 refine Hx _ _ _ ((cG _).mpr trivial) ?_
 simp only[DD,↓zq,zs,ah]
 have h:=DO w g hg l (by omega) l.length 0 out (by omega) (by omega)
 rw[bw]at h
 refine df h ?_
 simp[↓zq,zs,ah,ic]
theorem Gk(s:List UInt8)(ta:ByteArray)(tp:AV)(ht:LK.sl.has tp)(va:ByteArray)(vp:AV)(x y:Vl)(hp:P3 vp x.bM y.bM)(l:List Hl)(hl:l.length<=1000000):∀(k i:Nat) (out:List Hl),i+k=l.length->out.length+k<=1000000 ->
 Cc [.v (.string (mk s)),.sl (jN l),.v (.int .i64 (i:Int))] [.cells [.v (.string ta),tp],.cells [.v (.string va),vp],.vec 4 (jN out)] (kq 1 [.v (.string (mk s))] [.cells [.v (.string ta),tp],.cells [.v (.string va),vp],.vec 4 (jN (out++eX (fun c=>Vl.l (.p c y)) (l.drop i)))])
 |
  0,i,out,hi,ho=>by
  refine GK _ _ _ _ _ _ _ _ ?_
  have:i=l.length:=by omega
  subst this
  simp only[C3,↓zq,zs,ah,eh,ht,bE,ah,hp.1]
  exact⟨fun h=>by omega,fun _=>by simp[kq,eX]⟩
 |
  k+1,i,out,hi,ho=>by
  have hlt:i<l.length:=by omega
  refine GK _ _ _ _ _ _ _ _ ?_
  simp only[C3,↓zq,zs,ah,zt,eh,fk hlt,iJ,bj,fk,ht,bE,ah,hp.1,toNat_one,bG,hp.1,hp.2.1,hp.2.2.1,hp.2.2.2]
  refine⟨fun _=>?_,fun h=>by omega⟩
  repeat refine⟨by omega,?_⟩
  refine al (FB _ _ _) ?_
  simp only[↓zq,zs,ah,bj]
  repeat refine⟨by omega,?_⟩
  refine al (wI [108] (E.list [.atom [112],(l[i]).1.bM,y.bM])) ?_
  simp only[↓zq,zs,ah,bj]
  repeat refine⟨by omega,?_⟩
  refine⟨⟨vP _ _ _ _,by omega⟩,?_⟩
  rw[bW i (by omega)]
  have:=Gk s ta tp ht va vp x y hp l hl k (i+1) (out++[((fun c=>Vl.l (.p c y)) (l[i]).1,(l[i]).2)]) (by omega) (by simp;omega)
  rw[bH,<-lZ]at this
  rw[km (fun c=>Vl.l (.p c y)) l hlt]
  exact this
theorem Gz(va:ByteArray)(vp:AV)(x y:Vl)(hp:P3 vp x.bM y.bM)(l:List Hl)(hl:l.length<=1000000):∀(k i:Nat) (out:List Hl),i+k=l.length->out.length+k<=1000000 ->
 C2 [.sl (jN l),.v (.int .i64 (i:Int))] [.cells [.v (.string va),vp],.vec 4 (jN out)] (kq 1 [] [.vec 4 (jN (out++eX (fun c=>Vl.r (.p x c)) (l.drop i)))])
 |
  0,i,out,hi,ho=>by
  refine FI _ _ _ _ _ ?_
  have:i=l.length:=by omega
  subst this
  simp only[Cp,↓zq,zs,ah,eh,bE,ah,hp.1]
  exact⟨fun h=>by omega,fun _=>by simp[kq,eX]⟩
 |
  k+1,i,out,hi,ho=>by
  have hlt:i<l.length:=by omega
  refine FI _ _ _ _ _ ?_
  simp only[Cp,↓zq,zs,ah,zt,eh,fk hlt,iJ,bj,fk,bE,ah,hp.1,toNat_one,bG,hp.1,hp.2.1,hp.2.2.1,hp.2.2.2]
  refine⟨fun _=>?_,fun h=>by omega⟩
  repeat refine⟨by omega,?_⟩
  refine al (FB _ _ _) ?_
  simp only[↓zq,zs,ah,bj]
  repeat refine⟨by omega,?_⟩
  refine al (wI [114] (E.list [.atom [112],x.bM,(l[i]).1.bM])) ?_
  simp only[↓zq,zs,ah,bj]
  repeat refine⟨by omega,?_⟩
  refine⟨⟨vP _ _ _ _,by omega⟩,?_⟩
  rw[bW i (by omega)]
  have:=Gz va vp x y hp l hl k (i+1) (out++[((fun c=>Vl.r (.p x c)) (l[i]).1,(l[i]).2)]) (by omega) (by simp;omega)
  rw[bH,<-lZ]at this
  rw[km (fun c=>Vl.r (.p x c)) l hlt]
  exact this
theorem DY(s s2:List UInt8)(ta:ByteArray)(tp:AV)(ht:LK.sl.has tp)(va:ByteArray)(vp:AV)(hp:LK.sl.has vp)(l:List Hl)(hl:l.length<=1000000):∀(k i:Nat) (out:List Hl),i+k=l.length->out.length+k<=1000000 ->
 Bc [.v (.string (mk s)),.v (.string (mk s2)),.sl (jN l),.v (.int .i64 (i:Int))] [.cells [.v (.string ta),tp],.cells [.v (.string va),vp],.vec 4 (jN out)] (kq 1 [.v (.string (mk s)),.v (.string (mk s2))] [.cells [.v (.string ta),tp],.cells [.v (.string va),vp],.vec 4 (jN (out++eX (fun c=>Vl.f (.l c)) (l.drop i)))])
 |
  0,i,out,hi,ho=>by
  refine E4 _ _ _ _ _ _ _ _ _ ?_
  have:i=l.length:=by omega
  subst this
  simp only[CF,↓zq,zs,ah,eh,ht,bE,ah,hp]
  exact⟨fun h=>by omega,fun _=>by simp[kq,eX]⟩
 |
  k+1,i,out,hi,ho=>by
  have hlt:i<l.length:=by omega
  refine E4 _ _ _ _ _ _ _ _ _ ?_
  simp only[CF,↓zq,zs,ah,zt,eh,fk hlt,iJ,bj,fk,ht,bE,ah,hp]
  refine⟨fun _=>?_,fun h=>by omega⟩
  repeat refine⟨by omega,?_⟩
  refine al (wI _ _) ?_
  simp only[↓zq,zs,ah,bj]
  repeat refine⟨by omega,?_⟩
  refine al (wI [102] (E.list [.atom [108],(l[i]).1.bM])) ?_
  simp only[↓zq,zs,ah,bj]
  repeat refine⟨by omega,?_⟩
  refine⟨⟨vP _ _ _ _,by omega⟩,?_⟩
  rw[bW i (by omega)]
  have:=DY s s2 ta tp ht va vp hp l hl k (i+1) (out++[((fun c=>Vl.f (.l c)) (l[i]).1,(l[i]).2)]) (by omega) (by simp;omega)
  rw[bH,<-lZ]at this
  rw[km (fun c=>Vl.f (.l c)) l hlt]
  exact this
theorem Es(s:List UInt8)(L:AV)(q:Nat)(kc:Vl)(kv:Vl)(hL:LK.sl.has L)(hq:q<L.elems.length)(hg:L.elems.getD q []=[.v (.string (mk kc.bM.at)),kc.bM.sp,.v (.string (mk kv.bM.at)),kv.bM.sp])(ta:ByteArray)(tp:AV)(ht:LK.sl.has tp)(l:List Hl)(hl:l.length<=1000000):∀(k i:Nat) (out:List Hl),i+k=l.length->out.length+k<=1000000 ->
 Cr [.v (.string (mk s)),L,.v (.int .i64 (q:Int)),.sl (jN l),.v (.int .i64 (i:Int))] [.cells [.v (.string ta),tp],.vec 4 (jN out)] (kq 1 [.v (.string (mk s)),L,.v (.int .i64 (q:Int))] [.cells [.v (.string ta),tp],.vec 4 (jN (out++eX (fun c=>Vl.f (.r (.p kc c))) (l.drop i)))])
 |
  0,i,out,hi,ho=>by
  refine Gu _ _ _ _ _ _ _ _ ?_
  have:i=l.length:=by omega
  subst this
  simp only[B3,↓zq,zs,ah,eh,ht,bE,ah,hL]
  exact⟨fun h=>by omega,fun _=>by simp[kq,eX]⟩
 |
  k+1,i,out,hi,ho=>by
  have hlt:i<l.length:=by omega
  refine Gu _ _ _ _ _ _ _ _ ?_
  simp only[B3,↓zq,zs,ah,zt,eh,fk hlt,iJ,bj,fk,ht,bE,ah,hL,hg]
  refine⟨fun _=>?_,fun h=>by omega⟩
  repeat refine⟨by omega,?_⟩
  refine al (FB _ _ _) ?_
  simp only[↓zq,zs,ah,bj]
  repeat refine⟨by omega,?_⟩
  refine al (wI [114] (E.list [.atom [112],kc.bM,(l[i]).1.bM])) ?_
  simp only[↓zq,zs,ah,bj]
  repeat refine⟨by omega,?_⟩
  refine al (wI [102] (E.list [.atom [114],E.list [.atom [112],kc.bM,(l[i]).1.bM]])) ?_
  simp only[↓zq,zs,ah,bj]
  repeat refine⟨by omega,?_⟩
  refine⟨⟨vP _ _ _ _,by omega⟩,?_⟩
  rw[bW i (by omega)]
  have:=Es s L q kc kv hL hq hg ta tp ht l hl k (i+1) (out++[((fun c=>Vl.f (.r (.p kc c))) (l[i]).1,(l[i]).2)]) (by omega) (by simp;omega)
  rw[bH,<-lZ]at this
  rw[km (fun c=>Vl.f (.r (.p kc c))) l hlt]
  exact this
theorem Gp(s:List UInt8)(te:E)(a:Ty)(tg:Tg)(l:List Hl)(hl:l.length<=1000000)(ih:∀h,h∈l->ay Tryz.prog 34 [.agg [.v (.string (mk te.at)),te.sp],.v (.string (mk s)),.agg [.v (.string (mk h.2.bM.at)),h.2.bM.sp]] [] (bK (.sl (jN (bm (.rc a) tg h.2))))) :
 ∀(k i:Nat) (out:List Hl),i+k=l.length->(out++(l.drop i).flatMap (Du a tg)).length<=1000000 ->
 BR [.v (.string (mk s)),.sl (jN l),.v (.int .i64 (i:Int))] [.cells [.v (.string (mk te.at)),te.sp],.vec 4 (jN out)] (kq 1 [] [.vec 4 (jN (out++(l.drop i).flatMap (Du a tg)))])
 |
  0,i,out,hi,ho=>by
  refine EU _ _ _ _ _ _ ?_
  have:i=l.length:=by omega
  subst this
  simp only[B6,↓zq,zs,ah,eh,bE,ah]
  exact⟨fun h=>by omega,fun _=>by simp[kq]⟩
 |
  k+1,i,out,hi,ho=>by
  have hlt:i<l.length:=by omega
  have hd:(l.drop i).flatMap (Du a tg)=Du a tg (l[i])++(l.drop (i+1)).flatMap (Du a tg):=by rw[aN hlt,aV]
  rw[hd]at ho |-
  refine EU _ _ _ _ _ _ ?_
  simp only[B6,↓zq,zs,ah,zt,eh,fk hlt,iJ,bj,bE,ah]
  refine⟨fun _=>?_,fun h=>by omega⟩
  repeat refine⟨by omega,?_⟩
  refine al (ih _ (Ch l hlt)) ?_
  simp only[↓zq,zs,ah]
  have hb:out.length+(bm (.rc a) tg (l[i]).2).length<=1000000:=by
   simp only[aq,jZ]at ho;omega
  have h5:=Es s (.sl (jN l)) i (l[i]).1 (l[i]).2 ((cG _).mpr trivial) (by rw[fR,eh];omega) (by rw[fR,fk hlt]) (mk te.at) te.sp ((bE _).mpr trivial) (bm (.rc a) tg (l[i]).2) (by omega) (bm (.rc a) tg (l[i]).2).length 0 out (by omega) (by omega)
  rw[bw]at h5
  refine df h5 ?_
  simp only[↓zq,zs,ah,bE,ah]
  repeat refine⟨by omega,?_⟩
  rw[bW i (by omega),<-bH]
  exact Gp s te a tg l hl ih k (i+1) _ (by omega) (by rw[bH];exact ho)
end Go.Proofs.Trees
namespace Go.Proofs.Trees
open Go Go.VL Go.RowKit
abbrev Jn:AV:=.v (.slice none 0 0)
end Go.Proofs.Trees
namespace Go.Proofs.Trees
open Go Go.VL Go.RowKit
def iK(t:Ty):Prop:=gh t 0/\∀y,bU y t=true->zU y
theorem gG:∀(t:Ty) {i j:Nat},gh t i->i<=j->gh t j
 | .bound u,i,j,h,hj=>cx h hj
 | .plus a b,i,j,h,hj=>⟨gG a h.1 hj,gG b h.2 hj⟩
 | .times a b,i,j,h,hj=>⟨gG a h.1 hj,gG b h.2 hj⟩
 | .rc a,i,j,h,hj=>gG (i:=i+1) (j:=j+1) a h (by omega)
 | .zero,_,_,_,_=>trivial
 | .one,_,_,_,_=>trivial
 | .name _,_,_,_,_=>trivial
theorem kR(x:Nm):∀(t:Ty) {i:Nat},gh t (i+1)->gh (i0 (.name x) t i) i
 |
  .bound u,i,h=>by
  simp only[i0]
  split
  ·trivial
  ·have:u<i+1:=h
   show u<i;omega
 | .plus a b,i,h=>⟨kR x a h.1,kR x b h.2⟩
 | .times a b,i,h=>⟨kR x a h.1,kR x b h.2⟩
 | .rc a,i,h=>kR x (i:=i+1) a h
 | .zero,_,_=>trivial
 | .one,_,_=>trivial
 | .name _,_,_=>trivial
theorem kQ{x:Nm}{u:Ty}(hu:gh u 0):∀(t:Ty) {i:Nat},gh t i->gh (sub x u t) i
 | .name s,i,_=>by simp only[sub];split;exact gG u hu (dj _);trivial
 | .plus a b,i,h=>⟨kQ hu a h.1,kQ hu b h.2⟩
 | .times a b,i,h=>⟨kQ hu a h.1,kQ hu b h.2⟩
 | .rc a,i,h=>kQ hu (i:=i+1) a h
 | .zero,_,_=>trivial
 | .one,_,_=>trivial
 | .bound _,_,h=>h
theorem Dv.lc{t d:Ty}{s:Nm}(h:Dv t s d):gh t 0->gh d 0:=by
 induction h with
 |zero s=>exact fun _=>trivial
 |one s=>exact fun _=>trivial
 |bound k s=>exact fun _=>trivial
 |hit s=>exact fun _=>trivial
 |tK h=>exact fun _=>trivial
 |plus h1 h2 hl i1 i2=>exact fun h=>⟨i1 h.1,i2 h.2⟩
 |times h1 h2 hl i1 i2=>exact fun h=>⟨⟨i1 h.1,h.2⟩,h.1,i2 h.2⟩
 |
  rc x hx hs h1 h2 hl i1 i2 =>
  intro h
  have g1:=kQ (x:=x) h _ (i1 (kR x _ h))
  have g2:=kQ (x:=x) h _ (i2 (kR x _ h))
  exact⟨gG _ g1 (by omega),gG _ g2 (by omega),Nat.zero_lt_one⟩
theorem Wf.FR{e:E}(h:Wf e):iK (kH e []):=⟨wN h [],fun y hy=>(wF h [] y hy).1⟩
theorem iK.dv{t d:Ty}{s:Nm}(g:iK t)(h:Dv t s d):iK d:=⟨h.lc g.1,fun y hy=>g.2 y (h.names y hy)⟩
theorem iK.tree{t:Ty}(g:iK t):∃e,Wf e/\kH e []=t:=by
 obtain⟨h1,h2,_⟩:=lQ (bn t []) t [] 0 (.nil _ _) g.1 fun y hy=>⟨(eK t [] y).2 (.inr hy),g.2 y hy⟩
 exact⟨_,h1,h2⟩
theorem iK.sub{x:Nm}{u t:Ty}(hu:iK u)(ht:iK t):iK (sub x u t):=⟨kQ hu.1 t ht.1,fun y hy=>by
 rcases gz t hy with h|h
 ·exact hu.2 y h
 ·exact ht.2 y h.2⟩
def Dl(o:Option Ty):AV->List Ob->Prop:=fun r ob=>ob=[]/\∃(c:Nm) (d:AV),LK.sl.has d/\r=.cQ [.agg [.v (.string (mk c)),d],.v (.bool o.isSome)]/\∀t,o=some t->∃e,Wf e/\kH e []=t/\c=e.at/\d=e.sp
theorem Dl.ne{o:Option Ty}(h:∀t,o=some t->iK t):∃r ob,Dl o r ob:=by
 cases o with
 |none=>exact⟨_,_,rfl,[],Jn,(bF).mpr trivial,rfl,fun t h=>by cases h⟩
 |
  some t =>
  obtain⟨e,h1,h2⟩:=(h t rfl).tree
  exact⟨_,_,rfl,e.at,e.sp,(bE _).mpr trivial,rfl,fun t' h'=>by cases h';exact⟨e,h1,h2,rfl,rfl⟩⟩
theorem Dl.of{e:E}(h:Wf e):Dl (some (kH e [])) (.cQ [.agg [.v (.string (mk e.at)),e.sp],.v (.bool true)]) [] :=
 ⟨rfl,e.at,e.sp,(bE _).mpr trivial,rfl,fun t h'=>by cases h';exact⟨e,h,rfl,rfl,rfl⟩⟩
theorem Dl.no(c:Nm)(d:AV)(hd:LK.sl.has d):Dl none (.cQ [.agg [.v (.string (mk c)),d],.v (.bool false)]) [] :=
 ⟨rfl,c,d,hd,rfl,fun t h'=>by cases h'⟩
end Go.Proofs.Trees
namespace Go.Proofs.Trees
open Go Go.VL Go.RowKit
theorem Wf.yq{e:E}(h:Wf e){t:Ty}(ht:kH e []=t)(hl:t.atoms<=400):e.jE<=400:=by rw[h.jE [],ht];exact hl
end Go.Proofs.Trees
namespace Go.Proofs.Trees
open Go Go.VL Go.RowKit
inductive Sh:E->Prop
 |atom {s:Nm} (h:s.length<=20):Sh (.atom s)
 |l3 {h:Nm} {a b:E} (hh:h.length<=20) (ha:Sh a) (hb:Sh b):Sh (.list [.atom h,a,b])
theorem Sh.fI{e:E}(hw:Wf e)(h:Sh e):(fV e).length<=50*e.jE:=by
 induction hw with
 |atom _=>cases h with|atom h=>simp only[fV,E.jE];omega
 |
  plus _ _ i1 i2 =>
  cases h with|l3 hh ha hb =>
  have:=i1 ha
  have:=i2 hb
  simp only[fV,dH,aw,aq,aM,E.jE,E.iT];omega
 |
  times _ _ i1 i2 =>
  cases h with|l3 hh ha hb =>
  have:=i1 ha
  have:=i2 hb
  simp only[fV,dH,aw,aq,aM,E.jE,E.iT];omega
 |
  rc _ _ i =>
  cases h with|l3 hh ha hb =>
  cases ha with|atom ha =>
  have:=i hb
  simp only[fV,dH,aw,aq,aM,E.jE,E.iT];omega
def IZ(t:Ty):Prop:=∀y,bU y t=true->y.length<=20
def I0(t:Ty):Nm:=fV (pG (bn t []) t [] 0).1
def told(t:Ty):Option Nm:=if t.atoms<=400/\(sZ (I0 t)).isSome=true then some (I0 t)else none
abbrev yj:Nm:=[35,49]
noncomputable def rr (s:Nm):Option Nm:=match sZ s with
 |some (.rc a)=>(Dp a yj).bind told
 |_=>none
theorem tb{s:Nm}{t:Ty}(h:sZ s=some t):∃e,ve s=some e/\Wf e/\kH e []=t/\e.jE<=400/\e.ok:=by
 rw[tR]at h
 cases he:ve s with
 |none=>rw[he]at h;cases h
 |
  some e =>
  rw[he]at h
  obtain⟨h1,h2,h3⟩:=oM he
  obtain⟨hok,_⟩:=lD h1
  obtain⟨w1,w2⟩:=j6 e [] t hok (fun w hw=>by cases hw) h
  exact⟨e,rfl,w1,w2,h3,hok⟩
theorem xw{e:E}{x:Nm}{a d:Ty}(hw:Wf e)(ht:kH e []=.rc a)(hx:zU x)(hd:Dp a x=some d):iK d/\(IZ (.rc a)->IZ d):=by
 simp only[Dp,Option.bind_eq_some_iff,vj,sO]at hd
 obtain⟨d',h1,_,rfl⟩:=hd
 have g:iK (.rc a):=ht ▸ hw.FR
 have go:iK (i0 (.name x) a 0):=⟨kR x a g.1,fun y hy=>by
  rcases gF a 0 hy with rfl|h
  ·exact hx
  ·exact g.2 y h⟩
 refine⟨g.sub (go.dv h1),fun hs y hy=>?_⟩
 rcases gz _ hy with h|⟨h,h'⟩
 ·exact hs y h
 ·rcases gF a 0 (h1.names y h')with e|e
  ·exact absurd e h
  ·exact hs y e
def G4(y:Nm):Prop:=fC y=true\/cC y=true
theorem gj:∀(e:E) (ar:List Nm) (t:Ty),cf e ar=some t->∀y,bU y t=true->G4 y
 |
  .atom s,ar,t,ht,y,hy=>by
  simp only[cf]at ht
  split at ht
  ·cases ht;cases hy
  ·split at ht
   ·cases ht;cases hy
   ·split at ht
    ·rename_i hp
     cases ht
     simp only[bU,decide_eq_true_eq]at hy
     subst hy;exact .inl hp
    ·split at ht
     ·rename_i hq
      split at ht
      ·cases ht;cases hy
      ·cases ht
       simp only[bU,decide_eq_true_eq]at hy
       subst hy;exact .inr hq
     ·cases ht
 |
  .list [x,a,b],ar,t,ht,y,hy=>by
  by_cases h0:x.at=[43]
  ·obtain⟨t1,t2,h1,h2,rfl⟩:=ep h0 ht
   simp only[bU,br]at hy
   rcases hy with hy|hy
   ·exact gj a ar t1 h1 y hy
   ·exact gj b ar t2 h2 y hy
  ·by_cases h1:x.at=[42]
   ·obtain⟨t1,t2,h2,h3,rfl⟩:=dW h1 ht
    simp only[bU,br]at hy
    rcases hy with hy|hy
    ·exact gj a ar t1 h2 y hy
    ·exact gj b ar t2 h3 y hy
   ·by_cases h2:x.at=[114,101,99]
    ·obtain⟨t1,hla,h3,rfl⟩:=cI h2 ht
     exact gj b _ t1 h3 y hy
    ·rw[gC _ h0 h1 h2]at ht;cases ht
 | .list [],ar,t,ht,_,_=>by cases ht
 | .list [_],ar,t,ht,_,_=>by cases ht
 | .list [_,_],ar,t,ht,_,_=>by cases ht
 | .list (_::_::_::_::_),ar,t,ht,_,_=>by cases ht
theorem vF{s:Nm}{t:Ty}(h:sZ s=some t):∀y,bU y t=true->G4 y:=by
 rw[tR]at h
 cases he:ve s with
 |none=>rw[he]at h;cases h
 |some e=>rw[he]at h;exact gj e [] t h
end Go.Proofs.Trees
namespace Go.Proofs.Trees
open Go Go.VL Go.RowKit
def vT(n:Nat):Vl->Ty->Bool
 | .u,.one=>true
 | .el k,.name _=>decide (k<n)
 | .l w,.plus a _=>vT n w a
 | .r w,.plus _ b=>vT n w b
 | .p x y,.times a b=>vT n x a&&vT n y b
 | .f w,.rc a=>vT n w (i0 (.rc a) a 0)
 |_,_=>false
def cls(us:List Ty):Ty->Nat->Ty
 | .bound k,i=>if k<i then .bound k else us.getD (k-i) .zero
 | .plus a b,i=>.plus (cls us a i) (cls us b i)
 | .times a b,i=>.times (cls us a i) (cls us b i)
 | .rc a,i=>.rc (cls us a (i+1))
 |t,_=>t
def uT:List Fr->List Ty
 |[]=>[]
 |f::r=>cls (uT r) (uZ f.ex r) 0::uT r
theorem na(u:Ty):∀(t:Ty) {i:Nat},gh t i->i0 u t i=t
 | .bound k,i,h=>by simp only[i0];rw[if_neg (by have:k<i:=h;omega)]
 | .plus a b,i,h=>by simp only[i0];rw[na u a h.1,na u b h.2]
 | .times a b,i,h=>by simp only[i0];rw[na u a h.1,na u b h.2]
 | .rc a,i,h=>by simp only[i0];rw[na u a (i:=i+1) h]
 | .zero,_,_=>rfl
 | .one,_,_=>rfl
 | .name _,_,_=>rfl
theorem lJ(us:List Ty):∀(t:Ty) {i:Nat},gh t i->cls us t i=t
 | .bound k,i,h=>by simp only[cls];rw[if_pos (by have:k<i:=h;omega)]
 | .plus a b,i,h=>by simp only[cls];rw[lJ us a h.1,lJ us b h.2]
 | .times a b,i,h=>by simp only[cls];rw[lJ us a h.1,lJ us b h.2]
 | .rc a,i,h=>by simp only[cls];rw[lJ us a (i:=i+1) h]
 | .zero,_,_=>rfl
 | .one,_,_=>rfl
 | .name _,_,_=>rfl
theorem uy{us:List Ty}(hu:∀u,u∈us->gh u 0)(k:Nat):gh (us.getD k .zero) 0:=by
 by_cases h:k<us.length
 ·rw[aa,aO h];exact hu _ (cc h)
 ·rw[aa,List.getElem?_eq_none (by omega)];trivial
theorem lB{us:List Ty}(hu:∀u,u∈us->gh u 0):∀(t:Ty) (i:Nat),gh (cls us t i) i
 |
  .bound k,i=>by
  simp only[cls]
  split
  ·rename_i h;exact h
  ·exact gG _ (uy hu _) (dj _)
 | .plus a b,i=>⟨lB hu a i,lB hu b i⟩
 | .times a b,i=>⟨lB hu a i,lB hu b i⟩
 | .rc a,i=>lB hu a (i+1)
 | .zero,_=>trivial
 | .one,_=>trivial
 | .name _,_=>trivial
theorem jW{us:List Ty}(hu:∀u,u∈us->gh u 0)(U:Ty):∀(t:Ty) (i:Nat),i0 U (cls us t (i+1)) i=cls (U::us) t i
 |
  .bound k,i=>by
  simp only[cls]
  by_cases h1:k<i
  ·rw[if_pos (by omega),if_pos h1];simp only[i0];rw[if_neg (by omega)]
  ·rw[if_neg h1]
   by_cases h2:k=i
   ·subst h2;rw[if_pos (by omega)];simp[i0]
   ·rw[if_neg (by omega),na U _ (gG _ (uy hu _) (dj _)),show k-i=(k-(i+1))+1 by omega,cF]
 | .plus a b,i=>by simp only[cls,i0];rw[jW hu U a i,jW hu U b i]
 | .times a b,i=>by simp only[cls,i0];rw[jW hu U a i,jW hu U b i]
 | .rc a,i=>by simp only[cls,i0];rw[jW hu U a (i+1)]
 | .zero,_=>rfl
 | .one,_=>rfl
 | .name _,_=>rfl
theorem tv:∀env:List Fr,∀u,u∈uT env->gh u 0
 |[],u,h=>by cases h
 |
  f::r,u,h=>by
  rcases aB.1 h with rfl|h
  ·exact lB (tv r) _ 0
  ·exact tv r u h
theorem zT{env:List Fr}(h:WF env):∀{u:Nat} {g:Fr},env[u]?=some g->(uT env).getD u .zero=cls (uT g.out) (uZ g.ex g.out) 0:=by
 induction h with
 |nil=>intro u g hg;simp at hg
 |
  cons hs hok hx ht hf hr ih =>
  intro u g hg
  cases u with
  |zero=>simp at hg;subst hg;rfl
  |
   succ u =>
   have:=ih (u:=u) (g:=g) (by simpa using hg)
   simpa[uT]using this
theorem nn(n:Nat):∀(m:Nat) (v:Vl),v.nodes<=m->∀(e:E) (env:List Fr) (t:Ty),Ask e env t->en n v (e,env)=vT n v (cls (uT env) t 0)
 |0,v,hm=>by have:=aX v;omega
 |
  m+1,v,hm=>by
  intro e env t A
  have recCase:∀(x a b:E) (env:List Fr) (t1:Ty),Ask (.list [x,a,b]) env (.rc t1)->x.at=[114,101,99]->en n v (.list [x,a,b],env)=vT n v (cls (uT env) (.rc t1) 0):=by
   intro x a b env t1 A hx
   have hhd:hd (.list [x,a,b]) env=(.list [x,a,b],env):=nJ A.wf
   obtain⟨t1',he1,h1,f1,hw1⟩:=iD A.wf A.ok hx A.ty A.cl
   cases he1
   obtain⟨ok1,ok2,ok3,_⟩:=A.ok
   have A':Ask b (.mk a.at (.list [x,a,b]) env::env) t1:=⟨ok3,hw1,h1,f1⟩
   cases v with
   |
    f w =>
    simp only[Vl.nodes]at hm
    simp only[en,hhd,hx,beq_self_eq_true,bI]
    rw[nn n m w (by omega) b _ t1 A']
    have hty:uZ (.list [x,a,b]) env=.rc t1:=by unfold uZ;rw[A.ty];rfl
    show vT n w (cls (cls (uT env) (uZ (.list [x,a,b]) env) 0::uT env) t1 0)=vT n w (i0 (.rc (cls (uT env) t1 1)) (cls (uT env) t1 1) 0)
    rw[hty,jW (tv env)]
    rfl
   |_=>simp[en,hhd,hx,cls,vT]
  rcases gK A.wf A.ty with⟨hb,hq⟩|⟨u,g,rfl,hq,hu⟩
  ·have hhd:hd e env=(e,env):=jX hq
   rcases eS A.ty hb A.cl with⟨rfl,rfl⟩|⟨rfl,rfl⟩|⟨s,rfl,rfl,hp,h0,h1⟩|⟨x,a,b,t1,t2,rfl,hx,rfl,ha,hbb⟩|⟨x,a,b,t1,t2,rfl,hx,rfl,ha,hbb⟩|⟨x,a,b,t1,rfl,hx,rfl⟩
   ·have hp0:fC [48]=false:=rfl
    cases v<;>simp[en,hhd,cls,vT,hp0]
   ·cases v<;>simp[en,hhd,cls,vT]
   ·cases v<;>simp[en,hhd,cls,vT,hp,h1]
   ·obtain⟨ok1,ok2,ok3,_⟩:=A.ok
    obtain⟨f1,f2⟩:=eV A.cl
    cases v with
    |
     l w =>
     simp only[Vl.nodes]at hm
     simp only[en,hhd,hx,beq_self_eq_true,bI,cls,vT]
     exact nn n m w (by omega) a env t1 ⟨ok2,A.wf,ha,f1⟩
    |
     r w =>
     simp only[Vl.nodes]at hm
     simp only[en,hhd,hx,beq_self_eq_true,bI,cls,vT]
     exact nn n m w (by omega) b env t2 ⟨ok3,A.wf,hbb,f2⟩
    |_=>simp[en,hhd,hx,cls,vT]
   ·obtain⟨ok1,ok2,ok3,_⟩:=A.ok
    obtain⟨f1,f2⟩:=er A.cl
    cases v with
    |
     p w w' =>
     simp only[Vl.nodes]at hm
     simp only[en,hhd,hx,beq_self_eq_true,bI,cls,vT]
     rw[nn n m w (by omega) a env t1 ⟨ok2,A.wf,ha,f1⟩,nn n m w' (by omega) b env t2 ⟨ok3,A.wf,hbb,f2⟩]
    |_=>simp[en,hhd,hx,cls,vT]
   ·exact recCase x a b env t1 A hx
  ·obtain⟨x,a,b,t',hfe,hok,hx,ht',hf',hwf,hlt⟩:=lY A.wf hq
   have hrec:hd g.ex g.out=(g.ex,g.out):=by rw[hfe];exact nJ hwf
   rw[qI n v (oy hq) hrec]
   have hcl:cls (uT env) (.bound u) 0=cls (uT g.out) (uZ g.ex g.out) 0:=by
    simp only[cls];rw[if_neg (by omega),Nat.sub_zero];exact zT A.wf hu
   rw[hcl]
   have hty:uZ g.ex g.out=t':=by unfold uZ;rw[ht'];rfl
   rw[hty,hfe]
   rw[hfe]at ht'
   obtain⟨t1,_,_,rfl⟩:=cI hx ht'
   exact recCase x a b g.out t1 ⟨hok,hwf,ht',hf'⟩ hx
theorem mE{n:Nat}{v:Vl}{e:E}{t:Ty}(A:Ask e [] t):en n v (e,[])=vT n v t:=by
 have:=nn n v.nodes v (an _) e [] t A
 rw[this]
 obtain⟨w,ht⟩:=j6 e [] t A.ok (fun w hw=>by cases hw) A.ty
 have hl:=wN w []
 rw[ht]at hl
 exact congrArg (vT n v) (lJ _ t hl)
end Go.Proofs.Trees
namespace Go.Proofs.Trees
open Go Go.VL Go.RowKit
theorem Sk.symm{t:Ty}{v v':Vl}(h:Sk t v v'):Sk t v' v:=by
 induction h with
 |id t v=>exact .id t v
 |bd u v v'=>exact .bd u v' v
 |l _ ih=>exact .l ih
 |r _ ih=>exact .r ih
 |p _ _ ih1 ih2=>exact .p ih1 ih2
 |f _ hl _ ih1 ih2=>exact .f ih1 hl.symm fun i e e' h1 h2=>ih2 i e' e h2 h1
theorem vg{us:List Ty}(hu:∀u,u∈us->gh u 0)(n:Nat)(b:Ty)(w:Vl):vT n (.f w) (cls us (.rc b) 0)=vT n w (cls (cls us (.rc b) 0::us) b 0):=by
 show vT n w (i0 (.rc (cls us b 1)) (cls us b 1) 0)=_
 rw[jW hu];rfl
theorem mL{us:List Ty}(hu:∀u,u∈us->gh u 0)(b:Ty):∀u,u∈cls us (.rc b) 0::us->gh u 0:=fun u h=>by
 rcases aB.1 h with rfl|h
 ·exact lB hu _ 0
 ·exact hu u h
theorem vE{t:Ty}{v:Vl}(hb:∀u,t≠.bound u)(hst:stuck t v=true)(u:Nat):cu t u v=[]:=by rw[cu,cP (qW hb u) hst];rfl
theorem jM(n:Nat):∀(m:Nat) (v:Vl),v.nodes<=m->∀(t:Ty) (us:List Ty),(∀u,u∈us->gh u 0)->vT n v (cls us t 0)=true->∀(u:Nat) (e:Vl),e∈cu t u v->vT n e (us.getD u .zero)=true
 |0,v,hm=>by have:=aX v;omega
 |
  m+1,v,hm=>by
  intro t us hu hv u e he
  by_cases hb:∃k,t=.bound k
  ·obtain⟨k,rfl⟩:=hb
   by_cases h:k=u
   ·subst h
    rw[jb]at he
    simp only[aR]at he
    subst he
    simpa[cls]using hv
   ·rw[nv h]at he;cases he
  ·have hb':∀k,t≠.bound k:=fun k h=>hb ⟨k,h⟩
   cases hst:stuck t v with
   |true=>rw[vE hb' hst]at he;cases he
   |
    false =>
    unfold stuck at hst
    split at hst
    ·rename_i a b w
     simp only[Vl.nodes]at hm
     rw[kL]at he
     exact jM n m w (by omega) a us hu hv u e he
    ·rename_i a b w
     simp only[Vl.nodes]at hm
     rw[kK]at he
     exact jM n m w (by omega) b us hu hv u e he
    ·rename_i a b x y
     simp only[Vl.nodes]at hm
     simp only[cls,vT,ai]at hv
     rw[jC]at he
     rcases aC.1 he with he|he
     ·exact jM n m x (by omega) a us hu hv.1 u e he
     ·exact jM n m y (by omega) b us hu hv.2 u e he
    ·rename_i b w
     simp only[Vl.nodes]at hm
     rw[vg hu]at hv
     rw[jt]at he
     rcases aC.1 he with he|he
     ·have:=jM n m w (by omega) b _ (mL hu b) hv (u+1) e he
      simpa using this
     ·obtain⟨x,hx,he⟩:=cB.1 he
      have h0:=jM n m w (by omega) b _ (mL hu b) hv 0 x hx
      simp only[aQ]at h0
      have:=nk hx
      exact jM n m x (by omega) (.rc b) us hu h0 u e he
    ·cases hst
theorem Sk.ty(n:Nat){t:Ty}{v v':Vl}(h:Sk t v v'):∀(us:List Ty),(∀u,u∈us->gh u 0)->vT n v (cls us t 0)=true->(∀(u:Nat) (e:Vl),e∈cu t u v'->vT n e (us.getD u .zero)=true)->vT n v' (cls us t 0)=true:=by
 induction h with
 |id t v=>exact fun _ _ h _=>h
 |
  bd u v v' =>
  intro us hu _ h
  have:=h u v' (by rw[jb];exact ae)
  simpa[cls]using this
 |l _ ih=>intro us hu hv h;exact ih us hu hv fun u e he=>h u e (by rw[kL];exact he)
 |r _ ih=>intro us hu hv h;exact ih us hu hv fun u e he=>h u e (by rw[kK];exact he)
 |
  p _ _ ih1 ih2 =>
  intro us hu hv h
  simp only[cls,vT,ai]at hv |-
  exact⟨ih1 us hu hv.1 fun u e he=>h u e (by rw[jC];exact ao _ he),ih2 us hu hv.2 fun u e he=>h u e (by rw[jC];exact ak _ he)⟩
 |
  @f b w w' h1 hl h2 ih1 ih2 =>
  intro us hu hv h
  rw[vg hu]at hv |-
  refine ih1 _ (mL hu b) hv fun u e he=>?_
  cases u with
  |
   zero =>
   obtain⟨i,hi⟩:=List.getElem?_of_mem he
   obtain⟨e0,h0⟩:=tj hl.symm hi
   have ht:=jM n w.nodes w (an _) b _ (mL hu b) hv 0 e0 (List.mem_of_getElem? h0)
   simp only[aQ]at ht |-
   exact ih2 i e0 e h0 hi us hu ht fun u x hx=>h u x (by rw[jt];exact ak _ (cB.2 ⟨e,he,hx⟩))
  |
   succ u =>
   simp only[cF]
   exact h u e (by rw[jt];exact ao _ he)
theorem mh{n:Nat}{t:Ty}{u:Nat}{v e:Vl}(hv:v.fe n)(h:e∈cu t u v):e.fe n:=by
 obtain⟨q,hq,rfl⟩:=bp.1 h
 exact(fv n _ _ _ _ _ hv hq).2
theorem Sk.fe(n:Nat){t:Ty}{v v':Vl}(h:Sk t v v'):v.fe n->(∀(u:Nat) (e:Vl),e∈cu t u v'->e.fe n)->v'.fe n:=by
 induction h with
 |id t v=>exact fun h _=>h
 |bd u v v'=>intro _ h;exact h u v' (by rw[jb];exact ae)
 |l _ ih=>intro hv h;exact ih hv fun u e he=>h u e (by rw[kL];exact he)
 |r _ ih=>intro hv h;exact ih hv fun u e he=>h u e (by rw[kK];exact he)
 |p _ _ ih1 ih2=>intro hv h;exact⟨ih1 hv.1 fun u e he=>h u e (by rw[jC];exact ao _ he),ih2 hv.2 fun u e he=>h u e (by rw[jC];exact ak _ he)⟩
 |
  @f b w w' h1 hl h2 ih1 ih2 =>
  intro hv h
  refine ih1 hv fun u e he=>?_
  cases u with
  |
   zero =>
   obtain⟨i,hi⟩:=List.getElem?_of_mem he
   obtain⟨e0,h0⟩:=tj hl.symm hi
   exact ih2 i e0 e h0 hi (mh (show w.fe n from hv) (List.mem_of_getElem? h0)) fun u x hx=>h u x (by rw[jt];exact ak _ (cB.2 ⟨e,he,hx⟩))
  |succ u=>exact h u e (by rw[jt];exact ao _ he)
theorem gJ:∀(n:Nat) (v:Vl),v.nodes<=n->∀(t:Ty) (u:Nat) (c e:Vl),(c,e)∈bm t (.bd u) v->∀x:Vl,(cE t c x).nodes+e.nodes=v.nodes+x.nodes
 |0,v,hn=>by have:=aX v;omega
 |
  n+1,v,hn=>by
  intro t u c e hh x
  cases hat:ec t (.bd u)with
  |
   true =>
   rw[iv v hat]at hh
   simp only[aR,Prod.mk.injEq]at hh
   obtain⟨rfl,rfl⟩:=hh
   rw[rE hat];omega
  |
   false =>
   have hst:stuck t v=false:=by
    cases q:stuck t v with
    |false=>rfl
    |true=>rw[cP hat q]at hh;simp at hh
   unfold stuck at hst
   split at hst
   ·rename_i a b w
    simp only[Vl.nodes]at hn |-
    rw[fO]at hh
    obtain⟨⟨c0,e0⟩,h0,he⟩:=bN hh
    cases he
    have:=gJ n w (by omega) a u c0 e0 h0 x
    simp only[cE,Vl.nodes];omega
   ·rename_i a b w
    simp only[Vl.nodes]at hn |-
    rw[fT]at hh
    obtain⟨⟨c0,e0⟩,h0,he⟩:=bN hh
    cases he
    have:=gJ n w (by omega) b u c0 e0 h0 x
    simp only[cE,Vl.nodes];omega
   ·rename_i a b y z
    simp only[Vl.nodes]at hn |-
    rw[eD]at hh
    rcases aC.1 hh with hh|hh
    ·obtain⟨⟨c0,e0⟩,h0,he⟩:=bN hh
     cases he
     have:=gJ n y (by omega) a u c0 e0 h0 x
     simp only[cE,Vl.nodes];omega
    ·obtain⟨⟨c0,e0⟩,h0,he⟩:=bN hh
     cases he
     have:=gJ n z (by omega) b u c0 e0 h0 x
     simp only[cE,Vl.nodes];omega
   ·rename_i a w
    simp only[Vl.nodes]at hn |-
    rw[eB]at hh
    rcases aC.1 hh with hh|hh
    ·obtain⟨⟨c0,e0⟩,h0,he⟩:=bN hh
     cases he
     have:=gJ n w (by omega) a (u+1) c0 e0 h0 x
     simp only[cE,Vl.nodes];omega
    ·obtain⟨⟨hc,he⟩,h1,h2⟩:=cB.1 hh
     obtain⟨⟨c0,e0⟩,h0,heq⟩:=bN h2
     cases heq
     have hsz:=(gI h1).1
     simp only at hsz h0
     have q1:=gJ n he (by omega) (.rc a) u c0 e0 h0 x
     have q2:=gJ n w (by omega) a 0 hc he h1 (cE (.rc a) c0 x)
     simp only[cE,Vl.nodes];omega
   ·cases hst
theorem kt{R:Vl->Vl×Nat}{C:Nat}(hC:1<=C):∀(n:Nat) (G:List Ty) (t:Ty) (v:Vl),2*v.nodes+py t<=n->(∀e,e.nodes<=v.nodes->(R e).1.nodes<=C*e.nodes)->(mm R G t v).1.nodes<=C*v.nodes
 |0,G,t,v,hn,h=>by have:=aX v;omega
 |
  n+1,G,t,v,hn,h=>by
  have hself:v.nodes<=C*v.nodes:=by have:=aI v.nodes hC;omega
  by_cases hb:∃u,t=.bound u
  ·obtain⟨u,rfl⟩:=hb
   by_cases hu:u=G.length
   ·subst hu;rw[nu];exact h v (an _)
   ·cases hq:G[u]? with
    |some b=>rw[qy R hq];simp only[py]at hn;exact kt hC n _ (.rc b) v (by simp only[py];omega) h
    |
     none =>
     have:mm R G (.bound u) v=(v,0):=by simp[mm,sF,wG,hu,hq]
     rw[this];exact hself
  ·have hb':∀u,t≠.bound u:=fun u h=>hb ⟨u,h⟩
   cases hst:stuck t v with
   |true=>rw[qa R hb' hst];exact hself
   |
    false =>
    unfold stuck at hst
    split at hst
    ·rename_i a b w
     simp only[Vl.nodes]at hn h |-
     have:=bZ a
     have:=kt hC n G a w (by omega) fun e he=>h e (by omega)
     rw[yl];simp only[Vl.nodes];rw[Nat.mul_add];omega
    ·rename_i a b w
     simp only[Vl.nodes]at hn h |-
     have:=bZ b
     have:=kt hC n G b w (by omega) fun e he=>h e (by omega)
     rw[yE];simp only[Vl.nodes];rw[Nat.mul_add];omega
    ·rename_i a b x y
     simp only[Vl.nodes]at hn h |-
     have:=bZ a
     have:=bZ b
     have:=aX x
     have:=aX y
     have:=kt hC n G a x (by omega) fun e he=>h e (by omega)
     have:=kt hC n G b y (by omega) fun e he=>h e (by omega)
     rw[xH];simp only[Vl.nodes];rw[Nat.mul_add,Nat.mul_add];omega
    ·rename_i b w
     simp only[Vl.nodes]at hn h |-
     have:=bZ b
     have:=kt hC n (b::G) b w (by omega) fun e he=>h e (by omega)
     rw[xh];simp only[Vl.nodes];rw[Nat.mul_add];omega
    ·cases hst
end Go.Proofs.Trees
namespace Go.Proofs.Trees
open Go Go.VL Go.RowKit
def Bl(x:Nm)(i:Nat)(tg tg':Tg):Prop:=(tg=.bd i/\tg'=.nm x)\/(∃s,s≠x/\tg=.nm s/\tg'=.nm s)\/∃j,j<i/\tg=.bd j/\tg'=.bd j
theorem Bl.up{x:Nm}{i:Nat}{tg tg':Tg}(h:Bl x i tg tg'):Bl x (i+1) tg.up tg'.up:=by
 rcases h with⟨rfl,rfl⟩|⟨s,h,rfl,rfl⟩|⟨j,h,rfl,rfl⟩
 ·exact .inl ⟨rfl,rfl⟩
 ·exact .inr (.inl ⟨s,h,rfl,rfl⟩)
 ·exact .inr (.inr ⟨j+1,by omega,rfl,rfl⟩)
end Go.Proofs.Trees
namespace Go.Proofs.Trees
open Go Go.VL Go.RowKit
def I6(g:Vl->Vl×Nat):Vl->Vl×Nat
 | .f w=>(.f (g w).1,(g w).2)
 | .u=>(.u,0)
 | .el k=>(.el k,0)
 | .l v=>(.l v,0)
 | .r v=>(.r v,0)
 | .p a b=>(.p a b,0)
def hZ(a:Ty)(fr:List UInt8)(to:Vl):Nat->Vl->Vl×Nat
 |0,v=>(v,0)
 |n+1,v=>if v.fI=fr then(to,1)else I6 (mm (hZ a fr to n) [] a) v
theorem pd{a:Ty}{fr:List UInt8}{to v:Vl}(n:Nat)(h:v.fI=fr):hZ a fr to (n+1) v=(to,1):=by rw[hZ,if_pos h]
theorem rN{a:Ty}{fr:List UInt8}{to w:Vl}(n:Nat)(h:¬(Vl.f w).fI=fr):hZ a fr to (n+1) (.f w)=(.f (mm (hZ a fr to n) [] a w).1,(mm (hZ a fr to n) [] a w).2):=by rw[hZ,if_neg h];rfl
theorem tY(R:Vl->Vl×Nat)(a:Ty)(w:Vl):Sk a w (mm R [] a w).1/\cu a 0 (mm R [] a w).1=(cu a 0 w).map fun e=>(R e).1:=by
 obtain⟨h1,h2⟩:=oG R (2*w.nodes+1) [] a w (by have:=bZ a;omega)
 refine⟨h1,?_⟩
 rw[h2 0]
 exact List.map_congr_left fun e _=>by rw[gM,show (Ty.bound 0)=.bound ([]:List Ty).length from rfl,nu]
theorem zO(R:Vl->Vl×Nat)(a:Ty)(w:Vl)(hl:gh a 1):(mm R [] a w).2=((cu a 0 w).map fun e=>(R e).2).sum:=by
 rw[lT R (2*w.nodes+1) [] a w (by have:=bZ a;omega) hl]
 show 0+nA R [] a w 0=_
 rw[aK,nA]
 congr 1
theorem Sk.Ib{a:Ty}{w w':Vl}(hl:gh a 1)(h:Sk a w w')(he:cu a 0 w=cu a 0 w'):w=w' :=
 h.Jo fun u=>by
  cases u with
  |zero=>exact he
  |succ u=>rw[i9 w.nodes w (an _) a 1 (u+1) hl (by omega),i9 w'.nodes w' (an _) a 1 (u+1) hl (by omega)]
theorem tt(n:Nat){a:Ty}(hl:gh a 1)(w:Vl):vT n (.f w) (.rc a)=vT n w (cls [.rc a] a 0):=by
 have:=vg (us:=[]) (fun u h=>by cases h) n a w
 rw[lJ [] (.rc a) (i:=0) hl]at this
 exact this
theorem s9{a:Ty}(hl:gh a 1):∀u,u∈[Ty.rc a]->gh u 0:=fun u h=>by simp only[aR]at h;subst h;exact hl
theorem ox{n:Nat}{a:Ty}(hl:gh a 1){w:Vl}(hv:vT n (.f w) (.rc a)=true){e:Vl}(he:e∈cu a 0 w):vT n e (.rc a)=true:=by
 rw[tt n hl]at hv
 have:=jM n w.nodes w (an _) a _ (s9 hl) hv 0 e he
 simpa using this
theorem yD{n:Nat}{a:Ty}(hl:gh a 1){w w':Vl}(hv:vT n (.f w) (.rc a)=true)(h:Sk a w w')(he:∀e,e∈cu a 0 w'->vT n e (.rc a)=true):vT n (.f w') (.rc a)=true:=by
 rw[tt n hl]at hv |-
 refine h.ty n _ (s9 hl) hv fun u e hm=>?_
 cases u with
 |zero=>simpa using he e hm
 |succ u=>rw[i9 w'.nodes w' (an _) a 1 (u+1) hl (by omega)]at hm;cases hm
theorem xM{n:Nat}{a:Ty}(hl:gh a 1){w w':Vl}(hv:w.fe n)(h:Sk a w w')(he:∀e,e∈cu a 0 w'->e.fe n):w'.fe n :=
 h.fe n hv fun u e hm=>by
  cases u with
  |zero=>exact he e hm
  |succ u=>rw[i9 w'.nodes w' (an _) a 1 (u+1) hl (by omega)]at hm;cases hm
theorem qR{a:Ty}(hl:gh a 1)(fr:List UInt8)(to:Vl)(ht:vT 100 to (.rc a)=true)(hb:to.fe 100)(hn:to.nodes<=200):∀(n:Nat) (v:Vl),vT 100 v (.rc a)=true->v.fe 100->vT 100 (hZ a fr to n v).1 (.rc a)=true/\(hZ a fr to n v).1.fe 100/\(hZ a fr to n v).1.nodes<=200*v.nodes
 |0,v,hv,hvb=>⟨hv,hvb,by have:=aX v;simp only[hZ];omega⟩
 |
  n+1,v,hv,hvb=>by
  have hp:=aX v
  by_cases h:v.fI=fr
  ·rw[pd n h];exact⟨ht,hb,by simp only;omega⟩
  ·cases v with
   |
    f w =>
    rw[rN n h]
    obtain⟨k1,k2⟩:=tY (hZ a fr to n) a w
    have ok:∀e,e∈cu a 0 w->_:=fun e he=>qR hl fr to ht hb hn n e (ox hl hv he) (mh (show w.fe 100 from hvb) he)
    refine⟨yD hl hv k1 fun e he=>?_,show (mm (hZ a fr to n) [] a w).1.fe 100 from xM hl (show w.fe 100 from hvb) k1 fun e he=>?_,?_⟩
    ·rw[k2]at he
     obtain⟨x,hx,rfl⟩:=bp.1 he
     exact(ok x hx).1
    ·rw[k2]at he
     obtain⟨x,hx,rfl⟩:=bp.1 he
     exact(ok x hx).2.1
    ·have:(mm (hZ a fr to n) [] a w).1.nodes<=200*w.nodes:=kt (by omega) (2*w.nodes+1) [] a w (by have:=bZ a;omega) fun e _=>rpl_nds n e
     simp only[Vl.nodes];omega
   |_=>simp[vT]at hv
where rpl_nds:∀(n:Nat) (v:Vl),(hZ a fr to n v).1.nodes<=200*v.nodes
 |0,v=>by have:=aX v;simp only[hZ];omega
 |
  n+1,v=>by
  have hp:=aX v
  by_cases h:v.fI=fr
  ·rw[pd n h];simp only;omega
  ·cases v with
   |
    f w =>
    rw[rN n h]
    have:(mm (hZ a fr to n) [] a w).1.nodes<=200*w.nodes:=kt (by omega) (2*w.nodes+1) [] a w (by have:=bZ a;omega) fun e _=>rpl_nds n e
    simp only[Vl.nodes];omega
   |_=>rw[hZ,if_neg h];simp only[I6,Vl.nodes];omega
theorem o0(a:Ty)(w:Vl):eI (kids a (.f w))=cu a 0 w:=rfl
theorem vJ{a:Ty}{R:Vl->Vl×Nat}{w wk:Vl}{k:Nat}(hk:k<(cu a 0 w).length)(hs:Sk a w wk)(he:cu a 0 wk=((cu a 0 w).take k).map (fun e=>(R e).1)++(cu a 0 w).drop k) :
 ∃c,(kids a (.f wk))[k]?=some (c,(cu a 0 w)[k])/\(c,(cu a 0 w)[k])∈kids a (.f wk)/\Sk a w (cE a c (R (cu a 0 w)[k]).1)/\cu a 0 (cE a c (R (cu a 0 w)[k]).1)=((cu a 0 w).take (k+1)).map (fun e=>(R e).1)++(cu a 0 w).drop (k+1) /\
  (cE a c (R (cu a 0 w)[k]).1).nodes+(cu a 0 w)[k].nodes=wk.nodes+(R (cu a 0 w)[k]).1.nodes:=by
 have hlen:=hs.len 0
 have hkl:k<(kids a (.f wk)).length:=by
  have:(eI (kids a (.f wk))).length=(cu a 0 wk).length:=by rw[o0]
  rw[bQ]at this;omega
 have hget:(cu a 0 wk)[k]?=some (cu a 0 w)[k]:=by
  rw[he,List.getElem?_append_right (by simp;omega)]
  simp only[bQ,List.length_take]
  rw[show k-min k (cu a 0 w).length=0 by omega,bV,bo,aO hk]
 obtain⟨q,hq⟩:∃q,(kids a (.f wk))[k]?=some q:=⟨_,aO hkl⟩
 have hq2:q.2=(cu a 0 w)[k]:=by
  have:(eI (kids a (.f wk)))[k]?=some q.2:=by rw[List.getElem?_map,hq];rfl
  rw[o0,hget]at this
  exact(Option.some.inj this).symm
 obtain⟨c,e⟩:=q
 simp only at hq2
 subst hq2
 have hm:=List.mem_of_getElem? hq
 have hk2:(bm a (.bd 0) wk)[k]?=some (c,(cu a 0 w)[k]):=hq
 refine⟨c,hq,hm,hs.trans (Sk.cE wk.nodes wk (an _) a 0 c _ hm _),?_,gJ wk.nodes wk (an _) a 0 c _ hm _⟩
 obtain⟨hlt,hee⟩:=bO.1 hk2
 have hsp:bm a (.bd 0) wk=(bm a (.bd 0) wk).take k++(c,(cu a 0 w)[k])::(bm a (.bd 0) wk).drop (k+1):=by
  have:=List.take_append_drop k (bm a (.bd 0) wk)
  rw[aN hlt,hee]at this
  exact this.symm
 obtain⟨⟨A',B',d1,d2,d3⟩,_⟩:=ff wk.nodes wk (an _) a (.bd 0) _ _ c _ hsp (R (cu a 0 w)[k]).1
 have ew:cu a 0 (cE a c (R (cu a 0 w)[k]).1)=eI A'++(R (cu a 0 w)[k]).1::eI B':=by rw[cu,d1,cd];rfl
 have t1:eI ((bm a (.bd 0) wk).take k)=(cu a 0 wk).take k:=by rw[cu];exact List.map_take
 have t2:eI ((bm a (.bd 0) wk).drop (k+1))=(cu a 0 wk).drop (k+1):=by rw[cu];exact List.map_drop
 rw[ew,d2,d3,t1,t2,he]
 have hml:(((cu a 0 w).take k).map fun e=>(R e).1).length=k:=by simp;omega
 rw[List.take_append_of_le_length (by omega),List.take_of_length_le (by omega),List.drop_append,a8 (by omega),bc,hml,List.drop_drop,List.take_succ_eq_append_getElem hk,bJ,bH,show k+(k+1-k)=k+1 by omega]
 rfl
end Go.Proofs.Trees
namespace Go.Proofs.Trees
open Go Go.VL Go.RowKit
inductive kh(m0:Nat)(a:Ty):AV->List Nat->List Ty->Prop
 |top:kh m0 a (.ptr [.pid m0 [(Ty.rc a).av,je],je]) [m0] []
 |cons {m:Nat} {b:Ty} {e:AV} {ids:List Nat} {G:List Ty} (hm:m∉ids) (h:kh m0 a e ids G):kh m0 a (.ptr [.pid m [(Ty.rc b).av,e],e]) (m::ids) (b::G)
theorem kh.env{m0:Nat}{a:Ty}{e:AV}{ids:List Nat}{G:List Ty}(h:kh m0 a e ids G):pe e ids:=by
 induction h with
 |top=>exact .cons (by simp) .nil
 |cons hm h ih=>exact .cons hm ih
theorem kh.len{m0:Nat}{a:Ty}{e:AV}{ids:List Nat}{G:List Ty}(h:kh m0 a e ids G):ids.length=G.length+1:=by
 induction h with
 |top=>rfl
 |cons hm h ih=>simp[ih]
theorem kh.last{m0:Nat}{a:Ty}{e:AV}{ids:List Nat}{G:List Ty}(h:kh m0 a e ids G):ids.getD G.length 0=m0:=by
 induction h with
 |top=>rfl
 |cons hm h ih=>simpa using ih
theorem kh.at{m0:Nat}{a:Ty}{e:AV}{ids:List Nat}{G:List Ty}(h:kh m0 a e ids G):∀(u:Nat),u<G.length->∃b e',G[u]?=some b/\kh m0 a e' (ids.drop (u+1)) (G.drop (u+1)):=by
 induction h with
 |top=>intro u hu;simp at hu
 |
  @cons m b e ids G hm h ih =>
  intro u hu
  cases u with
  |zero=>exact⟨b,e,rfl,h⟩
  |
   succ u =>
   obtain⟨b',e',h1,h2⟩:=ih u (by simpa using hu)
   exact⟨b',e',by simpa using h1,by simpa using h2⟩
theorem ER(m0:Nat)(a:Ty)(u:Nat)(hu:u<1000000):∀(k i:Nat) (ea:AV) (ids:List Nat) (G:List Ty),i+k=u->kh m0 a ea ids G->k<=G.length->yX [ea,.v (.int .i64 (u:Int)),.v (.int .i64 (i:Int))] [] (fun t ys o=>t=1/\∃e',kh m0 a e' (ids.drop k) (G.drop k)/\ys=[e']/\o=[])
 |
  0,i,ea,ids,G,hi,he,hk=>by
  refine G8 _ _ _ ?_
  have:i=u:=by omega
  subst this
  simp only[EP,↓zq,zs,ah]
  exact⟨he.env.has,fun h=>by omega,fun _=>⟨ea,he,rfl⟩⟩
 |
  k+1,i,ea,ids,G,hi,he,hk=>by
  refine G8 _ _ _ ?_
  cases he with
  |top=>simp at hk
  |
   @cons m b e ids' G' hm h =>
   simp only[EP,↓zq,zs,ah,h.env.has]
   refine⟨fun _=>⟨by omega,?_⟩,fun h=>by omega⟩
   rw[bW i (by omega)]
   exact ER m0 a u hu k (i+1) e ids' G' (by omega) h (by simpa using hk)
def Ar(m0:Nat)(a:Ty)(ids:List Nat)(G:List Ty)(u:Nat):AV->List Ob->Prop:=fun r o=>o=[]/\((u=G.length/\r=.pid m0 [(Ty.rc a).av,je])\/∃b e',G[u]?=some b/\kh m0 a e' (ids.drop (u+1)) (G.drop (u+1))/\r=.pid (ids.getD u 0) [(Ty.rc b).av,e'])
theorem Ar.ne(m0:Nat)(a:Ty)(ids:List Nat)(G:List Ty)(u:Nat){e:AV}(h:kh m0 a e ids G)(hu:u<=G.length):∃r o,Ar m0 a ids G u r o:=by
 by_cases hq:u=G.length
 ·exact⟨_,_,rfl,.inl ⟨hq,rfl⟩⟩
 ·obtain⟨b,e',h1,h2⟩:=h.at u (by omega)
  exact⟨_,_,rfl,.inr ⟨b,e',h1,h2,rfl⟩⟩
theorem Is(m0:Nat)(a:Ty)(u:Nat)(ea:AV)(ids:List Nat)(G:List Ty)(he:kh m0 a ea ids G)(hu:u<=G.length)(hl:G.length<1000000):ay Tryz.prog 38 [.agg [(Ty.bound u).av,ea]] [] (Ar m0 a ids G u):=by
 refine Gb _ _ ((aT _).mpr trivial) he.env.has ?_
 simp only[Cy,Ty.av,↓zq,zs,ah,he.env.has]
 refine⟨by omega,mS (ER m0 a u (by omega) u 0 ea ids G (by omega) he hu) ?_ (fun ys o h=>by cases h.1)⟩
 rintro ys o ⟨_,e',he',rfl,rfl⟩
 have hlen:=he.len
 generalize hI:ids.drop u=I at he'
 generalize hG:G.drop u=H at he'
 cases he' with
 |
  top =>
  have:u=G.length:=by
   have:=congrArg dR hG
   simp at this;omega
  have hp:LK.has .ptr (AV.pid m0 [(Ty.rc a).av,je]):=.inr (.inr ⟨_,_,rfl⟩)
  simp only[↓zq,zs,ah,hp]
  exact⟨by omega,rfl,.inl ⟨this,rfl⟩⟩
 |
  @cons m b e ids' G' hm h =>
  have hlt:u<G.length:=by
   have:=congrArg dR hG
   simp at this;omega
  have e1:ids.drop u=ids.getD u 0::ids.drop (u+1):=by
   rw[aN (by omega)];simp[aa,show u<ids.length by omega]
  have e2:G.drop u=G[u]::G.drop (u+1):=aN hlt
  rw[e1]at hI
  rw[e2]at hG
  cases hI;cases hG
  have hp:LK.has .ptr (AV.pid (ids.getD u 0) [(Ty.rc G[u]).av,e]):=.inr (.inr ⟨_,_,rfl⟩)
  simp only[↓zq,zs,ah,hp]
  exact⟨by omega,rfl,.inr ⟨G[u],e,aO hlt,h,rfl⟩⟩
def tB(a:Ty):List Ty->List Ty
 |[]=>[.rc a]
 |b::G=>cls (tB a G) (.rc b) 0::tB a G
theorem wT{a:Ty}(hl:gh a 1):∀G:List Ty,∀u,u∈tB a G->gh u 0
 |[]=>s9 hl
 |b::G=>mL (wT hl G) b
theorem u6(a:Ty):∀G:List Ty,(tB a G).getD G.length .zero=.rc a
 |[]=>rfl
 |b::G=>by simpa[tB]using u6 a G
theorem wZ(a:Ty):∀(G:List Ty) (u:Nat) (b:Ty),G[u]?=some b->(tB a G).getD u .zero=cls (tB a (G.drop (u+1))) (.rc b) 0
 |[],u,b,h=>by simp at h
 |c::G,0,b,h=>by simp at h;subst h;rfl
 |
  c::G,u+1,b,h=>by
  have:=wZ a G u b (by simpa using h)
  simpa[tB]using this
end Go.Proofs.Trees
namespace Go.Proofs.Trees
open Go Go.VL Go.RowKit
structure RI(a:Ty)(R:Vl->Vl×Nat)(w wk:Vl)(k:Nat):Prop where
 sk:Sk a w wk
 es:cu a 0 wk=((cu a 0 w).take k).map (fun e=>(R e).1)++(cu a 0 w).drop k
 nd:wk.nodes<=w.nodes+200*(((cu a 0 w).take k).map Vl.nodes).sum
theorem RI.zero(a:Ty)(R:Vl->Vl×Nat)(w:Vl):RI a R w w 0:=⟨.id _ _,by simp,by simp⟩
theorem sD(g:Vl->Nat)(l:List Vl){k:Nat}(hk:k<l.length):((l.take (k+1)).map g).sum=((l.take k).map g).sum+g l[k]:=by
 rw[List.take_succ_eq_append_getElem hk,bJ,List.sum_append];simp
theorem pk(g:Vl->Nat)(l:List Vl)(k:Nat):((l.take k).map g).sum<=(l.map g).sum:=by
 have:(l.map g).sum=((l.take k).map g).sum+((l.drop k).map g).sum:=by rw[<-List.sum_append,<-bJ,List.take_append_drop]
 omega
theorem sK:∀l:List Hl,j0 l=((eI l).map Vl.nodes).sum
 |[]=>rfl
 |
  x::l=>by
  have:=sK l
  simp only[eI,aS,cq]at this |-
  rw[<-this];rfl
theorem qL(a:Ty)(w:Vl):((cu a 0 w).map Vl.nodes).sum<=w.nodes:=by
 rw[cu,<-sK];exact oU a (.bd 0) w
theorem RI.le{a:Ty}{R:Vl->Vl×Nat}{w wk:Vl}{k:Nat}(h:RI a R w wk k):wk.nodes<=201*w.nodes:=by
 have h1:=h.nd
 have h2:=pk Vl.nodes (cu a 0 w) k
 have h3:=qL a w
 omega
theorem RI.step{a:Ty}{R:Vl->Vl×Nat}{w wk:Vl}{k:Nat}(h:RI a R w wk k)(hk:k<(cu a 0 w).length)(hR:(R (cu a 0 w)[k]).1.nodes<=200*(cu a 0 w)[k].nodes) :
 ∃c,(kids a (.f wk))[k]?=some (c,(cu a 0 w)[k])/\(c,(cu a 0 w)[k])∈kids a (.f wk)/\RI a R w (cE a c (R (cu a 0 w)[k]).1) (k+1):=by
 obtain⟨c,h1,h2,h3,h4,h5⟩:=vJ hk h.sk h.es
 refine⟨c,h1,h2,h3,h4,?_⟩
 rw[sD Vl.nodes _ hk]
 have:=h.nd
 omega
theorem RI.len{a:Ty}{R:Vl->Vl×Nat}{w wk:Vl}{k:Nat}(h:RI a R w wk k):(kids a (.f wk)).length=(cu a 0 w).length:=by
 have:=h.sk.len 0
 have h2:(eI (kids a (.f wk))).length=(cu a 0 wk).length:=by rw[o0]
 rw[bQ]at h2;omega
theorem RI.fin{a:Ty}(hl:gh a 1){R:Vl->Vl×Nat}{w wk:Vl}(h:RI a R w wk (cu a 0 w).length):wk=(mm R [] a w).1:=by
 obtain⟨k1,k2⟩:=tY R a w
 refine(h.sk.symm.trans k1).Ib hl ?_
 rw[k2,h.es,List.take_length,List.drop_length,List.append_nil]
theorem RI.mem{a:Ty}{R:Vl->Vl×Nat}{w wk:Vl}{k:Nat}(h:RI a R w wk k){e:Vl}(he:e∈cu a 0 wk):(∃x,x∈cu a 0 w/\e=(R x).1)\/e∈cu a 0 w:=by
 rw[h.es]at he
 rcases aC.1 he with he|he
 ·obtain⟨x,hx,rfl⟩:=bp.1 he
  exact .inl ⟨x,List.mem_of_mem_take hx,rfl⟩
 ·exact .inr (List.mem_of_mem_drop he)
theorem RI.ok{a:Ty}(hl:gh a 1){R:Vl->Vl×Nat}{w wk:Vl}{k:Nat}(h:RI a R w wk k)(hv:vT 100 (.f w) (.rc a)=true)(hb:w.fe 100)(hR:∀x,x∈cu a 0 w->vT 100 (R x).1 (.rc a)=true/\(R x).1.fe 100):vT 100 (.f wk) (.rc a)=true/\wk.fe 100:=by
 refine⟨yD hl hv h.sk fun e he=>?_,xM hl hb h.sk fun e he=>?_⟩
 ·rcases h.mem he with⟨x,hx,rfl⟩|he
  ·exact(hR x hx).1
  ·exact ox hl hv he
 ·rcases h.mem he with⟨x,hx,rfl⟩|he
  ·exact(hR x hx).2
  ·exact mh hb he
theorem kp{R:Vl->Vl×Nat}:∀(n:Nat) (G:List Ty) (t:Ty) (v:Vl),2*v.nodes+py t<=n->(∀e,e.nodes<=v.nodes->(R e).2<=e.nodes)->(mm R G t v).2<=v.nodes
 |0,G,t,v,hn,h=>by have:=aX v;omega
 |
  n+1,G,t,v,hn,h=>by
  by_cases hb:∃u,t=.bound u
  ·obtain⟨u,rfl⟩:=hb
   by_cases hu:u=G.length
   ·subst hu;rw[nu];exact h v (an _)
   ·cases hq:G[u]? with
    |some b=>rw[qy R hq];simp only[py]at hn;exact kp n _ (.rc b) v (by simp only[py];omega) h
    |
     none =>
     have:mm R G (.bound u) v=(v,0):=by simp[mm,sF,wG,hu,hq]
     rw[this];exact dj _
  ·have hb':∀u,t≠.bound u:=fun u h=>hb ⟨u,h⟩
   cases hst:stuck t v with
   |true=>rw[qa R hb' hst];exact dj _
   |
    false =>
    unfold stuck at hst
    split at hst
    ·rename_i a b w
     simp only[Vl.nodes]at hn h |-
     have:=bZ a
     have:=kp n G a w (by omega) fun e he=>h e (by omega)
     rw[yl];simp only;omega
    ·rename_i a b w
     simp only[Vl.nodes]at hn h |-
     have:=bZ b
     have:=kp n G b w (by omega) fun e he=>h e (by omega)
     rw[yE];simp only;omega
    ·rename_i a b x y
     simp only[Vl.nodes]at hn h |-
     have:=bZ a
     have:=bZ b
     have:=aX x
     have:=aX y
     have:=kp n G a x (by omega) fun e he=>h e (by omega)
     have:=kp n G b y (by omega) fun e he=>h e (by omega)
     rw[xH];simp only;omega
    ·rename_i b w
     simp only[Vl.nodes]at hn h |-
     have:=bZ b
     have:=kp n (b::G) b w (by omega) fun e he=>h e (by omega)
     rw[xh];simp only;omega
    ·cases hst
theorem qH{a:Ty}{fr:List UInt8}{to:Vl}:∀(n:Nat) (v:Vl),(hZ a fr to n v).2<=v.nodes
 |0,v=>dj _
 |
  n+1,v=>by
  have hp:=aX v
  by_cases h:v.fI=fr
  ·rw[pd n h];exact hp
  ·cases v with
   |
    f w =>
    rw[rN n h]
    have:(mm (hZ a fr to n) [] a w).2<=w.nodes:=kp (2*w.nodes+1) [] a w (by have:=bZ a;omega) fun e _=>qH n e
    simp only[Vl.nodes];omega
   |_=>rw[hZ,if_neg h];exact dj _
end Go.Proofs.Trees
namespace Go.Proofs.Trees
open Go Go.VL Go.RowKit
abbrev F6:AV:=.dS 16 [some 0,some 1,some 2,some 3,none]
abbrev zM(a:Ty)(old to:Vl)(k:Nat):List Ob:=[.cells [old.dF],.cells [.v (.int .i64 (k:Int))],.cells [to.dF],.cells [(Ty.rc a).av]]
def GL(a:Ty)(old to:Vl)(n:Nat)(v:Vl):Prop:=∀k,k+v.nodes<=1000000->ay Tryz.prog 16 [v.dF,.ref 0 0,.ref 1 0,.ref 2 0,.ref 3 0,F6] (zM a old to k) (ic (hZ a old.fI to n v).1.dF (zM a old to (k+(hZ a old.fI to n v).2)))
theorem A6(a:Ty)(hl:gh a 1)(old to:Vl)(n m0:Nat)(hrep:∀e,e.nodes<=n->e.nodes<=200->vT 100 e (.rc a)=true->e.fe 100->GL a old to n e) :
 ∀(m:Nat) (G:List Ty) (t:Ty) (v:Vl) (ea:AV) (ids:List Nat) (k:Nat),2*v.nodes+py t<=m->v.nodes<=n->v.nodes<=200->kh m0 a ea ids G->(∀(i:Nat) (b:Ty),G[i]?=some b->gh (.rc b) (G.length-i))->G.length+v.nodes<=100000->gh t (G.length+1)->vT 100 v (cls (tB a G) t 0)=true->v.fe 100->k+v.nodes<=1000000 ->
  ay Tryz.prog 20 [.agg [t.av,ea],v.dF,.pid m0 [(Ty.rc a).av,je],.fn 16 [.ref 0 0,.ref 1 0,.ref 2 0,.ref 3 0,F6]] (zM a old to k) (ic (mm (hZ a old.fI to n) G t v).1.dF (zM a old to (k+(mm (hZ a old.fI to n) G t v).2)))
 |0,G,t,v,ea,ids,k,hm,_,_,_,_,_,_,_,_,_=>by have:=aX v;omega
 |
  m+1,G,t,v,ea,ids,k,hm,hn,h200,he,hGl,hG,hlt,hv,hb,hk=>by
  have hp:LK.has .ptr (AV.pid m0 [(Ty.rc a).av,je]):=.inr (.inr ⟨_,_,rfl⟩)
  refine Hc _ _ _ _ _ _ _ _ ((aT _).mpr trivial) he.env.has ((aY _).mpr trivial) hp ((aY _).mpr trivial) ((aY _).mpr trivial) ((aT _).mpr trivial) ?_
  have pidp:∀(i:Nat) (cs:List AV),LK.has .ptr (AV.pid i cs):=fun i cs=>.inr (.inr ⟨_,_,rfl⟩)
  have idk:∀(i:Nat) (cs:List AV),(AV.pid i cs).oR=True:=fun i cs=>rfl
  have ide:∀(i j:Nat) (cs ds:List AV),(AV.pid i cs).xq (.pid j ds)=az i j:=fun i j cs ds=>rfl
  have nil0:∀(i:Nat) (cs:List AV),(AV.pid i cs).isNil=false:=fun i cs=>rfl
  have der:∀(i:Nat) (cs:List AV),(AV.pid i cs).deref=cs:=fun i cs=>rfl
  cases t with
  |
   bound u =>
   have av:(Ty.bound u).av=.ptr [.v (.int .u8 98),.v (.string (mk [])),.v (.int .i64 (u:Int)),.v (.pointer none),.v (.pointer none)]:=rfl
   have hB:=Is m0 a u ea ids G he (by have:u<G.length+1:=hlt;omega) (by omega)
   have hBn:=Ar.ne m0 a ids G u he (by have:u<G.length+1:=hlt;omega)
   rw[av]at hB
   simp only[BL,av,↓zq,zs,ah,zt]
   refine⟨by omega,fun _=>dN hB hBn ?_,fun h=>absurd rfl h⟩
   rintro r o ⟨rfl,hc⟩
   rcases hc with⟨rfl,rfl⟩|⟨b,e',hbb,he',rfl⟩
   ·simp only[↓zq,zs,ah,zt,eq_true (pidp _ _),idk,ide,dx]
    rw[nu]
    refine⟨fun _=>?_,fun h=>(by cases h)⟩
    have hty:vT 100 v (.rc a)=true:=by
     have:cls (tB a G) (.bound G.length) 0=.rc a:=by simp only[cls];rw[if_neg (by omega)];exact u6 a G
     rwa[this]at hv
    refine cr (hrep v hn h200 hty hb k hk) ?_
    simp only[↓zq,zs,ah,zt,cm,aY,aT,Ob.es,ba,bD]
    exact⟨rfl,rfl⟩
   ·have hlu:u<G.length:=(bO.1 hbb).1
    have hne:az (ids.getD u 0) m0=false:=by
     cases hq:az (ids.getD u 0) m0 with
     |false=>rfl
     |
      true =>
      have h1:=au hq
      rw[<-he.last]at h1
      have:=wv he.env.nodup (by rw[he.len];omega) (by rw[he.len];omega) h1
      omega
    simp only[↓zq,zs,ah,zt,eq_true (pidp _ _),idk,ide,hne]
    refine⟨fun h=>(by cases h),fun _=>dN hB hBn ?_⟩
    rintro r o ⟨rfl,hc⟩
    rcases hc with⟨hu,_⟩|⟨b2,e2,hb2,he2,rfl⟩
    ·omega
    ·rw[hbb]at hb2;cases hb2
     simp only[↓zq,zs,ah,zt,bT,der,eq_true (pidp _ _),nil0,aT,eq_true he2.env.has]
     rw[qy _ hbb]
     have hty:vT 100 v (cls (tB a (G.drop (u+1))) (.rc b) 0)=true:=by
      have:cls (tB a G) (.bound u) 0=cls (tB a (G.drop (u+1))) (.rc b) 0:=by simp only[cls];rw[if_neg (by omega)];exact wZ a G u b hbb
      rwa[this]at hv
     have hl2:=hGl u b hbb
     simp only[py]at hm
     repeat refine⟨by first|trivial|omega,?_⟩
     refine cr (A6 a hl old to n m0 hrep m (G.drop (u+1)) (.rc b) v e2 (ids.drop (u+1)) k (by simp only[py];omega) hn h200 he2 (fun i c hi=>?_) (by rw[bh];omega) (by rw[bh,show G.length-(u+1)+1=G.length-u by omega];exact hl2) hty hb hk) ?_
     ·rw[bV]at hi
      have:=hGl (u+1+i) c hi
      rw[bh,show G.length-(u+1)-i=G.length-(u+1+i) by omega]
      exact this
     ·simp only[↓zq,zs,ah,zt,cm,aY,aT,Ob.es,ba,bD]
      exact⟨rfl,rfl⟩
  |
   plus t1 t2 =>
   have av:(Ty.plus t1 t2).av=.ptr [.v (.int .u8 43),.v (.string (mk [])),.v (.int .i64 0),t1.av,t2.av]:=rfl
   simp only[BL,av,↓zq,zs,ah,zt]
   refine⟨by omega,fun h=>absurd h (by decide),fun _=>⟨fun _=>?_,fun h=>absurd rfl h⟩⟩
   cases v with
   |
    l w =>
    simp only[Vl.dF,↓zq,zs,ah,zt]
    simp only[Vl.nodes]at hm hn h200 hG hk
    have:=bZ t1
    refine⟨by omega,fun h=>?_,fun h=>absurd rfl h⟩
    refine al (At _ _ _ _ _ _ ((aT _).mpr trivial) he.env.has) ?_
    simp only[↓zq,zs,ah,zt,aY,aT,eq_true he.env.has,bT]
    repeat refine⟨by first|trivial|omega,?_⟩
    refine cr (A6 a hl old to n m0 hrep m G t1 w ea ids k (by omega) (by omega) (by omega) he hGl (by omega) hlt.1 hv hb (by omega)) ?_
    simp only[↓zq,zs,ah,zt,cm,aY,aT,Ob.es,ba,bD]
    refine al (y6 _ _ ((aY _).mpr trivial)) ?_
    simp only[↓zq,zs,ah,zt]
    rw[yl]
    exact⟨rfl,rfl⟩
   |
    r w =>
    simp only[Vl.dF,↓zq,zs,ah,zt]
    simp only[Vl.nodes]at hm hn h200 hG hk
    have:=bZ t2
    refine⟨by omega,fun h=>(absurd h (by decide)),fun h=>?_⟩
    refine al (Ah _ _ _ _ _ _ ((aT _).mpr trivial) he.env.has) ?_
    simp only[↓zq,zs,ah,zt,aY,aT,eq_true he.env.has,bT]
    repeat refine⟨by first|trivial|omega,?_⟩
    refine cr (A6 a hl old to n m0 hrep m G t2 w ea ids k (by omega) (by omega) (by omega) he hGl (by omega) hlt.2 hv hb (by omega)) ?_
    simp only[↓zq,zs,ah,zt,cm,aY,aT,Ob.es,ba,bD]
    refine al (y6 _ _ ((aY _).mpr trivial)) ?_
    simp only[↓zq,zs,ah,zt]
    rw[yE]
    exact⟨rfl,rfl⟩
   |_=>simp[cls,vT]at hv
  |
   times t1 t2 =>
   have av:(Ty.times t1 t2).av=.ptr [.v (.int .u8 42),.v (.string (mk [])),.v (.int .i64 0),t1.av,t2.av]:=rfl
   simp only[BL,av,↓zq,zs,ah,zt]
   cases v with
   |
    p x y =>
    simp only[cls,vT,ai]at hv
    simp only[Vl.dF,↓zq,zs,ah,zt]
    simp only[Vl.nodes]at hm hn h200 hG hk
    have:=bZ t1
    have:=bZ t2
    have:=aX x
    have:=aX y
    refine⟨by omega,fun h=>absurd h (by decide),fun _=>⟨fun h=>absurd h (by decide),fun _=>⟨fun _=>?_,fun h=>absurd rfl h⟩⟩⟩
    have c1:=kp (R:=hZ a old.fI to n) (2*x.nodes+1) G t1 x (by omega) fun e _=>qH n e
    refine al (At _ _ _ _ _ _ ((aT _).mpr trivial) he.env.has) ?_
    simp only[↓zq,zs,ah,zt,aY,aT,eq_true he.env.has,bT]
    repeat refine⟨by first|trivial|omega,?_⟩
    refine cr (A6 a hl old to n m0 hrep m G t1 x ea ids k (by omega) (by omega) (by omega) he hGl (by omega) hlt.1 hv.1 hb.1 (by omega)) ?_
    simp only[↓zq,zs,ah,zt,cm,aY,aT,Ob.es,ba,bD]
    refine al (Ah _ _ _ _ _ _ ((aT _).mpr trivial) he.env.has) ?_
    simp only[↓zq,zs,ah,zt,aY,aT,eq_true he.env.has,bT]
    repeat refine⟨by first|trivial|omega,?_⟩
    refine cr (A6 a hl old to n m0 hrep m G t2 y ea ids (k+(mm (hZ a old.fI to n) G t1 x).2) (by omega) (by omega) (by omega) he hGl (by omega) hlt.2 hv.2 hb.2 (by omega)) ?_
    simp only[↓zq,zs,ah,zt,cm,aY,aT,Ob.es,ba,bD]
    refine al (FG _ _ ((aY _).mpr trivial) ((aY _).mpr trivial)) ?_
    simp only[↓zq,zs,ah,zt]
    rw[xH,dz]
    exact⟨rfl,rfl⟩
   |_=>simp[cls,vT]at hv
  |
   rc b =>
   have av:(Ty.rc b).av=.ptr [.v (.int .u8 114),.v (.string (mk [])),.v (.int .i64 0),b.av,.v (.pointer none)]:=rfl
   cases v with
   |
    f w =>
    simp only[BL,Vl.dF,av,↓zq,zs,ah,zt]
    simp only[Vl.nodes]at hm hn h200 hG hk
    have:=bZ b
    refine⟨by omega,fun h=>absurd h (by decide),fun _=>⟨fun h=>absurd h (by decide),fun _=>⟨fun h=>absurd h (by decide),fun _=>⟨fun _=>?_,fun h=>absurd rfl h⟩⟩⟩⟩
    have hI:=EL b ea ids he.env
    rw[av]at hI
    refine dN hI (D3.ne b ea ids) ?_
    rintro r o ⟨⟨mi,hmi,rfl⟩,rfl⟩
    simp only[↓zq,zs,ah,zt,aY,aT,eq_true he.env.has,bT,eq_true (pidp _ _)]
    repeat refine⟨by first|trivial|omega,?_⟩
    have hvt:vT 100 w (cls (tB a (b::G)) b 0)=true:=by rw[vg (wT hl G)]at hv;exact hv
    refine cr (A6 a hl old to n m0 hrep m (b::G) b w _ (mi::ids) k (by omega) (by omega) (by omega) (.cons hmi he) (fun i c hi=>?_) (by simp;omega) hlt hvt hb (by omega)) ?_
    ·cases i with
     |zero=>simp at hi;subst hi;exact hlt
     |succ i=>have:=hGl i c (by simpa using hi);simpa using this
    simp only[↓zq,zs,ah,zt,cm,aY,aT,Ob.es,ba,bD]
    refine al (y6 _ _ ((aY _).mpr trivial)) ?_
    simp only[↓zq,zs,ah,zt]
    rw[xh]
    exact⟨rfl,rfl⟩
   |_=>simp[cls,vT]at hv
  |zero=>cases v<;>simp[cls,vT]at hv
  |
   one =>
   cases v with
   |
    u =>
    rw[qa _ (fun u h=>by cases h) rfl]
    simp[BL,Ty.av,↓zq,zs,ah,zt,ic]
   |_=>simp[cls,vT]at hv
  |
   name s =>
   rw[qa _ (fun u h=>by cases h) (by cases v<;>rfl)]
   simp[BL,Ty.av,↓zq,zs,ah,zt,ic]
theorem EO(a:Ty)(hl:gh a 1)(old to:Vl)(hob:old.fe 100)(hon:old.nodes<=200):∀(n:Nat) (v:Vl),v.nodes<=n->v.nodes<=200->vT 100 v (.rc a)=true->v.fe 100->GL a old to n v
 |0,v,hn,_,_,_=>by have:=aX v;omega
 |
  n+1,v,hn,h200,hv,hb=>by
  intro k hk
  have t1:=gA v hb
  have t2:=gA old hob
  refine HR _ _ _ _ _ ((aY _).mpr trivial) ((aY _).mpr trivial) ((aY _).mpr trivial) ((aT _).mpr trivial) ?_
  unfold Gq
  refine al (AD v (by omega)) ?_
  simp only[↓zq,zs,ah,zt,aY]
  refine al (AD old (by omega)) ?_
  simp only[↓zq,zs,ah,zt,aY,aT]
  refine⟨fun heq=>?_,fun hne=>?_⟩
  ·rw[pd n heq]
   rw[bW k (by omega)]
   exact⟨rfl,rfl⟩
  ·cases v with
   |
    f w =>
    rw[rN n hne]
    simp only[Vl.nodes]at hn h200 hk
    have hI:=EL a je [] .nil
    refine dN hI (D3.ne a je []) ?_
    rintro r o ⟨⟨mi,hmi,rfl⟩,rfl⟩
    have pidp:∀(i:Nat) (cs:List AV),LK.has .ptr (AV.pid i cs):=fun i cs=>.inr (.inr ⟨_,_,rfl⟩)
    have hvt:vT 100 w (cls (tB a []) a 0)=true:=by rw[tt 100 hl]at hv;exact hv
    simp only[Vl.dF,↓zq,zs,ah,zt,aY,aT,bT,eq_true (pidp _ _)]
    repeat refine⟨by first|trivial|omega,?_⟩
    refine cr (A6 a hl old to n mi (fun e h1 h2 h3 h4=>EO a hl old to hob hon n e h1 h2 h3 h4) (2*w.nodes+py a) [] a w _ [mi] k (an _) (by omega) (by omega) .top (fun i b hi=>by simp at hi) (by simp;omega) hl hvt hb (by omega)) ?_
    simp only[↓zq,zs,ah,zt,cm,aY,aT,Ob.es,ba,bD]
    refine al (y6 _ _ ((aY _).mpr trivial)) ?_
    simp only[↓zq,zs,ah,zt]
    exact⟨rfl,rfl⟩
   |_=>simp[vT]at hv
end Go.Proofs.Trees
namespace Go.Proofs.Trees
open Go Go.VL Go.RowKit
theorem vY{env:List Fr}(h:WF env):∀w,w∈names env->cC w=true:=by
 induction h with
 |nil=>intro w hw;cases hw
 |
  cons hs _ _ _ _ _ ih =>
  intro w hw
  simp only[names,aC,aR]at hw
  rcases hw with hw|rfl
  ·exact ih w hw
  ·exact hs
theorem xT{ar:List (List UInt8)}{k:Nat}(h:k<ar.length):gW ar k∈ar:=by
 unfold gW
 have:ar.length-1-k<ar.length:=by omega
 simp[aa,this]
def yF(s:List UInt8)(ar:List (List UInt8)):Prop:=fC s=true\/(bR s ar ar.length).isSome=true
theorem sR{s:List UInt8}{ar:List (List UInt8)}{u:Nat}(hl:∀w,w∈ar->cC w=true)(h:bR s ar ar.length=some u):cC s=true:=by
 obtain⟨h1,h2⟩:=eQ _ _ (an _) h
 rw[<-h2];exact hl _ (xT h1)
theorem Bp{s0 s:List UInt8}{ar:List (List UInt8)}{t:Ty}(ht:cf (.atom s0) ar=some t)(hl:∀w,w∈ar->cC w=true)(hs:yF s ar):ec t (mY s ar)=decide (s0=s):=by
 have h48:∀b:UInt8,fC [b]=false->cC [b]=false->s≠[b]:=fun b h1 h2 e=>by
  subst e
  rcases hs with h|h
  ·rw[h1]at h;cases h
  ·obtain⟨u,hu⟩:=aZ.1 h
   rw[sR hl hu]at h2;cases h2
 simp only[cf]at ht
 split at ht
 ·rename_i e;cases ht;subst e
  have:=h48 48 rfl rfl
  rw[decide_eq_false (fun h=>this h.symm)];cases mY s ar<;>rfl
 ·split at ht
  ·rename_i e;cases ht;subst e
   have:=h48 49 rfl rfl
   rw[decide_eq_false (fun h=>this h.symm)];cases mY s ar<;>rfl
  ·split at ht
   ·rename_i hp
    cases ht
    unfold mY
    cases e:bR s ar ar.length with
    |none=>rfl
    |
     some u =>
     have hloo:=sR hl e
     show false=_
     rw[decide_eq_false]
     rintro rfl
     rw[iW hp]at hloo;cases hloo
   ·rename_i hnp
    split at ht
    ·split at ht
     ·rename_i u hu
      cases ht
      unfold mY
      cases e:bR s ar ar.length with
      |
       none =>
       show false=_
       rw[decide_eq_false]
       rintro rfl
       rw[hu]at e;cases e
      |
       some u' =>
       show decide (u=u')=_
       rw[cA,decide_eq_true_eq,decide_eq_true_eq]
       constructor
       ·rintro rfl
        rw[<-(eQ _ _ (an _) hu).2,<-(eQ _ _ (an _) e).2]
       ·rintro rfl
        rw[hu]at e;cases e;rfl
     ·rename_i hn
      cases ht
      unfold mY
      cases e:bR s ar ar.length with
      |none=>rfl
      |
       some u =>
       show false=_
       rw[decide_eq_false]
       rintro rfl
       rw[hn]at e;cases e
    ·cases ht
theorem yP{b:E}{ar:List (List UInt8)}{w:List UInt8}{t:Ty}(hb:cf b (ar++[w])=some t)(hw:cC w=true)(hs:yF w ar):rF t (mY w ar).up=false:=by
 rcases hs with h|h
 ·rw[iW h]at hw;cases hw
 ·obtain⟨u,hu⟩:=aZ.1 h
  rw[mY,hu];exact CG hb hu
theorem vW{s w:List UInt8}{ar:List (List UInt8)}(h:w≠s)(hs:yF s ar):yF s (ar++[w]):=by
 rcases hs with h1|h1
 ·exact .inl h1
 ·right;rw[mW ar h];obtain⟨u,hu⟩:=aZ.1 h1;rw[hu];rfl
def Hz(e:E)(s:List UInt8)(t:Ty)(tg:Tg)(v:Vl):Prop:=ay Tryz.prog 34 [.agg [.v (.string (mk e.at)),e.sp],.v (.string (mk s)),.agg [.v (.string (mk v.bM.at)),v.bM.sp]] [] (bK (.sl (jN (bm t tg v))))
theorem AB(n:Nat):∀(m:Nat) (v:Vl),v.nodes<=m->∀(e:E) (env:List Fr) (t:Ty),Ask e env t->en n v (e,env)=true->env.length+v.nodes<100000->∀(s:List UInt8),yF s (names env)->Hz e s t (mY s (names env)) v
 |0,v,hm=>by have:=aX v;omega
 |
  m+1,v,hm=>by
  intro e env t A hv hl s hs
  have hloo:=vY A.wf
  unfold Hz
  refine IP _ _ _ _ _ ((bE _).mpr trivial) ((bE _).mpr trivial) ?_
  have hlen:=pV t (mY s (names env)) v
  have atomCase:∀s0,e=.atom s0->stuck t v=true->dV Tryz.prog 244 (Cl (mk e.at) e.sp (mk s) (mk v.bM.at) v.bM.sp) fun _ xs obs=>bK (.sl (jN (bm t (mY s (names env)) v))) (xs.headD .any) obs:=by
   rintro s0 rfl hst
   have hat:=Bp A.ty hloo hs
   have hne:s0≠[]:=A.ok
   simp only[Cl,E.at,↓zq,zs,ah,zt]
   refine⟨fun _=>⟨fun h=>?_,fun h=>?_⟩,fun h=>absurd h hne⟩
   ·rw[decide_eq_true h]at hat
    rw[iv v hat]
    refine⟨⟨vP _ _ _ _,by omega⟩,?_⟩
    simp[bK,jN,Vl.bM,E.at,E.sp]
   ·rw[decide_eq_false h]at hat
    rw[cP hat hst]
    simp[bK,jN]
  have hvh:=xj v
  rw[dD]at hvh
  rcases gK A.wf A.ty with⟨hb,hq⟩|⟨u,g,rfl,hq,hu⟩
  ·have hhd:hd e env=(e,env):=jX hq
   rcases eS A.ty hb A.cl with⟨rfl,rfl⟩|⟨rfl,rfl⟩|⟨s0,rfl,rfl,hp,h0,h1⟩|⟨x,a,b,t1,t2,rfl,hx,rfl,ha,hbb⟩|⟨x,a,b,t1,t2,rfl,hx,rfl,ha,hbb⟩|⟨x,a,b,t1,rfl,hx,rfl⟩
   ·exact atomCase _ rfl (by cases v<;>rfl)
   ·exact atomCase _ rfl (by cases v<;>rfl)
   ·exact atomCase _ rfl (by cases v<;>rfl)
   ·obtain⟨ok1,ok2,ok3,_⟩:=A.ok
    obtain⟨f1,f2⟩:=eV A.cl
    have hP:=P3.of x a b
    cases v with
    |
     l w =>
     simp only[en,hhd,hx,beq_self_eq_true,bI]at hv
     simp only[Vl.nodes]at hm hl hlen
     rw[fO]at hlen |-
     rw[jZ]at hlen
     have hW:=P2.of (.atom [108]) w.bM
     simp only[Cl,E.at,↓zq,zs,ah,zt]
     refine⟨fun h=>absurd rfl h,fun _=>al hvh ?_⟩
     simp only[vh,Vl.bM,toNat_one,bG,↓zq,zs,ah,zt,hP.1,hP.2.1,hP.2.2.1,hP.2.2.2,hW.1,hW.2.1,hW.2.2,bj]
     refine⟨fun _=>?_,fun h=>absurd rfl h⟩
     repeat refine⟨by omega,?_⟩
     refine al (AB n m w (by omega) a env t1 ⟨ok2,A.wf,ha,f1⟩ hv (by omega) s hs) ?_
     simp only[↓zq,zs,ah]
     refine cr (GN [108] Vl.l (fun c=>rfl) (bm t1 (mY s (names env)) w) [] (by simp;omega)) ?_
     simp[↓zq,zs,ah,bK,ba,bD]
    |
     r w =>
     simp only[en,hhd,hx,beq_self_eq_true,bI]at hv
     simp only[Vl.nodes]at hm hl hlen
     rw[fT]at hlen |-
     rw[jZ]at hlen
     have hW:=P2.of (.atom [114]) w.bM
     simp only[Cl,E.at,↓zq,zs,ah,zt]
     refine⟨fun h=>absurd rfl h,fun _=>al hvh ?_⟩
     simp only[vh,Vl.bM,toNat_one,bG,↓zq,zs,ah,zt,hP.1,hP.2.1,hP.2.2.1,hP.2.2.2,hW.1,hW.2.1,hW.2.2,bj]
     refine⟨fun h=>by simp at h,fun _=>⟨fun _=>?_,fun h=>absurd rfl h⟩⟩
     repeat refine⟨by omega,?_⟩
     refine al (AB n m w (by omega) b env t2 ⟨ok3,A.wf,hbb,f2⟩ hv (by omega) s hs) ?_
     simp only[↓zq,zs,ah]
     refine cr (GN [114] Vl.r (fun c=>rfl) (bm t2 (mY s (names env)) w) [] (by simp;omega)) ?_
     simp[↓zq,zs,ah,bK,ba,bD]
    |_=>simp[en,hhd,hx]at hv
   ·obtain⟨ok1,ok2,ok3,_⟩:=A.ok
    obtain⟨f1,f2⟩:=er A.cl
    have hP:=P3.of x a b
    cases v with
    |
     p w w' =>
     simp only[en,hhd,hx,beq_self_eq_true,bI,ai]at hv
     simp only[Vl.nodes]at hm hl hlen
     rw[eD]at hlen |-
     simp only[aq,jZ]at hlen
     have hW:=P3.of (.atom [112]) w.bM w'.bM
     simp only[Cl,E.at,↓zq,zs,ah,zt]
     refine⟨fun h=>absurd rfl h,fun _=>al hvh ?_⟩
     simp only[vh,Vl.bM,toNat_one,bG,↓zq,zs,ah,zt,hP.1,hP.2.1,hP.2.2.1,hP.2.2.2,hW.1,hW.2.1,hW.2.2.1,hW.2.2.2,bj]
     refine⟨fun h=>by simp at h,fun _=>⟨fun h=>by simp at h,fun _=>⟨fun _=>?_,fun h=>absurd rfl h⟩⟩⟩
     repeat refine⟨by omega,?_⟩
     refine al (AB n m w (by omega) a env t1 ⟨ok2,A.wf,ha,f1⟩ hv.1 (by omega) s hs) ?_
     simp only[↓zq,zs,ah]
     have h1:=Gk s (mk []) (E.list [x,a,b]).sp ((bE _).mpr trivial) (mk []) (E.list [.atom [112],w.bM,w'.bM]).sp w w' (P3.of _ _ _) (bm t1 (mY s (names env)) w) (by omega) _ 0 [] (aK _) (by simp;omega)
     rw[bw,bc]at h1
     refine df h1 ?_
     simp only[↓zq,zs,ah,bE,ah,bG,hP.1,hP.2.1,hP.2.2.2,hW.1,hW.2.1,hW.2.2.2,bj]
     repeat refine⟨by omega,?_⟩
     refine al (AB n m w' (by omega) b env t2 ⟨ok3,A.wf,hbb,f2⟩ hv.2 (by omega) s hs) ?_
     simp only[↓zq,zs,ah]
     have h2:=Gz (mk []) (E.list [.atom [112],w.bM,w'.bM]).sp w w' (P3.of _ _ _) (bm t2 (mY s (names env)) w') (by omega) _ 0 (eX (fun c=>Vl.l (.p c w')) (bm t1 (mY s (names env)) w)) (aK _) (by rw[jZ];omega)
     rw[bw]at h2
     refine df h2 ?_
     simp[↓zq,zs,ah,bK]
    |_=>simp[en,hhd,hx]at hv
   ·obtain⟨t1',he1,h1,f1,hw1⟩:=iD A.wf A.ok hx A.ty A.cl
    cases he1
    obtain⟨ok1,ok2,ok3,_⟩:=A.ok
    obtain⟨_,hla,_,_⟩:=cI hx A.ty
    have A':Ask b (.mk a.at (.list [x,a,b]) env::env) t1:=⟨ok3,hw1,h1,f1⟩
    have hnm:names (.mk a.at (.list [x,a,b]) env::env)=names env++[a.at]:=rfl
    have hP:=P3.of x a b
    cases v with
    |
     f w =>
     simp only[en,hhd,hx,beq_self_eq_true,bI]at hv
     simp only[Vl.nodes]at hm hl hlen
     have hW:=P2.of (.atom [102]) w.bM
     simp only[Cl,E.at,↓zq,zs,ah,zt]
     refine⟨fun h=>absurd rfl h,fun _=>al hvh ?_⟩
     simp only[vh,Vl.bM,toNat_one,bG,↓zq,zs,ah,zt,hP.1,hP.2.1,hP.2.2.1,hP.2.2.2,hW.1,hW.2.1,hW.2.2,bj]
     refine⟨fun h=>by simp at h,fun _=>⟨fun h=>by simp at h,fun _=>⟨fun h=>by simp at h,fun _=>?_⟩⟩⟩
     repeat refine⟨by omega,?_⟩
     refine⟨fun h=>?_,fun h=>?_⟩
     ·
      have hh:a.at=s:=h
      subst hh
      have:rF (.rc t1) (mY a.at (names env))=false:=yP h1 hla hs
      rw[gx _ _ (an _) _ _ this]
      simp[bK,jN]
     ·have hh:a.at≠s:=h
      rw[eB]at hlen |-
      simp only[aq,jZ]at hlen
      repeat refine⟨by omega,?_⟩
      have i1:=AB n m w (by omega) b _ t1 A' hv (by simp;omega) s (by rw[hnm];exact vW hh hs)
      rw[hnm,wj _ hh]at i1
      refine al i1 ?_
      simp only[↓zq,zs,ah]
      have h3:=DY s a.at (mk []) (E.list [x,a,b]).sp ((bE _).mpr trivial) (mk []) (E.list [.atom [102],w.bM]).sp ((bE _).mpr trivial) (bm t1 (mY s (names env)).up w) (by omega) _ 0 [] (aK _) (by simp;omega)
      rw[bw,bc]at h3
      refine df h3 ?_
      simp only[↓zq,zs,ah,bE,ah,toNat_one,bG,hP.1,hP.2.1,hP.2.2.2,hW.1,hW.2.1,hW.2.2,bj]
      repeat refine⟨by omega,?_⟩
      have i2:=AB n m w (by omega) b _ t1 A' hv (by simp;omega) a.at (by rw[hnm];right;rw[i6];rfl)
      rw[hnm,sP]at i2
      refine al i2 ?_
      simp only[↓zq,zs,ah]
      have hl2:=pV t1 (.bd 0) w
      have ih3:∀h,h∈bm t1 (.bd 0) w->Hz (.list [x,a,b]) s (.rc t1) (mY s (names env)) h.2:=fun h hh=>by
       have h3:=(gI hh).1
       have h4:=gP n m w (by omega) b _ t1 A' hv 0 _ rfl h hh
       exact AB n m h.2 (by omega) (.list [x,a,b]) env (.rc t1) A h4 (by omega) s hs
      have h4:=Gp s (.list [x,a,b]) t1 (mY s (names env)) (bm t1 (.bd 0) w) (by omega) ih3 _ 0 (eX (fun c=>.f (.l c)) (bm t1 (mY s (names env)).up w)) (aK _) (by
       simp only[bw,aq,jZ]
       have hlen2:(bm t1 (mY s (names env)).up w).length+((bm t1 (.bd 0) w).flatMap (Du t1 (mY s (names env)))).length<=1+w.nodes:=hlen
       omega)
      rw[bw]at h4
      simp only[E.at]at h4
      refine df h4 ?_
      simp[↓zq,zs,ah,bK]
    |_=>simp[en,hhd,hx]at hv
  ·cases e with
   |atom s0=>exact atomCase _ rfl (by cases v<;>rfl)
   |list l=>exact absurd hq (by rw[show (E.list l).at=[] from rfl,ji A.wf];simp)
end Go.Proofs.Trees
namespace Go.Proofs.Trees
open Go Go.VL Go.RowKit
def hJ(s:List UInt8):Option Ty:=match vI s with
 |some (.rc a)=>some a
 |_=>none
def wQ:Option Ty->AV
 |some a=>(Ty.rc a).av
 |none=>je
theorem Ix(s:List UInt8):ay Tryz.prog 37 [.v (.string (mk s))] [] (bK (wQ (hJ s))):=by
 refine HF _ ?_
 unfold F3
 refine al (Gj s) ?_
 cases h:vI s with
 |none=>simp[↓zq,zs,ah,gN,wQ,hJ,h,bK]
 |some t=>cases t<;>simp[↓zq,zs,ah,gN,wQ,hJ,h,bK,Ty.av]
def fW(s v:List UInt8):Option Vl:=match hJ s with
 |some _=>tM s v 100
 |none=>none
def Cn(s:List UInt8):AV:=match hJ s with
 |some a=>(Ty.rc a).av
 |none=>je
theorem oA{s:List UInt8}{a:Ty}(h:hJ s=some a):vI s=some (.rc a):=by
 unfold hJ at h
 split at h
 ·rename_i e;cases h;exact e
 ·cases h
theorem Ba(s v:List UInt8):ay Tryz.prog 15 [.v (.string (mk s)),.v (.string (mk v))] [] (bK (.cQ [Cn s,gR (fW s v)])):=by
 refine Ij _ _ ?_
 unfold DG
 refine al (Ix s) ?_
 cases h:hJ s with
 |none=>simp[↓zq,zs,ah,wQ,Cn,fW,h,bK,gR]
 |
  some a =>
  simp only[↓zq,zs,ah,wQ,aT,eZ]
  refine⟨fun h=>(by cases h),fun _=>?_⟩
  refine al (HC s v 100) ?_
  rw[oA h]
  simp[↓zq,zs,ah,gN,eG,Cn,fW,h,bK,aT]
structure LV(s v:List UInt8)(w:Vl)(a:Ty)(x A B:E):Prop where
 l:hJ s=some a
 ce:iU s=some (.list [x,A,B])
 v:pQ v=some w
 ask:Ask (.list [x,A,B]) [] (.rc a)
 hx:x.at=[114,101,99]
 Jx:cC A.at=true
 body:Ask B [.mk A.at (.list [x,A,B]) []] a
 en:en 100 w (.list [x,A,B],[])=true
theorem qB{e:E}{env:List Fr}{a:Ty}(A:Ask e env (.rc a)):∃x y z,e=.list [x,y,z]/\x.at=[114,101,99]/\cC y.at=true/\Ask z (.mk y.at (.list [x,y,z]) env::env) a:=by
 rcases eS A.ty rfl A.cl with⟨_,h⟩|⟨_,h⟩|⟨s,_,h,_⟩|⟨x,y,z,t1,t2,_,_,h,_⟩|⟨x,y,z,t1,t2,_,_,h,_⟩|⟨x,y,z,t1,rfl,hx,h⟩
 ·cases h
 ·cases h
 ·cases h
 ·cases h
 ·cases h
 ·cases h
  obtain⟨t1',he1,h1,f1,hw1⟩:=iD A.wf A.ok hx A.ty A.cl
  cases he1
  obtain⟨_,_,ok3,_⟩:=A.ok
  obtain⟨_,hla,_,_⟩:=cI hx A.ty
  exact⟨x,y,z,rfl,hx,hla,ok3,hw1,h1,f1⟩
theorem nF{s v:List UInt8}{w:Vl}(h:fW s v=some w):∃a x A B,LV s v w a x A B:=by
 unfold fW at h
 split at h
 ·rename_i a hl
  obtain⟨e,t,m,h1,h2,h3,h4,h5,h6,h7⟩:=xt h
  rw[oA hl]at h3
  cases h3
  obtain⟨x,A,B,rfl,hx,hA,hB⟩:=qB h4
  have:m=100:=by omega
  subst this
  exact⟨a,x,A,B,hl,h1,h2,h4,hx,hA,hB,h7⟩
 ·cases h
theorem LV.fe{s v:List UInt8}{w:Vl}{a:Ty}{x A B:E}(h:LV s v w a x A B):w.fe 100:=(nI h.v).2.1
theorem LV.nodes{s v:List UInt8}{w:Vl}{a:Ty}{x A B:E}(h:LV s v w a x A B):w.nodes<=200:=(nI h.v).2.2
theorem z6{n:Nat}{v:Vl}{x A B:E}{env:List Fr}(hw:WF env)(hx:x.at=[114,101,99])(h:en n v (.list [x,A,B],env)=true):∃w,v=.f w/\en n w (B,.mk A.at (.list [x,A,B]) env::env)=true:=by
 have hd:=nJ (x:=x) (a:=A) (b:=B) hw
 cases v<;>simp[en,hd,hx]at h |-
 exact h
def oO(l:List Nat):List (List AV):=l.map fun(k:Nat)=>[.v (.int .i64 (k:Int))]
theorem tT(l:List Nat):(oO l).length=l.length:=by simp[oO]
end Go.Proofs.Trees
namespace Go.Proofs.Trees
open Go Go.VL Go.RowKit
def IX(e:E)(s:List UInt8)(t:Ty)(c v:Vl):Prop:=ay Tryz.prog 36 [.agg [.v (.string (mk e.at)),e.sp],.v (.string (mk s)),.agg [.v (.string (mk c.bM.at)),c.bM.sp],.agg [.v (.string (mk v.bM.at)),v.bM.sp]] [] (bK (.agg [.v (.string (mk (cE t c v).bM.at)),(cE t c v).bM.sp]))
theorem AY:∀(m:Nat) (c:Vl),c.nodes<=m->∀(e:E) (env:List Fr) (t:Ty),Ask e env t->dI t c=true->∀(s:List UInt8) (v:Vl),IX e s t c v
 |0,c,hm=>by have:=aX c;omega
 |
  m+1,c,hm=>by
  intro e env t A hc s v
  unfold IX
  refine Hi _ _ _ _ _ _ _ ((bE _).mpr trivial) ((bE _).mpr trivial) ((bE _).mpr trivial) ?_
  have atomCase:∀s0,e=.atom s0->cE t c v=v->dV Tryz.prog 244 (zk (mk e.at) e.sp (mk s) (mk c.bM.at) c.bM.sp (mk v.bM.at) v.bM.sp) fun _ xs obs=>bK (.agg [.v (.string (mk (cE t c v).bM.at)),(cE t c v).bM.sp]) (xs.headD .any) obs:=by
   rintro s0 rfl hp
   have hne:s0≠[]:=A.ok
   rw[hp]
   simp only[zk,E.at,↓zq,zs,ah,zt,bK]
   exact⟨fun _=>trivial,fun h=>absurd h hne⟩
  have hvh:=xj c
  rw[dD]at hvh
  rcases gK A.wf A.ty with⟨hb,hq⟩|⟨u,g,rfl,hq,hu⟩
  ·rcases eS A.ty hb A.cl with⟨rfl,rfl⟩|⟨rfl,rfl⟩|⟨s0,rfl,rfl,hp,h0,h1⟩|⟨x,a,b,t1,t2,rfl,hx,rfl,ha,hbb⟩|⟨x,a,b,t1,t2,rfl,hx,rfl,ha,hbb⟩|⟨x,a,b,t1,rfl,hx,rfl⟩
   ·exact atomCase _ rfl (vL _ _)
   ·exact atomCase _ rfl (xL _ _)
   ·exact atomCase _ rfl (qh _ _ _)
   ·obtain⟨ok1,ok2,ok3,_⟩:=A.ok
    obtain⟨f1,f2⟩:=eV A.cl
    have hP:=P3.of x a b
    have hH:ay Tryz.prog 29 [.agg [.v (.string (mk [])),(E.list [x,a,b]).sp]] [] (bK (.v (.string (mk [43])))):=by rw[<-hx];exact rL x [a,b]
    rcases w7 hc with⟨y,rfl,hy⟩|⟨y,rfl,hy⟩
    ·simp only[Vl.nodes]at hm
     have hW:=P2.of (.atom [108]) y.bM
     simp only[Vl.bM,eg]at hvh
     simp only[zk,eg,Vl.bM,toNat_one,bG,↓zq,zs,ah,zt,hP.1,hP.2.1,hP.2.2.1,hP.2.2.2,hW.1,hW.2.1,hW.2.2,bj]
     refine⟨fun h=>absurd rfl h,fun _=>?_⟩
     repeat refine⟨by omega,?_⟩
     refine al hH ?_
     simp only[↓zq,zs,ah,zt]
     refine al hvh ?_
     simp only[vh,↓zq,zs,ah,zt,bA,bc]
     refine⟨by simp[cY],fun _=>?_,fun h=>absurd rfl h⟩
     repeat refine⟨by omega,?_⟩
     refine al (AY m y (by omega) a env t1 ⟨ok2,A.wf,ha,f1⟩ hy s v) ?_
     simp only[↓zq,zs,ah,zt,bj]
     repeat refine⟨by omega,?_⟩
     refine al (wI _ _) ?_
     simp only[↓zq,zs,ah,zt,bj]
     repeat refine⟨by omega,?_⟩
     exact⟨rfl,rfl⟩
    ·simp only[Vl.nodes]at hm
     have hW:=P2.of (.atom [114]) y.bM
     simp only[Vl.bM,eg]at hvh
     simp only[zk,eg,Vl.bM,toNat_one,bG,↓zq,zs,ah,zt,hP.1,hP.2.1,hP.2.2.1,hP.2.2.2,hW.1,hW.2.1,hW.2.2,bj]
     refine⟨fun h=>absurd rfl h,fun _=>?_⟩
     repeat refine⟨by omega,?_⟩
     refine al hH ?_
     simp only[↓zq,zs,ah,zt]
     refine al hvh ?_
     simp only[vh,↓zq,zs,ah,zt,bA,bc]
     refine⟨by simp[cY],fun h=>by simp at h,fun _=>⟨fun _=>?_,fun h=>absurd rfl h⟩⟩
     repeat refine⟨by omega,?_⟩
     refine al (AY m y (by omega) b env t2 ⟨ok3,A.wf,hbb,f2⟩ hy s v) ?_
     simp only[↓zq,zs,ah,zt,bj]
     repeat refine⟨by omega,?_⟩
     refine al (wI _ _) ?_
     simp only[↓zq,zs,ah,zt,bj]
     repeat refine⟨by omega,?_⟩
     exact⟨rfl,rfl⟩
   ·obtain⟨ok1,ok2,ok3,_⟩:=A.ok
    obtain⟨f1,f2⟩:=er A.cl
    have hP:=P3.of x a b
    have hH:ay Tryz.prog 29 [.agg [.v (.string (mk [])),(E.list [x,a,b]).sp]] [] (bK (.v (.string (mk [42])))):=by rw[<-hx];exact rL x [a,b]
    rcases vD hc with⟨y,z,rfl,hy⟩|⟨y,z,rfl,hy⟩
    ·simp only[Vl.nodes]at hm
     have hW:=P2.of (.atom [108]) (E.list [.atom [112],y.bM,z.bM])
     have hQ:=P3.of (.atom [112]) y.bM z.bM
     simp only[Vl.bM,eg]at hvh
     simp only[zk,eg,Vl.bM,toNat_one,bG,↓zq,zs,ah,zt,hP.1,hP.2.1,hP.2.2.1,hP.2.2.2,hW.1,hW.2.1,hW.2.2,hQ.1,hQ.2.1,hQ.2.2.1,hQ.2.2.2,bj]
     refine⟨fun h=>absurd rfl h,fun _=>?_⟩
     repeat refine⟨by omega,?_⟩
     refine al hH ?_
     simp only[↓zq,zs,ah,zt]
     refine al hvh ?_
     simp only[vh,↓zq,zs,ah,zt,bA,bc]
     refine⟨by simp[cY],fun h=>by simp at h,fun _=>⟨fun h=>by simp at h,fun _=>⟨fun _=>?_,fun h=>absurd rfl h⟩⟩⟩
     repeat refine⟨by omega,?_⟩
     refine al (AY m y (by omega) a env t1 ⟨ok2,A.wf,ha,f1⟩ hy s v) ?_
     simp only[↓zq,zs,ah,zt,bj]
     repeat refine⟨by omega,?_⟩
     refine al (FB _ _ _) ?_
     simp only[↓zq,zs,ah,zt,bj]
     repeat refine⟨by omega,?_⟩
     exact⟨rfl,rfl⟩
    ·simp only[Vl.nodes]at hm
     have hW:=P2.of (.atom [114]) (E.list [.atom [112],y.bM,z.bM])
     have hQ:=P3.of (.atom [112]) y.bM z.bM
     simp only[Vl.bM,eg]at hvh
     simp only[zk,eg,Vl.bM,toNat_one,bG,↓zq,zs,ah,zt,hP.1,hP.2.1,hP.2.2.1,hP.2.2.2,hW.1,hW.2.1,hW.2.2,hQ.1,hQ.2.1,hQ.2.2.1,hQ.2.2.2,bj]
     refine⟨fun h=>absurd rfl h,fun _=>?_⟩
     repeat refine⟨by omega,?_⟩
     refine al hH ?_
     simp only[↓zq,zs,ah,zt]
     refine al hvh ?_
     simp only[vh,↓zq,zs,ah,zt,bA,bc]
     refine⟨by simp[cY],fun h=>by simp at h,fun _=>⟨fun h=>by simp at h,fun _=>⟨fun h=>by simp at h,fun _=>⟨fun _=>?_,fun h=>absurd rfl h⟩⟩⟩⟩
     repeat refine⟨by omega,?_⟩
     refine al (AY m z (by omega) b env t2 ⟨ok3,A.wf,hbb,f2⟩ hy s v) ?_
     simp only[↓zq,zs,ah,zt,bj]
     repeat refine⟨by omega,?_⟩
     refine al (FB _ _ _) ?_
     simp only[↓zq,zs,ah,zt,bj]
     repeat refine⟨by omega,?_⟩
     exact⟨rfl,rfl⟩
   ·obtain⟨t1',he1,h1,f1,hw1⟩:=iD A.wf A.ok hx A.ty A.cl
    cases he1
    obtain⟨ok1,ok2,ok3,_⟩:=A.ok
    have A':Ask b (.mk a.at (.list [x,a,b]) env::env) t1:=⟨ok3,hw1,h1,f1⟩
    have hP:=P3.of x a b
    have hH:ay Tryz.prog 29 [.agg [.v (.string (mk [])),(E.list [x,a,b]).sp]] [] (bK (.v (.string (mk [114,101,99])))):=by rw[<-hx];exact rL x [a,b]
    rcases CV hc with⟨y,rfl,hy⟩|⟨y,z,rfl,hy,hz⟩
    ·simp only[Vl.nodes]at hm
     have hW:=P2.of (.atom [102]) (E.list [.atom [108],y.bM])
     have hQ:=P2.of (.atom [108]) y.bM
     have hvi:=xj (.l y)
     rw[dD]at hvi
     simp only[Vl.bM,eg]at hvh hvi
     simp only[zk,eg,Vl.bM,toNat_one,bG,↓zq,zs,ah,zt,hP.1,hP.2.1,hP.2.2.1,hP.2.2.2,hW.1,hW.2.1,hW.2.2,hQ.1,hQ.2.1,hQ.2.2,bj]
     refine⟨fun h=>absurd rfl h,fun _=>?_⟩
     repeat refine⟨by omega,?_⟩
     refine al hH ?_
     simp only[↓zq,zs,ah,zt]
     refine al hvh ?_
     simp only[vh,↓zq,zs,ah,zt,bA,bc]
     refine⟨by simp[cY],fun h=>by simp at h,fun _=>⟨fun h=>by simp at h,fun _=>⟨fun h=>by simp at h,fun _=>⟨fun h=>by simp at h,fun _=>?_⟩⟩⟩⟩
     repeat refine⟨by omega,?_⟩
     refine al hvi ?_
     simp only[vh,↓zq,zs,ah,zt]
     refine⟨fun _=>?_,fun h=>absurd rfl h⟩
     repeat refine⟨by omega,?_⟩
     refine al (AY m y (by omega) b _ t1 A' hy s v) ?_
     simp only[↓zq,zs,ah,zt,bj]
     repeat refine⟨by omega,?_⟩
     refine al (wI _ _) ?_
     simp only[↓zq,zs,ah,zt,bj]
     repeat refine⟨by omega,?_⟩
     exact⟨rfl,rfl⟩
    ·simp only[Vl.nodes]at hm
     have hW:=P2.of (.atom [102]) (E.list [.atom [114],E.list [.atom [112],y.bM,z.bM]])
     have hQ:=P2.of (.atom [114]) (E.list [.atom [112],y.bM,z.bM])
     have hR:=P3.of (.atom [112]) y.bM z.bM
     have hvi:=xj (.r (.p y z))
     rw[dD]at hvi
     simp only[Vl.bM,eg]at hvh hvi
     simp only[zk,eg,Vl.bM,toNat_one,bG,↓zq,zs,ah,zt,hP.1,hP.2.1,hP.2.2.1,hP.2.2.2,hW.1,hW.2.1,hW.2.2,hQ.1,hQ.2.1,hQ.2.2,hR.1,hR.2.1,hR.2.2.1,hR.2.2.2,bj]
     refine⟨fun h=>absurd rfl h,fun _=>?_⟩
     repeat refine⟨by omega,?_⟩
     refine al hH ?_
     simp only[↓zq,zs,ah,zt]
     refine al hvh ?_
     simp only[vh,↓zq,zs,ah,zt,bA,bc]
     refine⟨by simp[cY],fun h=>by simp at h,fun _=>⟨fun h=>by simp at h,fun _=>⟨fun h=>by simp at h,fun _=>⟨fun h=>by simp at h,fun _=>?_⟩⟩⟩⟩
     repeat refine⟨by omega,?_⟩
     refine al hvi ?_
     simp only[vh,↓zq,zs,ah,zt]
     refine⟨fun h=>by simp at h,fun _=>?_⟩
     repeat refine⟨by omega,?_⟩
     have i1:=AY m z (by omega) (.list [x,a,b]) env (.rc t1) A hz s v
     unfold IX at i1
     simp only[eg]at i1
     refine al i1 ?_
     simp only[↓zq,zs,ah,zt,bj]
     repeat refine⟨by omega,?_⟩
     refine al (AY m y (by omega) b _ t1 A' hy a.at (cE (.rc t1) z v)) ?_
     simp only[↓zq,zs,ah,zt,bj]
     repeat refine⟨by omega,?_⟩
     refine al (wI _ _) ?_
     simp only[↓zq,zs,ah,zt,bj]
     repeat refine⟨by omega,?_⟩
     exact⟨rfl,rfl⟩
  ·cases e with
   |atom s0=>exact atomCase _ rfl (oV _ _ _)
   |list l=>exact absurd hq (by rw[show (E.list l).at=[] from rfl,ji A.wf];simp)
end Go.Proofs.Trees
namespace Go.Proofs.Trees
open Go Go.VL Go.RowKit
def tc(s v:List UInt8):Option (List Pt):=match hJ s,fW s v with
 |some a,some w=>if(parts a w).length<=100 then some (parts a w)else none
 |_,_=>none
def I3(f:List Pt->List (List AV))(s v:List UInt8):AV->List Ob->Prop:=fun r o=>o=[]/\∃x,LK.sl.has x/\r=.cQ [x,.v (.bool (tc s v).isSome)]/\∀l,tc s v=some l->x=.sl (f l)
theorem I3.ne(f:List Pt->List (List AV))(s v:List UInt8):∃r o,I3 f s v r o:=by
 cases h:tc s v with
 |none=>exact⟨_,_,rfl,.sl [],(cG _).mpr trivial,rfl,fun l hl=>by rw[h]at hl;cases hl⟩
 |some l=>exact⟨_,_,rfl,.sl (f l),(cG _).mpr trivial,rfl,fun l' hl=>by rw[h]at hl;cases hl;rfl⟩
end Go.Proofs.Trees
namespace Go.Proofs.Trees
open Go Go.VL Go.RowKit
def ki:E->Option E
 | .list [x,a,b]=>if x.at=[114,101,99]then some (.list [x,a,b])else none
 |_=>none
def od(s:List UInt8):Option E:=match iU s with
 |some e=>ki e
 |none=>none
theorem Hy(s:List UInt8):ay Tryz.prog 9 [.v (.string (mk s))] [] (kG (od s) (od s).isSome):=by
 refine Hk _ ?_
 unfold E8
 refine dN (DZ s) (kG.ne _ _ (fun h=>h)) ?_
 rintro r o ⟨c,d,hd,rfl,hh⟩
 have hhas:bT [.str,.sl] [.v (.string (mk c)),d] 0:=by simp[bT,dU,hd]
 simp only[↓zq,zs,ah,zt]
 refine⟨hhas,fun h=>?_,fun h=>?_⟩
 ·obtain⟨e,he,hce⟩:=hh h
  obtain⟨t,h1,hA,h3,h4,h5,_⟩:=ig he
  have hce':=hce
  rw[dD]at hce'
  simp only[AV.agg.injEq,List.cons.injEq,AV.v.injEq,Value.string.injEq,and_true]at hce'
  obtain⟨hc1,rfl⟩:=hce'
  have hc2:=mk_inj hc1
  subst hc2
  have head:∀w:List UInt8,ay Tryz.prog 29 [.agg [.v (.string (mk e.at)),e.sp]] [] (bK (.v (.string (mk w))))->(w=[114,101,99]↔(ki e).isSome=true)->((ki e).isSome=true->ki e=some e) ->
   dV Tryz.prog 18 (Tree.call 29 [.agg [.v (.string (mk e.at)),e.sp]] [] fun r2 o2=>Tree.ax (LK.str.has r2) (Tree.done 0 [.cQ [.agg [.v (.string (mk e.at)),e.sp],.v (.bool (ab r2.toStr==[114,101,99]))]] [])) fun _ xs obs=>kG (od s) (od s).isSome (xs.headD .any) obs:=by
   intro w hw h1 h2
   refine al hw ?_
   simp only[↓zq,zs,ah,zt]
   refine⟨e.at,e.sp,hd,?_,fun hs=>⟨e,?_,(dD e).symm⟩⟩
   ·congr 3
    simp only[od,he,AV.v.injEq,Value.bool.injEq,List.cons.injEq,and_true]
    rw[cA];simpa using h1
   ·simp only[od,he]at hs |-;exact h2 hs
  have hl:∀x l,e=.list (x::l)->ay Tryz.prog 29 [.agg [.v (.string (mk e.at)),e.sp]] [] (bK (.v (.string (mk x.at)))):=by
   rintro x l rfl;exact rL x l
  have ha:∀s0,e=.atom s0->ay Tryz.prog 29 [.agg [.v (.string (mk e.at)),e.sp]] [] (bK (.v (.string (mk [])))):=by
   rintro s0 rfl;exact Bu s0 _ ((bF).mpr trivial) hA.ok
  rcases gK hA.wf hA.ty with⟨hb,_⟩|⟨u,g,rfl,_,hg⟩
  ·rcases eS hA.ty hb hA.cl with⟨rfl,rfl⟩|⟨rfl,rfl⟩|⟨s0,rfl,rfl,hp,h0,h1⟩|⟨x,a,b,t1,t2,rfl,hx,rfl,ha',hbb⟩|⟨x,a,b,t1,t2,rfl,hx,rfl,ha',hbb⟩|⟨x,a,b,t1,rfl,hx,rfl⟩
   ·exact head _ (ha _ rfl) (by simp[ki]) (by simp[ki])
   ·exact head _ (ha _ rfl) (by simp[ki]) (by simp[ki])
   ·exact head _ (ha _ rfl) (by simp[ki]) (by simp[ki])
   ·exact head _ (hl _ _ rfl) (by simp[ki,hx]) (by simp[ki,hx])
   ·exact head _ (hl _ _ rfl) (by simp[ki,hx]) (by simp[ki,hx])
   ·exact head _ (hl _ _ rfl) (by simp[ki,hx]) (by simp[ki,hx])
  ·simp at hg
 ·have hn:iU s=none:=by cases hq:iU s<;>simp[hq]at h |-
  refine⟨c,d,hd,?_,fun h=>?_⟩
  ·simp[od,hn]
  ·simp[od,hn]at h
theorem sW(s:List UInt8):(od s).isSome=(hJ s).isSome:=by
 unfold od hJ
 cases h:iU s with
 |none=>rw[nt h];rfl
 |
  some e =>
  obtain⟨t,h1,hA,h3,h4,h5,_⟩:=ig h
  rw[h1]
  simp only
  rcases gK hA.wf hA.ty with⟨hb,_⟩|⟨u,g,rfl,_,hg⟩
  ·rcases eS hA.ty hb hA.cl with⟨rfl,rfl⟩|⟨rfl,rfl⟩|⟨s0,rfl,rfl,hp,h0,h1⟩|⟨x,a,b,t1,t2,rfl,hx,rfl,ha',hbb⟩|⟨x,a,b,t1,t2,rfl,hx,rfl,ha',hbb⟩|⟨x,a,b,t1,rfl,hx,rfl⟩<;>simp_all[ki]
  ·simp at hg
theorem LV.le{s v:List UInt8}{w:Vl}{a:Ty}{x A B:E}(h:LV s v w a x A B):od s=some (.list [x,A,B]):=by
 unfold od;rw[h.ce];simp[ki,h.hx]
theorem DU(n:Nat)(v:Vl)(x A B:E)(a:Ty)(hA:Ask B [.mk A.at (.list [x,A,B]) []] a)(hx:x.at=[114,101,99])(w:Vl)(hw:v=.f w)(hv:en n v (.list [x,A,B],[])=true)(hl:v.nodes<90000) :
 ay Tryz.prog 34 [.agg [.v (.string (mk B.at)),B.sp],.v (.string (mk A.at)),.agg [.v (.string (mk w.bM.at)),w.bM.sp]] [] (bK (.sl (jN (kids a v)))):=by
 subst hw
 obtain⟨w',e,hw'⟩:=z6 .nil hx hv
 cases e
 simp only[Vl.nodes]at hl
 have hnm:names [Fr.mk A.at (.list [x,A,B]) []]=[]++[A.at]:=rfl
 have h:=AB n w.nodes w (an _) B _ a hA hw' (by simp;omega) A.at (by rw[hnm];right;rw[i6];rfl)
 rw[hnm,sP]at h
 exact h
end Go.Proofs.Trees
namespace Go.Proofs.Trees
open Go Go.VL Go.RowKit
def nX(a:AV)(l:List Nat):Prop:=LK.sl.has a/\a.elems=oO l
theorem nX.of(l:List Nat):nX (.sl (oO l)) l:=⟨(cG _).mpr trivial,rfl⟩
theorem nX.nil:nX (.v (.slice none 0 0)) []:=⟨(bF).mpr trivial,rfl⟩
theorem nX.len{a:AV}{l:List Nat}(h:nX a l):a.elems.length=l.length:=by rw[h.2,tT]
theorem nX.idx{a:AV}{l:List Nat}(h:nX a l){i:Nat}(hi:i<l.length):a.elems.getD i []=[.v (.int .i64 (l.getD i 0:Nat))]:=by
 rw[h.2];simp[oO,aa,hi]
end Go.Proofs.Trees
namespace Go.Proofs.Trees
open Go Go.VL Go.RowKit
theorem Ci{b:UInt8}(h:fH b=true):dT b=true:=by
 simp only[fH,dT,decide_eq_true_eq]at h |-;omega
theorem zZ{y:Nm}(h:G4 y):y≠[]/\y.all dT=true:=by
 have key:∀lo hi,97<=lo->hi<=122->named lo hi y=true->y≠[]/\y.all dT=true:=fun lo hi h1 h2 h=>by
  cases y with
  |nil=>cases h
  |
   cons c r =>
   simp only[named,ai,decide_eq_true_eq]at h
   refine⟨by simp,?_⟩
   rw[cn,ai]
   refine⟨?_,?_⟩
   ·simp only[dT,decide_eq_true_eq];omega
   ·rw[bg]
    intro b hb
    exact Ci (bg.1 h.2 b hb)
 rcases h with h|h
 ·exact key 120 122 (by omega) (by omega) h
 ·exact key 116 116 (by omega) (by omega) h
theorem yy(m:Nat):(tN m).all dT=true:=by
 rw[cn,tC (m+1) m (by omega)];rfl
theorem nq(F:List Nm):∀(t:Ty) (to:List Nm) (k:Nat),(∀y,bU y t=true->y≠[]/\y.all dT=true)->(∀w,w∈to->w≠[]/\w.all dT=true)->gh t to.length->(pG F t to k).1.pr
 | .zero,_,_,_,_,_=>⟨by simp,by decide⟩
 | .one,_,_,_,_,_=>⟨by simp,by decide⟩
 | .name s,_,_,hn,_,_=>hn s (by simp[bU])
 |
  .bound u,to,_,_,ht,hl=>by
  have:to.length-1-u<to.length:=by have:u<to.length:=hl;omega
  show (E.atom (gW to u)).pr
  unfold gW
  rw[aa,aO this]
  exact ht _ (cc this)
 | .plus a b,to,k,hn,ht,hl=>⟨by simp,⟨by simp,by decide⟩,nq F a to k (fun y hy=>hn y (by simp[bU,hy])) ht hl.1,nq F b to _ (fun y hy=>hn y (by simp[bU,hy])) ht hl.2,trivial⟩
 | .times a b,to,k,hn,ht,hl=>⟨by simp,⟨by simp,by decide⟩,nq F a to k (fun y hy=>hn y (by simp[bU,hy])) ht hl.1,nq F b to _ (fun y hy=>hn y (by simp[bU,hy])) ht hl.2,trivial⟩
 |
  .rc a,to,k,hn,ht,hl=>by
  refine⟨by simp,⟨by simp,by decide⟩,⟨by simp,yy _⟩,nq F a (to++[tN (nx F k)]) _ hn (fun w hw=>?_) (by rw[aq];exact hl),trivial⟩
  rcases aC.1 hw with hw|hw
  ·exact ht w hw
  ·simp only[aR]at hw;rw[hw];exact⟨by simp,yy _⟩
theorem wb{D:Ty}{dt:Nm}(g:iK D)(hn:∀y,bU y D=true->G4 y)(h:told D=some dt):sZ dt=some D:=by
 unfold told at h
 split at h
 ·rename_i hh
  cases h
  obtain⟨t,ht⟩:=aZ.1 hh.2
  obtain⟨e,he,hw,hte,_,_⟩:=tb ht
  obtain⟨h1,_,_⟩:=oM he
  obtain⟨hx,hpr,_⟩:=uR h1
  obtain⟨w1,w2,_⟩:=lQ (bn D []) D [] 0 (.nil _ _) g.1 fun y hy=>⟨(eK D [] y).2 (.inr hy),g.2 y hy⟩
  have hp:=nq (bn D []) D [] 0 (fun y hy=>zZ (hn y hy)) (fun w hw=>by cases hw) g.1
  have:=xS hp hpr hx
  rw[ht,<-hte,<-this,w2]
 ·cases h
theorem v8{a d:Ty}{x:Nm}(h:Dp a x=some d):∀y,bU y d=true->bU y a=true:=by
 simp only[Dp,Option.bind_eq_some_iff,vj,sO]at h
 obtain⟨d',h1,_,rfl⟩:=h
 intro y hy
 rcases gz _ hy with h|⟨h,h'⟩
 ·exact h
 ·rcases gF a 0 (h1.names y h')with e|e
  ·exact absurd e h
  ·exact e
structure ZT(s d:Nm)(a:Ty)(x A B:E)(D:Ty):Prop where
 l:hJ s=some a
 ce:iU s=some (.list [x,A,B])
 ask:Ask (.list [x,A,B]) [] (.rc a)
 hx:x.at=[114,101,99]
 body:Ask B [.mk A.at (.list [x,A,B]) []] a
 dl:rr s=some d
 y:sZ s=some (.rc a)
 lp:Dp a yj=some D
 bk:sZ d=some D
theorem uW{s:Nm}{t:Ty}(h:vI s=some t):sZ s=some t:=by
 unfold vI at h
 split at h
 ·cases h
 ·rename_i u hu
  split at h
  ·cases h;exact hu
  ·cases h
theorem ZT.of{s d:Nm}{a:Ty}(hl:hJ s=some a)(hd:rr s=some d):∃x A B D,ZT s d a x A B D:=by
 have hc:=oA hl
 cases hce:iU s with
 |none=>rw[nt hce]at hc;cases hc
 |
  some e =>
  obtain⟨t,h1,hA,_⟩:=ig hce
  rw[hc]at h1;cases h1
  obtain⟨x,A,B,rfl,hx,hA',hB⟩:=qB hA
  have hy:=uW hc
  have hd':=hd
  unfold rr at hd'
  rw[hy]at hd'
  obtain⟨D,h2,h3⟩:=Option.bind_eq_some_iff.1 hd'
  obtain⟨e2,he2,hw2,hte2,_,_⟩:=tb hy
  have hg:=xw hw2 hte2 (x:=yj) ⟨by simp,by simp,by simp⟩ h2
  exact⟨x,A,B,D,hl,hce,hA,hx,hB,hd,hy,h2,wb hg.1 (fun y hy'=>vF hy y (v8 h2 y hy')) h3⟩
structure Fo(a:Ty)(v:Vl):Prop where
 ty:vT 100 v (.rc a)=true
 fe:v.fe 100
 nd:v.nodes<=200
theorem Fo.en{s d:Nm}{a:Ty}{x A B:E}{D:Ty}(z:ZT s d a x A B D){v:Vl}(h:Fo a v):en 100 v (.list [x,A,B],[])=true:=by rw[mE z.ask];exact h.ty
theorem ZT.fI{s d:Nm}{a:Ty}{x A B:E}{D:Ty}(z:ZT s d a x A B D){w:Vl}(hb:w.fe 100)(hv:vT 100 w (.rc a)=true):tM s w.fI 100=if w.nodes<=200 then some w else none:=by
 unfold tM
 rw[z.ce]
 by_cases hn:w.nodes<=200
 ·rw[zo hb hn,if_pos hn]
  simp only
  rw[if_pos ⟨by omega,by rw[show (100:Int).toNat=100 from rfl,mE z.ask];exact hv⟩]
 ·rw[if_neg hn]
  cases q:pQ w.fI with
  |none=>rfl
  |
   some w' =>
   exfalso
   obtain⟨_,h2,h3⟩:=nI q
   have:=zv hb h2 (uY q)
   rw[this]at hn;exact hn h3
theorem ZT.lv{s d:Nm}{a:Ty}{x A B:E}{D:Ty}(z:ZT s d a x A B D)(f:Nm):fW s f=tM s f 100:=by
 unfold fW;rw[z.l]
def Jf(a:Ty)(l:List Vl)(v:Vl):Option (List Vl×Vl):=match l.getLast? with
 |none=>none
 |some c=>if(Vl.f (cE a c v)).nodes<=200 then some (l.dropLast,.f (cE a c v))else none
def pS:Nat->Ty->List Vl->Vl->Option Vl
 |0,_,_,v=>some v
 |n+1,a,l,v=>(Jf a l v).bind fun r=>pS n a r.1 r.2
def AT(a:Ty)(l:List Vl)(v:Vl):Option Vl:=pS l.length a l v
end Go.Proofs.Trees
namespace Go.Proofs.Trees
open Go Go.VL Go.RowKit
theorem LV.lc{s v:Nm}{w:Vl}{a:Ty}{x A B:E}(L:LV s v w a x A B):gh a 1:=by
 obtain⟨e,_,hw,hte,_,_⟩:=tb (uW (oA L.l))
 exact(hte ▸ hw.FR.1:gh (.rc a) 0)
theorem LV.ty{s v:Nm}{w:Vl}{a:Ty}{x A B:E}(L:LV s v w a x A B):vT 100 w (.rc a)=true:=by rw[<-mE L.ask];exact L.en
def rK(s v fr to:Nm):Option (Nm×Nat):=match hJ s,fW s v,fW s fr,fW s to with
 |some a,some w,some _,some t=>if(hZ a fr t w.nodes w).1.nodes<=200 then some ((hZ a fr t w.nodes w).1.fI,(hZ a fr t w.nodes w).2)else none
 |_,_,_,_=>none
def I7(o:Option (Nm×Nat)):Nm×Nat:=o.getD ([],0)
def Dn:Option (Nm×Nat)->AV
 |some r=>.cQ [.v (.string (mk r.1)),.v (.int .i64 (r.2:Int)),.v (.bool true)]
 |none=>.cQ [.v (.string (mk [])),.v (.int .i64 0),.v (.bool false)]
theorem C9(o:Option (Nm×Nat)):Dn o=.cQ [.v (.string (mk (I7 o).1)),.v (.int .i64 ((I7 o).2:Int)),.v (.bool o.isSome)]:=by cases o<;>rfl
theorem sc{s v f t:Nm}{w o z:Vl}(h1:fW s v=some w)(h2:fW s f=some o)(h3:fW s t=some z):∃a x A B,LV s v w a x A B/\LV s f o a x A B/\LV s t z a x A B:=by
 obtain⟨a,x,A,B,L⟩:=nF h1
 obtain⟨a',x',A',B',L'⟩:=nF h2
 obtain⟨a2,x2,A2,B2,L2⟩:=nF h3
 have e1:=L.l
 rw[L'.l]at e1
 have e2:=L.ce
 rw[L'.ce]at e2
 cases e1;cases e2
 have e1:=L.l
 rw[L2.l]at e1
 have e2:=L.ce
 rw[L2.ce]at e2
 cases e1;cases e2
 exact⟨_,_,_,_,L,L',L2⟩
end Go.Proofs.Trees
namespace Go.Proofs.Trees
open Go Go.VL Go.RowKit
theorem IJ(s v f t:Nm):ay Tryz.prog 6 [.v (.string (mk s)),.v (.string (mk v)),.v (.string (mk f)),.v (.string (mk t))] [] (bK (Dn (rK s v f t))):=by
 refine Im _ _ _ _ ?_
 unfold EF
 have hlt:LK.has .ptr (Cn s)=True:=by unfold Cn;split<;>simp[aT,j1]
 refine al (Ba s v) ?_
 simp only[↓zq,zs,ah,zt,hlt,eG]
 refine al (Ba s f) ?_
 simp only[↓zq,zs,ah,zt,hlt,eG]
 refine al (Ba s t) ?_
 simp only[↓zq,zs,ah,zt,hlt,eG]
 cases h1:fW s v with
 |
  none =>
  have:rK s v f t=none:=by unfold rK;rw[h1];cases hJ s<;>rfl
  rw[this]
  simp only[gR,↓zq,zs,ah]
  exact⟨fun _=>⟨rfl,rfl⟩,fun h=>by cases h⟩
 |
  some w =>
  cases h2:fW s f with
  |
   none =>
   have:rK s v f t=none:=by unfold rK;rw[h1,h2];cases hJ s<;>rfl
   rw[this]
   simp only[gR,↓zq,zs,ah,dY]
   exact⟨fun h=>by simp at h,fun _=>⟨fun _=>⟨rfl,rfl⟩,fun h=>by simp at h⟩⟩
  |
   some o =>
   cases h3:fW s t with
   |
    none =>
    have:rK s v f t=none:=by unfold rK;rw[h1,h2,h3];cases hJ s<;>rfl
    rw[this]
    simp only[gR,↓zq,zs,ah,dY]
    exact⟨fun h=>by simp at h,fun _=>⟨fun h=>by simp at h,fun _=>⟨fun _=>⟨rfl,rfl⟩,fun h=>by simp at h⟩⟩⟩
   |
    some z =>
    obtain⟨a,x,A,B,L1,L2,L3⟩:=sc h1 h2 h3
    have hf:f=o.fI:=uY L2.v
    have e:rK s v f t=if(hZ a f z w.nodes w).1.nodes<=200 then some ((hZ a f z w.nodes w).1.fI,(hZ a f z w.nodes w).2)else none:=by unfold rK;rw[L1.l,h1,h2,h3]
    have ht:Cn s=(Ty.rc a).av:=by unfold Cn;rw[L1.l]
    rw[e,ht]
    have hn:=L1.nodes
    have hR:=EO a L1.lc o z L2.fe L2.nodes w.nodes w (an _) L1.nodes L1.ty L1.fe 0 (by omega)
    obtain⟨q1,q2,q3⟩:=qR L1.lc f z L3.ty L3.fe L3.nodes w.nodes w L1.ty L1.fe
    rw[<-hf]at hR
    simp only[gR,↓zq,zs,ah,dY]
    refine⟨fun h=>by simp at h,fun _=>⟨fun h=>by simp at h,fun _=>⟨fun h=>by simp at h,fun _=>?_⟩⟩⟩
    refine cr hR ?_
    simp only[↓zq,zs,ah,zt,cm,aY,aT,Ob.es,ba,bD]
    refine al (HA _ q2 (by omega)) ?_
    by_cases hc:(hZ a f z w.nodes w).1.nodes<=200
    ·rw[if_pos hc,if_pos hc]
     simp[z7,↓zq,zs,ah,zt,Dn,bK]
    ·rw[if_neg hc,if_neg hc]
     simp[z7,↓zq,zs,ah,zt,Dn,bK]
end Go.Proofs.Trees
namespace Go.Proofs.Trees
open Go Go.VL Go.RowKit
abbrev Jm(r:Vl×Nat):AV:=.cQ [.agg [.v (.string (mk r.1.bM.at)),r.1.bM.sp],.v (.int .i64 (r.2:Int))]
def Cv(x A B:E)(a:Ty)(fr:List UInt8)(to:Vl)(n:Nat)(v:Vl):Prop:=ay Tryz.prog 12 [.agg [.v (.string (mk [])),(E.list [x,A,B]).sp],.agg [.v (.string (mk v.bM.at)),v.bM.sp],.v (.string (mk fr)),.agg [.v (.string (mk to.bM.at)),to.bM.sp]] [] (bK (Jm (hZ a fr to n v)))
theorem sB(f g:Vl->Nat)(h:∀e,f e<=g e):∀l:List Vl,(l.map f).sum<=(l.map g).sum
 |[]=>an _
 |
  x::l=>by
  have:=sB f g h l
  have:=h x
  simp only[aS,cq];omega
theorem Fu(x A B:E)(a:Ty)(hA:Ask B [.mk A.at (.list [x,A,B]) []] a)(hT:Ask (.list [x,A,B]) [] (.rc a))(hx:x.at=[114,101,99])(hl:gh a 1)(fr:List UInt8)(to:Vl)(ht:vT 100 to (.rc a)=true)(htb:to.fe 100)(htn:to.nodes<=200)(n:Nat)(w:Vl)(hv:vT 100 (.f w) (.rc a)=true)(hb:w.fe 100)(hn:w.nodes<=200)
 (hrec:∀e,e∈cu a 0 w->Cv x A B a fr to n e):∀(k i:Nat) (wk:Vl),i+k=(cu a 0 w).length->RI a (hZ a fr to n) w wk i ->
 Cq [.v (.string (mk fr)),.v (.string (mk A.at)),.v (.int .i64 ((cu a 0 w).length:Int)),.v (.int .i64 ((((cu a 0 w).take i).map fun e=>(hZ a fr to n e).2).sum:Nat)),.v (.int .i64 (i:Int))]
  [.cells [.v (.string (mk [])),(E.list [x,A,B]).sp],.cells [.v (.string (mk [])),(Vl.f wk).bM.sp],.cells [.v (.string (mk to.bM.at)),to.bM.sp],.cells [.v (.string (mk [])),.v (.slice none 0 0)]]
  (kq 1 [.v (.int .i64 ((mm (hZ a fr to n) [] a w).2:Nat))] [.cells [.v (.string (mk [])),(Vl.f (mm (hZ a fr to n) [] a w).1).bM.sp],.cells [.v (.string (mk [])),.v (.slice none 0 0)]])
 |
  0,i,wk,hi,h=>by
  have:i=(cu a 0 w).length:=by omega
  subst this
  refine E0 _ _ _ _ _ _ _ _ _ _ _ _ _ ?_
  simp only[C7,↓zq,zs,ah,zt,bE,ah,bF,List.take_length]
  refine⟨fun h=>by omega,fun _=>?_⟩
  rw[h.fin hl,zO _ a w hl]
  exact⟨rfl,rfl,rfl⟩
 |
  k+1,i,wk,hi,h=>by
  have hlt:i<(cu a 0 w).length:=by omega
  have hP:=P3.of x A B
  have hV:=P2.of (.atom [102]) wk.bM
  have hlen:=h.len
  have hle:=h.le
  have hnw:(cu a 0 w).length<=1000:=by
   have:=qL a w
   have h2:(cu a 0 w).length<=((cu a 0 w).map Vl.nodes).sum:=by
    have key:∀l:List Vl,l.length<=(l.map Vl.nodes).sum:=by
     intro l
     induction l with
     |nil=>simp
     |cons y l ih=>have:=aX y;simp only[aw,aS,cq];omega
    exact key _
   omega
  have em:(cu a 0 w)[i]∈cu a 0 w:=cc hlt
  have hok:∀e,e∈cu a 0 w->vT 100 (hZ a fr to n e).1 (.rc a)=true/\(hZ a fr to n e).1.fe 100/\(hZ a fr to n e).1.nodes<=200*e.nodes:=fun e he=>qR hl fr to ht htb htn n e (ox hl hv he) (mh hb he)
  obtain⟨c,q1,q2,q3⟩:=h.step hlt (hok _ em).2.2
  obtain⟨o1,o2⟩:=h.ok hl hv hb fun e he=>⟨(hok e he).1,(hok e he).2.1⟩
  have hvis:en 100 (.f wk) (.list [x,A,B],[])=true:=by rw[mE hT];exact o1
  have hkids:=DU 100 (.f wk) x A B a hA hx wk rfl hvis (by simp only[Vl.nodes];omega)
  obtain⟨hlt2,hg⟩:=bO.1 q1
  have hkl:(jN (kids a (.f wk))).length=(cu a 0 w).length:=by rw[eh,hlen]
  have hget:(jN (kids a (.f wk))).getD i []=[.v (.string (mk c.bM.at)),c.bM.sp,.v (.string (mk (cu a 0 w)[i].bM.at)),(cu a 0 w)[i].bM.sp]:=by rw[fk hlt2,hg]
  have hcnt:=fun e=>qH (a:=a) (fr:=fr) (to:=to) n e
  refine E0 _ _ _ _ _ _ _ _ _ _ _ _ _ ?_
  simp only[C7,↓zq,zs,ah,zt,bE,ah,bF,bG,toNat_one,Vl.bM,hP.1,hP.2.1,hP.2.2.1,hP.2.2.2,hV.1,hV.2.1,hV.2.2,bj]
  refine⟨fun _=>?_,fun h=>by omega⟩
  repeat refine⟨by omega,?_⟩
  refine al hkids ?_
  simp only[↓zq,zs,ah,zt,bE,hkl,hget,Int.toNat_natCast,iJ,bj]
  repeat refine⟨by omega,?_⟩
  refine⟨⟨by simp[bT,dU,bE],by omega⟩,al (hrec _ em) ?_⟩
  simp only[↓zq,zs,ah,zt,bE,bj]
  repeat refine⟨by omega,?_⟩
  refine al (AY c.nodes c (an _) B _ a hA (Ao q2) A.at _) ?_
  simp only[↓zq,zs,ah,zt,bE,bj]
  refine al (wI _ _) ?_
  simp only[↓zq,zs,ah,zt,bE,bj]
  have hsum:(((cu a 0 w).take i).map fun e=>(hZ a fr to n e).2).sum<=w.nodes:=by
   have h1:=sB (fun e=>(hZ a fr to n e).2) Vl.nodes hcnt ((cu a 0 w).take i)
   have h2:=pk Vl.nodes (cu a 0 w) i
   have h3:=qL a w
   omega
  have hc1:=hcnt (cu a 0 w)[i]
  have hc2:=nk em
  rw[bW i (by omega),Go.VL.wrap64 _ (by omega) (by omega)]
  have nx:=Fu x A B a hA hT hx hl fr to ht htb htn n w hv hb hn hrec k (i+1) _ (by omega) q3
  rw[sD _ _ hlt]at nx
  exact nx
theorem Ed(x A B:E)(a:Ty)(hA:Ask B [.mk A.at (.list [x,A,B]) []] a)(hT:Ask (.list [x,A,B]) [] (.rc a))(hx:x.at=[114,101,99])(hl:gh a 1)(fr:List UInt8)(to:Vl)(ht:vT 100 to (.rc a)=true)(htb:to.fe 100)(htn:to.nodes<=200):∀(n:Nat) (v:Vl),v.nodes<=n->v.nodes<=200->vT 100 v (.rc a)=true->v.fe 100->Cv x A B a fr to n v
 |0,v,hn,_,_,_=>by have:=aX v;omega
 |
  n+1,v,hn,h200,hv,hb=>by
  have t1:=gA v hb
  have x1:=EJ v.bM (lN _) (show v.fI.length<=900000 by omega)
  rw[dD]at x1
  refine HO _ _ _ _ _ _ _ ((bE _).mpr trivial) ((bE _).mpr trivial) ((bE _).mpr trivial) ?_
  unfold Ge
  refine al x1 ?_
  simp only[↓zq,zs,ah,zt]
  refine⟨fun he=>?_,fun hne=>?_⟩
  ·rw[pd n he];exact⟨rfl,rfl⟩
  ·cases v with
   |
    f w =>
    have hP:=P3.of x A B
    have hV:=P2.of (.atom [102]) w.bM
    have hvis:en 100 (.f w) (.list [x,A,B],[])=true:=by rw[mE hT];exact hv
    have hkids:=DU 100 (.f w) x A B a hA hx w rfl hvis (by omega)
    have hkl:(jN (kids a (.f w))).length=(cu a 0 w).length:=by rw[eh];exact(RI.zero a (hZ a fr to n) w).len
    simp only[Vl.nodes]at hn h200
    have hrec:∀e,e∈cu a 0 w->Cv x A B a fr to n e:=fun e he=>by
     have:=nk he
     exact Ed x A B a hA hT hx hl fr to ht htb htn n e (by omega) (by omega) (ox hl hv he) (mh (show w.fe 100 from hb) he)
    simp only[Vl.bM,eg,toNat_one,bG,↓zq,zs,ah,zt,bE,hP.1,hP.2.1,hP.2.2.1,hP.2.2.2,hV.1,hV.2.1,hV.2.2,bj]
    repeat refine⟨by omega,?_⟩
    refine al hkids ?_
    simp only[↓zq,zs,ah,zt,hkl]
    refine df (Fu x A B a hA hT hx hl fr to ht htb htn n w hv hb (by omega) hrec (cu a 0 w).length 0 w (by omega) (.zero _ _ _)) ?_
    simp only[↓zq,zs,ah,zt,ah,bE,bD,ba,bw,bF]
    rw[rN n hne]
    exact⟨rfl,rfl⟩
   |_=>simp[vT]at hv
theorem Ha(s v f t:Nm):ay Tryz.prog 5 [.v (.string (mk s)),.v (.string (mk v)),.v (.string (mk f)),.v (.string (mk t))] [] (bK (Dn (rK s v f t))):=by
 refine IS _ _ _ _ ?_
 unfold Dz
 refine dN (Hy s) (kG.ne _ _ (fun h=>h)) ?_
 rintro r o ⟨c,d,hd,rfl,hh⟩
 have hhas:bT [.str,.sl] [.v (.string (mk c)),d] 0:=by simp[bT,dU,hd]
 simp only[↓zq,zs,ah,zt]
 have none1:rK s v f t=none->bK (Dn (rK s v f t)) (.cQ [.v (.string (mk [])),.v (.int .i64 0),.v (.bool false)]) []:=fun h=>by rw[h];exact⟨rfl,rfl⟩
 refine⟨hhas,fun h=>none1 ?_,fun h=>?_⟩
 ·rw[sW]at h
  have:hJ s=none:=by cases hq:hJ s<;>simp[hq]at h |-
  unfold rK;rw[this]
 rw[sW]at h
 have hsome:∀v,(tM s v 100).isSome=false->fW s v=none:=fun v h2=>by
  have:tM s v 100=none:=by cases hq:tM s v 100<;>simp[hq]at h2 |-
  unfold fW;rw[this];cases hJ s<;>rfl
 refine al (BU s v 100) ?_
 simp only[↓zq,zs,ah]
 refine⟨fun h2=>none1 ?_,fun h2=>?_⟩
 ·unfold rK;rw[hsome v h2];cases hJ s<;>rfl
 refine al (BU s f 100) ?_
 simp only[↓zq,zs,ah]
 refine⟨fun h3=>none1 ?_,fun h3=>?_⟩
 ·unfold rK;rw[hsome f h3];cases hJ s<;>cases fW s v<;>rfl
 refine al (BU s t 100) ?_
 simp only[↓zq,zs,ah]
 refine⟨fun h4=>none1 ?_,fun h4=>?_⟩
 ·unfold rK;rw[hsome t h4];cases hJ s<;>cases fW s v<;>cases fW s f<;>rfl
 obtain⟨w,hw⟩:=aZ.1 h2
 obtain⟨y,hy⟩:=aZ.1 h3
 obtain⟨z,hz⟩:=aZ.1 h4
 obtain⟨a0,ha0⟩:=aZ.1 h
 have h1:fW s v=some w:=by unfold fW;rw[ha0];exact hw
 have h2:fW s f=some y:=by unfold fW;rw[ha0];exact hy
 have h3:fW s t=some z:=by unfold fW;rw[ha0];exact hz
 obtain⟨a,x,A,B,L1,L2,L3⟩:=sc h1 h2 h3
 have e:rK s v f t=if(hZ a f z w.nodes w).1.nodes<=200 then some ((hZ a f z w.nodes w).1.fI,(hZ a f z w.nodes w).2)else none:=by unfold rK;rw[L1.l,h1,h2,h3]
 refine dN (Cb v) (kG.ne _ _ (fun h=>by cases hq:pQ v<;>simp[hq]at h |-)) ?_
 rintro r o ⟨c',d',hd',rfl,hh'⟩
 have hhas':bT [.str,.sl] [.v (.string (mk c')),d'] 0:=by simp[bT,dU,hd']
 simp only[↓zq,zs,ah,zt]
 refine⟨hhas',?_⟩
 refine dN (Cb t) (kG.ne _ _ (fun h=>by cases hq:pQ t<;>simp[hq]at h |-)) ?_
 rintro r o ⟨c2,d2,hd2,rfl,hh2⟩
 have hhas2:bT [.str,.sl] [.v (.string (mk c2)),d2] 0:=by simp[bT,dU,hd2]
 simp only[↓zq,zs,ah,zt]
 refine⟨hhas2,?_⟩
 obtain⟨e0,he0,hc0⟩:=hh (by rw[L1.le];rfl)
 rw[L1.le]at he0;cases he0
 obtain⟨e1,he1,hc1⟩:=hh' (by rw[L1.v];rfl)
 rw[L1.v]at he1;cases he1
 obtain⟨e2,he2,hc2⟩:=hh2 (by rw[L3.v];rfl)
 rw[L3.v]at he2;cases he2
 rw[dD]at hc0 hc1 hc2
 simp only[eg]at hc0
 rw[hc0,hc1,hc2,e]
 obtain⟨q1,q2,q3⟩:=qR L1.lc f z L3.ty L3.fe L3.nodes w.nodes w L1.ty L1.fe
 have hn:=L1.nodes
 refine al (Ed x A B a L1.body L1.ask L1.hx L1.lc f z L3.ty L3.fe L3.nodes w.nodes w (an _) L1.nodes L1.ty L1.fe) ?_
 simp only[↓zq,zs,ah,zt,bE,bj]
 generalize hZ a f z w.nodes w=R at *
 have hsz:=nE R.1
 have hS:=Gw R.1.bM (by omega)
 rw[dD,kS]at hS
 refine al hS ?_
 simp only[↓zq,zs,ah,zt]
 refine⟨fun hg=>?_,fun hg=>?_⟩
 ·rw[if_neg (by omega)];exact⟨rfl,rfl⟩
 ·have hle:R.1.nodes<=200:=by omega
  have t1:=gA R.1 q2
  have x1:=EJ R.1.bM (lN _) (show R.1.fI.length<=900000 by omega)
  rw[dD]at x1
  rw[if_pos hle]
  refine al x1 ?_
  simp only[↓zq,zs,ah,zt]
  exact⟨rfl,rfl⟩
end Go.Proofs.Trees
namespace Go.Proofs.Trees
open Go Go.VL Go.RowKit
theorem Iu(s v f t:Nm):ay Tryz.prog 3 [.v (.string (mk s)),.v (.string (mk v)),.v (.string (mk f)),.v (.string (mk t))] [] (bK (.v (.bool true))):=by
 refine HX _ _ _ _ ?_
 simp only[FE,↓zq,zs,ah,zt,bK]
 refine⟨fun _=>trivial,fun _=>⟨fun _=>trivial,fun _=>⟨fun _=>trivial,fun _=>⟨fun _=>trivial,fun _=>?_⟩⟩⟩⟩
 have WI:=IJ s v f t
 have WS:=Ha s v f t
 rw[C9]at WI WS
 refine al WS ?_
 simp only[↓zq,zs,ah,zt]
 refine al WI ?_
 simp only[↓zq,zs,ah,zt]
 simp
end Go.Proofs.Trees
