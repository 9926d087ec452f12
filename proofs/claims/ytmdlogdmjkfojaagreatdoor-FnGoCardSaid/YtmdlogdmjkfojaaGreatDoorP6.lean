/-
  Part of a proof: Go functions read by values, trees of functions, their contracts.
-/
import Derived.Test.YtmdlogdmjkfojaaGreatDoorP5
set_option linter.unusedVariables false
set_option linter.unusedSimpArgs false
open Bool renaming and_eq_true→az,eq_iff_iff→cx,or_eq_false_iff→cD,or_eq_true→bE,true_and→bX
open ByteArray renaming toList→ae
open Int renaming toNat_natCast→bx
open List renaming all_cons→db,all_eq_true→bZ,append_assoc→aW,append_nil→cY,cons_append→be,drop_eq_getElem_cons→aP,drop_zero→aZ,eq_nil_of_length_eq_zero→bR,flatMap_cons→cQ,getD_cons_zero→bq,getD_eq_getElem?_getD→aa,getElem?_eq_getElem→bm,getElem_mem→bB,headD_cons→bf,length_append→an,length_cons→au,length_map→cq,length_nil→aG,map_cons→bC,mem_append→aQ,mem_append_left→aC,mem_append_right→aB,mem_cons→aH,mem_cons_of_mem→al,mem_cons_self→ak,mem_flatMap→dw,mem_map→bK,mem_singleton→aT,nil_append→aR,tail_cons→bO
open Nat renaming le_add_right→dc,le_refl→aq,mul_add→cT,mul_one→dH,zero_add→aY,zero_le→dF
open Option renaming bind_eq_some_iff→bu,bind_none→bH,bind_some→aV,getD_some→cv,isSome_iff_exists→bF,isSome_none→bn,isSome_some→a6,map_some→cg
open UInt8 renaming ofNat→bh
namespace Go.Proofs.Trees
open Go Go.VL Go.RowKit
theorem sN:∀(n:Nat) (a:Ty) (p:Pt),p.1.nodes<=n->GJ (fun o=>mq n a o p) (iP n a p)
 |0,a,p,h=>by have:=da p.1;omega
 |
  n+1,a,p,h=>fun out=>by
  have hk:=tb (g:=fun o q=>if o.length<=100 then mq n a o q else o) (ps:=iP n a) (lS p.2 (kids a p.1) 0) fun q hq=>fun o=>by
   obtain⟨k,h1,h2⟩:=mA hq
   have:=nw h1
   have hw:=sN n a q (by rw[h2];omega) o
   have hpos:0<(iP n a q).length:=by
    cases n with
    |zero=>have:=da k.2;omega
    |succ n=>simp[iP]
   simp only at hw |-
   split
   ·exact hw
   ·exact⟨fun hle=>by omega,fun _=>by omega,aq _,by omega⟩
  obtain⟨b1,b2,b3,b4⟩:=hk (out++[p])
  simp only[mq,iP,au,an,aG]at *
  refine⟨fun hle=>?_,fun hlt=>b2 (by omega),by omega,by omega⟩
  rw[b1 (by omega),aW];rfl
def parts(a:Ty)(v:Vl):List Pt:=iP v.nodes a (v,[])
theorem xl(a:Ty)(v:Vl):((parts a v).length<=100->mq v.nodes a [] (v,[])=parts a v)/\(100<(parts a v).length->100<(mq v.nodes a [] (v,[])).length)/\(mq v.nodes a [] (v,[])).length<=v.nodes:=by
 obtain⟨h1,h2,_,h4⟩:=sN v.nodes a (v,[]) (aq _) []
 have:=n7 v.nodes a (v,[])
 simp only[aG,aY,aR]at h1 h2 h4 this
 exact⟨h1,h2,Nat.le_trans h4 this⟩
end Go.Proofs.Trees
namespace Go.Proofs.Trees
open Go Go.VL Go.RowKit
def ju(s:List UInt8):Option Ty:=match xz s with
 |some (.rc a)=>some a
 |_=>none
def BB:Option Ty->AV
 |some a=>(Ty.rc a).av
 |none=>iE
theorem Sk(s:List UInt8):ap Tryz.prog 69 [.v (.string (mk s))] [] (bG (BB (ju s))):=by
 refine S1 _ ?_
 unfold MA
 refine ai (Lp s) ?_
 cases h:xz s with
 |none=>simp[↓zq,zs,ac,ii,BB,ju,h,bG]
 |some t=>cases t<;>simp[↓zq,zs,ac,ii,BB,ju,h,bG,Ty.av]
def mw(s v:List UInt8):Option Vl:=match ju s with
 |some _=>nA s v 100
 |none=>none
def Gk(s:List UInt8):AV:=match ju s with
 |some a=>(Ty.rc a).av
 |none=>iE
theorem u3{s:List UInt8}{a:Ty}(h:ju s=some a):xz s=some (.rc a):=by
 unfold ju at h
 split at h
 ·rename_i e;cases h;exact e
 ·cases h
theorem Qq(s v:List UInt8):ap Tryz.prog 43 [.v (.string (mk s)),.v (.string (mk v))] [] (bG (.cA [Gk s,jk (mw s v)])):=by
 refine SS _ _ ?_
 unfold Kn
 refine ai (Sk s) ?_
 cases h:ju s with
 |none=>simp[↓zq,zs,ac,BB,Gk,mw,h,bG,jk]
 |
  some a =>
  simp only[↓zq,zs,ac,BB,aE,fM]
  refine⟨fun h=>(by cases h),fun _=>?_⟩
  refine ai (On s v 100) ?_
  rw[u3 h]
  simp[↓zq,zs,ac,ii,gv,Gk,mw,h,bG,aE]
structure LV(s v:List UInt8)(w:Vl)(a:Ty)(x A B:E):Prop where
 l:ju s=some a
 ce:jI s=some (.list [x,A,B])
 v:rL v=some w
 ask:Ask (.list [x,A,B]) [] (.rc a)
 hx:x.at=[114,101,99]
 Uw:dk A.at=true
 body:Ask B [.mk A.at (.list [x,A,B]) []] a
 eG:eG 100 w (.list [x,A,B],[])=true
theorem s5{e:E}{env:List Fr}{a:Ty}(A:Ask e env (.rc a)):∃x y z,e=.list [x,y,z]/\x.at=[114,101,99]/\dk y.at=true/\Ask z (.mk y.at (.list [x,y,z]) env::env) a:=by
 rcases fF A.ty rfl A.cl with⟨_,h⟩|⟨_,h⟩|⟨s,_,h,_⟩|⟨x,y,z,t1,t2,_,_,h,_⟩|⟨x,y,z,t1,t2,_,_,h,_⟩|⟨x,y,z,t1,rfl,hx,h⟩
 ·cases h
 ·cases h
 ·cases h
 ·cases h
 ·cases h
 ·cases h
  obtain⟨t1',he1,h1,f1,hw1⟩:=jl A.wf A.ok hx A.ty A.cl
  cases he1
  obtain⟨_,_,ok3,_⟩:=A.ok
  obtain⟨_,hla,_,_⟩:=dB hx A.ty
  exact⟨x,y,z,rfl,hx,hla,ok3,hw1,h1,f1⟩
theorem jJ{s v:List UInt8}{w:Vl}(h:mw s v=some w):∃a x A B,LV s v w a x A B:=by
 unfold mw at h
 split at h
 ·rename_i a hl
  obtain⟨e,t,m,h1,h2,h3,h4,h5,h6,h7⟩:=sF h
  rw[u3 hl]at h3
  cases h3
  obtain⟨x,A,B,rfl,hx,hA,hB⟩:=s5 h4
  have:m=100:=by omega
  subst this
  exact⟨a,x,A,B,hl,h1,h2,h4,hx,hA,hB,h7⟩
 ·cases h
theorem LV.gp{s v:List UInt8}{w:Vl}{a:Ty}{x A B:E}(h:LV s v w a x A B):w.gp 100:=(l9 h.v).2.1
theorem LV.nodes{s v:List UInt8}{w:Vl}{a:Ty}{x A B:E}(h:LV s v w a x A B):w.nodes<=200:=(l9 h.v).2.2
theorem pn{n:Nat}{v:Vl}{x A B:E}{env:List Fr}(hw:WF env)(hx:x.at=[114,101,99])(h:eG n v (.list [x,A,B],env)=true):∃w,v=.f w/\eG n w (B,.mk A.at (.list [x,A,B]) env::env)=true:=by
 have hd:=p8 (x:=x) (a:=A) (b:=B) hw
 cases v<;>simp[eG,hd,hx]at h |-
 exact h
theorem Bx{n:Nat}{v:Vl}{x A B:E}{env:List Fr}{a:Ty}(hA:Ask B (.mk A.at (.list [x,A,B]) env::env) a)(hw:WF env)(hx:x.at=[114,101,99])(h:eG n v (.list [x,A,B],env)=true){k:Hl}(hk:k∈kids a v):eG n k.2 (.list [x,A,B],env)=true:=by
 obtain⟨w,rfl,hv⟩:=pn hw hx h
 exact gu n w.nodes w (aq _) B _ a hA hv 0 _ rfl k hk
theorem Pj(n:Nat)(v:Vl)(x A B:E)(a:Ty)(hA:Ask B [.mk A.at (.list [x,A,B]) []] a)(hx:x.at=[114,101,99])(hv:eG n v (.list [x,A,B],[])=true)(hl:v.nodes<90000):ap Tryz.prog 55 [(Ty.rc a).av,v.cF] [] (bG (.sl (gL (kids a v)))):=by
 obtain⟨w,rfl,hw⟩:=pn .nil hx hv
 refine Qx _ _ ((aE _).mpr trivial) ((aO _).mpr trivial) ?_
 unfold N3
 refine aN (DF a iE [] .nil) (Cc.ne a iE []) ?_
 rintro r o ⟨⟨m,hm,rfl⟩,rfl⟩
 have he2:kC (.ptr [.pid m [(Ty.rc a).av,iE],iE]) [m]:=.cons hm .nil
 have hfr:LK.ptr.has (.pid m [(Ty.rc a).av,iE]):=.inr (.inr ⟨_,_,rfl⟩)
 simp only[Ty.av]at he2 hfr
 simp only[↓zq,zs,ac,bz,aE,he2.has,hfr,Vl.cF,aO,Ty.av]
 repeat refine⟨by omega,?_⟩
 simp only[Vl.nodes]at hl
 have i2:=E4 n w.nodes w (aq _) B _ a hA hw (by simp;omega) _ _ he2 (by simp) (.bd 0) [] _ (by have:=AY.bd (k:=0) (ids:=[m]) (by simp) [(Ty.rc a).av,iE] [];simpa only[bq,Ty.av]using this)
 unfold FM at i2
 refine ai i2 ?_
 simp[↓zq,zs,ac,bG,kids]
def fN(l:List Nat):List (List AV):=l.map fun(k:Nat)=>[.v (.int .i64 (k:Int))]
theorem rV(l:List Nat):(fN l).length=l.length:=by simp[fN]
theorem xk(l:List Nat)(k:Nat):fN l++[[.v (.int .i64 (k:Int))]]=fN (l++[k]):=by simp[fN]
theorem wQ(l:List Nat):cr 1 (fN l):=fun c hc=>by
 obtain⟨k,_,rfl⟩:=bK.1 hc;rfl
theorem yK(x:AV):cr 1 [[x]]:=fun c hc=>by simp at hc;rw[hc];rfl
theorem AO(l:List Hl):iY (l.drop 0)=iY l:=by rw[aZ]
end Go.Proofs.Trees
namespace Go.Proofs.Trees
open Go Go.VL Go.RowKit
def qu(a:AV)(l:List Nat):Prop:=LK.sl.has a/\a.aJ=fN l
theorem qu.of(l:List Nat):qu (.sl (fN l)) l:=⟨(bT _).mpr trivial,rfl⟩
theorem qu.nil:qu (.v (.slice none 0 0)) []:=⟨(bc).mpr trivial,rfl⟩
theorem qu.len{a:AV}{l:List Nat}(h:qu a l):a.aJ.length=l.length:=by rw[h.2,rV]
theorem qu.idx{a:AV}{l:List Nat}(h:qu a l){i:Nat}(hi:i<l.length):a.aJ.getD i []=[.v (.int .i64 (l.getD i 0:Nat))]:=by
 rw[h.2];simp[fN,aa,hi]
end Go.Proofs.Trees
namespace Go.Proofs.Trees
open Go Go.VL Go.RowKit
def eD(l:List Int):List (List AV):=l.map fun k=>[.v (.int .i64 k)]
def im(a:AV)(l:List Int):Prop:=LK.sl.has a/\a.aJ=eD l
theorem np(l:List Int):(eD l).length=l.length:=by simp[eD]
theorem im.of(l:List Int):im (.sl (eD l)) l:=⟨(bT _).mpr trivial,rfl⟩
theorem im.nil:im (.v (.slice none 0 0)) []:=⟨(bc).mpr trivial,rfl⟩
theorem im.len{a:AV}{l:List Int}(h:im a l):a.aJ.length=l.length:=by rw[h.2,np]
theorem im.idx{a:AV}{l:List Int}(h:im a l){i:Nat}(hi:i<l.length):a.aJ.getD i []=[.v (.int .i64 (l.getD i 0))]:=by
 rw[h.2];simp[eD,aa,hi]
theorem xm(l:List Nat):fN l=eD (l.map Int.ofNat):=by simp[fN,eD,Function.comp_def]
theorem vB(l:List Int):∀x,x∈[Ob.vec 1 (eD l)]->km x:=by
 intro x hx
 simp only[aT]at hx
 subst hx
 intro e he c hc
 simp only[eD,bK]at he
 obtain⟨k,_,rfl⟩:=he
 simp only[aT]at hc
 exact⟨_,hc⟩
end Go.Proofs.Trees
namespace Go.Proofs.Trees
open Go Go.VL Go.RowKit
def fK(s v:List UInt8):Option (List Pt):=match ju s,mw s v with
 |some a,some w=>if(parts a w).length<=100 then some (parts a w)else none
 |_,_=>none
theorem sL:∀(n:Nat) (a:Ty) (p q:Pt),q∈iP n a p->q.1.nodes<=p.1.nodes/\(∀m,p.1.gp m->q.1.gp m)
 |0,a,p,q,h=>by cases h
 |
  n+1,a,p,q,h=>by
  rcases aH.1 h with rfl|h
  ·exact⟨aq _,fun m h=>h⟩
  ·obtain⟨r,h1,h2⟩:=dw.1 h
   obtain⟨k,h3,h4⟩:=mA h1
   obtain⟨q1,q2⟩:=sL n a r q h2
   have:=nw h3
   rw[h4]at q1 q2
   exact⟨by omega,fun m hm=>q2 m (jV hm h3).2⟩
theorem sf{s v:List UInt8}{l:List Pt}(h:fK s v=some l):l.length<=100/\∀q,q∈l->q.1.nodes<=200/\q.1.gp 100/\q.1.cE.length<=40000:=by
 unfold fK at h
 split at h
 ·rename_i a w ha hw
  obtain⟨a',x,A,B,L⟩:=jJ hw
  split at h
  ·rename_i hl
   cases h
   refine⟨hl,fun q hq=>?_⟩
   obtain⟨h1,h2⟩:=sL _ _ _ _ hq
   have hb:=h2 100 L.gp
   have hn:=L.nodes
   have:=gH q.1 hb
   simp only at h1
   exact⟨by omega,hb,by omega⟩
  ·cases h
 ·cases h
theorem ql:∀(n:Nat) (a:Ty) (p q:Pt),q∈iP n a p->q.2.length<=p.2.length+n
 |0,a,p,q,h=>by cases h
 |
  n+1,a,p,q,h=>by
  rcases aH.1 h with rfl|h
  ·omega
  ·obtain⟨r,h1,h2⟩:=dw.1 h
   have:=ql n a r q h2
   have hlen:∀(l:List Hl) (i:Nat),r∈lS p.2 l i->r.2.length=p.2.length+1:=by
    intro l
    induction l with
    |nil=>intro i hh;cases hh
    |
     cons k l ih =>
     intro i hh
     rcases aH.1 hh with rfl|hh
     ·simp
     ·exact ih _ hh
   have:=hlen _ _ h1
   omega
theorem ug{s v:List UInt8}{l:List Pt}(h:fK s v=some l):∀q,q∈l->q.2.length<=200:=by
 unfold fK at h
 split at h
 ·rename_i a w ha hw
  obtain⟨a',x,A,B,L⟩:=jJ hw
  split at h
  ·cases h
   intro q hq
   have:=ql _ _ _ _ hq
   have hn:=L.nodes
   simp at this;omega
  ·cases h
 ·cases h
def LZ(f:List Pt->List (List AV))(s v:List UInt8):AV->List Ob->Prop:=fun r o=>o=[]/\∃x,LK.sl.has x/\r=.cA [x,.v (.bool (fK s v).isSome)]/\∀l,fK s v=some l->x=.sl (f l)
theorem LZ.ne(f:List Pt->List (List AV))(s v:List UInt8):∃r o,LZ f s v r o:=by
 cases h:fK s v with
 |none=>exact⟨_,_,rfl,.sl [],(bT _).mpr trivial,rfl,fun l hl=>by rw[h]at hl;cases hl⟩
 |some l=>exact⟨_,_,rfl,.sl (f l),(bT _).mpr trivial,rfl,fun l' hl=>by rw[h]at hl;cases hl;rfl⟩
def fY(f:List Nat->AV)(l:List Pt):List (List AV):=l.map fun p=>[f p.2]
theorem jC(f:List Nat->AV)(l:List Pt):(fY f l).length=l.length:=by simp[fY]
theorem uV(f:List Nat->AV)(out:List Pt)(p:Pt):fY f out++[[f p.2]]=fY f (out++[p]):=by simp[fY]
end Go.Proofs.Trees
namespace Go.Proofs.Trees
open Go Go.VL Go.RowKit
abbrev Nm:=List UInt8
def dO(u:Ty):Ty->Nat->Ty
 | .bW k,i=>if k=i then u else .bW k
 | .plus a b,i=>.plus (dO u a i) (dO u b i)
 | .times a b,i=>.times (dO u a i) (dO u b i)
 | .rc a,i=>.rc (dO u a (i+1))
 |t,_=>t
def sub(x:Nm)(u:Ty):Ty->Ty
 | .name s=>if s=x then u else .name s
 | .plus a b=>.plus (sub x u a) (sub x u b)
 | .times a b=>.times (sub x u a) (sub x u b)
 | .rc a=>.rc (sub x u a)
 |t=>t
def bo(x:Nm):Ty->Bool
 | .name s=>decide (s=x)
 | .plus a b=>bo x a||bo x b
 | .times a b=>bo x a||bo x b
 | .rc a=>bo x a
 |_=>false
def jN(f:Nm->Nm):Ty->Ty
 | .name s=>.name (f s)
 | .plus a b=>.plus (jN f a) (jN f b)
 | .times a b=>.times (jN f a) (jN f b)
 | .rc a=>.rc (jN f a)
 |t=>t
def Lw(f:Nm->Nm):Prop:=∀x y,f x=f y->x=y
theorem lL(f:Nm->Nm)(x:Nm):∀(t:Ty) (i:Nat),jN f (dO (.name x) t i)=dO (.name (f x)) (jN f t) i
 | .bW k,i=>by simp only[dO,jN];split<;>rfl
 | .plus a b,i=>by simp only[dO,jN,lL f x a i,lL f x b i]
 | .times a b,i=>by simp only[dO,jN,lL f x a i,lL f x b i]
 | .rc a,i=>by simp only[dO,jN,lL f x a (i+1)]
 | .zero,i=>rfl
 | .one,i=>rfl
 | .name s,i=>rfl
theorem mc{f:Nm->Nm}(hf:Lw f)(x:Nm)(u:Ty):∀t:Ty,jN f (sub x u t)=sub (f x) (jN f u) (jN f t)
 |
  .name s=>by
  simp only[sub,jN]
  by_cases h:s=x
  ·subst h;simp
  ·rw[if_neg h,if_neg fun e=>h (hf _ _ e)];rfl
 | .plus a b=>by simp only[sub,jN,mc hf x u a,mc hf x u b]
 | .times a b=>by simp only[sub,jN,mc hf x u a,mc hf x u b]
 | .rc a=>by simp only[sub,jN,mc hf x u a]
 | .zero=>rfl
 | .one=>rfl
 | .bW k=>rfl
theorem nk{f:Nm->Nm}(hf:Lw f)(x:Nm):∀t:Ty,bo (f x) (jN f t)=bo x t
 | .name s=>by simp only[bo,jN];rw[cx];simp only[decide_eq_true_eq];exact⟨fun e=>hf _ _ e,fun e=>by rw[e]⟩
 | .plus a b=>by simp only[bo,jN,nk hf x a,nk hf x b]
 | .times a b=>by simp only[bo,jN,nk hf x a,nk hf x b]
 | .rc a=>by simp only[bo,jN,nk hf x a]
 | .zero=>rfl
 | .one=>rfl
 | .bW k=>rfl
theorem hJ(f:Nm->Nm):∀t:Ty,(jN f t).aD=t.aD
 | .plus a b=>by simp only[Ty.aD,jN,hJ f a,hJ f b]
 | .times a b=>by simp only[Ty.aD,jN,hJ f a,hJ f b]
 | .rc a=>by simp only[Ty.aD,jN,hJ f a]
 | .name s=>rfl
 | .zero=>rfl
 | .one=>rfl
 | .bW k=>rfl
theorem pT{f:Nm->Nm}:∀t:Ty,(∀x,bo x t=true->f x=x)->jN f t=t
 | .name s,h=>by simp only[jN];rw[h s (by simp[bo])]
 | .plus a b,h=>by simp only[jN];rw[pT a fun x hx=>h x (by simp[bo,hx]),pT b fun x hx=>h x (by simp[bo,hx])]
 | .times a b,h=>by simp only[jN];rw[pT a fun x hx=>h x (by simp[bo,hx]),pT b fun x hx=>h x (by simp[bo,hx])]
 | .rc a,h=>by simp only[jN];rw[pT a fun x hx=>h x hx]
 | .zero,_=>rfl
 | .one,_=>rfl
 | .bW k,_=>rfl
theorem fH(x:Nm):∀(t:Ty) (i:Nat),(dO (.name x) t i).aD=t.aD
 | .bW k,i=>by simp only[dO];split<;>rfl
 | .plus a b,i=>by simp only[dO,Ty.aD,fH x a i,fH x b i]
 | .times a b,i=>by simp only[dO,Ty.aD,fH x a i,fH x b i]
 | .rc a,i=>by simp only[dO,Ty.aD,fH x a (i+1)]
 | .zero,i=>rfl
 | .one,i=>rfl
 | .name s,i=>rfl
theorem eh(t:Ty):1<=t.aD:=by cases t<;>simp only[Ty.aD]<;>omega
theorem hD(x:Nm)(u:Ty):∀t:Ty,t.aD<=(sub x u t).aD
 | .name s=>by simp only[sub];split<;>simp only[Ty.aD];exact eh u;omega
 | .plus a b=>by have:=hD x u a;have:=hD x u b;simp only[sub,Ty.aD];omega
 | .times a b=>by have:=hD x u a;have:=hD x u b;simp only[sub,Ty.aD];omega
 | .rc a=>by have:=hD x u a;simp only[sub,Ty.aD];omega
 | .zero=>aq _
 | .one=>aq _
 | .bW k=>aq _
theorem gJ{x y:Nm}:∀(t:Ty) (i:Nat),bo y (dO (.name x) t i)=true->y=x\/bo y t=true
 |
  .bW k,i,h=>by
  simp only[dO]at h
  split at h
  ·left;simp only[bo,decide_eq_true_eq]at h;exact h.symm
  ·cases h
 |
  .plus a b,i,h=>by
  simp only[dO,bo,bE]at h |-
  rcases h with h|h
  ·rcases gJ a i h with h|h<;>simp[h]
  ·rcases gJ b i h with h|h<;>simp[h]
 |
  .times a b,i,h=>by
  simp only[dO,bo,bE]at h |-
  rcases h with h|h
  ·rcases gJ a i h with h|h<;>simp[h]
  ·rcases gJ b i h with h|h<;>simp[h]
 | .rc a,i,h=>gJ a (i+1) h
 | .zero,i,h=>by cases h
 | .one,i,h=>by cases h
 | .name s,i,h=>.inr h
theorem jf{x y:Nm}{u:Ty}:∀t:Ty,bo y (sub x u t)=true->bo y u=true\/(y≠x/\bo y t=true)
 |
  .name s,h=>by
  simp only[sub]at h
  split at h
  ·exact .inl h
  ·rename_i hs
   simp only[bo,decide_eq_true_eq]at h
   subst h
   exact .inr ⟨hs,by simp[bo]⟩
 |
  .plus a b,h=>by
  simp only[sub,bo,bE]at h |-
  rcases h with h|h
  ·rcases jf a h with h|h<;>simp[h]
  ·rcases jf b h with h|h<;>simp[h]
 |
  .times a b,h=>by
  simp only[sub,bo,bE]at h |-
  rcases h with h|h
  ·rcases jf a h with h|h<;>simp[h]
  ·rcases jf b h with h|h<;>simp[h]
 |
  .rc a,h=>by
  simp only[sub,bo]at h |-
  exact jf a h
 | .zero,h=>by cases h
 | .one,h=>by cases h
 | .bW k,h=>by cases h
def swp(x y:Nm):Nm->Nm:=fun s=>if s=x then y else if s=y then x else s
theorem yu(x y:Nm):Lw (swp x y):=by
 intro a b h
 unfold swp at h
 by_cases h1:a=x<;>by_cases h2:a=y<;>by_cases h3:b=x<;>by_cases h4:b=y<;>simp_all
theorem wv(x y:Nm):swp x y x=y:=by simp[swp]
theorem Ct{x y s:Nm}(h:s≠x)(h':s≠y):swp x y s=s:=by simp[swp,h,h']
theorem ui{x y:Nm}{t:Ty}(h:bo x t=false)(h':bo y t=false):jN (swp x y) t=t :=
 pT t fun z hz=>Ct (fun e=>by subst e;rw[h]at hz;cases hz) (fun e=>by subst e;rw[h']at hz;cases hz)
def qb(a:Ty)(x:Nm)(c d:Ty):Ty:=.rc (.plus (sub x (.rc a) c) (.times (sub x (.rc a) d) (.bW 0)))
inductive Dv:Ty->Nm->Ty->Prop
 |zero (s):Dv .zero s .zero
 |one (s):Dv .one s .zero
 |bW (k s):Dv (.bW k) s .zero
 |hit (s):Dv (.name s) s .one
 |ss {n s} (h:n≠s):Dv (.name n) s .zero
 |plus {a b s a' b'} (h1:Dv a s a') (h2:Dv b s b') (hl:(Ty.plus a' b').aD<=400):Dv (.plus a b) s (.plus a' b')
 |times {a b s a' b'} (h1:Dv a s a') (h2:Dv b s b') (hl:(Ty.plus (.times a' b) (.times a b')).aD<=400):Dv (.times a b) s (.plus (.times a' b) (.times a b'))
 |rc {a s c d} (x:Nm) (hx:bo x a=false) (hs:x≠s) (h1:Dv (dO (.name x) a 0) s c) (h2:Dv (dO (.name x) a 0) x d) (hl:(qb a x c d).aD<=400):Dv (.rc a) s (qb a x c d)
theorem yn{f:Nm->Nm}(hf:Lw f)(a:Ty)(x:Nm)(c d:Ty):jN f (qb a x c d)=qb (jN f a) (f x) (jN f c) (jN f d):=by
 simp only[qb,jN,mc hf]
theorem Dv.jN{f:Nm->Nm}(hf:Lw f){t d:Ty}{s:Nm}(h:Dv t s d):Dv (jN f t) (f s) (jN f d):=by
 induction h with
 |zero s=>exact .zero _
 |one s=>exact .one _
 |bW k s=>exact .bW _ _
 |hit s=>exact .hit _
 |ss h=>exact .ss fun e=>h (hf _ _ e)
 |plus h1 h2 hl i1 i2=>exact .plus i1 i2 (by rw[<-hJ f]at hl;exact hl)
 |times h1 h2 hl i1 i2=>exact .times i1 i2 (by rw[<-hJ f]at hl;exact hl)
 |
  rc x hx hs h1 h2 hl i1 i2 =>
  rw[yn hf]
  rw[lL]at i1 i2
  exact .rc (f x) (by rw[nk hf];exact hx) (fun e=>hs (hf _ _ e)) i1 i2 (by rw[<-yn hf,hJ];exact hl)
theorem Dv.names{t d:Ty}{s:Nm}(h:Dv t s d):∀y,bo y d=true->bo y t=true:=by
 induction h with
 |zero s=>intro y hy;cases hy
 |one s=>intro y hy;cases hy
 |bW k s=>intro y hy;cases hy
 |hit s=>intro y hy;cases hy
 |ss h=>intro y hy;cases hy
 |
  plus h1 h2 hl i1 i2 =>
  intro y hy
  simp only[bo,bE]at hy |-
  rcases hy with hy|hy
  ·exact .inl (i1 y hy)
  ·exact .inr (i2 y hy)
 |
  times h1 h2 hl i1 i2 =>
  intro y hy
  simp only[bo,bE]at hy |-
  rcases hy with(hy|hy)|(hy|hy)
  ·exact .inl (i1 y hy)
  ·exact .inr hy
  ·exact .inl hy
  ·exact .inr (i2 y hy)
 |
  rc x hx hs h1 h2 hl i1 i2 =>
  intro y hy
  simp only[qb,bo,bE,Bool.or_false]at hy |-
  have key:∀{a c:Ty},(∀y,bo y c=true->bo y (dO (.name x) a 0)=true)->bo y (sub x (.rc a) c)=true->bo y a=true:=fun i h=>by
   rcases jf _ h with h|⟨h,h'⟩
   ·exact h
   ·rcases gJ _ _ (i y h')with e|e
    ·exact absurd e h
    ·exact e
  rcases hy with hy|hy
  ·exact key i1 hy
  ·exact key i2 hy
theorem Dv.fresh{t d:Ty}{s y:Nm}(h:Dv t s d)(hy:bo y t=false):bo y d=false:=by
 cases e:bo y d with
 |false=>rfl
 |true=>rw[h.names y e]at hy;cases hy
theorem Dv.move{a c:Ty}{x y s:Nm}(hx:bo x a=false)(hy:bo y a=false)(h:Dv (dO (.name x) a 0) s c):Dv (dO (.name y) a 0) (swp x y s) (Go.Proofs.Trees.jN (swp x y) c):=by
 have:=h.jN (yu x y)
 rw[lL,wv,ui hx hy]at this
 exact this
theorem mJ{a c:Ty}{x y s:Nm}(hx:bo x a=false)(hy:bo y a=false)(h:Dv (dO (.name x) a 0) s c):sub y (.rc a) (jN (swp x y) c)=sub x (.rc a) c:=by
 have e:=mc (yu x y) x (.rc a) c
 rw[wv,ui (t:=.rc a) hx hy]at e
 rw[<-e]
 have key:∀z,(z=x\/z=y)->bo z (sub x (.rc a) c)=false:=fun z hz=>by
  cases q:bo z (sub x (.rc a) c)with
  |false=>rfl
  |
   true =>
   exfalso
   have hz':bo z a=false:=by rcases hz with rfl|rfl<;>assumption
   rcases jf _ q with h1|⟨h1,h2⟩
   ·rw[show bo z (.rc a)=bo z a from rfl,hz']at h1;cases h1
   ·rcases gJ _ _ (h.names z h2)with e|e
    ·exact h1 e
    ·rw[hz']at e;cases e
 exact ui (key x (.inl rfl)) (key y (.inr rfl))
theorem Dv.xI:∀(n:Nat) (t:Ty),t.aD<=n->∀{s:Nm} {d d':Ty},Dv t s d->Dv t s d'->d=d'
 |0,t,h,_,_,_,_,_=>by have:=eh t;omega
 |
  n+1,t,hn,s,d,d',h,h'=>by
  cases h with
  |zero=>cases h';rfl
  |one=>cases h';rfl
  |bW=>cases h';rfl
  |
   hit =>
   cases h' with
   |hit=>rfl
   |ss h=>exact absurd rfl h
  |
   ss h =>
   cases h' with
   |hit=>exact absurd rfl h
   |ss _=>rfl
  |
   plus h1 h2 =>
   simp only[Ty.aD]at hn
   cases h' with
   |plus g1 g2=>rw[Dv.xI n _ (by omega) h1 g1,Dv.xI n _ (by omega) h2 g2]
  |
   times h1 h2 =>
   simp only[Ty.aD]at hn
   cases h' with
   |times g1 g2=>rw[Dv.xI n _ (by omega) h1 g1,Dv.xI n _ (by omega) h2 g2]
  |
   rc x hx hs h1 h2 =>
   simp only[Ty.aD]at hn
   cases h' with
   |
    rc y hy hs' g1 g2 =>
    rename_i a _ _ _ _ _ _
    have m1:=h1.move hx hy
    have m2:=h2.move hx hy
    rw[Ct (Ne.symm hs) (Ne.symm hs')]at m1
    rw[wv]at m2
    have e1:=Dv.xI n _ (by rw[fH];omega) m1 g1
    have e2:=Dv.xI n _ (by rw[fH];omega) m2 g2
    rw[qb,qb,<-e1,<-e2,mJ hx hy h1,mJ hx hy h2]
theorem Dv.small{t d:Ty}{s:Nm}(h:Dv t s d):d.aD<=400:=by
 cases h<;>first|assumption|simp[Ty.aD]
open Classical in
noncomputable def lU (t:Ty) (s:Nm):Option Ty:=if h:∃d,Dv t s d then some (Classical.choose h)else none
theorem cU{t:Ty}{s:Nm}{d:Ty}:lU t s=some d↔Dv t s d:=by
 unfold lU
 by_cases h:∃d,Dv t s d
 ·rw[dif_pos h]
  have:=Classical.choose_spec h
  constructor
  ·intro e;cases e;exact this
  ·intro g;rw[Dv.xI _ t (aq _) this g]
 ·rw[dif_neg h]
  exact⟨fun e=>(by cases e),fun g=>absurd ⟨d,g⟩ h⟩
def nO(t:Ty):Option Ty:=if t.aD<=400 then some t else none
theorem fe{t d:Ty}:nO t=some d↔t.aD<=400/\t=d:=by
 unfold nO
 split
 ·rename_i h;simp[h]
 ·rename_i h;simp[h]
theorem qQ{α:Type}{a b:Option α}(h:∀d,a=some d↔b=some d):a=b:=by
 cases a with
 |
  none=>cases b with
  |none=>rfl
  |some x=>have:=(h x).2 rfl;cases this
 |some x=>exact((h x).1 rfl).symm
theorem vA(s:Nm):lU .zero s=some .zero:=cU.2 (.zero _)
theorem yR(s:Nm):lU .one s=some .zero:=cU.2 (.one _)
theorem Ab(k:Nat)(s:Nm):lU (.bW k) s=some .zero:=cU.2 (.bW _ _)
theorem oW(n s:Nm):lU (.name n) s=some (if n=s then .one else .zero):=by
 split
 ·rename_i h;subst h;exact cU.2 (.hit _)
 ·rename_i h;exact cU.2 (.ss h)
theorem wm(a b:Ty)(s:Nm):lU (.plus a b) s=(lU a s).bind fun a'=>(lU b s).bind fun b'=>nO (.plus a' b'):=by
 refine qQ fun d=>?_
 rw[cU]
 simp only[bu,cU,fe]
 constructor
 ·intro h;cases h with|plus h1 h2 hl=>exact⟨_,h1,_,h2,hl,rfl⟩
 ·rintro⟨a',h1,b',h2,hl,rfl⟩;exact .plus h1 h2 hl
theorem tC(a b:Ty)(s:Nm):lU (.times a b) s=(lU a s).bind fun a'=>(lU b s).bind fun b'=>nO (.plus (.times a' b) (.times a b')):=by
 refine qQ fun d=>?_
 rw[cU]
 simp only[bu,cU,fe]
 constructor
 ·intro h;cases h with|times h1 h2 hl=>exact⟨_,h1,_,h2,hl,rfl⟩
 ·rintro⟨a',h1,b',h2,hl,rfl⟩;exact .times h1 h2 hl
theorem Cy{a:Ty}{s x:Nm}(hx:bo x a=false)(hs:x≠s):lU (.rc a) s=(lU (dO (.name x) a 0) s).bind fun c=>(lU (dO (.name x) a 0) x).bind fun d=>nO (qb a x c d):=by
 refine qQ fun d=>?_
 rw[cU]
 simp only[bu,cU,fe]
 constructor
 ·intro h
  cases h with
  |
   rc y hy hs' h1 h2 hl =>
   have m1:=h1.move hy hx
   have m2:=h2.move hy hx
   rw[Ct (Ne.symm hs') (Ne.symm hs)]at m1
   rw[wv]at m2
   refine⟨_,m1,_,m2,?_⟩
   have e:∀c d,sub x (.rc a) (jN (swp y x) c)=sub y (.rc a) c->sub x (.rc a) (jN (swp y x) d)=sub y (.rc a) d->qb a x (jN (swp y x) c) (jN (swp y x) d)=qb a y c d:=fun c d e1 e2=>by rw[qb,qb,e1,e2]
   rw[e _ _ (mJ hy hx h1) (mJ hy hx h2)]
   exact⟨hl,rfl⟩
 ·rintro⟨c,h1,d',h2,hl,rfl⟩;exact .rc x hx hs h1 h2 hl
noncomputable def pH (a:Ty) (x:Nm):Option Ty:=(lU (dO (.name x) a 0) x).bind fun d=>nO (sub x (.rc a) d)
theorem Jk{a:Ty}{x y:Nm}(hx:bo x a=false)(hy:bo y a=false):pH a x=pH a y:=by
 have key:∀{x y:Nm} {d:Ty},bo x a=false->bo y a=false->pH a x=some d->pH a y=some d:=fun {x y d} hx hy h=>by
  simp only[pH,bu,cU,fe]at h |-
  obtain⟨d',h1,hl,rfl⟩:=h
  have m1:=h1.move hx hy
  rw[wv]at m1
  exact⟨_,m1,by rw[mJ hx hy h1];exact⟨hl,rfl⟩⟩
 exact qQ fun d=>⟨key hx hy,key hy hx⟩
end Go.Proofs.Trees
namespace Go.Proofs.Trees
open Go Go.VL Go.RowKit
def cR:E->List Nm->Ty
 | .atom s,ar=>if s=[48]then .zero else if s=[49]then .one else match bQ s ar ar.length with|some u=>.bW u|none=>.name s
 | .list [x,a,b],ar=>if x.at=[43]then .plus (cR a ar) (cR b ar)else if x.at=[42]then .times (cR a ar) (cR b ar)else .rc (cR b (ar++[a.at]))
 | .list _,_=>.zero
def rk(s:Nm):Prop:=s≠[]/\s≠[48]/\s≠[49]
inductive Wf:E->Prop
 |atom {s} (h:s≠[]):Wf (.atom s)
 |plus {a b} (ha:Wf a) (hb:Wf b):Wf (.list [.atom [43],a,b])
 |times {a b} (ha:Wf a) (hb:Wf b):Wf (.list [.atom [42],a,b])
 |rc {n b} (hn:rk n) (hb:Wf b):Wf (.list [.atom [114,101,99],.atom n,b])
theorem dN(a b:E)(ar:List Nm):cR (.list [.atom [43],a,b]) ar=.plus (cR a ar) (cR b ar):=by rw[cR,if_pos (show (E.atom [43]).at=[43] from rfl)]
theorem du(a b:E)(ar:List Nm):cR (.list [.atom [42],a,b]) ar=.times (cR a ar) (cR b ar):=by rw[cR,if_neg (by decide),if_pos (show (E.atom [42]).at=[42] from rfl)]
theorem fh(a b:E)(ar:List Nm):cR (.list [.atom [114,101,99],a,b]) ar=.rc (cR b (ar++[a.at])):=by rw[cR,if_neg (by decide),if_neg (by decide)]
theorem Wf.ok{e:E}(h:Wf e):e.ok:=by
 induction h with
 |atom h=>exact h
 |plus ha hb i1 i2=>exact⟨by simp[E.ok],i1,i2,trivial⟩
 |times ha hb i1 i2=>exact⟨by simp[E.ok],i1,i2,trivial⟩
 |rc hn hb i=>exact⟨by simp[E.ok],hn.1,i,trivial⟩
theorem Wf.df{e:E}(h:Wf e):∀ar,e.df=(cR e ar).aD:=by
 induction h with
 |
  @atom s h =>
  intro ar
  simp only[E.df,cR]
  split
  ·rfl
  ·split
   ·rfl
   ·split<;>rfl
 |plus ha hb i1 i2=>intro ar;rw[dN];simp only[E.df,E.eT,Ty.aD,<-i1 ar,<-i2 ar];omega
 |times ha hb i1 i2=>intro ar;rw[du];simp only[E.df,E.eT,Ty.aD,<-i1 ar,<-i2 ar];omega
 |@rc n b hn hb i=>intro ar;rw[fh];simp only[E.df,E.eT,Ty.aD,<-i];omega
theorem Wf.sz{e:E}(h:Wf e):e.sz<=3*e.df:=by
 induction h with
 |atom h=>simp[E.sz,E.df]
 |plus ha hb i1 i2=>simp only[E.sz,E.jp,E.df,E.eT];omega
 |times ha hb i1 i2=>simp only[E.sz,E.jp,E.df,E.eT];omega
 |rc hn hb i=>simp only[E.sz,E.jp,E.df,E.eT];omega
theorem kf:∀(e:E) (ar:List Nm) (t:Ty),e.ok->(∀w,w∈ar->dk w=true)->cS e ar=some t->Wf e/\cR e ar=t
 |
  .atom s,ar,t,hok,hl,ht=>by
  refine⟨.atom hok,?_⟩
  simp only[cS,cR]at ht |-
  split at ht
  ·rename_i h;rw[if_pos h];simpa using ht
  ·rename_i h;rw[if_neg h]
   split at ht
   ·rename_i h1;rw[if_pos h1];simpa using ht
   ·rename_i h1;rw[if_neg h1]
    split at ht
    ·rename_i hp
     cases q:bQ s ar ar.length with
     |none=>simpa using ht
     |
      some u =>
      obtain⟨h1,h2⟩:=fG _ _ (aq _) q
      have:=hl (gk ar u) (by
       unfold gk
       have:ar.length-1-u<ar.length:=by omega
       simp[aa,this])
      rw[h2,kB hp]at this;cases this
    ·split at ht
     ·split at ht<;>rename_i q<;>rw[q]<;>simpa using ht
     ·cases ht
 |
  .list [x,a,b],ar,t,hok,hl,ht=>by
  obtain⟨ok1,ok2,ok3,_⟩:=hok
  by_cases h0:x.at=[43]
  ·obtain⟨t1,t2,h1,h2,rfl⟩:=fJ h0 ht
   obtain rfl:=kk h0 (by simp)
   obtain⟨w1,e1⟩:=kf a ar t1 ok2 hl h1
   obtain⟨w2,e2⟩:=kf b ar t2 ok3 hl h2
   exact⟨.plus w1 w2,by rw[dN,e1,e2]⟩
  ·by_cases h1:x.at=[42]
   ·obtain⟨t1,t2,h2,h3,rfl⟩:=eY h1 ht
    obtain rfl:=kk h1 (by simp)
    obtain⟨w1,e1⟩:=kf a ar t1 ok2 hl h2
    obtain⟨w2,e2⟩:=kf b ar t2 ok3 hl h3
    exact⟨.times w1 w2,by rw[du,e1,e2]⟩
   ·by_cases h2:x.at=[114,101,99]
    ·obtain⟨t1,hla,h3,rfl⟩:=dB h2 ht
     obtain rfl:=kk h2 (by simp)
     have hne:a.at≠[]:=by intro e;rw[e]at hla;cases hla
     have ha:a=.atom a.at:=kk rfl hne
     obtain⟨w1,e1⟩:=kf b (ar++[a.at]) t1 ok3 (fun w hw=>by
      rcases aQ.1 hw with hw|hw
      ·exact hl w hw
      ·simp only[aT]at hw;rw[hw];exact hla) h3
     have hN:rk a.at:=⟨hne,fun e=>by rw[e]at hla;revert hla;decide,fun e=>by rw[e]at hla;revert hla;decide⟩
     refine⟨?_,by rw[fh,e1]⟩
     rw[ha];exact .rc hN w1
    ·rw[iZ _ h0 h1 h2]at ht;cases ht
 | .list [],ar,t,_,_,ht=>by cases ht
 | .list [_],ar,t,_,_,ht=>by cases ht
 | .list [_,_],ar,t,_,_,ht=>by cases ht
 | .list (_::_::_::_::_),ar,t,_,_,ht=>by cases ht
theorem fA(s:Nm)(ar:List Nm):bQ s ar ar.length=none↔s∉ar:=by
 have:=mV s ar ar.length (aq _)
 rwa[List.take_length]at this
theorem nT(s:Nm)(ar:List Nm):∀(n:Nat) (br:List Nm),br.length=n->bQ s (ar++br) (ar++br).length=match bQ s br br.length with|some u=>some u|none=>(bQ s ar ar.length).map (·+br.length)
 |
  0,br,h=>by
  obtain rfl:=bR h
  rw[cY]
  cases h:bQ s ar ar.length<;>simp[bQ]
 |
  n+1,br,h=>by
  obtain⟨b2,w,rfl⟩:∃b2 w,br=b2++[w]:=⟨br.dropLast,br.getLast (by intro e;rw[e]at h;cases h),(List.dropLast_concat_getLast _).symm⟩
  rw[<-aW]
  by_cases hw:w=s
  ·subst hw;rw[fk,fk]
  ·rw[jF _ hw,jF _ hw,nT s ar n b2 (by simpa using h)]
   cases bQ s b2 b2.length with
   |some u=>rfl
   |
    none =>
    cases bQ s ar ar.length with
    |none=>rfl
    |some u=>simp only[Option.map_none,cg,an,au,aG];congr 1
theorem uU(ar:List Nm){e:E}(h:Wf e):∀br,(∀y,bo y (cR e br)=true->y∉ar)->cR e (ar++br)=cR e br:=by
 induction h with
 |
  @atom s h =>
  intro br hy
  simp only[cR]at hy |-
  split
  ·rfl
  ·rename_i h0
   split
   ·rfl
   ·rename_i h1
    rw[if_neg h0,if_neg h1]at hy
    rw[nT s ar _ br rfl]
    cases q:bQ s br br.length with
    |some u=>rfl
    |
     none =>
     rw[q]at hy
     have:=(fA s ar).2 (hy s (by simp[bo]))
     rw[this];rfl
 |
  plus ha hb i1 i2 =>
  intro br hy
  rw[dN]at hy |-
  rw[dN,i1 br fun y h=>hy y (by simp[bo,h]),i2 br fun y h=>hy y (by simp[bo,h])]
 |
  times ha hb i1 i2 =>
  intro br hy
  rw[du]at hy |-
  rw[du,i1 br fun y h=>hy y (by simp[bo,h]),i2 br fun y h=>hy y (by simp[bo,h])]
 |
  @rc n b hn hb i =>
  intro br hy
  rw[fh]at hy |-
  rw[fh,aW,i _ hy]
theorem zB(x:Nm){e:E}(h:Wf e):∀ar,cR e ar=dO (.name x) (cR e ([x]++ar)) ar.length:=by
 induction h with
 |
  @atom s h =>
  intro ar
  simp only[cR]
  split
  ·rfl
  ·split
   ·rfl
   ·rw[nT s [x] _ ar rfl]
    cases q:bQ s ar ar.length with
    |
     some u =>
     have:=(fG _ _ (aq _) q).1
     simp only[dO];rw[if_neg (by omega)]
    |
     none =>
     by_cases hx:x=s
     ·subst hx
      have:bQ x [x] [x].length=some 0:=fk x []
      rw[this];simp[dO]
     ·have:bQ s [x] [x].length=none:=(fA s [x]).2 (by simpa using fun e=>hx e.symm)
      rw[this];rfl
 |plus ha hb i1 i2=>intro ar;rw[dN,dN,dO,<-i1 ar,<-i2 ar]
 |times ha hb i1 i2=>intro ar;rw[du,du,dO,<-i1 ar,<-i2 ar]
 |
  @rc n b hn hb i =>
  intro ar
  rw[fh,fh,dO,i (ar++[E.at (.atom n)]),aW]
  simp
theorem nn{e:E}(h:Wf e):∀ar y,bo y (cR e ar)=true->rk y/\y∉ar:=by
 induction h with
 |
  @atom s h =>
  intro ar y hy
  simp only[cR]at hy
  split at hy
  ·cases hy
  ·rename_i h0
   split at hy
   ·cases hy
   ·rename_i h1
    split at hy
    ·cases hy
    ·rename_i q
     simp only[bo,decide_eq_true_eq]at hy
     subst hy
     exact⟨⟨h,h0,h1⟩,(fA _ _).1 q⟩
 |
  plus ha hb i1 i2 =>
  intro ar y hy
  rw[dN]at hy
  simp only[bo,bE]at hy
  rcases hy with hy|hy
  ·exact i1 ar y hy
  ·exact i2 ar y hy
 |
  times ha hb i1 i2 =>
  intro ar y hy
  rw[du]at hy
  simp only[bo,bE]at hy
  rcases hy with hy|hy
  ·exact i1 ar y hy
  ·exact i2 ar y hy
 |
  rc hn hb i =>
  intro ar y hy
  rw[fh]at hy
  obtain⟨h1,h2⟩:=i _ y hy
  exact⟨h1,fun h=>h2 (aC _ h)⟩
theorem lN{e:E}(h:Wf e):∀(bd l:List Nm) (y:Nm),y∈kj e bd l↔y∈l\/bo y (cR e bd)=true:=by
 induction h with
 |
  @atom s h =>
  intro bd l y
  simp only[kj,cR]
  by_cases h0:s=[48]
  ·simp[h0,bo]
  ·by_cases h1:s=[49]
   ·simp[h1,bo]
   ·rw[if_neg h0,if_neg h1]
    by_cases h2:s∈bd
    ·cases q:bQ s bd bd.length with
     |none=>exact absurd h2 ((fA _ _).1 q)
     |some u=>simp[h2,bo]
    ·rw[(fA _ _).2 h2]
     simp only[h0,h1,h2,false_or,bo,decide_eq_true_eq]
     by_cases h3:s∈l
     ·simp only[h3,if_true]
      exact⟨fun h=>.inl h,fun h=>by rcases h with h|rfl<;>assumption⟩
     ·simp only[h3,if_false,aQ,aT,eq_comm]
 |
  plus ha hb i1 i2 =>
  intro bd l y
  rw[kj,if_neg (by decide),dN,i2,i1]
  simp[bo,or_assoc]
 |
  times ha hb i1 i2 =>
  intro bd l y
  rw[kj,if_neg (by decide),du,i2,i1]
  simp[bo,or_assoc]
 |
  rc hn hb i =>
  intro bd l y
  rw[kj,if_pos (show (E.atom [114,101,99]).at=[114,101,99] from rfl),fh,i]
  rfl
theorem eI:∀(t:Ty) (out:List Nm) (y:Nm),y∈bP t out↔y∈out\/bo y t=true
 |
  .name s,out,y=>by
  simp only[bP,pV,bo,decide_eq_true_eq]
  split
  ·rename_i h;exact⟨fun h=>.inl h,fun h'=>by rcases h' with h'|rfl<;>assumption⟩
  ·simp[eq_comm]
 | .plus a b,out,y=>by rw[bP,eI b,eI a];simp[bo,or_assoc]
 | .times a b,out,y=>by rw[bP,eI b,eI a];simp[bo,or_assoc]
 | .rc a,out,y=>by rw[bP,eI a];rfl
 | .zero,out,y=>by simp[bP,bo]
 | .one,out,y=>by simp[bP,bo]
 | .bW k,out,y=>by simp[bP,bo]
end Go.Proofs.Trees
namespace Go.Proofs.Trees
open Go Go.VL Go.RowKit
abbrev dE:Nm:=[114,101,99]
theorem dU(s:Nm):(E.atom s).at=s:=rfl
def rU(x:Nm)(u:E):E->E
 | .atom s=>if s=x then u else .atom s
 | .list [h,a,b]=>if h.at=dE then(if a.at=x then .list [h,a,b]else .list [.atom dE,a,rU x u b])else .list [.atom h.at,rU x u a,rU x u b]
 | .list l=>.list l
def ns(x:Nm):E->Nat
 | .atom s=>if s=x then 1 else 0
 | .list [h,a,b]=>if h.at=dE then(if a.at=x then 0 else ns x b)else ns x a+ns x b
 | .list _=>0
def uX(p:Nm->Prop):E->Prop
 | .atom _=>True
 | .list [h,a,b]=>(if h.at=dE then p a.at else uX p a)/\uX p b
 | .list _=>True
def fw(x:Nm):Ty->Nat
 | .name s=>if s=x then 1 else 0
 | .plus a b=>fw x a+fw x b
 | .times a b=>fw x a+fw x b
 | .rc a=>fw x a
 |_=>0
theorem wN(x:Nm)(u a b:E):rU x u (.list [.atom [43],a,b])=.list [.atom [43],rU x u a,rU x u b]:=by rw[rU,if_neg (by decide)];rfl
theorem tq(x:Nm)(u a b:E):rU x u (.list [.atom [42],a,b])=.list [.atom [42],rU x u a,rU x u b]:=by rw[rU,if_neg (by decide)];rfl
theorem CF(x:Nm)(u:E)(n:Nm)(b:E):rU x u (.list [.atom dE,.atom n,b])=if n=x then .list [.atom dE,.atom n,b]else .list [.atom dE,.atom n,rU x u b]:=by rw[rU,if_pos (dU _)];rfl
theorem rC(x:Nm)(a b:E):ns x (.list [.atom [43],a,b])=ns x a+ns x b:=by rw[ns,if_neg (by decide)]
theorem pU(x:Nm)(a b:E):ns x (.list [.atom [42],a,b])=ns x a+ns x b:=by rw[ns,if_neg (by decide)]
theorem xn(x:Nm)(n:Nm)(b:E):ns x (.list [.atom dE,.atom n,b])=if n=x then 0 else ns x b:=by rw[ns,if_pos (dU _)];rfl
theorem oG(p:Nm->Prop)(a b:E):uX p (.list [.atom [43],a,b])↔uX p a/\uX p b:=by rw[uX,if_neg (by decide)]
theorem nh(p:Nm->Prop)(a b:E):uX p (.list [.atom [42],a,b])↔uX p a/\uX p b:=by rw[uX,if_neg (by decide)]
theorem uh(p:Nm->Prop)(n:Nm)(b:E):uX p (.list [.atom dE,.atom n,b])↔p n/\uX p b:=by rw[uX,if_pos (dU _)];rfl
theorem B0{p q:Nm->Prop}(h:∀n,p n->q n){e:E}(hw:Wf e):uX p e->uX q e:=by
 induction hw with
 |atom _=>exact fun _=>trivial
 |plus _ _ i1 i2=>rw[oG,oG];exact fun g=>⟨i1 g.1,i2 g.2⟩
 |times _ _ i1 i2=>rw[nh,nh];exact fun g=>⟨i1 g.1,i2 g.2⟩
 |rc _ _ i=>rw[uh,uh];exact fun g=>⟨h _ g.1,i g.2⟩
theorem i6{s:Nm}(hs:rk s){ar:List Nm}(h:s∉ar):cR (.atom s) ar=.name s:=by
 simp only[cR];rw[if_neg hs.2.1,if_neg hs.2.2,(fA s ar).2 h]
theorem Ez{x:Nm}(hx:rk x){u:E}(hu:Wf u){e:E}(h:Wf e):uX (fun n=>n≠x/\bo n (cR u [])=false) e->∀ar,x∉ar->(∀y,y∈ar->bo y (cR u [])=false)->Wf (rU x u e)/\cR (rU x u e) ar=sub x (cR u []) (cR e ar):=by
 induction h with
 |
  @atom s hs =>
  intro _ ar har hy
  by_cases e:s=x
  ·subst e
   have:cR u (ar++[])=cR u []:=uU ar hu [] fun y hy' hm=>by rw[hy y hm]at hy';cases hy'
   rw[cY]at this
   rw[i6 hx har]
   simp only[rU,sub,if_true]
   exact⟨hu,this⟩
  ·simp only[rU,if_neg e]
   refine⟨.atom hs,?_⟩
   simp only[cR]
   split
   ·rfl
   ·split
    ·rfl
    ·split
     ·rfl
     ·simp only[sub,if_neg e]
 |
  plus ha hb i1 i2 =>
  intro hap ar har hy
  rw[oG]at hap
  obtain⟨w1,e1⟩:=i1 hap.1 ar har hy
  obtain⟨w2,e2⟩:=i2 hap.2 ar har hy
  rw[wN,dN,dN,e1,e2]
  exact⟨.plus w1 w2,rfl⟩
 |
  times ha hb i1 i2 =>
  intro hap ar har hy
  rw[nh]at hap
  obtain⟨w1,e1⟩:=i1 hap.1 ar har hy
  obtain⟨w2,e2⟩:=i2 hap.2 ar har hy
  rw[tq,du,du,e1,e2]
  exact⟨.times w1 w2,rfl⟩
 |
  @rc n b hn hb i =>
  intro hap ar har hy
  rw[uh]at hap
  obtain⟨w1,e1⟩:=i hap.2 (ar++[n]) (by
   simp only[aQ,aT]
   rintro(h|h)
   ·exact har h
   ·exact hap.1.1 h.symm) (fun y hm=>by
   simp only[aQ,aT]at hm
   rcases hm with hm|rfl
   ·exact hy y hm
   ·exact hap.1.2)
  rw[CF,if_neg hap.1.1,fh,fh]
  refine⟨.rc hn w1,?_⟩
  show Ty.rc (cR (rU x u b) (ar++[n]))=_
  rw[e1];rfl
theorem DL{x:Nm}(hx:rk x){e:E}(h:Wf e):∀ar,fw x (cR e ar)=if x∈ar then 0 else ns x e:=by
 induction h with
 |
  @atom s hs =>
  intro ar
  by_cases e:s=x
  ·subst e
   by_cases hm:s∈ar
   ·rw[if_pos hm]
    simp only[cR];rw[if_neg hx.2.1,if_neg hx.2.2]
    cases q:bQ s ar ar.length with
    |none=>exact absurd hm ((fA _ _).1 q)
    |some u=>rfl
   ·rw[if_neg hm,i6 hx hm];simp[fw,ns]
  ·have:fw x (cR (.atom s) ar)=0:=by
    simp only[cR]
    split
    ·rfl
    ·split
     ·rfl
     ·split
      ·rfl
      ·simp[fw,e]
   rw[this];simp[ns,e]
 |plus ha hb i1 i2=>intro ar;rw[dN,rC,fw,i1,i2];split<;>simp
 |times ha hb i1 i2=>intro ar;rw[du,pU,fw,i1,i2];split<;>simp
 |
  @rc n b hn hb i =>
  intro ar
  rw[fh,xn,fw,i]
  simp only[dU,aQ,aT]
  by_cases h1:x∈ar
  ·simp[h1]
  ·by_cases h2:x=n
   ·simp[h2]
   ·simp[h1,h2,Ne.symm h2]
theorem dX(x:Nm)(u:Ty):∀t:Ty,(sub x u t).aD+fw x t=t.aD+fw x t*u.aD
 | .name s=>by simp only[sub,fw];split<;>simp[Ty.aD];omega
 | .plus a b=>by have:=dX x u a;have:=dX x u b;simp only[sub,Ty.aD,fw,Nat.add_mul];omega
 | .times a b=>by have:=dX x u a;have:=dX x u b;simp only[sub,Ty.aD,fw,Nat.add_mul];omega
 | .rc a=>by have:=dX x u a;simp only[sub,Ty.aD,fw];omega
 | .zero=>by simp[sub,fw]
 | .one=>by simp[sub,fw]
 | .bW k=>by simp[sub,fw]
abbrev tN(m:Nat):Nm:=116::dd m
theorem Fc(m:Nat):dd m≠[]:=by
 by_cases h:m<10
 ·rw[eF h];simp
 ·rw[fP h];simp
theorem xG:∀(n m k:Nat),m<n->dd m=dd k->m=k
 |0,m,k,h,_=>by omega
 |
  n+1,m,k,h,e=>by
  have d10:∀{a b:Nat},a<10->b<10->bh (48+a)=bh (48+b)->a=b:=fun {a b} ha hb h=>by
   have:=congrArg UInt8.toNat h
   simp only[UInt8.toNat_ofNat']at this
   omega
  by_cases h1:m<10<;>by_cases h2:k<10
  ·rw[eF h1,eF h2]at e
   simp only[List.cons.injEq,and_true]at e
   exact d10 h1 h2 e
  ·rw[eF h1,fP h2]at e
   have:=congrArg List.length e
   have:dd (k/10)=[]:=by
    apply bR
    simp at this;simpa using this
   exact absurd this (Fc _)
  ·rw[fP h1,eF h2]at e
   have:=congrArg List.length e
   have:dd (m/10)=[]:=by
    apply bR
    simp at this;simpa using this
   exact absurd this (Fc _)
  ·rw[fP h1,fP h2]at e
   obtain⟨e1,e2⟩:=List.append_inj' e rfl
   have:=xG n (m/10) (k/10) (by omega) e1
   simp only[List.cons.injEq,and_true]at e2
   have:=d10 (Nat.mod_lt _ (by omega)) (Nat.mod_lt _ (by omega)) e2
   omega
theorem Cl{m k:Nat}(h:tN m=tN k):m=k:=xG (m+1) m k (by omega) (List.cons.inj h).2
theorem zm(m:Nat):rk (tN m):=⟨by simp,by simp,by simp⟩
theorem T1:∀(l F:List Nm),l.Nodup->(∀x,x∈l->x∈F)->l.length<=F.length
 |[],_,_,_=>dF _
 |
  x::l,F,hn,hs=>by
  obtain⟨h1,h2⟩:=List.nodup_cons.1 hn
  have hx:=hs x ak
  have:=T1 l (F.erase x) h2 fun y hy=>(List.mem_erase_of_ne (fun e=>h1 (by rw[<-e];exact hy))).2 (hs y (al _ hy))
  rw[List.length_erase_of_mem hx]at this
  have:0<F.length:=List.length_pos_of_mem hx
  simp only[au];omega
def qi(F:List Nm):Nat->Nat->Nat
 |0,k=>k
 |n+1,k=>if tN k∈F then qi F n (k+1)else k
theorem vE(F:List Nm):∀(n k:Nat),k<=qi F n k/\qi F n k<=k+n/\(∀j,k<=j->j<qi F n k->tN j∈F)/\(qi F n k<k+n->tN (qi F n k)∉F)
 |0,k=>⟨aq _,aq _,fun j h1 h2=>by simp only[qi]at h2;omega,fun h=>by simp only[qi]at h;omega⟩
 |
  n+1,k=>by
  rw[qi]
  split
  ·rename_i hm
   obtain⟨h1,h2,h3,h4⟩:=vE F n (k+1)
   refine⟨by omega,by omega,fun j hj hl=>?_,fun h=>h4 (by omega)⟩
   by_cases e:j=k
   ·subst e;exact hm
   ·exact h3 j (by omega) hl
  ·rename_i hm
   exact⟨aq _,by omega,fun j h1 h2=>by omega,fun _=>hm⟩
def nx(F:List Nm)(k:Nat):Nat:=qi F (F.length+1) k
theorem gB(F:List Nm)(k:Nat):k<=nx F k/\nx F k<=k+F.length/\(∀j,k<=j->j<nx F k->tN j∈F)/\tN (nx F k)∉F:=by
 obtain⟨h1,h2,h3,h4⟩:=vE F (F.length+1) k
 have hlt:nx F k<k+(F.length+1):=by
  rcases Nat.lt_or_ge (nx F k) (k+(F.length+1))with h|h
  ·exact h
  ·exfalso
   have:=T1 ((List.range' k (F.length+1)).map tN) F (by
    refine List.Pairwise.map _ (fun a b hab e=>hab (Cl e)) List.nodup_range') (fun x hx=>by
    obtain⟨j,hj,rfl⟩:=bK.1 hx
    obtain⟨i,hi,rfl⟩:=List.mem_range'.1 hj
    exact h3 _ (by omega) (by show _<nx F k;omega))
   simp at this
   omega
 exact⟨h1,by unfold nx at hlt |-;omega,h3,h4 hlt⟩
theorem Cs{F F':List Nm}(h:∀y,y∈F↔y∈F')(k:Nat):nx F k=nx F' k:=by
 obtain⟨a1,a2,a3,a4⟩:=gB F k
 obtain⟨b1,b2,b3,b4⟩:=gB F' k
 rcases Nat.lt_trichotomy (nx F k) (nx F' k)with hl|he|hl
 ·exact absurd ((h _).2 (b3 _ a1 hl)) a4
 ·exact he
 ·exact absurd ((h _).1 (a3 _ b1 hl)) b4
def gY(F:List Nm):Ty->List Nm->Nat->E×Nat
 | .zero,_,k=>(.atom [48],k)
 | .one,_,k=>(.atom [49],k)
 | .name s,_,k=>(.atom s,k)
 | .bW u,to,k=>(.atom (gk to u),k)
 | .plus a b,to,k=>(.list [.atom [43],(gY F a to k).1,(gY F b to (gY F a to k).2).1],(gY F b to (gY F a to k).2).2)
 | .times a b,to,k=>(.list [.atom [42],(gY F a to k).1,(gY F b to (gY F a to k).2).1],(gY F b to (gY F a to k).2).2)
 | .rc a,to,k=>(.list [.atom dE,.atom (tN (nx F k)),(gY F a (to++[tN (nx F k)]) (nx F k+1)).1],(gY F a (to++[tN (nx F k)]) (nx F k+1)).2)
theorem jK{F F':List Nm}(h:∀y,y∈F↔y∈F'):∀(t:Ty) (to:List Nm) (k:Nat),gY F t to k=gY F' t to k
 | .zero,_,_=>rfl
 | .one,_,_=>rfl
 | .name _,_,_=>rfl
 | .bW _,_,_=>rfl
 | .plus a b,to,k=>by simp only[gY];rw[jK h a,jK h b]
 | .times a b,to,k=>by simp only[gY];rw[jK h a,jK h b]
 | .rc a,to,k=>by simp only[gY];rw[Cs h,jK h a]
def j9:Ty->Nat->Prop
 | .bW u,i=>u<i
 | .plus a b,i=>j9 a i/\j9 b i
 | .times a b,i=>j9 a i/\j9 b i
 | .rc a,i=>j9 a (i+1)
 |_,_=>True
theorem uz{e:E}(h:Wf e):∀ar,j9 (cR e ar) ar.length:=by
 induction h with
 |
  @atom s hs =>
  intro ar
  simp only[cR]
  split
  ·trivial
  ·split
   ·trivial
   ·split
    ·rename_i u q;exact(fG _ _ (aq _) q).1
    ·trivial
 |plus ha hb i1 i2=>intro ar;rw[dN];exact⟨i1 ar,i2 ar⟩
 |times ha hb i1 i2=>intro ar;rw[du];exact⟨i1 ar,i2 ar⟩
 |
  @rc n b hn hb i =>
  intro ar;rw[fh]
  have:=i (ar++[(E.atom n).at])
  rw[an]at this
  exact this
structure Gn(F to:List Nm)(k:Nat):Prop where
 out:∀w,w∈to->w∉F
 lt:∀w,w∈to->∃j,j<k/\w=tN j
 nd:to.Nodup
theorem Gn.nil(F:List Nm)(k:Nat):Gn F [] k:=⟨fun _ h=>(by cases h),fun _ h=>(by cases h),by simp⟩
theorem Gn.mono{F to:List Nm}{k k':Nat}(h:Gn F to k)(hk:k<=k'):Gn F to k':=⟨h.out,fun w hw=>by obtain⟨j,h1,h2⟩:=h.lt w hw;exact⟨j,by omega,h2⟩,h.nd⟩
theorem Gn.push{F to:List Nm}{k:Nat}(h:Gn F to k):Gn F (to++[tN (nx F k)]) (nx F k+1):=by
 obtain⟨h1,h2,h3,h4⟩:=gB F k
 refine⟨fun w hw=>?_,fun w hw=>?_,?_⟩
 ·rcases aQ.1 hw with hw|hw
  ·exact h.out w hw
  ·simp only[aT]at hw;rw[hw];exact h4
 ·rcases aQ.1 hw with hw|hw
  ·obtain⟨j,g1,g2⟩:=h.lt w hw;exact⟨j,by omega,g2⟩
  ·simp only[aT]at hw;exact⟨_,by omega,hw⟩
 ·refine List.nodup_append.2 ⟨h.nd,by simp,fun a ha b hb e=>?_⟩
  simp only[aT]at hb
  obtain⟨j,g1,g2⟩:=h.lt a ha
  rw[e,hb]at g2
  have:=Cl g2
  omega
theorem vd{to:List Nm}(hn:to.Nodup){u:Nat}(hu:u<to.length):bQ (gk to u) to to.length=some u:=by
 have hm:gk to u∈to:=by
  unfold gk
  have:to.length-1-u<to.length:=by omega
  simp[aa,this]
 cases q:bQ (gk to u) to to.length with
 |none=>exact absurd hm ((fA _ _).1 q)
 |
  some v =>
  obtain⟨h1,h2⟩:=fG _ _ (aq _) q
  unfold gk at h2
  have e1:to.length-1-v<to.length:=by omega
  have e2:to.length-1-u<to.length:=by omega
  rw[aa,aa,bm e1,bm e2]at h2
  have hp:=List.pairwise_iff_getElem.1 hn
  have h3:to[to.length-1-v]=to[to.length-1-u]:=by simpa using h2
  rcases Nat.lt_trichotomy (to.length-1-v) (to.length-1-u)with hl|he|hl
  ·exact absurd h3 (hp _ _ e1 e2 hl)
  ·congr 1;omega
  ·exact absurd h3.symm (hp _ _ e2 e1 hl)
theorem kG(F:List Nm):∀(t:Ty) (to:List Nm) (k:Nat),Gn F to k->j9 t to.length->(∀y,bo y t=true->y∈F/\rk y) ->
 Wf (gY F t to k).1/\cR (gY F t to k).1 to=t/\k<=(gY F t to k).2/\(gY F t to k).2<=k+(F.length+1)*t.aD/\uX (·∉F) (gY F t to k).1
 | .zero,to,k,_,_,_=>⟨.atom (by simp),rfl,aq _,dc _ _,trivial⟩
 | .one,to,k,_,_,_=>⟨.atom (by simp),rfl,aq _,dc _ _,trivial⟩
 |
  .name s,to,k,g,hl,hn=>by
  obtain⟨h1,h2⟩:=hn s (by simp[bo])
  exact⟨.atom h2.1,i6 h2 (fun h=>g.out s h h1),aq _,dc _ _,trivial⟩
 |
  .bW u,to,k,g,hl,hn=>by
  have hm:gk to u∈to:=by
   unfold gk
   have:to.length-1-u<to.length:=by have:u<to.length:=hl;omega
   simp[aa,this]
  obtain⟨j,_,e⟩:=g.lt _ hm
  have hok:rk (gk to u):=by rw[e];exact zm j
  refine⟨.atom hok.1,?_,aq _,dc _ _,trivial⟩
  simp only[gY,cR]
  rw[if_neg hok.2.1,if_neg hok.2.2,vd g.nd hl]
 |
  .plus a b,to,k,g,hl,hn=>by
  obtain⟨a1,a2,a3,a4,a5⟩:=kG F a to k g hl.1 fun y hy=>hn y (by simp[bo,hy])
  obtain⟨b1,b2,b3,b4,b5⟩:=kG F b to _ (g.mono a3) hl.2 fun y hy=>hn y (by simp[bo,hy])
  simp only[gY,dN,a2,b2,oG,Ty.aD]
  refine⟨.plus a1 b1,trivial,by omega,?_,a5,b5⟩
  have:(F.length+1)*(1+a.aD+b.aD)=(F.length+1)+(F.length+1)*a.aD+(F.length+1)*b.aD:=by simp only[cT,dH]
  omega
 |
  .times a b,to,k,g,hl,hn=>by
  obtain⟨a1,a2,a3,a4,a5⟩:=kG F a to k g hl.1 fun y hy=>hn y (by simp[bo,hy])
  obtain⟨b1,b2,b3,b4,b5⟩:=kG F b to _ (g.mono a3) hl.2 fun y hy=>hn y (by simp[bo,hy])
  simp only[gY,du,a2,b2,nh,Ty.aD]
  refine⟨.times a1 b1,trivial,by omega,?_,a5,b5⟩
  have:(F.length+1)*(1+a.aD+b.aD)=(F.length+1)+(F.length+1)*a.aD+(F.length+1)*b.aD:=by simp only[cT,dH]
  omega
 |
  .rc a,to,k,g,hl,hn=>by
  obtain⟨h1,h2,h3,h4⟩:=gB F k
  obtain⟨a1,a2,a3,a4,a5⟩:=kG F a (to++[tN (nx F k)]) (nx F k+1) g.push (by rw[an];exact hl) hn
  simp only[gY,fh,dU,a2,uh,Ty.aD]
  refine⟨.rc (zm _) a1,trivial,by omega,?_,h4,a5⟩
  have:(F.length+1)*(2+a.aD)=(F.length+1)*2+(F.length+1)*a.aD:=by simp only[cT]
  omega
end Go.Proofs.Trees
namespace Go.Proofs.Trees
open Go Go.VL
mutual
def E.pr:E->Prop
 | .atom s=>s≠[]/\s.all eV=true
 | .list l=>l≠[]/\E.A9 l
def E.A9:List E->Prop
 |[]=>True
 |e::l=>e.pr/\E.A9 l
end
mutual
def E.dp:E->Nat
 | .atom _=>0
 | .list l=>1+E.vm l
def E.vm:List E->Nat
 |[]=>0
 |e::l=>max e.dp (E.vm l)
end
def Ju(r:List UInt8):Prop:=∀c t,r=c::t->eV c=false
theorem uJ:Ju []:=by intro c t h;cases h
theorem BK{s r:List UInt8}(hs:s.all eV=true)(hr:Ju r):(s++r).takeWhile eV=s/\(s++r).dropWhile eV=r:=by
 induction s with
 |
  nil =>
  cases r with
  |nil=>exact⟨rfl,rfl⟩
  |cons c t=>have:=hr c t rfl;simp[List.takeWhile,List.dropWhile,this]
 |
  cons c s ih =>
  simp only[db,az]at hs
  have:=ih hs.2
  simp[List.takeWhile,List.dropWhile,hs.1,this.1,this.2]
theorem vF(l:List E)(r:List UInt8):Ju (eg l++41::r):=by
 intro c t h
 cases l with
 |nil=>simp only[eg,aR,List.cons.injEq]at h;rw[<-h.1];decide
 |cons e l=>simp only[eg,be,List.cons.injEq]at h;rw[<-h.1];decide
theorem BL{f:List UInt8->Option (E×List UInt8)}(r:List UInt8):∀(l:List E) (e:E) (acc:List E) (n:Nat),l.length<n->(∀x,x=e\/x∈l->∀r,Ju r->f (eU x++r)=some (x,r)) ->
 sP f n (eU e++(eg l++41::r)) acc=some (.list (acc++e::l),r)
 |l,e,acc,0,hn,hf=>by omega
 |
  [],e,acc,n+1,hn,hf=>by
  simp only[sP]
  rw[hf e (.inl rfl) _ (vF [] r)]
  simp[eg]
 |
  x::l,e,acc,n+1,hn,hf=>by
  simp only[sP]
  rw[hf e (.inl rfl) _ (vF (x::l) r)]
  simp only[au]at hn
  have ih:=BL r l x (acc++[e]) n (by omega) (fun y hy=>hf y (.inr (by cases hy with|inl h=>rw[h];exact ak|inr h=>exact al _ h)))
  simp only[aW,be,aR]at ih
  simp only[eg,be,aW]
  simp[ih]
theorem Dr{l:List E}{k:Nat}:E.A9 l->E.vm l<=k->∀x,x∈l->x.pr/\x.dp<=k:=by
 induction l with
 |nil=>intro _ _ x h;cases h
 |
  cons e l ih =>
  intro h hd x hx
  simp only[E.A9,E.vm]at h hd
  cases hx with
  |head=>exact⟨h.1,by omega⟩
  |tail _ hx=>exact ih h.2 (by omega) x hx
theorem yM:∀(k:Nat) (e:E) (r:List UInt8),e.pr->e.dp<=k->Ju r->rd k (eU e++r)=some (e,r)
 |
  0,.atom s,r,hp,hd,hr=>by
  have h:=BK hp.2 hr
  simp only[eU,rd,h.1,h.2,hp.1,if_false]
 |
  k+1,.atom s,r,hp,hd,hr=>by
  have h:=BK hp.2 hr
  simp only[eU,rd,h.1,h.2,hp.1,if_false]
 |0,.list l,r,hp,hd,hr=>by simp only[E.dp]at hd;omega
 |k+1,.list [],r,hp,hd,hr=>by exact absurd rfl hp.1
 |
  k+1,.list (e::l),r,hp,hd,hr=>by
  have hs:eV 40=false:=by decide
  simp only[E.dp,E.pr]at hd hp
  have hm:=Dr (k:=k) hp.2 (by omega)
  have:=BL (f:=rd k) r l e [] ((eU e++(eg l++41::r)).length+1) (by have:=rI l;simp only[an,au];omega)
   (fun x hx r hr=>yM k x r (hm x (by cases hx with|inl h=>rw[h];exact ak|inr h=>exact al _ h)).1 (hm x (by cases hx with|inl h=>rw[h];exact ak|inr h=>exact al _ h)).2 hr)
  simp only[eU,be,aW,aR]at *
  simp only[rd,List.takeWhile,hs,if_true]
  simpa using this
theorem Bj{e e':E}(h:e.pr)(h':e'.pr)(ht:eU e=eU e'):e=e':=by
 have a:=yM (max e.dp e'.dp) e [] h (by omega) uJ
 have b:=yM (max e.dp e'.dp) e' [] h' (by omega) uJ
 rw[ht,b]at a;cases a;rfl
theorem Hd{e:E}(h:e.pr)(hd:e.dp<=300)(hl:(eU e).length<=8000):qS (eU e)=some e:=by
 have:=yM 300 e [] h hd uJ
 rw[cY]at this
 rw[qS,this];simp;omega
theorem CN(s:List UInt8):(s.takeWhile eV).all eV=true:=by
 induction s with
 |nil=>rfl
 |cons c s ih =>
  cases h:eV c
  ·simp[List.takeWhile,h]
  ·simp only[List.takeWhile,h,db,ih];rfl
theorem D7(l r:List E):E.A9 (l++r)↔E.A9 l/\E.A9 r:=by
 induction l with
 |nil=>simp[E.A9]
 |cons e l ih=>simp[E.A9,ih,and_assoc]
theorem ER(l r:List E):E.vm (l++r)=max (E.vm l) (E.vm r):=by
 induction l with
 |nil=>simp[E.vm]
 |cons e l ih=>simp[E.vm,ih,Nat.max_assoc]
theorem ye{k:Nat}{f:List UInt8->Option (E×List UInt8)}(hf:∀s e r,f s=some (e,r)->s=eU e++r/\e.pr/\e.dp<=k):∀(n:Nat) (s:List UInt8) (acc:List E) (e:E) (r:List UInt8),sP f n s acc=some (e,r)->E.A9 acc->E.vm acc<=k ->
 ∃l,e=.list (acc++l)/\l≠[]/\32::s=eg l++41::r/\E.A9 l/\E.vm l<=k
 |0,s,acc,e,r,h,hp,hd=>by cases h
 |
  n+1,s,acc,e,r,h,hp,hd=>by
  simp only[sP]at h
  split at h
  ·rename_i p c r' hs
   obtain⟨h1,h2,h3⟩:=hf _ _ _ hs
   split at h
   ·rename_i hc
    have hc:c=41:=UInt8.toNat_inj.mp hc
    cases h
    exact⟨[p],rfl,by simp,by simp[eg,h1,hc],⟨h2,trivial⟩,by simp[E.vm];omega⟩
   ·split at h
    ·rename_i hc
     have hc:c=32:=UInt8.toNat_inj.mp hc
     obtain⟨l,g1,g2,g3,g4,g5⟩:=ye hf n _ _ _ _ h ((D7 _ _).mpr ⟨hp,h2,trivial⟩) (by rw[ER];simp[E.vm];omega)
     refine⟨p::l,by simpa using g1,by simp,?_,⟨h2,g4⟩,by simp only[E.vm];omega⟩
     rw[h1,hc,g3];simp[eg]
    ·cases h
  ·cases h
theorem B8:∀(k:Nat) (s:List UInt8) (e:E) (r:List UInt8),rd k s=some (e,r)->s=eU e++r/\e.pr/\e.dp<=k
 |
  0,s,e,r,h=>by
  simp only[rd]at h
  split at h
  ·cases h
  ·rename_i hs;cases h
   exact⟨(List.takeWhile_append_dropWhile).symm,⟨hs,CN s⟩,aq _⟩
 |
  k+1,s,e,r,h=>by
  simp only[rd]at h
  split at h
  ·split at h
   ·rename_i c r' _
    split at h
    ·rename_i hc
     have hc:c=40:=UInt8.toNat_inj.mp hc
     obtain⟨l,g1,g2,g3,g4,g5⟩:=ye (k:=k) (fun s e r h=>B8 k s e r h) _ _ _ _ _ h trivial (dF _)
     simp only[aR]at g1
     subst g1;subst hc
     refine⟨?_,⟨g2,g4⟩,by simp only[E.dp];omega⟩
     cases l with
     |nil=>exact absurd rfl g2
     |
      cons x l =>
      simp only[eg,be,aW,List.cons.injEq,true_and]at g3
      rw[g3];simp[eU]
    ·cases h
   ·cases h
  ·rename_i hs;cases h
   exact⟨(List.takeWhile_append_dropWhile).symm,⟨hs,CN s⟩,by simp[E.dp]⟩
theorem y7{s:List UInt8}{e:E}(h:qS s=some e):s=eU e/\e.pr/\e.dp<=300/\s.length<=8000:=by
 unfold qS at h
 split at h
 ·cases h
 ·rename_i hl
  split at h
  ·rename_i e' hr
   cases h
   have:=B8 _ _ _ _ hr
   exact⟨by simpa using this.1,this.2.1,this.2.2,by omega⟩
  ·cases h
theorem Br{k:Nat}(h:k<10):eV (bh (48+k))=true:=by
 have:∀k:Fin 10,eV (bh (48+k.val))=true:=by decide
 exact this ⟨k,h⟩
theorem xK:∀(n k:Nat),k<n->(dd k).all eV=true
 |0,k,h=>by omega
 |
  n+1,k,h=>by
  by_cases hk:k<10
  ·rw[eF hk,db,Br hk];rfl
  ·rw[fP hk]
   have:=xK n (k/10) (by omega)
   rw[List.all_append,this,db,Br (Nat.mod_lt k (by omega:0<10))];rfl
theorem GY(k:Nat):(E.atom (xO k)).pr:=⟨by simp,by have:=xK (k+1) k (by omega);simp only[xO,db,this];decide⟩
theorem mQ:∀v:Vl,v.cG.pr
 | .u=>⟨by simp,by decide⟩
 | .el k=>GY k
 | .l v=>⟨by simp,⟨by simp,by decide⟩,mQ v,trivial⟩
 | .r v=>⟨by simp,⟨by simp,by decide⟩,mQ v,trivial⟩
 | .f v=>⟨by simp,⟨by simp,by decide⟩,mQ v,trivial⟩
 | .p a b=>⟨by simp,⟨by simp,by decide⟩,mQ a,mQ b,trivial⟩
theorem pO:∀v:Vl,v.cG.dp<v.nodes+1
 | .u=>by simp[Vl.cG,E.dp,Vl.nodes]
 | .el k=>by simp[Vl.cG,E.dp,Vl.nodes]
 | .l v=>by have:=pO v;simp only[Vl.cG,E.dp,E.vm,Vl.nodes]at *;omega
 | .r v=>by have:=pO v;simp only[Vl.cG,E.dp,E.vm,Vl.nodes]at *;omega
 | .f v=>by have:=pO v;simp only[Vl.cG,E.dp,E.vm,Vl.nodes]at *;omega
 | .p a b=>by have:=pO a;have:=pO b;simp only[Vl.cG,E.dp,E.vm,Vl.nodes]at *;omega
theorem EN(k:Nat)(h:k<100):(dd k).length<=2:=by
 by_cases hk:k<10
 ·rw[eF hk];simp
 ·rw[fP hk,eF (by omega:k/10<10)];simp
theorem lA:∀v:Vl,v.gp 100->v.cE.length<=5*v.nodes
 | .u,_=>by simp[Vl.cE,Vl.cG,eU,Vl.nodes]
 |
  .el k,h=>by
  have:=EN k h
  simp only[Vl.cE,Vl.cG,eU,Vl.nodes,au];omega
 | .l v,h=>by have:=lA v h;simp only[Vl.cE,Vl.cG,eU,eg,Vl.nodes,au,an,aG]at this |-;omega
 | .r v,h=>by have:=lA v h;simp only[Vl.cE,Vl.cG,eU,eg,Vl.nodes,au,an,aG]at this |-;omega
 | .f v,h=>by have:=lA v h;simp only[Vl.cE,Vl.cG,eU,eg,Vl.nodes,au,an,aG]at this |-;omega
 | .p a b,h=>by have:=lA a h.1;have:=lA b h.2;simp only[Vl.cE,Vl.cG,eU,eg,Vl.nodes,au,an,aG]at *;omega
theorem Jc(k:Nat):xO k≠[117]:=by simp[xO]
theorem ku:∀v:Vl,v.gp 100->fL v.cG=some v
 | .u,_=>by simp[Vl.cG,fL]
 | .el k,h=>by simp only[Vl.cG,fL,Jc,if_false,vO k h]
 | .l v,h=>by simp only[Vl.cG,fL,ku v h,E.at];simp
 | .r v,h=>by simp only[Vl.cG,fL,ku v h,E.at];simp
 | .f v,h=>by simp only[Vl.cG,fL,ku v h,E.at];simp
 | .p a b,h=>by simp only[Vl.cG,fL,ku a h.1,ku b h.2,E.at];simp
theorem qV{v:Vl}(h:v.gp 100)(hn:v.nodes<=200):rL v.cE=some v:=by
 have hd:=pO v
 have hl:=lA v h
 rw[rL,Hd (mQ v) (by omega) (by show v.cE.length<=8000;omega)]
 simp only[ku v h]
 rw[if_neg (by omega)]
theorem uH{v w:Vl}(h:v.gp 100)(h':w.gp 100)(ht:v.cE=w.cE):v=w:=by
 have:=Bj (mQ v) (mQ w) ht
 have a:=ku v h
 rw[this,ku w h']at a;cases a;rfl
theorem qR{s:List UInt8}{v:Vl}(h:rL s=some v):s=v.cE:=(y7 (l9 h).1).1
end Go.Proofs.Trees
namespace Go.Proofs.Trees
open Go Go.VL Go.RowKit
theorem bN(l:List E):(E.list l).at=[]:=rfl
def dC:Ty->Vl->Vl->Vl
 | .plus a _,.l c,v=>.l (dC a c v)
 | .plus _ b,.r c,v=>.r (dC b c v)
 | .times a _,.l (.p x y),v=>.p (dC a x v) y
 | .times _ b,.r (.p x y),v=>.p x (dC b y v)
 | .rc a,.f (.l x),v=>.f (dC a x v)
 | .rc a,.f (.r (.p x y)),v=>.f (dC a x (dC (.rc a) y v))
 |_,_,v=>v
def dJ:Ty->Vl->Bool
 | .plus a _,.l c=>dJ a c
 | .plus _ b,.r c=>dJ b c
 | .times a _,.l (.p x _)=>dJ a x
 | .times _ b,.r (.p _ y)=>dJ b y
 | .rc a,.f (.l x)=>dJ a x
 | .rc a,.f (.r (.p x y))=>dJ a x&&dJ (.rc a) y
 | .plus _ _,_=>false
 | .times _ _,_=>false
 | .rc _,_=>false
 |_,_=>true
theorem tI(c v:Vl):dC .zero c v=v:=by cases c<;>rfl
theorem vP(c v:Vl):dC .one c v=v:=by cases c<;>rfl
theorem nr(s:List UInt8)(c v:Vl):dC (.name s) c v=v:=by cases c<;>rfl
theorem sK(u:Nat)(c v:Vl):dC (.bW u) c v=v:=by cases c<;>rfl
theorem wJ{a b:Ty}{c:Vl}(h:dJ (.plus a b) c=true):(∃x,c=.l x/\dJ a x=true)\/∃x,c=.r x/\dJ b x=true:=by
 cases c<;>simp[dJ]at h<;>simp[h]
theorem s4{a b:Ty}{c:Vl}(h:dJ (.times a b) c=true):(∃x y,c=.l (.p x y)/\dJ a x=true)\/∃x y,c=.r (.p x y)/\dJ b y=true:=by
 cases c with
 |l c=>cases c<;>simp[dJ]at h<;>simp[h]
 |r c=>cases c<;>simp[dJ]at h<;>exact .inr ⟨_,_,rfl,h⟩
 |_=>simp[dJ]at h
theorem Cg{a:Ty}{c:Vl}(h:dJ (.rc a) c=true):(∃x,c=.f (.l x)/\dJ a x=true)\/∃x y,c=.f (.r (.p x y))/\dJ a x=true/\dJ (.rc a) y=true:=by
 cases c with
 |
  f c =>
  cases c with
  |l c=>simp[dJ]at h;simp[h]
  |r c=>cases c<;>simp[dJ]at h<;>exact .inr ⟨_,_,rfl,h⟩
  |_=>simp[dJ]at h
 |_=>simp[dJ]at h
theorem sq(t:Ty)(c v:Vl):(dC t c v).nodes<=c.nodes+v.nodes:=by
 induction t,c,v using dC.induct<;>simp only[dC,Vl.nodes]at*<;> omega
theorem sd(m:Nat)(t:Ty)(c v:Vl):c.gp m->v.gp m->(dC t c v).gp m:=by
 induction t,c,v using dC.induct with
 |case1 a b c v ih=>exact fun h h'=>ih h h'
 |case2 a b c v ih=>exact fun h h'=>ih h h'
 |case3 a b x y v ih=>exact fun h h'=>⟨ih h.1 h',h.2⟩
 |case4 a b x y v ih=>exact fun h h'=>⟨h.1,ih h.2 h'⟩
 |case5 a x v ih=>exact fun h h'=>ih h h'
 |case6 a x y v ih1 ih2=>exact fun h h'=>ih2 h.1 (ih1 h.2 h')
 |case7=>intro h h';simpa only[dC]using h'
def Fg:Hl:=(.u,.u)
end Go.Proofs.Trees
namespace Go.Proofs.Trees
open Go Go.VL Go.RowKit
theorem om(s:Nm)(a b:E):ap Tryz.prog 71 [.agg [.v (.string (mk [])),(E.list [.atom s,a,b]).sp]] [] (bG (.v (.string (mk s)))):=vk (.atom s) [a,b]
theorem Ds{e:E}(h:Wf e):∀(bd l:List Nm) (a:AV),cB a bd->bd.length+l.length+e.sz<100000->ap Tryz.prog 98 [.agg [.v (.string (mk e.at)),e.sp],a,.vec 0] [.vec 1 (bY l)] (dj (.vec 1) [.dead,.vec 1 (bY (kj e bd l))]):=by
 induction h with
 |
  @atom s hs =>
  intro bd l a ha hl
  simp only[E.sz]at hl
  refine Ah _ _ _ _ ((aX _).mpr trivial) ha.1 ?_
  have hll:(bY l).length=l.length:=by simp[bY]
  simp only[xq,dU,↓zq,zs,ac,zt,dj,kj]
  refine⟨fun _=>⟨fun h=>?_,fun h=>⟨fun h1=>?_,fun h1=>?_⟩⟩,fun h=>absurd h hs⟩
  ·rw[if_pos (.inl h)]
  ·rw[if_pos (.inr (.inl h1))]
  ·refine ai (xU bd a ha s (by omega)) ?_
   simp only[↓zq,zs,ac]
   refine⟨fun h2=>?_,fun h2=>ai (xU l _ (.of l) s (by omega)) ?_⟩
   ·rw[if_pos (.inr (.inr (.inl h2)))]
   ·simp only[↓zq,zs,ac]
    refine⟨fun h3=>?_,fun h3=>⟨⟨fun c hc=>(by simp at hc;rw[hc];rfl),by omega⟩,?_⟩⟩
    ·rw[if_pos (.inr (.inr (.inr h3)))]
    ·rw[Hw,if_neg]
     rintro(q|q|q|q)
     ·exact h q
     ·exact h1 q
     ·exact h2 q
     ·exact h3 q
 |
  @plus x y hx hy i1 i2 =>
  intro bd l a ha hl
  simp only[E.sz,E.jp]at hl
  have hfl:=gd x bd l
  refine Ah _ _ _ _ ((aX _).mpr trivial) ha.1 ?_
  have hP:=P3.of (.atom [43]) x y
  simp only[xq,bN,toNat_one,bg,↓zq,zs,ac,zt,hP.1,hP.2.1,hP.2.2.1,hP.2.2.2,aK,dj]
  refine⟨fun h=>absurd rfl h,fun _=>?_⟩
  refine ai (om [43] x y) ?_
  simp only[↓zq,zs,ac,zt]
  refine⟨fun h=>by simp at h,fun _=>?_⟩
  repeat refine⟨by omega,?_⟩
  refine ba (i1 bd l a ha (by omega)) ?_
  simp only[↓zq,zs,ac,zt,bf,bO,Ob.es]
  repeat refine⟨by omega,?_⟩
  refine ba (i2 bd (kj x bd l) a ha (by omega)) ?_
  simp only[↓zq,zs,ac,zt,bf,bO,Ob.es]
  rw[kj,if_neg (by decide)]
 |
  @times x y hx hy i1 i2 =>
  intro bd l a ha hl
  simp only[E.sz,E.jp]at hl
  have hfl:=gd x bd l
  refine Ah _ _ _ _ ((aX _).mpr trivial) ha.1 ?_
  have hP:=P3.of (.atom [42]) x y
  simp only[xq,bN,toNat_one,bg,↓zq,zs,ac,zt,hP.1,hP.2.1,hP.2.2.1,hP.2.2.2,aK,dj]
  refine⟨fun h=>absurd rfl h,fun _=>?_⟩
  refine ai (om [42] x y) ?_
  simp only[↓zq,zs,ac,zt]
  refine⟨fun h=>by simp at h,fun _=>?_⟩
  repeat refine⟨by omega,?_⟩
  refine ba (i1 bd l a ha (by omega)) ?_
  simp only[↓zq,zs,ac,zt,bf,bO,Ob.es]
  repeat refine⟨by omega,?_⟩
  refine ba (i2 bd (kj x bd l) a ha (by omega)) ?_
  simp only[↓zq,zs,ac,zt,bf,bO,Ob.es]
  rw[kj,if_neg (by decide)]
 |
  @rc n y hn hy i =>
  intro bd l a ha hl
  simp only[E.sz,E.jp]at hl
  refine Ah _ _ _ _ ((aX _).mpr trivial) ha.1 ?_
  have hP:=P3.of (.atom dE) (.atom n) y
  simp only[xq,bN,toNat_one,bg,↓zq,zs,ac,zt,hP.1,hP.2.1,hP.2.2.1,hP.2.2.2,aK,dj]
  refine⟨fun h=>absurd rfl h,fun _=>?_⟩
  refine ai (om dE (.atom n) y) ?_
  simp only[↓zq,zs,ac,zt]
  refine⟨fun _=>?_,fun h=>absurd rfl h⟩
  repeat refine⟨by omega,?_⟩
  refine ai (zV bd a ha n (by omega)) ?_
  simp only[↓zq,zs,ac]
  refine ba (i (bd++[n]) l _ (.of _) (by simp;omega)) ?_
  simp only[↓zq,zs,ac,bf,bO,Ob.es]
  rw[kj,if_pos (dU _)];rfl
theorem S6(x:Nm)(u:E){e:E}(h:Wf e):ap Tryz.prog 161 [.agg [.v (.string (mk e.at)),e.sp],.v (.string (mk x)),.agg [.v (.string (mk u.at)),u.sp]] [] (bG (.agg [.v (.string (mk (rU x u e).at)),(rU x u e).sp])):=by
 induction h with
 |
  @atom s hs =>
  refine Dt _ _ _ _ _ ((aX _).mpr trivial) ((aX _).mpr trivial) ?_
  simp only[Bv,dU,↓zq,zs,ac,zt,bG,rU]
  refine⟨fun _=>⟨fun h=>?_,fun h=>?_⟩,fun h=>absurd h hs⟩
  ·rw[if_pos h]
  ·rw[if_neg h];rfl
 |
  @plus a b ha hb i1 i2 =>
  refine Dt _ _ _ _ _ ((aX _).mpr trivial) ((aX _).mpr trivial) ?_
  have hP:=P3.of (.atom [43]) a b
  simp only[Bv,bN,toNat_one,bg,↓zq,zs,ac,zt,hP.1,hP.2.1,hP.2.2.1,hP.2.2.2,aK]
  refine⟨fun h=>absurd rfl h,fun _=>?_⟩
  refine ai (om [43] a b) ?_
  simp only[↓zq,zs,ac,zt]
  refine⟨fun h=>by simp at h,fun _=>?_⟩
  refine ai (om [43] a b) ?_
  simp only[↓zq,zs,ac,zt]
  repeat refine⟨by omega,?_⟩
  refine ai i1 ?_
  simp only[↓zq,zs,ac,zt,aK]
  repeat refine⟨by omega,?_⟩
  refine ai i2 ?_
  simp only[↓zq,zs,ac,zt,aK]
  repeat refine⟨by omega,?_⟩
  refine ai (w6 _ _ _) ?_
  simp only[↓zq,zs,ac,zt,aK,wN,bN]
  repeat refine⟨by omega,?_⟩
  exact⟨rfl,rfl⟩
 |
  @times a b ha hb i1 i2 =>
  refine Dt _ _ _ _ _ ((aX _).mpr trivial) ((aX _).mpr trivial) ?_
  have hP:=P3.of (.atom [42]) a b
  simp only[Bv,bN,toNat_one,bg,↓zq,zs,ac,zt,hP.1,hP.2.1,hP.2.2.1,hP.2.2.2,aK]
  refine⟨fun h=>absurd rfl h,fun _=>?_⟩
  refine ai (om [42] a b) ?_
  simp only[↓zq,zs,ac,zt]
  refine⟨fun h=>by simp at h,fun _=>?_⟩
  refine ai (om [42] a b) ?_
  simp only[↓zq,zs,ac,zt]
  repeat refine⟨by omega,?_⟩
  refine ai i1 ?_
  simp only[↓zq,zs,ac,zt,aK]
  repeat refine⟨by omega,?_⟩
  refine ai i2 ?_
  simp only[↓zq,zs,ac,zt,aK]
  repeat refine⟨by omega,?_⟩
  refine ai (w6 _ _ _) ?_
  simp only[↓zq,zs,ac,zt,aK,tq,bN]
  repeat refine⟨by omega,?_⟩
  exact⟨rfl,rfl⟩
 |
  @rc n b hn hb i =>
  refine Dt _ _ _ _ _ ((aX _).mpr trivial) ((aX _).mpr trivial) ?_
  have hP:=P3.of (.atom dE) (.atom n) b
  simp only[Bv,bN,toNat_one,bg,↓zq,zs,ac,zt,hP.1,hP.2.1,hP.2.2.1,hP.2.2.2,aK]
  refine⟨fun h=>absurd rfl h,fun _=>?_⟩
  refine ai (om dE (.atom n) b) ?_
  simp only[↓zq,zs,ac,zt]
  refine⟨fun _=>?_,fun h=>absurd rfl h⟩
  repeat refine⟨by omega,?_⟩
  rw[CF]
  refine⟨fun h=>?_,fun h=>?_⟩
  ·have hh:n=x:=h
   rw[if_pos hh];exact⟨rfl,rfl⟩
  ·have hh:¬n=x:=h
   rw[if_neg hh]
   repeat refine⟨by omega,?_⟩
   refine ai i ?_
   simp only[↓zq,zs,ac,zt,aK]
   repeat refine⟨by omega,?_⟩
   refine ai (w6 dE (.atom n) (rU x u b)) ?_
   simp only[↓zq,zs,ac,zt,aK,bN]
   repeat refine⟨by omega,?_⟩
   exact⟨rfl,rfl⟩
theorem sC(x:Nm){e:E}(h:Wf e):ns x e<=e.df:=by
 induction h with
 |atom hs=>simp only[ns,E.df];split<;>omega
 |plus ha hb i1 i2=>rw[rC];simp only[E.df,E.eT];omega
 |times ha hb i1 i2=>rw[pU];simp only[E.df,E.eT];omega
 |rc hn hb i=>rw[xn];simp only[E.df,E.eT];split<;>omega
theorem Qn(x:Nm){e:E}(h:Wf e):e.df<1000000->ap Tryz.prog 160 [.agg [.v (.string (mk e.at)),e.sp],.v (.string (mk x))] [] (bG (.v (.int .i64 (ns x e:Int)))):=by
 induction h with
 |
  @atom s hs =>
  intro hl
  refine DP _ _ _ ((aX _).mpr trivial) ?_
  simp only[Ce,dU,↓zq,zs,ac,zt,bG,ns]
  refine⟨fun _=>⟨fun h=>?_,fun h=>?_⟩,fun h=>absurd h hs⟩
  ·rw[if_pos h];rfl
  ·rw[if_neg h];rfl
 |
  @plus a b ha hb i1 i2 =>
  intro hl
  simp only[E.df,E.eT]at hl
  have u1:=sC x ha
  have u2:=sC x hb
  refine DP _ _ _ ((aX _).mpr trivial) ?_
  have hP:=P3.of (.atom [43]) a b
  simp only[Ce,bN,toNat_one,bg,↓zq,zs,ac,zt,hP.1,hP.2.1,hP.2.2.1,hP.2.2.2,aK]
  refine⟨fun h=>absurd rfl h,fun _=>?_⟩
  refine ai (om [43] a b) ?_
  simp only[↓zq,zs,ac,zt]
  refine⟨fun h=>by simp at h,fun _=>?_⟩
  repeat refine⟨by omega,?_⟩
  refine ai (i1 (by omega)) ?_
  simp only[↓zq,zs,ac,zt]
  repeat refine⟨by omega,?_⟩
  refine ai (i2 (by omega)) ?_
  simp only[↓zq,zs,ac,zt]
  rw[rC,wrap64 _ (by omega) (by omega)]
  exact⟨by simp,rfl⟩
 |
  @times a b ha hb i1 i2 =>
  intro hl
  simp only[E.df,E.eT]at hl
  have u1:=sC x ha
  have u2:=sC x hb
  refine DP _ _ _ ((aX _).mpr trivial) ?_
  have hP:=P3.of (.atom [42]) a b
  simp only[Ce,bN,toNat_one,bg,↓zq,zs,ac,zt,hP.1,hP.2.1,hP.2.2.1,hP.2.2.2,aK]
  refine⟨fun h=>absurd rfl h,fun _=>?_⟩
  refine ai (om [42] a b) ?_
  simp only[↓zq,zs,ac,zt]
  refine⟨fun h=>by simp at h,fun _=>?_⟩
  repeat refine⟨by omega,?_⟩
  refine ai (i1 (by omega)) ?_
  simp only[↓zq,zs,ac,zt]
  repeat refine⟨by omega,?_⟩
  refine ai (i2 (by omega)) ?_
  simp only[↓zq,zs,ac,zt]
  rw[pU,wrap64 _ (by omega) (by omega)]
  exact⟨by simp,rfl⟩
 |
  @rc n b hn hb i =>
  intro hl
  simp only[E.df,E.eT]at hl
  refine DP _ _ _ ((aX _).mpr trivial) ?_
  have hP:=P3.of (.atom dE) (.atom n) b
  simp only[Ce,bN,toNat_one,bg,↓zq,zs,ac,zt,hP.1,hP.2.1,hP.2.2.1,hP.2.2.2,aK]
  refine⟨fun h=>absurd rfl h,fun _=>?_⟩
  refine ai (om dE (.atom n) b) ?_
  simp only[↓zq,zs,ac,zt]
  refine⟨fun _=>?_,fun h=>absurd rfl h⟩
  repeat refine⟨by omega,?_⟩
  rw[xn]
  refine⟨fun h=>?_,fun h=>?_⟩
  ·have hh:n=x:=h
   rw[if_pos hh];exact⟨rfl,rfl⟩
  ·have hh:¬n=x:=h
   rw[if_neg hh]
   repeat refine⟨by omega,?_⟩
   refine ai (i (by omega)) ?_
   simp only[↓zq,zs,ac,zt]
   exact⟨rfl,rfl⟩
theorem NK{x:Nm}(hx:rk x){e u:E}(h:Wf e)(hu:Wf u)(hl:e.df<=1000)(hlu:u.df<=1000):ap Tryz.prog 142 [.agg [.v (.string (mk e.at)),e.sp],.v (.string (mk x)),.agg [.v (.string (mk u.at)),u.sp]] [] (bG (.v (.bool (decide ((sub x (cR u []) (cR e [])).aD<=400))))):=by
 refine Rq _ _ _ _ _ ((aX _).mpr trivial) ((aX _).mpr trivial) ?_
 unfold JY
 have a1:=Ey e h.ok (by have:=h.sz;omega)
 have a2:=Ey u hu.ok (by have:=hu.sz;omega)
 rw[cX]at a1 a2
 have hle:=sC x h
 have hpos:1<=u.df:=by rw[hu.df []];exact eh _
 refine ai a1 ?_
 simp only[↓zq,zs,ac,zt]
 refine ai (Qn x h (by omega)) ?_
 simp only[↓zq,zs,ac,zt]
 refine ai a2 ?_
 simp only[↓zq,zs,ac,zt]
 have e1:=dX x (cR u []) (cR e [])
 have e2:=DL hx h []
 rw[if_neg (by simp)]at e2
 rw[e2,<-h.df [],<-hu.df []]at e1
 have hm:ns x e*(u.df-1)<=1000*1000:=Nat.mul_le_mul (by omega) (by omega)
 have e3:(ns x e:Int)*((u.df:Int)-1)=((ns x e*(u.df-1):Nat):Int):=by
  rw[Int.natCast_mul];congr 1;omega
 have e4:ns x e*(u.df-1)+ns x e=ns x e*u.df:=by
  rw[Nat.mul_sub,dH]
  have:=Nat.le_mul_of_pos_right (ns x e) hpos
  omega
 rw[wrap64 ((u.df:Int)-1) (by omega) (by omega),e3,wrap64 ((ns x e*(u.df-1):Nat):Int) (by omega) (by omega),wrap64 _ (by omega) (by omega)]
 refine⟨?_,rfl⟩
 congr 2
 rw[cx,decide_eq_true_eq,decide_eq_true_eq]
 omega
end Go.Proofs.Trees
namespace Go.Proofs.Trees
open Go Go.VL Go.RowKit
abbrev zH:AV:=.v (.slice none 0 0)
abbrev zE:Ob:=.cells [.v (.string (mk [])),zH]
theorem J8(s:Nm)(p a b:AV)(hp:LK.sl.has p)(F fr to:List Nm)(k:Int)(ha:cB a fr)(hb:cB b to)(hft:fr.length=to.length)(hl:fr.length<1000000):∀(i:Nat),i<=fr.length ->
 IK [a,b,.v (.int .i64 ((i:Int)-1))] [.cells [.v (.string (mk s)),p],zE,.cells [.any,.v (.int .i64 k)],.vec 1 (bY F)]
  (nL (match bQ s fr i with|some u=>(2,[],[.cells [.v (.string (mk (gk to u))),zH],.cells [.any,.v (.int .i64 k)],.vec 1 (bY F)])|none=>(1,[],[.cells [.v (.string (mk s)),p],zE,.cells [.any,.v (.int .i64 k)],.vec 1 (bY F)])))
 |
  0,hi=>by
  refine Nz _ _ _ _ _ _ _ _ _ ?_
  simp only[Ja,↓zq,zs,ac,ac,hp,bc]
  exact⟨ha.1,hb.1,fun h=>by omega,fun _=>rfl⟩
 |
  i+1,hi=>by
  have hlt:i<fr.length:=by omega
  have hlt':i<to.length:=by omega
  have e1:((i+1:Nat):Int)-1=(i:Int):=by omega
  rw[e1]
  refine Nz _ _ _ _ _ _ _ _ _ ?_
  simp only[Ja,↓zq,zs,ac,zt,ac,hp,bc,ha.len,hb.len,ha.idx hlt,hb.idx hlt',bx]
  refine⟨ha.1,hb.1,fun _=>⟨⟨ha.1,by omega,by omega⟩,by omega,fun h=>?_,fun h=>?_⟩,fun h=>by omega⟩
  ·refine⟨⟨hb.1,by omega,by omega⟩,by omega,?_⟩
   have hh:fr.getD i []=s:=h
   simp only[bQ,hh,if_true,nL]
   have:gk to (fr.length-1-i)=to.getD i []:=by unfold gk;congr 1;omega
   rw[this]
  ·have hh:¬fr.getD i []=s:=h
   simp only[bQ,hh,if_false]
   rw[wrap64 _ (by omega) (by omega)]
   exact J8 s p a b hp F fr to k ha hb hft hl i (by omega)
theorem Ol(a b:AV)(ha:LK.sl.has a)(hb:LK.sl.has b)(F:List Nm)(hF:F.length<100000)(t:ByteArray)(p:AV)(hp:LK.sl.has p):∀(n j:Nat),qi F n j<j+n->j+n<100000000 ->
 IB [a,b,.v (.string (mk (tN j)))] [.cells [.any,.v (.int .i64 (j:Int))],.vec 1 (bY F),.cells [.v (.string t),p],zE] (gj 1 [a,b,.v (.string (mk (tN (qi F n j))))] [.cells [.any,.v (.int .i64 (qi F n j:Int))],.vec 1 (bY F),.cells [.v (.string t),p],zE])
 |0,j,h,_=>by simp only[qi]at h;omega
 |
  n+1,j,h,hj=>by
  refine QV _ _ _ _ _ _ _ _ _ ?_
  simp only[Kv,↓zq,zs,ac,zt,ac,hp,bc]
  refine⟨ha,hb,?_⟩
  refine ai (xU F _ (.of F) (tN j) (by omega)) ?_
  simp only[↓zq,zs,ac,zt]
  rw[qi]at h |-
  refine⟨fun hm=>?_,fun hm=>?_⟩
  ·rw[if_pos hm]at h |-
   rw[bp j (by omega)]
   refine ai (zU (j+2) (j+1) (by omega) (by omega)) ?_
   have hd:=mT (j+2) (j+1) (by omega)
   simp only[↓zq,zs,ac,zt,be,aR]
   refine⟨by simp[cJ];omega,?_⟩
   exact Ol a b ha hb F hF t p hp n (j+1) (by omega) (by omega)
  ·rw[if_neg hm]
   exact⟨rfl,rfl,rfl⟩
theorem iB(F:List Nm):∀(t:Ty) (to:List Nm) (k:Nat),k<=(gY F t to k).2/\(gY F t to k).2<=k+(F.length+1)*t.aD
 | .zero,_,k=>⟨aq _,dc _ _⟩
 | .one,_,k=>⟨aq _,dc _ _⟩
 | .name _,_,k=>⟨aq _,dc _ _⟩
 | .bW _,_,k=>⟨aq _,dc _ _⟩
 |
  .plus a b,to,k=>by
  have h1:=iB F a to k
  have h2:=iB F b to (gY F a to k).2
  simp only[gY,Ty.aD]
  have:(F.length+1)*(1+a.aD+b.aD)=(F.length+1)+(F.length+1)*a.aD+(F.length+1)*b.aD:=by simp only[cT,dH]
  omega
 |
  .times a b,to,k=>by
  have h1:=iB F a to k
  have h2:=iB F b to (gY F a to k).2
  simp only[gY,Ty.aD]
  have:(F.length+1)*(1+a.aD+b.aD)=(F.length+1)+(F.length+1)*a.aD+(F.length+1)*b.aD:=by simp only[cT,dH]
  omega
 |
  .rc a,to,k=>by
  obtain⟨g1,g2,_,_⟩:=gB F k
  have h1:=iB F a (to++[tN (nx F k)]) (nx F k+1)
  simp only[gY,Ty.aD]
  have:(F.length+1)*(2+a.aD)=(F.length+1)*2+(F.length+1)*a.aD:=by simp only[cT]
  omega
theorem ki(l:List Nm):(bY l).length=l.length:=by simp[bY]
theorem Q2(F:List Nm)(hF:F.length<10000){e:E}(h:Wf e):∀(fr to:List Nm) (a b:AV) (k:Nat),cB a fr->cB b to->fr.length=to.length->(∀w,w∈fr->rk w)->fr.length+e.sz<10000->k+(F.length+1)*(cR e fr).aD<99000000 ->
 ap Tryz.prog 112 [.agg [.v (.string (mk e.at)),e.sp],a,b,.ref 0 0] [.cells [.vec 1,.v (.int .i64 (k:Int))],.vec 1 (bY F)] (dj (.agg [.v (.string (mk (gY F (cR e fr) to k).1.at)),(gY F (cR e fr) to k).1.sp]) [.cells [.vec 1,.v (.int .i64 ((gY F (cR e fr) to k).2:Int))],.vec 1 (bY F)]):=by
 induction h with
 |
  @atom s hs =>
  intro fr to a b k ha hb hft hfr hl hk
  simp only[E.sz]at hl
  refine Et _ _ _ _ _ _ ((aX _).mpr trivial) ha.1 hb.1 ?_
  have hz:∀c,(c=[48]\/c=[49])->bQ c fr fr.length=none:=fun c hc=>(fA c fr).2 fun hm=>by
   obtain⟨h1,h2,h3⟩:=hfr c hm
   rcases hc with rfl|rfl
   ·exact h2 rfl
   ·exact h3 rfl
  have hq:gY F (cR (.atom s) fr) to k=(match bQ s fr fr.length with|some u=>.atom (gk to u)|none=>.atom s,k):=by
   simp only[cR]
   by_cases h0:s=[48]
   ·rw[if_pos h0,hz s (.inl h0),h0];rfl
   ·rw[if_neg h0]
    by_cases h1:s=[49]
    ·rw[if_pos h1,hz s (.inr h1),h1];rfl
    ·rw[if_neg h1]
     cases bQ s fr fr.length<;>rfl
  simp only[C7,dU,↓zq,zs,ac,zt]
  refine⟨fun _=>⟨ha.1,?_⟩,fun h=>absurd h hs⟩
  rw[ha.len,wrap64 _ (by omega) (by omega)]
  refine fg (J8 s _ a b ((aX _).mpr trivial) F fr to (k:Int) ha hb hft (by omega) fr.length (aq _)) (fun ys o e=>?_) (fun ys o e=>?_)
  ·rw[hq]
   cases q:bQ s fr fr.length<;>rw[q]at e<;>cases e
   simp only[↓zq,zs,ac,zt,ac,aM,bc,aX]
   exact⟨rfl,rfl⟩
  ·rw[hq]
   cases q:bQ s fr fr.length<;>rw[q]at e<;>cases e
   simp only[↓zq,zs,ac,zt,ac,aM,bc]
   exact⟨rfl,rfl⟩
 |
  @plus x y hx hy i1 i2 =>
  intro fr to a b k ha hb hft hfr hl hk
  simp only[E.sz,E.jp]at hl
  rw[dN]at hk |-
  simp only[Ty.aD]at hk
  have hm:(F.length+1)*(1+(cR x fr).aD+(cR y fr).aD)=(F.length+1)+(F.length+1)*(cR x fr).aD+(F.length+1)*(cR y fr).aD:=by simp only[cT,dH]
  have hc:=iB F (cR x fr) to k
  refine Et _ _ _ _ _ _ ((aX _).mpr trivial) ha.1 hb.1 ?_
  have hP:=P3.of (.atom [43]) x y
  simp only[C7,bN,toNat_one,bg,↓zq,zs,ac,zt,hP.1,hP.2.1,hP.2.2.1,hP.2.2.2,aK]
  refine⟨fun h=>absurd rfl h,fun _=>?_⟩
  refine ai (om [43] x y) ?_
  simp only[↓zq,zs,ac,zt]
  refine⟨fun h=>by simp at h,fun _=>?_⟩
  repeat refine⟨by omega,?_⟩
  refine ba (i1 fr to a b k ha hb hft hfr (by omega) (by omega)) ?_
  simp only[↓zq,zs,ac,zt,aM,aK,bf,bO,Ob.es]
  repeat refine⟨by omega,?_⟩
  refine ai (om [43] x y) ?_
  simp only[↓zq,zs,ac,zt]
  repeat refine⟨by omega,?_⟩
  refine ba (i2 fr to a b _ ha hb hft hfr (by omega) (by omega)) ?_
  simp only[↓zq,zs,ac,zt,aM,aK,bf,bO,Ob.es]
  repeat refine⟨by omega,?_⟩
  refine ai (w6 _ _ _) ?_
  simp only[↓zq,zs,ac,zt,aK,bN]
  repeat refine⟨by omega,?_⟩
  exact⟨rfl,rfl⟩
 |
  @times x y hx hy i1 i2 =>
  intro fr to a b k ha hb hft hfr hl hk
  simp only[E.sz,E.jp]at hl
  rw[du]at hk |-
  simp only[Ty.aD]at hk
  have hm:(F.length+1)*(1+(cR x fr).aD+(cR y fr).aD)=(F.length+1)+(F.length+1)*(cR x fr).aD+(F.length+1)*(cR y fr).aD:=by simp only[cT,dH]
  have hc:=iB F (cR x fr) to k
  refine Et _ _ _ _ _ _ ((aX _).mpr trivial) ha.1 hb.1 ?_
  have hP:=P3.of (.atom [42]) x y
  simp only[C7,bN,toNat_one,bg,↓zq,zs,ac,zt,hP.1,hP.2.1,hP.2.2.1,hP.2.2.2,aK]
  refine⟨fun h=>absurd rfl h,fun _=>?_⟩
  refine ai (om [42] x y) ?_
  simp only[↓zq,zs,ac,zt]
  refine⟨fun h=>by simp at h,fun _=>?_⟩
  repeat refine⟨by omega,?_⟩
  refine ba (i1 fr to a b k ha hb hft hfr (by omega) (by omega)) ?_
  simp only[↓zq,zs,ac,zt,aM,aK,bf,bO,Ob.es]
  repeat refine⟨by omega,?_⟩
  refine ai (om [42] x y) ?_
  simp only[↓zq,zs,ac,zt]
  repeat refine⟨by omega,?_⟩
  refine ba (i2 fr to a b _ ha hb hft hfr (by omega) (by omega)) ?_
  simp only[↓zq,zs,ac,zt,aM,aK,bf,bO,Ob.es]
  repeat refine⟨by omega,?_⟩
  refine ai (w6 _ _ _) ?_
  simp only[↓zq,zs,ac,zt,aK,bN]
  repeat refine⟨by omega,?_⟩
  exact⟨rfl,rfl⟩
 |
  @rc n y hn hy i =>
  intro fr to a b k ha hb hft hfr hl hk
  simp only[E.sz,E.jp]at hl
  rw[fh]at hk |-
  simp only[Ty.aD,dU]at hk
  have hm:(F.length+1)*(2+(cR y (fr++[n])).aD)=(F.length+1)*2+(F.length+1)*(cR y (fr++[n])).aD:=by simp only[cT]
  have hc:=iB F (cR y (fr++[n])) (to++[tN (nx F k)]) (nx F k+1)
  obtain⟨g1,g2,_,_⟩:=gB F k
  refine Et _ _ _ _ _ _ ((aX _).mpr trivial) ha.1 hb.1 ?_
  have hP:=P3.of (.atom dE) (.atom n) y
  simp only[C7,bN,toNat_one,bg,↓zq,zs,ac,zt,hP.1,hP.2.1,hP.2.2.1,hP.2.2.2,aK]
  refine⟨fun h=>absurd rfl h,fun _=>?_⟩
  refine ai (om dE (.atom n) y) ?_
  simp only[↓zq,zs,ac,zt]
  refine⟨fun _=>?_,fun h=>absurd rfl h⟩
  refine ai (zU (k+1) k (by omega) (by omega)) ?_
  have hd:=mT (k+1) k (by omega)
  simp only[↓zq,zs,ac,zt,be,aR]
  refine⟨by simp[cJ];omega,?_⟩
  refine co (Ol a b ha.1 hb.1 F (by omega) (mk []) _ ((aX _).mpr trivial) (F.length+1) k (by show nx F k<_;omega) (by omega)) ?_
  simp only[↓zq,zs,ac,zt,ac,aM,bc,aX,ha.1,hb.1,hP.1,hP.2.1,hP.2.2.1,hP.2.2.2,toNat_one,bg,aK]
  repeat refine⟨by omega,?_⟩
  have hnx:qi F (F.length+1) k=nx F k:=rfl
  rw[hnx]
  refine ai (zV fr a ha n (by omega)) ?_
  simp only[↓zq,zs,ac,zt]
  refine ai (zV to b hb (tN (nx F k)) (by omega)) ?_
  simp only[↓zq,zs,ac,zt]
  rw[bp (nx F k) (by omega)]
  have hmk:=w6 dE (.atom (tN (nx F k))) (gY F (cR y (fr++[n])) (to++[tN (nx F k)]) (nx F k+1)).1
  simp only[dU]at hmk
  refine ba (i (fr++[n]) (to++[tN (nx F k)]) _ _ (nx F k+1) (.of _) (.of _) (by simp[hft]) (fun w hw=>by
   rcases aQ.1 hw with hw|hw
   ·exact hfr w hw
   ·simp only[aT]at hw;rw[hw];exact hn) (by simp;omega) (by omega)) ?_
  simp only[↓zq,zs,ac,zt,aM,aK,bf,bO,Ob.es]
  repeat refine⟨by omega,?_⟩
  refine ai hmk ?_
  simp only[↓zq,zs,ac,zt,aK,bN]
  repeat refine⟨by omega,?_⟩
  exact⟨rfl,rfl⟩
theorem xL(l r:List Nm):bY (l++r)=bY l++bY r:=by simp[bY]
def si(os:List E):List Nm:=os.flatMap fun o=>kj o [] []
theorem vJ{os:List E}{i:Nat}(h:i<os.length):(E.bw os).getD i []=[.v (.string (mk (os[i]).at)),(os[i]).sp]:=by
 have:∀(os:List E) (i:Nat) (h:i<os.length),(E.bw os).getD i []=(os[i]).iq:=by
  intro os
  induction os with
  |nil=>intro i h;simp at h
  |
   cons o os ih =>
   intro i h
   cases i with
   |zero=>simp[E.bw]
   |succ i=>simpa[E.bw]using ih i (by simpa using h)
 rw[this os i h,fE]
theorem AM(os:List E){i:Nat}(h:i<os.length):si (os.drop i)=kj (os[i]) [] []++si (os.drop (i+1)):=by
 unfold si;rw[aP h,cQ]
theorem K5(a:AV)(os:List E)(ha:LK.sl.has a/\a.aJ=E.bw os)(ho:∀o,o∈os->Wf o/\o.sz<5000)(hl:os.length<100)(t:ByteArray)(p:AV)(hp:LK.sl.has p):∀(k i:Nat) (F:List Nm),i+k=os.length->F.length<=5000+5000*i ->
 Iy [a,.v (.int .i64 (i:Int))] [.cells [.v (.string t),p],zE,.vec 1 (bY F)] (gj 1 [] [.cells [.v (.string t),p],zE,.vec 1 (bY (F++si (os.drop i)))])
 |
  0,i,F,hi,hF=>by
  refine Pq _ _ _ _ _ _ _ ?_
  have:i=os.length:=by omega
  subst this
  simp only[Gi,↓zq,zs,ac,zt,ac,hp,bc,ha.1,ha.2,dY,List.drop_length]
  exact⟨fun h=>by omega,fun _=>by simp[gj,si]⟩
 |
  k+1,i,F,hi,hF=>by
  have hlt:i<os.length:=by omega
  obtain⟨hw,hsz⟩:=ho _ (bB hlt)
  have hfl:=gd (os[i]) [] []
  refine Pq _ _ _ _ _ _ _ ?_
  simp only[Gi,↓zq,zs,ac,zt,ac,hp,bc,ha.1,ha.2,dY,vJ hlt,aK,bx]
  refine⟨fun _=>?_,fun h=>by omega⟩
  repeat refine⟨by omega,?_⟩
  have hfre:=Ds hw [] [] (.sl []) (.of []) (by simp;omega)
  refine ba hfre ?_
  simp only[↓zq,zs,ac,zt,bf,bO,Ob.es,ki,<-xL]
  rw[bp i (by omega),AM os hlt,<-aW]
  simp only[aG,aY]at hfl
  refine⟨⟨kl _,by omega⟩,?_⟩
  exact K5 a os ha ho hl t p hp k (i+1) _ (by omega) (by simp;omega)
def A1(e:E)(os:List E):List Nm:=kj e [] []++si os
def zP(e:E)(os:List E):E:=(gY (A1 e os) (cR e []) [] 0).1
theorem ES{e:E}{os:List E}(h:e.sz<=2000)(ho:∀o,o∈os->Wf o/\o.sz<=2000)(hl:os.length<=2):(A1 e os).length<=6000:=by
 have h1:=gd e [] []
 have h2:∀(l:List E),(∀o,o∈l->o.sz<=2000)->(si l).length<=2000*l.length:=by
  intro l
  induction l with
  |nil=>intro _;simp[si]
  |
   cons o l ih =>
   intro hl
   have:=ih fun q hq=>hl q (al _ hq)
   have:=hl o ak
   have:=gd o [] []
   simp only[si,cQ,an,au,aG]at *
   omega
 have:=h2 os fun o ho'=>(ho o ho').2
 simp only[A1,an,aG]at *
 omega
theorem DQ{e:E}(h:Wf e)(a:AV)(os:List E)(ha:LK.sl.has a/\a.aJ=E.bw os)(he:e.sz<=2000)(ho:∀o,o∈os->Wf o/\o.sz<=2000)(hl:os.length<=2) :
 ap Tryz.prog 83 [.agg [.v (.string (mk e.at)),e.sp],a] [] (bG (.agg [.v (.string (mk (zP e os).at)),(zP e os).sp])):=by
 refine Rg _ _ _ ((aX _).mpr trivial) ha.1 ?_
 unfold NW
 have hfl:=gd e [] []
 simp only[aG,aY]at hfl
 have hap:=ES he ho hl
 have hats:(cR e []).aD<=2000:=by
  rw[<-h.df []]
  have:e.df<=e.sz:=by
   clear hap hfl ha he ho hl
   induction h with
   |atom _=>simp[E.df,E.sz]
   |plus _ _ i1 i2=>simp only[E.df,E.eT,E.sz,E.jp];omega
   |times _ _ i1 i2=>simp only[E.df,E.eT,E.sz,E.jp];omega
   |rc _ _ i=>simp only[E.df,E.eT,E.sz,E.jp];omega
  omega
 have hfre:=Ds h [] [] (.sl []) (.of []) (by simp;omega)
 simp only[↓zq,zs,ac,zt]
 refine ba hfre ?_
 simp only[↓zq,zs,ac,zt,bf,bO,Ob.es]
 have hlp:=K5 a os ha (fun o hq=>⟨(ho o hq).1,by have:=(ho o hq).2;omega⟩) (by omega) (mk e.at) e.sp ((aX _).mpr trivial) os.length 0 (kj e [] []) (by omega) (by omega)
 rw[aZ]at hlp
 refine co hlp ?_
 simp only[↓zq,zs,ac,zt,ac,aM,bc,aX,bf,bO,Ob.es]
 have hmul:((A1 e os).length+1)*(cR e []).aD<=6001*2000:=Nat.mul_le_mul (by omega) hats
 have hren:=Q2 (A1 e os) (by omega) h [] [] (.sl []) (.sl []) 0 (.of []) (.of []) rfl (fun w hw=>by cases hw) (by simp;omega) (by omega)
 refine ba hren ?_
 simp only[↓zq,zs,ac,zt,aM,aK]
 repeat refine⟨by omega,?_⟩
 exact⟨rfl,rfl⟩
end Go.Proofs.Trees
namespace Go.Proofs.Trees
open Go Go.VL Go.RowKit
def fW(t:Ty):Prop:=j9 t 0/\∀y,bo y t=true->rk y
theorem gF:∀(t:Ty) {i j:Nat},j9 t i->i<=j->j9 t j
 | .bW u,i,j,h,hj=>Nat.lt_of_lt_of_le h hj
 | .plus a b,i,j,h,hj=>⟨gF a h.1 hj,gF b h.2 hj⟩
 | .times a b,i,j,h,hj=>⟨gF a h.1 hj,gF b h.2 hj⟩
 | .rc a,i,j,h,hj=>gF (i:=i+1) (j:=j+1) a h (by omega)
 | .zero,_,_,_,_=>trivial
 | .one,_,_,_,_=>trivial
 | .name _,_,_,_,_=>trivial
theorem iW(x:Nm):∀(t:Ty) {i:Nat},j9 t (i+1)->j9 (dO (.name x) t i) i
 |
  .bW u,i,h=>by
  simp only[dO]
  split
  ·trivial
  ·have:u<i+1:=h
   show u<i;omega
 | .plus a b,i,h=>⟨iW x a h.1,iW x b h.2⟩
 | .times a b,i,h=>⟨iW x a h.1,iW x b h.2⟩
 | .rc a,i,h=>iW x (i:=i+1) a h
 | .zero,_,_=>trivial
 | .one,_,_=>trivial
 | .name _,_,_=>trivial
theorem kJ{x:Nm}{u:Ty}(hu:j9 u 0):∀(t:Ty) {i:Nat},j9 t i->j9 (sub x u t) i
 | .name s,i,_=>by simp only[sub];split;exact gF u hu (dF _);trivial
 | .plus a b,i,h=>⟨kJ hu a h.1,kJ hu b h.2⟩
 | .times a b,i,h=>⟨kJ hu a h.1,kJ hu b h.2⟩
 | .rc a,i,h=>kJ hu (i:=i+1) a h
 | .zero,_,_=>trivial
 | .one,_,_=>trivial
 | .bW _,_,h=>h
theorem Dv.lc{t d:Ty}{s:Nm}(h:Dv t s d):j9 t 0->j9 d 0:=by
 induction h with
 |zero s=>exact fun _=>trivial
 |one s=>exact fun _=>trivial
 |bW k s=>exact fun _=>trivial
 |hit s=>exact fun _=>trivial
 |ss h=>exact fun _=>trivial
 |plus h1 h2 hl i1 i2=>exact fun h=>⟨i1 h.1,i2 h.2⟩
 |times h1 h2 hl i1 i2=>exact fun h=>⟨⟨i1 h.1,h.2⟩,h.1,i2 h.2⟩
 |
  rc x hx hs h1 h2 hl i1 i2 =>
  intro h
  have g1:=kJ (x:=x) h _ (i1 (iW x _ h))
  have g2:=kJ (x:=x) h _ (i2 (iW x _ h))
  exact⟨gF _ g1 (by omega),gF _ g2 (by omega),Nat.zero_lt_one⟩
theorem Wf.rn{e:E}(h:Wf e):fW (cR e []):=⟨uz h [],fun y hy=>(nn h [] y hy).1⟩
theorem fW.dv{t d:Ty}{s:Nm}(g:fW t)(h:Dv t s d):fW d:=⟨h.lc g.1,fun y hy=>g.2 y (h.names y hy)⟩
theorem fW.tree{t:Ty}(g:fW t):∃e,Wf e/\cR e []=t:=by
 obtain⟨h1,h2,_⟩:=kG (bP t []) t [] 0 (.nil _ _) g.1 fun y hy=>⟨(eI t [] y).2 (.inr hy),g.2 y hy⟩
 exact⟨_,h1,h2⟩
theorem fW.sub{x:Nm}{u t:Ty}(hu:fW u)(ht:fW t):fW (sub x u t):=⟨kJ hu.1 t ht.1,fun y hy=>by
 rcases jf t hy with h|h
 ·exact hu.2 y h
 ·exact ht.2 y h.2⟩
def lq(o:Option Ty):AV->List Ob->Prop:=fun r ob=>ob=[]/\∃(c:Nm) (d:AV),LK.sl.has d/\r=.cA [.agg [.v (.string (mk c)),d],.v (.bool o.isSome)]/\∀t,o=some t->∃e,Wf e/\cR e []=t/\c=e.at/\d=e.sp
theorem lq.ne{o:Option Ty}(h:∀t,o=some t->fW t):∃r ob,lq o r ob:=by
 cases o with
 |none=>exact⟨_,_,rfl,[],zH,(bc).mpr trivial,rfl,fun t h=>by cases h⟩
 |
  some t =>
  obtain⟨e,h1,h2⟩:=(h t rfl).tree
  exact⟨_,_,rfl,e.at,e.sp,(aX _).mpr trivial,rfl,fun t' h'=>by cases h';exact⟨e,h1,h2,rfl,rfl⟩⟩
theorem lq.of{e:E}(h:Wf e):lq (some (cR e [])) (.cA [.agg [.v (.string (mk e.at)),e.sp],.v (.bool true)]) [] :=
 ⟨rfl,e.at,e.sp,(aX _).mpr trivial,rfl,fun t h'=>by cases h';exact⟨e,h,rfl,rfl,rfl⟩⟩
theorem lq.no(c:Nm)(d:AV)(hd:LK.sl.has d):lq none (.cA [.agg [.v (.string (mk c)),d],.v (.bool false)]) [] :=
 ⟨rfl,c,d,hd,rfl,fun t h'=>by cases h'⟩
theorem gG{c:ByteArray}{d:AV}(h:LK.sl.has d):bz [.str,.sl] [.v (.string c),d] 0=True:=by simp[bz,dM,h]
theorem wX{e:E}{os:List E}(h:Wf e):Wf (zP e os)/\cR (zP e os) []=cR e []/\uX (·∉A1 e os) (zP e os):=by
 obtain⟨h1,h2,_,_,h5⟩:=kG (A1 e os) (cR e []) [] 0 (.nil _ _) (uz h []) fun y hy=>⟨aC _ ((lN h [] [] y).2 (.inr hy)),(nn h [] y hy).1⟩
 exact⟨h1,h2,h5⟩
theorem sc{os:List E}{o:E}(ho:o∈os)(hw:Wf o){y:Nm}(hy:bo y (cR o [])=true):y∈si os :=
 dw.2 ⟨o,ho,(lN hw [] [] y).2 (.inr hy)⟩
theorem sM{s:Nm}(hs:rk s):cR (.atom s) []=.name s:=i6 hs (by simp)
theorem Pv{x:Nm}(hx:rk x){e u:E}(h:Wf e)(hu:Wf u)(hl:e.df<=400)(hlu:u.df<=400):∃g,Wf g/\cR g []=sub x (cR u []) (cR e [])/\ap Tryz.prog 143 [.agg [.v (.string (mk e.at)),e.sp],.v (.string (mk x)),.agg [.v (.string (mk u.at)),u.sp]] [] (bG (.agg [.v (.string (mk g.at)),g.sp])):=by
 obtain⟨w1,w2,w3⟩:=wX (os:=[u,.atom x]) h
 have hap:uX (fun n=>n≠x/\bo n (cR u [])=false) (zP e [u,.atom x]):=B0 (fun n hn=>⟨fun e1=>hn (by
  subst e1
  exact aB _ (sc (o:=.atom n) (by simp) (.atom hx.1) (by rw[sM hx];simp[bo]))),by
  cases q:bo n (cR u [])with
  |false=>rfl
  |true=>exact absurd (aB _ (sc (o:=u) (by simp) hu q)) hn⟩) w1 w3
 obtain⟨p1,p2⟩:=Ez hx hu w1 hap [] (by simp) (fun y hy=>by cases hy)
 refine⟨_,p1,by rw[p2,w2],?_⟩
 refine TF _ _ _ _ _ ((aX _).mpr trivial) ((aX _).mpr trivial) ?_
 unfold Kl
 have s1:=h.sz
 have s2:=hu.sz
 have hA:=DQ h (.sl [[.v (.string (mk u.at)),u.sp],[.v (.string (mk x)),zH]]) [u,.atom x] ⟨(bT _).mpr trivial,by simp only[fj,E.bw,fE];rfl⟩ (by omega) (fun o ho=>by
  simp only[aH,List.not_mem_nil,or_false]at ho
  rcases ho with rfl|rfl
  ·exact⟨hu,by omega⟩
  ·exact⟨.atom hx.1,by simp[E.sz]⟩) (by simp)
 refine ai hA ?_
 simp only[↓zq,zs,ac,zt,aK]
 repeat refine⟨by omega,?_⟩
 refine ai (S6 x u w1) ?_
 simp only[↓zq,zs,ac,zt,aK]
 repeat refine⟨by omega,?_⟩
 exact⟨rfl,rfl⟩
theorem FR{x:Nm}(hx:rk x){e u:E}(h:Wf e)(hu:Wf u)(hl:e.df<=400)(hlu:u.df<=400):ap Tryz.prog 176 [.agg [.v (.string (mk e.at)),e.sp],.v (.string (mk x)),.agg [.v (.string (mk u.at)),u.sp]] [] (lq (nO (sub x (cR u []) (cR e [])))):=by
 refine TY _ _ _ _ _ ((aX _).mpr trivial) ((aX _).mpr trivial) ?_
 unfold Lm
 refine ai (NK hx h hu (by omega) (by omega)) ?_
 simp only[↓zq,zs,ac,zt]
 refine⟨fun hn=>?_,fun hy=>?_⟩
 ·rw[show nO (sub x (cR u []) (cR e []))=none by unfold nO;rw[if_neg hn]]
  exact lq.no _ _ ((aX _).mpr trivial)
 ·rw[show nO (sub x (cR u []) (cR e []))=some (sub x (cR u []) (cR e [])) by unfold nO;rw[if_pos hy]]
  obtain⟨g,g1,g2,g3⟩:=Pv hx h hu hl hlu
  refine ai g3 ?_
  simp only[↓zq,zs,ac,zt,aK]
  repeat refine⟨by omega,?_⟩
  rw[<-g2]
  exact lq.of g1
end Go.Proofs.Trees
namespace Go.Proofs.Trees
open Go Go.VL Go.RowKit
theorem Db(w:Nm)(c1 c2:Nm)(d1 d2:AV):ap Tryz.prog 78 [.v (.string (mk w)),.sl [[.v (.string (mk c1)),d1],[.v (.string (mk c2)),d2]]] [] (bG (.agg [.v (.string (mk [])),.sl [[.v (.string (mk w)),zH],[.v (.string (mk c1)),d1],[.v (.string (mk c2)),d2]]])):=by
 refine Pe _ _ ((bT _).mpr trivial) ?_
 simp only[G2,↓zq,zs,ac,bG]
 exact⟨⟨fun c hc=>by
  simp only[aH,List.not_mem_nil,or_false]at hc
  rcases hc with rfl|rfl<;>rfl,by omega⟩,rfl⟩
theorem Nk(F:List Nm)(hF:F.length<100000)(c1 c2:Nm)(d1 d2:AV)(h1:LK.sl.has d1)(h2:LK.sl.has d2):∀(n j:Nat),qi F n j<j+n->j+n<100000000 ->
 Jh [.v (.int .i64 (j:Int))] [zE,.cells [.v (.string (mk c1)),d1],.cells [.v (.string (mk c2)),d2],.vec 1 (bY F)] (gj 1 [.v (.int .i64 (qi F n j:Int))] [zE,.cells [.v (.string (mk c1)),d1],.cells [.v (.string (mk c2)),d2]])
 |0,j,h,_=>by simp only[qi]at h;omega
 |
  n+1,j,h,hj=>by
  refine RX _ _ _ _ _ _ _ _ ?_
  simp only[Oz,↓zq,zs,ac,zt,ac,bc,h1,h2]
  refine ai (zU (j+1) j (by omega) (by omega)) ?_
  have hd:=mT (j+1) j (by omega)
  simp only[↓zq,zs,ac,zt,be,aR]
  refine⟨by simp[cJ];omega,?_⟩
  refine ai (xU F _ (.of F) (tN j) (by omega)) ?_
  simp only[↓zq,zs,ac,zt]
  rw[qi]at h |-
  refine⟨fun hm=>?_,fun hm=>?_⟩
  ·rw[if_pos hm]at h |-
   rw[bp j (by omega)]
   exact Nk F hF c1 c2 d1 d2 h1 h2 n (j+1) (by omega) (by omega)
  ·rw[if_neg hm]
   exact⟨rfl,rfl,rfl⟩
theorem uo{x:Nm}{a c d:Ty}(h:(qb a x c d).aD<=400):(sub x (.rc a) c).aD<=400/\(sub x (.rc a) d).aD<=400:=by
 simp only[qb,Ty.aD]at h;omega
theorem Wf.iM{e:E}(h:Wf e){t:Ty}(ht:cR e []=t)(hl:t.aD<=400):e.df<=400:=by rw[h.df [],ht];exact hl
def T3(n:Nat):Prop:=∀(e:E) (s:Nm),Wf e->e.df<=n->e.df<=400->rk s->ap Tryz.prog 175 [.agg [.v (.string (mk e.at)),e.sp],.v (.string (mk s))] [] (lq (lU (cR e []) s))
theorem ky{e:E}{s:Nm}(h:Wf e):∀t,lU (cR e []) s=some t->fW t:=fun t ht=>h.rn.dv (cU.1 ht)
theorem rp{t:Ty}(h:fW t):∀d,nO t=some d->fW d:=fun d hd=>by obtain⟨_,rfl⟩:=fe.1 hd;exact h
theorem Q3(n:Nat)(ih:T3 n)(m:Nm)(B:E)(hm:rk m)(hB:Wf B)(hl:(E.list [.atom dE,.atom m,B]).df<=n+1)(hl4:(E.list [.atom dE,.atom m,B]).df<=400)(s:Nm)(hs:rk s) :
 ap Tryz.prog 190 [.agg [.v (.string (mk [])),(E.list [.atom dE,.atom m,B]).sp],.v (.string (mk s))] [] (lq (lU (cR (.list [.atom dE,.atom m,B]) []) s)):=by
 have hw:Wf (.list [.atom dE,.atom m,B]):=.rc hm hB
 have hsz:=hw.sz
 have hA:=DQ hw (.sl [[.v (.string (mk s)),zH]]) [.atom s] ⟨(bT _).mpr trivial,by simp only[fj,E.bw,fE];rfl⟩ (by omega) (fun o ho=>by
  simp only[aH,List.not_mem_nil,or_false]at ho
  subst ho
  exact⟨.atom hs.1,by simp[E.sz]⟩) (by simp)
 have hatsB:B.df+2=(E.list [.atom dE,.atom m,B]).df:=by simp only[E.df,E.eT];omega
 have hT:cR (.list [.atom dE,.atom m,B]) []=.rc (cR B [m]):=fh _ _ _
 obtain⟨w1,w2,_,_,w5⟩:=kG (A1 (.list [.atom dE,.atom m,B]) [.atom s]) (cR (.list [.atom dE,.atom m,B]) []) [] 0 (.nil _ _) (uz hw []) fun y hy=>⟨aC _ ((lN hw [] [] y).2 (.inr hy)),(nn hw [] y hy).1⟩
 have hsF:s∈A1 (.list [.atom dE,.atom m,B]) [.atom s]:=aB _ (sc (o:=.atom s) (by simp) (.atom hs.1) (by rw[sM hs];simp[bo]))
 have haF:∀y,bo y (cR B [m])=true->y∈A1 (.list [.atom dE,.atom m,B]) [.atom s]:=fun y hy=>aC _ ((lN hw [] [] y).2 (.inr (by rw[hT];exact hy)))
 unfold zP at hA
 rw[hT]at hA w1 w2 w5
 rw[hT]
 generalize A1 (.list [.atom dE,.atom m,B]) [.atom s]=F at *
 obtain⟨_,_,_,hxF⟩:=gB F 0
 simp only[gY,aR]at hA w1 w2 w5
 generalize hxd:tN (nx F 0)=x at *
 have hx:rk x:=by rw[<-hxd];exact zm _
 generalize (gY F (cR B [m]) [x] (nx F 0+1)).1=b at *
 have hb:Wf b:=by cases w1;assumption
 rw[fh]at w2
 have hbt:cR b [x]=cR B [m]:=by injection w2
 have hxa:bo x (cR B [m])=false:=by
  cases q:bo x (cR B [m])with
  |false=>rfl
  |true=>exact absurd (haF x q) hxF
 have hxs:x≠s:=fun e=>hxF (by rw[e];exact hsF)
 generalize cR B [m]=a at *
 have hbo:cR b []=dO (.name x) a 0:=by
  have:=zB x hb []
  rw[cY,hbt]at this;exact this
 have hba:b.df+2=(E.list [.atom dE,.atom m,B]).df:=by
  rw[hw.df [],hT,hb.df [],hbo,fH];simp only[Ty.aD];omega
 have i1:=ih b s hb (by omega) (by omega) hs
 have i2:=ih b x hb (by omega) (by omega) hx
 have n1:=ky (s:=s) hb
 have n2:=ky (s:=x) hb
 rw[hbo]at i1 i2 n1 n2
 have hP:=P3.of (.atom dE) (.atom x) b
 rw[Cy hxa hxs]
 have hE1:Wf (.list [.atom dE,.atom x,b]):=w1
 have hE1t:cR (.list [.atom dE,.atom x,b]) []=.rc a:=by rw[fh];exact w2
 have hE1l:(E.list [.atom dE,.atom x,b]).df<=400:=by
  have:(E.list [.atom dE,.atom x,b]).df=b.df+2:=by simp only[E.df,E.eT];omega
  omega
 refine SX _ _ _ ((aX _).mpr trivial) ?_
 unfold OB
 refine ai hA ?_
 simp only[↓zq,zs,ac,zt,aK,bN,toNat_one,bg,hP.1,hP.2.1,hP.2.2.1,hP.2.2.2,dU]
 repeat refine⟨by omega,?_⟩
 refine aN i1 (lq.ne n1) ?_
 rintro r o ⟨rfl,c1,d1,hd1,rfl,hc1⟩
 simp only[↓zq,zs,ac,zt,gG hd1]
 repeat refine⟨by omega,?_⟩
 refine aN i2 (lq.ne n2) ?_
 rintro r o ⟨rfl,c2,d2,hd2,rfl,hc2⟩
 simp only[↓zq,zs,ac,zt,gG hd2]
 cases q1:lU (dO (.name x) a 0) s with
 |
  none =>
  simp only[bn,bH]
  exact⟨fun _=>lq.no _ _ ((aX _).mpr trivial),fun h=>(by cases h)⟩
 |some c =>
 cases q2:lU (dO (.name x) a 0) x with
 |
  none =>
  simp only[bn,a6,bH,aV]
  exact⟨fun h=>(by cases h),fun _=>⟨fun _=>lq.no _ _ ((aX _).mpr trivial),fun h=>(by cases h)⟩⟩
 |some d =>
 simp only[a6,aV]
 refine⟨fun h=>(by cases h),fun _=>⟨fun h=>(by cases h),fun _=>?_⟩⟩
 obtain⟨ec,wc,tc,rfl,rfl⟩:=hc1 c q1
 obtain⟨ed,wd,td,rfl,rfl⟩:=hc2 d q2
 have lc:=(cU.1 q1).small
 have ld:=(cU.1 q2).small
 have p1:=FR hx wc hE1 (wc.iM tc lc) hE1l
 have p2:=FR hx wd hE1 (wd.iM td ld) hE1l
 have g1:=rp (hE1.rn.sub (x:=x) wc.rn)
 have g2:=rp (hE1.rn.sub (x:=x) wd.rn)
 rw[hE1t,tc]at p1 g1
 rw[hE1t,td]at p2 g2
 simp only[bN]at p1 p2
 repeat refine⟨by omega,?_⟩
 refine aN p1 (lq.ne g1) ?_
 rintro r o ⟨rfl,c3,d3,hd3,rfl,hc3⟩
 simp only[↓zq,zs,ac,zt,gG hd3]
 repeat refine⟨by omega,?_⟩
 refine aN p2 (lq.ne g2) ?_
 rintro r o ⟨rfl,c4,d4,hd4,rfl,hc4⟩
 simp only[↓zq,zs,ac,zt,gG hd4]
 have big:∀t:Ty,nO t=none->¬t.aD<=400:=fun t ht hle=>by unfold nO at ht;rw[if_pos hle]at ht;cases ht
 have out0:(nO (sub x (.rc a) c)=none\/nO (sub x (.rc a) d)=none)->nO (qb a x c d)=none:=fun h=>by
  unfold nO
  rw[if_neg fun hle=>?_]
  have:=uo hle
  rcases h with h|h
  ·exact big _ h this.1
  ·exact big _ h this.2
 cases q3:nO (sub x (.rc a) c)with
 |
  none =>
  rw[out0 (.inl q3)]
  simp only[bn]
  exact⟨fun _=>lq.no _ _ ((aX _).mpr trivial),fun h=>(by cases h)⟩
 |some c' =>
 cases q4:nO (sub x (.rc a) d)with
 |
  none =>
  rw[out0 (.inr q4)]
  simp only[bn,a6]
  exact⟨fun h=>(by cases h),fun _=>⟨fun _=>lq.no _ _ ((aX _).mpr trivial),fun h=>(by cases h)⟩⟩
 |some d' =>
 simp only[a6]
 refine⟨fun h=>(by cases h),fun _=>⟨fun h=>(by cases h),fun _=>?_⟩⟩
 obtain⟨ec',wc',tc',rfl,rfl⟩:=hc3 c' q3
 obtain⟨ed',wd',td',rfl,rfl⟩:=hc4 d' q4
 obtain⟨lc',e3⟩:=fe.1 q3
 obtain⟨ld',e4⟩:=fe.1 q4
 rw[e3]at lc';rw[e4]at ld'
 have z1:=wc'.sz
 have z2:=wd'.sz
 have k1:=wc'.iM tc' lc'
 have k2:=wd'.iM td' ld'
 have f1:=Ds wd' [] [] (.sl []) (.of []) (by simp;omega)
 have fl1:=gd ed' [] []
 have fl2:=gd ec' [] (kj ed' [] [])
 simp only[aG,aY]at fl1
 have f2:=Ds wc' [] (kj ed' [] []) (.sl []) (.of []) (by simp;omega)
 refine ba f1 ?_
 simp only[↓zq,zs,ac,zt,bf,bO,Ob.es]
 refine ba f2 ?_
 simp only[↓zq,zs,ac,zt,bf,bO,Ob.es]
 have hF3:∀y,(bo y c'=true\/bo y d'=true)->y∈kj ec' [] (kj ed' [] []):=fun y hy=>by
  rw[lN wc',lN wd']
  rcases hy with hy|hy
  ·exact .inr (by rw[tc'];exact hy)
  ·exact .inl (.inr (by rw[td'];exact hy))
 generalize kj ec' [] (kj ed' [] [])=F3 at *
 obtain⟨_,y2,_,hyF⟩:=gB F3 0
 refine co (Nk F3 (by omega) _ _ _ _ ((aX _).mpr trivial) ((aX _).mpr trivial) (F3.length+1) 0 (by show nx F3 0<_;omega) (by omega)) ?_
 have hnx:qi F3 (F3.length+1) 0=nx F3 0:=rfl
 rw[hnx]
 simp only[↓zq,zs,ac,zt,ac,aM,bc,aX]
 refine ai (zU (nx F3 0+1) (nx F3 0) (by omega) (by omega)) ?_
 have hdl:=mT (nx F3 0+1) (nx F3 0) (by omega)
 simp only[↓zq,zs,ac,zt,be,aR]
 refine⟨by omega,?_⟩
 obtain⟨y,hyd⟩:∃y:Nm,(116::dd (nx F3 0):Nm)=y:=⟨_,rfl⟩
 rw[hyd]
 rw[show tN (nx F3 0)=y from hyd]at hyF
 have hy:rk y:=by rw[<-hyd];exact zm _
 have hcy:cR ec' [y]=c':=by
  have:=uU [y] wc' [] (fun z hz hm=>hyF (by
   simp only[aT]at hm
   rw[<-hm];exact hF3 z (.inl (by rw[<-tc'];exact hz))))
  rw[cY,tc']at this;exact this
 have hdy:cR ed' [y]=d':=by
  have:=uU [y] wd' [] (fun z hz hm=>hyF (by
   simp only[aT]at hm
   rw[<-hm];exact hF3 z (.inr (by rw[<-td'];exact hz))))
  rw[cY,td']at this;exact this
 have hyb:cR (.atom y) [y]=.bW 0:=by
  simp only[cR];rw[if_neg hy.2.1,if_neg hy.2.2,show bQ y [y] [y].length=some 0 from fk y []]
 let o1:E:=.list [.atom [42],ed',.atom y]
 let o2:E:=.list [.atom [43],ec',o1]
 let o3:E:=.list [.atom dE,.atom y,o2]
 have hw3:Wf o3:=.rc hy (.plus wc' (.times wd' (.atom hy.1)))
 have ht3:cR o3 []=qb a x c d:=by
  show cR (.list [.atom dE,.atom y,o2]) []=_
  rw[fh]
  show Ty.rc (cR (.list [.atom [43],ec',o1]) [y])=_
  rw[dN]
  show Ty.rc (.plus (cR ec' [y]) (cR (.list [.atom [42],ed',.atom y]) [y]))=_
  rw[du,hcy,hdy,hyb,qb,e3,e4]
 have m1:=w6 [42] ed' (.atom y)
 have m2:=w6 [43] ec' o1
 have m3:=w6 dE (.atom y) o2
 simp only[o1,bN,dU]at m1 m2 m3
 refine ai m1 ?_
 simp only[↓zq,zs,ac,zt,aK]
 repeat refine⟨by omega,?_⟩
 refine ai m2 ?_
 simp only[↓zq,zs,ac,zt,aK]
 repeat refine⟨by omega,?_⟩
 refine ai m3 ?_
 simp only[↓zq,zs,ac,zt,aK]
 repeat refine⟨by omega,?_⟩
 have z3:=hw3.sz
 have hats3:o3.df=ec'.df+ed'.df+5:=by simp only[o3,o2,o1,E.df,E.eT];omega
 have ma:=Ey o3 hw3.ok (by omega)
 rw[cX]at ma
 simp only[o3,o2,o1,bN]at ma
 refine ai ma ?_
 simp only[↓zq,zs,ac,zt]
 have hd3:(qb a x c d).aD=o3.df:=by rw[<-ht3,<-hw3.df []]
 unfold nO
 by_cases hle:(qb a x c d).aD<=400
 ·rw[if_pos hle]
  have:=lq.of hw3
  rw[ht3]at this
  rw[show decide ((((E.list [.atom dE,.atom y,.list [.atom [43],ec',.list [.atom [42],ed',.atom y]]]).df:Nat):Int)<=400)=true from decide_eq_true (by show ((o3.df:Nat):Int)<=400;omega)]
  exact this
 ·rw[if_neg hle]
  rw[show decide ((((E.list [.atom dE,.atom y,.list [.atom [43],ec',.list [.atom [42],ed',.atom y]]]).df:Nat):Int)<=400)=false from decide_eq_false (by show ¬((o3.df:Nat):Int)<=400;omega)]
  exact lq.no _ _ ((aX o3).mpr trivial)
theorem Am:∀n,T3 n
 |0=>fun e s h hl=>by have:=eh (cR e []);rw[<-h.df []]at this;omega
 |
  n+1=>by
  intro e s h hl h4 hs
  cases h with
  |
   @atom c hc =>
   refine Eb _ _ _ ((aX _).mpr trivial) ?_
   simp only[CG,dU,↓zq,zs,ac,zt]
   refine⟨fun _=>⟨fun he=>?_,fun hne=>?_⟩,fun h=>absurd h hc⟩
   ·have he:c=s:=he
    subst he
    rw[sM hs,oW,if_pos rfl]
    exact lq.of (e:=.atom [49]) (.atom (by simp))
   ·have hne:¬c=s:=hne
    have:lU (cR (.atom c) []) s=some .zero:=by
     simp only[cR]
     split
     ·exact vA _
     ·split
      ·exact yR _
      ·rw[show bQ c [] ([]:List Nm).length=none from rfl,oW,if_neg hne]
    rw[this]
    exact lq.of (e:=.atom [48]) (.atom (by simp))
  |
   @plus x y hx hy =>
   have hxy:(E.list [.atom [43],x,y]).df=x.df+y.df+1:=by simp only[E.df,E.eT];omega
   have p1:1<=x.df:=by rw[hx.df []];exact eh _
   have p2:1<=y.df:=by rw[hy.df []];exact eh _
   refine Eb _ _ _ ((aX _).mpr trivial) ?_
   have hP:=P3.of (.atom [43]) x y
   simp only[CG,bN,toNat_one,bg,↓zq,zs,ac,zt,hP.1,hP.2.1,hP.2.2.1,hP.2.2.2,aK]
   refine⟨fun h=>absurd rfl h,fun _=>?_⟩
   refine ai (om [43] x y) ?_
   simp only[↓zq,zs,ac,zt]
   refine⟨fun h=>by simp at h,fun _=>?_⟩
   repeat refine⟨by omega,?_⟩
   rw[dN,wm]
   refine aN (Am n x s hx (by omega) (by omega) hs) (lq.ne (ky hx)) ?_
   rintro r o ⟨rfl,c1,d1,hd1,rfl,hc1⟩
   simp only[↓zq,zs,ac,zt,gG hd1]
   repeat refine⟨by omega,?_⟩
   refine aN (Am n y s hy (by omega) (by omega) hs) (lq.ne (ky hy)) ?_
   rintro r o ⟨rfl,c2,d2,hd2,rfl,hc2⟩
   simp only[↓zq,zs,ac,zt,gG hd2]
   refine ai (Db [43] c1 c2 d1 d2) ?_
   simp only[↓zq,zs,ac,zt,bz,dM,bT]
   repeat refine⟨by omega,?_⟩
   refine ai (om [43] x y) ?_
   simp only[↓zq,zs,ac,zt]
   refine⟨fun h=>by simp at h,fun _=>?_⟩
   cases q1:lU (cR x []) s with
   |
    none =>
    simp only[bn,bH]
    exact⟨fun h=>(by cases h),fun _=>lq.no _ _ ((bT _).mpr trivial)⟩
   |some tx =>
   cases q2:lU (cR y []) s with
   |
    none =>
    simp only[bn,a6,bH,aV]
    exact⟨fun _=>⟨fun h=>(by cases h),fun _=>lq.no _ _ ((bT _).mpr trivial)⟩,fun h=>(by cases h)⟩
   |some t2 =>
   simp only[a6,aV]
   refine⟨fun _=>⟨fun _=>?_,fun h=>(by cases h)⟩,fun h=>(by cases h)⟩
   obtain⟨e1,w1,te1,rfl,rfl⟩:=hc1 tx q1
   obtain⟨e2,w2,te2,rfl,rfl⟩:=hc2 t2 q2
   have l1:=w1.iM te1 (cU.1 q1).small
   have l2:=w2.iM te2 (cU.1 q2).small
   have z1:=w1.sz
   have z2:=w2.sz
   have hw3:Wf (.list [.atom [43],e1,e2]):=.plus w1 w2
   have ht3:cR (.list [.atom [43],e1,e2]) []=.plus tx t2:=by rw[dN,te1,te2]
   have ma:=Ey _ hw3.ok (by simp only[E.sz,E.jp];omega)
   rw[cX]at ma
   simp only[bN]at ma
   have e3:AV.sl [[.v (.string (mk [43])),zH],[.v (.string (mk e1.at)),e1.sp],[.v (.string (mk e2.at)),e2.sp]]=(E.list [.atom [43],e1,e2]).sp:=by simp only[E.sp,E.bw,fE];rfl
   rw[e3]
   refine ai ma ?_
   simp only[↓zq,zs,ac,zt]
   have hd3:(Ty.plus tx t2).aD=(E.list [.atom [43],e1,e2]).df:=by rw[<-ht3,<-hw3.df []]
   unfold nO
   by_cases hle:(Ty.plus tx t2).aD<=400
   ·rw[if_pos hle,show decide ((((E.list [.atom [43],e1,e2]).df:Nat):Int)<=400)=true from decide_eq_true (by omega)]
    have:=lq.of hw3
    rw[ht3]at this
    exact this
   ·rw[if_neg hle,show decide ((((E.list [.atom [43],e1,e2]).df:Nat):Int)<=400)=false from decide_eq_false (by omega)]
    exact lq.no _ _ ((aX _).mpr trivial)
  |
   @times x y hx hy =>
   have hxy:(E.list [.atom [42],x,y]).df=x.df+y.df+1:=by simp only[E.df,E.eT];omega
   have p1:1<=x.df:=by rw[hx.df []];exact eh _
   have p2:1<=y.df:=by rw[hy.df []];exact eh _
   refine Eb _ _ _ ((aX _).mpr trivial) ?_
   have hP:=P3.of (.atom [42]) x y
   simp only[CG,bN,toNat_one,bg,↓zq,zs,ac,zt,hP.1,hP.2.1,hP.2.2.1,hP.2.2.2,aK]
   refine⟨fun h=>absurd rfl h,fun _=>?_⟩
   refine ai (om [42] x y) ?_
   simp only[↓zq,zs,ac,zt]
   refine⟨fun h=>by simp at h,fun _=>?_⟩
   repeat refine⟨by omega,?_⟩
   rw[du,tC]
   refine aN (Am n x s hx (by omega) (by omega) hs) (lq.ne (ky hx)) ?_
   rintro r o ⟨rfl,c1,d1,hd1,rfl,hc1⟩
   simp only[↓zq,zs,ac,zt,gG hd1]
   repeat refine⟨by omega,?_⟩
   refine aN (Am n y s hy (by omega) (by omega) hs) (lq.ne (ky hy)) ?_
   rintro r o ⟨rfl,c2,d2,hd2,rfl,hc2⟩
   simp only[↓zq,zs,ac,zt,gG hd2]
   refine ai (Db [43] c1 c2 d1 d2) ?_
   simp only[↓zq,zs,ac,zt,bz,dM,bT]
   repeat refine⟨by omega,?_⟩
   refine ai (om [42] x y) ?_
   simp only[↓zq,zs,ac,zt]
   refine⟨fun _=>?_,fun h=>by simp at h⟩
   repeat refine⟨by omega,?_⟩
   refine ai (Db [42] c1 y.at d1 y.sp) ?_
   simp only[↓zq,zs,ac,zt,bz,dM,bT,aX]
   repeat refine⟨by omega,?_⟩
   refine ai (Db [42] x.at c2 x.sp d2) ?_
   simp only[↓zq,zs,ac,zt,bz,dM,bT,aX]
   repeat refine⟨by omega,?_⟩
   refine ai (Db [43] [] [] _ _) ?_
   simp only[↓zq,zs,ac,zt,bz,dM,bT]
   repeat refine⟨by omega,?_⟩
   cases q1:lU (cR x []) s with
   |
    none =>
    simp only[bn,bH]
    exact⟨fun h=>(by cases h),fun _=>lq.no _ _ ((bT _).mpr trivial)⟩
   |some tx =>
   cases q2:lU (cR y []) s with
   |
    none =>
    simp only[bn,a6,bH,aV]
    exact⟨fun _=>⟨fun h=>(by cases h),fun _=>lq.no _ _ ((bT _).mpr trivial)⟩,fun h=>(by cases h)⟩
   |some t2 =>
   simp only[a6,aV]
   refine⟨fun _=>⟨fun _=>?_,fun h=>(by cases h)⟩,fun h=>(by cases h)⟩
   obtain⟨e1,w1,te1,rfl,rfl⟩:=hc1 tx q1
   obtain⟨e2,w2,te2,rfl,rfl⟩:=hc2 t2 q2
   have l1:=w1.iM te1 (cU.1 q1).small
   have l2:=w2.iM te2 (cU.1 q2).small
   have z1:=w1.sz
   have z2:=w2.sz
   have z3:=hx.sz
   have z4:=hy.sz
   have hw3:Wf (.list [.atom [43],.list [.atom [42],e1,y],.list [.atom [42],x,e2]]):=.plus (.times w1 hy) (.times hx w2)
   have ht3:cR (.list [.atom [43],.list [.atom [42],e1,y],.list [.atom [42],x,e2]]) []=.plus (.times tx (cR y [])) (.times (cR x []) t2):=by rw[dN,du,du,te1,te2]
   have ma:=Ey _ hw3.ok (by simp only[E.sz,E.jp];omega)
   rw[cX]at ma
   simp only[bN]at ma
   have e3:AV.sl [[.v (.string (mk [43])),zH],[.v (.string (mk [])),.sl [[.v (.string (mk [42])),zH],[.v (.string (mk e1.at)),e1.sp],[.v (.string (mk y.at)),y.sp]]],[.v (.string (mk [])),.sl [[.v (.string (mk [42])),zH],[.v (.string (mk x.at)),x.sp],[.v (.string (mk e2.at)),e2.sp]]]]=(E.list [.atom [43],.list [.atom [42],e1,y],.list [.atom [42],x,e2]]).sp:=by simp only[E.sp,E.bw,fE];rfl
   rw[e3]
   refine ai ma ?_
   simp only[↓zq,zs,ac,zt]
   have hd3:(Ty.plus (.times tx (cR y [])) (.times (cR x []) t2)).aD=(E.list [.atom [43],.list [.atom [42],e1,y],.list [.atom [42],x,e2]]).df:=by rw[<-ht3,<-hw3.df []]
   unfold nO
   by_cases hle:(Ty.plus (.times tx (cR y [])) (.times (cR x []) t2)).aD<=400
   ·rw[if_pos hle,show decide ((((E.list [.atom [43],.list [.atom [42],e1,y],.list [.atom [42],x,e2]]).df:Nat):Int)<=400)=true from decide_eq_true (by omega)]
    have:=lq.of hw3
    rw[ht3]at this
    exact this
   ·rw[if_neg hle,show decide ((((E.list [.atom [43],.list [.atom [42],e1,y],.list [.atom [42],x,e2]]).df:Nat):Int)<=400)=false from decide_eq_false (by omega)]
    exact lq.no _ _ ((aX _).mpr trivial)
  |
   @rc m B hm hB =>
   have hlp:=Q3 n (Am n) m B hm hB hl h4 s hs
   have hg:=ky (s:=s) (Wf.rc hm hB)
   refine Eb _ _ _ ((aX _).mpr trivial) ?_
   have hP:=P3.of (.atom dE) (.atom m) B
   simp only[CG,bN,toNat_one,bg,↓zq,zs,ac,zt,hP.1,hP.2.1,hP.2.2.1,hP.2.2.2,aK]
   refine⟨fun h=>absurd rfl h,fun _=>?_⟩
   refine ai (om dE (.atom m) B) ?_
   simp only[↓zq,zs,ac,zt]
   refine⟨fun _=>?_,fun h=>absurd rfl h⟩
   refine aN hlp (lq.ne hg) ?_
   rintro r o ⟨rfl,c1,d1,hd1,rfl,hc1⟩
   simp only[↓zq,zs,ac,zt,gG hd1]
   exact⟨rfl,c1,d1,hd1,rfl,hc1⟩
end Go.Proofs.Trees
namespace Go.Proofs.Trees
open Go Go.VL Go.RowKit
theorem px:∀(n k:Nat),k<10 ^ (n+1)->(dd k).length<=n+1
 |0,k,h=>by rw[eF (by omega)];simp
 |
  n+1,k,h=>by
  by_cases h1:k<10
  ·rw[eF h1];simp
  ·rw[fP h1]
   have:=px n (k/10) (by
    have:10 ^ (n+1+1)=10*10 ^ (n+1):=by rw[Nat.pow_succ,Nat.mul_comm]
    omega)
   simp;omega
inductive Sh:E->Prop
 |atom {s:Nm} (h:s.length<=20):Sh (.atom s)
 |l3 {h:Nm} {a b:E} (hh:h.length<=20) (ha:Sh a) (hb:Sh b):Sh (.list [.atom h,a,b])
theorem Sh.cE{e:E}(hw:Wf e)(h:Sh e):(eU e).length<=50*e.df:=by
 induction hw with
 |atom _=>cases h with|atom h=>simp only[eU,E.df];omega
 |
  plus _ _ i1 i2 =>
  cases h with|l3 hh ha hb =>
  have:=i1 ha
  have:=i2 hb
  simp only[eU,eg,au,an,aG,E.df,E.eT];omega
 |
  times _ _ i1 i2 =>
  cases h with|l3 hh ha hb =>
  have:=i1 ha
  have:=i2 hb
  simp only[eU,eg,au,an,aG,E.df,E.eT];omega
 |
  rc _ _ i =>
  cases h with|l3 hh ha hb =>
  cases ha with|atom ha =>
  have:=i hb
  simp only[eU,eg,au,an,aG,E.df,E.eT];omega
def vq(t:Ty):Prop:=∀y,bo y t=true->y.length<=20
theorem w8{k:Nat}(h:k<100000000):(tN k).length<=20:=by
 have:=px 7 k (by omega)
 simp;omega
theorem pS(F:List Nm)(hF:F.length<=10000):∀(t:Ty) (to:List Nm) (k:Nat),vq t->(∀w,w∈to->w.length<=20)->k+(F.length+1)*t.aD<90000000->Sh (gY F t to k).1
 | .zero,_,_,_,_,_=>.atom (by simp)
 | .one,_,_,_,_,_=>.atom (by simp)
 | .name s,_,_,hn,_,_=>.atom (hn s (by simp[bo]))
 |
  .bW u,to,_,_,ht,_=>by
  refine .atom ?_
  show (gk to u).length<=20
  unfold gk
  by_cases h:to.length-1-u<to.length
  ·rw[aa,bm h];exact ht _ (bB h)
  ·rw[aa,List.getElem?_eq_none (by omega)];simp
 |
  .plus a b,to,k,hn,ht,hk=>by
  have h1:=iB F a to k
  have:(F.length+1)*(1+a.aD+b.aD)=(F.length+1)+(F.length+1)*a.aD+(F.length+1)*b.aD:=by simp only[cT,dH]
  simp only[Ty.aD]at hk
  exact .l3 (by simp) (pS F hF a to k (fun y hy=>hn y (by simp[bo,hy])) ht (by omega)) (pS F hF b to _ (fun y hy=>hn y (by simp[bo,hy])) ht (by omega))
 |
  .times a b,to,k,hn,ht,hk=>by
  have h1:=iB F a to k
  have:(F.length+1)*(1+a.aD+b.aD)=(F.length+1)+(F.length+1)*a.aD+(F.length+1)*b.aD:=by simp only[cT,dH]
  simp only[Ty.aD]at hk
  exact .l3 (by simp) (pS F hF a to k (fun y hy=>hn y (by simp[bo,hy])) ht (by omega)) (pS F hF b to _ (fun y hy=>hn y (by simp[bo,hy])) ht (by omega))
 |
  .rc a,to,k,hn,ht,hk=>by
  obtain⟨g1,g2,_,_⟩:=gB F k
  have:(F.length+1)*(2+a.aD)=(F.length+1)*2+(F.length+1)*a.aD:=by simp only[cT]
  simp only[Ty.aD]at hk
  have hl:=w8 (k:=nx F k) (by omega)
  exact .l3 (by simp) (.atom hl) (pS F hF a _ _ hn (fun w hw=>by
   rcases aQ.1 hw with hw|hw
   ·exact ht w hw
   ·simp only[aT]at hw;rw[hw];exact hl) (by omega))
def Fp(t:Ty):Nm:=eU (gY (bP t []) t [] 0).1
def told(t:Ty):Option Nm:=if t.aD<=400/\(qP (Fp t)).isSome=true then some (Fp t)else none
theorem DU{t:Ty}(g:fW t)(hs:vq t)(ha:t.aD<=400):(Fp t).length<=20000:=by
 obtain⟨h1,h2,_⟩:=kG (bP t []) t [] 0 (.nil _ _) g.1 fun y hy=>⟨(eI t [] y).2 (.inr hy),g.2 y hy⟩
 have hn:=ew t []
 simp only[aG,aY]at hn
 have hm:((bP t []).length+1)*t.aD<=401*400:=Nat.mul_le_mul (by omega) ha
 have:=(pS (bP t []) (by omega) t [] 0 hs (fun w hw=>by cases hw) (by omega)).cE h1
 have:=h1.iM h2 ha
 unfold Fp;omega
theorem ve(s:Nm):(wS s).isSome=(qP s).isSome:=by
 rw[ur]
 cases he:wS s with
 |none=>rfl
 |
  some e =>
  obtain⟨h1,h2,h3⟩:=pR he
  simp only[iR e [],h2];rfl
theorem Ri(s:Nm):ap Tryz.prog 177 [.v (.string (mk s))] [] (bG (.v (.bool (qP s).isSome))):=by
 refine RW _ ?_
 unfold NO
 refine aN (Il s) (jv.ne _ _ (fun h=>h)) ?_
 rintro r o ⟨c,d,hd,rfl,hh⟩
 have hhas:bz [.str,.sl] [.v (.string (mk c)),d] 0:=by simp[bz,dM,hd]
 simp only[↓zq,zs,ac,zt,ve]
 exact⟨hhas,rfl,rfl⟩
theorem Q5{e:E}(h:Wf e)(hl:e.df<=400)(hs:vq (cR e [])):ap Tryz.prog 158 [.agg [.v (.string (mk e.at)),e.sp]] [] (bG (su (told (cR e [])))):=by
 refine QL _ _ ((aX _).mpr trivial) ?_
 unfold Ma
 have z:=h.sz
 have ma:=Ey e h.ok (by omega)
 rw[cX]at ma
 have hA:=DQ h zH [] ⟨(bc).mpr trivial,rfl⟩ (by omega) (fun o ho=>by cases ho) (by simp)
 have ha:(cR e []).aD<=400:=by rw[<-h.df []];exact hl
 have hc:zP e []=(gY (bP (cR e []) []) (cR e []) [] 0).1:=by
  unfold zP A1 si
  rw[List.flatMap_nil,cY,jK (F':=bP (cR e []) []) fun y=>by rw[lN h,eI]]
 have hx:eU (zP e [])=Fp (cR e []):=by rw[hc];rfl
 have hlen:=DU h.rn hs ha
 have hT:=BX (zP e []) (wX h).1.ok (by rw[hx];omega)
 rw[cX,hx]at hT
 refine ai ma ?_
 simp only[↓zq,zs,ac,zt]
 refine⟨fun h=>by omega,fun _=>?_⟩
 refine ai hA ?_
 simp only[↓zq,zs,ac,zt,aK]
 refine ai hT ?_
 simp only[↓zq,zs,ac,zt]
 refine ai (Ri _) ?_
 simp only[↓zq,zs,ac,zt]
 unfold told
 refine⟨fun hn=>?_,fun hy=>?_⟩
 ·rw[if_neg (by rw[hn];simp)];exact⟨rfl,rfl⟩
 ·rw[if_pos ⟨ha,hy⟩];exact⟨rfl,rfl⟩
abbrev mh:Nm:=[35,49]
noncomputable def cK (s:Nm):Option Nm:=match qP s with
 |some (.rc a)=>(pH a mh).bind told
 |_=>none
theorem qa{s:Nm}{t:Ty}(h:qP s=some t):∃e,wS s=some e/\Wf e/\cR e []=t/\e.df<=400/\e.ok:=by
 rw[ur]at h
 cases he:wS s with
 |none=>rw[he]at h;cases h
 |
  some e =>
  rw[he]at h
  obtain⟨h1,h2,h3⟩:=pR he
  obtain⟨hok,_⟩:=oc h1
  obtain⟨w1,w2⟩:=kf e [] t hok (fun w hw=>by cases hw) h
  exact⟨e,rfl,w1,w2,h3,hok⟩
theorem sB{e:E}{x:Nm}{a d:Ty}(hw:Wf e)(ht:cR e []=.rc a)(hx:rk x)(hd:pH a x=some d):fW d/\(vq (.rc a)->vq d):=by
 simp only[pH,bu,cU,fe]at hd
 obtain⟨d',h1,_,rfl⟩:=hd
 have g:fW (.rc a):=ht ▸ hw.rn
 have go:fW (dO (.name x) a 0):=⟨iW x a g.1,fun y hy=>by
  rcases gJ a 0 hy with rfl|h
  ·exact hx
  ·exact g.2 y h⟩
 refine⟨g.sub (go.dv h1),fun hs y hy=>?_⟩
 rcases jf _ hy with h|⟨h,h'⟩
 ·exact hs y h
 ·rcases gJ a 0 (h1.names y h')with e|e
  ·exact absurd e h
  ·exact hs y e
def OI(y:Nm):Prop:=gU y=true\/dk y=true
theorem iS:∀(e:E) (ar:List Nm) (t:Ty),cS e ar=some t->∀y,bo y t=true->OI y
 |
  .atom s,ar,t,ht,y,hy=>by
  simp only[cS]at ht
  split at ht
  ·cases ht;cases hy
  ·split at ht
   ·cases ht;cases hy
   ·split at ht
    ·rename_i hp
     cases ht
     simp only[bo,decide_eq_true_eq]at hy
     subst hy;exact .inl hp
    ·split at ht
     ·rename_i hq
      split at ht
      ·cases ht;cases hy
      ·cases ht
       simp only[bo,decide_eq_true_eq]at hy
       subst hy;exact .inr hq
     ·cases ht
 |
  .list [x,a,b],ar,t,ht,y,hy=>by
  by_cases h0:x.at=[43]
  ·obtain⟨t1,t2,h1,h2,rfl⟩:=fJ h0 ht
   simp only[bo,bE]at hy
   rcases hy with hy|hy
   ·exact iS a ar t1 h1 y hy
   ·exact iS b ar t2 h2 y hy
  ·by_cases h1:x.at=[42]
   ·obtain⟨t1,t2,h2,h3,rfl⟩:=eY h1 ht
    simp only[bo,bE]at hy
    rcases hy with hy|hy
    ·exact iS a ar t1 h2 y hy
    ·exact iS b ar t2 h3 y hy
   ·by_cases h2:x.at=[114,101,99]
    ·obtain⟨t1,hla,h3,rfl⟩:=dB h2 ht
     exact iS b _ t1 h3 y hy
    ·rw[iZ _ h0 h1 h2]at ht;cases ht
 | .list [],ar,t,ht,_,_=>by cases ht
 | .list [_],ar,t,ht,_,_=>by cases ht
 | .list [_,_],ar,t,ht,_,_=>by cases ht
 | .list (_::_::_::_::_),ar,t,ht,_,_=>by cases ht
theorem xZ{y:Nm}(h:OI y):y.length<=3/\∀r,y≠35::r:=by
 have key:∀lo hi,116<=lo->named lo hi y=true->y.length<=3/\∀r,y≠35::r:=fun lo hi hlo h=>by
  cases y with
  |nil=>cases h
  |
   cons c r =>
   simp only[named,az,decide_eq_true_eq]at h
   refine⟨by simp;omega,fun r' e=>?_⟩
   have:c=35:=by injection e
   subst this
   have:=h.1.2.1
   have e35:(35:UInt8).toNat=35:=rfl
   omega
 rcases h with h|h
 ·exact key 120 122 (by omega) h
 ·exact key 116 116 (by omega) h
theorem nf{s:Nm}{t:Ty}(h:qP s=some t):∀y,bo y t=true->OI y:=by
 rw[ur]at h
 cases he:wS s with
 |none=>rw[he]at h;cases h
 |some e=>rw[he]at h;exact iS e [] t h
theorem xM{s:Nm}{a:Ty}(h:qP s=some (.rc a)):bo mh a=false:=by
 cases q:bo mh a with
 |false=>rfl
 |true=>exact absurd rfl ((xZ (nf h mh q)).2 [49])
theorem Cw{s:Nm}{t:Ty}(h:qP s=some t):vq t:=fun y hy=>by have:=(xZ (nf h y hy)).1;omega
theorem SF{m:Nm}{B:E}(hm:rk m)(hB:Wf B)(hl:(E.list [.atom dE,.atom m,B]).df<=400):ap Tryz.prog 157 [.agg [.v (.string (mk [])),(E.list [.atom dE,.atom m,B]).sp]] [] (lq (pH (cR B [m]) m)):=by
 have hw:Wf (.list [.atom dE,.atom m,B]):=.rc hm hB
 have hT:cR (.list [.atom dE,.atom m,B]) []=.rc (cR B [m]):=fh _ _ _
 have hP:=P3.of (.atom dE) (.atom m) B
 have hbo:cR B []=dO (.name m) (cR B [m]) 0:=by
  have:=zB m hB []
  rw[cY]at this;exact this
 have hba:B.df+2=(E.list [.atom dE,.atom m,B]).df:=by simp only[E.df,E.eT];omega
 have i1:=Am 400 B m hB (by omega) (by omega) hm
 have n1:=ky (s:=m) hB
 rw[hbo]at i1 n1
 refine RJ _ _ ((aX _).mpr trivial) ?_
 simp only[MR,bN,toNat_one,bg,↓zq,zs,ac,zt,hP.1,hP.2.1,hP.2.2.1,hP.2.2.2,aK,dU]
 repeat refine⟨by omega,?_⟩
 refine aN i1 (lq.ne n1) ?_
 rintro r o ⟨rfl,c1,d1,hd1,rfl,hc1⟩
 simp only[↓zq,zs,ac,zt,gG hd1,pH]
 cases q1:lU (dO (.name m) (cR B [m]) 0) m with
 |
  none =>
  simp only[bn,bH]
  exact⟨fun _=>lq.no _ _ ((aX _).mpr trivial),fun h=>(by cases h)⟩
 |
  some d =>
  simp only[a6,aV]
  refine⟨fun h=>(by cases h),fun _=>?_⟩
  obtain⟨ed,wd,td,rfl,rfl⟩:=hc1 d q1
  have p1:=FR hm wd hw (wd.iM td (cU.1 q1).small) hl
  have g1:=rp (hw.rn.sub (x:=m) wd.rn)
  rw[hT,td]at p1 g1
  simp only[bN]at p1
  repeat refine⟨by omega,?_⟩
  refine aN p1 (lq.ne g1) ?_
  rintro r o ⟨rfl,c2,d2,hd2,rfl,hc2⟩
  simp only[↓zq,zs,ac,zt,gG hd2]
  exact⟨rfl,c2,d2,hd2,rfl,hc2⟩
theorem OV(s:Nm):ap Tryz.prog 136 [.v (.string (mk s))] [] (bG (su (cK s))):=by
 refine R1 _ ?_
 unfold Np
 refine aN (Il s) (jv.ne _ _ (fun h=>h)) ?_
 rintro r o ⟨c,d,hd,rfl,hh⟩
 have hhas:bz [.str,.sl] [.v (.string (mk c)),d] 0:=by simp[bz,dM,hd]
 simp only[↓zq,zs,ac,zt]
 refine⟨hhas,fun h=>?_,fun h=>?_⟩
 ·rw[ve]at h
  have:qP s=none:=by cases hq:qP s<;>simp[hq]at h |-
  unfold cK;rw[this];exact⟨rfl,rfl⟩
 ·rw[ve]at h
  obtain⟨t,ht⟩:=bF.1 h
  obtain⟨e,he,hw,hte,hats,hok⟩:=qa ht
  obtain⟨e',he',hce⟩:=hh (by rw[he];rfl)
  rw[he]at he';cases he'
  have notRec:(∀a,t≠.rc a)->cK s=none:=fun hn=>by
   unfold cK;rw[ht]
   cases t<;>first|rfl|exact absurd rfl (hn _)
  rw[hce,cX]
  cases hw with
  |
   @atom c hc =>
   have hn:cK s=none:=notRec fun a q=>by
    rw[<-hte]at q
    simp only[cR]at q
    split at q
    ·cases q
    ·split at q
     ·cases q
     ·split at q<;>cases q
   rw[hn]
   refine ai (AB c _ ((aX _).mpr trivial) hc) ?_
   simp only[↓zq,zs,ac,zt]
   exact⟨fun _=>⟨rfl,rfl⟩,fun h=>by simp at h⟩
  |
   @plus x y hx hy =>
   have hn:cK s=none:=notRec fun a q=>by rw[<-hte,dN]at q;cases q
   rw[hn]
   simp only[bN]
   refine ai (om [43] x y) ?_
   simp only[↓zq,zs,ac,zt]
   exact⟨fun _=>⟨rfl,rfl⟩,fun h=>by simp at h⟩
  |
   @times x y hx hy =>
   have hn:cK s=none:=notRec fun a q=>by rw[<-hte,du]at q;cases q
   rw[hn]
   simp only[bN]
   refine ai (om [42] x y) ?_
   simp only[↓zq,zs,ac,zt]
   exact⟨fun _=>⟨rfl,rfl⟩,fun h=>by simp at h⟩
  |
   @rc m B hm hB =>
   have hrt:cR (.list [.atom dE,.atom m,B]) []=.rc (cR B [m]):=fh _ _ _
   rw[hrt]at hte
   have hq:cK s=(pH (cR B [m]) m).bind told:=by
    unfold cK;rw[ht,<-hte]
    show (pH (cR B [m]) mh).bind told=_
    rw[Jk (xM (by rw[ht,<-hte])) (by
     cases q:bo m (cR B [m])with
     |false=>rfl
     |true=>exact absurd (by simp) (nn hB [m] m q).2)]
   rw[hq]
   simp only[bN]
   refine ai (om dE (.atom m) B) ?_
   simp only[↓zq,zs,ac,zt]
   refine⟨fun h=>by simp at h,fun _=>?_⟩
   have hgood:∀d,pH (cR B [m]) m=some d->fW d/\(vq (.rc (cR B [m]))->vq d):=fun d hd=>sB (Wf.rc hm hB) hrt hm hd
   refine aN (SF hm hB hats) (lq.ne fun t h=>(hgood t h).1) ?_
   rintro r o ⟨rfl,c1,d1,hd1,rfl,hc1⟩
   simp only[↓zq,zs,ac,zt,gG hd1]
   cases q1:pH (cR B [m]) m with
   |
    none =>
    simp only[bn,bH]
    exact⟨fun _=>⟨rfl,rfl⟩,fun h=>(by cases h)⟩
   |
    some d =>
    simp only[a6,aV]
    refine⟨fun h=>(by cases h),fun _=>?_⟩
    obtain⟨ed,wd,td,rfl,rfl⟩:=hc1 d q1
    have hl:d.aD<=400:=by
     simp only[pH,bu,fe]at q1
     obtain⟨_,_,h1,h2⟩:=q1
     rw[<-h2];exact h1
    have hcn:=Q5 wd (wd.iM td hl) (by rw[td];exact(hgood d q1).2 (hte ▸ Cw ht))
    rw[td]at hcn
    refine ai hcn ?_
    cases told d<;>simp only[su,↓zq,zs,ac,zt]<;>exact⟨rfl,rfl⟩
end Go.Proofs.Trees
namespace Go.Proofs.Trees
open Go Go.VL Go.RowKit
def vT(n:Nat):Vl->Ty->Bool
 | .u,.one=>true
 | .el k,.name _=>decide (k<n)
 | .l w,.plus a _=>vT n w a
 | .r w,.plus _ b=>vT n w b
 | .p x y,.times a b=>vT n x a&&vT n y b
 | .f w,.rc a=>vT n w (dO (.rc a) a 0)
 |_,_=>false
def mi(us:List Ty):Ty->Nat->Ty
 | .bW k,i=>if k<i then .bW k else us.getD (k-i) .zero
 | .plus a b,i=>.plus (mi us a i) (mi us b i)
 | .times a b,i=>.times (mi us a i) (mi us b i)
 | .rc a,i=>.rc (mi us a (i+1))
 |t,_=>t
def zy:List Fr->List Ty
 |[]=>[]
 |f::r=>mi (zy r) (zK f.ex r) 0::zy r
theorem mb(u:Ty):∀(t:Ty) {i:Nat},j9 t i->dO u t i=t
 | .bW k,i,h=>by simp only[dO];rw[if_neg (by have:k<i:=h;omega)]
 | .plus a b,i,h=>by simp only[dO];rw[mb u a h.1,mb u b h.2]
 | .times a b,i,h=>by simp only[dO];rw[mb u a h.1,mb u b h.2]
 | .rc a,i,h=>by simp only[dO];rw[mb u a (i:=i+1) h]
 | .zero,_,_=>rfl
 | .one,_,_=>rfl
 | .name _,_,_=>rfl
theorem pQ(us:List Ty):∀(t:Ty) {i:Nat},j9 t i->mi us t i=t
 | .bW k,i,h=>by simp only[mi];rw[if_pos (by have:k<i:=h;omega)]
 | .plus a b,i,h=>by simp only[mi];rw[pQ us a h.1,pQ us b h.2]
 | .times a b,i,h=>by simp only[mi];rw[pQ us a h.1,pQ us b h.2]
 | .rc a,i,h=>by simp only[mi];rw[pQ us a (i:=i+1) h]
 | .zero,_,_=>rfl
 | .one,_,_=>rfl
 | .name _,_,_=>rfl
theorem yA{us:List Ty}(hu:∀u,u∈us->j9 u 0)(k:Nat):j9 (us.getD k .zero) 0:=by
 by_cases h:k<us.length
 ·rw[aa,bm h];exact hu _ (bB h)
 ·rw[aa,List.getElem?_eq_none (by omega)];trivial
theorem p7{us:List Ty}(hu:∀u,u∈us->j9 u 0):∀(t:Ty) (i:Nat),j9 (mi us t i) i
 |
  .bW k,i=>by
  simp only[mi]
  split
  ·rename_i h;exact h
  ·exact gF _ (yA hu _) (dF _)
 | .plus a b,i=>⟨p7 hu a i,p7 hu b i⟩
 | .times a b,i=>⟨p7 hu a i,p7 hu b i⟩
 | .rc a,i=>p7 hu a (i+1)
 | .zero,_=>trivial
 | .one,_=>trivial
 | .name _,_=>trivial
theorem na{us:List Ty}(hu:∀u,u∈us->j9 u 0)(U:Ty):∀(t:Ty) (i:Nat),dO U (mi us t (i+1)) i=mi (U::us) t i
 |
  .bW k,i=>by
  simp only[mi]
  by_cases h1:k<i
  ·rw[if_pos (by omega),if_pos h1];simp only[dO];rw[if_neg (by omega)]
  ·rw[if_neg h1]
   by_cases h2:k=i
   ·subst h2;rw[if_pos (by omega)];simp[dO]
   ·rw[if_neg (by omega),mb U _ (gF _ (yA hu _) (dF _)),show k-i=(k-(i+1))+1 by omega,List.getD_cons_succ]
 | .plus a b,i=>by simp only[mi,dO];rw[na hu U a i,na hu U b i]
 | .times a b,i=>by simp only[mi,dO];rw[na hu U a i,na hu U b i]
 | .rc a,i=>by simp only[mi,dO];rw[na hu U a (i+1)]
 | .zero,_=>rfl
 | .one,_=>rfl
 | .name _,_=>rfl
theorem xh:∀env:List Fr,∀u,u∈zy env->j9 u 0
 |[],u,h=>by cases h
 |
  f::r,u,h=>by
  rcases aH.1 h with rfl|h
  ·exact p7 (xh r) _ 0
  ·exact xh r u h
theorem Ek{env:List Fr}(h:WF env):∀{u:Nat} {g:Fr},env[u]?=some g->(zy env).getD u .zero=mi (zy g.out) (zK g.ex g.out) 0:=by
 induction h with
 |nil=>intro u g hg;simp at hg
 |
  cons hs hok hx ht hf hr ih =>
  intro u g hg
  cases u with
  |zero=>simp at hg;subst hg;rfl
  |
   succ u =>
   have:=ih (u:=u) (g:=g) (by simpa using hg)
   simpa[zy]using this
theorem pW(n:Nat):∀(m:Nat) (v:Vl),v.nodes<=m->∀(e:E) (env:List Fr) (t:Ty),Ask e env t->eG n v (e,env)=vT n v (mi (zy env) t 0)
 |0,v,hm=>by have:=da v;omega
 |
  m+1,v,hm=>by
  intro e env t A
  have recCase:∀(x a b:E) (env:List Fr) (t1:Ty),Ask (.list [x,a,b]) env (.rc t1)->x.at=[114,101,99]->eG n v (.list [x,a,b],env)=vT n v (mi (zy env) (.rc t1) 0):=by
   intro x a b env t1 A hx
   have hhd:hd (.list [x,a,b]) env=(.list [x,a,b],env):=p8 A.wf
   obtain⟨t1',he1,h1,f1,hw1⟩:=jl A.wf A.ok hx A.ty A.cl
   cases he1
   obtain⟨ok1,ok2,ok3,_⟩:=A.ok
   have A':Ask b (.mk a.at (.list [x,a,b]) env::env) t1:=⟨ok3,hw1,h1,f1⟩
   cases v with
   |
    f w =>
    simp only[Vl.nodes]at hm
    simp only[eG,hhd,hx,beq_self_eq_true,bX]
    rw[pW n m w (by omega) b _ t1 A']
    have hty:zK (.list [x,a,b]) env=.rc t1:=by unfold zK;rw[A.ty];rfl
    show vT n w (mi (mi (zy env) (zK (.list [x,a,b]) env) 0::zy env) t1 0)=vT n w (dO (.rc (mi (zy env) t1 1)) (mi (zy env) t1 1) 0)
    rw[hty,na (xh env)]
    rfl
   |_=>simp[eG,hhd,hx,mi,vT]
  rcases gx A.wf A.ty with⟨hb,hq⟩|⟨u,g,rfl,hq,hu⟩
  ·have hhd:hd e env=(e,env):=kq hq
   rcases fF A.ty hb A.cl with⟨rfl,rfl⟩|⟨rfl,rfl⟩|⟨s,rfl,rfl,hp,h0,h1⟩|⟨x,a,b,t1,t2,rfl,hx,rfl,ha,hbb⟩|⟨x,a,b,t1,t2,rfl,hx,rfl,ha,hbb⟩|⟨x,a,b,t1,rfl,hx,rfl⟩
   ·have hp0:gU [48]=false:=rfl
    cases v<;>simp[eG,hhd,mi,vT,hp0]
   ·cases v<;>simp[eG,hhd,mi,vT]
   ·cases v<;>simp[eG,hhd,mi,vT,hp,h1]
   ·obtain⟨ok1,ok2,ok3,_⟩:=A.ok
    obtain⟨f1,f2⟩:=fq A.cl
    cases v with
    |
     l w =>
     simp only[Vl.nodes]at hm
     simp only[eG,hhd,hx,beq_self_eq_true,bX,mi,vT]
     exact pW n m w (by omega) a env t1 ⟨ok2,A.wf,ha,f1⟩
    |
     r w =>
     simp only[Vl.nodes]at hm
     simp only[eG,hhd,hx,beq_self_eq_true,bX,mi,vT]
     exact pW n m w (by omega) b env t2 ⟨ok3,A.wf,hbb,f2⟩
    |_=>simp[eG,hhd,hx,mi,vT]
   ·obtain⟨ok1,ok2,ok3,_⟩:=A.ok
    obtain⟨f1,f2⟩:=eQ A.cl
    cases v with
    |
     p w w' =>
     simp only[Vl.nodes]at hm
     simp only[eG,hhd,hx,beq_self_eq_true,bX,mi,vT]
     rw[pW n m w (by omega) a env t1 ⟨ok2,A.wf,ha,f1⟩,pW n m w' (by omega) b env t2 ⟨ok3,A.wf,hbb,f2⟩]
    |_=>simp[eG,hhd,hx,mi,vT]
   ·exact recCase x a b env t1 A hx
  ·obtain⟨x,a,b,t',hfe,hok,hx,ht',hf',hwf,hlt⟩:=oX A.wf hq
   have hrec:hd g.ex g.out=(g.ex,g.out):=by rw[hfe];exact p8 hwf
   rw[uY n v (qW hq) hrec]
   have hcl:mi (zy env) (.bW u) 0=mi (zy g.out) (zK g.ex g.out) 0:=by
    simp only[mi];rw[if_neg (by omega),Nat.sub_zero];exact Ek A.wf hu
   rw[hcl]
   have hty:zK g.ex g.out=t':=by unfold zK;rw[ht'];rfl
   rw[hty,hfe]
   rw[hfe]at ht'
   obtain⟨t1,_,_,rfl⟩:=dB hx ht'
   exact recCase x a b g.out t1 ⟨hok,hwf,ht',hf'⟩ hx
theorem oC{n:Nat}{v:Vl}{e:E}{t:Ty}(A:Ask e [] t):eG n v (e,[])=vT n v t:=by
 have:=pW n v.nodes v (aq _) e [] t A
 rw[this]
 obtain⟨w,ht⟩:=kf e [] t A.ok (fun w hw=>by cases hw) A.ty
 have hl:=uz w []
 rw[ht]at hl
 exact congrArg (vT n v) (pQ _ t hl)
def eZ(σ:Nm->Option Ty):Ty->Ty
 | .name s=>(σ s).getD (.name s)
 | .plus a b=>.plus (eZ σ a) (eZ σ b)
 | .times a b=>.times (eZ σ a) (eZ σ b)
 | .rc a=>.rc (eZ σ a)
 |t=>t
def jm(σ:Nm->Option Ty)(x:Nm)(u:Ty):Nm->Option Ty:=fun s=>if s=x then some u else σ s
theorem jg(σ:Nm->Option Ty)(x:Nm)(u:Ty):∀t:Ty,eZ σ (sub x u t)=eZ (jm σ x (eZ σ u)) t
 |
  .name s=>by
  by_cases h:s=x
  ·simp[sub,eZ,jm,h]
  ·simp[sub,eZ,jm,h]
 | .plus a b=>by simp only[sub,eZ,jg σ x u a,jg σ x u b]
 | .times a b=>by simp only[sub,eZ,jg σ x u a,jg σ x u b]
 | .rc a=>by simp only[sub,eZ,jg σ x u a]
 | .zero=>rfl
 | .one=>rfl
 | .bW k=>rfl
def Eu(σ:Nm->Option Ty):Prop:=∀s u,σ s=some u->j9 u 0
theorem kI{σ:Nm->Option Ty}(hσ:Eu σ):∀(t:Ty) {i:Nat},j9 t i->j9 (eZ σ t) i
 |
  .name s,i,_=>by
  simp only[eZ]
  cases q:σ s with
  |none=>trivial
  |some u=>exact gF u (hσ s u q) (dF _)
 | .plus a b,i,h=>⟨kI hσ a h.1,kI hσ b h.2⟩
 | .times a b,i,h=>⟨kI hσ a h.1,kI hσ b h.2⟩
 | .rc a,i,h=>kI hσ a (i:=i+1) h
 | .zero,_,_=>trivial
 | .one,_,_=>trivial
 | .bW k,_,h=>h
theorem jD{σ:Nm->Option Ty}(hσ:Eu σ)(x:Nm)(U:Ty):∀(t:Ty) (i:Nat),bo x t=false->eZ (jm σ x U) (dO (.name x) t i)=dO U (eZ σ t) i
 |
  .name s,i,h=>by
  have hs:s≠x:=by simpa[bo]using h
  simp only[dO,eZ,jm,if_neg hs]
  cases q:σ s with
  |none=>rfl
  |some u=>exact(mb U u (gF u (hσ s u q) (dF _))).symm
 |
  .bW k,i,h=>by
  simp only[dO,eZ]
  split
  ·simp[eZ,jm]
  ·rfl
 |
  .plus a b,i,h=>by
  simp only[bo,cD]at h
  simp only[dO,eZ,jD hσ x U a i h.1,jD hσ x U b i h.2]
 |
  .times a b,i,h=>by
  simp only[bo,cD]at h
  simp only[dO,eZ,jD hσ x U a i h.1,jD hσ x U b i h.2]
 | .rc a,i,h=>by simp only[dO,eZ,jD hσ x U a (i+1) h]
 | .zero,_,_=>rfl
 | .one,_,_=>rfl
theorem pE{σ:Nm->Option Ty}(hσ:Eu σ)(x:Nm){u:Ty}(hu:j9 u 0):Eu (jm σ x u):=fun s v h=>by
 unfold jm at h
 split at h
 ·cases h;exact hu
 ·exact hσ s v h
theorem i7(x:Nm):∀(n:Nat) (c:Vl) (t:Ty) (i:Nat),c.nodes<=n->dJ (dO (.name x) t i) c=dJ t c
 |0,c,_,_,h=>by have:=da c;omega
 |
  n+1,c,t,i,hn=>by
  cases t with
  |bW k=>simp only[dO];split<;>(cases c<;>rfl)
  |
   plus a b =>
   cases c with
   |l c=>simp only[Vl.nodes]at hn;exact i7 x n c a i (by omega)
   |r c=>simp only[Vl.nodes]at hn;exact i7 x n c b i (by omega)
   |_=>rfl
  |
   times a b =>
   cases c with
   |
    l c =>
    cases c with
    |p y z=>simp only[Vl.nodes]at hn;exact i7 x n y a i (by omega)
    |_=>rfl
   |
    r c =>
    cases c with
    |p y z=>simp only[Vl.nodes]at hn;exact i7 x n z b i (by omega)
    |_=>rfl
   |_=>rfl
  |
   rc a =>
   cases c with
   |
    f c =>
    cases c with
    |l y=>simp only[Vl.nodes]at hn;exact i7 x n y a (i+1) (by omega)
    |
     r c =>
     cases c with
     |
      p y z =>
      simp only[Vl.nodes]at hn
      have h1:=i7 x n y a (i+1) (by omega)
      have h2:=i7 x n z (.rc a) i (by omega)
      show (dJ (dO (.name x) a (i+1)) y&&dJ (.rc (dO (.name x) a (i+1))) z)=(dJ a y&&dJ (.rc a) z)
      rw[h1]
      exact congrArg _ h2
     |_=>rfl
    |_=>rfl
   |_=>rfl
  |_=>rfl
end Go.Proofs.Trees
namespace Go.Proofs.Trees
open Go Go.VL Go.RowKit
theorem eX(x:Nm):∀(n:Nat) (c:Vl) (t:Ty) (i:Nat) (v:Vl),c.nodes<=n->dC (dO (.name x) t i) c v=dC t c v
 |0,c,_,_,_,h=>by have:=da c;omega
 |
  n+1,c,t,i,v,hn=>by
  cases t with
  |bW k=>simp only[dO];split<;>(cases c<;>rfl)
  |
   plus a b =>
   cases c with
   |l c=>simp only[Vl.nodes]at hn;exact congrArg Vl.l (eX x n c a i v (by omega))
   |r c=>simp only[Vl.nodes]at hn;exact congrArg Vl.r (eX x n c b i v (by omega))
   |_=>rfl
  |
   times a b =>
   cases c with
   |
    l c =>
    cases c with
    |p y z=>simp only[Vl.nodes]at hn;exact congrArg (fun q=>Vl.p q z) (eX x n y a i v (by omega))
    |_=>rfl
   |
    r c =>
    cases c with
    |p y z=>simp only[Vl.nodes]at hn;exact congrArg (Vl.p y) (eX x n z b i v (by omega))
    |_=>rfl
   |_=>rfl
  |
   rc a =>
   cases c with
   |
    f c =>
    cases c with
    |l y=>simp only[Vl.nodes]at hn;exact congrArg Vl.f (eX x n y a (i+1) v (by omega))
    |
     r c =>
     cases c with
     |
      p y z =>
      simp only[Vl.nodes]at hn
      have h2:=eX x n z (.rc a) i v (by omega)
      have h1:=eX x n y a (i+1) (dC (.rc a) z v) (by omega)
      show Vl.f (dC (dO (.name x) a (i+1)) y (dC (.rc (dO (.name x) a (i+1))) z v))=Vl.f (dC a y (dC (.rc a) z v))
      have h3:dC (.rc (dO (.name x) a (i+1))) z v=dC (.rc a) z v:=h2
      rw[h3,h1]
     |_=>rfl
    |_=>rfl
   |_=>rfl
  |_=>rfl
theorem E0{n:Nat}{c:Vl}{a:Ty}(h:vT n c (.rc a)=true):∃w,c=.f w/\vT n w (dO (.rc a) a 0)=true:=by
 cases c with
 |f w=>exact⟨w,rfl,h⟩
 |_=>simp[vT]at h
theorem lO{n:Nat}{c:Vl}{a b:Ty}(h:vT n c (.plus a b)=true):(∃w,c=.l w/\vT n w a=true)\/∃w,c=.r w/\vT n w b=true:=by
 cases c with
 |l w=>exact .inl ⟨w,rfl,h⟩
 |r w=>exact .inr ⟨w,rfl,h⟩
 |_=>simp[vT]at h
theorem jP{n:Nat}{c:Vl}{a b:Ty}(h:vT n c (.times a b)=true):∃x y,c=.p x y/\vT n x a=true/\vT n y b=true:=by
 cases c with
 |p x y=>simp only[vT,az]at h;exact⟨x,y,rfl,h.1,h.2⟩
 |_=>simp[vT]at h
theorem sH{σ:Nm->Option Ty}(hσ:Eu σ){a c d:Ty}{x:Nm}(ha:j9 (.rc a) 0)(hc:j9 c 0)(hd:j9 d 0):∃X,eZ σ (qb a x c d)=.rc X/\dO (.rc X) X 0=.plus (eZ (jm σ x (eZ σ (.rc a))) c) (.times (eZ (jm σ x (eZ σ (.rc a))) d) (eZ σ (qb a x c d))):=by
 refine⟨.plus (eZ σ (sub x (.rc a) c)) (.times (eZ σ (sub x (.rc a) d)) (.bW 0)),rfl,?_⟩
 have h1:=kI hσ (sub x (.rc a) c) (kJ ha c hc)
 have h2:=kI hσ (sub x (.rc a) d) (kJ ha d hd)
 simp only[dO,mb _ _ h1,mb _ _ h2,if_true]
 rw[jg,jg]
 simp only[qb,eZ,jg]
theorem wE(n:Nat):∀(m:Nat) (c:Vl),c.nodes<=m->∀(t:Ty) (s:Nm) (d:Ty) (σ:Nm->Option Ty),Dv t s d->Eu σ->j9 t 0->vT n c (eZ σ d)=true->dJ t c=true
 |0,c,h=>by have:=da c;omega
 |
  m+1,c,hm=>by
  intro t s d σ hd hσ hl hv
  cases hd with
  |zero=>cases c<;>rfl
  |one=>cases c<;>rfl
  |bW=>cases c<;>rfl
  |hit=>cases c<;>rfl
  |ss=>cases c<;>rfl
  |
   plus h1 h2 _ =>
   rcases lO hv with⟨w,rfl,hw⟩|⟨w,rfl,hw⟩
   ·simp only[Vl.nodes]at hm;exact wE n m w (by omega) _ s _ σ h1 hσ hl.1 hw
   ·simp only[Vl.nodes]at hm;exact wE n m w (by omega) _ s _ σ h2 hσ hl.2 hw
  |
   times h1 h2 _ =>
   rcases lO hv with⟨w,rfl,hw⟩|⟨w,rfl,hw⟩
   ·obtain⟨x,y,rfl,hx,hy⟩:=jP hw
    simp only[Vl.nodes]at hm;exact wE n m x (by omega) _ s _ σ h1 hσ hl.1 hx
   ·obtain⟨x,y,rfl,hx,hy⟩:=jP hw
    simp only[Vl.nodes]at hm;exact wE n m y (by omega) _ s _ σ h2 hσ hl.2 hy
  |
   @rc a _ c0 d0 x hx hs h1 h2 hsz =>
   have lo:j9 (dO (.name x) a 0) 0:=iW x a hl
   obtain⟨X,e1,e2⟩:=sH (x:=x) hσ hl (h1.lc lo) (h2.lc lo)
   have hv':=hv
   rw[e1]at hv'
   obtain⟨w,rfl,hw⟩:=E0 hv'
   rw[e2]at hw
   have hcl:=pE hσ x (kI hσ (.rc a) hl)
   rcases lO hw with⟨y,rfl,hy⟩|⟨y,rfl,hy⟩
   ·simp only[Vl.nodes]at hm
    have:=wE n m y (by omega) _ s _ _ h1 hcl lo hy
    rw[i7 x y.nodes y a 0 (aq _)]at this
    exact this
   ·obtain⟨y,z,rfl,hy,hz⟩:=jP hy
    simp only[Vl.nodes]at hm
    have q1:=wE n m y (by omega) _ x _ _ h2 hcl lo hy
    rw[i7 x y.nodes y a 0 (aq _)]at q1
    have q2:=wE n m z (by omega) (.rc a) s _ σ (.rc x hx hs h1 h2 hsz) hσ hl hz
    show (dJ a y&&dJ (.rc a) z)=true
    rw[q1,q2];rfl
theorem qn(n:Nat):∀(m:Nat) (c:Vl),c.nodes<=m->∀(t:Ty) (s:Nm) (d:Ty) (σ:Nm->Option Ty),Dv t s d->Eu σ->j9 t 0->vT n c (eZ σ d)=true->∀v,vT n v (eZ σ (.name s))=true->vT n (dC t c v) (eZ σ t)=true
 |0,c,h=>by have:=da c;omega
 |
  m+1,c,hm=>by
  intro t s d σ hd hσ hl hv v hvv
  have no:∀c,vT n c .zero=false:=fun c=>by cases c<;>rfl
  cases hd with
  |zero=>rw[show eZ σ .zero=.zero from rfl,no]at hv;cases hv
  |one=>rw[show eZ σ .zero=.zero from rfl,no]at hv;cases hv
  |bW=>rw[show eZ σ .zero=.zero from rfl,no]at hv;cases hv
  |ss=>rw[show eZ σ .zero=.zero from rfl,no]at hv;cases hv
  |hit=>rw[nr];exact hvv
  |
   plus h1 h2 _ =>
   rcases lO hv with⟨w,rfl,hw⟩|⟨w,rfl,hw⟩
   ·simp only[Vl.nodes]at hm;exact qn n m w (by omega) _ s _ σ h1 hσ hl.1 hw v hvv
   ·simp only[Vl.nodes]at hm;exact qn n m w (by omega) _ s _ σ h2 hσ hl.2 hw v hvv
  |
   times h1 h2 _ =>
   rcases lO hv with⟨w,rfl,hw⟩|⟨w,rfl,hw⟩
   ·obtain⟨x,y,rfl,hx,hy⟩:=jP hw
    simp only[Vl.nodes]at hm
    have:=qn n m x (by omega) _ s _ σ h1 hσ hl.1 hx v hvv
    show (vT n _ _&&vT n _ _)=true
    rw[this,hy];rfl
   ·obtain⟨x,y,rfl,hx,hy⟩:=jP hw
    simp only[Vl.nodes]at hm
    have:=qn n m y (by omega) _ s _ σ h2 hσ hl.2 hy v hvv
    show (vT n _ _&&vT n _ _)=true
    rw[this,hx];rfl
  |
   @rc a _ c0 d0 x hx hs h1 h2 hsz =>
   have lo:j9 (dO (.name x) a 0) 0:=iW x a hl
   obtain⟨X,e1,e2⟩:=sH (x:=x) hσ hl (h1.lc lo) (h2.lc lo)
   have hv':=hv
   rw[e1]at hv'
   obtain⟨w,rfl,hw⟩:=E0 hv'
   rw[e2]at hw
   have hcl:=pE hσ x (kI hσ (.rc a) hl)
   have hop:eZ (jm σ x (eZ σ (.rc a))) (dO (.name x) a 0)=dO (eZ σ (.rc a)) (eZ σ a) 0:=jD hσ x _ a 0 hx
   have hns:eZ (jm σ x (eZ σ (.rc a))) (.name s)=eZ σ (.name s):=by simp only[eZ,jm,if_neg (Ne.symm hs)]
   have hnx:eZ (jm σ x (eZ σ (.rc a))) (.name x)=eZ σ (.rc a):=by simp[eZ,jm]
   rcases lO hw with⟨y,rfl,hy⟩|⟨y,rfl,hy⟩
   ·simp only[Vl.nodes]at hm
    have:=qn n m y (by omega) _ s _ _ h1 hcl lo hy v (by rw[hns];exact hvv)
    rw[hop,eX x y.nodes y a 0 v (aq _)]at this
    exact this
   ·obtain⟨y,z,rfl,hy,hz⟩:=jP hy
    simp only[Vl.nodes]at hm
    have q2:=qn n m z (by omega) (.rc a) s _ σ (.rc x hx hs h1 h2 hsz) hσ hl hz v hvv
    have q1:=qn n m y (by omega) _ x _ _ h2 hcl lo hy (dC (.rc a) z v) (by rw[hnx];exact q2)
    rw[hop,eX x y.nodes y a 0 _ (aq _)]at q1
    exact q1
def HQ:Nm->Option Ty:=fun _=>none
theorem um:Eu HQ:=fun _ _ h=>by cases h
theorem jW:∀t:Ty,eZ HQ t=t
 | .name s=>rfl
 | .plus a b=>by simp only[eZ,jW a,jW b]
 | .times a b=>by simp only[eZ,jW a,jW b]
 | .rc a=>by simp only[eZ,jW a]
 | .zero=>rfl
 | .one=>rfl
 | .bW k=>rfl
theorem IE{n:Nat}{a D:Ty}{x:Nm}(hx:bo x a=false)(hl:j9 (.rc a) 0)(h:pH a x=some D){c:Vl}(hc:vT n c D=true) :
 dJ a c=true/\∀v,vT n v (.rc a)=true->vT n (.f (dC a c v)) (.rc a)=true:=by
 simp only[pH,bu,cU,fe]at h
 obtain⟨d,hd,_,rfl⟩:=h
 have lo:j9 (dO (.name x) a 0) 0:=iW x a hl
 have hcl:=pE um x hl
 have e1:sub x (.rc a) d=eZ (jm HQ x (.rc a)) d:=by
  have:=jg HQ x (.rc a) d
  rw[jW,jW]at this;exact this
 rw[e1]at hc
 have h1:=wE n c.nodes c (aq _) _ x _ _ hd hcl lo hc
 rw[i7 x c.nodes c a 0 (aq _)]at h1
 refine⟨h1,fun v hv=>?_⟩
 have h2:=qn n c.nodes c (aq _) _ x _ _ hd hcl lo hc v (by simpa[eZ,jm]using hv)
 rw[eX x c.nodes c a 0 v (aq _),jD um x _ a 0 hx,jW]at h2
 exact h2
end Go.Proofs.Trees
namespace Go.Proofs.Trees
open Go Go.VL Go.RowKit
theorem Gb{b:UInt8}(h:ij b=true):eV b=true:=by
 simp only[ij,eV,decide_eq_true_eq]at h |-;omega
theorem DJ{y:Nm}(h:OI y):y≠[]/\y.all eV=true:=by
 have key:∀lo hi,97<=lo->hi<=122->named lo hi y=true->y≠[]/\y.all eV=true:=fun lo hi h1 h2 h=>by
  cases y with
  |nil=>cases h
  |
   cons c r =>
   simp only[named,az,decide_eq_true_eq]at h
   refine⟨by simp,?_⟩
   rw[db,az]
   refine⟨?_,?_⟩
   ·simp only[eV,decide_eq_true_eq];omega
   ·rw[bZ]
    intro b hb
    exact Gb (bZ.1 h.2 b hb)
 rcases h with h|h
 ·exact key 120 122 (by omega) (by omega) h
 ·exact key 116 116 (by omega) (by omega) h
theorem Bg(m:Nat):(tN m).all eV=true:=by
 rw[db,xK (m+1) m (by omega)];rfl
theorem p6(F:List Nm):∀(t:Ty) (to:List Nm) (k:Nat),(∀y,bo y t=true->y≠[]/\y.all eV=true)->(∀w,w∈to->w≠[]/\w.all eV=true)->j9 t to.length->(gY F t to k).1.pr
 | .zero,_,_,_,_,_=>⟨by simp,by decide⟩
 | .one,_,_,_,_,_=>⟨by simp,by decide⟩
 | .name s,_,_,hn,_,_=>hn s (by simp[bo])
 |
  .bW u,to,_,_,ht,hl=>by
  have:to.length-1-u<to.length:=by have:u<to.length:=hl;omega
  show (E.atom (gk to u)).pr
  unfold gk
  rw[aa,bm this]
  exact ht _ (bB this)
 | .plus a b,to,k,hn,ht,hl=>⟨by simp,⟨by simp,by decide⟩,p6 F a to k (fun y hy=>hn y (by simp[bo,hy])) ht hl.1,p6 F b to _ (fun y hy=>hn y (by simp[bo,hy])) ht hl.2,trivial⟩
 | .times a b,to,k,hn,ht,hl=>⟨by simp,⟨by simp,by decide⟩,p6 F a to k (fun y hy=>hn y (by simp[bo,hy])) ht hl.1,p6 F b to _ (fun y hy=>hn y (by simp[bo,hy])) ht hl.2,trivial⟩
 |
  .rc a,to,k,hn,ht,hl=>by
  refine⟨by simp,⟨by simp,by decide⟩,⟨by simp,Bg _⟩,p6 F a (to++[tN (nx F k)]) _ hn (fun w hw=>?_) (by rw[an];exact hl),trivial⟩
  rcases aQ.1 hw with hw|hw
  ·exact ht w hw
  ·simp only[aT]at hw;rw[hw];exact⟨by simp,Bg _⟩
theorem AR{D:Ty}{dt:Nm}(g:fW D)(hn:∀y,bo y D=true->OI y)(h:told D=some dt):qP dt=some D:=by
 unfold told at h
 split at h
 ·rename_i hh
  cases h
  obtain⟨t,ht⟩:=bF.1 hh.2
  obtain⟨e,he,hw,hte,_,_⟩:=qa ht
  obtain⟨h1,_,_⟩:=pR he
  obtain⟨hx,hpr,_⟩:=y7 h1
  obtain⟨w1,w2,_⟩:=kG (bP D []) D [] 0 (.nil _ _) g.1 fun y hy=>⟨(eI D [] y).2 (.inr hy),g.2 y hy⟩
  have hp:=p6 (bP D []) D [] 0 (fun y hy=>DJ (hn y hy)) (fun w hw=>by cases hw) g.1
  have:=Bj hp hpr hx
  rw[ht,<-hte,<-this,w2]
 ·cases h
theorem tv{a d:Ty}{x:Nm}(h:pH a x=some d):∀y,bo y d=true->bo y a=true:=by
 simp only[pH,bu,cU,fe]at h
 obtain⟨d',h1,_,rfl⟩:=h
 intro y hy
 rcases jf _ hy with h|⟨h,h'⟩
 ·exact h
 ·rcases gJ a 0 (h1.names y h')with e|e
  ·exact absurd e h
  ·exact e
structure ZT(s d:Nm)(a:Ty)(x A B:E)(D:Ty):Prop where
 l:ju s=some a
 ce:jI s=some (.list [x,A,B])
 ask:Ask (.list [x,A,B]) [] (.rc a)
 hx:x.at=[114,101,99]
 body:Ask B [.mk A.at (.list [x,A,B]) []] a
 dl:cK s=some d
 y:qP s=some (.rc a)
 lp:pH a mh=some D
 bk:qP d=some D
theorem yW{s:Nm}{t:Ty}(h:xz s=some t):qP s=some t:=by
 unfold xz at h
 split at h
 ·cases h
 ·rename_i u hu
  split at h
  ·cases h;exact hu
  ·cases h
theorem ZT.of{s d:Nm}{a:Ty}(hl:ju s=some a)(hd:cK s=some d):∃x A B D,ZT s d a x A B D:=by
 have hc:=u3 hl
 cases hce:jI s with
 |none=>rw[nv hce]at hc;cases hc
 |
  some e =>
  obtain⟨t,h1,hA,_⟩:=gT hce
  rw[hc]at h1;cases h1
  obtain⟨x,A,B,rfl,hx,hA',hB⟩:=s5 hA
  have hy:=yW hc
  have hd':=hd
  unfold cK at hd'
  rw[hy]at hd'
  obtain⟨D,h2,h3⟩:=bu.1 hd'
  obtain⟨e2,he2,hw2,hte2,_,_⟩:=qa hy
  have hg:=sB hw2 hte2 (x:=mh) ⟨by simp,by simp,by simp⟩ h2
  exact⟨x,A,B,D,hl,hce,hA,hx,hB,hd,hy,h2,AR hg.1 (fun y hy'=>nf hy y (tv h2 y hy')) h3⟩
structure Cx(a:Ty)(w:Vl):Prop where
 ok:dJ a w=true
 ty:∀v,vT 100 v (.rc a)=true->vT 100 (.f (dC a w v)) (.rc a)=true
 gp:w.gp 100
 nd:w.nodes<=200
structure Fo(a:Ty)(v:Vl):Prop where
 ty:vT 100 v (.rc a)=true
 gp:v.gp 100
 nd:v.nodes<=200
theorem ZT.Df{s d:Nm}{a:Ty}{x A B:E}{D:Ty}(z:ZT s d a x A B D){c:Nm}{w:Vl}(h:nA d c 100=some w):Cx a w:=by
 obtain⟨e,t,m,h1,h2,h3,h4,h5,h6,h7⟩:=sF h
 have hm:m=100:=by omega
 subst hm
 have:=yW h3
 rw[z.bk]at this;cases this
 rw[oC h4]at h7
 obtain⟨e2,he2,hw2,hte2,_,_⟩:=qa z.y
 have hlc:j9 (.rc a) 0:=hte2 ▸ hw2.rn.1
 obtain⟨q1,q2⟩:=IE (xM z.y) hlc z.lp h7
 exact⟨q1,q2,(l9 h2).2.1,(l9 h2).2.2⟩
theorem ZT.p5{s d:Nm}{a:Ty}{x A B:E}{D:Ty}(z:ZT s d a x A B D){f:Nm}{v:Vl}(h:mw s f=some v):Fo a v/\f=v.cE:=by
 obtain⟨a',x',A',B',L⟩:=jJ h
 have:=L.l
 rw[z.l]at this;cases this
 exact⟨⟨by rw[<-oC L.ask];exact L.eG,L.gp,L.nodes⟩,qR L.v⟩
theorem Fo.eG{s d:Nm}{a:Ty}{x A B:E}{D:Ty}(z:ZT s d a x A B D){v:Vl}(h:Fo a v):eG 100 v (.list [x,A,B],[])=true:=by rw[oC z.ask];exact h.ty
theorem ZT.cE{s d:Nm}{a:Ty}{x A B:E}{D:Ty}(z:ZT s d a x A B D){w:Vl}(hb:w.gp 100)(hv:vT 100 w (.rc a)=true):nA s w.cE 100=if w.nodes<=200 then some w else none:=by
 unfold nA
 rw[z.ce]
 by_cases hn:w.nodes<=200
 ·rw[qV hb hn,if_pos hn]
  simp only
  rw[if_pos ⟨by omega,by rw[show (100:Int).toNat=100 from rfl,oC z.ask];exact hv⟩]
 ·rw[if_neg hn]
  cases q:rL w.cE with
  |none=>rfl
  |
   some w' =>
   exfalso
   obtain⟨_,h2,h3⟩:=l9 q
   have:=uH hb h2 (qR q)
   rw[this]at hn;exact hn h3
theorem ZT.lv{s d:Nm}{a:Ty}{x A B:E}{D:Ty}(z:ZT s d a x A B D)(f:Nm):mw s f=nA s f 100:=by
 unfold mw;rw[z.l]
def eC(d:Nm):List Nm->Option (List Vl)
 |[]=>some []
 |
  c::r=>match nA d c 100,eC d r with
  |some w,some l=>some (w::l)
  |_,_=>none
theorem ry{s d:Nm}{a:Ty}{x A B:E}{D:Ty}(z:ZT s d a x A B D):∀(p:List Nm) (l:List Vl),eC d p=some l->p=l.map (·.cE)/\∀c,c∈l->Cx a c
 |[],l,h=>by cases h;exact⟨rfl,fun c hc=>by cases hc⟩
 |
  c::r,l,h=>by
  simp only[eC]at h
  split at h
  ·rename_i w l' h1 h2
   cases h
   obtain⟨q1,q2⟩:=ry z r l' h2
   obtain⟨_,_,_,_,hv,_⟩:=sF h1
   refine⟨by rw[bC,<-q1,<-qR hv],fun c' hc'=>?_⟩
   rcases aH.1 hc' with rfl|hc'
   ·exact z.Df h1
   ·exact q2 c' hc'
  ·cases h
theorem tQ(d:Nm):∀(p q:List Nm),eC d (p++q)=(eC d p).bind fun l=>(eC d q).map (l++·)
 |[],q=>by cases h:eC d q<;>simp[eC,h]
 |
  c::p,q=>by
  simp only[be,eC,tQ d p q]
  cases nA d c 100 with
  |none=>rfl
  |
   some w =>
   cases eC d p with
   |none=>rfl
   |some l=>cases eC d q<;>rfl
noncomputable def sO (s:Nm) (p:List Nm) (f:Nm):Option (List Vl×Vl):=match mw s f,cK s with
 |some v,some d=>if p.length<=50 then(eC d p).map fun l=>(l,v)else none
 |_,_=>none
def zA(s:Nm):Ty:=(ju s).getD .zero
def rM(a:Ty)(l:List Vl)(v:Vl):Option (List Vl×Vl):=match l.getLast? with
 |none=>none
 |some c=>if(Vl.f (dC a c v)).nodes<=200 then some (l.dropLast,.f (dC a c v))else none
def jw:Nat->Ty->List Vl->Vl->Option Vl
 |0,_,_,v=>some v
 |n+1,a,l,v=>(rM a l v).bind fun r=>jw n a r.1 r.2
def qF(a:Ty)(l:List Vl)(v:Vl):Option Vl:=jw l.length a l v
noncomputable def iH (s:Nm) (p:List Nm) (f:Nm):Option (List Vl×Vl):=(sO s p f).bind fun r=>if(qF (zA s) r.1 r.2).isSome=true then some r else none
structure ZI(a:Ty)(l:List Vl)(v:Vl):Prop where
 Df:∀c,c∈l->Cx a c
 p5:Fo a v
theorem u5{a:Ty}{l l':List Vl}{v w:Vl}(h:ZI a l v)(hu:rM a l v=some (l',w)):ZI a l' w/\l'.length+1=l.length/\∃c,l=l'++[c]/\w=.f (dC a c v):=by
 unfold rM at hu
 cases q:l.getLast? with
 |none=>rw[q]at hu;cases hu
 |
  some c =>
  rw[q]at hu
  simp only at hu
  split at hu
  ·rename_i hn
   cases hu
   have hne:l≠[]:=by rintro rfl;cases q
   have hl:l.dropLast++[c]=l:=by
    have:=List.dropLast_concat_getLast hne
    rw[List.getLast?_eq_some_getLast hne]at q
    cases q;exact this
   have hc:c∈l:=by rw[<-hl];simp
   have hC:=h.Df c hc
   refine⟨⟨fun c' hc'=>h.Df c' (by rw[<-hl];exact aC _ hc'),hC.ty v h.p5.ty,sd 100 a c v hC.gp h.p5.gp,hn⟩,?_,c,hl.symm,rfl⟩
   have:=congrArg List.length hl
   simpa using this
  ·cases hu
end Go.Proofs.Trees
namespace Go.Proofs.Trees
open Go Go.VL Go.RowKit
theorem xr(w:World)(k:Nat)(os:Array Obj):Below w.heap.size w (Go.«Sort».grow (w.drewN k) os):=by
 refine⟨rfl,rfl,rfl,?_,fun b hb=>?_⟩
 ·simp[Go.«Sort».grow,World.drewN]
 ·simp only[Go.«Sort».grow,World.drewN]
  rw[Array.getElem?_append_left hb]
theorem Jn(k:Nat)(hk:k<1000000000):ap Tryz.prog 148 [.v (.int .i64 (k:Int))] [] (bG (.v (.string (mk (dd k))))):=by
 refine ap.Ti (xs:=[.int .i64 (k:Int)]) ⟨qK,by kernel_rfl,by kernel_rfl,by kernel_rfl⟩ fun w ht=>?_
 have:=Any.strconv_Itoa Tryz.Ca (k:Int) (by omega) (by omega) w ht
 refine Calls.mono this fun e w' ⟨h1,n,os,h2⟩=>⟨?_,?_⟩
 ·rw[h1,Lib.itoa_nonneg];rfl
 ·rw[h2];exact xr w n os
abbrev hN(k:Nat):Nm:=35::dd k
theorem uF{j k:Nat}(h:hN j=hN k):j=k:=xG (j+1) j k (by omega) (List.cons.inj h).2
theorem wY(u:Ty):∀(t:Ty) (i:Nat),i+t.aD<1000000->ap Tryz.prog 119 [t.av,u.av,.v (.int .i64 (i:Int))] [] (bG (dO u t i).av)
 |
  .zero,i,_=>by
  refine Is _ _ _ ((aE _).mpr trivial) ((aE _).mpr trivial) ?_
  simp[E5,Ty.av,dO,↓zq,zs,ac,bG]
 |
  .one,i,_=>by
  refine Is _ _ _ ((aE _).mpr trivial) ((aE _).mpr trivial) ?_
  simp[E5,Ty.av,dO,↓zq,zs,ac,bG]
 |
  .name s,i,_=>by
  refine Is _ _ _ ((aE _).mpr trivial) ((aE _).mpr trivial) ?_
  simp[E5,Ty.av,dO,↓zq,zs,ac,bG]
 |
  .bW k,i,_=>by
  refine Is _ _ _ ((aE _).mpr trivial) ((aE _).mpr trivial) ?_
  simp only[E5,Ty.av,dO,↓zq,zs,ac,bG]
  refine⟨by omega,fun _=>⟨by omega,fun h=>?_,fun h=>?_⟩,fun h=>absurd rfl h⟩
  ·rw[if_pos (by omega)]
  ·rw[if_neg (by omega)];rfl
 |
  .plus a b,i,hl=>by
  simp only[Ty.aD]at hl
  refine Is _ _ _ ((aE _).mpr trivial) ((aE _).mpr trivial) ?_
  simp only[E5,Ty.av,dO,↓zq,zs,ac,aE]
  refine⟨by omega,fun h=>by omega,fun _=>⟨fun _=>?_,fun h=>absurd rfl h⟩⟩
  repeat refine⟨by omega,?_⟩
  refine ai (wY u a i (by omega)) ?_
  simp only[↓zq,zs,ac,aE]
  repeat refine⟨by omega,?_⟩
  refine ai (wY u b i (by omega)) ?_
  simp only[↓zq,zs,ac,aE]
  exact⟨rfl,rfl⟩
 |
  .times a b,i,hl=>by
  simp only[Ty.aD]at hl
  refine Is _ _ _ ((aE _).mpr trivial) ((aE _).mpr trivial) ?_
  simp only[E5,Ty.av,dO,↓zq,zs,ac,aE]
  refine⟨by omega,fun h=>by omega,fun _=>⟨fun h=>by omega,fun _=>⟨fun _=>?_,fun h=>absurd rfl h⟩⟩⟩
  repeat refine⟨by omega,?_⟩
  refine ai (wY u a i (by omega)) ?_
  simp only[↓zq,zs,ac,aE]
  repeat refine⟨by omega,?_⟩
  refine ai (wY u b i (by omega)) ?_
  simp only[↓zq,zs,ac,aE]
  exact⟨rfl,rfl⟩
 |
  .rc a,i,hl=>by
  simp only[Ty.aD]at hl
  refine Is _ _ _ ((aE _).mpr trivial) ((aE _).mpr trivial) ?_
  simp only[E5,Ty.av,dO,↓zq,zs,ac,aE]
  refine⟨by omega,fun h=>by omega,fun _=>⟨fun h=>by omega,fun _=>⟨fun h=>by omega,fun _=>⟨fun _=>?_,fun h=>absurd rfl h⟩⟩⟩⟩
  repeat refine⟨by omega,?_⟩
  rw[bp i (by omega)]
  refine ai (wY u a (i+1) (by omega)) ?_
  simp only[↓zq,zs,ac,aE]
  exact⟨rfl,rfl⟩
theorem Cn(x:Nm)(u:Ty):∀(t:Ty),ap Tryz.prog 120 [t.av,.v (.string (mk x)),u.av] [] (bG (sub x u t).av)
 |
  .zero=>by
  refine xy _ _ _ ((aE _).mpr trivial) ((aE _).mpr trivial) ?_
  simp[Fi,Ty.av,sub,↓zq,zs,ac,bG]
 |
  .one=>by
  refine xy _ _ _ ((aE _).mpr trivial) ((aE _).mpr trivial) ?_
  simp[Fi,Ty.av,sub,↓zq,zs,ac,bG]
 |
  .bW k=>by
  refine xy _ _ _ ((aE _).mpr trivial) ((aE _).mpr trivial) ?_
  simp[Fi,Ty.av,sub,↓zq,zs,ac,bG]
 |
  .name s=>by
  refine xy _ _ _ ((aE _).mpr trivial) ((aE _).mpr trivial) ?_
  simp only[Fi,Ty.av,sub,↓zq,zs,ac,zt,bG]
  refine⟨by omega,fun _=>⟨by omega,fun h=>?_,fun h=>?_⟩,fun h=>absurd rfl h⟩
  ·rw[if_pos h]
  ·rw[if_neg h];rfl
 |
  .plus a b=>by
  refine xy _ _ _ ((aE _).mpr trivial) ((aE _).mpr trivial) ?_
  simp only[Fi,Ty.av,sub,↓zq,zs,ac,aE]
  refine⟨by omega,fun h=>by omega,fun _=>⟨fun _=>?_,fun h=>absurd rfl h⟩⟩
  repeat refine⟨by omega,?_⟩
  refine ai (Cn x u a) ?_
  simp only[↓zq,zs,ac,aE]
  repeat refine⟨by omega,?_⟩
  refine ai (Cn x u b) ?_
  simp only[↓zq,zs,ac,aE]
  exact⟨rfl,rfl⟩
 |
  .times a b=>by
  refine xy _ _ _ ((aE _).mpr trivial) ((aE _).mpr trivial) ?_
  simp only[Fi,Ty.av,sub,↓zq,zs,ac,aE]
  refine⟨by omega,fun h=>by omega,fun _=>⟨fun h=>by omega,fun _=>⟨fun _=>?_,fun h=>absurd rfl h⟩⟩⟩
  repeat refine⟨by omega,?_⟩
  refine ai (Cn x u a) ?_
  simp only[↓zq,zs,ac,aE]
  repeat refine⟨by omega,?_⟩
  refine ai (Cn x u b) ?_
  simp only[↓zq,zs,ac,aE]
  exact⟨rfl,rfl⟩
 |
  .rc a=>by
  refine xy _ _ _ ((aE _).mpr trivial) ((aE _).mpr trivial) ?_
  simp only[Fi,Ty.av,sub,↓zq,zs,ac,aE]
  refine⟨by omega,fun h=>by omega,fun _=>⟨fun h=>by omega,fun _=>⟨fun h=>by omega,fun _=>⟨fun _=>?_,fun h=>absurd rfl h⟩⟩⟩⟩
  repeat refine⟨by omega,?_⟩
  refine ai (Cn x u a) ?_
  simp only[↓zq,zs,ac,aE]
  exact⟨rfl,rfl⟩
theorem yj(c:Int)(a b:Ty):ap Tryz.prog 149 [.v (.int .u8 c),a.av,b.av] [] (bG (.ptr [.v (.int .u8 c),.v (.string (mk [])),.v (.int .i64 0),a.av,b.av])):=by
 refine Q1 _ _ _ ((aE _).mpr trivial) ((aE _).mpr trivial) ?_
 simp[OY,↓zq,zs,ac,bG]
abbrev E2(f:Nat)(g:Bool):Ob:=.cells [.v (.int .i64 (f:Int)),.v (.bool g)]
theorem No(f:Nat)(g:Bool)(hf:f<100000000):ap Tryz.prog 116 [.ref 0 0] [E2 f g] (dj (.v (.string (mk (hN (f+1))))) [E2 (f+1) g]):=by
 refine R4 _ _ ?_
 simp only[Pn,↓zq,zs,ac,zt]
 rw[bp f (by omega)]
 refine ai (Jn (f+1) (by omega)) ?_
 have hd:=px 8 (f+1) (by omega)
 simp only[↓zq,zs,ac,zt,be,aR]
 exact⟨by simp[cJ];omega,rfl,rfl⟩
def vt(g:Bool)(t:Ty):Ty:=if g=true\/400<t.aD then .zero else t
def AT(g:Bool)(t:Ty):Bool:=g||decide (400<t.aD)
theorem zh(t:Ty):vt true t=.zero:=by simp[vt]
theorem wo(t:Ty):AT true t=true:=rfl
theorem wa{t:Ty}(h:t.aD<=400):vt false t=t:=by simp[vt,show ¬400<t.aD by omega]
theorem wH{t:Ty}(h:t.aD<=400):AT false t=false:=by simp[AT,show ¬400<t.aD by omega]
theorem FD{t:Ty}(h:¬t.aD<=400):AT false t=true:=by simp[AT,show 400<t.aD by omega]
theorem FE{t:Ty}(h:¬t.aD<=400):vt false t=.zero:=by simp[vt,show 400<t.aD by omega]
theorem wl(f:Nat)(g:Bool)(t:Ty)(hl:t.aD<1000000):ap Tryz.prog 117 [.ref 0 0,t.av] [E2 f g] (dj (vt g t).av [E2 f (AT g t)]):=by
 refine SU _ _ _ ((aE _).mpr trivial) ?_
 simp only[K1,↓zq,zs,ac,zt]
 cases g with
 |true=>exact⟨fun _=>⟨rfl,rfl⟩,fun h=>(by cases h)⟩
 |
  false =>
  refine⟨fun h=>(by cases h),fun _=>?_⟩
  refine ai (Fl t hl) ?_
  simp only[↓zq,zs,ac,zt]
  refine⟨fun h=>?_,fun h=>?_⟩
  ·have h:400<t.aD:=by omega
   simp[vt,AT,h,dj,Ty.av]
  ·have h:¬400<t.aD:=by omega
   simp[vt,AT,h,dj]
theorem H2(t:Ty)(s:Nm)(f:Nat):ap Tryz.prog 118 [.ref 0 0,t.av,.v (.string (mk s))] [E2 f true] (dj Ty.zero.av [E2 f true]):=by
 refine OK _ _ _ _ ((aE _).mpr trivial) ?_
 simp only[Di,↓zq,zs,ac]
 exact⟨fun _=>⟨rfl,rfl⟩,fun h=>(by cases h)⟩
def Dh(f:Nat)(t:Ty):Prop:=∀j,f<j->bo (hN j) t=false
def qv(o:Option Ty)(t:Ty):Nat:=match o with|some d=>d.aD|none=>1000*t.aD
def Bm(o:Option Ty)(f B:Nat):AV->List Ob->Prop:=fun r ob=>∃f':Nat,f<=f'/\f'<=f+B/\r=(o.getD .zero).av/\ob=[E2 f' o.isNone]
theorem Bm.ne(o:Option Ty)(f B:Nat):∃r ob,Bm o f B r ob:=⟨_,_,f,aq _,dc _ _,rfl,rfl⟩
theorem rP{f f':Nat}{t:Ty}(h:Dh f t)(hf:f<=f'):Dh f' t:=fun j hj=>h j (by omega)
theorem yb:∀(n:Nat) (t:Ty),t.aD<=n->t.aD<=400->∀(s:Nm) (f:Nat),Dh f t->(∀j,f<j->s≠hN j)->f+1000*t.aD<50000000->ap Tryz.prog 118 [.ref 0 0,t.av,.v (.string (mk s))] [E2 f false] (Bm (lU t s) f (qv (lU t s) t))
 |0,t,h=>by have:=eh t;omega
 |
  n+1,t,hn=>by
  intro h4 s f hf hs hb
  refine OK _ _ _ _ ((aE _).mpr trivial) ?_
  have fin0:∀u:Ty,lU t s=some u->Bm (lU t s) f (qv (lU t s) t) u.av [E2 f false]:=fun u hu=>by
   rw[hu];exact⟨f,aq _,dc _ _,rfl,rfl⟩
  cases t with
  |
   zero =>
   have:=fin0 .zero (vA s)
   simpa[Di,Ty.av,↓zq,zs,ac]using this
  |
   one =>
   have:=fin0 .zero (yR s)
   simpa[Di,Ty.av,↓zq,zs,ac]using this
  |
   bW k =>
   have:=fin0 .zero (Ab k s)
   simpa[Di,Ty.av,↓zq,zs,ac]using this
  |
   name c =>
   simp only[Di,Ty.av,↓zq,zs,ac,zt]
   refine⟨fun h=>(by cases h),fun _=>⟨by omega,fun _=>⟨by omega,fun h=>?_,fun h=>?_⟩,fun h=>absurd rfl h⟩⟩
   ·exact fin0 .one (by rw[oW,if_pos h])
   ·exact fin0 .zero (by rw[oW,if_neg h])
  |
   plus a b =>
   simp only[Ty.aD]at hn h4 hb
   have pa:=eh a
   have pb:=eh b
   have fa:Dh f a:=fun j hj=>by have:=hf j hj;simp only[bo,cD]at this;exact this.1
   have fb:Dh f b:=fun j hj=>by have:=hf j hj;simp only[bo,cD]at this;exact this.2
   simp only[Di,Ty.av,↓zq,zs,ac,zt,aE]
   refine⟨fun h=>(by cases h),fun _=>⟨by omega,fun h=>by omega,fun _=>⟨fun _=>?_,fun h=>absurd rfl h⟩⟩⟩
   repeat refine⟨by omega,?_⟩
   rw[wm]
   refine aN (yb n a (by omega) (by omega) s f fa hs (by omega)) (Bm.ne _ _ _) ?_
   rintro r ob ⟨f1,g1,g2,rfl,rfl⟩
   simp only[↓zq,zs,ac,zt,aM,aE]
   repeat refine⟨by omega,?_⟩
   cases q1:lU a s with
   |
    none =>
    rw[q1]at g2
    simp only[qv]at g2
    simp only[Option.isNone_none,Option.getD_none,bH]
    refine ba (H2 b s f1) ?_
    simp only[↓zq,zs,ac,zt,aM,aE]
    repeat refine⟨by omega,?_⟩
    refine ai (yj 43 _ _) ?_
    simp only[↓zq,zs,ac,zt,cb]
    refine ba (wl f1 true (.plus .zero .zero) (by simp[Ty.aD])) ?_
    simp only[↓zq,zs,ac,zt,aM,aE]
    exact⟨f1,g1,by simp only[qv,Ty.aD];omega,rfl,rfl⟩
   |
    some a' =>
    rw[q1]at g2
    simp only[qv]at g2
    have la:=(cU.1 q1).small
    simp only[Option.isNone_some,cv,aV]
    refine aN (yb n b (by omega) (by omega) s f1 (rP fb g1) (fun j hj=>hs j (by omega)) (by omega)) (Bm.ne _ _ _) ?_
    rintro r ob ⟨f2,k1,k2,rfl,rfl⟩
    simp only[↓zq,zs,ac,zt,aM,aE]
    repeat refine⟨by omega,?_⟩
    refine ai (yj 43 _ _) ?_
    simp only[↓zq,zs,ac,zt,cb]
    cases q2:lU b s with
    |
     none =>
     rw[q2]at k2
     simp only[qv]at k2
     simp only[Option.isNone_none,Option.getD_none,bH]
     refine ba (wl f2 true (.plus a' .zero) (by simp[Ty.aD];omega)) ?_
     simp only[↓zq,zs,ac,zt,aM,aE]
     exact⟨f2,by omega,by simp only[qv,Ty.aD];omega,rfl,rfl⟩
    |
     some b' =>
     rw[q2]at k2
     simp only[qv]at k2
     have lb:=(cU.1 q2).small
     simp only[Option.isNone_some,cv,aV]
     refine ba (wl f2 false (.plus a' b') (by simp only[Ty.aD];omega)) ?_
     simp only[↓zq,zs,ac,zt,aM,aE]
     unfold nO
     by_cases hle:(Ty.plus a' b').aD<=400
     ·rw[if_pos hle]
      refine⟨f2,by omega,by simp only[qv,Ty.aD];omega,?_,?_⟩
      ·simp[vt,show ¬400<(Ty.plus a' b').aD by omega]
      ·simp[AT,show ¬400<(Ty.plus a' b').aD by omega]
     ·rw[if_neg hle]
      refine⟨f2,by omega,by simp only[qv,Ty.aD];omega,?_,?_⟩
      ·simp[vt,show 400<(Ty.plus a' b').aD by omega]
      ·simp[AT,show 400<(Ty.plus a' b').aD by omega]
  |
   times a b =>
   simp only[Ty.aD]at hn h4 hb
   have pa:=eh a
   have pb:=eh b
   have fa:Dh f a:=fun j hj=>by have:=hf j hj;simp only[bo,cD]at this;exact this.1
   have fb:Dh f b:=fun j hj=>by have:=hf j hj;simp only[bo,cD]at this;exact this.2
   simp only[Di,Ty.av,↓zq,zs,ac,zt,aE]
   refine⟨fun h=>(by cases h),fun _=>⟨by omega,fun h=>by omega,fun _=>⟨fun h=>by omega,fun _=>⟨fun _=>?_,fun h=>absurd rfl h⟩⟩⟩⟩
   repeat refine⟨by omega,?_⟩
   rw[tC]
   refine aN (yb n a (by omega) (by omega) s f fa hs (by omega)) (Bm.ne _ _ _) ?_
   rintro r ob ⟨f1,g1,g2,rfl,rfl⟩
   simp only[↓zq,zs,ac,zt,aM,aE]
   repeat refine⟨by omega,?_⟩
   refine ai (yj 42 _ _) ?_
   simp only[↓zq,zs,ac,zt,cb]
   repeat refine⟨by omega,?_⟩
   cases q1:lU a s with
   |
    none =>
    rw[q1]at g2
    simp only[qv]at g2
    simp only[Option.isNone_none,Option.getD_none,bH]
    refine ba (H2 b s f1) ?_
    simp only[↓zq,zs,ac,zt,aM,aE]
    repeat refine⟨by omega,?_⟩
    refine ai (yj 42 _ _) ?_
    simp only[↓zq,zs,ac,zt,cb]
    refine ai (yj 43 (.times .zero b) (.times a .zero)) ?_
    simp only[↓zq,zs,ac,zt,cb]
    refine ba (wl f1 true (.plus (.times .zero b) (.times a .zero)) (by simp only[Ty.aD];omega)) ?_
    simp only[↓zq,zs,ac,zt,aM,aE]
    exact⟨f1,g1,by simp only[qv,Ty.aD];omega,rfl,rfl⟩
   |
    some a' =>
    rw[q1]at g2
    simp only[qv]at g2
    have la:=(cU.1 q1).small
    simp only[Option.isNone_some,cv,aV]
    refine aN (yb n b (by omega) (by omega) s f1 (rP fb g1) (fun j hj=>hs j (by omega)) (by omega)) (Bm.ne _ _ _) ?_
    rintro r ob ⟨f2,k1,k2,rfl,rfl⟩
    simp only[↓zq,zs,ac,zt,aM,aE]
    repeat refine⟨by omega,?_⟩
    refine ai (yj 42 _ _) ?_
    simp only[↓zq,zs,ac,zt,cb]
    cases q2:lU b s with
    |
     none =>
     rw[q2]at k2
     simp only[qv]at k2
     simp only[Option.isNone_none,Option.getD_none,bH]
     refine ai (yj 43 (.times a' b) (.times a .zero)) ?_
     simp only[↓zq,zs,ac,zt,cb]
     refine ba (wl f2 true (.plus (.times a' b) (.times a .zero)) (by simp only[Ty.aD];omega)) ?_
     simp only[↓zq,zs,ac,zt,aM,aE]
     exact⟨f2,by omega,by simp only[qv,Ty.aD];omega,rfl,rfl⟩
    |
     some b' =>
     rw[q2]at k2
     simp only[qv]at k2
     have lb:=(cU.1 q2).small
     simp only[Option.isNone_some,cv,aV]
     refine ai (yj 43 (.times a' b) (.times a b')) ?_
     simp only[↓zq,zs,ac,zt,cb]
     refine ba (wl f2 false (.plus (.times a' b) (.times a b')) (by simp only[Ty.aD];omega)) ?_
     simp only[↓zq,zs,ac,zt,aM,aE]
     unfold nO
     by_cases hle:(Ty.plus (.times a' b) (.times a b')).aD<=400
     ·rw[if_pos hle]
      refine⟨f2,by omega,by simp only[qv,Ty.aD];omega,?_,?_⟩
      ·simp[vt,show ¬400<(Ty.plus (.times a' b) (.times a b')).aD by omega]
      ·simp[AT,show ¬400<(Ty.plus (.times a' b) (.times a b')).aD by omega]
     ·rw[if_neg hle]
      refine⟨f2,by omega,by simp only[qv,Ty.aD];omega,?_,?_⟩
      ·simp[vt,show 400<(Ty.plus (.times a' b) (.times a b')).aD by omega]
      ·simp[AT,show 400<(Ty.plus (.times a' b) (.times a b')).aD by omega]
  |
   rc a =>
   simp only[Ty.aD]at hn h4 hb
   have pa:=eh a
   have fa:Dh f a:=fun j hj=>hf j hj
   have hxa:bo (hN (f+1)) a=false:=fa _ (by omega)
   have hxs:hN (f+1)≠s:=fun e=>hs _ (by omega) e.symm
   have fo:Dh (f+1) (dO (.name (hN (f+1))) a 0):=fun j hj=>by
    cases q:bo (hN j) (dO (.name (hN (f+1))) a 0)with
    |false=>rfl
    |
     true =>
     rcases gJ a 0 q with e|e
     ·have:=uF e;omega
     ·rw[fa j (by omega)]at e;cases e
   have hoa:(dO (.name (hN (f+1))) a 0).aD=a.aD:=fH _ _ _
   have hop:=wY (.name (hN (f+1))) a 0 (by omega)
   rw[Cy hxa hxs]
   simp only[Di,Ty.av,↓zq,zs,ac,zt,aE]
   refine⟨fun h=>(by cases h),fun _=>⟨by omega,fun h=>by omega,fun _=>⟨fun h=>by omega,fun _=>⟨fun h=>by omega,fun _=>⟨fun _=>?_,fun h=>absurd rfl h⟩⟩⟩⟩⟩
   refine ba (No f false (by omega)) ?_
   simp only[↓zq,zs,ac,zt,aM,aE]
   repeat refine⟨by omega,?_⟩
   simp only[Ty.av]at hop
   refine ai hop ?_
   simp only[↓zq,zs,ac,zt,aM,aE]
   refine aN (yb n (dO (.name (hN (f+1))) a 0) (by omega) (by omega) s (f+1) fo (fun j hj=>hs j (by omega)) (by omega)) (Bm.ne _ _ _) ?_
   rintro r ob ⟨f1,g1,g2,rfl,rfl⟩
   simp only[↓zq,zs,ac,zt,aM,aE]
   generalize hx:hN (f+1)=x at *
   generalize hin:dO (.name x) a 0=i at *
   have hrc:(Ty.rc a).av=.ptr [.v (.int .u8 114),.v (.string (mk [])),.v (.int .i64 0),a.av,.v (.pointer none)]:=rfl
   cases q1:lU i s with
   |
    none =>
    rw[q1]at g2
    simp only[qv]at g2
    simp only[Option.isNone_none,Option.getD_none,bH]
    refine ba (wl f1 true .zero (by simp[Ty.aD])) ?_
    simp only[↓zq,zs,ac,zt,aM,aE]
    rw[<-hrc]
    refine ai (Cn x (.rc a) _) ?_
    simp only[↓zq,zs,ac,zt,aE]
    refine ba (H2 i x f1) ?_
    simp only[↓zq,zs,ac,zt,aM,aE]
    refine ba (wl f1 true .zero (by simp[Ty.aD])) ?_
    simp only[↓zq,zs,ac,zt,aM,aE]
    refine ai (Cn x (.rc a) _) ?_
    simp only[↓zq,zs,ac,zt,aE]
    refine ai (yj 42 _ (.bW 0)) ?_
    simp only[↓zq,zs,ac,zt,cb]
    refine ai (yj 43 (sub x (.rc a) (vt true .zero)) (.times (sub x (.rc a) (vt true .zero)) (.bW 0))) ?_
    simp only[↓zq,zs,ac,zt,cb,wo]
    have hz:sub x (.rc a) (vt true .zero)=.zero:=by rw[zh];rfl
    refine ba (wl f1 true (.rc (.plus (sub x (.rc a) (vt true .zero)) (.times (sub x (.rc a) (vt true .zero)) (.bW 0)))) (by rw[hz];simp only[Ty.aD];omega)) ?_
    simp only[↓zq,zs,ac,zt,aM,aE]
    rw[zh,wo]
    exact⟨f1,by omega,by simp only[qv,Ty.aD];omega,rfl,rfl⟩
   |
    some c =>
    rw[q1]at g2
    simp only[qv]at g2
    have lc:=(cU.1 q1).small
    simp only[Option.isNone_some,cv,aV]
    refine ba (wl f1 false c (by omega)) ?_
    simp only[↓zq,zs,ac,zt,aM,aE]
    rw[wa lc,wH lc,<-hrc]
    refine ai (Cn x (.rc a) c) ?_
    simp only[↓zq,zs,ac,zt,aE]
    refine aN (yb n i (by omega) (by omega) x f1 (rP fo g1) (fun j hj=>by rw[<-hx];exact fun e=>by have:=uF e;omega) (by omega)) (Bm.ne _ _ _) ?_
    rintro r ob ⟨f2,k1,k2,rfl,rfl⟩
    simp only[↓zq,zs,ac,zt,aM,aE]
    have hsc:(sub x (.rc a) c).aD+fw x c=c.aD+fw x c*(Ty.rc a).aD:=dX x (.rc a) c
    have hcc:∀t:Ty,fw x t<=t.aD:=fun t=>by
     have h1:=dX x .zero t
     have h2:=hD x .zero t
     simp only[Ty.aD,dH]at h1
     have h3:∀t:Ty,fw x t<=t.aD:=by
      intro t
      induction t with
      |name s=>simp only[fw,Ty.aD];split<;>omega
      |plus a b i1 i2=>simp only[fw,Ty.aD];omega
      |times a b i1 i2=>simp only[fw,Ty.aD];omega
      |rc a i=>simp only[fw,Ty.aD];omega
      |_=>simp[fw,Ty.aD]
     exact h3 t
    have hbig:∀t:Ty,t.aD<=400->(sub x (.rc a) t).aD<=400+400*402:=fun t ht=>by
     have h1:=dX x (.rc a) t
     have h2:=hcc t
     have h3:fw x t*(Ty.rc a).aD<=400*402:=Nat.mul_le_mul (by omega) (by simp only[Ty.aD];omega)
     omega
    have b1:=hbig c lc
    cases q2:lU i x with
    |
     none =>
     rw[q2]at k2
     simp only[qv]at k2
     simp only[Option.isNone_none,Option.getD_none,bH]
     refine ba (wl f2 true .zero (by simp[Ty.aD])) ?_
     simp only[↓zq,zs,ac,zt,aM,aE]
     rw[zh,wo]
     refine ai (Cn x (.rc a) .zero) ?_
     simp only[↓zq,zs,ac,zt,aE]
     refine ai (yj 42 _ (.bW 0)) ?_
     simp only[↓zq,zs,ac,zt,cb]
     refine ai (yj 43 (sub x (.rc a) c) (.times (sub x (.rc a) .zero) (.bW 0))) ?_
     simp only[↓zq,zs,ac,zt,cb]
     refine ba (wl f2 true (.rc (.plus (sub x (.rc a) c) (.times (sub x (.rc a) .zero) (.bW 0)))) (by simp only[sub,Ty.aD];omega)) ?_
     simp only[↓zq,zs,ac,zt,aM,aE]
     rw[zh,wo]
     exact⟨f2,by omega,by simp only[qv,Ty.aD];omega,rfl,rfl⟩
    |
     some d =>
     rw[q2]at k2
     simp only[qv]at k2
     have ld:=(cU.1 q2).small
     have b2:=hbig d ld
     simp only[Option.isNone_some,cv,aV]
     refine ba (wl f2 false d (by omega)) ?_
     simp only[↓zq,zs,ac,zt,aM,aE]
     rw[wa ld,wH ld]
     refine ai (Cn x (.rc a) d) ?_
     simp only[↓zq,zs,ac,zt,aE]
     refine ai (yj 42 _ (.bW 0)) ?_
     simp only[↓zq,zs,ac,zt,cb]
     refine ai (yj 43 (sub x (.rc a) c) (.times (sub x (.rc a) d) (.bW 0))) ?_
     simp only[↓zq,zs,ac,zt,cb]
     have hdrc:qb a x c d=.rc (.plus (sub x (.rc a) c) (.times (sub x (.rc a) d) (.bW 0))):=rfl
     refine ba (wl f2 false (qb a x c d) (by rw[hdrc];simp only[Ty.aD];omega)) ?_
     simp only[↓zq,zs,ac,zt,aM,aE]
     have s1:=hD x (.rc a) c
     have s2:=hD x (.rc a) d
     unfold nO
     by_cases hle:(qb a x c d).aD<=400
     ·rw[if_pos hle,wa hle,wH hle]
      exact⟨f2,by omega,by simp only[qv,hdrc,Ty.aD];omega,rfl,rfl⟩
     ·rw[if_neg hle,FE hle,FD hle]
      exact⟨f2,by omega,by simp only[qv,Ty.aD];omega,rfl,rfl⟩
def P5(o:Option Ty):AV->List Ob->Prop:=fun r ob=>ob=[]/\∃p,LK.ptr.has p/\r=.cA [p,.v (.bool o.isSome)]/\∀d,o=some d->p=d.av
theorem P5.ne(o:Option Ty):∃r ob,P5 o r ob:=by
 cases o with
 |none=>exact⟨_,_,rfl,iE,(iA).mpr trivial,rfl,fun d h=>by cases h⟩
 |some d=>exact⟨_,_,rfl,d.av,(aE _).mpr trivial,rfl,fun d' h=>by cases h;rfl⟩
theorem Jl:hN 1=mh:=by show (35::dd 1:Nm)=_;rw[eF (by omega)];rfl
theorem Ts(a:Ty)(h4:a.aD+2<=400)(hf:∀j,bo (hN j) a=false):ap Tryz.prog 85 [(Ty.rc a).av] [] (P5 (pH a mh)):=by
 have hxa:bo (hN 1) a=false:=hf 1
 have fo:Dh 1 (dO (.name (hN 1)) a 0):=fun j hj=>by
  cases q:bo (hN j) (dO (.name (hN 1)) a 0)with
  |false=>rfl
  |
   true =>
   rcases gJ a 0 q with e|e
   ·have:=uF e;omega
   ·rw[hf j]at e;cases e
 have hoa:(dO (.name (hN 1)) a 0).aD=a.aD:=fH _ _ _
 have hop:=wY (.name (hN 1)) a 0 (by omega)
 rw[<-Jl]
 have hrc:(Ty.rc a).av=.ptr [.v (.int .u8 114),.v (.string (mk [])),.v (.int .i64 0),a.av,.v (.pointer none)]:=rfl
 refine TB _ ((aE _).mpr trivial) ?_
 unfold My
 refine ba (No 0 false (by omega)) ?_
 simp only[Ty.av,↓zq,zs,ac,zt,aM,aE]
 repeat refine⟨by omega,?_⟩
 simp only[Ty.av]at hop
 refine ai hop ?_
 simp only[↓zq,zs,ac,zt,aM,aE]
 refine aN (yb 400 (dO (.name (hN 1)) a 0) (by omega) (by omega) (hN 1) 1 fo (fun j hj e=>by have:=uF e;omega) (by omega)) (Bm.ne _ _ _) ?_
 rintro r ob ⟨f1,g1,g2,rfl,rfl⟩
 simp only[↓zq,zs,ac,zt,aM,aE]
 unfold pH
 cases q1:lU (dO (.name (hN 1)) a 0) (hN 1)with
 |
  none =>
  simp only[Option.isNone_none,Option.getD_none,bH]
  refine ba (wl f1 true .zero (by simp[Ty.aD])) ?_
  simp only[↓zq,zs,ac,zt,aM,aE,wo]
  exact⟨fun _=>⟨rfl,iE,(iA).mpr trivial,rfl,fun d h=>(by cases h)⟩,fun h=>(by cases h)⟩
 |
  some d =>
  have ld:=(cU.1 q1).small
  simp only[Option.isNone_some,cv,aV]
  refine ba (wl f1 false d (by omega)) ?_
  simp only[↓zq,zs,ac,zt,aM,aE]
  rw[wa ld,wH ld]
  refine⟨fun h=>(by cases h),fun _=>?_⟩
  rw[<-hrc]
  refine ai (Cn (hN 1) (.rc a) d) ?_
  simp only[↓zq,zs,ac,zt,aE]
  have h1:=dX (hN 1) (.rc a) d
  have hcn:fw (hN 1) d<=d.aD:=by
   have h3:∀t:Ty,fw (hN 1) t<=t.aD:=by
    intro t
    induction t with
    |name s=>simp only[fw,Ty.aD];split<;>omega
    |plus a b i1 i2=>simp only[fw,Ty.aD];omega
    |times a b i1 i2=>simp only[fw,Ty.aD];omega
    |rc a i=>simp only[fw,Ty.aD];omega
    |_=>simp[fw,Ty.aD]
   exact h3 d
  have h3:fw (hN 1) d*(Ty.rc a).aD<=400*402:=Nat.mul_le_mul (by omega) (by simp only[Ty.aD];omega)
  refine ba (wl f1 false (sub (hN 1) (.rc a) d) (by omega)) ?_
  simp only[↓zq,zs,ac,zt,aM,aE]
  unfold nO
  by_cases hle:(sub (hN 1) (.rc a) d).aD<=400
  ·rw[if_pos hle,wa hle,wH hle]
   exact⟨rfl,_,(aE _).mpr trivial,rfl,fun d' h=>by cases h;rfl⟩
  ·rw[if_neg hle,FE hle,FD hle]
   exact⟨rfl,_,(aE _).mpr trivial,rfl,fun d' h=>(by cases h)⟩
end Go.Proofs.Trees
namespace Go.Proofs.Trees
open Go Go.VL Go.RowKit
theorem rK(h:Nm)(a b:E):(eU (.list [.atom h,a,b])).length=h.length+(eU a).length+(eU b).length+4:=by
 simp only[eU,eg,au,an,aG];omega
theorem je(F:List Nm)(hF:F.length<=10000):∀(t:Ty) (to:List Nm) (k:Nat),vq t->(∀w,w∈to->w.length<=20)->k+(F.length+1)*t.aD<90000000->(eU (gY F t to k).1).length<=50*t.aD
 | .zero,_,_,_,_,_=>by simp[gY,eU,Ty.aD]
 | .one,_,_,_,_,_=>by simp[gY,eU,Ty.aD]
 | .name s,_,_,hn,_,_=>by have:=hn s (by simp[bo]);simp only[gY,eU,Ty.aD];omega
 |
  .bW u,to,_,_,ht,_=>by
  show (gk to u).length<=50*1
  unfold gk
  by_cases h:to.length-1-u<to.length
  ·rw[aa,bm h];have:=ht _ (bB h);simp only[cv];omega
  ·rw[aa,List.getElem?_eq_none (by omega)];simp
 |
  .plus a b,to,k,hn,ht,hk=>by
  have h1:=iB F a to k
  have:(F.length+1)*(1+a.aD+b.aD)=(F.length+1)+(F.length+1)*a.aD+(F.length+1)*b.aD:=by simp only[cT,dH]
  simp only[Ty.aD]at hk
  have i1:=je F hF a to k (fun y hy=>hn y (by simp[bo,hy])) ht (by omega)
  have i2:=je F hF b to _ (fun y hy=>hn y (by simp[bo,hy])) ht (show (gY F a to k).2+_<_ by omega)
  simp only[gY,rK,Ty.aD,au,aG];omega
 |
  .times a b,to,k,hn,ht,hk=>by
  have h1:=iB F a to k
  have:(F.length+1)*(1+a.aD+b.aD)=(F.length+1)+(F.length+1)*a.aD+(F.length+1)*b.aD:=by simp only[cT,dH]
  simp only[Ty.aD]at hk
  have i1:=je F hF a to k (fun y hy=>hn y (by simp[bo,hy])) ht (by omega)
  have i2:=je F hF b to _ (fun y hy=>hn y (by simp[bo,hy])) ht (show (gY F a to k).2+_<_ by omega)
  simp only[gY,rK,Ty.aD,au,aG];omega
 |
  .rc a,to,k,hn,ht,hk=>by
  obtain⟨g1,g2,_,_⟩:=gB F k
  have:(F.length+1)*(2+a.aD)=(F.length+1)*2+(F.length+1)*a.aD:=by simp only[cT]
  simp only[Ty.aD]at hk
  have hl:=w8 (k:=nx F k) (by omega)
  have i1:=je F hF a (to++[tN (nx F k)]) (nx F k+1) hn (fun w hw=>by
   rcases aQ.1 hw with hw|hw
   ·exact ht w hw
   ·simp only[aT]at hw;rw[hw];exact hl) (by omega)
  simp only[gY,rK,Ty.aD,au,aG]
  simp only[eU]
  simp only[au]at hl |-
  omega
theorem N4(x0 a fv:AV)(F:List Nm)(h0:LK.ptr.has x0)(ha:LK.sl.has a)(hfv:cB fv F)(hF:F.length<100000):∀(n j:Nat),qi F n j<j+n->j+n<100000000 ->
 Em [x0,a,.v (.string (mk (tN j)))] [.cells [fv],.cells [.v (.int .i64 ((j+1:Nat):Int))]] (gj 1 [x0,a,.v (.string (mk (tN (qi F n j))))] [.cells [fv],.cells [.v (.int .i64 ((qi F n j+1:Nat):Int))]])
 |0,j,h,_=>by simp only[qi]at h;omega
 |
  n+1,j,h,hj=>by
  refine KA _ _ _ _ _ ?_
  simp only[I4,↓zq,zs,ac,zt,ac,hfv.1,h0,ha]
  refine⟨fun h=>(by simp at h),fun _=>?_⟩
  refine ai (Mk F fv hfv (tN j) (by omega)) ?_
  simp only[↓zq,zs,ac,zt]
  rw[qi]at h |-
  refine⟨fun hm=>?_,fun hm=>?_⟩
  ·rw[if_pos hm]at h |-
   refine ai (Jn (j+1) (by omega)) ?_
   have hd:=px 8 (j+1) (by omega)
   simp only[↓zq,zs,ac,zt,be,aR]
   rw[bp (j+1) (by omega)]
   exact⟨by simp[cJ];omega,N4 x0 a fv F h0 ha hfv hF n (j+1) (by omega) (by omega)⟩
  ·rw[if_neg hm]
   exact⟨rfl,rfl,rfl⟩
theorem QM(x0 a fv:AV)(F:List Nm)(h0:LK.ptr.has x0)(ha:LK.sl.has a)(hfv:cB fv F)(hF:F.length<10000)(k:Nat)(hk:k<90000000) :
 Em [x0,a,.v (.string (mk []))] [.cells [fv],.cells [.v (.int .i64 (k:Int))]] (gj 1 [x0,a,.v (.string (mk (tN (nx F k))))] [.cells [fv],.cells [.v (.int .i64 ((nx F k+1:Nat):Int))]]):=by
 obtain⟨g1,g2,_,_⟩:=gB F k
 refine KA _ _ _ _ _ ?_
 simp only[I4,↓zq,zs,ac,zt,ac,hfv.1,h0,ha]
 refine⟨fun _=>?_,fun h=>(by simp at h)⟩
 refine ai (Jn k (by omega)) ?_
 have hd:=px 8 k (by omega)
 simp only[↓zq,zs,ac,zt,be,aR]
 rw[bp k (by omega)]
 exact⟨by simp[cJ];omega,N4 x0 a fv F h0 ha hfv (by omega) (F.length+1) k (by show nx F k<_;omega) (by omega)⟩
theorem z7(F:List Nm)(fv:AV)(hfv:cB fv F)(hF:F.length<=1000):∀(t:Ty) (to:List Nm) (a:AV) (k:Nat),cB a to->to.length+t.aD<10000->j9 t to.length->vq t->(∀w,w∈to->w.length<=20)->k+(F.length+1)*t.aD<80000000 ->
 ap Tryz.prog 151 [t.av,a,.gK 151 [none,some 0,some 1],.ref 0 0,.ref 1 0] [.cells [fv],.cells [.v (.int .i64 (k:Int))]] (dj (.v (.string (mk (eU (gY F t to k).1)))) [.cells [fv],.cells [.v (.int .i64 ((gY F t to k).2:Int))]])
 |
  .zero,to,a,k,ha,hl,hlc,hs,ht,hk=>by
  refine GG _ _ _ _ ((aE _).mpr trivial) ha.1 hfv.1 ?_
  simp only[Fj,Ty.av,↓zq,zs,ac,zt,aE]
  refine⟨by omega,fun h=>by omega,fun _=>⟨fun h=>by omega,fun _=>⟨fun h=>by omega,fun _=>⟨fun h=>by omega,fun _=>⟨fun h=>by omega,fun _=>?_⟩⟩⟩⟩⟩
  repeat refine⟨by omega,?_⟩
  exact⟨⟨rfl,(l6 _ _).mpr trivial,trivial⟩,rfl,rfl⟩
 |
  .one,to,a,k,ha,hl,hlc,hs,ht,hk=>by
  refine GG _ _ _ _ ((aE _).mpr trivial) ha.1 hfv.1 ?_
  simp only[Fj,Ty.av,↓zq,zs,ac,zt,aE]
  refine⟨by omega,fun h=>by omega,fun _=>⟨fun h=>by omega,fun _=>⟨fun h=>by omega,fun _=>⟨fun h=>by omega,fun _=>⟨fun h=>by omega,fun _=>?_⟩⟩⟩⟩⟩
  repeat refine⟨by omega,?_⟩
  exact⟨⟨rfl,(l6 _ _).mpr trivial,trivial⟩,rfl,rfl⟩
 |
  .name s,to,a,k,ha,hl,hlc,hs,ht,hk=>by
  refine GG _ _ _ _ ((aE _).mpr trivial) ha.1 hfv.1 ?_
  simp[Fj,Ty.av,↓zq,zs,ac,dj,gY,eU]
 |
  .bW u,to,a,k,ha,hl,hlc,hs,ht,hk=>by
  have hu:u<to.length:=hlc
  refine GG _ _ _ _ ((aE _).mpr trivial) ha.1 hfv.1 ?_
  simp only[Fj,Ty.av,↓zq,zs,ac,zt,ha.len]
  rw[wrap64 ((to.length:Int)-1) (by omega) (by omega),wrap64 _ (by omega) (by omega)]
  have e1:(to.length:Int)-1-(u:Int)=((to.length-1-u:Nat):Int):=by omega
  rw[e1]
  simp only[bx,ha.idx (show to.length-1-u<to.length by omega),↓zq,zs,ac,zt]
  refine⟨by omega,fun h=>by omega,fun _=>⟨fun _=>⟨ha.1,by omega,⟨ha.1,by omega,by omega⟩,by omega,rfl,rfl⟩,fun h=>absurd rfl h⟩⟩
 |
  .plus x y,to,a,k,ha,hl,hlc,hs,ht,hk=>by
  simp only[Ty.aD]at hl hk
  have h1:=iB F x to k
  have hm:(F.length+1)*(1+x.aD+y.aD)=(F.length+1)+(F.length+1)*x.aD+(F.length+1)*y.aD:=by simp only[cT,dH]
  have sx:vq x:=fun z hz=>hs z (by simp[bo,hz])
  have sy:vq y:=fun z hz=>hs z (by simp[bo,hz])
  have t1:=je F (by omega) x to k sx ht (by omega)
  have t2:=je F (by omega) y to (gY F x to k).2 sy ht (by omega)
  have hb:(⟨(bytesOf [[.v (.int .u8 43)]]).toArray⟩:ByteArray)=mk [43]:=rfl
  have h8:jy [[AV.v (.int .u8 43)]]:=⟨rfl,(l6 _ _).mpr trivial,trivial⟩
  refine GG _ _ _ _ ((aE _).mpr trivial) ha.1 hfv.1 ?_
  simp only[Fj,Ty.av,↓zq,zs,ac,zt,aE,hb]
  refine⟨by omega,fun h=>by omega,fun _=>⟨fun h=>by omega,fun _=>⟨fun _=>?_,fun h=>absurd rfl h⟩⟩⟩
  repeat refine⟨by omega,?_⟩
  refine ba (z7 F fv hfv hF x to a k ha (by omega) hlc.1 sx ht (by omega)) ?_
  simp only[↓zq,zs,ac,zt,aM,hfv.1,hb,be,aR]
  repeat (first|refine⟨by omega,?_⟩|refine⟨h8,?_⟩|refine⟨by simp[cJ];omega,?_⟩)
  refine ba (z7 F fv hfv hF y to a _ ha (by omega) hlc.2 sy ht (by omega)) ?_
  simp only[↓zq,zs,ac,zt,aM,hfv.1,hb,be,aR]
  repeat (first|refine⟨by omega,?_⟩|refine⟨h8,?_⟩|refine⟨by simp[cJ];omega,?_⟩)
  refine⟨?_,rfl⟩
  simp[gY,eU,eg]
 |
  .times x y,to,a,k,ha,hl,hlc,hs,ht,hk=>by
  simp only[Ty.aD]at hl hk
  have h1:=iB F x to k
  have hm:(F.length+1)*(1+x.aD+y.aD)=(F.length+1)+(F.length+1)*x.aD+(F.length+1)*y.aD:=by simp only[cT,dH]
  have sx:vq x:=fun z hz=>hs z (by simp[bo,hz])
  have sy:vq y:=fun z hz=>hs z (by simp[bo,hz])
  have t1:=je F (by omega) x to k sx ht (by omega)
  have t2:=je F (by omega) y to (gY F x to k).2 sy ht (by omega)
  have hb:(⟨(bytesOf [[.v (.int .u8 42)]]).toArray⟩:ByteArray)=mk [42]:=rfl
  have h8:jy [[AV.v (.int .u8 42)]]:=⟨rfl,(l6 _ _).mpr trivial,trivial⟩
  refine GG _ _ _ _ ((aE _).mpr trivial) ha.1 hfv.1 ?_
  simp only[Fj,Ty.av,↓zq,zs,ac,zt,aE,hb]
  refine⟨by omega,fun h=>by omega,fun _=>⟨fun h=>by omega,fun _=>⟨fun h=>by omega,fun _=>⟨fun _=>?_,fun h=>absurd rfl h⟩⟩⟩⟩
  repeat refine⟨by omega,?_⟩
  refine ba (z7 F fv hfv hF x to a k ha (by omega) hlc.1 sx ht (by omega)) ?_
  simp only[↓zq,zs,ac,zt,aM,hfv.1,hb,be,aR]
  repeat (first|refine⟨by omega,?_⟩|refine⟨h8,?_⟩|refine⟨by simp[cJ];omega,?_⟩)
  refine ba (z7 F fv hfv hF y to a _ ha (by omega) hlc.2 sy ht (by omega)) ?_
  simp only[↓zq,zs,ac,zt,aM,hfv.1,hb,be,aR]
  repeat (first|refine⟨by omega,?_⟩|refine⟨h8,?_⟩|refine⟨by simp[cJ];omega,?_⟩)
  refine⟨?_,rfl⟩
  simp[gY,eU,eg]
 |
  .rc x,to,a,k,ha,hl,hlc,hs,ht,hk=>by
  simp only[Ty.aD]at hl hk
  obtain⟨g1,g2,_,_⟩:=gB F k
  have hm:(F.length+1)*(2+x.aD)=(F.length+1)*2+(F.length+1)*x.aD:=by simp only[cT]
  have hln:=w8 (k:=nx F k) (by omega)
  have ht':∀w,w∈to++[tN (nx F k)]->w.length<=20:=fun w hw=>by
   rcases aQ.1 hw with hw|hw
   ·exact ht w hw
   ·simp only[aT]at hw;rw[hw];exact hln
  have t1:=je F (by omega) x (to++[tN (nx F k)]) (nx F k+1) hs ht' (by omega)
  have hrc:(Ty.rc x).av=.ptr [.v (.int .u8 114),.v (.string (mk [])),.v (.int .i64 0),x.av,.v (.pointer none)]:=rfl
  refine GG _ _ _ _ ((aE _).mpr trivial) ha.1 hfv.1 ?_
  simp only[Fj,Ty.av,↓zq,zs,ac,zt,aE]
  refine⟨by omega,fun h=>by omega,fun _=>⟨fun h=>by omega,fun _=>⟨fun h=>by omega,fun _=>⟨fun h=>by omega,fun _=>⟨fun _=>?_,fun h=>absurd rfl h⟩⟩⟩⟩⟩
  rw[<-hrc]
  repeat refine⟨by omega,?_⟩
  refine co (QM (Ty.rc x).av a fv F ((aE _).mpr trivial) ha.1 hfv (by omega) k (by omega)) ?_
  simp only[Ty.av,↓zq,zs,ac,zt,ac,aM,hfv.1,ha.1,aE,ha.2,Hw,aR,ki,kl]
  have hl2:(dd (nx F k)).length+1<=20:=hln
  have hl3:(tN (nx F k)).length=(dd (nx F k)).length+1:=rfl
  refine⟨by omega,by simp only[an,au,aG,hl3];omega,by omega,by omega,⟨fun c hc=>by simp at hc;rw[hc];rfl,by omega⟩,?_⟩
  refine ba (z7 F fv hfv hF x (to++[tN (nx F k)]) _ (nx F k+1) (.of _) (by simp;omega) (by rw[an];exact hlc) hs ht' (by omega)) ?_
  simp only[↓zq,zs,ac,zt,aM,hfv.1]
  repeat refine⟨by omega,?_⟩
  refine⟨by simp only[an,au,aG,hl3];omega,by simp only[an,au,aG,hl3];omega,?_,rfl⟩
  simp[gY,eU,eg]
theorem Rz(t:Ty)(g:fW t)(hs:vq t)(h4:t.aD<=400):ap Tryz.prog 121 [t.av] [] (bG (.v (.string (mk (Fp t))))):=by
 refine Sf _ ((aE _).mpr trivial) ?_
 unfold OH
 have hn:=ew t []
 simp only[aG,aY]at hn
 have hm:((bP t []).length+1)*t.aD<=401*400:=Nat.mul_le_mul (by omega) h4
 refine ai (Mo t (by omega)) ?_
 simp only[↓zq,zs,ac,zt,bT]
 refine ba (z7 (bP t []) _ (.of _) (by omega) t [] zH 0 .nil (by simp;omega) g.1 hs (fun w hw=>by cases hw) (by omega)) ?_
 simp only[↓zq,zs,ac,zt,aM,bT]
 exact⟨rfl,rfl⟩
theorem Q7(t:Ty)(g:fW t)(hs:vq t)(hl:t.aD<1000000):ap Tryz.prog 86 [t.av] [] (bG (su (told t))):=by
 refine SC _ ((aE _).mpr trivial) ?_
 unfold OM
 refine ai (Fl t hl) ?_
 simp only[↓zq,zs,ac,zt]
 refine⟨fun h=>?_,fun h=>?_⟩
 ·have:told t=none:=by unfold told;rw[if_neg fun h'=>by have:=h'.1;omega]
  rw[this];exact⟨rfl,rfl⟩
 ·have h4:t.aD<=400:=by omega
  refine ai (Rz t g hs h4) ?_
  simp only[↓zq,zs,ac,zt]
  refine ai (IA (Fp t)) ?_
  simp only[↓zq,zs,ac,zt,iu]
  unfold told
  cases q:qP (Fp t)with
  |
   none =>
   simp only[ii,↓zq,zs,ac]
   rw[if_neg (by simp)]
   exact⟨fun _=>⟨rfl,rfl⟩,fun h=>(by cases h)⟩
  |
   some u =>
   simp only[ii,↓zq,zs,ac,fM]
   rw[if_pos ⟨h4,rfl⟩]
   exact⟨fun h=>(by cases h),fun _=>⟨rfl,rfl⟩⟩
theorem RP(s:Nm):ap Tryz.prog 53 [.v (.string (mk s))] [] (bG (su (cK s))):=by
 refine S3 _ ?_
 unfold J7
 refine ai (IA s) ?_
 simp only[↓zq,zs,ac,zt,iu]
 cases q:qP s with
 |
  none =>
  have:cK s=none:=by unfold cK;rw[q]
  rw[this]
  simp only[ii,↓zq,zs,ac]
  exact⟨fun _=>⟨rfl,rfl⟩,fun h=>(by cases h)⟩
 |
  some t =>
  simp only[ii,↓zq,zs,ac,fM]
  have notRec:(∀a,t≠.rc a)->cK s=none:=fun hn=>by
   unfold cK;rw[q]
   cases t<;>first|rfl|exact absurd rfl (hn _)
  refine⟨fun h=>(by cases h),fun _=>?_⟩
  cases t with
  |
   rc a =>
   have h4:=th q
   simp only[Ty.aD]at h4
   have hq:cK s=(pH a mh).bind told:=by unfold cK;rw[q]
   obtain⟨e,he,hw,hte,hats,hok⟩:=qa q
   have hgood:∀d,pH a mh=some d->fW d/\(vq (.rc a)->vq d):=fun d hd=>sB hw hte ⟨by simp,by simp,by simp⟩ hd
   rw[hq]
   simp only[Ty.av,↓zq,zs,ac]
   refine⟨by omega,fun h=>by omega,fun _=>?_⟩
   have hld:=Ts a (by omega) (fun j=>by
    cases q2:bo (hN j) a with
    |false=>rfl
    |true=>exact absurd rfl ((xZ (nf q (hN j) q2)).2 (dd j)))
   simp only[Ty.av]at hld
   refine aN hld (P5.ne _) ?_
   rintro r ob ⟨rfl,p,hp,rfl,hpe⟩
   simp only[↓zq,zs,ac,zt,eq_true hp]
   cases q1:pH a mh with
   |
    none =>
    simp only[bn,bH]
    exact⟨fun _=>⟨rfl,rfl⟩,fun h=>(by cases h)⟩
   |
    some d =>
    simp only[a6,aV]
    refine⟨fun h=>(by cases h),fun _=>?_⟩
    rw[hpe d q1]
    have hl:d.aD<=400:=by
     simp only[pH,bu,fe]at q1
     obtain⟨_,_,h1,h2⟩:=q1
     rw[<-h2];exact h1
    refine ai (Q7 d (hgood d q1).1 ((hgood d q1).2 (Cw q)) (by omega)) ?_
    cases told d<;>simp only[su,↓zq,zs,ac,zt]<;>exact⟨rfl,rfl⟩
  |
   _ =>
   rw[notRec fun a h=>by cases h]
   simp only[Ty.av,↓zq,zs,ac]
   exact⟨by omega,fun _=>⟨rfl,rfl⟩,fun h=>by omega⟩
end Go.Proofs.Trees
namespace Go.Proofs.Trees
open Go Go.VL Go.RowKit
theorem Fs:∀(m:Nat) (c:Vl),c.nodes<=m->∀(t:Ty) (v:Vl),dJ t c=true->∀(ea:AV) (ids:List Nat),kC ea ids->∀(s:List UInt8) (fr:AV),LK.has .ptr fr->ap Tryz.prog 96 [.agg [t.av,ea],c.cF,.agg [.v (.string (mk s)),fr],v.cF] [] (bG (dC t c v).cF)
 |0,c,hm=>by have:=da c;omega
 |
  m+1,c,hm=>by
  intro t v hc ea ids he s fr hf
  refine SL _ _ _ _ _ _ ((aE _).mpr trivial) he.has ((aO _).mpr trivial) hf ((aO _).mpr trivial) ?_
  have fin:∀x:AV,LK.has .ptr x->LK.has .ptr x=True:=fun x h=>eq_true h
  cases t with
  |zero=>rw[tI];simp[CS,Ty.av,↓zq,zs,ac,bG]
  |one=>rw[vP];simp[CS,Ty.av,↓zq,zs,ac,bG]
  |name n=>rw[nr];simp[CS,Ty.av,↓zq,zs,ac,bG]
  |bW u=>rw[sK];simp[CS,Ty.av,↓zq,zs,ac,bG]
  |
   plus a b =>
   have hL:=Ao a.av b.av ea 43 (mk []) 0 ((aE _).mpr trivial) he.has
   have hR:=At a.av b.av ea 43 (mk []) 0 ((aE _).mpr trivial) he.has
   rcases wJ hc with⟨x,rfl,hx⟩|⟨x,rfl,hx⟩
   ·simp only[Vl.nodes]at hm
    simp only[CS,Ty.av,↓zq,zs,ac]
    refine⟨by omega,fun _=>?_,fun h=>absurd rfl h⟩
    refine ai hL ?_
    simp only[↓zq,zs,ac,bz,aE,he.has,Vl.cF,aO]
    refine⟨by omega,fun h=>by omega,fun _=>⟨by omega,by omega,?_⟩⟩
    refine ai (Fs m x (by omega) a v hx ea ids he s fr hf) ?_
    simp only[↓zq,zs,ac,aO]
    refine ai (AK 108 _ ((aO _).mpr trivial)) ?_
    simp[↓zq,zs,ac,bG,dC,Vl.cF,cb]
   ·simp only[Vl.nodes]at hm
    simp only[CS,Ty.av,↓zq,zs,ac]
    refine⟨by omega,fun _=>?_,fun h=>absurd rfl h⟩
    refine ai hL ?_
    simp only[↓zq,zs,ac,bz,aE,he.has,Vl.cF,aO]
    refine⟨by omega,fun _=>?_,fun h=>absurd rfl h⟩
    refine ai hR ?_
    simp only[↓zq,zs,ac,bz,aE,he.has,Vl.cF,aO]
    refine⟨by omega,by omega,?_⟩
    refine ai (Fs m x (by omega) b v hx ea ids he s fr hf) ?_
    simp only[↓zq,zs,ac,aO]
    refine ai (AK 114 _ ((aO _).mpr trivial)) ?_
    simp[↓zq,zs,ac,bG,dC,Vl.cF,cb]
  |
   times a b =>
   have hL:=Ao a.av b.av ea 42 (mk []) 0 ((aE _).mpr trivial) he.has
   have hR:=At a.av b.av ea 42 (mk []) 0 ((aE _).mpr trivial) he.has
   rcases s4 hc with⟨x,y,rfl,hx⟩|⟨x,y,rfl,hx⟩
   ·simp only[Vl.nodes]at hm
    simp only[CS,Ty.av,↓zq,zs,ac,Vl.cF]
    refine⟨by omega,fun h=>by omega,fun _=>⟨fun _=>⟨by omega,fun _=>?_,fun h=>absurd rfl h⟩,fun h=>absurd rfl h⟩⟩
    refine ai hL ?_
    simp only[↓zq,zs,ac,bz,aE,he.has,Vl.cF,aO]
    repeat refine⟨by omega,?_⟩
    refine ai (Fs m x (by omega) a v hx ea ids he s fr hf) ?_
    simp only[↓zq,zs,ac,aO]
    repeat refine⟨by omega,?_⟩
    refine ai (Au _ _ ((aO _).mpr trivial) ((aO _).mpr trivial)) ?_
    simp[↓zq,zs,ac,bG,dC,Vl.cF,cb]
   ·simp only[Vl.nodes]at hm
    simp only[CS,Ty.av,↓zq,zs,ac,Vl.cF,aO]
    refine⟨by omega,fun h=>by omega,fun _=>⟨fun _=>⟨by omega,fun h=>by omega,fun _=>?_⟩,fun h=>absurd rfl h⟩⟩
    repeat refine⟨by omega,?_⟩
    refine ai hR ?_
    simp only[↓zq,zs,ac,bz,aE,he.has,Vl.cF,aO]
    repeat refine⟨by omega,?_⟩
    refine ai (Fs m y (by omega) b v hx ea ids he s fr hf) ?_
    simp only[↓zq,zs,ac,aO]
    refine ai (Au _ _ ((aO _).mpr trivial) ((aO _).mpr trivial)) ?_
    simp[↓zq,zs,ac,bG,dC,Vl.cF,cb]
  |
   rc a =>
   have hin:=DF a ea ids he
   simp only[Ty.av]at hin
   rcases Cg hc with⟨x,rfl,hx⟩|⟨x,y,rfl,hx,hy⟩
   ·simp only[Vl.nodes]at hm
    simp only[CS,Ty.av,↓zq,zs,ac,Vl.cF,aO]
    refine⟨by omega,fun h=>by omega,fun _=>⟨fun h=>by omega,fun _=>⟨fun _=>?_,fun h=>absurd rfl h⟩⟩⟩
    refine aN hin (by have:=Cc.ne a ea ids;simpa only[Cc,Ty.av]using this) ?_
    intro r o hr
    obtain⟨⟨q,hq,rfl⟩,rfl⟩:=hr
    have he2:kC (.ptr [.pid q [(Ty.rc a).av,ea],ea]) (q::ids):=.cons hq he
    have hfr:LK.ptr.has (.pid q [(Ty.rc a).av,ea]):=.inr (.inr ⟨_,_,rfl⟩)
    simp only[Ty.av]at he2 hfr
    simp only[↓zq,zs,ac,bz,aE,he2.has,hfr,Vl.cF,aO,Ty.av]
    repeat refine⟨by omega,?_⟩
    refine⟨fun _=>?_,fun h=>absurd rfl h⟩
    repeat refine⟨by omega,?_⟩
    refine ai (Fs m x (by omega) a v hx _ _ he2 s fr hf) ?_
    simp only[↓zq,zs,ac,aO]
    refine ai (AK 102 _ ((aO _).mpr trivial)) ?_
    simp[↓zq,zs,ac,bG,dC,Vl.cF,cb]
   ·simp only[Vl.nodes]at hm
    simp only[CS,Ty.av,↓zq,zs,ac,Vl.cF,aO]
    refine⟨by omega,fun h=>by omega,fun _=>⟨fun h=>by omega,fun _=>⟨fun _=>?_,fun h=>absurd rfl h⟩⟩⟩
    refine aN hin (by have:=Cc.ne a ea ids;simpa only[Cc,Ty.av]using this) ?_
    intro r o hr
    obtain⟨⟨q,hq,rfl⟩,rfl⟩:=hr
    have he2:kC (.ptr [.pid q [(Ty.rc a).av,ea],ea]) (q::ids):=.cons hq he
    have hfr:LK.ptr.has (.pid q [(Ty.rc a).av,ea]):=.inr (.inr ⟨_,_,rfl⟩)
    simp only[Ty.av]at he2 hfr
    simp only[↓zq,zs,ac,bz,aE,he2.has,hfr,Vl.cF,aO,Ty.av]
    repeat refine⟨by omega,?_⟩
    refine fun _=>?_
    repeat refine⟨by omega,?_⟩
    have i1:=Fs m y (by omega) (.rc a) v hy ea ids he s fr hf
    simp only[Ty.av]at i1
    refine ai i1 ?_
    simp only[↓zq,zs,ac,aO]
    repeat refine⟨by omega,?_⟩
    refine ai (Fs m x (by omega) a (dC (.rc a) y v) hx _ _ he2 [] _ hfr) ?_
    simp only[↓zq,zs,ac,aO]
    refine ai (AK 102 _ ((aO _).mpr trivial)) ?_
    simp[↓zq,zs,ac,bG,dC,Vl.cF,cb]
theorem TP(a:Ty)(c v:Vl)(hc:dJ a c=true):ap Tryz.prog 62 [(Ty.rc a).av,c.cF,v.cF] [] (bG (Vl.f (dC a c v)).cF):=by
 refine Qs _ _ _ ((aE _).mpr trivial) ((aO _).mpr trivial) ((aO _).mpr trivial) ?_
 unfold KP
 refine aN (DF a iE [] .nil) (Cc.ne a iE []) ?_
 rintro r o ⟨⟨m,hm,rfl⟩,rfl⟩
 have he2:kC (.ptr [.pid m [(Ty.rc a).av,iE],iE]) [m]:=.cons hm .nil
 have hfr:LK.ptr.has (.pid m [(Ty.rc a).av,iE]):=.inr (.inr ⟨_,_,rfl⟩)
 simp only[Ty.av]at he2 hfr
 simp only[↓zq,zs,ac,bz,aE,he2.has,hfr,Ty.av]
 repeat refine⟨by omega,?_⟩
 refine ai (Fs c.nodes c (aq _) a v hc _ _ he2 [] _ hfr) ?_
 simp only[↓zq,zs,ac,aO]
 refine ai (AK 102 _ ((aO _).mpr trivial)) ?_
 simp[↓zq,zs,ac,bG,Vl.cF,cb]
end Go.Proofs.Trees
namespace Go.Proofs.Trees
open Go Go.VL Go.RowKit
def vu(l:List Vl):List (List AV):=l.map fun c=>[c.cF]
theorem gD(l:List Vl):(vu l).length=l.length:=by simp[vu]
theorem uR{l:List Vl}{i:Nat}(h:i<l.length):(vu l).getD i []=[(l[i]).cF]:=by simp[vu,aa,h]
theorem y0(l:List Vl)(c:Vl):vu l++[[c.cF]]=vu (l++[c]):=by simp[vu]
def pJ(s:Nm)(a:Ty)(l:List Vl)(v:Vl):AV:=.ptr [.v (.string (mk s)),(Ty.rc a).av,.sl (vu l),v.cF]
def oZ(s:Nm)(a:Ty):Option (List Vl×Vl)->AV
 |some r=>pJ s a r.1 r.2
 |none=>iE
theorem kF(s:Nm)(a:Ty)(o:Option (List Vl×Vl)):LK.has .ptr (oZ s a o)=True:=by cases o<;>simp[oZ,pJ,iA,cb]
theorem Dy(v:Vl):(Vl.f v).nodes=v.nodes+1:=by simp only[Vl.nodes];omega
theorem G7(s:Nm)(a:Ty)(l:List Vl)(v:Vl)(h:ZI a l v)(hl:l.length<=50):ap Tryz.prog 36 [pJ s a l v] [] (bG (oZ s a (rM a l v))):=by
 refine SM _ ((cb _).mpr trivial) ?_
 simp only[KK,pJ,↓zq,zs,ac,gD]
 refine⟨fun h=>(by cases h),fun _=>?_⟩
 repeat refine⟨by omega,?_⟩
 unfold rM
 refine⟨fun h0=>?_,fun h0=>?_⟩
 ·have:l=[]:=bR (by omega)
  subst this
  exact⟨rfl,rfl⟩
 ·have hpos:0<l.length:=by omega
  have hne:l≠[]:=by rintro rfl;simp at hpos
  rw[wrap64 ((l.length:Int)-1) (by omega) (by omega)]
  have e1:((l.length:Int)-1).toNat=l.length-1:=by omega
  have hlt:l.length-1<l.length:=by omega
  have hlast:l.getLast?=some (l[l.length-1]):=by rw[List.getLast?_eq_some_getLast hne,List.getLast_eq_getElem]
  rw[hlast]
  have hC:=h.Df _ (bB hlt)
  generalize hc:l[l.length-1]=c at *
  simp only[e1,uR hlt,hc,↓zq,zs,ac,aO,aE]
  repeat refine⟨by omega,?_⟩
  refine ai (TP a c v hC.ok) ?_
  simp only[↓zq,zs,ac,aO]
  have hn:=sq a c v
  have h1:=hC.nd
  have h2:=h.p5.nd
  refine ai (Fm (.f (dC a c v)) (by rw[Dy];omega)) ?_
  simp only[↓zq,zs,ac,aO,aE]
  refine⟨fun hb=>?_,fun hb=>?_⟩
  ·rw[if_neg (by omega)];exact⟨rfl,rfl⟩
  ·rw[if_pos (by omega)]
   repeat refine⟨by omega,?_⟩
   refine⟨?_,rfl⟩
   have:(vu l).take (l.length-1)=vu l.dropLast:=by rw[List.dropLast_eq_take];simp[vu]
   simp only[oZ,pJ,Int.toNat_zero,aZ,this]
theorem MP{s d:Nm}{a:Ty}{x A B:E}{D:Ty}(z:ZT s d a x A B D)(pa:AV)(p:List Nm)(hp:cB pa p)(hl:p.length<=50)(v:Vl):∀(k i:Nat) (l0:List Vl),i+k=p.length->l0.length<=i ->
 GK [.v (.string (mk d)),pa,.v (.int .i64 (p.length:Int)),.v (.int .i64 (i:Int))] [.cells [.v (.string (mk s)),(Ty.rc a).av,.any,v.cF],.vec 1 (vu l0)]
  (nL (match eC d (p.drop i)with|some l=>(1,[],[.cells [.v (.string (mk s)),(Ty.rc a).av,.any,v.cF],.vec 1 (vu (l0++l))])|none=>(2,[iE],[])))
 |
  0,i,l0,hi,Fg=>by
  refine KG _ _ _ _ _ _ _ _ ?_
  have:i=p.length:=by omega
  subst this
  simp only[HL,↓zq,zs,ac,ac,aE,aO,List.drop_length]
  exact⟨hp.1,fun h=>by omega,fun _=>by simp[nL,eC]⟩
 |
  k+1,i,l0,hi,Fg=>by
  have hlt:i<p.length:=by omega
  have hd:p.drop i=p.getD i []::p.drop (i+1):=by rw[aP hlt];simp[aa,hlt]
  refine KG _ _ _ _ _ _ _ _ ?_
  simp only[HL,↓zq,zs,ac,zt,ac,aE,aO,hp.len,hp.idx hlt,bx]
  refine⟨hp.1,fun _=>⟨⟨hp.1,by omega,by omega⟩,by omega,?_⟩,fun h=>by omega⟩
  refine ai (On d (p.getD i []) 100) ?_
  rw[hd,eC]
  simp only[↓zq,zs,ac,zt,iu,gv]
  cases q:nA d (p.getD i []) 100 with
  |
   none =>
   simp only[jk,↓zq,zs,ac]
   exact⟨fun _=>by first|trivial|rfl,fun h=>(by cases h)⟩
  |
   some w =>
   simp only[jk,↓zq,zs,ac,fm,y0]
   refine⟨fun h=>(by cases h),fun _=>?_⟩
   rw[bp i (by omega)]
   have ih:=MP z pa p hp hl v k (i+1) (l0++[w]) (by omega) (by simp;omega)
   refine⟨⟨fun c hc=>by simp at hc;rw[hc];rfl,by rw[gD];omega⟩,?_⟩
   cases q2:eC d (p.drop (i+1))with
   |none=>rw[q2]at ih;exact ih
   |some l=>rw[q2]at ih;simp only[aW,be,aR]at ih;exact ih
theorem oK{s:Nm}{p:List Nm}{f:Nm}{l:List Vl}{v:Vl}(h:sO s p f=some (l,v)):∃d a x A B D,ZT s d a x A B D/\ZI a l v/\p=l.map (·.cE)/\f=v.cE/\p.length<=50/\zA s=a/\mw s f=some v/\eC d p=some l:=by
 unfold sO at h
 split at h
 ·rename_i v' d h1 h2
  split at h
  ·rename_i hl
   obtain⟨l',h3,h4⟩:=Option.map_eq_some_iff.1 h
   cases h4
   obtain⟨a,_,_,_,L⟩:=jJ h1
   obtain⟨x,A,B,D,z⟩:=ZT.of L.l h2
   obtain⟨q1,q2⟩:=ry z p l h3
   obtain⟨q3,q4⟩:=z.p5 h1
   exact⟨d,a,x,A,B,D,z,⟨q2,q3⟩,q1,q4,hl,by unfold zA;rw[L.l];rfl,h1,h3⟩
  ·cases h
 ·cases h
theorem O7(s:Nm)(pa:AV)(p:List Nm)(hp:cB pa p)(f:Nm):ap Tryz.prog 30 [.agg [.v (.string (mk s)),pa,.v (.string (mk f))]] [] (bG (oZ s (zA s) (sO s p f))):=by
 refine RD _ _ _ hp.1 ?_
 unfold OJ
 refine ai (Qq s f) ?_
 have hlt:LK.has .ptr (Gk s)=True:=by unfold Gk;split<;>simp[aE,iA]
 simp only[↓zq,zs,ac,zt,hlt,gv]
 refine ai (RP s) ?_
 have ho:∀o:Option Nm,su o=.cA [.v (.string (mk (o.getD []))),.v (.bool o.isSome)]:=fun o=>by cases o<;>rfl
 rw[ho]
 simp only[↓zq,zs,ac,zt]
 unfold sO
 cases h1:mw s f with
 |
  none =>
  simp only[jk,↓zq,zs,ac]
  exact⟨fun _=>⟨rfl,rfl⟩,fun h=>(by cases h)⟩
 |
  some v =>
  simp only[jk,↓zq,zs,ac,fm]
  refine⟨fun h=>(by cases h),fun _=>?_⟩
  cases h2:cK s with
  |
   none =>
   simp only[bn]
   exact⟨fun _=>⟨rfl,rfl⟩,fun h=>(by cases h)⟩
  |
   some d =>
   simp only[a6,cv,hp.len]
   refine⟨fun h=>(by cases h),fun _=>⟨hp.1,fun h=>?_,fun h=>?_⟩⟩
   ·rw[if_neg (by omega)];exact⟨rfl,rfl⟩
   ·have hl:p.length<=50:=by omega
    rw[if_pos hl]
    obtain⟨a,_,_,_,L⟩:=jJ h1
    obtain⟨x,A,B,D,z⟩:=ZT.of L.l h2
    have ht:Gk s=(Ty.rc a).av:=by unfold Gk;rw[L.l]
    have hza:zA s=a:=by unfold zA;rw[L.l];rfl
    rw[ht,hza]
    refine⟨hp.1,?_⟩
    have hloop:=MP z pa p hp hl v p.length 0 [] (by omega) (by simp)
    rw[aZ]at hloop
    refine fg hloop (fun ys o e=>?_) (fun ys o e=>?_)
    ·cases q:eC d p with
     |none=>rw[q]at e;cases e
     |
      some l =>
      rw[q]at e
      cases e
      simp only[↓zq,zs,ac,zt,ac,aM,aE,aO,cg]
      exact⟨rfl,rfl⟩
    ·cases q:eC d p with
     |
      none =>
      rw[q]at e
      cases e
      simp only[↓zq,zs,ac,zt,ac,aM,Option.map_none]
      exact⟨rfl,rfl⟩
     |some l=>rw[q]at e;cases e
theorem PL(s:Nm)(a:Ty)(x3:AV)(h3:LK.ptr.has x3):∀(n:Nat) (l:List Vl) (v:Vl),l.length=n->ZI a l v->n<=50 ->
 Gf [x3,pJ s a l v] [] (nL (if(jw n a l v).isSome=true then(1,[x3],[])else(2,[iE],[])))
 |
  0,l,v,hl,h,hn=>by
  refine Lt _ _ ?_
  simp only[HB,pJ,↓zq,zs,ac,h3,gD,hl,jw]
  repeat refine⟨by omega,?_⟩
  exact fun _=>by simp[nL]
 |
  n+1,l,v,hl,h,hn=>by
  refine Lt _ _ ?_
  have hup:=G7 s a l v h (by omega)
  simp only[HB,↓zq,zs,ac,h3]
  simp only[pJ,↓zq,zs,ac,gD,hl]at hup |-
  repeat refine⟨by omega,?_⟩
  refine⟨fun _=>?_,fun h=>by omega⟩
  refine ai hup ?_
  simp only[↓zq,zs,ac,kF]
  rw[jw]
  cases q:rM a l v with
  |
   none =>
   simp only[oZ,↓zq,zs,ac,bH]
   exact⟨fun _=>by simp[nL],fun h=>(by cases h)⟩
  |
   some r =>
   obtain⟨hz,hlen,_⟩:=u5 h q
   have ih:=PL s a x3 h3 n r.1 r.2 (by omega) hz (by omega)
   simp only[oZ,pJ,↓zq,zs,ac,aV]at ih |-
   exact⟨fun h=>(by cases h),fun _=>ih⟩
theorem LC(s:Nm)(pa:AV)(p:List Nm)(hp:cB pa p)(f:Nm):ap Tryz.prog 35 [.agg [.v (.string (mk s)),pa,.v (.string (mk f))]] [] (bG (oZ s (zA s) (iH s p f))):=by
 refine SD _ _ _ hp.1 ?_
 unfold Mv
 refine ai (O7 s pa p hp f) ?_
 simp only[↓zq,zs,ac,zt,kF]
 unfold iH
 cases q:sO s p f with
 |
  none =>
  simp only[oZ,↓zq,zs,ac,bH]
  exact⟨fun _=>⟨rfl,rfl⟩,fun h=>(by cases h)⟩
 |
  some r =>
  obtain⟨l,v⟩:=r
  obtain⟨d,a,x,A,B,D,z,hz,hpt,hft,hl,hza,_,_⟩:=oK q
  rw[hza]
  have hll:l.length<=50:=by rw[hpt]at hl;simpa using hl
  have hloop:=PL s a (pJ s a l v) ((cb _).mpr trivial) l.length l v rfl hz hll
  simp only[oZ,aV]
  refine⟨fun h=>(by cases h),fun _=>?_⟩
  unfold qF
  refine fg hloop (fun ys o e=>?_) (fun ys o e=>?_)
  ·split at e
   ·rename_i hc
    cases e
    rw[if_pos hc]
    simp only[↓zq,zs,ac,pJ,cb]
    exact⟨rfl,rfl⟩
   ·cases e
  ·split at e
   ·cases e
   ·rename_i hc
    cases e
    rw[if_neg hc]
    simp only[↓zq,zs,ac]
    exact⟨rfl,rfl⟩
end Go.Proofs.Trees
namespace Go.Proofs.Trees
open Go Go.VL Go.RowKit
abbrev tZ(s:Nm):Option (List Vl×Vl)->Nm×List Nm×Nm
 |some r=>(s,r.1.map (·.cE),r.2.cE)
 |none=>([],[],[])
def GZ(o:Option (List Vl×Vl)):Prop:=∀r,o=some r->(∀c,c∈r.1->c.cE.length<=900000)/\r.2.cE.length<=900000/\r.1.length<=51
theorem Cx.cE{a:Ty}{c:Vl}(h:Cx a c):c.cE.length<=900000:=by have:=gH c h.gp;have:=h.nd;omega
theorem Fo.cE{a:Ty}{c:Vl}(h:Fo a c):c.cE.length<=900000:=by have:=gH c h.gp;have:=h.nd;omega
theorem ZI.gz{a:Ty}{l:List Vl}{v:Vl}(h:ZI a l v)(hl:l.length<=51):GZ (some (l,v)):=fun r hr=>by
 cases hr;exact⟨fun c hc=>(h.Df c hc).cE,h.p5.cE,hl⟩
theorem GZ.none:GZ none:=fun r hr=>by cases hr
theorem OW(l:List Vl)(hl:l.length<=51)(ht:∀c,c∈l->c.cE.length<=900000)(s f:Nm):∀(k i:Nat) (out:List Nm),i+k=l.length->out.length<=i ->
 IR [.sl (vu l),.v (.int .i64 (l.length:Int)),.v (.int .i64 (i:Int))] [.cells [.v (.string (mk [])),zH,.v (.string (mk []))],.cells [.v (.string (mk s)),.any,.v (.string (mk f))],.vec 1 (bY out)]
  (gj 1 [] [.cells [.v (.string (mk [])),zH,.v (.string (mk []))],.cells [.v (.string (mk s)),.any,.v (.string (mk f))],.vec 1 (bY (out++(l.drop i).map (·.cE)))])
 |
  0,i,out,hi,ho=>by
  refine JG _ _ _ _ _ _ _ _ _ ?_
  have:i=l.length:=by omega
  subst this
  simp only[FG,↓zq,zs,ac,zt,ac,bc,List.drop_length]
  exact⟨fun h=>by omega,fun _=>by simp[gj]⟩
 |
  k+1,i,out,hi,ho=>by
  have hlt:i<l.length:=by omega
  refine JG _ _ _ _ _ _ _ _ _ ?_
  simp only[FG,↓zq,zs,ac,zt,ac,bc,gD,uR hlt,aO,bx]
  refine⟨fun _=>?_,fun h=>by omega⟩
  repeat refine⟨by omega,?_⟩
  refine ai (Dc (l[i]) (ht _ (bB hlt))) ?_
  simp only[↓zq,zs,ac,zt,Hw,ki]
  refine⟨⟨fun c hc=>by simp at hc;rw[hc];rfl,by omega⟩,?_⟩
  rw[bp i (by omega),aP hlt,bC]
  have:=OW l hl ht s f k (i+1) (out++[(l[i]).cE]) (by omega) (by simp;omega)
  rw[aW]at this
  exact this
theorem Sw(s:Nm)(a:Ty)(o:Option (List Vl×Vl))(h:GZ o):ap Tryz.prog 32 [oZ s a o] [] (dj (.cA [.agg [.v (.string (mk (tZ s o).1)),.vec 0,.v (.string (mk (tZ s o).2.2))],.v (.bool o.isSome)]) [.vec 1 (bY (tZ s o).2.1)]):=by
 refine Ry _ (by rw[kF];trivial) ?_
 unfold N2
 cases o with
 |
  none =>
  simp only[oZ,↓zq,zs,ac]
  exact⟨fun _=>⟨rfl,rfl⟩,fun h=>(by cases h)⟩
 |
  some r =>
  obtain⟨h1,h2,h3⟩:=h r rfl
  simp only[oZ,pJ,↓zq,zs,ac,zt,aE,aO]
  refine⟨fun h=>(by cases h),fun _=>?_⟩
  repeat refine⟨by omega,?_⟩
  refine ai (Dc r.2 h2) ?_
  simp only[↓zq,zs,ac,zt,aE,aO,gD]
  repeat refine⟨by omega,?_⟩
  have hlp:=OW r.1 h3 h1 s r.2.cE r.1.length 0 [] (by omega) (by simp)
  rw[aZ,aR]at hlp
  refine co hlp ?_
  simp only[↓zq,zs,ac,zt,ac,aM,bc]
  exact⟨rfl,rfl⟩
theorem gZ{s:Nm}{p:List Nm}{f:Nm}{l:List Vl}{v:Vl}(h:iH s p f=some (l,v)):sO s p f=some (l,v)/\(qF (zA s) l v).isSome=true:=by
 unfold iH at h
 obtain⟨r,h1,h2⟩:=bu.1 h
 split at h2
 ·rename_i hc
  cases h2
  exact⟨h1,hc⟩
 ·cases h2
theorem Ei{s:Nm}{p:List Nm}{f:Nm}{l:List Vl}{v:Vl}(h:iH s p f=some (l,v)):ZI (zA s) l v/\l.length<=50/\p=l.map (·.cE)/\f=v.cE:=by
 obtain⟨h1,_⟩:=gZ h
 obtain⟨d,a,x,A,B,D,z,hz,hp,hf,hl,hza,_,_⟩:=oK h1
 rw[hza]
 exact⟨hz,by rw[hp]at hl;simpa using hl,hp,hf⟩
noncomputable def uE (s:Nm) (p:List Nm) (f:Nm):Option Nm:=(iH s p f).bind fun r=>(qF (zA s) r.1 r.2).map (·.cE)
abbrev S5(s:Nm)(o:Option (List Vl×Vl)):AV->List Ob->Prop:=dj (.cA [.agg [.v (.string (mk (tZ s o).1)),.vec 0,.v (.string (mk (tZ s o).2.2))],.v (.bool o.isSome)]) [.vec 1 (bY (tZ s o).2.1)]
theorem Kp(s:Nm)(a:Ty):∀(n:Nat) (l:List Vl) (v w:Vl),l.length=n->ZI a l v->n<=50->jw n a l v=some w->Fo a w /\
 GD [pJ s a l v] [] (gj 1 [pJ s a [] w] [])
 |
  0,l,v,w,hl,h,hn,hc=>by
  cases hc
  have:l=[]:=bR hl
  subst this
  refine⟨h.p5,PZ _ ?_⟩
  simp only[He,pJ,↓zq,zs,ac,gD,aG]
  refine⟨by omega,fun h=>by omega,fun _=>by simp[gj]⟩
 |
  n+1,l,v,w,hl,h,hn,hc=>by
  rw[jw]at hc
  obtain⟨r,hu,hc⟩:=bu.1 hc
  obtain⟨hz,hlen,_⟩:=u5 (l':=r.1) (w:=r.2) h hu
  obtain⟨i1,i2⟩:=Kp s a n r.1 r.2 w (by omega) hz (by omega) hc
  refine⟨i1,PZ _ ?_⟩
  have hup:=G7 s a l v h (by omega)
  rw[hu]at hup
  simp only[He,oZ]at hup |-
  simp only[pJ,↓zq,zs,ac,gD,hl]at hup |-
  repeat refine⟨by omega,?_⟩
  refine⟨fun _=>?_,fun h=>by omega⟩
  refine ai hup ?_
  simp only[↓zq,zs,ac]
  exact i2
theorem TC(s:Nm)(pa:AV)(p:List Nm)(hp:cB pa p)(f:Nm):ap Tryz.prog 12 [.agg [.v (.string (mk s)),pa,.v (.string (mk f))]] [] (bG (su (uE s p f))):=by
 refine Rm _ _ _ hp.1 ?_
 unfold Mb
 refine ai (LC s pa p hp f) ?_
 simp only[↓zq,zs,ac,kF]
 unfold uE
 cases q:iH s p f with
 |
  none =>
  simp only[oZ,↓zq,zs,ac,bH]
  exact⟨fun _=>⟨rfl,rfl⟩,fun h=>(by cases h)⟩
 |
  some r =>
  obtain⟨l,v⟩:=r
  obtain⟨hz,hl,_⟩:=Ei q
  obtain⟨w,hw⟩:=bF.1 (gZ q).2
  obtain⟨h1,h2⟩:=Kp s (zA s) l.length l v w rfl hz hl hw
  simp only[oZ,aV,hw,cg]
  have hn:(pJ s (zA s) l v).isNil=false:=rfl
  simp only[hn]
  refine⟨fun h=>(by cases h),fun _=>?_⟩
  refine co h2 ?_
  simp only[↓zq,zs,ac,pJ,aO,cb]
  repeat refine⟨by first|trivial|omega,?_⟩
  refine ai (Dc w h1.cE) ?_
  simp only[↓zq,zs,ac,zt]
  exact⟨rfl,rfl⟩
end Go.Proofs.Trees
namespace Go.Proofs.Trees
open Go Go.VL Go.RowKit
def lX:E->Option E
 | .list [x,a,b]=>if x.at=[114,101,99]then some (.list [x,a,b])else none
 |_=>none
def oB(s:List UInt8):Option E:=match jI s with
 |some e=>lX e
 |none=>none
theorem DA(s:List UInt8):ap Tryz.prog 45 [.v (.string (mk s))] [] (jv (oB s) (oB s).isSome):=by
 refine R3 _ ?_
 unfold MD
 refine aN (Ia s) (jv.ne _ _ (fun h=>h)) ?_
 rintro r o ⟨c,d,hd,rfl,hh⟩
 have hhas:bz [.str,.sl] [.v (.string (mk c)),d] 0:=by simp[bz,dM,hd]
 simp only[↓zq,zs,ac,zt]
 refine⟨hhas,fun h=>?_,fun h=>?_⟩
 ·obtain⟨e,he,hce⟩:=hh h
  obtain⟨t,h1,hA,h3,h4,h5,_⟩:=gT he
  have hce':=hce
  rw[cX]at hce'
  simp only[AV.agg.injEq,List.cons.injEq,AV.v.injEq,Value.string.injEq,and_true]at hce'
  obtain⟨hc1,rfl⟩:=hce'
  have hc2:=xw hc1
  subst hc2
  have head:∀w:List UInt8,ap Tryz.prog 71 [.agg [.v (.string (mk e.at)),e.sp]] [] (bG (.v (.string (mk w))))->(w=[114,101,99]↔(lX e).isSome=true)->((lX e).isSome=true->lX e=some e) ->
   eN Tryz.prog 18 (Tree.call 71 [.agg [.v (.string (mk e.at)),e.sp]] [] fun r2 o2=>Tree.aj (LK.str.has r2) (Tree.done 0 [.cA [.agg [.v (.string (mk e.at)),e.sp],.v (.bool (ae r2.ah==[114,101,99]))]] [])) fun _ xs obs=>jv (oB s) (oB s).isSome (xs.headD .any) obs:=by
   intro w hw h1 h2
   refine ai hw ?_
   simp only[↓zq,zs,ac,zt]
   refine⟨e.at,e.sp,hd,?_,fun hs=>⟨e,?_,(cX e).symm⟩⟩
   ·congr 3
    simp only[oB,he,AV.v.injEq,Value.bool.injEq,List.cons.injEq,and_true]
    rw[cx];simpa using h1
   ·simp only[oB,he]at hs |-;exact h2 hs
  have hl:∀x l,e=.list (x::l)->ap Tryz.prog 71 [.agg [.v (.string (mk e.at)),e.sp]] [] (bG (.v (.string (mk x.at)))):=by
   rintro x l rfl;exact vk x l
  have ha:∀s0,e=.atom s0->ap Tryz.prog 71 [.agg [.v (.string (mk e.at)),e.sp]] [] (bG (.v (.string (mk [])))):=by
   rintro s0 rfl;exact AB s0 _ ((bc).mpr trivial) hA.ok
  rcases gx hA.wf hA.ty with⟨hb,_⟩|⟨u,g,rfl,_,hg⟩
  ·rcases fF hA.ty hb hA.cl with⟨rfl,rfl⟩|⟨rfl,rfl⟩|⟨s0,rfl,rfl,hp,h0,h1⟩|⟨x,a,b,t1,t2,rfl,hx,rfl,ha',hbb⟩|⟨x,a,b,t1,t2,rfl,hx,rfl,ha',hbb⟩|⟨x,a,b,t1,rfl,hx,rfl⟩
   ·exact head _ (ha _ rfl) (by simp[lX]) (by simp[lX])
   ·exact head _ (ha _ rfl) (by simp[lX]) (by simp[lX])
   ·exact head _ (ha _ rfl) (by simp[lX]) (by simp[lX])
   ·exact head _ (hl _ _ rfl) (by simp[lX,hx]) (by simp[lX,hx])
   ·exact head _ (hl _ _ rfl) (by simp[lX,hx]) (by simp[lX,hx])
   ·exact head _ (hl _ _ rfl) (by simp[lX,hx]) (by simp[lX,hx])
  ·simp at hg
 ·have hn:jI s=none:=by cases hq:jI s<;>simp[hq]at h |-
  refine⟨c,d,hd,?_,fun h=>?_⟩
  ·simp[oB,hn]
  ·simp[oB,hn]at h
theorem sj(s:List UInt8):(oB s).isSome=(ju s).isSome:=by
 unfold oB ju
 cases h:jI s with
 |none=>rw[nv h];rfl
 |
  some e =>
  obtain⟨t,h1,hA,h3,h4,h5,_⟩:=gT h
  rw[h1]
  simp only
  rcases gx hA.wf hA.ty with⟨hb,_⟩|⟨u,g,rfl,_,hg⟩
  ·rcases fF hA.ty hb hA.cl with⟨rfl,rfl⟩|⟨rfl,rfl⟩|⟨s0,rfl,rfl,hp,h0,h1⟩|⟨x,a,b,t1,t2,rfl,hx,rfl,ha',hbb⟩|⟨x,a,b,t1,t2,rfl,hx,rfl,ha',hbb⟩|⟨x,a,b,t1,rfl,hx,rfl⟩<;>simp_all[lX]
  ·simp at hg
theorem LV.le{s v:List UInt8}{w:Vl}{a:Ty}{x A B:E}(h:LV s v w a x A B):oB s=some (.list [x,A,B]):=by
 unfold oB;rw[h.ce];simp[lX,h.hx]
theorem PH(n:Nat)(v:Vl)(x A B:E)(a:Ty)(hA:Ask B [.mk A.at (.list [x,A,B]) []] a)(hx:x.at=[114,101,99])(w:Vl)(hw:v=.f w)(hv:eG n v (.list [x,A,B],[])=true)(hl:v.nodes<90000) :
 ap Tryz.prog 77 [.agg [.v (.string (mk B.at)),B.sp],.v (.string (mk A.at)),.agg [.v (.string (mk w.cG.at)),w.cG.sp]] [] (bG (.sl (lY (kids a v)))):=by
 subst hw
 obtain⟨w',e,hw'⟩:=pn .nil hx hv
 cases e
 simp only[Vl.nodes]at hl
 have hnm:names [Fr.mk A.at (.list [x,A,B]) []]=[]++[A.at]:=rfl
 have h:=E7 n w.nodes w (aq _) B _ a hA hw' (by simp;omega) A.at (by rw[hnm];right;rw[fk];rfl)
 rw[hnm,wI]at h
 exact h
end Go.Proofs.Trees
namespace Go.Proofs.Trees
open Go Go.VL Go.RowKit
def TS(e:E)(s:List UInt8)(t:Ty)(c v:Vl):Prop:=ap Tryz.prog 79 [.agg [.v (.string (mk e.at)),e.sp],.v (.string (mk s)),.agg [.v (.string (mk c.cG.at)),c.cG.sp],.agg [.v (.string (mk v.cG.at)),v.cG.sp]] [] (bG (.agg [.v (.string (mk (dC t c v).cG.at)),(dC t c v).cG.sp]))
theorem FB:∀(m:Nat) (c:Vl),c.nodes<=m->∀(e:E) (env:List Fr) (t:Ty),Ask e env t->dJ t c=true->∀(s:List UInt8) (v:Vl),TS e s t c v
 |0,c,hm=>by have:=da c;omega
 |
  m+1,c,hm=>by
  intro e env t A hc s v
  unfold TS
  refine Tr _ _ _ _ _ _ _ ((aX _).mpr trivial) ((aX _).mpr trivial) ((aX _).mpr trivial) ?_
  have atomCase:∀s0,e=.atom s0->dC t c v=v->eN Tryz.prog 244 (EE (mk e.at) e.sp (mk s) (mk c.cG.at) c.cG.sp (mk v.cG.at) v.cG.sp) fun _ xs obs=>bG (.agg [.v (.string (mk (dC t c v).cG.at)),(dC t c v).cG.sp]) (xs.headD .any) obs:=by
   rintro s0 rfl hp
   have hne:s0≠[]:=A.ok
   rw[hp]
   simp only[EE,E.at,↓zq,zs,ac,zt,bG]
   exact⟨fun _=>trivial,fun h=>absurd h hne⟩
  have hvh:=BA c
  rw[cX]at hvh
  rcases gx A.wf A.ty with⟨hb,hq⟩|⟨u,g,rfl,hq,hu⟩
  ·rcases fF A.ty hb A.cl with⟨rfl,rfl⟩|⟨rfl,rfl⟩|⟨s0,rfl,rfl,hp,h0,h1⟩|⟨x,a,b,t1,t2,rfl,hx,rfl,ha,hbb⟩|⟨x,a,b,t1,t2,rfl,hx,rfl,ha,hbb⟩|⟨x,a,b,t1,rfl,hx,rfl⟩
   ·exact atomCase _ rfl (tI _ _)
   ·exact atomCase _ rfl (vP _ _)
   ·exact atomCase _ rfl (nr _ _ _)
   ·obtain⟨ok1,ok2,ok3,_⟩:=A.ok
    obtain⟨f1,f2⟩:=fq A.cl
    have hP:=P3.of x a b
    have hH:ap Tryz.prog 71 [.agg [.v (.string (mk [])),(E.list [x,a,b]).sp]] [] (bG (.v (.string (mk [43])))):=by rw[<-hx];exact vk x [a,b]
    rcases wJ hc with⟨y,rfl,hy⟩|⟨y,rfl,hy⟩
    ·simp only[Vl.nodes]at hm
     have hW:=P2.of (.atom [108]) y.cG
     simp only[Vl.cG,bN]at hvh
     simp only[EE,bN,Vl.cG,toNat_one,bg,↓zq,zs,ac,zt,hP.1,hP.2.1,hP.2.2.1,hP.2.2.2,hW.1,hW.2.1,hW.2.2,aK]
     refine⟨fun h=>absurd rfl h,fun _=>?_⟩
     repeat refine⟨by omega,?_⟩
     refine ai hH ?_
     simp only[↓zq,zs,ac,zt]
     refine ai hvh ?_
     simp only[vh,↓zq,zs,ac,zt,be,aR]
     refine⟨by simp[cJ],fun _=>?_,fun h=>absurd rfl h⟩
     repeat refine⟨by omega,?_⟩
     refine ai (FB m y (by omega) a env t1 ⟨ok2,A.wf,ha,f1⟩ hy s v) ?_
     simp only[↓zq,zs,ac,zt,aK]
     repeat refine⟨by omega,?_⟩
     refine ai (xf _ _) ?_
     simp only[↓zq,zs,ac,zt,aK]
     repeat refine⟨by omega,?_⟩
     exact⟨rfl,rfl⟩
    ·simp only[Vl.nodes]at hm
     have hW:=P2.of (.atom [114]) y.cG
     simp only[Vl.cG,bN]at hvh
     simp only[EE,bN,Vl.cG,toNat_one,bg,↓zq,zs,ac,zt,hP.1,hP.2.1,hP.2.2.1,hP.2.2.2,hW.1,hW.2.1,hW.2.2,aK]
     refine⟨fun h=>absurd rfl h,fun _=>?_⟩
     repeat refine⟨by omega,?_⟩
     refine ai hH ?_
     simp only[↓zq,zs,ac,zt]
     refine ai hvh ?_
     simp only[vh,↓zq,zs,ac,zt,be,aR]
     refine⟨by simp[cJ],fun h=>by simp at h,fun _=>⟨fun _=>?_,fun h=>absurd rfl h⟩⟩
     repeat refine⟨by omega,?_⟩
     refine ai (FB m y (by omega) b env t2 ⟨ok3,A.wf,hbb,f2⟩ hy s v) ?_
     simp only[↓zq,zs,ac,zt,aK]
     repeat refine⟨by omega,?_⟩
     refine ai (xf _ _) ?_
     simp only[↓zq,zs,ac,zt,aK]
     repeat refine⟨by omega,?_⟩
     exact⟨rfl,rfl⟩
   ·obtain⟨ok1,ok2,ok3,_⟩:=A.ok
    obtain⟨f1,f2⟩:=eQ A.cl
    have hP:=P3.of x a b
    have hH:ap Tryz.prog 71 [.agg [.v (.string (mk [])),(E.list [x,a,b]).sp]] [] (bG (.v (.string (mk [42])))):=by rw[<-hx];exact vk x [a,b]
    rcases s4 hc with⟨y,z,rfl,hy⟩|⟨y,z,rfl,hy⟩
    ·simp only[Vl.nodes]at hm
     have hW:=P2.of (.atom [108]) (E.list [.atom [112],y.cG,z.cG])
     have hQ:=P3.of (.atom [112]) y.cG z.cG
     simp only[Vl.cG,bN]at hvh
     simp only[EE,bN,Vl.cG,toNat_one,bg,↓zq,zs,ac,zt,hP.1,hP.2.1,hP.2.2.1,hP.2.2.2,hW.1,hW.2.1,hW.2.2,hQ.1,hQ.2.1,hQ.2.2.1,hQ.2.2.2,aK]
     refine⟨fun h=>absurd rfl h,fun _=>?_⟩
     repeat refine⟨by omega,?_⟩
     refine ai hH ?_
     simp only[↓zq,zs,ac,zt]
     refine ai hvh ?_
     simp only[vh,↓zq,zs,ac,zt,be,aR]
     refine⟨by simp[cJ],fun h=>by simp at h,fun _=>⟨fun h=>by simp at h,fun _=>⟨fun _=>?_,fun h=>absurd rfl h⟩⟩⟩
     repeat refine⟨by omega,?_⟩
     refine ai (FB m y (by omega) a env t1 ⟨ok2,A.wf,ha,f1⟩ hy s v) ?_
     simp only[↓zq,zs,ac,zt,aK]
     repeat refine⟨by omega,?_⟩
     refine ai (w6 _ _ _) ?_
     simp only[↓zq,zs,ac,zt,aK]
     repeat refine⟨by omega,?_⟩
     exact⟨rfl,rfl⟩
    ·simp only[Vl.nodes]at hm
     have hW:=P2.of (.atom [114]) (E.list [.atom [112],y.cG,z.cG])
     have hQ:=P3.of (.atom [112]) y.cG z.cG
     simp only[Vl.cG,bN]at hvh
     simp only[EE,bN,Vl.cG,toNat_one,bg,↓zq,zs,ac,zt,hP.1,hP.2.1,hP.2.2.1,hP.2.2.2,hW.1,hW.2.1,hW.2.2,hQ.1,hQ.2.1,hQ.2.2.1,hQ.2.2.2,aK]
     refine⟨fun h=>absurd rfl h,fun _=>?_⟩
     repeat refine⟨by omega,?_⟩
     refine ai hH ?_
     simp only[↓zq,zs,ac,zt]
     refine ai hvh ?_
     simp only[vh,↓zq,zs,ac,zt,be,aR]
     refine⟨by simp[cJ],fun h=>by simp at h,fun _=>⟨fun h=>by simp at h,fun _=>⟨fun h=>by simp at h,fun _=>⟨fun _=>?_,fun h=>absurd rfl h⟩⟩⟩⟩
     repeat refine⟨by omega,?_⟩
     refine ai (FB m z (by omega) b env t2 ⟨ok3,A.wf,hbb,f2⟩ hy s v) ?_
     simp only[↓zq,zs,ac,zt,aK]
     repeat refine⟨by omega,?_⟩
     refine ai (w6 _ _ _) ?_
     simp only[↓zq,zs,ac,zt,aK]
     repeat refine⟨by omega,?_⟩
     exact⟨rfl,rfl⟩
   ·obtain⟨t1',he1,h1,f1,hw1⟩:=jl A.wf A.ok hx A.ty A.cl
    cases he1
    obtain⟨ok1,ok2,ok3,_⟩:=A.ok
    have A':Ask b (.mk a.at (.list [x,a,b]) env::env) t1:=⟨ok3,hw1,h1,f1⟩
    have hP:=P3.of x a b
    have hH:ap Tryz.prog 71 [.agg [.v (.string (mk [])),(E.list [x,a,b]).sp]] [] (bG (.v (.string (mk [114,101,99])))):=by rw[<-hx];exact vk x [a,b]
    rcases Cg hc with⟨y,rfl,hy⟩|⟨y,z,rfl,hy,hz⟩
    ·simp only[Vl.nodes]at hm
     have hW:=P2.of (.atom [102]) (E.list [.atom [108],y.cG])
     have hQ:=P2.of (.atom [108]) y.cG
     have hvi:=BA (.l y)
     rw[cX]at hvi
     simp only[Vl.cG,bN]at hvh hvi
     simp only[EE,bN,Vl.cG,toNat_one,bg,↓zq,zs,ac,zt,hP.1,hP.2.1,hP.2.2.1,hP.2.2.2,hW.1,hW.2.1,hW.2.2,hQ.1,hQ.2.1,hQ.2.2,aK]
     refine⟨fun h=>absurd rfl h,fun _=>?_⟩
     repeat refine⟨by omega,?_⟩
     refine ai hH ?_
     simp only[↓zq,zs,ac,zt]
     refine ai hvh ?_
     simp only[vh,↓zq,zs,ac,zt,be,aR]
     refine⟨by simp[cJ],fun h=>by simp at h,fun _=>⟨fun h=>by simp at h,fun _=>⟨fun h=>by simp at h,fun _=>⟨fun h=>by simp at h,fun _=>?_⟩⟩⟩⟩
     repeat refine⟨by omega,?_⟩
     refine ai hvi ?_
     simp only[vh,↓zq,zs,ac,zt]
     refine⟨fun _=>?_,fun h=>absurd rfl h⟩
     repeat refine⟨by omega,?_⟩
     refine ai (FB m y (by omega) b _ t1 A' hy s v) ?_
     simp only[↓zq,zs,ac,zt,aK]
     repeat refine⟨by omega,?_⟩
     refine ai (xf _ _) ?_
     simp only[↓zq,zs,ac,zt,aK]
     repeat refine⟨by omega,?_⟩
     exact⟨rfl,rfl⟩
    ·simp only[Vl.nodes]at hm
     have hW:=P2.of (.atom [102]) (E.list [.atom [114],E.list [.atom [112],y.cG,z.cG]])
     have hQ:=P2.of (.atom [114]) (E.list [.atom [112],y.cG,z.cG])
     have hR:=P3.of (.atom [112]) y.cG z.cG
     have hvi:=BA (.r (.p y z))
     rw[cX]at hvi
     simp only[Vl.cG,bN]at hvh hvi
     simp only[EE,bN,Vl.cG,toNat_one,bg,↓zq,zs,ac,zt,hP.1,hP.2.1,hP.2.2.1,hP.2.2.2,hW.1,hW.2.1,hW.2.2,hQ.1,hQ.2.1,hQ.2.2,hR.1,hR.2.1,hR.2.2.1,hR.2.2.2,aK]
     refine⟨fun h=>absurd rfl h,fun _=>?_⟩
     repeat refine⟨by omega,?_⟩
     refine ai hH ?_
     simp only[↓zq,zs,ac,zt]
     refine ai hvh ?_
     simp only[vh,↓zq,zs,ac,zt,be,aR]
     refine⟨by simp[cJ],fun h=>by simp at h,fun _=>⟨fun h=>by simp at h,fun _=>⟨fun h=>by simp at h,fun _=>⟨fun h=>by simp at h,fun _=>?_⟩⟩⟩⟩
     repeat refine⟨by omega,?_⟩
     refine ai hvi ?_
     simp only[vh,↓zq,zs,ac,zt]
     refine⟨fun h=>by simp at h,fun _=>?_⟩
     repeat refine⟨by omega,?_⟩
     have i1:=FB m z (by omega) (.list [x,a,b]) env (.rc t1) A hz s v
     unfold TS at i1
     simp only[bN]at i1
     refine ai i1 ?_
     simp only[↓zq,zs,ac,zt,aK]
     repeat refine⟨by omega,?_⟩
     refine ai (FB m y (by omega) b _ t1 A' hy a.at (dC (.rc t1) z v)) ?_
     simp only[↓zq,zs,ac,zt,aK]
     repeat refine⟨by omega,?_⟩
     refine ai (xf _ _) ?_
     simp only[↓zq,zs,ac,zt,aK]
     repeat refine⟨by omega,?_⟩
     exact⟨rfl,rfl⟩
  ·cases e with
   |atom s0=>exact atomCase _ rfl (sK _ _ _)
   |list l=>exact absurd hq (by rw[show (E.list l).at=[] from rfl,kQ A.wf];simp)
end Go.Proofs.Trees
namespace Go.Proofs.Trees
open Go Go.VL Go.RowKit
abbrev G6:Ob:=.cells [.v (.string (mk [])),.v (.slice none 0 0),.v (.string (mk []))]
theorem ZT.le{s d:Nm}{a:Ty}{x A B:E}{D:Ty}(z:ZT s d a x A B D):oB s=some (.list [x,A,B]):=by
 unfold oB;rw[z.ce];simp[lX,z.hx]
theorem uk(o:Option Nm):su o=.cA [.v (.string (mk (o.getD []))),.v (.bool o.isSome)]:=by cases o<;>rfl
theorem AJ{a:Ty}{w v:Vl}(hw:Cx a w)(hv:Fo a v):(Vl.f (dC a w v)).cE.length<=900000:=by
 have h1:=gH (Vl.f (dC a w v)) (by exact sd 100 a w v hw.gp hv.gp)
 have h2:=sq a w v
 have:=hw.nd
 have:=hv.nd
 simp only[Vl.nodes]at h1
 omega
abbrev Ae(a:Ty)(w v:Vl):Option Nm:=if(Vl.f (dC a w v)).nodes<=200 then some (Vl.f (dC a w v)).cE else none
theorem Qb{s d:Nm}{a:Ty}{x A B:E}{D:Ty}(z:ZT s d a x A B D)(w v:Vl)(hw:nA d w.cE 100=some w)(hv:Fo a v):ap Tryz.prog 159 [.v (.string (mk s)),.v (.string (mk w.cE)),.v (.string (mk v.cE))] [] (bG (su (Ae a w v))):=by
 have hC:=z.Df hw
 have hv2:nA s v.cE 100=some v:=by rw[z.cE hv.gp hv.ty,if_pos hv.nd]
 refine R2 _ _ _ ?_
 unfold NF
 refine aN (DA s) (jv.ne _ _ (fun h=>h)) ?_
 rintro r o ⟨c,e,he,rfl,hh⟩
 rw[z.le]at hh
 obtain⟨e',he',hce⟩:=hh rfl
 cases he'
 rw[cX]at hce
 simp only[AV.agg.injEq,List.cons.injEq,AV.v.injEq,Value.string.injEq,and_true]at hce
 obtain⟨hc1,rfl⟩:=hce
 rw[z.le,hc1]
 simp only[↓zq,zs,ac,zt,aK,bN]
 repeat refine⟨by omega,?_⟩
 refine ai (OV s) ?_
 rw[uk,z.dl]
 simp only[↓zq,zs,ac,zt,a6,cv]
 refine⟨fun h=>by simp at h,fun _=>⟨fun h=>by simp at h,fun _=>?_⟩⟩
 refine ai (xe d w.cE 100) ?_
 rw[hw]
 simp only[↓zq,zs,ac,a6]
 refine⟨fun h=>by simp at h,fun _=>?_⟩
 refine ai (xe s v.cE 100) ?_
 rw[hv2]
 simp only[↓zq,zs,ac,a6]
 refine⟨fun h=>by simp at h,fun _=>?_⟩
 have hP:=P3.of x A B
 have rd:∀q:Vl,q.gp 100->q.nodes<=200->∀{Q:AV->List Ob->Prop},(∀o,Q (.cA [.agg [.v (.string (mk q.cG.at)),q.cG.sp],.v (.bool true)]) o)->∀r o,jv ((rL q.cE).map Vl.cG) (rL q.cE).isSome r o->Q r o:=by
  intro q hu hn Q hQ r o
  rw[qV hu hn]
  rintro⟨c,e,he,rfl,hh⟩
  obtain⟨e',he',hce⟩:=hh rfl
  cases he'
  rw[cX]at hce
  rw[hce]
  exact hQ o
 refine aN (BS w.cE) (jv.ne _ _ (fun h=>by simpa using h)) (rd w hC.gp hC.nd fun o=>?_)
 simp only[↓zq,zs,ac,zt,aK]
 repeat refine⟨by omega,?_⟩
 refine aN (BS v.cE) (jv.ne _ _ (fun h=>by simpa using h)) (rd v hv.gp hv.nd fun o=>?_)
 simp only[toNat_one,bg,↓zq,zs,ac,zt,hP.1,hP.2.1,hP.2.2.1,hP.2.2.2,aK,aX]
 repeat refine⟨by omega,?_⟩
 refine ai (FB w.nodes w (aq _) B _ a z.body hC.ok A.at v) ?_
 simp only[↓zq,zs,ac,zt,aK]
 repeat refine⟨by omega,?_⟩
 refine ai (xf _ _) ?_
 simp only[↓zq,zs,ac,zt,aK]
 repeat refine⟨by omega,?_⟩
 have htx:=BX (Vl.f (dC a w v)).cG (l8 _) (AJ hC hv)
 rw[cX]at htx
 simp only[Vl.cG,bN]at htx
 refine ai htx ?_
 simp only[↓zq,zs,ac,zt]
 refine ai (xe s (Vl.f (dC a w v)).cE 100) ?_
 rw[z.cE (w:=Vl.f (dC a w v)) (by exact sd 100 a w v hC.gp hv.gp) (hC.ty v hv.ty)]
 unfold Ae
 by_cases hn:(Vl.f (dC a w v)).nodes<=200
 ·rw[if_pos hn,if_pos hn]
  simp only[↓zq,zs,ac,a6]
  exact⟨fun h=>by simp at h,fun _=>⟨rfl,rfl⟩⟩
 ·rw[if_neg hn,if_neg hn]
  simp only[↓zq,zs,ac,bn]
  exact⟨fun _=>⟨rfl,rfl⟩,fun h=>by simp at h⟩
theorem n0{d:Nm}:∀{p:List Nm} {l:List Vl},eC d p=some l->p=l.map (·.cE)->∀c,c∈l->nA d c.cE 100=some c
 |[],l,h,_,c,hc=>by cases h;cases hc
 |
  q::r,l,h,hp,c,hc=>by
  simp only[eC]at h
  split at h
  ·rename_i w l' h1 h2
   cases h
   simp only[bC,List.cons.injEq]at hp
   rcases aH.1 hc with rfl|hc
   ·rw[<-hp.1];exact h1
   ·exact n0 h2 hp.2 c hc
  ·cases h
structure St(s d:Nm)(a:Ty)(l:List Vl)(v:Vl):Prop where
 z:∃x A B D,ZT s d a x A B D
 i:ZI a l v
 each:∀c,c∈l->nA d c.cE 100=some c
 len:l.length<=50
def Ad(s:Nm)(pa:AV)(a:Ty)(l:List Vl)(v:Vl):AV:=match l.getLast? with
 |none=>.cA [.agg [.v (.string (mk s)),pa,.v (.string (mk v.cE))],.v (.bool false)]
 |some c=>.cA [.agg [.v (.string (mk s)),.sl (bY (l.dropLast.map (·.cE))),.v (.string (mk ((Ae a c v).getD [])))],.v (.bool (Ae a c v).isSome)]
theorem QH{s d:Nm}{a:Ty}{l:List Vl}{v:Vl}(h:St s d a l v)(pa:AV)(hp:cB pa (l.map (·.cE))):ap Tryz.prog 137 [.agg [.v (.string (mk s)),pa,.v (.string (mk v.cE))]] [] (bG (Ad s pa a l v)):=by
 refine SZ _ _ _ hp.1 ?_
 unfold J6
 have hlen:=h.len
 simp only[↓zq,zs,ac,zt,hp.len,cq,ki]
 unfold Ad
 refine⟨hp.1,fun h0=>?_,fun h0=>?_⟩
 ·have:l=[]:=bR (by omega)
  subst this
  exact⟨rfl,rfl⟩
 ·have hpos:0<l.length:=by omega
  have hne:l≠[]:=by rintro rfl;simp at hpos
  rw[wrap64 ((l.length:Int)-1) (by omega) (by omega)]
  have e1:((l.length:Int)-1).toNat=l.length-1:=by omega
  have hlt:l.length-1<(l.map (·.cE)).length:=by rw[cq];omega
  have hlt':l.length-1<l.length:=by omega
  have hlast:l.getLast?=some (l[l.length-1]):=by rw[List.getLast?_eq_some_getLast hne,List.getLast_eq_getElem]
  rw[hlast]
  have hm:=bB hlt'
  have hg:(l.map (·.cE)).getD (l.length-1) []=(l[l.length-1]).cE:=by rw[aa,bm hlt,List.getElem_map];rfl
  obtain⟨x,A,B,D,z⟩:=h.z
  rw[e1,hp.idx hlt,hg]
  generalize l[l.length-1]=c at *
  simp only[↓zq,zs,ac,zt]
  refine⟨⟨hp.1,by omega⟩,by omega,?_⟩
  refine ai (Qb z c v (h.each c hm) h.i.p5) ?_
  rw[uk]
  simp only[↓zq,zs,ac,zt]
  refine⟨⟨hp.1,by omega⟩,⟨fun y hy=>?_,?_⟩,?_,rfl⟩
  ·rw[hp.2]at hy
   have:=List.mem_of_mem_take hy
   obtain⟨t,_,rfl⟩:=bK.1 this
   rfl
  ·rw[hp.2];simp[bY];omega
  ·have:pa.aJ.take (l.length-1)=bY (l.dropLast.map (·.cE)):=by
    rw[hp.2,List.dropLast_eq_take,List.map_take];simp[bY,List.map_take]
   rw[this];rfl
theorem St.up{s d:Nm}{a:Ty}{l l':List Vl}{v w:Vl}(h:St s d a l v)(hu:rM a l v=some (l',w)):St s d a l' w:=by
 obtain⟨h1,h2,c,h3,_⟩:=u5 h.i hu
 have hl:=h.len
 exact⟨h.z,h1,fun c' hc'=>h.each c' (by rw[h3];exact aC _ hc'),by omega⟩
theorem Av{s:Nm}{pa:AV}{a:Ty}{l l':List Vl}{v w:Vl}(hu:rM a l v=some (l',w)):Ad s pa a l v=.cA [.agg [.v (.string (mk s)),.sl (bY (l'.map (·.cE))),.v (.string (mk w.cE))],.v (.bool true)]:=by
 unfold rM at hu
 unfold Ad
 cases q:l.getLast? with
 |none=>rw[q]at hu;cases hu
 |
  some c =>
  rw[q]at hu
  simp only at hu |-
  unfold Ae
  split at hu
  ·rename_i hn
   cases hu
   rw[if_pos hn];rfl
  ·cases hu
theorem Az{s:Nm}{pa:AV}{a:Ty}{l:List Vl}{v:Vl}(hpa:LK.sl.has pa)(hu:rM a l v=none):∃p f,LK.sl.has p/\Ad s pa a l v=.cA [.agg [.v (.string (mk s)),p,.v (.string (mk f))],.v (.bool false)]:=by
 unfold rM at hu
 unfold Ad
 cases q:l.getLast? with
 |none=>exact⟨_,_,hpa,rfl⟩
 |
  some c =>
  rw[q]at hu
  simp only at hu |-
  unfold Ae
  split at hu
  ·cases hu
  ·rename_i hn
   rw[if_neg hn];exact⟨_,_,(bT _).mpr trivial,rfl⟩
def Ho(s:Nm)(o:Option Vl):Nat->List AV->List Ob->Prop:=fun k ys ob=>match o with
 |some w=>k=1/\ys=[]/\∃pa,LK.sl.has pa/\ob=[.cells [.v (.string (mk s)),pa,.v (.string (mk w.cE))],G6]
 |none=>k=2/\ys=[.v (.bool false)]/\∃pa f,LK.sl.has pa/\ob=[.cells [.v (.string (mk s)),pa,.v (.string (mk f))]]
theorem Kj(s d:Nm)(a:Ty):∀(n:Nat) (l:List Vl) (v:Vl) (pa:AV),l.length=n->St s d a l v->cB pa (l.map (·.cE))->Hs [] [.cells [.v (.string (mk s)),pa,.v (.string (mk v.cE))],G6] (Ho s (jw n a l v))
 |
  0,l,v,pa,hl,h,hp=>by
  refine OS _ _ _ _ _ _ ?_
  simp only[HU,↓zq,zs,ac,zt,ac,bc,hp.len,cq,hl,jw]
  refine⟨hp.1,hp.1,fun h=>by omega,fun _=>?_⟩
  exact⟨rfl,rfl,pa,hp.1,rfl⟩
 |
  n+1,l,v,pa,hl,h,hp=>by
  refine OS _ _ _ _ _ _ ?_
  simp only[HU,↓zq,zs,ac,zt,ac,bc,hp.len,cq,hl]
  refine⟨hp.1,hp.1,fun _=>?_,fun h=>by omega⟩
  refine ai (QH h pa hp) ?_
  rw[jw]
  cases q:rM a l v with
  |
   none =>
   obtain⟨p',f',h1,h2⟩:=Az (s:=s) hp.1 q
   rw[h2]
   simp only[↓zq,zs,ac,zt,bz,bH]
   exact⟨h1,fun _=>⟨rfl,rfl,pa,v.cE,hp.1,rfl⟩,fun h=>by simp at h⟩
  |
   some r =>
   obtain⟨l',w⟩:=r
   obtain⟨_,hlen,_⟩:=u5 h.i q
   rw[Av q]
   simp only[↓zq,zs,ac,zt,bz,aV,bT]
   refine⟨fun h=>by simp at h,fun _=>?_⟩
   exact Kj s d a n l' w _ (by omega) (h.up q) (cB.of _)
def D9(o:Option Vl):AV->List Ob->Prop:=fun r ob=>ob=[]/\∃c0 pa c2,LK.sl.has pa/\r=.cA [.agg [.v (.string c0),pa,.v (.string c2)],.v (.bool o.isSome)]/\∀w,o=some w->c2=mk w.cE
theorem D9.ne(o:Option Vl):∃r ob,D9 o r ob:=⟨_,[],rfl,mk [],.sl [],mk ((o.map (·.cE)).getD []),(bT _).mpr trivial,rfl,fun w h=>by rw[h];rfl⟩
theorem Rj{s d:Nm}{a:Ty}{l:List Vl}{v:Vl}(h:St s d a l v)(pa:AV)(hp:cB pa (l.map (·.cE))):ap Tryz.prog 93 [.agg [.v (.string (mk s)),pa,.v (.string (mk v.cE))]] [] (D9 (qF a l v)):=by
 refine Sg _ _ _ hp.1 ?_
 unfold L5
 have hloop:=Kj s d a l.length l v pa rfl h hp
 refine kX hloop (fun ys o e=>?_) (fun ys o e=>?_)
 ·unfold Ho at e
  unfold qF
  cases q:jw l.length a l v with
  |none=>rw[q]at e;exact absurd e.1 (by decide)
  |
   some w =>
   rw[q]at e
   obtain⟨_,rfl,p',h1,rfl⟩:=e
   simp only[↓zq,zs,ac,zt,ac,bc]
   exact⟨h1,rfl,_,_,_,h1,rfl,fun w' h=>by cases h;rfl⟩
 ·unfold Ho at e
  unfold qF
  cases q:jw l.length a l v with
  |some w=>rw[q]at e;exact absurd e.1 (by decide)
  |
   none =>
   rw[q]at e
   obtain⟨_,rfl,p',f',h1,rfl⟩:=e
   simp only[↓zq,zs,ac,zt,ac]
   exact⟨h1,rfl,_,_,_,h1,rfl,fun w' h=>by cases h⟩
theorem KT(s d f:Nm)(pa:AV)(p:List Nm)(hp:cB pa p)(hl:p.length<=50):∀(k i:Nat),i+k=p.length->FK [.v (.string (mk d)),.v (.int .i64 (i:Int))] [.cells [.v (.string (mk s)),pa,.v (.string (mk f))]] (nL (if(eC d (p.drop i)).isSome=true then(1,[],[])else(2,[.v (.bool false)],[])))
 |
  0,i,hi=>by
  refine JA _ _ _ _ _ ?_
  have:i=p.length:=by omega
  subst this
  simp only[Hq,↓zq,zs,ac,zt,ac,hp.len,List.drop_length]
  exact⟨hp.1,hp.1,fun h=>by omega,fun _=>rfl⟩
 |
  k+1,i,hi=>by
  have hlt:i<p.length:=by omega
  have hd:p.drop i=p.getD i []::p.drop (i+1):=by rw[aP hlt];simp[aa,hlt]
  refine JA _ _ _ _ _ ?_
  simp only[Hq,↓zq,zs,ac,zt,ac,hp.len,hp.idx hlt,bx]
  refine⟨hp.1,hp.1,fun _=>⟨⟨hp.1,by omega,by omega⟩,by omega,?_⟩,fun h=>by omega⟩
  refine ai (xe d (p.getD i []) 100) ?_
  rw[hd,eC]
  simp only[↓zq,zs,ac]
  cases q:nA d (p.getD i []) 100 with
  |
   none =>
   simp only[bn]
   exact⟨fun _=>rfl,fun h=>by simp at h⟩
  |
   some w =>
   simp only[a6]
   refine⟨fun h=>by simp at h,fun _=>?_⟩
   rw[bp i (by omega)]
   have ih:=KT s d f pa p hp hl k (i+1) (by omega)
   cases q2:eC d (p.drop (i+1))with
   |none=>rw[q2]at ih;exact ih
   |some l=>rw[q2]at ih;exact ih
theorem vf(s:Nm)(p:List Nm)(f:Nm):sO s p f=(cK s).bind fun d=>(ju s).bind fun _=>(nA s f 100).bind fun v=>if p.length<=50 then(eC d p).map fun l=>(l,v)else none:=by
 unfold sO mw
 cases ju s with
 |none=>cases cK s<;>rfl
 |some a=>cases nA s f 100<;>cases cK s<;>rfl
theorem Tj(s:Nm)(pa:AV)(p:List Nm)(hp:cB pa p)(f:Nm):ap Tryz.prog 92 [.agg [.v (.string (mk s)),pa,.v (.string (mk f))]] [] (bG (.v (.bool (sO s p f).isSome))):=by
 refine QB _ _ _ hp.1 ?_
 unfold O9
 refine ai (OV s) ?_
 rw[uk]
 simp only[↓zq,zs,ac,zt]
 refine aN (DA s) (jv.ne _ _ (fun h=>h)) ?_
 rintro r o ⟨c,e,he,rfl,_⟩
 rw[sj]
 simp only[↓zq,zs,ac,zt,bz,hp.len]
 rw[vf]
 refine⟨he,fun h=>?_,fun h=>⟨fun h'=>?_,fun h'=>⟨hp.1,fun h''=>?_,fun h''=>?_⟩⟩⟩
 ·have:cK s=none:=by cases q:cK s with|none=>rfl|some d=>simp[q]at h
  rw[this]
  exact⟨rfl,rfl⟩
 ·have:ju s=none:=by cases q:ju s with|none=>rfl|some d=>simp[q]at h'
  rw[this]
  cases cK s<;>exact⟨rfl,rfl⟩
 ·simp only[if_neg (show ¬p.length<=50 by omega)]
  exact⟨by cases cK s<;>cases ju s<;>cases nA s f 100<;>rfl,rfl⟩
 ·obtain⟨d,hd⟩:∃d,cK s=some d:=by cases q:cK s with|none=>simp[q]at h|some d=>exact⟨d,rfl⟩
  obtain⟨a,ha⟩:∃a,ju s=some a:=by cases q:ju s with|none=>simp[q]at h'|some d=>exact⟨d,rfl⟩
  rw[hd,ha]
  refine ai (xe s f 100) ?_
  simp only[↓zq,zs,ac]
  cases q:nA s f 100 with
  |none=>simp only[bn];exact⟨fun _=>⟨rfl,rfl⟩,fun h=>by simp at h⟩
  |
   some v =>
   simp only[a6,cv,aV]
   refine⟨fun h=>by simp at h,fun _=>?_⟩
   have hl:p.length<=50:=by omega
   have hloop:=KT s d f pa p hp hl p.length 0 (by omega)
   rw[aZ]at hloop
   rw[if_pos hl]
   refine fg hloop (fun ys o e=>?_) (fun ys o e=>?_)
   ·cases q2:eC d p with
    |none=>rw[q2]at e;cases e
    |some l=>exact⟨rfl,rfl⟩
   ·cases q2:eC d p with
    |none=>rw[q2]at e;cases e;simp only[↓zq,zs,ac];exact⟨rfl,rfl⟩
    |some l=>rw[q2]at e;cases e
theorem xt{s:Nm}{p:List Nm}{f:Nm}{l:List Vl}{v:Vl}(h:sO s p f=some (l,v)):∃d,St s d (zA s) l v/\p=l.map (·.cE)/\f=v.cE:=by
 obtain⟨d,a,x,A,B,D,z,hz,hp,hf,hl,hza,_,hr⟩:=oK h
 rw[hza]
 exact⟨d,⟨⟨x,A,B,D,z⟩,hz,n0 hr hp,by rw[hp]at hl;simpa using hl⟩,hp,hf⟩
theorem Mw(s:Nm)(pa:AV)(p:List Nm)(hp:cB pa p)(f:Nm):ap Tryz.prog 58 [.agg [.v (.string (mk s)),pa,.v (.string (mk f))]] [] (bG (.v (.bool (iH s p f).isSome))):=by
 refine Sm _ _ _ hp.1 ?_
 unfold O0
 refine ai (Tj s pa p hp f) ?_
 simp only[↓zq,zs,ac]
 unfold iH
 cases q:sO s p f with
 |none=>simp only[bn];exact⟨fun _=>⟨rfl,rfl⟩,fun h=>by simp at h⟩
 |
  some r =>
  obtain⟨l,v⟩:=r
  obtain⟨d,hs,rfl,rfl⟩:=xt q
  simp only[a6,aV]
  refine⟨fun h=>by simp at h,fun _=>?_⟩
  refine aN (Rj hs pa hp) (D9.ne _) ?_
  rintro r o ⟨rfl,c0,p',c2,h1,rfl,_⟩
  simp only[↓zq,zs,ac,zt,bz]
  refine⟨h1,?_,rfl⟩
  congr 2
  cases qF (zA s) l v<;>rfl
end Go.Proofs.Trees
namespace Go.Proofs.Trees
open Go Go.VL Go.RowKit
inductive Rl(x:Nm):Nat->Tg->Tg->Prop
 |nm (i):Rl x i (.nm x) (.bd i)
 |kz (i s) (h:s≠x):Rl x i (.nm s) (.nm s)
 |bd (i j) (h:j≠i):Rl x i (.bd j) (.bd j)
theorem Rl.up{x:Nm}{i:Nat}{a b:Tg}(h:Rl x i a b):Rl x (i+1) a.up b.up:=by
 cases h with
 |nm=>exact .nm _
 |kz s h=>exact .kz _ _ h
 |bd j h=>exact .bd _ _ (by omega)
theorem Rl.at{x:Nm}{i:Nat}{a b:Tg}(h:Rl x i a b):∀t:Ty,bo x t=false->fO (dO (.name x) t i) a=fO t b
 |
  .bW k,_=>by
  simp only[dO]
  cases h with
  |
   nm =>
   by_cases e:k=i
   ·simp[e,fO]
   ·simp[e,fO]
  |
   kz s h =>
   by_cases e:k=i
   ·simp[e,fO,Ne.symm h]
   ·simp[e,fO]
  |
   bd j h =>
   by_cases e:k=i
   ·simp[e,fO,Ne.symm h]
   ·simp[e,fO]
 |
  .name s,hn=>by
  have hs:s≠x:=by simpa[bo]using hn
  cases h with
  |nm=>simp[dO,fO,hs]
  |kz=>rfl
  |bd=>rfl
 | .plus _ _,_=>by cases h<;>rfl
 | .times _ _,_=>by cases h<;>rfl
 | .rc _,_=>by cases h<;>rfl
 | .zero,_=>by cases h<;>rfl
 | .one,_=>by cases h<;>rfl
theorem ig(x:Nm):∀(n:Nat) (t:Ty) (i:Nat) (a b:Tg) (v:Vl),bo x t=false->Rl x i a b->ek n (dO (.name x) t i) a v=ek n t b v
 |0,_,_,_,_,_,_,_=>rfl
 |
  n+1,t,i,a,b,v,hn,h=>by
  rw[ek,ek,h.at t hn]
  by_cases ht:fO t b=true
  ·rw[if_pos ht,if_pos ht]
  ·rw[if_neg ht,if_neg ht]
   cases t with
   |
    plus p q =>
    simp only[bo,cD]at hn
    cases v<;>simp only[dO,jX,ig x n p i a b _ hn.1 h,ig x n q i a b _ hn.2 h]
   |
    times p q =>
    simp only[bo,cD]at hn
    cases v<;>simp only[dO,jX,ig x n p i a b _ hn.1 h,ig x n q i a b _ hn.2 h]
   |
    rc p =>
    have h0:Rl x (i+1) (.bd 0) (.bd 0):=.bd _ _ (by omega)
    cases v<;>simp only[dO,jX]
    rename_i w
    rw[ig x n p (i+1) a.up b.up w hn h.up,ig x n p (i+1) (.bd 0) (.bd 0) w hn h0]
    congr 1
    apply j8
    intro k _
    have:=ig x n (.rc p) i a b k.2 hn h
    simp only[dO]at this
    rw[this]
   |
    bW k =>
    simp only[dO]
    by_cases e:k=i
    ·rw[if_pos e];cases v<;>rfl
    ·rw[if_neg e];cases v<;>rfl
   |name s=>rfl
   |zero=>rfl
   |one=>rfl
theorem od(x:Nm){t:Ty}{i:Nat}{a b:Tg}(v:Vl)(hn:bo x t=false)(h:Rl x i a b):cj (dO (.name x) t i) a v=cj t b v:=ig x _ t i a b v hn h
theorem mD(n:Nat):∀(m:Nat) (v:Vl),v.nodes<=m->∀(t:Ty) (s:Nm) (d:Ty) (σ:Nm->Option Ty),Dv t s d->Eu σ->j9 t 0->vT n v (eZ σ t)=true->∀h,h∈cj t (.nm s) v ->
 vT n h.1 (eZ σ d)=true/\vT n h.2 (eZ σ (.name s))=true/\dC t h.1 h.2=v
 |0,v,hm=>by have:=da v;omega
 |
  m+1,v,hm=>by
  intro t s d σ hd hσ hl hv h hh
  cases hd with
  |zero=>rw[dT rfl (by cases v<;>rfl)]at hh;cases hh
  |one=>rw[dT rfl (by cases v<;>rfl)]at hh;cases hh
  |bW=>rw[dT rfl (by cases v<;>rfl)]at hh;cases hh
  |ss hne=>rw[dT (by simp[fO,hne]) (by cases v<;>rfl)]at hh;cases hh
  |
   hit =>
   rw[mW v (by simp[fO])]at hh
   simp only[aT]at hh
   subst hh
   exact⟨rfl,hv,nr _ _ _⟩
  |
   @plus a b _ a' b' h1 h2 _ =>
   rcases lO hv with⟨w,rfl,hw⟩|⟨w,rfl,hw⟩
   ·simp only[Vl.nodes]at hm
    rw[ny]at hh
    obtain⟨k,hk,rfl⟩:=cZ hh
    obtain⟨q1,q2,q3⟩:=mD n m w (by omega) _ s _ σ h1 hσ hl.1 hw k hk
    exact⟨q1,q2,congrArg Vl.l q3⟩
   ·simp only[Vl.nodes]at hm
    rw[nC]at hh
    obtain⟨k,hk,rfl⟩:=cZ hh
    obtain⟨q1,q2,q3⟩:=mD n m w (by omega) _ s _ σ h2 hσ hl.2 hw k hk
    exact⟨q1,q2,congrArg Vl.r q3⟩
  |
   @times a b _ a' b' h1 h2 _ =>
   obtain⟨x,y,rfl,hx,hy⟩:=jP hv
   simp only[Vl.nodes]at hm
   rw[ni]at hh
   rcases aQ.1 hh with hh|hh
   ·obtain⟨k,hk,rfl⟩:=cZ hh
    obtain⟨q1,q2,q3⟩:=mD n m x (by omega) _ s _ σ h1 hσ hl.1 hx k hk
    refine⟨?_,q2,congrArg (fun q=>Vl.p q y) q3⟩
    show (vT n k.1 (eZ σ a')&&vT n y (eZ σ b))=true
    rw[q1,hy];rfl
   ·obtain⟨k,hk,rfl⟩:=cZ hh
    obtain⟨q1,q2,q3⟩:=mD n m y (by omega) _ s _ σ h2 hσ hl.2 hy k hk
    refine⟨?_,q2,congrArg (Vl.p x) q3⟩
    show (vT n x (eZ σ a)&&vT n k.1 (eZ σ b'))=true
    rw[q1,hx];rfl
  |
   @rc a _ c0 d0 x hx hs h1 h2 hsz =>
   have lo:j9 (dO (.name x) a 0) 0:=iW x a hl
   obtain⟨X,e1,e2⟩:=sH (x:=x) hσ hl (h1.lc lo) (h2.lc lo)
   obtain⟨w,rfl,hw⟩:=E0 hv
   simp only[Vl.nodes]at hm
   have hcl:=pE hσ x (kI hσ (.rc a) hl)
   have hop:eZ (jm σ x (eZ σ (.rc a))) (dO (.name x) a 0)=dO (eZ σ (.rc a)) (eZ σ a) 0:=jD hσ x _ a 0 hx
   have hns:eZ (jm σ x (eZ σ (.rc a))) (.name s)=eZ σ (.name s):=by simp only[eZ,jm,if_neg (Ne.symm hs)]
   have hnx:eZ (jm σ x (eZ σ (.rc a))) (.name x)=eZ σ (.rc a):=by simp[eZ,jm]
   have hw':vT n w (eZ (jm σ x (eZ σ (.rc a))) (dO (.name x) a 0))=true:=by rw[hop];exact hw
   have ty:∀y,vT n y (dO (.rc X) X 0)=true->vT n (.f y) (eZ σ (qb a x c0 d0))=true:=fun y hy=>by rw[e1];exact hy
   rw[nl]at hh
   rcases aQ.1 hh with hh|hh
   ·obtain⟨k,hk,rfl⟩:=cZ hh
    have hk':k∈cj (dO (.name x) a 0) (.nm s) w:=by rw[od x w hx (.kz 0 s (Ne.symm hs))];exact hk
    obtain⟨q1,q2,q3⟩:=mD n m w (by omega) _ s _ _ h1 hcl lo hw' k hk'
    rw[eX x k.1.nodes k.1 a 0 k.2 (aq _)]at q3
    refine⟨ty _ ?_,by rw[<-hns];exact q2,congrArg Vl.f q3⟩
    rw[e2];exact q1
   ·obtain⟨k,hk,hh⟩:=dw.1 hh
    obtain⟨k2,hk2,rfl⟩:=cZ hh
    have hk':k∈cj (dO (.name x) a 0) (.nm x) w:=by rw[od x w hx (.nm 0)];exact hk
    obtain⟨q1,q2,q3⟩:=mD n m w (by omega) _ x _ _ h2 hcl lo hw' k hk'
    rw[eX x k.1.nodes k.1 a 0 k.2 (aq _)]at q3
    rw[hnx]at q2
    have hsz2:=(ik hk).1
    obtain⟨r1,r2,r3⟩:=mD n m k.2 (by omega) (.rc a) s _ σ (.rc x hx hs h1 h2 hsz) hσ hl q2 k2 hk2
    refine⟨ty _ ?_,r2,?_⟩
    ·rw[e2]
     show (vT n k.1 _&&vT n k2.1 _)=true
     rw[q1,r1];rfl
    ·show Vl.f (dC a k.1 (dC (.rc a) k2.1 k2.2))=.f w
     rw[r3,q3]
theorem D0{n:Nat}{a D:Ty}{x:Nm}(hx:bo x a=false)(hl:j9 (.rc a) 0)(h:pH a x=some D){v:Vl}(hv:vT n v (.rc a)=true){k:Hl}(hk:k∈kids a v) :
 vT n k.1 D=true/\vT n k.2 (.rc a)=true/\.f (dC a k.1 k.2)=v:=by
 simp only[pH,bu,cU,fe]at h
 obtain⟨d,hd,_,rfl⟩:=h
 have lo:j9 (dO (.name x) a 0) 0:=iW x a hl
 have hcl:=pE um x hl
 have e1:sub x (.rc a) d=eZ (jm HQ x (.rc a)) d:=by
  have:=jg HQ x (.rc a) d
  rw[jW,jW]at this;exact this
 obtain⟨w,rfl,hw⟩:=E0 hv
 have hk':k∈cj (dO (.name x) a 0) (.nm x) w:=by rw[od x w hx (.nm 0)];exact hk
 have hop:eZ (jm HQ x (.rc a)) (dO (.name x) a 0)=dO (.rc a) a 0:=by rw[jD um x _ a 0 hx,jW]
 obtain⟨q1,q2,q3⟩:=mD n w.nodes w (aq _) _ x _ _ hd hcl lo (by rw[hop];exact hw) k hk'
 rw[eX x k.1.nodes k.1 a 0 k.2 (aq _)]at q3
 refine⟨by rw[e1];exact q1,?_,congrArg Vl.f q3⟩
 simpa[eZ,jm]using q2
theorem hG:∀{t:Ty},cc t=true->∃y,bo y t=true/\dk y=true
 | .name s,h=>⟨s,by simp[bo],h⟩
 |
  .plus a b,h=>by
  simp only[cc,bE]at h
  rcases h with h|h
  ·obtain⟨y,h1,h2⟩:=hG h;exact⟨y,by simp[bo,h1],h2⟩
  ·obtain⟨y,h1,h2⟩:=hG h;exact⟨y,by simp[bo,h1],h2⟩
 |
  .times a b,h=>by
  simp only[cc,bE]at h
  rcases h with h|h
  ·obtain⟨y,h1,h2⟩:=hG h;exact⟨y,by simp[bo,h1],h2⟩
  ·obtain⟨y,h1,h2⟩:=hG h;exact⟨y,by simp[bo,h1],h2⟩
 |
  .rc a,h=>by
  obtain⟨y,h1,h2⟩:=hG (t:=a) h;exact⟨y,by simp[bo,h1],h2⟩
theorem ib:∀{t:Ty} {y:Nm},bo y t=true->dk y=true->cc t=true
 |
  .name s,y,h,hl=>by
  have:s=y:=by simpa[bo]using h
  rw[this];exact hl
 |
  .plus a b,y,h,hl=>by
  simp only[bo,bE]at h
  simp only[cc,bE]
  exact h.imp (ib · hl) (ib · hl)
 |
  .times a b,y,h,hl=>by
  simp only[bo,bE]at h
  simp only[cc,bE]
  exact h.imp (ib · hl) (ib · hl)
 | .rc a,y,h,hl=>ib (t:=a) h hl
 | .zero,y,h,_=>by simp[bo]at h
 | .one,y,h,_=>by simp[bo]at h
 | .bW k,y,h,_=>by simp[bo]at h
theorem ZT.Ui{s d:Nm}{a:Ty}{x A B:E}{D:Ty}(z:ZT s d a x A B D):∃e,jI d=some e/\Ask e [] D:=by
 have hcl:cc D=false:=by
  cases q:cc D with
  |false=>rfl
  |
   true =>
   obtain⟨y,h1,h2⟩:=hG q
   have:=ib (t:=.rc a) (tv z.lp y h1) h2
   rw[z.ask.cl]at this;cases this
 have hc:xz d=some D:=by unfold xz;rw[z.bk];simp only;rw[if_pos (by rw[tj,hcl];rfl)]
 cases q:jI d with
 |none=>rw[nv q]at hc;cases hc
 |
  some e =>
  obtain⟨t,h1,hA,_⟩:=gT q
  rw[hc]at h1;cases h1
  exact⟨e,rfl,hA⟩
theorem ZT.T5{s d:Nm}{a:Ty}{x A B:E}{D:Ty}(z:ZT s d a x A B D){w:Vl}(hb:w.gp 100)(hv:vT 100 w D=true):nA d w.cE 100=if w.nodes<=200 then some w else none:=by
 obtain⟨e,he,hA⟩:=z.Ui
 unfold nA
 rw[he]
 by_cases hn:w.nodes<=200
 ·rw[qV hb hn,if_pos hn]
  simp only
  rw[if_pos ⟨by omega,by rw[show (100:Int).toNat=100 from rfl,oC hA];exact hv⟩]
 ·rw[if_neg hn]
  cases q:rL w.cE with
  |none=>rfl
  |
   some w' =>
   exfalso
   obtain⟨_,h2,h3⟩:=l9 q
   have:=uH hb h2 (qR q)
   rw[this]at hn;exact hn h3
theorem ZT.S7{s d:Nm}{a:Ty}{x A B:E}{D:Ty}(z:ZT s d a x A B D){v:Vl}(hv:Fo a v){k:Hl}(hk:k∈kids a v):vT 100 k.1 D=true/\Fo a k.2/\.f (dC a k.1 k.2)=v:=by
 obtain⟨e2,he2,hw2,hte2,_,_⟩:=qa z.y
 have hlc:j9 (.rc a) 0:=hte2 ▸ hw2.rn.1
 obtain⟨q1,q2,q3⟩:=D0 (xM z.y) hlc z.lp hv.ty hk
 have:=nw hk
 have:=hv.nd
 exact⟨q1,⟨q2,(jV hv.gp hk).2,by omega⟩,q3⟩
def tJ(a:Ty)(l:List Vl)(v:Vl)(k:Int):Option (List Vl×Vl) :=
 if l.length=50 then none else if 0<=k/\k.toNat<(kids a v).length then
  (if((kids a v).getD k.toNat (.u,.u)).1.nodes<=200 then some (l++[((kids a v).getD k.toNat (.u,.u)).1],((kids a v).getD k.toNat (.u,.u)).2)else none)else none
theorem rY{a:Ty}{l:List Vl}{c e v:Vl}(h:.f (dC a c e)=v)(hn:v.nodes<=200):rM a (l++[c]) e=some (l,v)/\qF a (l++[c]) e=qF a l v:=by
 have hu:rM a (l++[c]) e=some (l,v):=by
  unfold rM
  rw[List.getLast?_concat]
  simp only
  rw[h,if_pos hn,List.dropLast_concat]
 refine⟨hu,?_⟩
 unfold qF
 rw[an,List.length_singleton,jw,hu]
 rfl
theorem zT{s d:Nm}{l:List Vl}{v:Vl}(hs:St s d (zA s) l v)(hd:cK s=some d)(hv:iH s (l.map (·.cE)) v.cE=some (l,v)){k:Hl}(hk:k∈kids (zA s) v) :
 iH s (l.map (·.cE)++[k.1.cE]) k.2.cE=if l.length=50 then none else if k.1.nodes<=200 then some (l++[k.1],k.2)else none:=by
 obtain⟨x,A,B,D,z⟩:=hs.z
 obtain⟨t1,t2,t3⟩:=z.S7 hs.i.p5 hk
 have hb:=(jV hs.i.p5.gp hk).1
 have hz:=(gZ hv).1
 have hclo:=(gZ hv).2
 have hlen:=hs.len
 have hlp:eC d (l.map (·.cE))=some l:=by
  rw[vf,hd]at hz
  simp only[aV,z.l]at hz
  obtain⟨_,h1,h2⟩:=bu.1 hz
  split at h2
  ·obtain⟨l',h3,h4⟩:=Option.map_eq_some_iff.1 h2
   cases h4;exact h3
  ·cases h2
 have e1:nA s k.2.cE 100=some k.2:=by rw[z.cE t2.gp t2.ty,if_pos t2.nd]
 unfold iH
 rw[vf,hd]
 simp only[aV,z.l,e1,tQ,hlp,eC,z.T5 hb t1,an,cq,List.length_singleton]
 by_cases h50:l.length=50
 ·rw[if_neg (by omega),if_pos h50];rfl
 ·rw[if_pos (by omega),if_neg h50]
  by_cases hn:k.1.nodes<=200
  ·rw[if_pos hn,if_pos hn]
   simp only[cg,aV,(rY (l:=l) t3 hs.i.p5.nd).2]
   rw[if_pos hclo]
  ·rw[if_neg hn,if_neg hn];rfl
end Go.Proofs.Trees
namespace Go.Proofs.Trees
open Go Go.VL Go.RowKit
def u6(s:Nm)(o:Option (List Vl×Vl)):AV->List Ob->Prop:=fun r obs=>obs=[]/\∃pa,cB pa (tZ s o).2.1/\r=.cA [.agg [.v (.string (mk (tZ s o).1)),pa,.v (.string (mk (tZ s o).2.2))],.v (.bool o.isSome)]
theorem Gr(s:Nm){o:Option (List Vl×Vl)}(h:GZ o):(tZ s o).2.1.length<=51:=by
 cases o with
 |none=>simp
 |some r=>obtain⟨_,_,h3⟩:=h r rfl;simpa using h3
theorem u6.ne(s:Nm)(o:Option (List Vl×Vl)):∃r ob,u6 s o r ob:=⟨_,[],rfl,_,cB.of _,rfl⟩
theorem u6.none(s:Nm):u6 s none (.cA [.agg [.v (.string (mk [])),.v (.slice none 0 0),.v (.string (mk []))],.v (.bool false)]) []:=⟨rfl,_,cB.nil,rfl⟩
theorem zr{s:Nm}{p:List Nm}{f:Nm}{l:List Vl}{v:Vl}(h:iH s p f=some (l,v)):∃d,St s d (zA s) l v/\p=l.map (·.cE)/\f=v.cE:=xt (gZ h).1
theorem Mt(s:Nm)(pa:AV)(p:List Nm)(hp:cB pa p)(f:Nm):ap Tryz.prog 57 [.agg [.v (.string (mk s)),pa,.v (.string (mk f))]] [] (u6 s (iH s p f)):=by
 refine TE _ _ _ hp.1 ?_
 unfold Kx
 refine ai (Mw s pa p hp f) ?_
 simp only[↓zq,zs,ac]
 cases q:iH s p f with
 |none=>simp only[bn];exact⟨fun _=>u6.none s,fun h=>by simp at h⟩
 |
  some r =>
  obtain⟨_,_,rfl,rfl⟩:=zr (l:=r.1) (v:=r.2) q
  simp only[a6]
  exact⟨fun h=>by simp at h,fun _=>⟨rfl,pa,hp,rfl⟩⟩
theorem vL(s f:Nm):iH s [] f=sO s [] f:=by
 unfold iH
 cases q:sO s [] f with
 |none=>rfl
 |
  some r =>
  obtain⟨l,v⟩:=r
  obtain⟨_,_,h,_⟩:=xt q
  have:l=[]:=List.map_eq_nil_iff.1 h.symm
  subst this
  rfl
theorem Sl(s f:Nm):ap Tryz.prog 33 [.v (.string (mk s)),.v (.string (mk f))] [] (u6 s (sO s [] f)):=by
 refine R8 _ _ ?_
 unfold N5
 rw[<-vL]
 refine aN (Mt s _ [] (cB.of []) f) (u6.ne _ _) ?_
 rintro r o ⟨rfl,pa,hp,rfl⟩
 simp only[↓zq,zs,ac,zt,bz]
 exact⟨hp.1,rfl,pa,hp,rfl⟩
def lR(l:List Hl):List (List AV):=l.map fun h=>[.v (.string (mk h.1.cE)),.v (.string (mk h.2.cE))]
theorem nV(l:List Hl):(lR l).length=l.length:=by simp[lR]
theorem J5(l:List Hl)(hl:l.length<=1000)(h1:∀h,h∈l->h.1.cE.length<=900000)(h2:∀h,h∈l->h.2.cE.length<=900000):∀(k i:Nat) (out:List Hl),i+k=l.length->out.length<=i ->
 IY [.sl (lY l),.v (.int .i64 (i:Int))] [.vec 2 (lR out)] (gj 1 [] [.vec 2 (lR (out++l.drop i))])
 |
  0,i,out,hi,ho=>by
  refine Py _ _ _ ?_
  have:i=l.length:=by omega
  subst this
  simp only[IJ,↓zq,zs,ac,eJ,List.drop_length]
  exact⟨fun h=>by omega,fun _=>by simp[gj]⟩
 |
  k+1,i,out,hi,ho=>by
  have hlt:i<l.length:=by omega
  have hm:=bB hlt
  have t1:=BX (l[i]).1.cG (l8 _) (h1 _ hm)
  have t2:=BX (l[i]).2.cG (l8 _) (h2 _ hm)
  rw[cX]at t1 t2
  refine Py _ _ _ ?_
  simp only[IJ,↓zq,zs,ac,zt,eJ,gf hlt,bz,aX]
  refine⟨fun _=>?_,fun h=>by omega⟩
  repeat refine⟨by omega,?_⟩
  refine ai t1 ?_
  simp only[↓zq,zs,ac,zt]
  repeat refine⟨by omega,?_⟩
  refine ai t2 ?_
  simp only[↓zq,zs,ac,zt,nV]
  refine⟨⟨fun c hc=>by simp at hc;rw[hc];rfl,by omega⟩,?_⟩
  rw[bp i (by omega),aP hlt]
  have:=J5 l hl h1 h2 k (i+1) (out++[l[i]]) (by omega) (by simp;omega)
  rw[aW]at this
  simpa[lR]using this
theorem Tc(l:List Hl)(hl:l.length<=1000)(h1:∀h,h∈l->h.1.cE.length<=900000)(h2:∀h,h∈l->h.2.cE.length<=900000):ap Tryz.prog 94 [.sl (lY l)] [] (bG (.sl (lR l))):=by
 refine Tl _ ((bT _).mpr trivial) ?_
 unfold Ll
 refine co (J5 l hl h1 h2 l.length 0 [] (by omega) (by simp)) ?_
 simp only[↓zq,zs,ac]
 exact⟨rfl,rfl⟩
theorem rN{a:Ty}{v:Vl}(h:Fo a v){k:Hl}(hk:k∈kids a v):k.1.cE.length<=900000/\k.2.cE.length<=900000:=by
 obtain⟨b1,b2⟩:=jV h.gp hk
 have h1:=gH _ b1
 have h2:=gH _ b2
 have h3:=nw hk
 have h4:=h.nd
 have h5:k.1.nodes<=4*v.nodes:=by
  cases v with
  |f w=>have:=(ik hk).2;simp only[Vl.nodes];omega
  |_=>cases hk
 omega
theorem Qz{s d:Nm}{a:Ty}{x A B:E}{D:Ty}(z:ZT s d a x A B D)(v:Vl)(hv:Fo a v):ap Tryz.prog 59 [.v (.string (mk s)),.v (.string (mk v.cE))] [] (bG (.cA [.sl (lR (kids a v)),.v (.bool true)])):=by
 have hv2:nA s v.cE 100=some v:=by rw[z.cE hv.gp hv.ty,if_pos hv.nd]
 have hP:=P3.of x A B
 have hn:=hv.nd
 obtain⟨v0,hv0,_⟩:=pn .nil z.hx (hv.eG z)
 have hkids:=PH 100 v x A B a z.body z.hx v0 hv0 (hv.eG z) (by omega)
 have hV:=P2.of (.atom [102]) v0.cG
 refine Qp _ _ ?_
 unfold LU
 refine aN (DA s) (jv.ne _ _ (fun h=>h)) ?_
 rintro r o ⟨c,e,he,rfl,hh⟩
 rw[z.le]at hh
 obtain⟨e',he',hce⟩:=hh rfl
 cases he'
 rw[cX]at hce
 rw[hce,z.le]
 simp only[↓zq,zs,ac,zt,aK,bN]
 repeat refine⟨by omega,?_⟩
 refine aN (BS v.cE) (jv.ne _ _ (fun h=>by simpa using h)) ?_
 rw[qV hv.gp hn]
 rintro r o ⟨c,e,he,rfl,hh⟩
 obtain⟨e',he',hce⟩:=hh rfl
 cases he'
 rw[cX]at hce
 rw[hce]
 simp only[↓zq,zs,ac,zt,aK,a6]
 repeat refine⟨by omega,?_⟩
 refine⟨fun h=>by simp at h,fun _=>?_⟩
 refine ai (xe s v.cE 100) ?_
 rw[hv2,hv0]
 simp only[toNat_one,bg,Vl.cG,bN,↓zq,zs,ac,zt,hP.1,hP.2.1,hP.2.2.1,hP.2.2.2,hV.1,hV.2.1,hV.2.2,aK,aX,a6]
 refine⟨fun h=>by simp at h,fun _=>?_⟩
 repeat refine⟨by omega,?_⟩
 refine ai hkids ?_
 simp only[↓zq,zs,ac]
 repeat refine⟨by omega,?_⟩
 have hlen:=kS a v
 have:=kW (kids a v)
 refine ai (Tc (kids a v) (by omega) (fun h hh=>(rN hv hh).1) (fun h hh=>(rN hv hh).2)) ?_
 rw[<-hv0]
 simp only[↓zq,zs,ac]
 exact⟨rfl,rfl⟩
end Go.Proofs.Trees
namespace Go.Proofs.Trees
open Go Go.VL Go.RowKit
theorem oA{a:Ty}{l l':List Vl}{v w:Vl}{k:Int}(h:tJ a l v k=some (l',w)):∃q,q∈kids a v/\l'=l++[q.1]/\w=q.2/\q.1.nodes<=200/\l.length≠50/\0<=k/\(kids a v)[k.toNat]?=some q:=by
 unfold tJ at h
 split at h
 ·cases h
 ·rename_i h0
  split at h
  ·rename_i h1
   split at h
   ·rename_i h2
    cases h
    have e:(kids a v).getD k.toNat (.u,.u)=(kids a v)[k.toNat]'h1.2:=by simp[aa,h1.2]
    rw[e]at h2 |-
    exact⟨_,bB _,rfl,rfl,h2,h0,h1.1,by simp[h1.2]⟩
   ·cases h
  ·cases h
theorem St.dn{s d:Nm}{a:Ty}{l l':List Vl}{v w:Vl}{k:Int}(h:St s d a l v)(hu:tJ a l v k=some (l',w)):St s d a l' w/\rM a l' w=some (l,v)/\l'.length=l.length+1:=by
 obtain⟨q,hq,rfl,rfl,hn,h50,_,_⟩:=oA hu
 obtain⟨x,A,B,D,z⟩:=h.z
 obtain⟨t1,t2,t3⟩:=z.S7 h.i.p5 hq
 have hv:nA d q.1.cE 100=some q.1:=by rw[z.T5 (jV h.i.p5.gp hq).1 t1,if_pos hn]
 have hlen:=h.len
 refine⟨⟨⟨x,A,B,D,z⟩,⟨fun c hc=>?_,t2⟩,fun c hc=>?_,by simp;omega⟩,(rY t3 h.i.p5.nd).1,by simp⟩
 ·rcases aQ.1 hc with hc|hc
  ·exact h.i.Df c hc
  ·simp only[aT]at hc;subst hc;exact z.Df hv
 ·rcases aQ.1 hc with hc|hc
  ·exact h.each c hc
  ·simp only[aT]at hc;subst hc;exact hv
theorem RN{s d:Nm}{a:Ty}{l:List Vl}{v:Vl}(h:St s d a l v)(k:Int):ap Tryz.prog 31 [pJ s a l v,.v (.int .i64 k)] [] (bG (oZ s a (tJ a l v k))):=by
 obtain⟨x,A,B,D,z⟩:=h.z
 have hnd:=h.i.p5.nd
 have hlen:=h.len
 refine Pk _ _ ((cb _).mpr trivial) ?_
 simp only[GC,pJ,↓zq,zs,ac,gD,aO,aE]
 refine⟨fun h=>(by cases h),fun _=>?_⟩
 repeat refine⟨by first|trivial|omega,?_⟩
 unfold tJ
 refine⟨fun h5=>?_,fun h5=>?_⟩
 ·rw[if_pos (by omega)];exact⟨rfl,rfl⟩
 ·rw[if_neg (by omega)]
  repeat refine⟨by first|trivial|omega,?_⟩
  refine ai (Pj 100 v x A B a z.body z.hx (h.i.p5.eG z) (by omega)) ?_
  have hkl:(gL (kids a v)).length=(kids a v).length:=by simp[gL]
  simp only[↓zq,zs,ac,hkl]
  refine⟨fun h0=>?_,fun h0=>⟨fun h1=>?_,fun h1=>?_⟩⟩
  ·rw[if_neg (by omega)];exact⟨rfl,rfl⟩
  ·rw[if_neg (by omega)];exact⟨rfl,rfl⟩
  ·have hlt:k.toNat<(kids a v).length:=by omega
   rw[if_pos ⟨by omega,hlt⟩]
   have hg:(gL (kids a v)).getD k.toNat []=[((kids a v)[k.toNat]).1.cF,((kids a v)[k.toNat]).2.cF]:=by simp[gL,aa,hlt]
   have hg2:(kids a v).getD k.toNat (.u,.u)=(kids a v)[k.toNat]:=by simp[aa,hlt]
   have hm:=bB hlt
   rw[hg2]
   have hctx:((kids a v)[k.toNat]).1.nodes<=4*v.nodes:=by
    cases v with
    |f w=>have:=(ik hm).2;simp only[Vl.nodes];omega
    |_=>simp[kids]at hlt
   generalize (kids a v)[k.toNat]=q at *
   simp only[hg,↓zq,zs,ac,aO]
   repeat refine⟨by first|trivial|omega,?_⟩
   refine ai (Fm q.1 (by omega)) ?_
   simp only[↓zq,zs,ac,aO,aE,zt]
   refine⟨fun hb=>?_,fun hb=>?_⟩
   ·rw[if_neg (by omega)];exact⟨rfl,rfl⟩
   ·rw[if_pos (by omega)]
    repeat refine⟨by first|trivial|omega,?_⟩
    refine⟨⟨fun c hc=>?_,by simp[vu];omega⟩,?_⟩
    ·simp only[vu,bK]at hc
     obtain⟨y,_,rfl⟩:=hc;rfl
    repeat refine⟨by first|trivial|omega,?_⟩
    refine⟨⟨fun c hc=>by simp at hc;rw[hc];rfl,by simp[vu];omega⟩,?_⟩
    repeat refine⟨by first|trivial|omega,?_⟩
    refine⟨?_,rfl⟩
    simp only[oZ,pJ,aR,y0]
theorem QD(s:Nm)(a:Ty)(o:Option (List Vl×Vl))(ho:∀r,o=some r->∃d,St s d a r.1 r.2)(k:Int):ap Tryz.prog 31 [oZ s a o,.v (.int .i64 k)] [] (bG (oZ s a (o.bind fun r=>tJ a r.1 r.2 k))):=by
 cases o with
 |
  none =>
  refine Pk _ _ ((iA).mpr trivial) ?_
  simp only[GC,oZ,↓zq,zs,ac,bH]
  exact⟨fun _=>⟨rfl,rfl⟩,fun h=>(by cases h)⟩
 |
  some r =>
  obtain⟨d,h⟩:=ho r rfl
  exact RN h k
noncomputable def zL (s:Nm) (p:List Nm) (f:Nm) (k:Int):Option (List Vl×Vl):=(iH s p f).bind fun r=>tJ (zA s) r.1 r.2 k
theorem St.gz{s d:Nm}{a:Ty}{l:List Vl}{v:Vl}(h:St s d a l v):GZ (some (l,v)):=h.i.gz (by have:=h.len;omega)
theorem Tk(pa:AV)(p:List Nm)(hp:cB pa p)(c:Nm)(hl:p.length<=1000000):ap Tryz.prog 61 [pa,.v (.string (mk c))] [] (bG (.sl (bY (p++[c])))):=by
 refine KY _ _ hp.1 ?_
 simp only[FL,↓zq,zs,ac,zt]
 have hpl:pa.aJ.length=p.length:=hp.len
 refine⟨⟨hp.1,fun y hy=>?_,by simp;omega⟩,⟨fun y hy=>by simp at hy;rw[hy];rfl,by simp;omega⟩,?_,rfl⟩
 ·rw[hp.2]at hy
  obtain⟨t,_,rfl⟩:=bK.1 hy
  rfl
 ·rw[hp.2];simp[bY]
theorem xi{l:List Hl}{i:Nat}(h:i<l.length):(lR l).getD i []=[.v (.string (mk (l[i]).1.cE)),.v (.string (mk (l[i]).2.cE))]:=by simp[lR,aa,h]
theorem pM{s:Nm}{p:List Nm}{f:Nm}{r:List Vl×Vl}(h:sO s p f=some r):∃d,cK s=some d/\St s d (zA s) r.1 r.2/\p=r.1.map (·.cE)/\f=r.2.cE:=by
 obtain⟨d,a,x,A,B,D,z,hz,hp,hf,hl,hza,_,hr⟩:=oK (l:=r.1) (v:=r.2) h
 rw[hza]
 exact⟨d,z.dl,⟨⟨x,A,B,D,z⟩,hz,n0 hr hp,by rw[hp]at hl;simpa using hl⟩,hp,hf⟩
theorem Fa{s d:Nm}{l:List Vl}{v:Vl}(hs:St s d (zA s) l v)(hd:cK s=some d)(hv:iH s (l.map (·.cE)) v.cE=some (l,v)){k:Int}(h0:0<=k)(hk:k.toNat<(kids (zA s) v).length) :
 iH s (l.map (·.cE)++[((kids (zA s) v)[k.toNat]).1.cE]) ((kids (zA s) v)[k.toNat]).2.cE=tJ (zA s) l v k:=by
 rw[zT hs hd hv (bB hk)]
 unfold tJ
 by_cases h5:l.length=50
 ·rw[if_pos h5,if_pos h5]
 ·rw[if_neg h5,if_neg h5,if_pos (show 0<=k/\k.toNat<(kids (zA s) v).length from ⟨h0,hk⟩)]
  have hg2:(kids (zA s) v).getD k.toNat (.u,.u)=(kids (zA s) v)[k.toNat]:=by simp[aa,hk]
  rw[hg2]
theorem QU(s:Nm)(pa:AV)(p:List Nm)(hp:cB pa p)(f:Nm)(k:Int):ap Tryz.prog 34 [.agg [.v (.string (mk s)),pa,.v (.string (mk f))],.v (.int .i64 k)] [] (u6 s (zL s p f k)):=by
 refine TQ _ _ _ _ hp.1 ?_
 unfold Mn
 refine ai (Mw s pa p hp f) ?_
 simp only[↓zq,zs,ac]
 unfold zL
 cases q:iH s p f with
 |none=>simp only[bn];exact⟨fun _=>u6.none s,fun h=>by simp at h⟩
 |
  some r =>
  obtain⟨l,v⟩:=r
  obtain⟨d,hd,hs,rfl,rfl⟩:=pM (gZ q).1
  obtain⟨x,A,B,D,z⟩:=hs.z
  have hlen:l.length<=50:=hs.len
  have hnd:v.nodes<=200:=hs.i.p5.nd
  have hks:=kS (zA s) v
  have hks2:=kW (kids (zA s) v)
  simp only[a6,aV]
  refine⟨fun h=>by simp at h,fun _=>?_⟩
  refine ai (Qz z v hs.i.p5) ?_
  simp only[↓zq,zs,ac,nV]
  rw[wrap64 (((kids (zA s) v).length:Int)-1) (by omega) (by omega)]
  refine ai (A4 k 0 _) ?_
  rw[show Dd k 0 (((kids (zA s) v).length:Int)-1)=decide (0<=k/\k<=((kids (zA s) v).length:Int)-1) by rw[cx];simp[Dd]]
  simp only[↓zq,zs,ac,nV]
  by_cases hin:0<=k/\k<=((kids (zA s) v).length:Int)-1
  ·have hlt:k.toNat<(kids (zA s) v).length:=by omega
   refine⟨fun h=>(by exfalso;first|omega|(simp at h;omega)),fun _=>?_⟩
   simp only[xi hlt,↓zq,zs,ac,zt]
   repeat refine⟨by first|trivial|omega,?_⟩
   refine ai (Tk pa _ hp _ (by simp;omega)) ?_
   simp only[↓zq,zs,ac,zt]
   repeat refine⟨by first|trivial|omega,?_⟩
   refine aN (Mt s _ _ (cB.of _) _) (u6.ne _ _) ?_
   rw[Fa hs hd q hin.1 hlt]
   rintro r o ⟨rfl,pa',hp',rfl⟩
   simp only[↓zq,zs,ac,zt,bz]
   exact⟨hp'.1,rfl,pa',hp',rfl⟩
  ·refine⟨fun _=>?_,fun h=>(by exfalso;first|omega|(simp at h;omega))⟩
   have:tJ (zA s) l v k=none:=by
    unfold tJ
    by_cases h5:l.length=50
    ·rw[if_pos h5]
    ·rw[if_neg h5,if_neg (by omega)]
   rw[this]
   exact u6.none s
end Go.Proofs.Trees
namespace Go.Proofs.Trees
open Go Go.VL Go.RowKit
abbrev ZO:=Option (List Vl×Vl)
def AX(s:Nm)(o:ZO):Prop:=∀r,o=some r->∃d,St s d (zA s) r.1 r.2
def zQ(a:Ty)(pl:List Int)(o:ZO):ZO:=pl.foldl (fun o k=>o.bind fun r=>tJ a r.1 r.2 k) o
theorem kY(a:Ty):∀pl,zQ a pl none=none
 |[]=>rfl
 |_::pl=>kY a pl
theorem ph(a:Ty)(k:Int)(pl:List Int)(o:ZO):zQ a (k::pl) o=zQ a pl (o.bind fun r=>tJ a r.1 r.2 k):=rfl
theorem AX.dn{s:Nm}{o:ZO}(h:AX s o)(k:Int):AX s (o.bind fun r=>tJ (zA s) r.1 r.2 k):=fun r hr=>by
 obtain⟨q,h1,h2⟩:=bu.1 hr
 obtain⟨d,hs⟩:=h q h1
 exact⟨d,(hs.dn (l':=r.1) (w:=r.2) h2).1⟩
theorem AX.go{s:Nm}:∀{pl:List Int} {o:ZO},AX s o->AX s (zQ (zA s) pl o)
 |[],o,h=>h
 |k::pl,o,h=>AX.go (pl:=pl) (h.dn k)
theorem AX.gz{s:Nm}{o:ZO}(h:AX s o):GZ o:=fun r hr=>by
 obtain⟨d,hs⟩:=h r hr
 exact hs.gz r rfl
theorem yP{a:Ty}:∀{pl:List Int} {l l':List Vl} {v w:Vl},zQ a pl (some (l,v))=some (l',w)->l.length<=50->l'.length=l.length+pl.length/\l'.length<=50
 |[],l,l',v,w,h,hl=>by cases h;exact⟨rfl,hl⟩
 |
  k::pl,l,l',v,w,h,hl=>by
  rw[ph]at h
  simp only[aV]at h
  cases q:tJ a l v k with
  |none=>rw[q,kY]at h;cases h
  |
   some r =>
   obtain⟨l1,v1⟩:=r
   rw[q]at h
   obtain⟨_,_,e,_,_,h5,_⟩:=oA q
   have hl1:l1.length=l.length+1:=by rw[e];simp
   obtain⟨h1,h2⟩:=yP h (by omega)
   exact⟨by rw[h1,hl1,au];omega,h2⟩
theorem yo(s:Nm)(p:List Nm)(f:Nm):AX s (sO s p f):=fun r hr=>by
 obtain⟨d,_,hs,_⟩:=pM hr
 exact⟨d,hs⟩
noncomputable def Cu (s f:Nm) (pl:List Int):ZO:=zQ (zA s) pl (sO s [] f)
theorem A5(s f:Nm)(pl:List Int):AX s (Cu s f pl):=(yo s [] f).go
theorem M7(s:Nm)(a:AV)(pl:List Int)(ha:im a pl)(hl:pl.length<=2000000):∀(k i:Nat) (o:ZO),i+k=pl.length->AX s o ->
 HG [oZ s (zA s) o,a,.v (.int .i64 (pl.length:Int)),.v (.int .i64 (i:Int))] [G6] (gj 1 [oZ s (zA s) (zQ (zA s) (pl.drop i) o)] [G6])
 |
  0,i,o,hi,ho=>by
  refine Ln _ _ _ _ _ _ _ ?_
  have:i=pl.length:=by omega
  subst this
  simp only[GW,↓zq,zs,ac,zt,ac,kF,bc,List.drop_length]
  exact⟨ha.1,fun h=>by omega,fun _=>⟨rfl,rfl,rfl⟩⟩
 |
  k+1,i,o,hi,ho=>by
  have hlt:i<pl.length:=by omega
  refine Ln _ _ _ _ _ _ _ ?_
  simp only[GW,↓zq,zs,ac,zt,ac,kF,bc,ha.len,ha.idx hlt,bx]
  refine⟨ha.1,fun _=>⟨⟨ha.1,by omega,by omega⟩,by omega,?_⟩,fun h=>by omega⟩
  refine ai (QD s (zA s) o ho _) ?_
  simp only[↓zq,zs,ac,kF]
  have hd:pl.drop i=pl.getD i 0::pl.drop (i+1):=by rw[aP hlt];simp[aa,hlt]
  rw[bp i (by omega),hd,ph]
  exact M7 s a pl ha hl k (i+1) _ (by omega) (ho.dn _)
theorem RM(s f:Nm)(a:AV)(pl:List Int)(ha:im a pl)(hl:pl.length<=2000000):ap Tryz.prog 8 [.v (.string (mk s)),.v (.string (mk f)),a] [] (S5 s (Cu s f pl)):=by
 refine SN _ _ _ ha.1 ?_
 unfold PO
 refine ai (O7 s _ [] (cB.nil) f) ?_
 simp only[↓zq,zs,ac,zt,kF,ha.len]
 refine⟨ha.1,?_⟩
 have hloop:=M7 s a pl ha hl pl.length 0 (sO s [] f) (by omega) (yo s [] f)
 rw[aZ]at hloop
 refine co hloop ?_
 simp only[↓zq,zs,ac,zt,ac,kF,bc]
 refine ba (Sw s (zA s) _ (A5 s f pl).gz) ?_
 simp only[↓zq,zs,ac,zt,aM]
 exact⟨sn _,rfl,rfl⟩
def LN(s:Nm)(o:ZO):Prop:=∀r,o=some r->iH s (r.1.map (·.cE)) r.2.cE=some r
theorem LN.dn{s:Nm}{o:ZO}(h:LN s o)(k:Int):LN s (o.bind fun r=>tJ (zA s) r.1 r.2 k):=fun r hr=>by
 obtain⟨q,h1,h2⟩:=bu.1 hr
 have hq:=h q h1
 obtain⟨d,hd,hs,_⟩:=pM (gZ (l:=q.1) (v:=q.2) hq).1
 obtain⟨e,_,h3,h4,_,_,h0,h5⟩:=oA (l':=r.1) (w:=r.2) h2
 have hk:k.toNat<(kids (zA s) q.2).length:=by
  rcases Nat.lt_or_ge k.toNat (kids (zA s) q.2).length with h|h
  ·exact h
  ·rw[List.getElem?_eq_none h]at h5;cases h5
 have he:(kids (zA s) q.2)[k.toNat]=e:=by rw[bm hk]at h5;cases h5;rfl
 have:=Fa hs hd hq h0 hk
 rw[h2,he]at this
 obtain⟨l1,v1⟩:=r
 simp only at h3 h4 |-
 subst h3 h4
 rw[List.map_append]
 exact this
theorem CJ(s f:Nm):LN s (sO s [] f):=fun r hr=>by
 obtain⟨d,_,_,h1,h2⟩:=pM hr
 rw[<-h1,<-h2,vL];exact hr
theorem Cq{s:Nm}{r:List Vl×Vl}(h:iH s (r.1.map (·.cE)) r.2.cE=some r)(k:Int):zL s (r.1.map (·.cE)) r.2.cE k=tJ (zA s) r.1 r.2 k:=by
 unfold zL;rw[h];rfl
def Si(s:Nm)(o:ZO):Nat->List AV->List Ob->Prop:=fun k ys ob=>match o with
 |some r=>k=1/\ys=[]/\∃pa,cB pa (r.1.map (·.cE))/\ob=[G6,.cells [.v (.string (mk s)),pa,.v (.string (mk r.2.cE))]]
 |none=>k=2/\ys=[.v (.bool false)]/\ob=[G6]
theorem K8(s:Nm)(a:AV)(pl:List Int)(ha:im a pl)(hl:pl.length<=50):∀(k i:Nat) (r:List Vl×Vl) (pa:AV),i+k=pl.length->LN s (some r)->cB pa (r.1.map (·.cE)) ->
 H7 [a,.v (.int .i64 (i:Int))] [G6,.cells [.v (.string (mk s)),pa,.v (.string (mk r.2.cE))]] (Si s (zQ (zA s) (pl.drop i) (some r)))
 |
  0,i,r,pa,hi,ho,hp=>by
  refine LL _ _ _ _ _ _ _ _ ?_
  have:i=pl.length:=by omega
  subst this
  simp only[Gd,↓zq,zs,ac,zt,ac,bc,ha.len,List.drop_length]
  exact⟨ha.1,hp.1,ha.1,fun h=>by omega,fun _=>⟨rfl,rfl,pa,hp,rfl⟩⟩
 |
  k+1,i,r,pa,hi,ho,hp=>by
  have hlt:i<pl.length:=by omega
  refine LL _ _ _ _ _ _ _ _ ?_
  simp only[Gd,↓zq,zs,ac,zt,ac,bc,ha.len,ha.idx hlt,bx]
  refine⟨ha.1,hp.1,ha.1,fun _=>⟨⟨ha.1,by omega,by omega⟩,by omega,?_⟩,fun h=>by omega⟩
  refine aN (QU s pa _ hp r.2.cE (pl.getD i 0)) (u6.ne _ _) ?_
  rw[Cq (ho r rfl)]
  have hd:pl.drop i=pl.getD i 0::pl.drop (i+1):=by rw[aP hlt];simp[aa,hlt]
  rw[hd,ph]
  simp only[aV]
  have ho':=ho.dn (pl.getD i 0)
  simp only[aV]at ho'
  cases q:tJ (zA s) r.1 r.2 (pl.getD i 0)with
  |
   none =>
   rw[kY]
   rintro r' o ⟨rfl,pa',hp',rfl⟩
   simp only[↓zq,zs,ac,zt,bz,bn]
   exact⟨hp'.1,fun _=>⟨rfl,rfl,rfl⟩,fun h=>by simp at h⟩
  |
   some r1 =>
   rintro r' o ⟨rfl,pa',hp',rfl⟩
   simp only[↓zq,zs,ac,zt,bz,a6]
   refine⟨hp'.1,fun h=>by simp at h,fun _=>?_⟩
   rw[bp i (by omega)]
   rw[q]at ho'
   exact K8 s a pl ha hl k (i+1) r1 pa' (by omega) ho' hp'
theorem Tu(s f:Nm)(a:AV)(pl:List Int)(ha:im a pl):ap Tryz.prog 9 [.v (.string (mk s)),.v (.string (mk f)),a] [] (u6 s (Cu s f pl)):=by
 refine RS _ _ _ ha.1 ?_
 unfold OU
 refine aN (Sl s f) (u6.ne _ _) ?_
 unfold Cu
 have ho:=CJ s f
 cases q:sO s [] f with
 |
  none =>
  rw[kY]
  rintro r o ⟨rfl,pa,hp,rfl⟩
  simp only[↓zq,zs,ac,zt,bz,bn]
  exact⟨hp.1,fun _=>u6.none s,fun h=>by simp at h⟩
 |
  some r =>
  rw[q]at ho
  obtain⟨d,_,hs,hn,_⟩:=pM q
  have hn0:r.1=[]:=List.map_eq_nil_iff.1 hn.symm
  rintro r' o ⟨rfl,pa,hp,rfl⟩
  simp only[↓zq,zs,ac,zt,bz,a6,ha.len]
  refine⟨hp.1,fun h=>by simp at h,fun _=>⟨ha.1,fun h5=>?_,fun h5=>?_⟩⟩
  ·have:zQ (zA s) pl (some r)=none:=by
    cases q2:zQ (zA s) pl (some r)with
    |none=>rfl
    |
     some r2 =>
     obtain⟨h1,h2⟩:=yP (l:=r.1) (v:=r.2) (l':=r2.1) (w:=r2.2) q2 (by rw[hn0];simp)
     omega
   rw[this]
   exact u6.none s
  ·have hloop:=K8 s a pl ha (by omega) pl.length 0 r pa (by omega) ho hp
   rw[aZ]at hloop
   refine kX hloop (fun ys o e=>?_) (fun ys o e=>?_)
   ·unfold Si at e
    cases q2:zQ (zA s) pl (some r)with
    |none=>rw[q2]at e;exact absurd e.1 (by decide)
    |
     some r2 =>
     rw[q2]at e
     obtain⟨_,rfl,pa',hp',rfl⟩:=e
     simp only[↓zq,zs,ac,zt,ac,bc]
     exact⟨hp'.1,rfl,pa',hp',rfl⟩
   ·unfold Si at e
    cases q2:zQ (zA s) pl (some r)with
    |some r2=>rw[q2]at e;exact absurd e.1 (by decide)
    |
     none =>
     rw[q2]at e
     obtain⟨_,rfl,rfl⟩:=e
     simp only[↓zq,zs,ac,zt,ac,bc]
     exact u6.none s
end Go.Proofs.Trees
namespace Go.Proofs.Trees
open Go Go.VL Go.RowKit
def yr(c:Nm):List Hl->Nat->Int
 |[],_=>-1
 |h::l,i=>if h.1.cE=c then(i:Int)else yr c l (i+1)
theorem TW(q:Vl)(w:AV)(hw:LK.ptr.has w)(c:Nm)(hq:q.cE.length<=900000):ap Tryz.prog 64 [.agg [q.cF,w],.ref 0 0] [.cells [.v (.string (mk c))]] (dj (.v (.bool (decide (q.cE=c)))) [.cells [.v (.string (mk c))]]):=by
 refine Q9 _ _ _ ((aO _).mpr trivial) hw ?_
 unfold K4
 refine ai (Dc q hq) ?_
 simp only[↓zq,zs,ac,zt]
 refine⟨?_,rfl⟩
 congr 2
 rw[cx];simp
theorem Kk(c:Nm)(l:List Hl)(hl:l.length<=1000)(ht:∀h,h∈l->h.1.cE.length<=900000):∀(k i:Nat),i+k=l.length->HM [.sl (gL l),.v (.int .i64 (l.length:Int)),.v (.int .i64 (i:Int))] [.cells [.v (.string (mk c))]]
 (nL (if yr c (l.drop i) i = -1 then(1,[],[.cells [.v (.string (mk c))]])else(2,[.v (.int .i64 (yr c (l.drop i) i))],[.cells [.v (.string (mk c))]])))
 |
  0,i,hi=>by
  refine Pr _ _ _ _ ?_
  have:i=l.length:=by omega
  subst this
  simp only[FU,↓zq,zs,ac,zt,ac,List.drop_length,yr]
  exact⟨fun h=>by omega,fun _=>by simp[nL]⟩
 |
  k+1,i,hi=>by
  have hlt:i<l.length:=by omega
  refine Pr _ _ _ _ ?_
  simp only[FU,↓zq,zs,ac,zt,ac,bz,ei,lK hlt,aO,bx]
  refine⟨fun _=>?_,fun h=>by omega⟩
  repeat refine⟨by first|trivial|omega,?_⟩
  refine ba (TW (l[i]).1 _ ((aO _).mpr trivial) c (ht _ (bB hlt))) ?_
  simp only[↓zq,zs,ac,zt,aM]
  rw[aP hlt,yr]
  by_cases h:(l[i]).1.cE=c
  ·simp only[if_pos h]
   refine⟨fun _=>?_,fun hn=>absurd h (by simpa using hn)⟩
   rw[if_neg (by omega)]
  ·simp only[if_neg h]
   refine⟨fun hp=>absurd (by simpa using hp) h,fun _=>?_⟩
   rw[bp i (by omega)]
   exact Kk c l hl ht k (i+1) (by omega)
theorem Qj(c:Nm)(l:List Hl)(hl:l.length<=1000)(ht:∀h,h∈l->h.1.cE.length<=900000):ap Tryz.prog 63 [.sl (gL l),.fn 64 [.ref 0 0]] [.cells [.v (.string (mk c))]] (dj (.v (.int .i64 (yr c l 0))) [.cells [.v (.string (mk c))]]):=by
 refine RE _ _ ((bT _).mpr trivial) ?_
 simp only[KE,↓zq,zs,ac,ei]
 have hloop:=Kk c l hl ht l.length 0 (by omega)
 rw[aZ]at hloop
 refine fg hloop (fun ys o e=>?_) (fun ys o e=>?_)
 ·split at e
  ·rename_i h
   cases e
   simp only[↓zq,zs,ac,zt,ac]
   rw[h];exact⟨rfl,rfl⟩
  ·cases e
 ·split at e
  ·cases e
  ·cases e
   simp only[↓zq,zs,ac,zt,ac]
   exact⟨rfl,rfl⟩
theorem Fo.kt{a:Ty}{v:Vl}(h:Fo a v):(kids a v).length<=199/\(∀k,k∈kids a v->k.1.cE.length<=900000):=by
 refine⟨?_,fun k hk=>(rN h hk).1⟩
 have h1:=kS a v
 have h2:=kW (kids a v)
 have:=h.nd
 omega
theorem Sx{s d:Nm}{a:Ty}{l l':List Vl}{v w c:Vl}(h:St s d a l v)(hu:rM a l v=some (l',w))(hc:l=l'++[c]):ap Tryz.prog 37 [pJ s a l v,pJ s a l' w] [] (bG (.v (.int .i64 (yr c.cE (kids a w) 0)))):=by
 have h':=h.up hu
 obtain⟨x,A,B,D,z⟩:=h.z
 have hlen:=h.len
 have hl1:l.length=l'.length+1:=by rw[hc];simp
 refine TT _ _ ((cb _).mpr trivial) ((cb _).mpr trivial) ?_
 simp only[NM,pJ,↓zq,zs,ac,gD,aO,aE]
 repeat refine⟨by first|trivial|omega,?_⟩
 rw[wrap64 ((l.length:Int)-1) (by omega) (by omega)]
 have e1:((l.length:Int)-1).toNat=l'.length:=by omega
 have hg:(vu l).getD l'.length []=[c.cF]:=by rw[uR (by omega)];simp[hc]
 simp only[e1,hg,↓zq,zs,ac,aO]
 repeat refine⟨by first|trivial|omega,?_⟩
 have hcx:=h.i.Df c (by rw[hc];simp)
 refine ai (Dc c hcx.cE) ?_
 simp only[↓zq,zs,ac,zt,aO,aE]
 repeat refine⟨by first|trivial|omega,?_⟩
 have hnd:=h'.i.p5.nd
 refine ai (Pj 100 w x A B a z.body z.hx (h'.i.p5.eG z) (by omega)) ?_
 simp only[↓zq,zs,ac,zt]
 have hk:=h'.i.p5.kt
 refine ba (Qj c.cE (kids a w) (by omega) hk.2) ?_
 simp only[↓zq,zs,ac,zt,aM]
 exact⟨rfl,rfl⟩
def nD:Nat->Ty->List Vl->Vl->List Int
 |0,_,_,_=>[]
 |
  n+1,a,l,v=>match rM a l v with
  |some r=>nD n a r.1 r.2++[yr ((l.getLast?).getD .u).cE (kids a r.2) 0]
  |none=>[]
theorem vN:∀(n:Nat) (a:Ty) (l:List Vl) (v:Vl),(nD n a l v).length<=n
 |0,_,_,_=>by simp[nD]
 |
  n+1,a,l,v=>by
  unfold nD
  cases rM a l v with
  |none=>simp
  |some r=>have:=vN n a r.1 r.2;simp;omega
def Rn(p q:List Int)(i:Nat):Prop:=q.length=p.length/\∀k,k<p.length->q.getD k 0=if k<i\/p.length-1-k<i then p.getD (p.length-1-k) 0 else p.getD k 0
theorem wO{l:List Int}{i j:Nat}(x:Int)(hj:j<l.length):(l.set i x).getD j 0=if i=j then x else l.getD j 0:=by
 simp only[aa,List.getElem?_set]
 split
 ·rename_i e;subst e;simp[hj]
 ·rfl
theorem PY(p:List Int)(hp:p.length<=1000000):∀(m i:Nat) (q:List Int),p.length<=m+2*i->i<=p.length->Rn p q i->Gq [.v (.int .i64 (i:Int)),.v (.int .i64 ((p.length:Int)-1-(i:Int)))] [.vec 1 (eD q)] (gj 1 [] [.vec 1 (eD p.reverse)])
 |
  m,i,q,hm,hi,hR=>by
  refine Q0 _ _ _ ?_
  by_cases hlt:(i:Int)<(p.length:Int)-1-(i:Int)
  ·have e2:((p.length:Int)-1-(i:Int)).toNat=p.length-1-i:=by omega
   have h1:i<q.length:=by rw[hR.1];omega
   have h2:p.length-1-i<q.length:=by rw[hR.1];omega
   have g1:(eD q).getD i []=[.v (.int .i64 (q.getD i 0))]:=by simp[eD,aa,h1]
   have g2:(eD q).getD (p.length-1-i) []=[.v (.int .i64 (q.getD (p.length-1-i) 0))]:=by simp[eD,aa,h2]
   have s1:(eD q).set i [.v (.int .i64 (q.getD (p.length-1-i) 0))]=eD (q.set i (q.getD (p.length-1-i) 0)):=by simp[eD,List.map_set]
   have g3:(eD (q.set i (q.getD (p.length-1-i) 0))).getD (p.length-1-i) []=[.v (.int .i64 (q.getD (p.length-1-i) 0))]:=by
    have hne:i≠p.length-1-i:=by omega
    simp[eD,aa,List.getElem?_set,hne,h2]
   simp only[IF,↓zq,zs,ac,np,bx,e2,g1,g2,List.set_cons_zero,bq,s1,g3]
   have s2:(eD (q.set i (q.getD (p.length-1-i) 0))).set (p.length-1-i) [.v (.int .i64 (q.getD i 0))]=eD ((q.set i (q.getD (p.length-1-i) 0)).set (p.length-1-i) (q.getD i 0)):=by simp[eD,List.map_set]
   simp only[s2,List.length_set]
   have hl:=hR.1
   refine⟨fun _=>⟨⟨by omega,by omega⟩,⟨h2,by first|trivial|simp⟩,⟨by omega,by omega⟩,⟨h1,by first|trivial|simp⟩,⟨by omega,by omega⟩,⟨h1,by omega⟩,⟨by omega,by omega⟩,⟨h2,by omega⟩,?_⟩,fun h=>absurd hlt h⟩
   rw[bp i (by omega),wrap64 ((p.length:Int)-1-(i:Int)-1) (by omega) (by omega),show (p.length:Int)-1-(i:Int)-1=(p.length:Int)-1-((i+1:Nat):Int) by omega]
   match m,hm with
   |0,hm=>omega
   |
    m+1,hm =>
    refine PY p hp m (i+1) _ (by omega) (by omega) ⟨by simp[hl],fun k hk=>?_⟩
    rw[wO _ (by rw[List.length_set,hl];exact hk),wO _ (by rw[hl];exact hk)]
    have hi1:=hR.2 i (by omega)
    have hi2:=hR.2 (p.length-1-i) (by omega)
    have hi3:=hR.2 k hk
    rw[if_neg (by omega)]at hi1 hi2
    by_cases c1:p.length-1-i=k
    ·subst c1
     rw[if_pos rfl,if_pos (by omega),hi1]
     congr 1;omega
    ·rw[if_neg c1]
     by_cases c2:i=k
     ·subst c2
      rw[if_pos rfl,if_pos (by omega),hi2]
     ·rw[if_neg c2,hi3]
      by_cases c3:k<i\/p.length-1-k<i
      ·rw[if_pos c3,if_pos (by omega)]
      ·rw[if_neg c3,if_neg (by omega)]
  ·simp only[IF,↓zq,zs,ac]
   refine⟨fun h=>absurd h hlt,fun _=>?_⟩
   have:q=p.reverse:=by
    apply List.ext_getElem
    ·rw[hR.1,List.length_reverse]
    ·intro k h1 h2
     have hk:k<p.length:=by rw[<-hR.1];exact h1
     have:=hR.2 k hk
     have e1:q.getD k 0=q[k]:=by simp[aa,h1]
     rw[e1]at this
     rw[this,List.getElem_reverse]
     have e2:p.getD (p.length-1-k) 0=p[p.length-1-k]:=by simp[aa,show p.length-1-k<p.length by omega]
     split
     ·exact e2
     ·rename_i hn
      have:k=p.length-1-k:=by omega
      rw[<-e2,<-this]
   rw[this];exact⟨rfl,rfl,rfl⟩
theorem QG(p:List Int)(hp:p.length<=1000000):ap Tryz.prog 38 [.vec 0] [.vec 1 (eD p)] (dj .any [.kH 1 (eD p.reverse)]):=by
 refine Qi _ ?_
 unfold Lr
 rw[np,wrap64 ((p.length:Int)-1) (by omega) (by omega)]
 have hloop:=PY p hp p.length 0 p (by omega) (by omega) ⟨rfl,fun k hk=>by rw[if_neg (by omega)]⟩
 rw[show (p.length:Int)-1-((0:Nat):Int)=(p.length:Int)-1 by omega]at hloop
 refine co hloop ?_
 simp only[↓zq,zs,ac,Ob.es,bf]
 exact⟨rfl,rfl⟩
end Go.Proofs.Trees
namespace Go.Proofs.Trees
open Go Go.VL Go.RowKit
end Go.Proofs.Trees
