/-
  Part of a proof: Go functions read by values, trees of functions, their contracts.
-/
import Derived.Test.YtphdaefkjfbfoaaGreatDoorP4
import Derived.Lib.Atoi
set_option linter.unusedVariables false
set_option linter.unusedSimpArgs false
open And renaming intro→aF
open Bool renaming and_eq_true→au,eq_iff_iff→cX,or_eq_false_iff→bK,or_eq_true→bg,true_and→bW
open Int renaming cast_ofNat_Int→cV,ofNat_eq_natCast→cz,tmod→du,toNat→bM,toNat_natCast→cc
open List renaming all_cons→cJ,any_eq_true→bQ,append_assoc→bD,append_nil→cY,cons_append→bn,drop_eq_getElem_cons→ba,drop_eq_nil_of_le→bB,drop_zero→bO,getD_cons_zero→bq,getD_eq_getElem?_getD→aa,getElem?_eq_getElem→bc,getElem_mem→bI,headD_cons→be,length_append→an,length_cons→aq,length_drop→bU,length_nil→aE,map_cons→bE,mem_append→aK,mem_append_left→aA,mem_append_right→aw,mem_cons→aI,mem_cons_of_mem→ak,mem_cons_self→ah,mem_map→ca,mem_singleton→aQ,nil_append→bh,tail_cons→bu,takeWhile_append_dropWhile→bL
open Nat renaming beq→aJ,le_add_right→cK,le_refl→ap,lt_of_lt_of_le→cU,mod_lt→ej,mul_add→cA,mul_one→dw,zero_add→aR,zero_le→dJ
open Option renaming bind_eq_some_iff→a6,bind_none→bR,bind_some→aY,isSome_iff_exists→bi,isSome_none→ck,isSome_some→cm,map_some→cg
open UInt8 renaming ofNat→aX,toNat_inj→dK
namespace Go.Proofs.Trees
open Go Go.VL
theorem yM:∀(t:Ty) (out:List (List UInt8)),out.length+t.aB<100000->az Tryz.prog 91 [t.av,.fn 189 [.ref 0 0]] [.cells [.vec 1],.vec 1 (cb out)] (gC .any [.cells [.vec 1],.vec 1 (cb (bw t out))])
 |
  .plus a b,out,hl=>by
  simp only[Ty.aB]at hl
  have:=ew a out
  refine vD _ _ ((aG _).mpr trivial) ?_
  unfold Di
  refine bj (wb (.plus a b) out (by omega)) ?_
  simp only[Ty.av,↓zq,zs,af,aG,fg,oU,aN,gC]
  refine⟨by omega,fun _=>⟨by omega,?_⟩,fun h=>(by cases h)⟩
  refine bj (yM a out (by omega)) ?_
  simp only[↓zq,zs,af,aG,fg,aN]
  refine⟨by omega,fun _=>⟨by omega,?_⟩,fun h=>(by cases h)⟩
  refine bj (yM b (bw a out) (by omega)) ?_
  simp only[↓zq,zs,af,aN,bw]
 |
  .times a b,out,hl=>by
  simp only[Ty.aB]at hl
  have:=ew a out
  refine vD _ _ ((aG _).mpr trivial) ?_
  unfold Di
  refine bj (wb (.times a b) out (by omega)) ?_
  simp only[Ty.av,↓zq,zs,af,aG,fg,oU,aN,gC]
  refine⟨by omega,fun _=>⟨by omega,?_⟩,fun h=>(by cases h)⟩
  refine bj (yM a out (by omega)) ?_
  simp only[↓zq,zs,af,aG,fg,aN]
  refine⟨by omega,fun _=>⟨by omega,?_⟩,fun h=>(by cases h)⟩
  refine bj (yM b (bw a out) (by omega)) ?_
  simp only[↓zq,zs,af,aN,bw]
 |
  .rc a,out,hl=>by
  simp only[Ty.aB]at hl
  refine vD _ _ ((aG _).mpr trivial) ?_
  unfold Di
  refine bj (wb (.rc a) out (by omega)) ?_
  simp only[Ty.av,↓zq,zs,af,aG,fg,oU,aN,gC]
  refine⟨by omega,fun _=>⟨by omega,?_⟩,fun h=>(by cases h)⟩
  refine bj (yM a out (by omega)) ?_
  simp[↓zq,zs,af,aG,fg,aN,bw]
 |
  .name s,out,hl=>by
  refine vD _ _ ((aG _).mpr trivial) ?_
  unfold Di
  refine bj (wb (.name s) out (by omega)) ?_
  simp[Ty.av,↓zq,zs,af,aN,gC,bw]
 |
  .zero,out,hl=>by
  refine vD _ _ ((aG _).mpr trivial) ?_
  unfold Di
  refine bj (wb .zero out (by omega)) ?_
  simp[Ty.av,↓zq,zs,af,aN,gC,bw,oU]
 |
  .one,out,hl=>by
  refine vD _ _ ((aG _).mpr trivial) ?_
  unfold Di
  refine bj (wb .one out (by omega)) ?_
  simp[Ty.av,↓zq,zs,af,aN,gC,bw,oU]
 |
  .bA u,out,hl=>by
  refine vD _ _ ((aG _).mpr trivial) ?_
  unfold Di
  refine bj (wb (.bA u) out (by omega)) ?_
  simp[Ty.av,↓zq,zs,af,aN,gC,bw,oU]
theorem JZ(t:Ty)(hl:t.aB<100000):az Tryz.prog 165 [t.av] [] (bG (.sl (cb (bw t [])))):=by
 refine Nk _ ((aG _).mpr trivial) ?_
 unfold Ih
 refine bj (yM t [] (by simpa using hl)) ?_
 simp[↓zq,zs,af,aN,bG]
theorem Kk(l:List (List UInt8))(a:AV)(ha:dN a l)(hl:l.length<1000000):∀(k i:Nat),i+k=l.length->(∀s,s∈l.take i->cQ s=false)->EM [a,.v (.func (.func 166) #[] #[]),.v (.int .i64 (l.length:Int)),.v (.int .i64 (i:Int))] []
 (AF (l.any cQ=true))
 |
  0,i,hi,hn=>by
  refine GC _ _ _ ?_
  simp only[E8,↓zq,zs,af]
  have:l.take i=l:=List.take_of_length_le (by omega)
  rw[this]at hn
  exact⟨ha.1,fun h=>by omega,fun _=>.inl ⟨rfl,fun hh=>(by obtain⟨x,hx,hy⟩:=bQ.1 hh;rw[hn x hx]at hy;cases hy),rfl,rfl⟩⟩
 |
  k+1,i,hi,hn=>by
  have hlt:i<l.length:=by omega
  refine GC _ _ _ ?_
  simp only[E8,↓zq,zs,af,zt,ha.len,ha.idx hlt]
  have hm:l.getD i []∈l:=by simp[aa,hlt]
  refine⟨ha.1,fun _=>⟨⟨ha.1,by omega,by omega⟩,by omega,?_⟩,fun h=>by omega⟩
  refine aj (Co _) ?_
  simp only[↓zq,zs,af]
  refine⟨fun h=>?_,fun h=>?_⟩
  ·exact .inr ⟨rfl,bQ.2 ⟨_,hm,h⟩,i,rfl,rfl⟩
  ·rw[bS i (by omega)]
   refine Kk l a ha hl k (i+1) (by omega) ?_
   intro s hs
   rw[List.take_add_one]at hs
   have:l[i]?=some (l.getD i []):=by simp[aa,hlt]
   rw[this]at hs
   rcases aK.1 hs with hs|hs
   ·exact hn s hs
   ·simp at hs;rw[hs];simpa using h
theorem Ld(l:List (List UInt8))(a:AV)(ha:dN a l)(hl:l.length<1000000):az Tryz.prog 164 [a,.v (.func (.func 166) #[] #[])] [] (bG (.v (.bool (l.any cQ)))):=by
 have hI:az Tryz.prog 188 [a,.v (.func (.func 166) #[] #[])] [] (fun r o=>∃n:Int,r=.v (.int .i64 n)/\(0<=n↔l.any cQ=true)/\o=[]):=by
  refine L5 _ ha.1 ?_
  simp only[Kx,↓zq,zs,af,ha.len]
  refine⟨ha.1,qw (Kk l a ha hl l.length 0 (by omega) (by simp)) ?_ ?_⟩
  ·rintro ys o (⟨_,h1,rfl,rfl⟩|⟨h,_⟩)
   ·simp only[↓zq,zs,af]
    exact⟨-1,rfl,⟨fun h=>(by omega),fun h=>absurd h h1⟩⟩
   ·cases h
  ·rintro ys o (⟨h,_⟩|⟨_,h1,j,rfl,rfl⟩)
   ·cases h
   ·simp only[↓zq,zs,af]
    exact⟨j,rfl,⟨fun _=>h1,fun _=>(by omega)⟩⟩
 refine Nj _ ha.1 ?_
 unfold JL
 refine aM hI ⟨.v (.int .i64 (if l.any cQ=true then 0 else -1)),[],_,rfl,by split<;>simp_all,rfl⟩ ?_
 rintro r o ⟨n,rfl,hn,rfl⟩
 simp only[↓zq,zs,af,bG]
 congr 2
 rw[cX];simp only[decide_eq_true_eq,ge_iff_le,hn]
def Ty.closed(t:Ty):Bool:=!((bw t []).any cQ)
theorem KY(t:Ty)(hl:t.aB<100000):az Tryz.prog 132 [t.av] [] (bG (.v (.bool t.closed))):=by
 refine Mk _ ((aG _).mpr trivial) ?_
 unfold Km
 refine aj (JZ t hl) ?_
 simp only[↓zq,zs,af]
 have:=ew t []
 refine aj (Ld _ _ (.of _) (by simp at this;omega)) ?_
 simp only[↓zq,zs,af,bG,Ty.closed]
def qI(s:List UInt8):Option Ty:=match pu s with
 |none=>none
 |some t=>if t.closed=true then some t else none
theorem sO{s:List UInt8}{t:Ty}(h:pu s=some t):t.aB<=400:=by
 unfold pu at h
 split at h
 ·cases h
 ·split at h
  ·cases h
  ·split at h<;>cases h
   omega
theorem JM(s:List UInt8):az Tryz.prog 79 [.v (.string (mk s))] [] (bG (gW (qI s))):=by
 refine LU _ ?_
 unfold JI
 refine aj (Gd s) ?_
 unfold qI
 cases ht:pu s with
 |none=>simp[gW,↓zq,zs,af,bG]
 |
  some t =>
  have:=sO ht
  simp only[gW,↓zq,zs,af,aG,fg]
  refine⟨fun h=>(by cases h),fun _=>?_⟩
  refine aj (KY t (by omega)) ?_
  simp only[↓zq,zs,af,bG]
  refine⟨fun h=>?_,fun h=>?_⟩
  ·rw[if_neg (by rw[h];simp)]
  ·rw[if_pos h]
end Go.Proofs.Trees
namespace Go.Proofs.Trees
open Go Go.VL Go.RowKit
abbrev Nm:=List UInt8
def dA(u:Ty):Ty->Nat->Ty
 | .bA k,i=>if k=i then u else .bA k
 | .plus a b,i=>.plus (dA u a i) (dA u b i)
 | .times a b,i=>.times (dA u a i) (dA u b i)
 | .rc a,i=>.rc (dA u a (i+1))
 |t,_=>t
def sub(x:Nm)(u:Ty):Ty->Ty
 | .name s=>if s=x then u else .name s
 | .plus a b=>.plus (sub x u a) (sub x u b)
 | .times a b=>.times (sub x u a) (sub x u b)
 | .rc a=>.rc (sub x u a)
 |t=>t
def a8(x:Nm):Ty->Bool
 | .name s=>decide (s=x)
 | .plus a b=>a8 x a||a8 x b
 | .times a b=>a8 x a||a8 x b
 | .rc a=>a8 x a
 |_=>false
def jy(f:Nm->Nm):Ty->Ty
 | .name s=>.name (f s)
 | .plus a b=>.plus (jy f a) (jy f b)
 | .times a b=>.times (jy f a) (jy f b)
 | .rc a=>.rc (jy f a)
 |t=>t
def G4(f:Nm->Nm):Prop:=∀x y,f x=f y->x=y
theorem lE(f:Nm->Nm)(x:Nm):∀(t:Ty) (i:Nat),jy f (dA (.name x) t i)=dA (.name (f x)) (jy f t) i
 | .bA k,i=>by simp only[dA,jy];split<;>rfl
 | .plus a b,i=>by simp only[dA,jy,lE f x a i,lE f x b i]
 | .times a b,i=>by simp only[dA,jy,lE f x a i,lE f x b i]
 | .rc a,i=>by simp only[dA,jy,lE f x a (i+1)]
 | .zero,i=>rfl
 | .one,i=>rfl
 | .name s,i=>rfl
theorem kN{f:Nm->Nm}(hf:G4 f)(x:Nm)(u:Ty):∀t:Ty,jy f (sub x u t)=sub (f x) (jy f u) (jy f t)
 |
  .name s=>by
  simp only[sub,jy]
  by_cases h:s=x
  ·subst h;simp
  ·rw[if_neg h,if_neg fun e=>h (hf _ _ e)];rfl
 | .plus a b=>by simp only[sub,jy,kN hf x u a,kN hf x u b]
 | .times a b=>by simp only[sub,jy,kN hf x u a,kN hf x u b]
 | .rc a=>by simp only[sub,jy,kN hf x u a]
 | .zero=>rfl
 | .one=>rfl
 | .bA k=>rfl
theorem mJ{f:Nm->Nm}(hf:G4 f)(x:Nm):∀t:Ty,a8 (f x) (jy f t)=a8 x t
 | .name s=>by simp only[a8,jy];rw[cX];simp only[decide_eq_true_eq];exact⟨fun e=>hf _ _ e,fun e=>by rw[e]⟩
 | .plus a b=>by simp only[a8,jy,mJ hf x a,mJ hf x b]
 | .times a b=>by simp only[a8,jy,mJ hf x a,mJ hf x b]
 | .rc a=>by simp only[a8,jy,mJ hf x a]
 | .zero=>rfl
 | .one=>rfl
 | .bA k=>rfl
theorem gJ(f:Nm->Nm):∀t:Ty,(jy f t).aB=t.aB
 | .plus a b=>by simp only[Ty.aB,jy,gJ f a,gJ f b]
 | .times a b=>by simp only[Ty.aB,jy,gJ f a,gJ f b]
 | .rc a=>by simp only[Ty.aB,jy,gJ f a]
 | .name s=>rfl
 | .zero=>rfl
 | .one=>rfl
 | .bA k=>rfl
theorem o0{f:Nm->Nm}:∀t:Ty,(∀x,a8 x t=true->f x=x)->jy f t=t
 | .name s,h=>by simp only[jy];rw[h s (by simp[a8])]
 | .plus a b,h=>by simp only[jy];rw[o0 a fun x hx=>h x (by simp[a8,hx]),o0 b fun x hx=>h x (by simp[a8,hx])]
 | .times a b,h=>by simp only[jy];rw[o0 a fun x hx=>h x (by simp[a8,hx]),o0 b fun x hx=>h x (by simp[a8,hx])]
 | .rc a,h=>by simp only[jy];rw[o0 a fun x hx=>h x hx]
 | .zero,_=>rfl
 | .one,_=>rfl
 | .bA k,_=>rfl
theorem fV(x:Nm):∀(t:Ty) (i:Nat),(dA (.name x) t i).aB=t.aB
 | .bA k,i=>by simp only[dA];split<;>rfl
 | .plus a b,i=>by simp only[dA,Ty.aB,fV x a i,fV x b i]
 | .times a b,i=>by simp only[dA,Ty.aB,fV x a i,fV x b i]
 | .rc a,i=>by simp only[dA,Ty.aB,fV x a (i+1)]
 | .zero,i=>rfl
 | .one,i=>rfl
 | .name s,i=>rfl
theorem eg(t:Ty):1<=t.aB:=by cases t<;>simp only[Ty.aB]<;>omega
theorem gM(x:Nm)(u:Ty):∀t:Ty,t.aB<=(sub x u t).aB
 | .name s=>by simp only[sub];split<;>simp only[Ty.aB];exact eg u;omega
 | .plus a b=>by have:=gM x u a;have:=gM x u b;simp only[sub,Ty.aB];omega
 | .times a b=>by have:=gM x u a;have:=gM x u b;simp only[sub,Ty.aB];omega
 | .rc a=>by have:=gM x u a;simp only[sub,Ty.aB];omega
 | .zero=>ap _
 | .one=>ap _
 | .bA k=>ap _
theorem hZ{x y:Nm}:∀(t:Ty) (i:Nat),a8 y (dA (.name x) t i)=true->y=x\/a8 y t=true
 |
  .bA k,i,h=>by
  simp only[dA]at h
  split at h
  ·left;simp only[a8,decide_eq_true_eq]at h;exact h.symm
  ·cases h
 |
  .plus a b,i,h=>by
  simp only[dA,a8,bg]at h |-
  rcases h with h|h
  ·rcases hZ a i h with h|h<;>simp[h]
  ·rcases hZ b i h with h|h<;>simp[h]
 |
  .times a b,i,h=>by
  simp only[dA,a8,bg]at h |-
  rcases h with h|h
  ·rcases hZ a i h with h|h<;>simp[h]
  ·rcases hZ b i h with h|h<;>simp[h]
 | .rc a,i,h=>hZ a (i+1) h
 | .zero,i,h=>by cases h
 | .one,i,h=>by cases h
 | .name s,i,h=>.inr h
theorem iT{x y:Nm}{u:Ty}:∀t:Ty,a8 y (sub x u t)=true->a8 y u=true\/(y≠x/\a8 y t=true)
 |
  .name s,h=>by
  simp only[sub]at h
  split at h
  ·exact .inl h
  ·rename_i hs
   simp only[a8,decide_eq_true_eq]at h
   subst h
   exact .inr ⟨hs,by simp[a8]⟩
 |
  .plus a b,h=>by
  simp only[sub,a8,bg]at h |-
  rcases h with h|h
  ·rcases iT a h with h|h<;>simp[h]
  ·rcases iT b h with h|h<;>simp[h]
 |
  .times a b,h=>by
  simp only[sub,a8,bg]at h |-
  rcases h with h|h
  ·rcases iT a h with h|h<;>simp[h]
  ·rcases iT b h with h|h<;>simp[h]
 |
  .rc a,h=>by
  simp only[sub,a8]at h |-
  exact iT a h
 | .zero,h=>by cases h
 | .one,h=>by cases h
 | .bA k,h=>by cases h
def swp(x y:Nm):Nm->Nm:=fun s=>if s=x then y else if s=y then x else s
theorem w7(x y:Nm):G4 (swp x y):=by
 intro a b h
 unfold swp at h
 by_cases h1:a=x<;>by_cases h2:a=y<;>by_cases h3:b=x<;>by_cases h4:b=y<;>simp_all
theorem xK(x y:Nm):swp x y x=y:=by simp[swp]
theorem AK{x y s:Nm}(h:s≠x)(h':s≠y):swp x y s=s:=by simp[swp,h,h']
theorem tB{x y:Nm}{t:Ty}(h:a8 x t=false)(h':a8 y t=false):jy (swp x y) t=t :=
 o0 t fun z hz=>AK (fun e=>by subst e;rw[h]at hz;cases hz) (fun e=>by subst e;rw[h']at hz;cases hz)
def oO(a:Ty)(x:Nm)(c d:Ty):Ty:=.rc (.plus (sub x (.rc a) c) (.times (sub x (.rc a) d) (.bA 0)))
inductive Dv:Ty->Nm->Ty->Prop
 |zero (s):Dv .zero s .zero
 |one (s):Dv .one s .zero
 |bA (k s):Dv (.bA k) s .zero
 |hit (s):Dv (.name s) s .one
 |p7 {n s} (h:n≠s):Dv (.name n) s .zero
 |plus {a b s a' b'} (h1:Dv a s a') (h2:Dv b s b') (hl:(Ty.plus a' b').aB<=400):Dv (.plus a b) s (.plus a' b')
 |times {a b s a' b'} (h1:Dv a s a') (h2:Dv b s b') (hl:(Ty.plus (.times a' b) (.times a b')).aB<=400):Dv (.times a b) s (.plus (.times a' b) (.times a b'))
 |rc {a s c d} (x:Nm) (hx:a8 x a=false) (hs:x≠s) (h1:Dv (dA (.name x) a 0) s c) (h2:Dv (dA (.name x) a 0) x d) (hl:(oO a x c d).aB<=400):Dv (.rc a) s (oO a x c d)
theorem xj{f:Nm->Nm}(hf:G4 f)(a:Ty)(x:Nm)(c d:Ty):jy f (oO a x c d)=oO (jy f a) (f x) (jy f c) (jy f d):=by
 simp only[oO,jy,kN hf]
theorem Dv.jy{f:Nm->Nm}(hf:G4 f){t d:Ty}{s:Nm}(h:Dv t s d):Dv (jy f t) (f s) (jy f d):=by
 induction h with
 |zero s=>exact .zero _
 |one s=>exact .one _
 |bA k s=>exact .bA _ _
 |hit s=>exact .hit _
 |p7 h=>exact .p7 fun e=>h (hf _ _ e)
 |plus h1 h2 hl i1 i2=>exact .plus i1 i2 (by rw[<-gJ f]at hl;exact hl)
 |times h1 h2 hl i1 i2=>exact .times i1 i2 (by rw[<-gJ f]at hl;exact hl)
 |
  rc x hx hs h1 h2 hl i1 i2 =>
  rw[xj hf]
  rw[lE]at i1 i2
  exact .rc (f x) (by rw[mJ hf];exact hx) (fun e=>hs (hf _ _ e)) i1 i2 (by rw[<-xj hf,gJ];exact hl)
theorem Dv.names{t d:Ty}{s:Nm}(h:Dv t s d):∀y,a8 y d=true->a8 y t=true:=by
 induction h with
 |zero s=>intro y hy;cases hy
 |one s=>intro y hy;cases hy
 |bA k s=>intro y hy;cases hy
 |hit s=>intro y hy;cases hy
 |p7 h=>intro y hy;cases hy
 |
  plus h1 h2 hl i1 i2 =>
  intro y hy
  simp only[a8,bg]at hy |-
  rcases hy with hy|hy
  ·exact .inl (i1 y hy)
  ·exact .inr (i2 y hy)
 |
  times h1 h2 hl i1 i2 =>
  intro y hy
  simp only[a8,bg]at hy |-
  rcases hy with(hy|hy)|(hy|hy)
  ·exact .inl (i1 y hy)
  ·exact .inr hy
  ·exact .inl hy
  ·exact .inr (i2 y hy)
 |
  rc x hx hs h1 h2 hl i1 i2 =>
  intro y hy
  simp only[oO,a8,bg,Bool.or_false]at hy |-
  have key:∀{a c:Ty},(∀y,a8 y c=true->a8 y (dA (.name x) a 0)=true)->a8 y (sub x (.rc a) c)=true->a8 y a=true:=fun i h=>by
   rcases iT _ h with h|⟨h,h'⟩
   ·exact h
   ·rcases hZ _ _ (i y h')with e|e
    ·exact absurd e h
    ·exact e
  rcases hy with hy|hy
  ·exact key i1 hy
  ·exact key i2 hy
theorem Dv.fresh{t d:Ty}{s y:Nm}(h:Dv t s d)(hy:a8 y t=false):a8 y d=false:=by
 cases e:a8 y d with
 |false=>rfl
 |true=>rw[h.names y e]at hy;cases hy
theorem Dv.move{a c:Ty}{x y s:Nm}(hx:a8 x a=false)(hy:a8 y a=false)(h:Dv (dA (.name x) a 0) s c):Dv (dA (.name y) a 0) (swp x y s) (Go.Proofs.Trees.jy (swp x y) c):=by
 have:=h.jy (w7 x y)
 rw[lE,xK,tB hx hy]at this
 exact this
theorem nH{a c:Ty}{x y s:Nm}(hx:a8 x a=false)(hy:a8 y a=false)(h:Dv (dA (.name x) a 0) s c):sub y (.rc a) (jy (swp x y) c)=sub x (.rc a) c:=by
 have e:=kN (w7 x y) x (.rc a) c
 rw[xK,tB (t:=.rc a) hx hy]at e
 rw[<-e]
 have key:∀z,(z=x\/z=y)->a8 z (sub x (.rc a) c)=false:=fun z hz=>by
  cases q:a8 z (sub x (.rc a) c)with
  |false=>rfl
  |
   true =>
   exfalso
   have hz':a8 z a=false:=by rcases hz with rfl|rfl<;>assumption
   rcases iT _ q with h1|⟨h1,h2⟩
   ·rw[show a8 z (.rc a)=a8 z a from rfl,hz']at h1;cases h1
   ·rcases hZ _ _ (h.names z h2)with e|e
    ·exact h1 e
    ·rw[hz']at e;cases e
 exact tB (key x (.inl rfl)) (key y (.inr rfl))
theorem Dv.vE:∀(n:Nat) (t:Ty),t.aB<=n->∀{s:Nm} {d d':Ty},Dv t s d->Dv t s d'->d=d'
 |0,t,h,_,_,_,_,_=>by have:=eg t;omega
 |
  n+1,t,hn,s,d,d',h,h'=>by
  cases h with
  |zero=>cases h';rfl
  |one=>cases h';rfl
  |bA=>cases h';rfl
  |
   hit =>
   cases h' with
   |hit=>rfl
   |p7 h=>exact absurd rfl h
  |
   p7 h =>
   cases h' with
   |hit=>exact absurd rfl h
   |p7 _=>rfl
  |
   plus h1 h2 =>
   simp only[Ty.aB]at hn
   cases h' with
   |plus g1 g2=>rw[Dv.vE n _ (by omega) h1 g1,Dv.vE n _ (by omega) h2 g2]
  |
   times h1 h2 =>
   simp only[Ty.aB]at hn
   cases h' with
   |times g1 g2=>rw[Dv.vE n _ (by omega) h1 g1,Dv.vE n _ (by omega) h2 g2]
  |
   rc x hx hs h1 h2 =>
   simp only[Ty.aB]at hn
   cases h' with
   |
    rc y hy hs' g1 g2 =>
    rename_i a _ _ _ _ _ _
    have m1:=h1.move hx hy
    have m2:=h2.move hx hy
    rw[AK (Ne.symm hs) (Ne.symm hs')]at m1
    rw[xK]at m2
    have e1:=Dv.vE n _ (by rw[fV];omega) m1 g1
    have e2:=Dv.vE n _ (by rw[fV];omega) m2 g2
    rw[oO,oO,<-e1,<-e2,nH hx hy h1,nH hx hy h2]
theorem Dv.small{t d:Ty}{s:Nm}(h:Dv t s d):d.aB<=400:=by
 cases h<;>first|assumption|simp[Ty.aB]
open Classical in
noncomputable def jU (t:Ty) (s:Nm):Option Ty:=if h:∃d,Dv t s d then some (Classical.choose h)else none
theorem cw{t:Ty}{s:Nm}{d:Ty}:jU t s=some d↔Dv t s d:=by
 unfold jU
 by_cases h:∃d,Dv t s d
 ·rw[dif_pos h]
  have:=Classical.choose_spec h
  constructor
  ·intro e;cases e;exact this
  ·intro g;rw[Dv.vE _ t (ap _) this g]
 ·rw[dif_neg h]
  exact⟨fun e=>(by cases e),fun g=>absurd ⟨d,g⟩ h⟩
def mU(t:Ty):Option Ty:=if t.aB<=400 then some t else none
theorem fR{t d:Ty}:mU t=some d↔t.aB<=400/\t=d:=by
 unfold mU
 split
 ·rename_i h;simp[h]
 ·rename_i h;simp[h]
theorem tF{α:Type}{a b:Option α}(h:∀d,a=some d↔b=some d):a=b:=by
 cases a with
 |
  none=>cases b with
  |none=>rfl
  |some x=>have:=(h x).2 rfl;cases this
 |some x=>exact((h x).1 rfl).symm
theorem uK(s:Nm):jU .zero s=some .zero:=cw.2 (.zero _)
theorem xu(s:Nm):jU .one s=some .zero:=cw.2 (.one _)
theorem yk(k:Nat)(s:Nm):jU (.bA k) s=some .zero:=cw.2 (.bA _ _)
theorem nG(n s:Nm):jU (.name n) s=some (if n=s then .one else .zero):=by
 split
 ·rename_i h;subst h;exact cw.2 (.hit _)
 ·rename_i h;exact cw.2 (.p7 h)
theorem uk(a b:Ty)(s:Nm):jU (.plus a b) s=(jU a s).bind fun a'=>(jU b s).bind fun b'=>mU (.plus a' b'):=by
 refine tF fun d=>?_
 rw[cw]
 simp only[a6,cw,fR]
 constructor
 ·intro h;cases h with|plus h1 h2 hl=>exact⟨_,h1,_,h2,hl,rfl⟩
 ·rintro⟨a',h1,b',h2,hl,rfl⟩;exact .plus h1 h2 hl
theorem sM(a b:Ty)(s:Nm):jU (.times a b) s=(jU a s).bind fun a'=>(jU b s).bind fun b'=>mU (.plus (.times a' b) (.times a b')):=by
 refine tF fun d=>?_
 rw[cw]
 simp only[a6,cw,fR]
 constructor
 ·intro h;cases h with|times h1 h2 hl=>exact⟨_,h1,_,h2,hl,rfl⟩
 ·rintro⟨a',h1,b',h2,hl,rfl⟩;exact .times h1 h2 hl
theorem Av{a:Ty}{s x:Nm}(hx:a8 x a=false)(hs:x≠s):jU (.rc a) s=(jU (dA (.name x) a 0) s).bind fun c=>(jU (dA (.name x) a 0) x).bind fun d=>mU (oO a x c d):=by
 refine tF fun d=>?_
 rw[cw]
 simp only[a6,cw,fR]
 constructor
 ·intro h
  cases h with
  |
   rc y hy hs' h1 h2 hl =>
   have m1:=h1.move hy hx
   have m2:=h2.move hy hx
   rw[AK (Ne.symm hs') (Ne.symm hs)]at m1
   rw[xK]at m2
   refine⟨_,m1,_,m2,?_⟩
   have e:∀c d,sub x (.rc a) (jy (swp y x) c)=sub y (.rc a) c->sub x (.rc a) (jy (swp y x) d)=sub y (.rc a) d->oO a x (jy (swp y x) c) (jy (swp y x) d)=oO a y c d:=fun c d e1 e2=>by rw[oO,oO,e1,e2]
   rw[e _ _ (nH hy hx h1) (nH hy hx h2)]
   exact⟨hl,rfl⟩
 ·rintro⟨c,h1,d',h2,hl,rfl⟩;exact .rc x hx hs h1 h2 hl
noncomputable def zd (a:Ty) (x:Nm):Option Ty:=(jU (dA (.name x) a 0) x).bind fun d=>mU (sub x (.rc a) d)
end Go.Proofs.Trees
namespace Go.Proofs.Trees
open Go Go.VL
theorem MB(b:UInt8):az Tryz.prog 172 [.v (.int .u8 (b.toNat:Int))] [] (bG (.v (.bool (eV b)))):=by
 refine LH _ ?_
 simp only[IK,↓zq,zs,af,bG,eV]
 repeat' (apply aF<;>intro _)
 all_goals first|(congr 2;rw[cX];simp;omega)|(congr 2;simp;omega)
def CB(s:List UInt8)(x:Option (E×List UInt8)):AV->List Ob->Prop:=fun r o=>o=[] /\
 match x with
 |some (e,u)=>r=.cx [e.ka,.v (.int .i64 ((s.length-u.length:Nat):Int))]
 |none=>∃(c:List UInt8) (d:AV),LK.sl.has d/\r=.cx [.agg [.v (.string (mk c)),d],.v (.int .i64 (-1))]
theorem CB.ne(s:List UInt8)(x:Option (E×List UInt8)):∃r o,CB s x r o:=by
 cases x with
 |some q=>exact⟨_,_,rfl,rfl⟩
 |none=>exact⟨_,_,rfl,[],.v (.slice none 0 0),(bm).mpr trivial,rfl⟩
def jc(c:List UInt8)(d:AV):Ob:=.cells [.v (.string (mk c)),d]
theorem Jq(s:List UInt8)(hs:s.length<=8000)(from_:Int)(c1 c2:List UInt8)(d1 d2:AV)(h1:LK.sl.has d1)(h2:LK.sl.has d2):∀(k i:Nat),i+k=s.length->Fl [.v (.string (mk s)),.v (.int .i64 (i:Int)),.v (.int .i64 from_)] [jc c1 d1,jc c2 d2]
 (ki 1 [.v (.string (mk s)),.v (.int .i64 ((i+((s.drop i).takeWhile eV).length:Nat):Int)),.v (.int .i64 from_)] [jc c1 d1,jc c2 d2])
 |
  0,i,hi=>by
  refine G9 _ _ _ _ _ _ _ ?_
  have hd:s.drop i=[]:=bB (by omega)
  simp only[Fw,↓zq,zs,af,zt]
  exact⟨h1,h2,fun h=>by omega,fun _=>by simp[ki,hd,jc]⟩
 |
  k+1,i,hi=>by
  have hlt:i<s.length:=by omega
  refine G9 _ _ _ _ _ _ _ ?_
  simp only[Fw,↓zq,zs,af,zt,lI s i hlt]
  refine⟨h1,h2,fun _=>⟨by omega,?_⟩,fun h=>by omega⟩
  refine aj (MB _) ?_
  simp only[↓zq,zs,af]
  refine⟨fun hb=>?_,fun hb=>?_⟩
  ·rw[bS i (by omega)]
   have:=Jq s hs from_ c1 c2 d1 d2 h1 h2 k (i+1) (by omega)
   rw[wV hlt hb,show i+(((s.drop (i+1)).takeWhile eV).length+1)=i+1+((s.drop (i+1)).takeWhile eV).length by omega]
   exact this
  ·simp[ki,p9 hlt hb,jc]
def N3(s:List UInt8)(x:Option (E×List UInt8)):Nat->List AV->List Ob->Prop:=fun t ys o=>t=2 /\
 match x with
 |some (e,u)=>∃l,e=.list l/\ys=[.v (.int .i64 ((s.length-u.length:Nat):Int))]/\o=[jc [] .any,.vec 2 (E.bb l)]
 |none=>∃es,ys=[.v (.int .i64 (-1))]/\o=[jc [] .any,.vec 2 es]
theorem xA(e:E):(e.ka=.agg e.ka.cs/\e.ka.cs.length=2/\bT [.str,.sl] e.ka.cs 0)=True:=by
 apply eq_true
 cases e<;>simp[E.ka,E.gX,zm,bT,dC,bm,bZ]
theorem ww(e:E):[AV.v (.string ((e.ka.cs.getD 0 .any).ag)),e.ka.cs.getD 1 .any]=e.gX:=by
 cases e<;>rfl
theorem drop_cons{s:List UInt8}{j:Nat}(hj:j<s.length):s.drop j=s.getD j 0::s.drop (j+1):=by
 rw[ba hj];simp[aa,hj]
theorem JC(s:List UInt8)(hs:s.length<=8000)(d:Nat)(hd:d<=300)(f:List UInt8->Option (E×List UInt8))(hf:∀u e r,f u=some (e,r)->∃j,r=u.drop j/\0<j/\j<=u.length)
 (ih:∀j,j<=s.length->az Tryz.prog 137 [.v (.string (mk s)),.v (.int .i64 (j:Int)),.v (.int .i64 ((d+1:Nat):Int))] [] (CB s (f (s.drop j)))) :
 ∀(n i:Nat) (acc:List E) (c1:List UInt8) (d1:AV),LK.sl.has d1->s.length-(i+1)<n->i<s.length->s.length-i+acc.length<=8001->Fs [.v (.string (mk s)),.v (.int .i64 (i:Int)),.v (.int .i64 (d:Int))] [jc c1 d1,jc [] .any,.vec 2 (E.bb acc)]
  (N3 s (rD f n (s.drop (i+1)) acc))
 |0,i,acc,c1,d1,h1,hn,_,_=>by omega
 |
  n+1,i,acc,c1,d1,h1,hn,hi,hl=>by
  refine Nc _ _ _ _ _ _ _ ?_
  simp only[ID,↓zq,zs,af,jc]
  refine⟨h1,?_⟩
  rw[bS i (by omega),bS d (by omega)]
  refine aM (ih (i+1) (by omega)) (CB.ne _ _) ?_
  rintro r o ⟨rfl,hr⟩
  have hff:=hf (s.drop (i+1))
  unfold rD
  cases hq:f (s.drop (i+1))with
  |
   none =>
   rw[hq]at hr
   obtain⟨c,d',hd',rfl⟩:=hr
   simp only[↓zq,zs,af,zt,bT]
   refine⟨hd',fun _=>⟨rfl,_,rfl,rfl⟩,fun h=>by omega⟩
  |
   some q =>
   obtain⟨e,u⟩:=q
   rw[hq]at hr
   subst hr
   obtain⟨j,hu,hj0,hj⟩:=hff e u hq
   rw[List.drop_drop]at hu
   simp only[bU]at hj
   have hul:u.length=s.length-(i+1+j):=by rw[hu,bU]
   have hpos:s.length-u.length=i+1+j:=by omega
   simp only[↓zq,zs,af,zt,xA,hpos,ww,dV]
   refine⟨fun h=>by omega,fun _=>⟨fun h=>?_,fun h=>⟨⟨fun c hc=>(by simp at hc;rw[hc];cases e<;>rfl),by omega⟩,?_⟩⟩⟩
   ·have:u=[]:=by rw[hu];exact bB (by omega)
    subst this
    exact⟨rfl,_,rfl,rfl⟩
   ·have hlt:i+1+j<s.length:=by omega
    rw[drop_cons hlt]at hu
    subst hu
    rw[lI s _ hlt]
    generalize hb:s.getD (i+1+j) 0=b
    refine⟨by omega,fun h41=>?_,fun h41=>⟨by omega,fun h32=>?_,fun h32=>?_⟩⟩
    ·have h41':b.toNat=41:=by omega
     dsimp only
     rw[if_pos h41',bS _ (by omega)]
     refine⟨rfl,acc++[e],rfl,?_,?_⟩
     ·rw[bU];congr 3;omega
     ·simp[jc,pB,E.bb]
    ·have h41':¬b.toNat=41:=by omega
     have h32':¬b.toNat=32:=by omega
     dsimp only
     rw[if_neg h41',if_neg h32']
     exact⟨rfl,_,rfl,rfl⟩
    ·have h41':¬b.toNat=41:=by omega
     have h32':b.toNat=32:=by omega
     dsimp only
     rw[if_neg h41',if_pos h32']
     have:=JC s hs d hd f hf ih n (i+1+j) (acc++[e]) c1 d1 h1 (by omega) hlt (by simp;omega)
     simpa[jc,pB,E.bb]using this
theorem CN(k:Nat)(u:List UInt8)(e:E)(r:List UInt8)(h:rd k u=some (e,r)):∃j,r=u.drop j/\0<j/\j<=u.length:=by
 have suf:∀(k:Nat) (u:List UInt8) (e:E) (r:List UInt8),rd k u=some (e,r)->r <:+ u:=by
  intro k
  have tw:∀u:List UInt8,u.dropWhile eV <:+ u:=fun u=>List.dropWhile_suffix _
  have ll:∀(f:List UInt8->Option (E×List UInt8)),(∀u e r,f u=some (e,r)->r <:+ u)->∀(n:Nat) (u:List UInt8) (acc:List E) (e:E) (r:List UInt8),rD f n u acc=some (e,r)->r <:+ u:=by
   intro f hf n
   induction n with
   |zero=>intro u acc e r h;cases h
   |
    succ n ih =>
    intro u acc e r h
    simp only[rD]at h
    split at h
    ·rename_i p c r' hs
     have h1:r' <:+ u:=(List.suffix_cons c r').trans (hf _ _ _ hs)
     split at h
     ·cases h;exact h1
     ·split at h
      ·exact(ih _ _ _ _ h).trans h1
      ·cases h
    ·cases h
  induction k with
  |
   zero =>
   intro u e r h
   simp only[rd]at h
   split at h
   ·cases h
   ·cases h;exact tw u
  |
   succ k ih =>
   intro u e r h
   simp only[rd]at h
   split at h
   ·split at h
    ·split at h
     ·exact(ll _ ih _ _ _ _ _ h).trans (List.suffix_cons _ _)
     ·cases h
    ·cases h
   ·cases h;exact tw u
 obtain⟨p,hp⟩:=suf k u e r h
 have hlt:=wU k u e r h
 have:=congrArg List.length hp
 simp only[an]at this
 exact⟨p.length,by rw[<-hp];simp,by omega,by omega⟩
theorem Bk(n:Nat)(u:List UInt8)(acc:List E):rD (fun _=>none) n u acc=none:=by
 cases n<;>rfl
theorem Nf(s:List UInt8)(j:Nat):az Tryz.prog 137 [.v (.string (mk s)),.v (.int .i64 (j:Int)),.v (.int .i64 ((300+1:Nat):Int))] [] (CB s none):=by
 refine GW _ _ _ ?_
 simp only[E5,↓zq,zs,af]
 exact⟨fun _=>⟨rfl,[],_,(bm).mpr trivial,rfl⟩,fun h=>by omega⟩
theorem pO(s:List UInt8)(hs:s.length<=8000)(d i:Nat)(hd:d<=300)(hi:i<=s.length)(f:List UInt8->Option (E×List UInt8))(hf:∀u e r,f u=some (e,r)->∃j,r=u.drop j/\0<j/\j<=u.length)
 (ih:∀j,j<=s.length->az Tryz.prog 137 [.v (.string (mk s)),.v (.int .i64 (j:Int)),.v (.int .i64 ((d+1:Nat):Int))] [] (CB s (f (s.drop j)))) (x:Option (E×List UInt8))
 (h0:i=s.length->x=none)
 (h1:i<s.length->(s.drop i).takeWhile eV≠[]->x=some (.atom ((s.drop i).takeWhile eV),(s.drop i).dropWhile eV))
 (h2:i<s.length->(s.drop i).takeWhile eV=[]->¬(s.getD i 0).toNat=40->x=none)
 (h3:i<s.length->(s.getD i 0).toNat=40->x=rD f (s.length-(i+1)+1) (s.drop (i+1)) []) :
 az Tryz.prog 137 [.v (.string (mk s)),.v (.int .i64 (i:Int)),.v (.int .i64 (d:Int))] [] (CB s x):=by
 refine GW _ _ _ ?_
 simp only[E5,↓zq,zs,af,zt]
 refine⟨fun h=>by omega,fun _=>⟨fun h=>?_,fun h=>⟨by omega,?_⟩⟩⟩
 ·rw[h0 (by omega)]
  exact⟨rfl,[],_,(bm).mpr trivial,rfl⟩
 ·have hlt:i<s.length:=by omega
  rw[lI s i hlt]
  refine⟨fun h40=>?_,fun h40=>?_⟩
  ·have h40':¬(s.getD i 0).toNat=40:=by omega
   refine df (Jq s hs _ [] [] _ _ ((bm).mpr trivial) ((bm).mpr trivial) (s.length-i) i (by omega)) ?_
   have hex:(List.take (i+((s.drop i).takeWhile eV).length) s).drop i=(s.drop i).takeWhile eV:=by
    rw[List.drop_take,Nat.add_sub_cancel_left];exact sQ _
   have hle:i+((s.drop i).takeWhile eV).length<=s.length:=by
    have:=sX (s.drop i);simp only[bU]at this;omega
   simp only[jc,↓zq,zs,af,zt,hex]
   refine⟨by omega,fun hnil=>?_,fun hnil=>?_⟩
   ·rw[h2 hlt hnil h40',hnil]
    exact⟨rfl,[],_,(bm).mpr trivial,rfl⟩
   ·rw[h1 hlt hnil]
    refine⟨rfl,?_⟩
    have:=sX (s.drop i)
    simp only[bU]at this
    show _=AV.cx [E.ka (.atom _),_]
    have e:s.length-((s.drop i).dropWhile eV).length=i+((s.drop i).takeWhile eV).length:=by omega
    rw[e];rfl
  ·have h40':(s.getD i 0).toNat=40:=by omega
   rw[h3 hlt h40']
   refine qw (JC s hs d hd f hf ih (s.length-(i+1)+1) i [] [] _ ((bm).mpr trivial) (by omega) hlt (by simp;omega)) ?_ ?_
   ·rintro ys o ⟨h,_⟩;cases h
   ·rintro ys o ⟨_,hr⟩
    cases hq:rD f (s.length-(i+1)+1) (s.drop (i+1)) []with
    |
     none =>
     rw[hq]at hr
     obtain⟨es,rfl,rfl⟩:=hr
     simp only[jc,↓zq,zs,af]
     exact⟨rfl,[],_,(bZ _).mpr trivial,rfl⟩
    |
     some q =>
     obtain⟨e,u⟩:=q
     rw[hq]at hr
     obtain⟨l,rfl,rfl,rfl⟩:=hr
     simp only[jc,↓zq,zs,af]
     exact⟨rfl,rfl⟩
theorem Mx(s:List UInt8)(hs:s.length<=8000):∀(k:Nat),k<=300->∀i,i<=s.length->az Tryz.prog 137 [.v (.string (mk s)),.v (.int .i64 (i:Int)),.v (.int .i64 ((300-k:Nat):Int))] [] (CB s (rd k (s.drop i))):=by
 intro k
 have hnil:∀k,rd k []=none:=fun k=>by cases k<;>simp[rd]
 have ha40:∀b:UInt8,b.toNat=40->eV b=false:=fun b hb=>by simp[eV,hb]
 induction k with
 |
  zero =>
  intro hk i hi
  refine pO s hs 300 i (by omega) hi (fun _=>none) (fun _ _ _ h=>by cases h) (fun j _=>Nf s j) _ (fun h=>?_) (fun hlt h=>?_) (fun hlt h h40=>?_) (fun hlt h40=>?_)
  ·rw[bB (by omega)];exact hnil 0
  ·simp only[rd,if_neg h]
  ·simp only[rd,if_pos h]
  ·rw[Bk]
   have:(s.drop i).takeWhile eV=[]:=p9 hlt (ha40 _ h40)
   simp only[rd,if_pos this]
 |
  succ k ih =>
  intro hk i hi
  have hd:300-(k+1)+1=300-k:=by omega
  refine pO s hs (300-(k+1)) i (by omega) hi (rd k) (CN k) (fun j hj=>by rw[hd];exact ih (by omega) j hj) _ (fun h=>?_) (fun hlt h=>?_) (fun hlt h h40=>?_) (fun hlt h40=>?_)
  ·rw[bB (by omega)];exact hnil _
  ·simp only[rd,if_neg h]
  ·rw[drop_cons hlt]at h |-
   simp only[rd,if_pos h,if_neg h40]
  ·have h:=p9 hlt (ha40 _ h40)
   rw[drop_cons hlt]at h |-
   simp only[rd,if_pos h,if_pos h40,bU]
end Go.Proofs.Trees
namespace Go.Proofs.Trees
open Go Go.VL
theorem iD(e:E):AV.agg [.v (.string ((e.gX.getD 0 .any).ag)),e.gX.getD 1 .any]=e.ka:=by cases e<;>rfl
theorem gf(e:E):e.gX.length=2:=by cases e<;>rfl
theorem iI(e:E):bT [.str,.sl] e.gX 0=True:=by
 apply eq_true
 cases e<;>simp[E.gX,bT,dC,bm,bZ]
theorem l7(e:E):e.gX.headD .any=.v (.string (mk e.at)):=by cases e<;>rfl
theorem wP(x:E)(l:List E):az Tryz.prog 90 [.agg [.v (.string (mk [])),.sl (E.bb (x::l))]] [] (bG (.v (.string (mk x.at)))):=by
 refine EJ _ _ ((bZ _).mpr trivial) ?_
 simp only[C4,E.bb,↓zq,zs,af,zt,bG,gf,l7,ap]
 refine⟨fun h=>absurd rfl h,fun _=>⟨fun h=>by omega,fun _=>⟨by omega,by omega⟩⟩⟩
theorem Lz:az Tryz.prog 90 [.agg [.v (.string (mk [])),.sl (E.bb [])]] [] (bG (.v (.string (mk [])))):=by
 refine EJ _ _ ((bZ _).mpr trivial) ?_
 simp only[C4,E.bb,↓zq,zs,af,zt,bG,gf,l7,ap]
 simp
def jD:E->Bool
 | .atom s=>(s==[48])||(s==[49])||ff s||cQ s
 | .list [x,a,b]=>if x.at=[43]then jD a&&jD b else if x.at=[42]then jD a&&jD b else if x.at=[114,101,99]then cQ a.at&&jD b else false
 | .list _=>false
theorem ye:∀(e:E),e.ok->az Tryz.prog 136 [e.ka] [] (bG (.v (.bool (jD e))))
 |
  .atom s,hok=>by
  refine IV _ _ ((bm).mpr trivial) ?_
  have hne:s≠[]:=hok
  simp only[wh,↓zq,zs,af,zt,bG,jD]
  refine⟨fun _=>⟨fun h=>?_,fun h=>⟨fun h1=>?_,fun h1=>?_⟩⟩,fun h=>absurd h hne⟩
  ·simp[h]
  ·simp[h1]
  ·refine aj (AO s) ?_
   simp only[↓zq,zs,af]
   refine⟨fun hp=>?_,fun hp=>?_⟩
   ·simp[hp]
   ·refine aj (EH s) ?_
    simp[↓zq,zs,af,hp,h,h1]
 |
  .list l,hok=>by
  refine IV _ _ ((bZ _).mpr trivial) ?_
  match l,hok with
  |[],hok=>simp[wh,E.bb,↓zq,zs,af,zt,bG,jD]
  |[x],hok=>simp[wh,E.bb,↓zq,zs,af,zt,bG,jD]
  |[x,y],hok=>simp[wh,E.bb,↓zq,zs,af,zt,bG,jD]
  |
   x::y::z::w::l,hok =>
   simp only[wh,E.bb,↓zq,zs,af,zt,bG,jD]
   exact⟨fun h=>absurd rfl h,fun _=>⟨fun _=>trivial,fun h=>by omega⟩⟩
  |
   [x,y,z],hok =>
   obtain⟨ok1,ok2,ok3,_⟩:=hok
   simp only[wh,↓zq,zs,af,zt,bG]
   refine⟨fun h=>absurd rfl h,fun _=>⟨fun h=>absurd rfl h,fun _=>?_⟩⟩
   refine aj (wP x _) ?_
   simp only[E.bb,toNat_one,bf,↓zq,zs,af,zt,iD,gf,iI,l7,ap,jD]
   refine⟨fun h=>?_,fun h=>⟨fun h1=>?_,fun h1=>⟨fun h2=>?_,fun h2=>?_⟩⟩⟩
   ·rw[if_pos h]
    refine⟨by omega,aj (ye y ok2) ?_⟩
    simp only[↓zq,zs,af]
    refine⟨fun hy=>⟨by omega,aj (ye z ok3) ?_⟩,fun hy=>?_⟩
    ·simp only[↓zq,zs,af,hy,bW]
    ·rw[hy];rfl
   ·rw[if_neg h,if_pos h1]
    refine⟨by omega,aj (ye y ok2) ?_⟩
    simp only[↓zq,zs,af]
    refine⟨fun hy=>⟨by omega,aj (ye z ok3) ?_⟩,fun hy=>?_⟩
    ·simp only[↓zq,zs,af,hy,bW]
    ·rw[hy];rfl
   ·rw[if_neg h,if_neg h1,if_pos h2]
    refine⟨by omega,by omega,aj (EH _) ?_⟩
    simp only[↓zq,zs,af]
    refine⟨fun hy=>⟨by omega,aj (ye z ok3) ?_⟩,fun hy=>?_⟩
    ·simp only[↓zq,zs,af,hy,bW]
    ·rw[hy];rfl
   ·rw[if_neg h,if_neg h1,if_neg h2]
theorem iB:∀(e:E) (ar:List (List UInt8)),(cy e ar).isSome=jD e
 |
  .atom s,ar=>by
  simp only[cy,jD]
  by_cases h:s=[48]
  ·simp[h]
  ·by_cases h1:s=[49]
   ·simp[h1]
   ·rw[if_neg h,if_neg h1]
    by_cases h2:ff s=true
    ·simp[h2]
    ·rw[if_neg h2]
     by_cases h3:cQ s=true
     ·rw[if_pos h3];cases bx s ar ar.length<;>simp[h3]
     ·rw[if_neg h3];simp[h,h1,h2,h3]
 | .list [],_=>rfl
 | .list [_],_=>rfl
 | .list [_,_],_=>rfl
 | .list (_::_::_::_::_),_=>rfl
 |
  .list [x,a,b],ar=>by
  have ha:=iB a ar
  have hb:=iB b ar
  have hb2:=iB b (ar++[a.at])
  rw[jD]
  by_cases h:x.at=[43]
  ·rw[kG ar h,if_pos h,<-ha,<-hb];cases cy a ar<;>cases cy b ar<;>rfl
  ·by_cases h1:x.at=[42]
   ·rw[jQ ar h1,if_neg h,if_pos h1,<-ha,<-hb];cases cy a ar<;>cases cy b ar<;>rfl
   ·by_cases h2:x.at=[114,101,99]
    ·rw[ml ar h2,if_neg h,if_neg h1,if_pos h2,<-hb2]
     cases cQ a.at<;>cases cy b (ar++[a.at])<;>rfl
    ·rw[iN ar h h1 h2,if_neg h,if_neg h1,if_neg h2];rfl
mutual
def E.cN:E->Nat
 | .atom _=>1
 | .list l=>E.eU l
def E.eU:List E->Nat
 |[]=>0
 |e::l=>e.cN+E.eU l
end
mutual
theorem jh:∀e:E,e.cN<=e.sz
 | .atom s=>by simp[E.cN,E.sz]
 | .list l=>by have:=tG l;simp only[E.cN,E.sz];omega
theorem tG:∀l:List E,E.eU l<=E.iX l
 |[]=>by simp[E.eU,E.iX]
 |e::l=>by have:=jh e;have:=tG l;simp only[E.eU,E.iX];omega
end
theorem jr:∀(l:List E) (i:Nat) (h:i<l.length),(E.bb l).getD i []=(l[i]).gX
 |e::l,0,_=>rfl
 |
  e::l,i+1,h=>by
  have:=jr l i (by simpa using h)
  simp only[E.bb,List.getD_cons_succ,List.getElem_cons_succ];exact this
theorem yY:∀(l:List E) (i:Nat) (h:i<l.length),E.eU (l.drop i)=(l[i]).cN+E.eU (l.drop (i+1)):=by
 intro l i h
 rw[ba h];rfl
theorem tL:∀(l:List E) (i:Nat) (h:i<l.length),E.CO l->(l[i]).ok
 |e::l,0,_,h=>h.1
 |e::l,i+1,hi,h=>tL l i (by simpa using hi) h.2
theorem GJ(l:List E)(hl:E.eU l<1000000)(hll:l.length<1000000)(ih:∀i (h:i<l.length),az Tryz.prog 129 [(l[i]).ka] [] (bG (.v (.int .i64 ((l[i]).cN:Int))))) :
 ∀(k i n:Nat),i+k=l.length->n+E.eU (l.drop i)<=E.eU l->Ez [.v (.int .i64 (n:Int)),.v (.int .i64 (i:Int))] [.cells [.v (.string (mk [])),.sl (E.bb l)]] (ki 1 [.v (.int .i64 ((n+E.eU (l.drop i):Nat):Int))] [])
 |
  0,i,n,hi,hn=>by
  refine Jh _ _ _ _ ?_
  simp only[FE,↓zq,zs,af,dV]
  have:l.drop i=[]:=bB (by omega)
  refine⟨fun h=>by omega,fun _=>?_⟩
  simp[ki,this,E.eU]
 |
  k+1,i,n,hi,hn=>by
  have hlt:i<l.length:=by omega
  refine Jh _ _ _ _ ?_
  simp only[FE,↓zq,zs,af,zt,dV,jr l i hlt,gf,iI,iD,ap]
  refine⟨fun _=>⟨by omega,?_⟩,fun h=>by omega⟩
  refine aj (ih i hlt) ?_
  have h1:=yY l i hlt
  simp only[↓zq,zs,af]
  rw[bS i (by omega),wrap64 _ (by omega) (by omega)]
  have:=GJ l hl hll ih k (i+1) (n+(l[i]).cN) (by omega) (by omega)
  rw[h1,<-Nat.add_assoc]
  simpa using this
theorem s6:∀l:List E,l.length<=E.iX l
 |[]=>by simp[E.iX]
 |
  e::l=>by
  have:=s6 l
  have:1<=e.sz:=by cases e<;>simp[E.sz]
  simp only[E.iX,aq];omega
theorem tE:∀(l:List E) (i:Nat) (h:i<l.length),(l[i]).sz<=E.iX l
 |e::l,0,_=>by simp[E.iX]
 |e::l,i+1,h=>by have:=tE l i (by simpa using h);simp only[E.iX,List.getElem_cons_succ];omega
theorem HY:∀(n:Nat) (e:E),e.sz<n->e.ok->e.sz<1000000->az Tryz.prog 129 [e.ka] [] (bG (.v (.int .i64 (e.cN:Int))))
 |0,e,hn,_,_=>by omega
 |
  n+1,.atom s,hn,hok,hl=>by
  refine GU _ _ ((bm).mpr trivial) ?_
  have hne:s≠[]:=hok
  simp only[Fq,↓zq,zs,af,zt,bG]
  exact⟨fun _=>rfl,fun h=>absurd h hne⟩
 |
  n+1,.list l,hn,hok,hl=>by
  refine GU _ _ ((bZ _).mpr trivial) ?_
  simp only[E.sz]at hn hl
  have h1:=tG l
  have h2:=s6 l
  simp only[Fq,↓zq,zs,af,zt,bG]
  refine⟨fun h=>absurd rfl h,fun _=>?_⟩
  refine df (GJ l (by omega) (by omega) (fun i hi=>?_) l.length 0 0 (by omega) (by simp)) ?_
  ·have:=tE l i hi
   exact HY n (l[i]) (by omega) (tL l i hi hok) (by omega)
  ·simp[↓zq,zs,af,E.cN]
theorem BP(e:E)(h:e.ok)(hl:e.sz<1000000):az Tryz.prog 129 [e.ka] [] (bG (.v (.int .i64 (e.cN:Int)))):=HY (e.sz+1) e (by omega) h hl
theorem tO{x:E}(h:x.at≠[]):x.cN=1:=by cases x<;>simp[E.at,E.cN]at h |-
theorem Ar{s:List UInt8}(h:cQ s=true):s≠[]:=by rintro rfl;cases h
theorem jC:∀(e:E) (ar:List (List UInt8)) (t:Ty),cy e ar=some t->e.cN=t.aB
 |
  .atom s,ar,t,h=>by
  simp only[cy]at h
  simp only[E.cN]
  split at h
  ·cases h;rfl
  ·split at h
   ·cases h;rfl
   ·split at h
    ·cases h;rfl
    ·split at h
     ·split at h<;>cases h<;>rfl
     ·cases h
 | .list [],_,_,h=>by cases h
 | .list [_],_,_,h=>by cases h
 | .list [_,_],_,_,h=>by cases h
 | .list (_::_::_::_::_),_,_,h=>by cases h
 |
  .list [x,a,b],ar,t,h=>by
  simp only[E.cN,E.eU]
  by_cases h0:x.at=[43]
  ·rw[kG ar h0]at h
   have:=tO (x:=x) (by rw[h0];simp)
   split at h
   ·rename_i t1 t2 e1 e2
    cases h
    have:=jC a ar _ e1
    have:=jC b ar _ e2
    simp only[Ty.aB];omega
   ·cases h
  ·by_cases h1:x.at=[42]
   ·rw[jQ ar h1]at h
    have:=tO (x:=x) (by rw[h1];simp)
    split at h
    ·rename_i t1 t2 e1 e2
     cases h
     have:=jC a ar _ e1
     have:=jC b ar _ e2
     simp only[Ty.aB];omega
    ·cases h
   ·by_cases h2:x.at=[114,101,99]
    ·rw[ml ar h2]at h
     have:=tO (x:=x) (by rw[h2];simp)
     split at h
     ·rename_i hl
      have:=tO (Ar hl)
      split at h
      ·rename_i t1 e1
       cases h
       have:=jC b _ _ e1
       simp only[Ty.aB];omega
      ·cases h
     ·cases h
    ·rw[iN ar h0 h1 h2]at h;cases h
def mo(x:Option E)(b:Bool):AV->List Ob->Prop:=fun r o=>∃c:List UInt8,∃d:AV,LK.sl.has d/\r=.cx [.agg [.v (.string (mk c)),d],.v (.bool b)]/\(b=true->∃e,x=some e/\AV.agg [.v (.string (mk c)),d]=e.ka)
theorem Ap(e:E):∃c:List UInt8,∃d:AV,LK.sl.has d/\e.ka=AV.agg [.v (.string (mk c)),d]:=by
 cases e with
 |atom s=>exact⟨s,_,(bm).mpr trivial,rfl⟩
 |list l=>exact⟨[],_,(bZ _).mpr trivial,rfl⟩
theorem mo.ne(x:Option E)(b:Bool)(h:b=true->x.isSome=true):∃r o,mo x b r o:=by
 cases b with
 |false=>exact⟨_,[],[],.v (.slice none 0 0),(bm).mpr trivial,rfl,fun h=>by cases h⟩
 |
  true =>
  cases x with
  |none=>cases h rfl
  |
   some e =>
   obtain⟨c,d,hd,he⟩:=Ap e
   exact⟨_,[],c,d,hd,rfl,fun _=>⟨e,rfl,he.symm⟩⟩
theorem G1(s:List UInt8):az Tryz.prog 84 [.v (.string (mk s))] [] (mo (qj s) (qj s).isSome):=by
 refine MZ _ ?_
 simp only[Hb,↓zq,zs,af,zt,qj]
 refine⟨fun h=>?_,fun h=>?_⟩
 ·rw[if_pos (by omega)]
  exact⟨[],_,(bm).mpr trivial,rfl,fun h=>by cases h⟩
 ·rw[if_neg (by omega)]
  refine aM (Mx s (by omega) 300 (by omega) 0 (by omega)) (CB.ne _ _) ?_
  rintro r o ⟨rfl,hr⟩
  rw[bO]at hr
  cases hq:rd 300 s with
  |
   none =>
   rw[hq]at hr
   obtain⟨c,d,hd,rfl⟩:=hr
   simp only[↓zq,zs,af,zt,bT]
   refine⟨hd,c,d,hd,?_,fun h=>by cases h⟩
   have:((-1:Int)==(s.length:Int))=false:=by
    rw[beq_eq_false_iff_ne];omega
   rw[this];rfl
  |
   some q =>
   obtain⟨e,u⟩:=q
   rw[hq]at hr
   subst hr
   have hlt:=wU _ _ _ _ hq
   obtain⟨c,d,hd,he⟩:=Ap e
   simp only[he,↓zq,zs,af,zt,bT]
   cases u with
   |
    nil =>
    refine⟨hd,c,d,hd,?_,fun _=>⟨e,rfl,he.symm⟩⟩
    simp
   |
    cons b u =>
    simp only[aq]at hlt |-
    refine⟨hd,c,d,hd,?_,fun h=>by cases h⟩
    have:(((s.length-(u.length+1):Nat):Int)==(s.length:Int))=false:=by simp;omega
    rw[this];rfl
def vo(s:List UInt8):Option E:=match qj s with
 |none=>none
 |some e=>if jD e=true/\e.cN<=400 then some e else none
theorem Ei(s:List UInt8):az Tryz.prog 82 [.v (.string (mk s))] [] (mo (vo s) (vo s).isSome):=by
 refine MM _ ?_
 unfold IM
 refine aM (G1 s) (mo.ne _ _ (fun h=>h)) ?_
 rintro r o ⟨c,d,hd,rfl,hh⟩
 simp only[↓zq,zs,af,zt,bT,vo]
 refine⟨hd,fun h=>?_,fun h=>?_⟩
 ·obtain⟨e,he,hce⟩:=hh h
  obtain⟨hok,hsz⟩:=mZ he
  rw[he,hce]
  refine aj (ye e hok) ?_
  simp only[↓zq,zs,af]
  refine⟨fun hi=>?_,fun hi=>?_⟩
  ·refine aj (BP e hok (by omega)) ?_
   simp only[↓zq,zs,af,hi]
   refine⟨c,d,hd,?_,?_⟩
   ·rw[hce]
    by_cases h4:e.cN<=400
    ·rw[if_pos h4];exact congrArg (fun b=>AV.cx [e.ka,.v (.bool b)]) (decide_eq_true (show ((e.cN:Nat):Int)<=400 by omega))
    ·rw[if_neg h4];exact congrArg (fun b=>AV.cx [e.ka,.v (.bool b)]) (decide_eq_false (show ¬((e.cN:Nat):Int)<=400 by omega))
   ·split
    ·exact fun _=>⟨e,rfl,hce⟩
    ·exact fun h=>by cases h
  ·refine⟨c,d,hd,?_,?_⟩
   ·rw[hce,if_neg (by rw[hi];simp)];rfl
   ·rw[if_neg (by rw[hi];simp)];exact fun h=>by cases h
 ·have hn:qj s=none:=by cases hq:qj s<;>simp[hq]at h |-
  rw[hn]
  exact⟨c,d,hd,rfl,fun h=>by cases h⟩
theorem oM{s:List UInt8}{e:E}(h:vo s=some e):qj s=some e/\jD e=true/\e.cN<=400:=by
 unfold vo at h
 split at h
 ·cases h
 ·split at h
  ·rename_i e' h1 h2;cases h;exact⟨h1,h2⟩
  ·cases h
end Go.Proofs.Trees
namespace Go.Proofs.Trees
open Go Go.VL
def bH:Ty->Bool
 | .name s=>cQ s
 | .plus a b=>bH a||bH b
 | .times a b=>bH a||bH b
 | .rc a=>bH a
 |_=>false
theorem gL:∀(t:Ty) (out:List (List UInt8)),(bw t out).any cQ=(out.any cQ||bH t)
 |
  .name s,out=>by
  simp only[bw,oU,bH]
  split
  ·rename_i h
   cases hs:cQ s with
   |false=>simp
   |true=>rw[Bool.or_true,bQ];exact⟨s,h,hs⟩
  ·simp
 | .plus a b,out=>by simp only[bw,bH,gL a,gL b,Bool.or_assoc]
 | .times a b,out=>by simp only[bw,bH,gL a,gL b,Bool.or_assoc]
 | .rc a,out=>by simp only[bw,bH,gL a]
 | .zero,out=>by simp[bw,bH]
 | .one,out=>by simp[bw,bH]
 | .bA u,out=>by simp[bw,bH]
theorem rV(t:Ty):t.closed = !bH t:=by simp[Ty.closed,gL]
def pl:Ty->Bool
 | .name s=>decide (s.length<=1)
 | .plus a b=>pl a&&pl b
 | .times a b=>pl a&&pl b
 | .rc a=>false
 |_=>true
theorem k8{lo hi:Nat}{s:List UInt8}(h:named lo hi s=true):∃c r,s=c::r/\lo<=c.toNat/\c.toNat<=hi:=by
 cases s with
 |nil=>cases h
 |cons c r=>simp only[named,au,decide_eq_true_eq]at h;exact⟨c,r,rfl,by omega,by omega⟩
theorem fB{x a b:E}{ar:List (List UInt8)}{t:Ty}(hx:x.at=[43])(h:cy (.list [x,a,b]) ar=some t):∃t1 t2,cy a ar=some t1/\cy b ar=some t2/\t=.plus t1 t2:=by
 rw[kG ar hx]at h
 split at h
 ·rename_i t1 t2 e1 e2;cases h;exact⟨t1,t2,e1,e2,rfl⟩
 ·cases h
theorem eY{x a b:E}{ar:List (List UInt8)}{t:Ty}(hx:x.at=[42])(h:cy (.list [x,a,b]) ar=some t):∃t1 t2,cy a ar=some t1/\cy b ar=some t2/\t=.times t1 t2:=by
 rw[jQ ar hx]at h
 split at h
 ·rename_i t1 t2 e1 e2;cases h;exact⟨t1,t2,e1,e2,rfl⟩
 ·cases h
theorem dj{x a b:E}{ar:List (List UInt8)}{t:Ty}(hx:x.at=[114,101,99])(h:cy (.list [x,a,b]) ar=some t):∃t1,cQ a.at=true/\cy b (ar++[a.at])=some t1/\t=.rc t1:=by
 rw[ml ar hx]at h
 split at h
 ·rename_i hl
  split at h
  ·rename_i t1 e1;cases h;exact⟨t1,hl,e1,rfl⟩
  ·cases h
 ·cases h
theorem tR{s:List UInt8}:pu s=match vo s with|none=>none|some e=>cy e []:=by
 unfold pu vo
 cases he:qj s with
 |none=>rfl
 |
  some e =>
  have hs:=iB e []
  simp only
  cases ht:cy e []with
  |
   none =>
   rw[ht]at hs
   rw[if_neg (by rw[<-hs];simp)]
  |
   some t =>
   rw[ht]at hs
   have ha:=jC e [] t ht
   by_cases h4:e.cN<=400
   ·rw[if_pos ⟨hs.symm,h4⟩];dsimp only;rw[if_neg (by omega)];exact ht.symm
   ·rw[if_neg (fun h=>h4 h.2)];dsimp only;rw[if_pos (by omega)]
end Go.Proofs.Trees
namespace Go.Proofs.Trees
open Go Go.VL
def pure:Ty->Bool
 | .zero=>true
 | .one=>true
 | .name s=>(s==[120])||(s==[121])||(s==[122])
 | .plus a b=>pure a&&pure b
 | .times a b=>pure a&&pure b
 |_=>false
def J4(v:Nat):Option Nat:=if v<=1000000000 then some v else none
def Gv(n:Nat):Ty->Option Nat
 | .zero=>some 0
 | .one=>some 1
 | .name _=>some n
 | .plus a b=>match Gv n a,Gv n b with|some x,some y=>J4 (x+y)|_,_=>none
 | .times a b=>match Gv n a,Gv n b with|some x,some y=>J4 (x*y)|_,_=>none
 |_=>none
def Jr(x:Option Nat):AV->List Ob->Prop:=fun r o=>∃v:Int,r=.cx [.v (.int .i64 v),.v (.bool x.isSome)]/\∀c,x=some c->v=(c:Int)
theorem Jr.ne(x:Option Nat):∃r o,Jr x r o:=by
 cases x with
 |none=>exact⟨_,[],0,rfl,fun c h=>by cases h⟩
 |some c=>exact⟨_,[],(c:Int),rfl,fun c' h=>by cases h;rfl⟩
end Go.Proofs.Trees
namespace Go.Proofs.Trees
open Go Go.VL Go.RowKit
abbrev dd(n:Nat):List UInt8:=Lib.decDigits n
theorem eC{k:Nat}(h:k<10):dd k=[aX (48+k)]:=by rw[dd,Lib.decDigits,dif_pos h]
theorem fH{k:Nat}(h:¬k<10):dd k=dd (k/10)++[aX (48+k%10)]:=by rw[dd,Lib.decDigits,dif_neg h]
theorem mq:∀(n k:Nat),k<n->(dd k).length<=k+1
 |0,k,h=>by omega
 |
  n+1,k,h=>by
  by_cases h1:k<10
  ·rw[eC h1];simp
  ·rw[fH h1]
   have:=mq n (k/10) (by omega)
   simp only[an,aq,aE];omega
theorem xT(d:Nat)(h:d<10):(Value.int .u8 (IntKind.wrap .u8 (IntKind.wrap .i64 (48+(d:Int)))))=.int .u8 ((aX (48+d)).toNat:Int):=by
 have:d=0\/d=1\/d=2\/d=3\/d=4\/d=5\/d=6\/d=7\/d=8\/d=9:=by omega
 rcases this with rfl|rfl|rfl|rfl|rfl|rfl|rfl|rfl|rfl|rfl<;>rfl
theorem pR(b:UInt8):bytesOf [[.v (.int .u8 (b.toNat:Int))]]=[b]:=by simp[bytesOf,wZ]
theorem kq(b:UInt8):ji [[.v (.int .u8 (b.toNat:Int))]]:=⟨rfl,(kZ _ _).mpr trivial,trivial⟩
theorem wt:∀(n k:Nat),k<n->k<1000000000->az Tryz.prog 54 [.v (.int .i64 (k:Int))] [] (bG (.v (.string (mk (dd k)))))
 |0,k,h,_=>by omega
 |
  n+1,k,h,hk=>by
  refine Nn _ ?_
  simp only[H2,↓zq,zs,af,bG]
  refine⟨fun h=>by omega,fun _=>⟨fun h=>by omega,fun _=>⟨fun h1=>?_,fun h1=>⟨by omega,?_⟩⟩⟩⟩
  ·rw[xT k (by omega)]
   refine⟨kq _,?_⟩
   rw[pR,eC (by omega)];rfl
  ·have e1:IntKind.wrap .i64 (Int.tdiv (k:Int) 10)=((k/10:Nat):Int):=by
    rw[show Int.tdiv (k:Int) 10=((k/10:Nat):Int) from (Int.ofNat_tdiv k 10).symm,wrap64 _ (by omega) (by omega)]
   have e2:du (k:Int) 10=((k%10:Nat):Int):=(Int.ofNat_tmod k 10).symm
   rw[e1,e2,xT (k%10) (by omega)]
   refine aj (wt n (k/10) (by omega) (by omega)) ?_
   have hl:=mq (k+1) (k/10) (by omega)
   simp only[↓zq,zs,af,zt,pR]
   have h9:(k:Int)<1000000000:=by omega
   refine⟨by omega,kq _,?_,?_⟩
   ·show (mk (dd (k/10))).size+(mk [aX (48+k%10)]).size<=_
    rw[cO,cO];simp;omega
   ·show AV.v (.string (mk (dd (k/10))++mk [aX (48+k%10)]))=_
    rw[kK,fH (k:=k) (by omega)]
theorem BG(s:List UInt8)(d:AV)(hd:LK.sl.has d)(h:s≠[]):az Tryz.prog 90 [.agg [.v (.string (mk s)),d]] [] (bG (.v (.string (mk [])))):=by
 refine EJ _ _ hd ?_
 simp only[C4,↓zq,zs,af,zt,bG]
 exact⟨fun _=>trivial,fun h'=>absurd h' h⟩
theorem BI(e:E):AV.agg [.v (.string ((e.ka.cs.getD 0 .any).ag)),e.ka.cs.getD 1 .any]=e.ka:=by cases e<;>rfl
mutual
def eQ:E->List UInt8
 | .atom s=>s
 | .list []=>[40,41]
 | .list (e::l)=>40::(eQ e++(dZ l++[41]))
def dZ:List E->List UInt8
 |[]=>[]
 |e::l=>32::(eQ e++dZ l)
end
theorem yE:∀(l:List E) (i:Nat) (h:i<l.length),dZ (l.drop i)=32::(eQ l[i]++dZ (l.drop (i+1))):=by
 intro l i h
 rw[ba h,dZ]
theorem HJ(l:List E)(hll:l.length<1000000000000)(ih:∀i (h:i<l.length),az Tryz.prog 57 [(l[i]).ka] [] (bG (.v (.string (mk (eQ l[i])))))) :
 ∀(k i:Nat) (out:List UInt8),i+k=l.length->1<=i->out.length+(dZ (l.drop i)).length<=1000000000000->Ah [.v (.string (mk out)),.v (.int .i64 (i:Int))] [.cells [.v (.string (mk [])),.sl (E.bb l)]] (ki 1 [.v (.string (mk (out++dZ (l.drop i))))] [])
 |
  0,i,out,hi,h1,hn=>by
  refine CZ _ _ _ _ ?_
  simp only[Bf,↓zq,zs,af,dV]
  have:l.drop i=[]:=bB (by omega)
  refine⟨fun h=>by omega,fun _=>?_⟩
  simp[ki,this,dZ]
 |
  k+1,i,out,hi,h1,hn=>by
  have hlt:i<l.length:=by omega
  have hd:=yE l i hlt
  rw[hd]at hn
  simp only[aq,an]at hn
  refine CZ _ _ _ _ ?_
  simp only[Bf,↓zq,zs,af,zt,dV,jr l i hlt,gf,iI,iD,ap]
  refine⟨fun _=>⟨fun _=>⟨by omega,by omega,?_⟩,fun h=>by omega⟩,fun h=>by omega⟩
  refine aj (ih i hlt) ?_
  simp only[↓zq,zs,af,zt]
  refine⟨by simp;omega,?_⟩
  rw[bS i (by omega),hd]
  have:=HJ l hll ih k (i+1) (out++[32]++eQ l[i]) (by omega) (by omega) (by simp;omega)
  simpa using this
theorem xg:∀(l:List E) (i:Nat) (h:i<l.length),(eQ l[i]).length<=(dZ l).length
 |e::l,0,_=>by simp only[dZ,List.getElem_cons_zero,aq,an];omega
 |e::l,i+1,h=>by have:=xg l i (by simpa using h);simp only[dZ,List.getElem_cons_succ,aq,an];omega
theorem qz:∀l:List E,l.length<=(dZ l).length
 |[]=>by simp[dZ]
 |e::l=>by have:=qz l;simp only[dZ,aq,an];omega
theorem B3:∀(n:Nat) (e:E),e.sz<n->e.ok->(eQ e).length<=900000000000->az Tryz.prog 57 [e.ka] [] (bG (.v (.string (mk (eQ e)))))
 |0,e,hn,_,_=>by omega
 |
  n+1,.atom s,hn,hok,hl=>by
  refine FB _ _ ((bm).mpr trivial) ?_
  have hne:s≠[]:=hok
  simp only[Ct,↓zq,zs,af,zt,bG]
  exact⟨fun _=>rfl,fun h=>absurd h hne⟩
 |
  n+1,.list [],hn,hok,hl=>by
  refine FB _ _ ((bZ _).mpr trivial) ?_
  simp only[Ct,↓zq,zs,af,zt,bG]
  refine⟨fun h=>absurd rfl h,fun _=>?_⟩
  have h1:Ah [.v (.string (mk [40])),.v (.int .i64 0)] [.cells [.v (.string (mk [])),.sl (E.bb [])]] (ki 1 [.v (.string (mk [40]))] []):=by
   refine CZ _ _ _ _ ?_
   simp[Bf,↓zq,zs,af,E.bb,ki]
  refine df h1 ?_
  simp only[↓zq,zs,af,zt]
  exact⟨by simp,rfl⟩
 |
  n+1,.list (x::l),hn,hok,hl=>by
  refine FB _ _ ((bZ _).mpr trivial) ?_
  simp only[E.sz,E.iX]at hn
  simp only[eQ,aq,an,aE]at hl
  have h2:=qz l
  simp only[Ct,↓zq,zs,af,zt,bG]
  refine⟨fun h=>absurd rfl h,fun _=>?_⟩
  have hL:Ah [.v (.string (mk [40])),.v (.int .i64 0)] [.cells [.v (.string (mk [])),.sl (E.bb (x::l))]] (ki 1 [.v (.string (mk ([40]++eQ x++dZ l)))] []):=by
   refine CZ _ _ _ _ ?_
   simp only[Bf,E.bb,Int.toNat_zero,↓zq,zs,af,zt,dV,gf,iI,iD,ap]
   refine⟨fun _=>⟨fun h=>by omega,fun _=>⟨by omega,?_⟩⟩,fun h=>by omega⟩
   refine aj (B3 n x (by omega) hok.1 (by omega)) ?_
   simp only[↓zq,zs,af,zt]
   refine⟨by simp;omega,?_⟩
   have:=HJ (x::l) (by simp;omega) (fun i hi=>by
    have h3:=tE (x::l) i hi
    simp only[E.iX]at h3
    refine B3 n _ (by omega) (tL _ i hi hok) ?_
    have h4:=xg (x::l) i hi
    simp only[dZ,aq,an]at h4
    omega) l.length 1 ([40]++eQ x) (by simp;omega) (by omega) (by simp;omega)
   rw[show IntKind.wrap .i64 (0+1)=1 from rfl]
   simpa[E.bb]using this
  refine df hL ?_
  simp only[↓zq,zs,af,zt]
  refine⟨by simp;omega,?_⟩
  simp[eQ]
theorem Eh(e:E)(h:e.ok)(hl:(eQ e).length<=900000):az Tryz.prog 57 [e.ka] [] (bG (.v (.string (mk (eQ e))))):=B3 (e.sz+1) e (by omega) h (by omega)
mutual
def E.nd:E->Nat
 | .atom _=>1
 | .list []=>1
 | .list (_::l)=>1+E.ub l
def E.ub:List E->Nat
 |[]=>0
 |e::l=>e.nd+E.ub l
end
mutual
theorem Ay:∀e:E,e.nd<=e.sz
 | .atom s=>by simp[E.nd,E.sz]
 | .list []=>by simp[E.nd,E.sz,E.iX]
 | .list (x::l)=>by have:=wA l;simp only[E.nd,E.sz,E.iX];omega
theorem wA:∀l:List E,E.ub l<=E.iX l
 |[]=>by simp[E.ub,E.iX]
 |e::l=>by have:=Ay e;have:=wA l;simp only[E.ub,E.iX];omega
end
theorem zI:∀(l:List E) (i:Nat) (h:i<l.length),E.ub (l.drop i)=(l[i]).nd+E.ub (l.drop (i+1)):=by
 intro l i h
 rw[ba h];rfl
theorem H3(l:List E)(hl:E.ub l<1000000)(hll:l.length<1000000)(ih:∀i (h:i<l.length),az Tryz.prog 86 [(l[i]).ka] [] (bG (.v (.int .i64 ((l[i]).nd:Int))))) :
 ∀(k i n:Nat),i+k=l.length->n+E.ub (l.drop i)<=1+E.ub l->Az [.v (.int .i64 (n:Int)),.v (.int .i64 (i:Int))] [.cells [.v (.string (mk [])),.sl (E.bb l)]] (ki 1 [.v (.int .i64 ((n+E.ub (l.drop i):Nat):Int))] [])
 |
  0,i,n,hi,hn=>by
  refine CV _ _ _ _ ?_
  simp only[Bl,↓zq,zs,af,dV]
  have:l.drop i=[]:=bB (by omega)
  refine⟨fun h=>by omega,fun _=>?_⟩
  simp[ki,this,E.ub]
 |
  k+1,i,n,hi,hn=>by
  have hlt:i<l.length:=by omega
  refine CV _ _ _ _ ?_
  simp only[Bl,↓zq,zs,af,zt,dV,jr l i hlt,gf,iI,iD,ap]
  refine⟨fun _=>⟨by omega,?_⟩,fun h=>by omega⟩
  refine aj (ih i hlt) ?_
  have h1:=zI l i hlt
  simp only[↓zq,zs,af]
  rw[bS i (by omega),wrap64 _ (by omega) (by omega)]
  have:=H3 l hl hll ih k (i+1) (n+(l[i]).nd) (by omega) (by omega)
  rw[h1,<-Nat.add_assoc]
  simpa using this
theorem G6:∀(n:Nat) (e:E),e.sz<n->e.sz<900000->az Tryz.prog 86 [e.ka] [] (bG (.v (.int .i64 (e.nd:Int))))
 |0,e,hn,_=>by omega
 |
  n+1,.atom s,hn,hl=>by
  refine GO _ _ ((bm).mpr trivial) ?_
  simp only[FP]
  have hL:Az [.v (.int .i64 1),.v (.int .i64 1)] [.cells [.v (.string (mk s)),.v (.slice none 0 0)]] (ki 1 [.v (.int .i64 1)] []):=by
   refine CV _ _ _ _ ?_
   simp[Bl,↓zq,zs,af,ki]
  refine df hL ?_
  simp[↓zq,zs,af,bG,E.nd]
 |
  n+1,.list l,hn,hl=>by
  refine GO _ _ ((bZ _).mpr trivial) ?_
  simp only[E.sz]at hn hl
  simp only[FP]
  match l,hn,hl with
  |
   [],hn,hl =>
   have hL:Az [.v (.int .i64 1),.v (.int .i64 1)] [.cells [.v (.string (mk [])),.sl (E.bb [])]] (ki 1 [.v (.int .i64 1)] []):=by
    refine CV _ _ _ _ ?_
    simp[Bl,↓zq,zs,af,ki,E.bb]
   refine df hL ?_
   simp[↓zq,zs,af,bG,E.nd]
  |
   x::l,hn,hl =>
   simp only[E.iX]at hn hl
   have h1:=wA l
   have h2:=s6 l
   have h0:=Ay x
   refine df (H3 (x::l) (by simp only[E.ub];omega) (by simp;omega) (fun i hi=>?_) l.length 1 1 (by simp;omega) (by simp[E.ub])) ?_
   ·have:=tE (x::l) i hi
    simp only[E.iX]at this
    exact G6 n _ (by omega) (by omega)
   ·simp[↓zq,zs,af,E.nd,bG]
theorem L0(e:E)(hl:e.sz<900000):az Tryz.prog 86 [e.ka] [] (bG (.v (.int .i64 (e.nd:Int)))):=G6 (e.sz+1) e (by omega) hl
inductive Vl where
 |u
 |el (k:Nat)
 |l (v:Vl)
 |r (v:Vl)
 |f (v:Vl)
 |p (a b:Vl)
abbrev uE(k:Nat):List UInt8:=101::dd k
abbrev mb:AV:=.v (.pointer none)
def Vl.dQ:Vl->AV
 | .u=>.ptr [.v (.int .u8 117),.v (.string (mk [])),mb,mb]
 | .el k=>.ptr [.v (.int .u8 101),.v (.string (mk (uE k))),mb,mb]
 | .l v=>.ptr [.v (.int .u8 108),.v (.string (mk [])),v.dQ,mb]
 | .r v=>.ptr [.v (.int .u8 114),.v (.string (mk [])),v.dQ,mb]
 | .f v=>.ptr [.v (.int .u8 102),.v (.string (mk [])),v.dQ,mb]
 | .p a b=>.ptr [.v (.int .u8 112),.v (.string (mk [])),a.dQ,b.dQ]
def Vl.dm:Vl->E
 | .u=>.atom [117]
 | .el k=>.atom (uE k)
 | .l v=>.list [.atom [108],v.dm]
 | .r v=>.list [.atom [114],v.dm]
 | .f v=>.list [.atom [102],v.dm]
 | .p a b=>.list [.atom [112],a.dm,b.dm]
def Vl.nodes:Vl->Nat
 | .l v=>1+v.nodes
 | .r v=>1+v.nodes
 | .f v=>1+v.nodes
 | .p a b=>1+a.nodes+b.nodes
 |_=>1
def Vl.iu(n:Nat):Vl->Prop
 | .el k=>k<n
 | .l v=>v.iu n
 | .r v=>v.iu n
 | .f v=>v.iu n
 | .p a b=>a.iu n/\b.iu n
 | .u=>True
abbrev Vl.ei(v:Vl):List UInt8:=eQ v.dm
theorem bo(v:Vl):LK.has .ptr v.dQ=True:=by cases v<;>simp[Vl.dQ,cC]
theorem eM(v:Vl):v.dQ.isNil=false:=by cases v<;>rfl
theorem nh:∀v:Vl,v.dm.ok
 | .u=>by simp[Vl.dm,E.ok]
 | .el k=>by simp[Vl.dm,E.ok]
 | .l v=>⟨by simp[E.ok],nh v,trivial⟩
 | .r v=>⟨by simp[E.ok],nh v,trivial⟩
 | .f v=>⟨by simp[E.ok],nh v,trivial⟩
 | .p a b=>⟨by simp[E.ok],nh a,nh b,trivial⟩
theorem mY:∀v:Vl,v.dm.nd=v.nodes
 | .u=>rfl
 | .el k=>rfl
 | .l v=>by simp[Vl.dm,E.nd,E.ub,Vl.nodes,mY v]
 | .r v=>by simp[Vl.dm,E.nd,E.ub,Vl.nodes,mY v]
 | .f v=>by simp[Vl.dm,E.nd,E.ub,Vl.nodes,mY v]
 | .p a b=>by simp[Vl.dm,E.nd,E.ub,Vl.nodes,mY a,mY b,Nat.add_assoc]
theorem iS:∀v:Vl,v.iu 100->v.ei.length<=200*v.nodes
 | .u,_=>by simp[Vl.ei,Vl.dm,eQ,Vl.nodes]
 |
  .el k,h=>by
  have h':k<100:=h
  have:=mq 1000 k (by omega)
  simp only[Vl.ei,Vl.dm,eQ,Vl.nodes,aq];omega
 | .l v,h=>by have:=iS v h;simp only[Vl.ei,Vl.dm,eQ,dZ,Vl.nodes,aq,an,aE]at this |-;omega
 | .r v,h=>by have:=iS v h;simp only[Vl.ei,Vl.dm,eQ,dZ,Vl.nodes,aq,an,aE]at this |-;omega
 | .f v,h=>by have:=iS v h;simp only[Vl.ei,Vl.dm,eQ,dZ,Vl.nodes,aq,an,aE]at this |-;omega
 | .p a b,h=>by have:=iS a h.1;have:=iS b h.2;simp only[Vl.ei,Vl.dm,eQ,dZ,Vl.nodes,aq,an,aE]at *;omega
theorem E1(a b:AV)(h:LK.ptr.has a)(h':LK.ptr.has b):az Tryz.prog 96 [a,b] [] (bG (.ptr [.v (.int .u8 112),.v (.string (mk [])),a,b])):=by
 refine MD _ _ h h' ?_
 simp[Ix,↓zq,zs,af,bG]
theorem dc(v:Vl):1<=v.nodes:=by cases v<;>simp[Vl.nodes]<;>omega
theorem DF:∀(v:Vl),v.nodes<1000000->az Tryz.prog 50 [v.dQ] [] (bG (.v (.int .i64 (v.nodes:Int))))
 | .u,h=>by refine yf _ ((bo _).mpr trivial) ?_;simp[DZ,Vl.dQ,↓zq,zs,af,bG,Vl.nodes]
 | .el k,h=>by refine yf _ ((bo _).mpr trivial) ?_;simp[DZ,Vl.dQ,↓zq,zs,af,bG,Vl.nodes]
 |
  .l v,h=>by
  simp only[Vl.nodes]at h
  refine yf _ ((bo _).mpr trivial) ?_
  simp only[DZ,Vl.dQ,↓zq,zs,af,bo,eM]
  refine⟨by omega,fun _=>⟨by omega,?_⟩,fun h=>(by cases h)⟩
  refine aj (DF v (by omega)) ?_
  simp only[↓zq,zs,af,bG,Vl.nodes]
  rw[wrap64 _ (by omega) (by omega)]
  simp
 |
  .r v,h=>by
  simp only[Vl.nodes]at h
  refine yf _ ((bo _).mpr trivial) ?_
  simp only[DZ,Vl.dQ,↓zq,zs,af,bo,eM]
  refine⟨by omega,fun _=>⟨by omega,?_⟩,fun h=>(by cases h)⟩
  refine aj (DF v (by omega)) ?_
  simp only[↓zq,zs,af,bG,Vl.nodes]
  rw[wrap64 _ (by omega) (by omega)]
  simp
 |
  .f v,h=>by
  simp only[Vl.nodes]at h
  refine yf _ ((bo _).mpr trivial) ?_
  simp only[DZ,Vl.dQ,↓zq,zs,af,bo,eM]
  refine⟨by omega,fun _=>⟨by omega,?_⟩,fun h=>(by cases h)⟩
  refine aj (DF v (by omega)) ?_
  simp only[↓zq,zs,af,bG,Vl.nodes]
  rw[wrap64 _ (by omega) (by omega)]
  simp
 |
  .p a b,h=>by
  simp only[Vl.nodes]at h
  refine yf _ ((bo _).mpr trivial) ?_
  simp only[DZ,Vl.dQ,↓zq,zs,af,bo,eM]
  refine⟨by omega,fun _=>⟨by omega,?_⟩,fun h=>(by cases h)⟩
  refine aj (DF a (by omega)) ?_
  simp only[↓zq,zs,af,bo,eM]
  rw[wrap64 (1+(a.nodes:Int)) (by omega) (by omega)]
  refine⟨by omega,fun _=>⟨by omega,?_⟩,fun h=>(by cases h)⟩
  refine aj (DF b (by omega)) ?_
  simp only[↓zq,zs,af,bG,Vl.nodes]
  rw[wrap64 _ (by omega) (by omega)]
  congr 2
end Go.Proofs.Trees
namespace Go.Proofs.Trees
open Go Go.VL Go.RowKit
def yc:List UInt8->Nat->Option Nat
 |[],n=>some n
 |b::r,n=>if gU b=true then yc r (10*n+(b.toNat-48))else none
def en(s:List UInt8):Option Nat :=
 if s.length=2\/s.length=3 then(if s.getD 0 0=101/\¬(s.length=3/\s.getD 1 0=48)then yc (s.drop 1) 0 else none)else none
def zZ(s:List UInt8):Int:=match en s with|some k=>(k:Int)|none=>-1
theorem GK(s:List UInt8)(hs:s.length<=3):∀(k i n:Nat),i+k=s.length->1<=i->(n+1)*10 ^ k<=1000->EK [.v (.string (mk s)),.v (.int .i64 (n:Int)),.v (.int .i64 (i:Int))] []
 (rK (match yc (s.drop i) n with|some m=>(1,[.v (.int .i64 (m:Int))],[])|none=>(2,[.v (.int .i64 (-1))],[])))
 |
  0,i,n,hi,h1,hn=>by
  refine Iv _ _ _ ?_
  have hd:s.drop i=[]:=bB (by omega)
  simp only[Fa,↓zq,zs,af,zt,hd,yc]
  exact⟨fun h=>by omega,fun _=>by first|trivial|rfl⟩
 |
  k+1,i,n,hi,h1,hn=>by
  have hlt:i<s.length:=by omega
  refine Iv _ _ _ ?_
  rw[drop_cons hlt,yc]
  simp only[Fa,↓zq,zs,af,zt,lI s i hlt]
  generalize s.getD i 0=b
  have hb:=b.toNat_lt
  refine⟨fun _=>⟨by omega,fun h48=>?_,fun h48=>⟨by omega,fun h57=>?_,fun h57=>⟨by omega,?_⟩⟩⟩,fun h=>by omega⟩
  ·have:gU b=false:=by simp only[gU,decide_eq_false_iff_not];omega
   rw[this];rfl
  ·have:gU b=false:=by simp only[gU,decide_eq_false_iff_not];omega
   rw[this];rfl
  ·have:gU b=true:=by simp only[gU,decide_eq_true_eq];omega
   rw[if_pos this]
   have hk:k=0\/k=1:=by omega
   have hn2:n*10<=1000:=by
    rcases hk with rfl|rfl<;>simp at hn<;>omega
   have e8:IntKind.wrap .u8 ((b.toNat:Int)-48)=((b.toNat-48:Nat):Int):=by
    have:b.toNat=48\/b.toNat=49\/b.toNat=50\/b.toNat=51\/b.toNat=52\/b.toNat=53\/b.toNat=54\/b.toNat=55\/b.toNat=56\/b.toNat=57:=by omega
    rcases this with h|h|h|h|h|h|h|h|h|h<;>rw[h]<;>rfl
   rw[e8,bS i (by omega),wrap64 ((b.toNat-48:Nat):Int) (by omega) (by omega),wrap64 (10*(n:Int)) (by omega) (by omega),wrap64 _ (by omega) (by omega)]
   have e:(10*(n:Int)+((b.toNat-48:Nat):Int))=((10*n+(b.toNat-48):Nat):Int):=by omega
   rw[e]
   exact GK s hs k (i+1) _ (by omega) (by omega) (by rcases hk with rfl|rfl<;>simp at hn |-<;>omega)
theorem HU(s:List UInt8):az Tryz.prog 56 [.v (.string (mk s))] [] (bG (.v (.int .i64 (zZ s)))):=by
 refine MN _ ?_
 unfold Ja
 refine aj (BO _ _ _) ?_
 simp only[↓zq,zs,af,zt,DJ,bG]
 have hL:∀(Q:Nat->List AV->List Ob->Prop),(s.length=2\/s.length=3)->s.getD 0 0=101->¬(s.length=3/\s.getD 1 0=48)->(Q 0 [.v (.int .i64 (zZ s))] []) ->
  eN Tryz.prog 49 (.loop BZ AU [.v (.string (mk s)),.v (.int .i64 0),.v (.int .i64 1)] [] (fun y2 q2=>.al (LK.has (.int .i64) (y2.headD .any))<|.done 0 [.v (.int .i64 ((y2.headD .any).toInt))] []) (fun y2 q2=>.al (LK.has (.int .i64) (y2.headD .any))<|.done 0 [.v (.int .i64 ((y2.headD .any).toInt))] [])) Q:=by
  intro Q hl h0 h1 hQ
  have e:en s=yc (s.drop 1) 0:=by rw[en,if_pos hl,if_pos ⟨h0,h1⟩]
  refine i6 (GK s (by omega) (s.length-1) 1 0 (by omega) (by omega) (by rcases hl with h|h<;>rw[h]<;>decide)) (fun ys o e'=>?_) (fun ys o e'=>?_)
  ·cases hq:yc (s.drop 1) 0<;>rw[hq]at e'<;>cases e'
   rw[hq]at e
   simp only[zZ,e]at hQ
   simp only[↓zq,zs,af];exact hQ
  ·cases hq:yc (s.drop 1) 0<;>rw[hq]at e'<;>cases e'
   rw[hq]at e
   simp only[zZ,e]at hQ
   simp only[↓zq,zs,af];exact hQ
 have hz:∀{i:Nat},i<s.length->bt (mk s) (i:Int)=((s.getD i 0).toNat:Int):=fun h=>lI s _ h
 refine⟨fun h=>?_,fun h=>⟨?_,fun h0=>?_,fun h0=>⟨fun h3=>⟨by omega,fun h1=>?_,fun h1=>?_⟩,fun h3=>?_⟩⟩⟩
 ·have h':¬(2<=(s.length:Int)/\(s.length:Int)<=3):=by simpa using h
  rw[zZ,en,if_neg (by omega)]
 ·have h':2<=(s.length:Int)/\(s.length:Int)<=3:=by simpa using h
  omega
 ·have h':2<=(s.length:Int)/\(s.length:Int)<=3:=by simpa using h
  have e0:=hz (i:=0) (by omega)
  simp only[cz,cV]at e0
  rw[e0]at h0
  rw[zZ,en,if_pos (by omega),if_neg]
  rintro⟨e,_⟩
  rw[e]at h0;exact h0 rfl
 ·have h':2<=(s.length:Int)/\(s.length:Int)<=3:=by simpa using h
  have e1:=hz (i:=1) (by omega)
  simp only[cz,cV]at e1
  rw[e1]at h1
  rw[zZ,en,if_pos (by omega),if_neg]
  rintro⟨_,e⟩
  refine e ⟨by omega,?_⟩
  rw[<-dK];show (s.getD 1 0).toNat=48;omega
 ·have h':2<=(s.length:Int)/\(s.length:Int)<=3:=by simpa using h
  have e0:=hz (i:=0) (by omega)
  have e1:=hz (i:=1) (by omega)
  simp only[cz,cV]at e0 e1
  rw[e0]at h0;rw[e1]at h1
  refine hL _ (by omega) ?_ ?_ ⟨rfl,rfl⟩
  ·rw[<-dK];show (s.getD 0 0).toNat=101;omega
  ·rintro⟨_,e⟩;rw[e]at h1;exact h1 rfl
 ·have h':2<=(s.length:Int)/\(s.length:Int)<=3:=by simpa using h
  have e0:=hz (i:=0) (by omega)
  simp only[cz,cV]at e0
  rw[e0]at h0
  refine hL _ (by omega) ?_ ?_ ⟨rfl,rfl⟩
  ·rw[<-dK];show (s.getD 0 0).toNat=101;omega
  ·rintro⟨e,_⟩;omega
theorem oi:∀(l:List UInt8) (n:Nat),(yc l n).isSome=l.all gU
 |[],n=>rfl
 |
  b::l,n=>by
  rw[yc]
  cases hb:gU b with
  |true=>rw[if_pos rfl,oi l];simp[hb]
  |false=>rw[if_neg (by simp)];simp[hb]
theorem KF(s:List UInt8):az Tryz.prog 148 [.v (.string (mk s))] [] (bG (.v (.bool (en s).isSome))):=by
 refine Mn _ ?_
 simp only[Ik,↓zq,zs,af,zt,bG]
 have hz:∀{i:Nat},i<s.length->bt (mk s) (i:Int)=((s.getD i 0).toNat:Int):=fun h=>lI s _ h
 refine⟨fun h=>?_,fun h=>⟨fun h3=>?_,fun h3=>?_⟩⟩
 ·rw[en,if_neg (by omega)];rfl
 ·rw[en,if_neg (by omega)];rfl
 ·have e0:=hz (i:=0) (by omega)
  have e1:=hz (i:=1) (by omega)
  simp only[cz,cV]at e0 e1
  rw[e0,e1]
  have hx:s.drop (bM 1)=s.drop 1:=rfl
  refine⟨by omega,fun h0=>?_,fun h0=>⟨by omega,?_⟩⟩
  ·rw[en,if_pos (by omega),if_neg]
   ·rfl
   ·rintro⟨e,_⟩;rw[e]at h0;exact h0 rfl
  ·rw[hx]
   refine aj (JU (s.drop 1) D7 (by simp;omega) (by decide) (by decide)) ?_
   simp only[↓zq,zs,af,zt]
   have h101:s.getD 0 0=101:=by rw[<-dK];show (s.getD 0 0).toNat=101;omega
   have hall:Lib.trimS (s.drop 1) D7=[]↔(s.drop 1).all gU=true:=by
    rw[rZ]
    have:(fun x=>D7.contains x)=gU:=funext uD
    rw[this]
   refine⟨fun ht=>?_,fun ht=>⟨fun h2=>?_,fun h2=>⟨by omega,?_⟩⟩⟩
   ·have:(s.drop 1).all gU=false:=by
     cases hq:(s.drop 1).all gU with
     |false=>rfl
     |true=>exact absurd (hall.2 hq) ht
    rw[en,if_pos (by omega)]
    split
    ·rw[oi,this]
    ·rfl
   ·have hq:=hall.1 ht
    rw[en,if_pos (by omega),if_pos ⟨h101,by omega⟩,oi,hq]
   ·have hq:=hall.1 ht
    rw[en,if_pos (by omega)]
    by_cases h48:s.getD 1 0=48
    ·rw[if_neg (by rintro⟨_,e⟩;exact e ⟨by omega,h48⟩),h48];rfl
    ·rw[if_pos ⟨h101,fun e=>h48 e.2⟩,oi,hq]
     have:¬((s.getD 1 0).toNat:Int)=48:=fun e=>h48 (by rw[<-dK];show (s.getD 1 0).toNat=48;omega)
     rw[bne_iff_ne.2 this]
theorem pi{s:List UInt8}{k:Nat}(h:en s=some k):s=uE k/\k<100:=by
 have key1:∀a:Fin 256,gU (aX a.val)=true->yc [aX a.val] 0=some ((aX a.val).toNat-48)/\(aX a.val).toNat-48<10/\[aX a.val]=[aX (48+((aX a.val).toNat-48))]:=by decide +kernel
 unfold en at h
 split at h
 ·rename_i hl
  split at h
  ·rename_i hh
   obtain⟨h0,h1⟩:=hh
   rcases hl with hl|hl
   ·match s,hl with
    |
     [c,a],_ =>
     simp only[bq]at h0
     subst h0
     simp only[List.drop_succ_cons,bO,yc]at h
     split at h
     ·rename_i ha
      have:=key1 ⟨a.toNat,a.toNat_lt⟩ (by simpa using ha)
      simp only[UInt8.ofNat_toNat]at this
      cases h
      refine⟨?_,by omega⟩
      rw[uE,eC (by omega)]
      simp only[Nat.mul_zero,aR]
      rw[<-this.2.2]
     ·cases h
   ·match s,hl with
    |
     [c,a,b],_ =>
     simp only[bq,List.getD_cons_succ,aq,aE,true_and]at h0 h1
     subst h0
     simp only[List.drop_succ_cons,bO,yc]at h
     split at h
     ·rename_i ha
      split at h
      ·rename_i hb
       have k1:=key1 ⟨a.toNat,a.toNat_lt⟩ (by simpa using ha)
       have k2:=key1 ⟨b.toNat,b.toNat_lt⟩ (by simpa using hb)
       simp only[UInt8.ofNat_toNat]at k1 k2
       have ha':48<=a.toNat/\a.toNat<=57:=by simpa[gU]using ha
       have hb':48<=b.toNat/\b.toNat<=57:=by simpa[gU]using hb
       have h48:a.toNat≠48:=fun e=>h1 (by rw[<-dK];simpa using e)
       cases h
       simp only[Nat.mul_zero,aR]
       refine⟨?_,by omega⟩
       rw[uE,fH (by omega),eC (by omega)]
       have e1:(10*(a.toNat-48)+(b.toNat-48))/10=a.toNat-48:=by omega
       have e2:(10*(a.toNat-48)+(b.toNat-48))%10=b.toNat-48:=by omega
       rw[e1,e2,<-k1.2.2,<-k2.2.2];rfl
      ·cases h
     ·cases h
  ·cases h
 ·cases h
theorem qp(k:Nat)(h:k<100):en (uE k)=some k:=by
 have e:∀k,k<100->dd k=if k<10 then [aX (48+k)]else [aX (48+k/10),aX (48+k%10)]:=by
  intro k hk
  by_cases h1:k<10
  ·rw[eC h1,if_pos h1]
  ·rw[fH h1,eC (by omega),if_neg h1];rfl
 have key:∀k:Fin 100,en (101::(if k.val<10 then [aX (48+k.val)]else [aX (48+k.val/10),aX (48+k.val%10)]))=some k.val:=by decide +kernel
 rw[uE,e k h];exact key ⟨k,h⟩
theorem FR(k:Nat)(h:k<100):zZ (uE k)=(k:Int):=by rw[zZ,qp k h]
def xe:E->Bool
 | .atom s=>(s==[117])||(en s).isSome
 | .list [x,a]=>((x.at==[108])||(x.at==[114])||(x.at==[102]))&&xe a
 | .list [x,a,b]=>(x.at==[112])&&(xe a&&xe b)
 | .list _=>false
def fF:E->Option Vl
 | .atom s=>if s=[117]then some .u else match en s with|some k=>some (.el k)|none=>none
 |
  .list [x,a]=>match fF a with
  |none=>none
  |some v=>if x.at=[108]then some (.l v)else if x.at=[114]then some (.r v)else if x.at=[102]then some (.f v)else none
 | .list [x,a,b]=>if x.at=[112]then(match fF a,fF b with|some v,some w=>some (.p v w)|_,_=>none)else none
 | .list _=>none
theorem nA:∀e:E,(fF e).isSome=xe e
 |
  .atom s=>by
  simp only[fF,xe]
  by_cases h:s=[117]
  ·simp[h]
  ·rw[if_neg h];cases en s<;>simp[h]
 | .list []=>rfl
 | .list [_]=>rfl
 |
  .list [x,a]=>by
  have ha:=nA a
  rw[fF,xe,<-ha]
  cases fF a with
  |none=>simp
  |
   some v =>
   by_cases h1:x.at=[108]
   ·simp[h1]
   ·by_cases h2:x.at=[114]
    ·simp[h2]
    ·by_cases h3:x.at=[102]
     ·simp[h3]
     ·simp[h1,h2,h3]
 |
  .list [x,a,b]=>by
  have ha:=nA a
  have hb:=nA b
  rw[fF,xe,<-ha,<-hb]
  by_cases h1:x.at=[112]
  ·rw[if_pos h1,h1];cases fF a<;>cases fF b<;>rfl
  ·simp[h1]
 | .list (_::_::_::_::_)=>rfl
theorem j1{x:E}{w:List UInt8}(h:x.at=w)(hw:w≠[]):x=.atom w:=by
 cases x with
 |atom s=>exact congrArg E.atom h
 |list l=>exact absurd h.symm hw
theorem kL:∀(e:E) (v:Vl),fF e=some v->v.dm=e/\v.iu 100
 |
  .atom s,v,h=>by
  simp only[fF]at h
  split at h
  ·rename_i h1;cases h;exact⟨by rw[h1];rfl,trivial⟩
  ·split at h
   ·rename_i k hk
    cases h
    obtain⟨h1,h2⟩:=pi hk
    exact⟨by rw[h1];rfl,h2⟩
   ·cases h
 | .list [],_,h=>by cases h
 | .list [_],_,h=>by cases h
 | .list (_::_::_::_::_),_,h=>by cases h
 |
  .list [x,a],v,h=>by
  rw[fF]at h
  split at h
  ·cases h
  ·rename_i w hw
   obtain⟨h1,h2⟩:=kL a w hw
   split at h
   ·rename_i hx;cases h;rw[j1 hx (by simp)];exact⟨by rw[Vl.dm,h1],h2⟩
   ·split at h
    ·rename_i hx;cases h;rw[j1 hx (by simp)];exact⟨by rw[Vl.dm,h1],h2⟩
    ·split at h
     ·rename_i hx;cases h;rw[j1 hx (by simp)];exact⟨by rw[Vl.dm,h1],h2⟩
     ·cases h
 |
  .list [x,a,b],v,h=>by
  rw[fF]at h
  split at h
  ·rename_i hx
   split at h
   ·rename_i w1 w2 hw1 hw2
    cases h
    obtain⟨h1,h2⟩:=kL a w1 hw1
    obtain⟨h3,h4⟩:=kL b w2 hw2
    rw[j1 hx (by simp)]
    exact⟨by rw[Vl.dm,h1,h3],h2,h4⟩
   ·cases h
  ·cases h
def pI(e:E)(w:List UInt8)(k:Nat):Bool:=match e with| .list (x::l)=>decide (l.length+1=k)&&(x.at==w)|_=>false
theorem sF(e:E)(w:List UInt8)(k:Nat)(hk:1<=k):az Tryz.prog 149 [e.dQ,.v (.string (mk w)),.v (.int .i64 (k:Int))] [] (bG (.v (.bool (pI e w k)))):=by
 refine KE _ _ _ ((cB e).mpr trivial) ?_
 cases e with
 |atom s=>simp only[At,E.dQ,↓zq,zs,af,zt,bG,pI];exact⟨by omega,fun h=>by omega,fun _=>trivial⟩
 |
  list l =>
  simp only[At,E.dQ,↓zq,zs,af,zt,bG,qP]
  cases l with
  |nil=>exact⟨by simp,fun h=>by simp at h;omega,fun _=>rfl⟩
  |
   cons x l =>
   simp only[aq]
   refine⟨by simp,fun h=>?_,fun h=>?_⟩
   ·have:decide (l.length+1=k)=true:=by rw[decide_eq_true_eq];omega
    simp only[pI,this]
    cases x<;>simp[E.lM,E.dQ,cC,pn,jv,dC,tC,toList_mk,E.at]
   ·have:decide (l.length+1=k)=false:=by rw[decide_eq_false_iff_not];omega
    simp only[pI,this];rfl
def ij:Option Vl->AV
 |some v=>v.dQ
 |none=>.v (.pointer none)
end Go.Proofs.Trees
namespace Go.Proofs.Trees
open Go Go.VL Go.RowKit
theorem fy(v:Option Vl):LK.has .ptr (ij v)=True:=by cases v<;>simp[ij,bo,iM]
theorem yx:∀(e:E),e.ok->az Tryz.prog 104 [e.dQ] [] (bG (ij (fF e)))
 |
  .atom s,hok=>by
  refine J7 _ ((cB _).mpr trivial) ?_
  have hd:=mV (.atom s)
  have hlen:=kP (.atom s)
  simp only[E.at]at hd
  simp only[En,↓zq,zs,af,zt,bG,cB,ef,hd,fF]
  refine⟨hlen,fun h=>?_,fun h=>⟨hlen,?_⟩⟩
  ·rw[if_pos h];rfl
  ·rw[if_neg h]
   refine aj (KF s) ?_
   simp only[↓zq,zs,af,zt]
   refine⟨fun he=>⟨hlen,?_⟩,fun he=>?_⟩
   ·obtain⟨k,hk⟩:=bi.1 he
    obtain⟨h1,h2⟩:=pi hk
    rw[hk,h1];rfl
   ·have hn:en s=none:=by cases hq:en s<;>simp[hq]at he |-
    rw[hn]
    refine aj (sF (.atom s) [108] 2 (by omega)) ?_
    simp only[pI,↓zq,zs,af,zf]
    refine⟨fun h=>(by cases h),fun _=>aj (sF (.atom s) [114] 2 (by omega)) ?_⟩
    simp only[pI,↓zq,zs,af,zf]
    refine⟨fun h=>(by cases h),fun _=>aj (sF (.atom s) [102] 2 (by omega)) ?_⟩
    simp only[pI,↓zq,zs,af,zf]
    refine⟨fun h=>(by cases h),fun _=>aj (sF (.atom s) [112] 3 (by omega)) ?_⟩
    simp only[pI,↓zq,zs,af,zf]
    exact⟨fun h=>(by cases h),fun _=>rfl⟩
 |
  .list l,hok=>by
  refine J7 _ ((cB _).mpr trivial) ?_
  have hd:=mV (.list l)
  have hlen:=kP (.list l)
  have hlen2:∀{l:List E},((AV.v (.string (mk [])))::[AV.sl (E.lM l)]).length=2:=rfl
  simp only[E.at]at hd
  have he:en []=none:=rfl
  simp only[En,↓zq,zs,af,zt,bG,cB,ef,hd]
  refine⟨hlen,fun h=>(by cases h),fun h=>⟨hlen,?_⟩⟩
  refine aj (KF []) ?_
  rw[he]
  simp only[↓zq,zs,af,zt,zf,ck]
  refine⟨fun h=>(by cases h),fun _=>aj (sF (.list l) [108] 2 (by omega)) ?_⟩
  have hno:∀w:List UInt8,(∀x a,l≠[x,a])->pI (.list l) w 2=false:=by
   intro w h2
   match l,h2 with
   |[],_=>rfl
   |[x],_=>rfl
   |[x,a],h2=>exact absurd rfl (h2 x a)
   |x::y::z::l,_=>simp[pI]
  match l,hok,hno,hlen with
  |
   [x,a],hok,hno,hlen =>
   clear hno
   obtain⟨ok1,ok2,_⟩:=hok
   have e2:∀w:List UInt8,pI (.list [x,a]) w 2=(x.at==w):=fun w=>rfl
   have e3:pI (.list [x,a]) [112] 3=false:=rfl
   have hx:=mV x
   have hxl:=kP x
   rw[fF]
   simp only[e2,↓zq,zs,af]
   refine⟨fun h1=>?_,fun h1=>aj (sF (.list [x,a]) [114] 2 (by omega)) ?_⟩
   ·simp only[E.dQ,E.lM,toNat_one,↓zq,zs,af,zt,cB,ef]
    refine⟨by omega,by omega,by omega,aj (yx a ok2) ?_⟩
    cases hv:fF a with
    |none=>simp only[ij,↓zq,zs,af,fy];exact⟨fun _=>trivial,fun h=>(by cases h)⟩
    |
     some v =>
     simp only[ij,↓zq,zs,af,zt,bo,eM,hx,h1,cB,ef]
     refine⟨fun h=>(by cases h),fun _=>⟨by omega,by omega,by omega,hxl,by simp,?_⟩⟩
     rfl
   ·simp only[e2,↓zq,zs,af]
    refine⟨fun h2=>?_,fun h2=>aj (sF (.list [x,a]) [102] 2 (by omega)) ?_⟩
    ·simp only[E.dQ,E.lM,toNat_one,↓zq,zs,af,zt,cB,ef]
     refine⟨by omega,by omega,by omega,aj (yx a ok2) ?_⟩
     cases hv:fF a with
     |none=>simp only[ij,↓zq,zs,af,fy];exact⟨fun _=>trivial,fun h=>(by cases h)⟩
     |
      some v =>
      simp only[ij,↓zq,zs,af,zt,bo,eM,hx,h2,cB,ef]
      refine⟨fun h=>(by cases h),fun _=>⟨by omega,by omega,by omega,hxl,by simp,?_⟩⟩
      rfl
    ·simp only[e2,↓zq,zs,af]
     refine⟨fun h3=>?_,fun h3=>aj (sF (.list [x,a]) [112] 3 (by omega)) ?_⟩
     ·simp only[E.dQ,E.lM,toNat_one,↓zq,zs,af,zt,cB,ef]
      refine⟨by omega,by omega,by omega,aj (yx a ok2) ?_⟩
      cases hv:fF a with
      |none=>simp only[ij,↓zq,zs,af,fy];exact⟨fun _=>trivial,fun h=>(by cases h)⟩
      |
       some v =>
       simp only[ij,↓zq,zs,af,zt,bo,eM,hx,h3,cB,ef]
       refine⟨fun h=>(by cases h),fun _=>⟨by omega,by omega,by omega,hxl,by simp,?_⟩⟩
       rfl
     ·rw[e3]
      simp only[↓zq,zs,af]
      refine⟨fun h=>(by cases h),fun _=>?_⟩
      cases fF a with
      |none=>rfl
      |some v=>simp only[if_neg h1,if_neg h2,if_neg h3];rfl
  |
   [x,a,b],hok,hno,hlen =>
   obtain⟨ok1,ok2,ok3,_⟩:=hok
   have h2:=fun w=>hno w (fun x a h=>(by cases h))
   rw[h2]
   simp only[↓zq,zs,af]
   refine⟨fun h=>(by cases h),fun _=>aj (sF (.list [x,a,b]) [114] 2 (by omega)) ?_⟩
   rw[h2]
   simp only[↓zq,zs,af]
   refine⟨fun h=>(by cases h),fun _=>aj (sF (.list [x,a,b]) [102] 2 (by omega)) ?_⟩
   rw[h2]
   simp only[↓zq,zs,af]
   refine⟨fun h=>(by cases h),fun _=>aj (sF (.list [x,a,b]) [112] 3 (by omega)) ?_⟩
   have e3:pI (.list [x,a,b]) [112] 3=(x.at==[112]):=rfl
   rw[e3,fF]
   simp only[↓zq,zs,af]
   refine⟨fun h1=>?_,fun h1=>?_⟩
   ·rw[if_pos h1]
    simp only[E.dQ,E.lM,toNat_one,bf,↓zq,zs,af,zt,cB,ef]
    refine⟨by omega,by omega,by omega,aj (yx a ok2) ?_⟩
    simp only[↓zq,zs,af,fy,cB]
    refine⟨by omega,by omega,by omega,aj (yx b ok3) ?_⟩
    cases hv:fF a with
    |none=>cases hw:fF b<;>simp only[ij,↓zq,zs,af,fy,bo]<;>exact⟨fun _=>trivial,fun h=>(by cases h)⟩
    |
     some v =>
     cases hw:fF b with
     |
      none =>
      simp only[ij,↓zq,zs,af,fy,bo,eM]
      exact⟨fun h=>(by cases h),fun _=>⟨fun _=>trivial,fun h=>(by cases h)⟩⟩
     |
      some w =>
      simp only[ij,↓zq,zs,af,bo,eM]
      refine⟨fun h=>(by cases h),fun _=>⟨fun h=>(by cases h),fun _=>?_⟩⟩
      refine aj (E1 _ _ ((bo _).mpr trivial) ((bo _).mpr trivial)) ?_
      simp only[↓zq,zs,af];rfl
   ·rw[if_neg h1];rfl
  |
   [],hok,hno,hlen =>
   have h2:=fun w=>hno w (fun x a h=>(by cases h))
   have e3:pI (.list []) [112] 3=false:=rfl
   rw[h2]
   simp only[↓zq,zs,af]
   refine⟨fun h=>(by cases h),fun _=>aj (sF (.list []) [114] 2 (by omega)) ?_⟩
   rw[h2]
   simp only[↓zq,zs,af]
   refine⟨fun h=>(by cases h),fun _=>aj (sF (.list []) [102] 2 (by omega)) ?_⟩
   rw[h2]
   simp only[↓zq,zs,af]
   refine⟨fun h=>(by cases h),fun _=>aj (sF (.list []) [112] 3 (by omega)) ?_⟩
   rw[e3]
   simp only[↓zq,zs,af]
   exact⟨fun h=>(by cases h),fun _=>rfl⟩
  |
   [x],hok,hno,hlen =>
   have h2:=fun w=>hno w (fun x a h=>(by cases h))
   have e3:pI (.list [x]) [112] 3=false:=rfl
   rw[h2]
   simp only[↓zq,zs,af]
   refine⟨fun h=>(by cases h),fun _=>aj (sF (.list [x]) [114] 2 (by omega)) ?_⟩
   rw[h2]
   simp only[↓zq,zs,af]
   refine⟨fun h=>(by cases h),fun _=>aj (sF (.list [x]) [102] 2 (by omega)) ?_⟩
   rw[h2]
   simp only[↓zq,zs,af]
   refine⟨fun h=>(by cases h),fun _=>aj (sF (.list [x]) [112] 3 (by omega)) ?_⟩
   rw[e3]
   simp only[↓zq,zs,af]
   exact⟨fun h=>(by cases h),fun _=>rfl⟩
  |
   x::y::z::w::l,hok,hno,hlen =>
   have h2:=fun w=>hno w (fun x a h=>(by cases h))
   have e3:pI (.list (x::y::z::w::l)) [112] 3=false:=by simp[pI]
   rw[h2]
   simp only[↓zq,zs,af]
   refine⟨fun h=>(by cases h),fun _=>aj (sF (.list (x::y::z::w::l)) [114] 2 (by omega)) ?_⟩
   rw[h2]
   simp only[↓zq,zs,af]
   refine⟨fun h=>(by cases h),fun _=>aj (sF (.list (x::y::z::w::l)) [102] 2 (by omega)) ?_⟩
   rw[h2]
   simp only[↓zq,zs,af]
   refine⟨fun h=>(by cases h),fun _=>aj (sF (.list (x::y::z::w::l)) [112] 3 (by omega)) ?_⟩
   rw[e3]
   simp only[↓zq,zs,af]
   exact⟨fun h=>(by cases h),fun _=>rfl⟩
def pE(s:List UInt8):Option Vl:=match qj s with
 |none=>none
 |
  some e=>match fF e with
  |none=>none
  |some v=>if v.nodes>200 then none else some v
theorem gF{s:List UInt8}{v:Vl}(h:pE s=some v):qj s=some v.dm/\v.iu 100/\v.nodes<=200:=by
 unfold pE at h
 split at h
 ·cases h
 ·rename_i e he
  split at h
  ·cases h
  ·rename_i w hw
   split at h
   ·cases h
   ·cases h
    obtain⟨h1,h2⟩:=kL e _ hw
    rw[h1]
    exact⟨he,h2,by omega⟩
theorem vX{e:E}{v:Vl}(h:fF e=some v):v.nodes<=e.sz:=by
 obtain⟨h1,_⟩:=kL e v h
 rw[<-mY,h1];exact Ay e
theorem FL(s:List UInt8):az Tryz.prog 48 [.v (.string (mk s))] [] (bG (ij (pE s))):=by
 refine Mq _ ?_
 unfold J2
 refine aj (Hm s) ?_
 unfold pE
 cases he:qj s with
 |none=>simp only[tz,↓zq,zs,af,bG,ij];simp
 |
  some e =>
  obtain⟨h1,h2⟩:=mZ he
  simp only[tz,↓zq,zs,af,cB,ef]
  refine⟨fun h=>(by cases h),fun _=>?_⟩
  refine aj (yx e h1) ?_
  cases hv:fF e with
  |none=>simp only[ij,↓zq,zs,af,bG];simp
  |
   some v =>
   have hn:=vX hv
   simp only[ij,↓zq,zs,af,bo,eM]
   refine⟨fun h=>(by cases h),fun _=>?_⟩
   refine aj (DF v (by omega)) ?_
   simp only[↓zq,zs,af,bG]
   refine⟨fun h=>?_,fun h=>?_⟩
   ·rw[if_pos (by omega)]
   ·rw[if_neg (by omega)]
theorem yB:∀(e:E),e.ok->az Tryz.prog 85 [e.ka] [] (bG (.v (.bool (xe e))))
 |
  .atom s,hok=>by
  refine yo _ _ ((bm).mpr trivial) ?_
  have hne:s≠[]:=hok
  simp only[wD,↓zq,zs,af,zt,bG,xe]
  refine⟨fun _=>⟨fun h=>?_,fun h=>?_⟩,fun h=>absurd h hne⟩
  ·simp[h]
  ·refine aj (HU s) ?_
   have h':(s==[117])=false:=by simpa using h
   simp only[↓zq,zs,af,h',Bool.false_or]
   congr 2
   rw[zZ]
   cases en s with
   |none=>rfl
   |some k=>simp
 |
  .list [],hok=>by
  refine yo _ _ ((bZ _).mpr trivial) ?_
  simp only[wD,↓zq,zs,af,zt,bG,xe]
  refine⟨fun h=>absurd rfl h,fun _=>?_⟩
  refine aj Lz ?_
  simp[↓zq,zs,af,zt]
 |
  .list [x],hok=>by
  refine yo _ _ ((bZ _).mpr trivial) ?_
  simp only[wD,↓zq,zs,af,zt,bG,xe]
  refine⟨fun h=>absurd rfl h,fun _=>?_⟩
  refine aj (wP x _) ?_
  simp[↓zq,zs,af,zt,E.bb]
 |
  .list (x::y::z::w::l),hok=>by
  refine yo _ _ ((bZ _).mpr trivial) ?_
  simp only[wD,↓zq,zs,af,zt,bG,xe]
  refine⟨fun h=>absurd rfl h,fun _=>?_⟩
  refine aj (wP x _) ?_
  simp only[↓zq,zs,af,zt,E.bb]
  refine⟨fun _=>⟨fun h=>by omega,fun _=>trivial⟩,fun _=>⟨fun _=>⟨fun h=>by omega,fun _=>trivial⟩,fun _=>⟨fun _=>⟨fun h=>by omega,fun _=>trivial⟩,fun _=>⟨fun _=>⟨fun h=>by omega,fun _=>trivial⟩,fun _=>trivial⟩⟩⟩⟩
 |
  .list [x,a],hok=>by
  refine yo _ _ ((bZ _).mpr trivial) ?_
  obtain⟨ok1,ok2,_⟩:=hok
  simp only[wD,↓zq,zs,af,zt,bG,xe]
  refine⟨fun h=>absurd rfl h,fun _=>?_⟩
  refine aj (wP x _) ?_
  simp only[E.bb,toNat_one,bf,↓zq,zs,af,zt,iD,gf,iI,l7,ap]
  refine⟨fun h=>⟨fun _=>⟨by omega,?_⟩,fun h=>by omega⟩,fun h1=>⟨fun h=>⟨fun _=>⟨by omega,?_⟩,fun h=>by omega⟩,fun h2=>⟨fun h=>⟨fun _=>⟨by omega,?_⟩,fun h=>by omega⟩,fun h3=>⟨fun h=>⟨fun h=>by omega,fun _=>?_⟩,fun h=>?_⟩⟩⟩⟩
  ·refine aj (yB a ok2) ?_
   simp[↓zq,zs,af,h]
  ·refine aj (yB a ok2) ?_
   simp[↓zq,zs,af,h]
  ·refine aj (yB a ok2) ?_
   simp[↓zq,zs,af,h]
  ·simp[h]
  ·simp[h1,h2,h3]
 |
  .list [x,a,b],hok=>by
  refine yo _ _ ((bZ _).mpr trivial) ?_
  obtain⟨ok1,ok2,ok3,_⟩:=hok
  simp only[wD,↓zq,zs,af,zt,bG,xe]
  refine⟨fun h=>absurd rfl h,fun _=>?_⟩
  refine aj (wP x _) ?_
  simp only[E.bb,toNat_one,bf,↓zq,zs,af,zt,iD,gf,iI,l7,ap]
  refine⟨fun h=>⟨fun h=>by omega,fun _=>?_⟩,fun h1=>⟨fun h=>⟨fun h=>by omega,fun _=>?_⟩,fun h2=>⟨fun h=>⟨fun h=>by omega,fun _=>?_⟩,fun h3=>⟨fun h=>⟨fun _=>⟨by omega,?_⟩,fun h=>by omega⟩,fun h=>?_⟩⟩⟩⟩
  ·simp[h]
  ·simp[h]
  ·simp[h]
  ·refine aj (yB a ok2) ?_
   simp only[↓zq,zs,af,h]
   refine⟨fun ha=>⟨by omega,aj (yB b ok3) ?_⟩,fun ha=>?_⟩
   ·simp[↓zq,zs,af,ha]
   ·simp[ha]
  ·simp[h]
theorem IR(s:List UInt8):az Tryz.prog 37 [.v (.string (mk s))] [] (mo ((pE s).map Vl.dm) (pE s).isSome):=by
 refine K1 _ ?_
 unfold JV
 refine aM (G1 s) (mo.ne _ _ (fun h=>h)) ?_
 rintro r o ⟨c,d,hd,rfl,hh⟩
 simp only[↓zq,zs,af,zt,bT,pE]
 refine⟨hd,fun h=>?_,fun h=>?_⟩
 ·obtain⟨e,he,hce⟩:=hh h
  obtain⟨hok,hsz⟩:=mZ he
  rw[he,hce]
  refine aj (yB e hok) ?_
  simp only[↓zq,zs,af]
  have hs:=nA e
  refine⟨fun hi=>?_,fun hi=>?_⟩
  ·rw[hi]at hs
   obtain⟨v,hv⟩:=bi.1 hs
   obtain⟨h1,h2⟩:=kL e v hv
   refine aj (L0 e (by omega)) ?_
   simp only[↓zq,zs,af,hv]
   have hnd:e.nd=v.nodes:=by rw[<-h1,mY]
   rw[hnd]
   refine⟨c,d,hd,?_,?_⟩
   ·rw[hce]
    by_cases h4:v.nodes>200
    ·rw[if_pos h4];exact congrArg (fun b=>AV.cx [e.ka,.v (.bool b)]) (decide_eq_false (show ¬((v.nodes:Nat):Int)<=200 by omega))
    ·rw[if_neg h4];exact congrArg (fun b=>AV.cx [e.ka,.v (.bool b)]) (decide_eq_true (show ((v.nodes:Nat):Int)<=200 by omega))
   ·split
    ·exact fun h=>by cases h
    ·exact fun _=>⟨e,by simp[h1],hce⟩
  ·rw[hi]at hs
   have hn:fF e=none:=by cases hq:fF e<;>simp[hq]at hs |-
   rw[hn]
   exact⟨c,d,hd,by rw[hce];rfl,fun h=>by cases h⟩
 ·have hn:qj s=none:=by cases hq:qj s<;>simp[hq]at h |-
  rw[hn]
  exact⟨c,d,hd,rfl,fun h=>by cases h⟩
end Go.Proofs.Trees
namespace Go.Proofs.Trees
open Go Go.VL Go.RowKit
inductive Fr where
 |mk (s:List UInt8) (e:E) (o:List Fr)
def Fr.nm:Fr->List UInt8| .mk s _ _=>s
def Fr.ex:Fr->E| .mk _ e _=>e
def Fr.out:Fr->List Fr| .mk _ _ o=>o
def names:List Fr->List (List UInt8)
 |[]=>[]
 |f::r=>names r++[f.nm]
def xE(e:E)(o:List Fr):Ty:=(cy e (names o)).getD .zero
def E.sp:E->AV
 | .atom _=>.v (.slice none 0 0)
 | .list l=>.sl (E.bb l)
theorem fE(e:E):e.gX=[.v (.string (mk e.at)),e.sp]:=by cases e<;>rfl
theorem dU(e:E):e.ka=.agg [.v (.string (mk e.at)),e.sp]:=by cases e<;>rfl
theorem aV(e:E):LK.has .sl e.sp=True:=by cases e<;>simp[E.sp,bm,bZ]
mutual
def Fr.cells:Fr->List AV
 | .mk s e o=>[.v (.string (mk s)),.v (.string (mk e.at)),e.sp,.sl (jT o)]
def jT:List Fr->List (List AV)
 |[]=>[]
 |f::r=>jT r++[f.cells]
end
mutual
def Fr.dQ:Fr->AV
 | .mk s e o=>.ptr [(xE e o).av,nP o]
def nP:List Fr->AV
 |[]=>mb
 |f::r=>.ptr [f.dQ,nP r]
end
inductive WF:List Fr->Prop
 |nil:WF []
 |cons {s:List UInt8} {x a b:E} {t:Ty} {r:List Fr} (hs:cQ s=true) (hok:(E.list [x,a,b]).ok) (hx:x.at=[114,101,99]) (ht:cy (.list [x,a,b]) (names r)=some t) (hf:bH t=false) (hr:WF r):WF (.mk s (.list [x,a,b]) r::r)
theorem kA:∀env:List Fr,(jT env).length=env.length
 |[]=>rfl
 |f::r=>by simp[jT,kA r]
theorem ek(env:List Fr):LK.has .ptr (nP env)=True:=by cases env<;>simp[nP,iM,cC]
theorem zR(f:Fr):LK.has .ptr f.dQ=True:=by cases f;simp[Fr.dQ,cC]
def fQ(s:List UInt8):List Fr->Option Fr
 |[]=>none
 |f::r=>if f.nm=s then some f else fQ s r
def hd(e:E)(env:List Fr):E×List Fr:=match fQ e.at env with|some f=>(f.ex,f.out)|none=>(e,env)
theorem mA{env:List Fr}(h:WF env):fQ [] env=none:=by
 induction h with
 |nil=>rfl
 |
  @cons s x a b t r hs hok hx ht hf hr ih =>
  rw[fQ,if_neg (show ¬(Fr.mk s (.list [x,a,b]) r).nm=[] from Ar hs)];exact ih
theorem yK{env:List Fr}(h:WF env){s:List UInt8}{f:Fr}(hf:fQ s env=some f):cQ s=true:=by
 induction h with
 |nil=>cases hf
 |
  cons hs hok hx ht hf' hr ih =>
  rw[fQ]at hf
  split at hf
  ·rename_i e;exact e ▸ hs
  ·exact ih hf
theorem nE{env:List Fr}(h:WF env){s:List UInt8}{f:Fr}(hf:fQ s env=some f):∃x a b t,f.ex=.list [x,a,b]/\(E.list [x,a,b]).ok/\x.at=[114,101,99]/\cy f.ex (names f.out)=some t/\bH t=false/\WF f.out/\f.out.length<env.length:=by
 induction h with
 |nil=>cases hf
 |
  cons hs hok hx ht hf' hr ih =>
  rw[fQ]at hf
  split at hf
  ·cases hf;exact⟨_,_,_,_,rfl,hok,hx,ht,hf',hr,by simp[Fr.out]⟩
  ·obtain⟨x,a,b,t,h1,h2,h3,h4,h5,h6,h7⟩:=ih hf
   exact⟨x,a,b,t,h1,h2,h3,h4,h5,h6,by simp;omega⟩
theorem j0(s w:List UInt8)(ar:List (List UInt8)):∀i,i<=ar.length->bx s (ar++[w]) i=(bx s ar i).map (·+1)
 |0,_=>rfl
 |
  i+1,hi=>by
  have hlt:i<ar.length:=by omega
  have e:(ar++[w]).getD i []=ar.getD i []:=by simp[aa,List.getElem?_append_left hlt]
  rw[bx,bx,e,j0 s w ar i (by omega)]
  split
  ·simp only[an,aq,aE,cg,Option.some.injEq];omega
  ·rfl
theorem ui(s:List UInt8)(f:Fr)(r:List Fr):bx s (names (f::r)) (names (f::r)).length=if f.nm=s then some 0 else(bx s (names r) (names r).length).map (·+1):=by
 have e:(names (f::r)).length=(names r).length+1:=by simp[names]
 rw[e,bx]
 have e2:(names (f::r)).getD (names r).length []=f.nm:=by simp[names,aa]
 rw[e2]
 split
 ·rw[e];simp
 ·rw[names,j0 _ _ _ _ (ap _)]
theorem ol(s:List UInt8):∀env:List Fr,bx s (names env) (names env).length=none/\fQ s env=none\/∃(u:Nat) (f:Fr),bx s (names env) (names env).length=some u/\fQ s env=some f/\env[u]?=some f
 |[]=>.inl ⟨rfl,rfl⟩
 |
  f::r=>by
  rw[ui,fQ]
  split
  ·exact .inr ⟨0,f,rfl,rfl,rfl⟩
  ·rcases ol s r with⟨h1,h2⟩|⟨u,g,h1,h2,h3⟩
   ·exact .inl ⟨by rw[h1];rfl,h2⟩
   ·exact .inr ⟨u+1,g,by rw[h1];rfl,h2,by simpa using h3⟩
def Ty.KJ:Ty->Bool
 | .bA _=>true
 |_=>false
theorem mw{e:E}{env:List Fr}{t:Ty}(hw:WF env)(ht:cy e (names env)=some t) :
 (t.KJ=false/\fQ e.at env=none)\/∃(u:Nat) (f:Fr),t=.bA u/\fQ e.at env=some f/\env[u]?=some f:=by
 cases e with
 |
  list l =>
  left
  refine⟨?_,mA hw⟩
  match l,ht with
  |
   [x,a,b],ht =>
   by_cases h0:x.at=[43]
   ·obtain⟨t1,t2,_,_,rfl⟩:=fB h0 ht;rfl
   ·by_cases h1:x.at=[42]
    ·obtain⟨t1,t2,_,_,rfl⟩:=eY h1 ht;rfl
    ·by_cases h2:x.at=[114,101,99]
     ·obtain⟨t1,_,_,rfl⟩:=dj h2 ht;rfl
     ·rw[iN _ h0 h1 h2]at ht;cases ht
  |[],ht=>cases ht
  |[_],ht=>cases ht
  |[_,_],ht=>cases ht
  |_::_::_::_::_,ht=>cases ht
 |
  atom s =>
  simp only[cy]at ht
  have hno:cQ s=false->fQ s env=none:=fun h=>by
   cases hq:fQ s env with
   |none=>rfl
   |some f=>rw[yK hw hq]at h;cases h
  split at ht
  ·rename_i h;cases ht;subst h;exact .inl ⟨rfl,hno rfl⟩
  ·split at ht
   ·rename_i h;cases ht;subst h;exact .inl ⟨rfl,hno rfl⟩
   ·split at ht
    ·rename_i h
     cases ht
     refine .inl ⟨rfl,hno ?_⟩
     cases hq:cQ s with
     |false=>rfl
     |
      true =>
      obtain⟨c,r,rfl,h1,h2⟩:=k8 h
      obtain⟨c',r',he,h3,h4⟩:=k8 hq
      cases he;omega
    ·split at ht
     ·rcases ol s env with⟨h1,h2⟩|⟨u,f,h1,h2,h3⟩
      ·rw[h1]at ht;cases ht;exact .inl ⟨rfl,h2⟩
      ·rw[h1]at ht;cases ht;exact .inr ⟨u,f,rfl,h2,h3⟩
     ·cases ht
def fS(n:Nat):Vl->E×List Fr->Bool
 | .u,p=>match hd p.1 p.2 with|(.atom s,_)=>s==[49]|_=>false
 | .el k,p=>match hd p.1 p.2 with|(.atom s,_)=>!(s==[49])&&(ff s&&decide (k<n))|_=>false
 | .l w,p=>match hd p.1 p.2 with|(.list [x,a,b],o)=>(x.at==[43])&&fS n w (a,o)|_=>false
 | .r w,p=>match hd p.1 p.2 with|(.list [x,a,b],o)=>(x.at==[43])&&fS n w (b,o)|_=>false
 | .f w,p=>match hd p.1 p.2 with|(.list [x,a,b],o)=>(x.at==[114,101,99])&&fS n w (b,.mk a.at (.list [x,a,b]) o::o)|_=>false
 | .p v w,p=>match hd p.1 p.2 with|(.list [x,a,b],o)=>(x.at==[42])&&(fS n v (a,o)&&fS n w (b,o))|_=>false
theorem kW{e:E}{env:List Fr}(h:fQ e.at env=none):hd e env=(e,env):=by rw[hd,h]
theorem ql{e:E}{env:List Fr}{f:Fr}(h:fQ e.at env=some f):hd e env=(f.ex,f.out):=by rw[hd,h]
theorem rB{x a b:E}{o:List Fr}(h:WF o):hd (.list [x,a,b]) o=(.list [x,a,b],o):=kW (mA h)
theorem tS(n:Nat)(v:Vl){e e':E}{env o:List Fr}(h:hd e env=(e',o))(h':hd e' o=(e',o)):fS n v (e,env)=fS n v (e',o):=by
 cases v<;>simp only[fS,h,h']
theorem ky{x a b:E}{env:List Fr}{t:Ty}(hw:WF env)(hok:(E.list [x,a,b]).ok)(hx:x.at=[114,101,99])(ht:cy (.list [x,a,b]) (names env)=some t)(hf:bH t=false) :
 ∃t1,t=.rc t1/\cy b (names (.mk a.at (.list [x,a,b]) env::env))=some t1/\bH t1=false/\WF (.mk a.at (.list [x,a,b]) env::env):=by
 obtain⟨t1,hl,h1,rfl⟩:=dj hx ht
 exact⟨t1,rfl,h1,hf,.cons hl hok hx ht hf hw⟩
theorem BH(a b env:AV)(n:Int)(s:ByteArray)(u:Int)(ha:LK.ptr.has a)(he:LK.ptr.has env):az Tryz.prog 105 [.agg [.ptr [.v (.int .u8 n),.v (.string s),.v (.int .i64 u),a,b],env]] [] (bG (.agg [a,env])):=by
 refine Ls _ _ ((cC _).mpr trivial) he ?_
 simp only[JH,↓zq,zs,af,bG]
 exact⟨ha,by omega⟩
theorem BB(a b env:AV)(n:Int)(s:ByteArray)(u:Int)(hb:LK.ptr.has b)(he:LK.ptr.has env):az Tryz.prog 106 [.agg [.ptr [.v (.int .u8 n),.v (.string s),.v (.int .i64 u),a,b],env]] [] (bG (.agg [b,env])):=by
 refine M5 _ _ ((cC _).mpr trivial) he ?_
 simp only[Jz,↓zq,zs,af,bG]
 exact⟨hb,by omega⟩
theorem Nq(t:Ty)(env:List Fr)(s:List UInt8)(e:E)(ht:xE e env=.rc t):az Tryz.prog 107 [.agg [(Ty.rc t).av,nP env]] [] (bG (.cx [.agg [t.av,nP (.mk s e env::env)],(Fr.mk s e env).dQ])):=by
 refine Lm _ _ ((aG _).mpr trivial) ((ek _).mpr trivial) ?_
 simp only[Ko,Ty.av,↓zq,zs,af,aG,bG,nP,Fr.dQ,ht]
 omega
theorem rP(env:List Fr)(i:Nat)(f:Fr)(h:env[i]?=some f):nP (env.drop i)=.ptr [f.dQ,nP (env.drop (i+1))]:=by
 obtain⟨hlt,he⟩:=List.getElem?_eq_some_iff.1 h
 rw[ba hlt,he,nP]
theorem Kb(env:List Fr)(u:Nat)(hu:u<env.length)(hl:env.length<1000000):∀(k i:Nat),i+k=u->Fe [nP (env.drop i),.v (.int .i64 (u:Int)),.v (.int .i64 (i:Int))] [] (ki 1 [nP (env.drop u)] [])
 |
  0,i,hi=>by
  refine Hc _ _ _ ?_
  have:i=u:=by omega
  subst this
  simp only[FT,↓zq,zs,af,ek]
  exact⟨fun h=>by omega,fun _=>by simp[ki]⟩
 |
  k+1,i,hi=>by
  refine Hc _ _ _ ?_
  have hlt:i<env.length:=by omega
  have hg:env[i]?=some env[i]:=bc hlt
  have hd:=rP env i _ hg
  rw[hd]
  simp only[FT,↓zq,zs,af,ek]
  refine⟨fun _=>⟨by omega,?_⟩,fun h=>by omega⟩
  rw[bS i (by omega)]
  exact Kb env u hu hl k (i+1) (by omega)
theorem KX(env:List Fr)(u:Nat)(f:Fr)(hf:env[u]?=some f)(hl:env.length<1000000):az Tryz.prog 133 [.agg [(Ty.bA u).av,nP env]] [] (bG f.dQ):=by
 refine L7 _ _ ((aG _).mpr trivial) ((ek _).mpr trivial) ?_
 obtain⟨hlt,he⟩:=List.getElem?_eq_some_iff.1 hf
 simp only[HM,Ty.av,↓zq,zs,af]
 refine⟨by omega,?_⟩
 have h:=Kb env u hlt hl u 0 (by omega)
 simp only[bO]at h
 refine df h ?_
 rw[rP env u f hf]
 simp only[↓zq,zs,af,zR,bG]
 omega
theorem BW(k:Nat)(h:k<100):Lib.atoi (dd k)=some (k:Int):=by
 have e:∀k,k<100->dd k=if k<10 then [aX (48+k)]else [aX (48+k/10),aX (48+k%10)]:=by
  intro k hk
  by_cases h1:k<10
  ·rw[eC h1,if_pos h1]
  ·rw[fH h1,eC (by omega),if_neg h1];rfl
 have key:∀k:Fin 100,Lib.atoi (if k.val<10 then [aX (48+k.val)]else [aX (48+k.val/10),aX (48+k.val%10)])=some (k.val:Int):=by decide +kernel
 rw[e k h];exact key ⟨k,h⟩
theorem Lj(k:Nat)(hk:k<100):az Tryz.prog 81 [.v (.string (mk (dd k)))] [] (bG (.cx [.v (.int .i64 (k:Int)),.v .nilIface])):=by
 have hl:=mq 1000 k (by omega)
 have hl2:(dd k).length<=18:=by
  have e:(dd k).length<=2:=by
   by_cases h1:k<10
   ·rw[eC h1];simp
   ·rw[fH h1,eC (by omega)];simp
  omega
 refine az.LC (xs:=[.string (mk (dd k))]) (v:=.tuple #[.int .i64 (k:Int),.nilIface]) ⟨pZ,by kernel_rfl,by kernel_rfl,by kernel_rfl⟩ (fun M=>?_) fun w=>?_
 ·refine bp.cx _ _ [.int .i64 (k:Int),.nilIface] rfl fun i hi=>?_
  match i,hi with
  |0,_=>exact .v _ _
  |1,_=>exact .v _ _
 ·have:=Any.strconv_Atoi Tryz.Cd (mk (dd k)) (k:Int) (by rw[cO];exact hl2) (by
   have:(mk (dd k)).data.toList=dd k:=by simp[mk]
   rw[this];exact BW k hk) w
  refine Calls.mono this fun e w' ⟨h1,t,h2⟩=>⟨h1,?_⟩
  subst h2
  refine⟨rfl,rfl,rfl,?_,fun b hb=>Lib.bytesWorld_at_old _ _ _ _ hb⟩
  simp[Lib.bytesWorld,World.freeze]
end Go.Proofs.Trees
namespace Go.Proofs.Trees
open Go Go.VL Go.RowKit
theorem hJ{a b:Ty}(h:bH (.plus a b)=false):bH a=false/\bH b=false:=by simpa[bH]using h
theorem gl{a b:Ty}(h:bH (.times a b)=false):bH a=false/\bH b=false:=by simpa[bH]using h
theorem jx{e:E}{ar:List (List UInt8)}{t:Ty}(ht:cy e ar=some t)(hb:t.KJ=false)(hf:bH t=false) :
 (e=.atom [48]/\t=.zero)\/(e=.atom [49]/\t=.one)\/(∃s,e=.atom s/\t=.name s/\ff s=true/\s≠[48]/\s≠[49]) ∨
 (∃x a b t1 t2,e=.list [x,a,b]/\x.at=[43]/\t=.plus t1 t2/\cy a ar=some t1/\cy b ar=some t2) ∨
 (∃x a b t1 t2,e=.list [x,a,b]/\x.at=[42]/\t=.times t1 t2/\cy a ar=some t1/\cy b ar=some t2) ∨
 (∃x a b t1,e=.list [x,a,b]/\x.at=[114,101,99]/\t=.rc t1):=by
 cases e with
 |
  list l =>
  match l,ht with
  |
   [x,a,b],ht =>
   by_cases h0:x.at=[43]
   ·obtain⟨t1,t2,h1,h2,rfl⟩:=fB h0 ht
    exact .inr (.inr (.inr (.inl ⟨x,a,b,t1,t2,rfl,h0,rfl,h1,h2⟩)))
   ·by_cases h1:x.at=[42]
    ·obtain⟨t1,t2,h3,h2,rfl⟩:=eY h1 ht
     exact .inr (.inr (.inr (.inr (.inl ⟨x,a,b,t1,t2,rfl,h1,rfl,h3,h2⟩))))
    ·by_cases h2:x.at=[114,101,99]
     ·obtain⟨t1,_,_,rfl⟩:=dj h2 ht
      exact .inr (.inr (.inr (.inr (.inr ⟨x,a,b,t1,rfl,h2,rfl⟩))))
     ·rw[iN _ h0 h1 h2]at ht;cases ht
  |[],ht=>cases ht
  |[_],ht=>cases ht
  |[_,_],ht=>cases ht
  |_::_::_::_::_,ht=>cases ht
 |
  atom s =>
  simp only[cy]at ht
  split at ht
  ·rename_i h;cases ht;subst h;exact .inl ⟨rfl,rfl⟩
  ·rename_i h0
   split at ht
   ·rename_i h;cases ht;subst h;exact .inr (.inl ⟨rfl,rfl⟩)
   ·rename_i h1
    split at ht
    ·rename_i h;cases ht;exact .inr (.inr (.inl ⟨s,rfl,rfl,h,h0,h1⟩))
    ·split at ht
     ·rename_i h
      split at ht
      ·cases ht;cases hb
      ·cases ht;simp only[bH]at hf;rw[h]at hf;cases hf
     ·cases ht
def pS(n:Nat)(v:Vl)(e:E)(env:List Fr)(t:Ty):Prop:=az Tryz.prog 80 [.agg [t.av,nP env],v.dQ,.v (.int .i64 (n:Int))] [] (bG (.v (.bool (fS n v (e,env)))))
structure Ask(e:E)(env:List Fr)(t:Ty):Prop where
 ok:e.ok
 wf:WF env
 ty:cy e (names env)=some t
 cl:bH t=false
theorem Io(n:Nat)(hn:n<=100)(v:Vl)(hv:v.iu 100)(IH:∀w:Vl,w.nodes<v.nodes->w.iu 100->∀e env t,Ask e env t->env.length+w.nodes<100000->pS n w e env t)
 (e:E) (env:List Fr) (t:Ty) (A:Ask e env t) (hl:env.length+v.nodes<100000) (hb:t.KJ=false) (hh:fQ e.at env=none):pS n v e env t:=by
 have hhd:hd e env=(e,env):=kW hh
 unfold pS
 refine I0 _ _ _ _ ((aG _).mpr trivial) ((ek _).mpr trivial) ((bo _).mpr trivial) ?_
 rcases jx A.ty hb A.cl with⟨rfl,rfl⟩|⟨rfl,rfl⟩|⟨s,rfl,rfl,hp,h0,h1⟩|⟨x,a,b,t1,t2,rfl,hx,rfl,ha,hbb⟩|⟨x,a,b,t1,t2,rfl,hx,rfl,ha,hbb⟩|⟨x,a,b,t1,rfl,hx,rfl⟩
 ·have hp0:ff [48]=false:=rfl
  cases v<;>simp[zg,Ty.av,↓zq,zs,af,bG,fS,hhd,hp0]
 ·have hp0:ff [49]=false:=rfl
  cases v<;>simp[zg,Ty.av,Vl.dQ,↓zq,zs,af,bG,fS,hhd,hp0]
 ·have h1':(s==[49])=false:=by simpa using h1
  cases v with
  |
   el k =>
   have hk:k<100:=hv
   simp only[zg,Ty.av,Vl.dQ,↓zq,zs,af,zt]
   refine⟨by omega,fun h=>by omega,fun _=>⟨fun _=>⟨by omega,fun h=>absurd rfl h,fun _=>⟨by omega,by omega,?_⟩⟩,fun h=>absurd rfl h⟩⟩
   have e1:(List.take ((dd k).length+1) (uE k)).drop (bM 1)=dd k:=by simp[uE]
   rw[e1]
   refine aj (Lj k hk) ?_
   simp only[↓zq,zs,af,bG,fS,hhd,h1',hp,zf]
   refine⟨rfl,?_⟩
   congr 2
   rw[cX];simp
  |
   _ =>
   simp only[zg,Ty.av,Vl.dQ,↓zq,zs,af,zt,fS,hhd,h1',bG]
   exact⟨by omega,fun h=>by omega,fun _=>⟨fun _=>⟨by omega,fun _=>trivial,fun h=>by omega⟩,fun h=>absurd rfl h⟩⟩
 ·have hok:=A.ok
  obtain⟨ok1,ok2,ok3,_⟩:=hok
  obtain⟨f1,f2⟩:=hJ A.cl
  cases v with
  |
   l w =>
   simp only[Vl.nodes]at hl
   simp only[zg,Ty.av,Vl.dQ,↓zq,zs,af]
   refine⟨by omega,fun h=>by omega,fun _=>⟨fun h=>by omega,fun _=>⟨fun h=>by omega,fun _=>⟨fun _=>⟨by omega,fun _=>?_,fun h=>absurd rfl h⟩,fun h=>absurd rfl h⟩⟩⟩⟩
   refine aj (BH _ _ _ _ _ _ ((aG _).mpr trivial) ((ek _).mpr trivial)) ?_
   simp only[↓zq,zs,af,bT,aG,ek,bo]
   refine⟨by omega,?_⟩
   refine aj (IH w (by simp only[Vl.nodes];omega) hv a env t1 ⟨ok2,A.wf,ha,f1⟩ (by omega)) ?_
   simp only[↓zq,zs,af,bG,fS,hhd,hx]
   refine⟨fun h=>?_,fun h=>⟨by omega,fun h=>by omega,fun _=>?_⟩⟩
   ·simp[h]
   ·simp[h]
  |
   r w =>
   simp only[Vl.nodes]at hl
   simp only[zg,Ty.av,Vl.dQ,↓zq,zs,af]
   refine⟨by omega,fun h=>by omega,fun _=>⟨fun h=>by omega,fun _=>⟨fun h=>by omega,fun _=>⟨fun _=>⟨by omega,fun h=>by omega,fun _=>⟨by omega,fun _=>?_,fun h=>absurd rfl h⟩⟩,fun h=>absurd rfl h⟩⟩⟩⟩
   refine aj (BB _ _ _ _ _ _ ((aG _).mpr trivial) ((ek _).mpr trivial)) ?_
   simp only[↓zq,zs,af,bT,aG,ek,bo]
   refine⟨by omega,?_⟩
   refine aj (IH w (by simp only[Vl.nodes];omega) hv b env t2 ⟨ok3,A.wf,hbb,f2⟩ (by omega)) ?_
   simp[↓zq,zs,af,bG,fS,hhd,hx]
  |
   _ =>
   simp only[zg,Ty.av,Vl.dQ,↓zq,zs,af,fS,hhd,bG]
   exact⟨by omega,fun h=>by omega,fun _=>⟨fun h=>by omega,fun _=>⟨fun h=>by omega,fun _=>⟨fun _=>⟨by omega,fun h=>by omega,fun _=>⟨by omega,fun h=>by omega,fun _=>by simp[hx]⟩⟩,fun h=>absurd rfl h⟩⟩⟩⟩
 ·have hok:=A.ok
  obtain⟨ok1,ok2,ok3,_⟩:=hok
  obtain⟨f1,f2⟩:=gl A.cl
  cases v with
  |
   p v w =>
   simp only[Vl.nodes]at hl
   simp only[zg,Ty.av,Vl.dQ,↓zq,zs,af]
   refine⟨by omega,fun h=>by omega,fun _=>⟨fun h=>by omega,fun _=>⟨fun h=>by omega,fun _=>⟨fun h=>by omega,fun _=>⟨fun _=>⟨by omega,fun _=>?_,fun h=>absurd rfl h⟩,fun h=>absurd rfl h⟩⟩⟩⟩⟩
   refine aj (BH _ _ _ _ _ _ ((aG _).mpr trivial) ((ek _).mpr trivial)) ?_
   simp only[↓zq,zs,af,bT,aG,ek,bo]
   refine⟨by omega,?_⟩
   refine aj (IH v (by simp only[Vl.nodes];omega) hv.1 a env t1 ⟨ok2,A.wf,ha,f1⟩ (by omega)) ?_
   simp only[↓zq,zs,af,bG,fS,hhd,hx]
   refine⟨fun h=>?_,fun h=>?_⟩
   ·refine aj (BB _ _ _ _ _ _ ((aG _).mpr trivial) ((ek _).mpr trivial)) ?_
    simp only[↓zq,zs,af,bT,aG,ek,bo]
    refine⟨by omega,?_⟩
    refine aj (IH w (by simp only[Vl.nodes];omega) hv.2 b env t2 ⟨ok3,A.wf,hbb,f2⟩ (by omega)) ?_
    simp[↓zq,zs,af,h]
   ·simp[h]
  |
   _ =>
   simp only[zg,Ty.av,Vl.dQ,↓zq,zs,af,fS,hhd,bG]
   exact⟨by omega,fun h=>by omega,fun _=>⟨fun h=>by omega,fun _=>⟨fun h=>by omega,fun _=>⟨fun h=>by omega,fun _=>⟨fun _=>⟨by omega,fun h=>by omega,fun _=>by simp[hx]⟩,fun h=>absurd rfl h⟩⟩⟩⟩⟩
 ·obtain⟨t1',he1,h1,f1,hw1⟩:=ky A.wf A.ok hx A.ty A.cl
  cases he1
  have hok:=A.ok
  obtain⟨ok1,ok2,ok3,_⟩:=hok
  have htD:xE (.list [x,a,b]) env=.rc t1:=by rw[xE,A.ty];rfl
  have hin:=Nq t1 env a.at (.list [x,a,b]) htD
  simp only[Ty.av]at hin
  simp only[zg,Ty.av,↓zq,zs,af]
  refine⟨by omega,fun h=>by omega,fun _=>⟨fun h=>by omega,fun _=>⟨fun h=>by omega,fun _=>⟨fun h=>by omega,fun _=>⟨fun h=>by omega,fun _=>⟨fun _=>?_,fun h=>absurd rfl h⟩⟩⟩⟩⟩⟩
  refine aj hin ?_
  simp only[↓zq,zs,af,bT,aG,ek,zR,bo,eM]
  cases v with
  |
   f w =>
   simp only[Vl.nodes]at hl
   simp only[Vl.dQ,↓zq,zs,af,bo]
   refine⟨by omega,fun _=>⟨by omega,?_⟩,fun h=>absurd rfl h⟩
   refine aj (IH w (by simp only[Vl.nodes];omega) hv b (.mk a.at (.list [x,a,b]) env::env) t1 ⟨ok3,hw1,h1,f1⟩ (by simp;omega)) ?_
   simp[↓zq,zs,af,bG,fS,hhd,hx]
  |
   _ =>
   simp only[Vl.dQ,↓zq,zs,af,fS,hhd,bG]
   exact⟨by omega,fun h=>by omega,fun _=>by simp[hx]⟩
theorem Hs(n:Nat)(hn:n<=100):∀(m:Nat) (v:Vl),v.nodes<m->v.iu 100->∀e env t,Ask e env t->env.length+v.nodes<100000->pS n v e env t
 |0,v,h,_=>by omega
 |
  m+1,v,h,hv=>by
  intro e env t A hl
  have IH:∀w:Vl,w.nodes<v.nodes->w.iu 100->∀e env t,Ask e env t->env.length+w.nodes<100000->pS n w e env t:=fun w hw hb=>Hs n hn m w (by omega) hb
  rcases mw A.wf A.ty with⟨hb,hh⟩|⟨u,f,rfl,hh,hu⟩
  ·exact Io n hn v hv IH e env t A hl hb hh
  ·obtain⟨x,a,b,t',hfe,hok,hx,ht',hf',hwf,hlt⟩:=nE A.wf hh
   obtain⟨t1,hl1,h1,rfl⟩:=dj hx (hfe ▸ ht')
   have hvis:fS n v (e,env)=fS n v (f.ex,f.out):=tS n v (ql hh) (by rw[hfe];exact rB hwf)
   unfold pS
   refine I0 _ _ _ _ ((aG _).mpr trivial) ((ek _).mpr trivial) ((bo _).mpr trivial) ?_
   have hbd:=KX env u f hu (by omega)
   simp only[Ty.av]at hbd
   simp only[zg,Ty.av,↓zq,zs,af]
   refine⟨by omega,fun h=>by omega,fun _=>⟨fun h=>by omega,fun _=>⟨fun _=>?_,fun h=>absurd rfl h⟩⟩⟩
   refine aj hbd ?_
   cases f with
   |
    mk s ee oo =>
    simp only[Fr.ex,Fr.out]at hfe ht' hf' hwf hvis hlt
    have htD:xE ee oo=.rc t1:=by rw[xE,ht'];rfl
    simp only[Fr.dQ,htD,↓zq,zs,af,bT,aG,ek]
    refine⟨by omega,?_⟩
    have hs:=Io n hn v hv IH ee oo (.rc t1) ⟨by rw[hfe];exact hok,hwf,ht',hf'⟩ (by omega) rfl (by rw[hfe];exact mA hwf)
    unfold pS at hs
    refine aj hs ?_
    simp[↓zq,zs,af,bG,hvis]
end Go.Proofs.Trees
namespace Go.Proofs.Trees
open Go Go.VL Go.RowKit
theorem sj:∀(env:List Fr) (k:Nat) (f:Fr),env[k]?=some f->(jT env).getD (env.length-1-k) []=f.cells
 |[],k,f,h=>by cases h
 |
  g::r,0,f,h=>by
  cases h
  have:(g::r).length-1-0=(jT r).length:=by simp[kA]
  rw[this,jT];simp[aa]
 |
  g::r,k+1,f,h=>by
  have h':r[k]?=some f:=by simpa using h
  have hlt:=(List.getElem?_eq_some_iff.1 h').1
  have e:(g::r).length-1-(k+1)=r.length-1-k:=by simp;omega
  have:=sj r k f h'
  rw[e,jT,aa,List.getElem?_append_left (by rw[kA];omega),<-aa]
  exact this
theorem rb(f:Fr):f.cells=[.v (.string (mk f.nm)),.v (.string (mk f.ex.at)),f.ex.sp,.sl (jT f.out)]:=by cases f;rfl
theorem IE(e:E)(env:List Fr)(hl:env.length<1000000):∀(j k:Nat),k+j=env.length->E3 [.sl (jT env),.v (.int .i64 ((env.length:Int)-1-(k:Int)))] [.cells [.v (.string (mk e.at)),e.sp],.cells [.v (.string (mk [])),.v (.slice none 0 0)]]
 (rK (match fQ e.at (env.drop k)with|some f=>(2,[.sl (jT f.out)],[.cells [.v (.string (mk f.ex.at)),f.ex.sp]])|none=>(1,[.sl (jT env)],[.cells [.v (.string (mk e.at)),e.sp],.cells [.v (.string (mk [])),.v (.slice none 0 0)]])))
 |
  0,k,hk=>by
  refine J5 _ _ _ _ _ _ ?_
  have hd:env.drop k=[]:=bB (by omega)
  simp only[Gf,↓zq,zs,af,aV,hd,fQ]
  exact⟨fun h=>by omega,fun _=>by first|trivial|rfl⟩
 |
  j+1,k,hk=>by
  refine J5 _ _ _ _ _ _ ?_
  have hlt:k<env.length:=by omega
  have hg:env[k]?=some env[k]:=bc hlt
  have hc:=sj env k _ hg
  have e1:((env.length:Int)-1-(k:Int))=((env.length-1-k:Nat):Int):=by omega
  have hdr:env.drop k=env[k]::env.drop (k+1):=ba hlt
  rw[hdr,fQ,e1]
  simp only[Gf,cc,hc,rb,↓zq,zs,af,zt,aV,kA,bT]
  refine⟨fun _=>⟨by omega,by omega,fun h=>⟨by omega,by omega,by omega,by omega,?_⟩,fun h=>?_⟩,fun h=>by omega⟩
  ·rw[if_pos h]
  ·rw[if_neg h]
   have e2:IntKind.wrap .i64 (((env.length-1-k:Nat):Int)-1)=(env.length:Int)-1-((k+1:Nat):Int):=by
    have:IntKind.wrap .i64 (((env.length-1-k:Nat):Int)-1)=((env.length-1-k:Nat):Int)-1:=wrap64 _ (by omega) (by omega)
    omega
   rw[e2]
   exact IE e env hl j (k+1) (by omega)
theorem Ma(e:E)(env:List Fr)(hl:env.length<1000000):az Tryz.prog 138 [e.ka,.sl (jT env)] [] (bG (.cx [(hd e env).1.ka,.sl (jT (hd e env).2)])):=by
 rw[dU e]
 refine MR _ _ _ ((aV _).mpr trivial) ((bZ _).mpr trivial) ?_
 simp only[Kc,↓zq,zs,af,kA,bG]
 have h:=IE e env hl env.length 0 (by omega)
 simp only[bO]at h
 rw[wrap64 _ (by omega) (by omega)]
 rw[show (env.length:Int)-1-((0:Nat):Int)=(env.length:Int)-1 by omega]at h
 refine i6 h (fun ys o e'=>?_) (fun ys o e'=>?_)
 ·unfold hd
  cases hq:fQ e.at env<;>rw[hq]at e'<;>cases e'
  simp only[↓zq,zs,af,zt,aV,dU]
 ·unfold hd
  cases hq:fQ e.at env<;>rw[hq]at e'<;>cases e'
  simp only[↓zq,zs,af,zt,aV,dU]
theorem pN:∀env:List Fr,cT 4 (jT env)
 |[]=>fun c hc=>by cases hc
 |
  f::r=>fun c hc=>by
  simp only[jT,aK,aQ]at hc
  rcases hc with hc|rfl
  ·exact pN r c hc
  ·rw[rb];rfl
theorem K2(x a b:E)(env:List Fr)(hl:env.length<1000000):az Tryz.prog 139 [(E.list [x,a,b]).ka,.sl (jT env)] [] (bG (.cx [b.ka,.sl (jT (.mk a.at (.list [x,a,b]) env::env))])):=by
 refine MS _ _ _ ((bZ _).mpr trivial) ((bZ _).mpr trivial) ?_
 simp only[Iw,E.bb,toNat_one,bf,↓zq,zs,af,zt,iD,gf,iI,l7,ap,kA,bG,bh]
 refine⟨by omega,⟨pN env,by omega⟩,by omega,by omega,⟨fun c hc=>(by simp at hc;rw[hc];rfl),by omega⟩,?_⟩
 simp only[jT,rb,Fr.nm,Fr.ex,Fr.out,E.at,E.sp,E.bb]
theorem CX(s:ByteArray)(e:E):bT [.str,.sl] [.v (.string s),e.sp] 0=True:=by apply eq_true;simp[bT,dC,aV]
theorem DN{e:E}{env:List Fr}{t:Ty}(A:Ask e env t):∃e' o t',hd e env=(e',o)/\Ask e' o t'/\t'.KJ=false/\hd e' o=(e',o)/\o.length<=env.length:=by
 rcases mw A.wf A.ty with⟨hb,hh⟩|⟨u,f,rfl,hh,hu⟩
 ·exact⟨e,env,t,kW hh,A,hb,kW hh,ap _⟩
 ·obtain⟨x,a,b,t',hfe,hok,hx,ht',hf',hwf,hlt⟩:=nE A.wf hh
  refine⟨f.ex,f.out,t',ql hh,⟨by rw[hfe];exact hok,hwf,ht',hf'⟩,?_,?_,by omega⟩
  ·obtain⟨t1,_,_,rfl⟩:=dj hx (hfe ▸ ht');rfl
  ·rw[hfe];exact rB hwf
def vh:Vl->List UInt8
 | .l _=>[108]
 | .r _=>[114]
 | .f _=>[102]
 | .p _ _=>[112]
 |_=>[]
theorem Kr(v:Vl):az Tryz.prog 90 [v.dm.ka] [] (bG (.v (.string (mk (vh v))))):=by
 cases v with
 |u=>exact BG _ _ ((bm).mpr trivial) (by simp)
 |el k=>exact BG _ _ ((bm).mpr trivial) (by simp)
 |l v=>exact wP _ _
 |r v=>exact wP _ _
 |f v=>exact wP _ _
 |p v w=>exact wP _ _
theorem Od(v:Vl)(hv:v.iu 100):v.dm.at=(match v with| .u=>[117]| .el k=>uE k|_=>[])/\zZ v.dm.at=(match v with| .el k=>(k:Int)|_=>-1):=by
 cases v with
 |el k=>exact⟨rfl,FR k hv⟩
 |u=>exact⟨rfl,rfl⟩
 |_=>exact⟨rfl,rfl⟩
theorem yH(n:Nat)(hn:n<=100):∀(m:Nat) (v:Vl),v.nodes<m->v.iu 100->∀e env t,Ask e env t->env.length+v.nodes<100000->az Tryz.prog 89 [e.ka,.sl (jT env),v.dm.ka,.v (.int .i64 (n:Int))] [] (bG (.v (.bool (fS n v (e,env)))))
 |0,v,hm,hv,e,env,t,A,hl=>by omega
 |
  m+1,v,hm,hv,e,env,t,A,hl=>by
  obtain⟨e',o,t',hhd,A',hb,hh',hlen⟩:=DN A
  rw[tS n v hhd hh',dU e,dU v.dm]
  refine M7 _ _ _ _ _ _ ((aV _).mpr trivial) ((bZ _).mpr trivial) ((aV _).mpr trivial) ?_
  have hf:=Ma e env (by omega)
  rw[dU e,hhd]at hf
  have hvh:=Kr v
  rw[dU]at hvh
  unfold Jx
  refine aj hf ?_
  simp only[dU e',↓zq,zs,af,zt,aV,CX,bG]
  rcases jx A'.ty hb A'.cl with⟨rfl,rfl⟩|⟨rfl,rfl⟩|⟨s,rfl,rfl,hp,h0,h1⟩|⟨x,a,b,t1,t2,rfl,hx,rfl,ha,hbb⟩|⟨x,a,b,t1,t2,rfl,hx,rfl,ha,hbb⟩|⟨x,a,b,t1,rfl,hx,rfl⟩
  ·refine⟨fun _=>⟨fun h=>by simp[E.at]at h,fun _=>aj (AO _) ?_⟩,fun h=>by simp[E.at]at h⟩
   have hp0:ff (E.atom [48]).at=false:=rfl
   have hp1:ff [48]=false:=rfl
   cases v<;>simp[↓zq,zs,af,hp0,fS,hh',hp1]
  ·refine⟨fun _=>⟨fun _=>?_,fun h=>absurd rfl h⟩,fun h=>by simp[E.at]at h⟩
   have hp1:ff [49]=false:=rfl
   cases v<;>simp[fS,hh',hp1,Vl.dm,E.at]
  ·have hne:s≠[]:=A'.ok
   have h1':(s==[49])=false:=by simpa using h1
   refine⟨fun _=>⟨fun h=>absurd h h1,fun _=>aj (AO _) ?_⟩,fun h=>absurd h hne⟩
   have hat:(E.atom s).at=s:=rfl
   simp only[hat,hp,↓zq,zs,af]
   refine⟨fun _=>aj (HU _) ?_,fun h=>by cases h⟩
   simp only[↓zq,zs,af]
   rw[wrap64 _ (by omega) (by omega)]
   refine aj (BO _ _ _) ?_
   simp only[↓zq,zs,af,DJ,(Od v hv).2]
   cases v with
   |
    el k =>
    simp only[fS,hh',h1',hp,zf]
    congr 2
    rw[cX];simp;omega
   |_=>simp[fS,hh',h1']
  ·have hok:=A'.ok
   obtain⟨ok1,ok2,ok3,_⟩:=hok
   obtain⟨f1,f2⟩:=hJ A'.cl
   refine⟨fun h=>absurd rfl h,fun _=>aj (wP x [a,b]) ?_⟩
   simp only[↓zq,zs,af]
   refine aj hvh ?_
   rw[hx]
   cases v with
   |
    l w =>
    simp only[Vl.nodes]at hl
    simp only[vh,Vl.dm,E.sp,E.bb,toNat_one,bf,↓zq,zs,af,zt,iD,gf,iI,l7,ap]
    refine⟨by simp,fun _=>⟨by omega,by omega,aj (yH n hn m w (by simp only[Vl.nodes]at hm;omega) hv a o t1 ⟨ok2,A'.wf,ha,f1⟩ (by omega)) ?_⟩,fun h=>absurd rfl h⟩
    simp[↓zq,zs,af,fS,hh',hx]
   |
    r w =>
    simp only[Vl.nodes]at hl
    simp only[vh,Vl.dm,E.sp,E.bb,toNat_one,bf,↓zq,zs,af,zt,iD,gf,iI,l7,ap]
    refine⟨by simp,fun h=>by simp at h,fun _=>⟨fun _=>⟨by omega,by omega,aj (yH n hn m w (by simp only[Vl.nodes]at hm;omega) hv b o t2 ⟨ok3,A'.wf,hbb,f2⟩ (by omega)) ?_⟩,fun h=>absurd rfl h⟩⟩
    simp[↓zq,zs,af,fS,hh',hx]
   |_=>simp[vh,↓zq,zs,af,zt,fS,hh',hx]
  ·have hok:=A'.ok
   obtain⟨ok1,ok2,ok3,_⟩:=hok
   obtain⟨f1,f2⟩:=gl A'.cl
   refine⟨fun h=>absurd rfl h,fun _=>aj (wP x [a,b]) ?_⟩
   simp only[↓zq,zs,af]
   refine aj hvh ?_
   rw[hx]
   cases v with
   |
    p w z =>
    simp only[Vl.nodes]at hl
    simp only[vh,Vl.dm,E.sp,E.bb,toNat_one,bf,↓zq,zs,af,zt,iD,gf,iI,l7,ap]
    refine⟨by simp,fun h=>by simp at h,fun _=>⟨fun h=>by simp at h,fun _=>⟨fun _=>⟨by omega,by omega,aj (yH n hn m w (by simp only[Vl.nodes]at hm;omega) hv.1 a o t1 ⟨ok2,A'.wf,ha,f1⟩ (by omega)) ?_⟩,fun h=>absurd rfl h⟩⟩⟩
    simp only[↓zq,zs,af,fS,hh',hx]
    refine⟨fun h=>⟨by omega,by omega,aj (yH n hn m z (by simp only[Vl.nodes]at hm;omega) hv.2 b o t2 ⟨ok3,A'.wf,hbb,f2⟩ (by omega)) ?_⟩,fun h=>?_⟩
    ·simp[↓zq,zs,af,h]
    ·simp[h]
   |_=>simp[vh,↓zq,zs,af,zt,fS,hh',hx]
  ·obtain⟨t1',he1,h1,f1,hw1⟩:=ky A'.wf A'.ok hx A'.ty A'.cl
   cases he1
   have hok:=A'.ok
   obtain⟨ok1,ok2,ok3,_⟩:=hok
   refine⟨fun h=>absurd rfl h,fun _=>aj (wP x [a,b]) ?_⟩
   simp only[↓zq,zs,af]
   refine aj hvh ?_
   rw[hx]
   cases v with
   |
    f w =>
    simp only[Vl.nodes]at hl
    simp only[vh,Vl.dm,E.sp,E.bb,toNat_one,bf,↓zq,zs,af,zt,iD,gf,iI,l7,ap]
    refine⟨by simp,fun h=>by simp at h,fun _=>⟨fun h=>by simp at h,fun _=>⟨fun h=>by simp at h,fun _=>⟨fun _=>aj (K2 x a b o (by omega)) ?_,fun h=>absurd rfl h⟩⟩⟩⟩
    simp only[↓zq,zs,af,xA,BI]
    refine⟨by omega,aj (yH n hn m w (by simp only[Vl.nodes]at hm;omega) hv b (.mk a.at (.list [x,a,b]) o::o) t1 ⟨ok3,hw1,h1,f1⟩ (by simp;omega)) ?_⟩
    simp[↓zq,zs,af,fS,hh',hx]
   |_=>simp[vh,↓zq,zs,af,zt,fS,hh',hx]
theorem MQ(n:Nat)(hn:n<=100)(v:Vl)(hv:v.iu 100)(e:E)(env:List Fr)(t:Ty)(A:Ask e env t)(hl:env.length+v.nodes<100000):az Tryz.prog 89 [e.ka,.sl (jT env),v.dm.ka,.v (.int .i64 (n:Int))] [] (bG (.v (.bool (fS n v (e,env))))):=yH n hn (v.nodes+1) v (by omega) hv e env t A hl
end Go.Proofs.Trees
namespace Go.Proofs.Trees
open Go Go.VL Go.RowKit
theorem Kq(l:List (List UInt8))(a:AV)(ha:dN a l)(s:List UInt8)(hl:l.length<1000000):∀(k i:Nat),i+k=l.length->DU [a,.v (.string (mk s)),.v (.int .i64 (i:Int))] []
 (rK (if s∈l.drop i then(2,[.v (.bool true)],[])else(1,[],[])))
 |
  0,i,hi=>by
  refine JD _ _ _ ?_
  have hd:l.drop i=[]:=bB (by omega)
  simp only[Es,↓zq,zs,af,hd,ha.len]
  exact⟨ha.1,ha.1,fun h=>by omega,fun _=>by simp[rK]⟩
 |
  k+1,i,hi=>by
  have hlt:i<l.length:=by omega
  have hdr:l.drop i=l.getD i []::l.drop (i+1):=by
   rw[ba hlt];simp[aa,hlt]
  refine JD _ _ _ ?_
  simp only[Es,↓zq,zs,af,zt,ha.len,ha.idx hlt]
  refine⟨ha.1,ha.1,fun _=>⟨⟨ha.1,by omega,by omega⟩,by omega,fun h=>?_,fun h=>?_⟩,fun h=>by omega⟩
  ·rw[hdr,h];simp[rK]
  ·rw[bS i (by omega)]
   have:=Kq l a ha s hl k (i+1) (by omega)
   have e:s∈l.drop i↔s∈l.drop (i+1):=by
    rw[hdr,aI];exact⟨fun q=>q.resolve_left (fun q=>h q.symm),.inr⟩
   simp only[e];exact this
theorem FU(l:List (List UInt8))(a:AV)(ha:dN a l)(s:List UInt8)(hl:l.length<1000000):az Tryz.prog 142 [a,.v (.string (mk s))] [] (bG (.v (.bool (decide (s∈l))))):=by
 refine LA _ _ ha.1 ?_
 unfold J6
 refine i6 (Kq l a ha s hl l.length 0 (by omega)) (fun ys o e=>?_) (fun ys o e=>?_)
 ·simp only[bO]at e
  split at e<;>cases e
  rename_i h
  simp[↓zq,zs,af,bG,h]
 ·simp only[bO]at e
  split at e<;>cases e
  rename_i h
  simp[↓zq,zs,af,bG,h]
theorem yZ(l:List (List UInt8))(a:AV)(ha:dN a l)(s:List UInt8)(hl:l.length<1000000):az Tryz.prog 143 [a,.v (.string (mk s))] [] (bG (.sl (cb (l++[s])))):=by
 refine Ll _ _ ha.1 ?_
 simp only[Iu,↓zq,zs,af,ha.2,bG,bh]
 have:(cb l).length=l.length:=by simp[cb]
 refine⟨⟨ha.1,jZ l,by omega⟩,⟨fun c hc=>(by simp at hc;rw[hc];rfl),by omega⟩,?_⟩
 rw[yT]
def jY:E->List (List UInt8)->List (List UInt8)->List (List UInt8)
 | .atom s,bd,l=>if s=[48]\/s=[49]\/s∈bd\/s∈l then l else l++[s]
 | .list [x,a,b],bd,l=>if x.at=[114,101,99]then jY b (bd++[a.at]) l else jY b bd (jY a bd l)
 | .list _,_,l=>l
theorem fU:∀(e:E) (bd l:List (List UInt8)),(jY e bd l).length<=l.length+e.sz
 | .atom s,bd,l=>by rw[jY];split<;>simp[E.sz]
 | .list [],bd,l=>by simp[jY]
 | .list [_],bd,l=>by simp[jY]
 | .list [_,_],bd,l=>by simp[jY]
 | .list (_::_::_::_::_),bd,l=>by simp[jY]
 |
  .list [x,a,b],bd,l=>by
  rw[jY]
  simp only[E.sz,E.iX]
  split
  ·have:=fU b (bd++[a.at]) l;omega
  ·have:=fU a bd l
   have:=fU b bd (jY a bd l)
   omega
theorem CS:∀(e:E) (bd l:List (List UInt8)) (a:AV),e.ok->jD e=true->dN a bd->bd.length+l.length+e.sz<100000->az Tryz.prog 98 [e.ka,a,.vec 0] [.vec 1 (cb l)] (gC (.vec 1) [.dead,.vec 1 (cb (jY e bd l))])
 |
  .atom s,bd,l,a,hok,hty,ha,hl=>by
  simp only[E.sz]at hl
  refine yG _ _ _ _ ((bm).mpr trivial) ha.1 ?_
  have hne:s≠[]:=hok
  have hll:(cb l).length=l.length:=by simp[cb]
  simp only[vW,↓zq,zs,af,zt,gC,jY]
  refine⟨fun _=>⟨fun h=>?_,fun h=>⟨fun h1=>?_,fun h1=>?_⟩⟩,fun h=>absurd h hne⟩
  ·rw[if_pos (.inl h)]
  ·rw[if_pos (.inr (.inl h1))]
  ·refine aj (FU bd a ha s (by omega)) ?_
   simp only[↓zq,zs,af]
   refine⟨fun h2=>?_,fun h2=>aj (FU l _ (.of l) s (by omega)) ?_⟩
   ·rw[if_pos (.inr (.inr (.inl h2)))]
   ·simp only[↓zq,zs,af]
    refine⟨fun h3=>?_,fun h3=>⟨⟨fun c hc=>(by simp at hc;rw[hc];rfl),by omega⟩,?_⟩⟩
    ·rw[if_pos (.inr (.inr (.inr h3)))]
    ·rw[yT,if_neg]
     rintro(q|q|q|q)
     ·exact h q
     ·exact h1 q
     ·exact h2 q
     ·exact h3 q
 | .list [],_,_,_,_,h,_,_=>by cases h
 | .list [_],_,_,_,_,h,_,_=>by cases h
 | .list [_,_],_,_,_,_,h,_,_=>by cases h
 | .list (_::_::_::_::_),_,_,_,_,h,_,_=>by cases h
 |
  .list [x,y,z],bd,l,a,hok,hty,ha,hl=>by
  simp only[E.sz,E.iX]at hl
  obtain⟨ok1,ok2,ok3,_⟩:=hok
  refine yG _ _ _ _ ((bZ _).mpr trivial) ha.1 ?_
  simp only[vW,E.bb,toNat_one,bf,↓zq,zs,af,zt,iD,gf,iI,l7,ap,gC]
  refine⟨fun h=>absurd rfl h,fun _=>aj (wP x [y,z]) ?_⟩
  simp only[↓zq,zs,af,zt]
  have hyl:=fU y bd l
  rw[jD]at hty
  refine⟨fun h=>⟨by omega,by omega,by omega,aj (yZ bd a ha y.at (by omega)) ?_⟩,fun h=>⟨by omega,by omega,?_⟩⟩
  ·have hz:jD z=true:=by
    rw[if_neg (by rw[h];decide),if_neg (by rw[h];decide),if_pos h]at hty
    simp only[au]at hty;exact hty.2
   simp only[↓zq,zs,af]
   refine bj (CS z (bd++[y.at]) l _ ok3 hz (.of _) (by simp;omega)) ?_
   simp only[↓zq,zs,af]
   rw[jY,if_pos h]
  ·have hyz:jD y=true/\jD z=true:=by
    split at hty
    ·simpa using hty
    ·split at hty
     ·simpa using hty
     ·cases hty
   refine bj (CS y bd l a ok2 hyz.1 ha (by omega)) ?_
   simp only[↓zq,zs,af]
   refine bj (CS z bd (jY y bd l) a ok3 hyz.2 ha (by omega)) ?_
   simp only[↓zq,zs,af]
   rw[jY,if_neg h]
theorem j2{s:List UInt8}(h:ff s=true):cQ s=false:=by
 cases hq:cQ s with
 |false=>rfl
 |
  true =>
  obtain⟨c,r,rfl,h1,h2⟩:=k8 h
  obtain⟨c',r',he,h3,h4⟩:=k8 hq
  cases he;omega
theorem lX(s:List UInt8)(ar:List (List UInt8)):∀i,i<=ar.length->(bx s ar i=none↔s∉ar.take i)
 |0,_=>by simp[bx]
 |
  i+1,hi=>by
  have hlt:i<ar.length:=by omega
  have e:ar.getD i []=ar[i]:=by simp[aa,hlt]
  have e2:s∈ar.take (i+1)↔s∈ar.take i\/s=ar[i]:=by
   rw[show ar.take (i+1)=ar.take i++[ar[i]] from (List.take_append_getElem hlt).symm]
   simp only[aK,aQ]
  rw[bx,e,e2]
  by_cases h:ar[i]=s
  ·rw[if_pos h]
   exact⟨fun h=>(by cases h),fun h'=>absurd (.inr h.symm) h'⟩
  ·rw[if_neg h,lX s ar i (by omega)]
   exact⟨fun h1 h2=>h2.elim h1 (fun h3=>h h3.symm),fun h1 h2=>h1 (.inl h2)⟩
theorem lu:∀(e:E) (ar l:List (List UInt8)) (t:Ty),cy e ar=some t->(∀w,w∈ar->cQ w=true)->(jY e ar l).any cQ=(l.any cQ||bH t)
 |
  .atom s,ar,l,t,h,har=>by
  simp only[cy]at h
  rw[jY]
  split at h
  ·rename_i h0;cases h;rw[if_pos (.inl h0)];simp[bH]
  ·rename_i h0
   split at h
   ·rename_i h1;cases h;rw[if_pos (.inr (.inl h1))];simp[bH]
   ·rename_i h1
    split at h
    ·rename_i h2
     cases h
     have hn:=j2 h2
     simp only[bH,hn]
     split
     ·simp
     ·simp[hn]
    ·split at h
     ·rename_i h2 h3
      have hlo:=lX s ar ar.length (ap _)
      rw[List.take_length]at hlo
      cases hq:bx s ar ar.length with
      |
       some u =>
       rw[hq]at h;cases h
       have hm:s∈ar:=Classical.byContradiction fun hm=>by rw[hlo.2 hm]at hq;cases hq
       rw[if_pos (.inr (.inr (.inl hm)))];simp[bH]
      |
       none =>
       rw[hq]at h;cases h
       have hm:=hlo.1 hq
       simp only[bH,h3,Bool.or_true]
       split
       ·rename_i hh
        rcases hh with q|q|q|q
        ·exact absurd q h0
        ·exact absurd q h1
        ·exact absurd q hm
        ·rw[bQ];exact⟨s,q,h3⟩
       ·simp[h3]
     ·cases h
 | .list [],_,_,_,h,_=>by cases h
 | .list [_],_,_,_,h,_=>by cases h
 | .list [_,_],_,_,_,h,_=>by cases h
 | .list (_::_::_::_::_),_,_,_,h,_=>by cases h
 |
  .list [x,a,b],ar,l,t,h,har=>by
  rw[jY]
  by_cases h0:x.at=[43]
  ·obtain⟨t1,t2,e1,e2,rfl⟩:=fB h0 h
   rw[if_neg (by rw[h0];decide),lu b ar _ t2 e2 har,lu a ar l t1 e1 har,bH,Bool.or_assoc]
  ·by_cases h1:x.at=[42]
   ·obtain⟨t1,t2,e1,e2,rfl⟩:=eY h1 h
    rw[if_neg (by rw[h1];decide),lu b ar _ t2 e2 har,lu a ar l t1 e1 har,bH,Bool.or_assoc]
   ·by_cases h2:x.at=[114,101,99]
    ·obtain⟨t1,hl,e1,rfl⟩:=dj h2 h
     rw[if_pos h2,lu b _ l t1 e1 (fun w hw=>by
      simp only[aK,aQ]at hw
      rcases hw with hw|rfl
      ·exact har w hw
      ·exact hl),bH]
    ·rw[iN _ h0 h1 h2]at h;cases h
def jn(s:List UInt8):Option E:=match vo s with
 |none=>none
 |some e=>if(jY e [] []).any cQ=true then none else some e
theorem Ac{s:List UInt8}:qI s=match jn s with|none=>none|some e=>cy e []:=by
 unfold qI jn
 rw[tR]
 cases he:vo s with
 |none=>rfl
 |
  some e =>
  obtain⟨h1,h2,h3⟩:=oM he
  have hs:=iB e []
  rw[h2]at hs
  obtain⟨t,ht⟩:=bi.1 hs
  have ha:=lu e [] [] t ht (fun w hw=>by cases hw)
  simp only[ht,rV,ha,List.any_nil,Bool.false_or]
  cases hf:bH t<;>simp[ht]
theorem iA{s:List UInt8}{e:E}(h:jn s=some e):∃t,qI s=some t/\Ask e [] t/\jD e=true/\e.sz<=8000/\t.aB<=400/\qj s=some e:=by
 have h0:=h
 unfold jn at h
 split at h
 ·cases h
 ·rename_i e' he
  split at h
  ·cases h
  ·rename_i hn
   cases h
   obtain⟨h1,h2,h3⟩:=oM he
   obtain⟨hok,hsz⟩:=mZ h1
   have hs:=iB e []
   rw[h2]at hs
   obtain⟨t,ht⟩:=bi.1 hs
   have ha:=lu e [] [] t ht (fun w hw=>by cases hw)
   rw[ha]at hn
   refine⟨t,by rw[Ac,h0];exact ht,⟨hok,.nil,ht,by simpa using hn⟩,h2,hsz,?_,h1⟩
   rw[<-jC e [] t ht];exact h3
theorem mB{s:List UInt8}(h:jn s=none):qI s=none:=by rw[Ac,h]
theorem Hp(e:E)(l:List (List UInt8))(hl:l.length<1000000):∀(k i:Nat),i+k=l.length->EL [.v (.int .i64 (i:Int))] [.cells [.v (.string (mk [])),.v (.slice none 0 0)],.cells [.v (.string (mk e.at)),e.sp],.vec 1 (cb l)]
 (rK (if(l.drop i).any cQ=true then(2,[.v (.bool false)],[.cells [.v (.string (mk e.at)),e.sp]])else(1,[],[.cells [.v (.string (mk [])),.v (.slice none 0 0)],.cells [.v (.string (mk e.at)),e.sp]])))
 |
  0,i,hi=>by
  refine JP _ _ _ _ _ _ ?_
  have hd:l.drop i=[]:=bB (by omega)
  have hll:(cb l).length=l.length:=by simp[cb]
  simp only[Et,↓zq,zs,af,hd,hll,aV]
  exact⟨fun h=>by omega,fun _=>by simp[rK]⟩
 |
  k+1,i,hi=>by
  have hlt:i<l.length:=by omega
  have hll:(cb l).length=l.length:=by simp[cb]
  have hdr:l.drop i=l.getD i []::l.drop (i+1):=by
   rw[ba hlt];simp[aa,hlt]
  have hg:=(dN.of l).idx hlt
  simp only[fw]at hg
  refine JP _ _ _ _ _ _ ?_
  simp only[Et,↓zq,zs,af,zt,hll,hg,aV]
  refine⟨fun _=>⟨by omega,by omega,aj (EH _) ?_⟩,fun h=>by omega⟩
  simp only[↓zq,zs,af,hdr,List.any_cons]
  refine⟨fun h=>?_,fun h=>?_⟩
  ·rw[h];simp[rK]
  ·rw[h,bS i (by omega)]
   simp only[Bool.false_or]
   exact Hp e l hl k (i+1) (by omega)
theorem Cv(s:List UInt8):az Tryz.prog 46 [.v (.string (mk s))] [] (mo (jn s) (jn s).isSome):=by
 refine LS _ ?_
 unfold GX
 refine aM (Ei s) (mo.ne _ _ (fun h=>h)) ?_
 rintro r o ⟨c,d,hd,rfl,hh⟩
 have hhas:bT [.str,.sl] [.v (.string (mk c)),d] 0:=by simp[bT,dC,hd]
 simp only[↓zq,zs,af,zt]
 refine⟨hhas,fun h=>?_,fun h=>?_⟩
 ·have hn:vo s=none:=by cases hq:vo s<;>simp[hq]at h |-
  unfold jn
  rw[hn]
  exact⟨c,d,hd,rfl,fun h=>by cases h⟩
 ·obtain⟨e,he,hce⟩:=hh h
  obtain⟨h1,h2,h3⟩:=oM he
  obtain⟨hok,hsz⟩:=mZ h1
  have hce':=hce
  rw[dU]at hce'
  simp only[AV.agg.injEq,List.cons.injEq,AV.v.injEq,Value.string.injEq,and_true]at hce'
  obtain⟨hc1,rfl⟩:=hce'
  have hc2:=AR hc1
  subst hc2
  rw[<-dU]
  refine bj (CS e [] [] _ hok h2 (.of []) (by simp;omega)) ?_
  have hfl:=fU e [] []
  simp only[↓zq,zs,af]
  have hLS:=Hp e (jY e [] []) (by simp at hfl;omega) (jY e [] []).length 0 (by omega)
  simp only[bO]at hLS
  unfold jn
  rw[he]
  refine i6 hLS (fun ys o e'=>?_) (fun ys o e'=>?_)
  ·split at e'<;>cases e'
   rename_i hn
   simp only[↓zq,zs,af,aV,if_neg hn]
   exact⟨e.at,e.sp,hd,rfl,fun _=>⟨e,rfl,(dU e).symm⟩⟩
  ·split at e'<;>cases e'
   rename_i hn
   simp only[↓zq,zs,af,aV,if_pos hn]
   exact⟨e.at,e.sp,hd,rfl,fun h=>by cases h⟩
def om(s v:List UInt8)(n:Int):Option Vl:=match jn s,pE v with
 |some e,some w=>if(0<=n/\n<=100)/\fS n.toNat w (e,[])=true then some w else none
 |_,_=>none
theorem kz{s v:List UInt8}{n:Int}{w:Vl}(h:om s v n=some w):∃e t m,jn s=some e/\pE v=some w/\qI s=some t/\Ask e [] t/\n=(m:Nat)/\m<=100/\fS m w (e,[])=true:=by
 unfold om at h
 split at h
 ·rename_i e w' he hw
  split at h
  ·rename_i hh
   cases h
   obtain⟨t,h1,h2,_⟩:=iA he
   exact⟨e,t,n.toNat,he,hw,h1,h2,by omega,by omega,hh.2⟩
  ·cases h
 ·cases h
theorem Lt(s v:List UInt8)(n:Int):az Tryz.prog 34 [.v (.string (mk s)),.v (.string (mk v)),.v (.int .i64 n)] [] (bG (.cx [gW (qI s),ij (om s v n)])):=by
 refine MC _ _ _ ?_
 unfold Jj
 refine aj (JM s) ?_
 simp only[↓zq,zs,af,fP]
 refine aj (FL v) ?_
 simp only[↓zq,zs,af,fy,bG]
 unfold om
 cases he:jn s with
 |none=>rw[mB he];cases pE v<;>simp[gW,ij,↓zq,zs,af]
 |
  some e =>
  obtain⟨t,h1,h2,h3,h4,h5,_⟩:=iA he
  rw[h1]
  cases hv:pE v with
  |none=>simp only[gW,ij,aG,fg,↓zq,zs,af];exact⟨fun h=>(by cases h),fun _=>⟨fun _=>trivial,fun h=>(by cases h)⟩⟩
  |
   some w =>
   obtain⟨h6,h7,h8⟩:=gF hv
   simp only[gW,ij,aG,fg,bo,eM,↓zq,zs,af]
   refine⟨fun h=>(by cases h),fun _=>⟨fun h=>(by cases h),fun _=>⟨fun h=>?_,fun h=>⟨fun h'=>?_,fun h'=>?_⟩⟩⟩⟩
   ·rw[if_neg (by omega)]
   ·rw[if_neg (by omega)]
   ·obtain⟨m,rfl⟩:∃m:Nat,n=(m:Int):=⟨n.toNat,by omega⟩
    have hi:=Hs m (by omega) (w.nodes+1) w (by omega) h7 e [] t h2 (by simp;omega)
    unfold pS at hi
    refine aj hi ?_
    simp only[↓zq,zs,af,cc]
    refine⟨fun hq=>?_,fun hq=>?_⟩
    ·rw[if_neg (by rw[hq];simp)]
    ·rw[if_pos ⟨by omega,hq⟩]
theorem NM(s v:List UInt8)(n:Int):az Tryz.prog 39 [.v (.string (mk s)),.v (.string (mk v)),.v (.int .i64 n)] [] (bG (.v (.bool (om s v n).isSome))):=by
 refine K3 _ _ _ ?_
 unfold JN
 refine aM (Cv s) (mo.ne _ _ (fun h=>h)) ?_
 rintro r o ⟨c,d,hd,rfl,hh⟩
 have hhas:bT [.str,.sl] [.v (.string (mk c)),d] 0:=by simp[bT,dC,hd]
 simp only[↓zq,zs,af,zt]
 refine⟨hhas,?_⟩
 refine aM (IR v) (mo.ne _ _ (fun h=>by cases hq:pE v<;>simp[hq]at h |-)) ?_
 rintro r o ⟨c',d',hd',rfl,hh'⟩
 have hhas':bT [.str,.sl] [.v (.string (mk c')),d'] 0:=by simp[bT,dC,hd']
 simp only[↓zq,zs,af,zt,bG]
 refine⟨hhas',fun h=>⟨fun h2=>?_,fun h2=>?_⟩,fun h=>?_⟩
 ·obtain⟨e,he,hce⟩:=hh h
  obtain⟨t,h1,hA,h3,h4,h5,_⟩:=iA he
  obtain⟨w,hw⟩:=bi.1 h2
  obtain⟨e2,he2,hce2⟩:=hh' h2
  rw[hw]at he2
  cases he2
  obtain⟨h6,h7,h8⟩:=gF hw
  refine aj (BO _ _ _) ?_
  simp only[↓zq,zs,af,DJ,om,he,hw]
  refine⟨fun hq=>?_,fun hq=>?_⟩
  ·have hq':0<=n/\n<=100:=by simpa using hq
   obtain⟨m,rfl⟩:∃m:Nat,n=(m:Int):=⟨n.toNat,by omega⟩
   rw[hce,hce2]
   have:=MQ m (by omega) w h7 e [] t hA (by simp;omega)
   rw[show jT []=[] from rfl]at this
   refine aj this ?_
   simp only[↓zq,zs,af,cc]
   by_cases hb:fS m w (e,[])=true
   ·rw[if_pos ⟨hq',hb⟩,hb];rfl
   ·rw[if_neg (fun h=>hb h.2)]
    rw[Bool.not_eq_true]at hb
    rw[hb];rfl
  ·have hq':¬(0<=n/\n<=100):=by simpa using hq
   rw[if_neg (fun h=>hq' h.1)];rfl
 ·have hn:pE v=none:=by cases hq:pE v<;>simp[hq]at h2 |-
  unfold om
  rw[hn];cases jn s<;>rfl
 ·have hn:jn s=none:=by cases hq:jn s<;>simp[hq]at h |-
  unfold om
  rw[hn];rfl
end Go.Proofs.Trees
namespace Go.Proofs.Trees
open Go Go.VL Go.RowKit
inductive Tg where
 |nm (s:List UInt8)
 |bd (k:Nat)
 deriving DecidableEq
def Tg.up:Tg->Tg
 | .nm s=>.nm s
 | .bd k=>.bd (k+1)
def eT:Ty->Tg->Bool
 | .name s,.nm s'=>decide (s=s')
 | .bA u,.bd k=>decide (u=k)
 |_,_=>false
abbrev Hl:=Vl×Vl
def lL(g:Vl->Vl)(l:List Hl):List Hl:=l.map fun h=>(g h.1,h.2)
def jg(f:Ty->Tg->Vl->List Hl)(tg:Tg):Ty->Vl->List Hl
 | .plus a _,.l w=>lL .l (f a tg w)
 | .plus _ b,.r w=>lL .r (f b tg w)
 | .times a b,.p x y=>lL (fun c=>.l (.p c y)) (f a tg x)++lL (fun c=>.r (.p x c)) (f b tg y)
 | .rc a,.f w=>lL (fun c=>.f (.l c)) (f a tg.up w)++(f a (.bd 0) w).flatMap fun h=>lL (fun c=>.f (.r (.p h.1 c))) (f (.rc a) tg h.2)
 |_,_=>[]
def dB:Nat->Ty->Tg->Vl->List Hl
 |0,_,_,_=>[]
 |n+1,t,tg,v=>if eT t tg=true then [(.u,v)]else jg (dB n) tg t v
def stuck:Ty->Vl->Bool
 | .plus _ _,.l _=>false
 | .plus _ _,.r _=>false
 | .times _ _,.p _ _=>false
 | .rc _,.f _=>false
 |_,_=>true
def bY(t:Ty)(tg:Tg)(v:Vl):List Hl:=dB v.nodes t tg v
theorem dx{g:Vl->Vl}{l:List Hl}{h:Hl}(hm:h∈lL g l):∃k,k∈l/\h=(g k.1,k.2):=by
 obtain⟨k,h1,h2⟩:=ca.1 hm
 exact⟨k,h1,h2.symm⟩
theorem iF{f g:Hl->List Hl}:∀{l:List Hl},(∀h,h∈l->f h=g h)->l.flatMap f=l.flatMap g
 |[],_=>rfl
 |h::l,hl=>by rw[List.flatMap_cons,List.flatMap_cons,hl h ah,iF (l:=l) fun k hk=>hl k (ak _ hk)]
theorem eX:∀(n:Nat) (t:Ty) (tg:Tg) (v:Vl) (h:Hl),h∈dB n t tg v->h.2.nodes<=v.nodes/\h.1.nodes+4*h.2.nodes<=4*v.nodes+1
 |0,t,tg,v,h,hm=>by simp[dB]at hm
 |
  n+1,t,tg,v,h,hm=>by
  unfold dB at hm
  split at hm
  ·simp only[aQ]at hm
   subst hm
   simp only[Vl.nodes];omega
  ·unfold jg at hm
   split at hm
   ·obtain⟨k,h1,rfl⟩:=dx hm
    have:=eX n _ _ _ k h1
    simp only[Vl.nodes];omega
   ·obtain⟨k,h1,rfl⟩:=dx hm
    have:=eX n _ _ _ k h1
    simp only[Vl.nodes];omega
   ·rcases aK.1 hm with hm|hm
    ·obtain⟨k,h1,rfl⟩:=dx hm
     have:=eX n _ _ _ k h1
     simp only[Vl.nodes];omega
    ·obtain⟨k,h1,rfl⟩:=dx hm
     have:=eX n _ _ _ k h1
     simp only[Vl.nodes];omega
   ·rcases aK.1 hm with hm|hm
    ·obtain⟨k,h1,rfl⟩:=dx hm
     have:=eX n _ _ _ k h1
     simp only[Vl.nodes];omega
    ·obtain⟨k,h1,h2⟩:=List.mem_flatMap.1 hm
     obtain⟨k2,h3,rfl⟩:=dx h2
     have:=eX n _ _ _ k h1
     have:=eX n _ _ _ k2 h3
     simp only[Vl.nodes];omega
   ·simp at hm
theorem gO:∀(n m:Nat) (t:Ty) (tg:Tg) (v:Vl),v.nodes<=n->v.nodes<=m->dB n t tg v=dB m t tg v
 |0,m,t,tg,v,h,_=>by have:=dc v;omega
 |n+1,0,t,tg,v,_,h=>by have:=dc v;omega
 |
  n+1,m+1,t,tg,v,hn,hm=>by
  rw[dB,dB]
  split
  ·rfl
  ·unfold jg
   split
   ·simp only[Vl.nodes]at hn hm;rw[gO n m _ _ _ (by omega) (by omega)]
   ·simp only[Vl.nodes]at hn hm;rw[gO n m _ _ _ (by omega) (by omega)]
   ·simp only[Vl.nodes]at hn hm;rw[gO n m _ _ _ (by omega) (by omega),gO n m _ _ _ (by omega) (by omega)]
   ·rename_i a w
    simp only[Vl.nodes]at hn hm;rw[gO n m _ _ _ (by omega) (by omega),gO n m _ (.bd 0) _ (by omega) (by omega)]
    congr 1
    apply iF
    intro h hh
    have:=(eX _ _ _ _ _ hh).1
    rw[gO n m _ _ _ (by omega) (by omega)]
   ·rfl
theorem nV{n:Nat}(t:Ty)(tg:Tg){v:Vl}(h:v.nodes<=n):dB n t tg v=bY t tg v:=gO _ _ _ _ _ h (ap _)
theorem ov{t:Ty}{tg:Tg}(v:Vl)(h:eT t tg=true):bY t tg v=[(.u,v)]:=by
 have:=dc v
 unfold bY
 cases e:v.nodes with
 |zero=>omega
 |succ n=>rw[dB,if_pos h]
theorem ot(a b:Ty)(tg:Tg)(w:Vl):bY (.plus a b) tg (.l w)=lL .l (bY a tg w):=by
 unfold bY;rw[show (Vl.l w).nodes=w.nodes+1 by simp[Vl.nodes];omega,dB,if_neg (by simp[eT])];rfl
theorem nZ(a b:Ty)(tg:Tg)(w:Vl):bY (.plus a b) tg (.r w)=lL .r (bY b tg w):=by
 unfold bY;rw[show (Vl.r w).nodes=w.nodes+1 by simp[Vl.nodes];omega,dB,if_neg (by simp[eT])];rfl
theorem nC(a b:Ty)(tg:Tg)(x y:Vl):bY (.times a b) tg (.p x y)=lL (fun c=>.l (.p c y)) (bY a tg x)++lL (fun c=>.r (.p x c)) (bY b tg y):=by
 rw[bY,show (Vl.p x y).nodes=(x.nodes+y.nodes)+1 by simp[Vl.nodes];omega,dB,if_neg (by simp[eT])]
 rw[jg,nV a tg (by omega),nV b tg (by omega)]
theorem nX(a:Ty)(tg:Tg)(w:Vl):bY (.rc a) tg (.f w)=lL (fun c=>.f (.l c)) (bY a tg.up w)++(bY a (.bd 0) w).flatMap fun h=>lL (fun c=>.f (.r (.p h.1 c))) (bY (.rc a) tg h.2):=by
 rw[bY,show (Vl.f w).nodes=w.nodes+1 by simp[Vl.nodes];omega,dB,if_neg (by simp[eT])]
 rw[jg,nV a tg.up (ap _),nV a (.bd 0) (ap _)]
 congr 1
 apply iF
 intro h hh
 have:=(eX _ _ _ _ _ hh).1
 rw[nV (.rc a) tg this]
theorem eI{t:Ty}{tg:Tg}{v:Vl}(h:eT t tg=false)(h2:stuck t v=true):bY t tg v=[]:=by
 unfold bY
 cases e:v.nodes with
 |zero=>rfl
 |
  succ n =>
  rw[dB,if_neg (by rw[h];simp)]
  unfold jg
  split<;>first|(simp[stuck]at h2;done)|rfl
theorem jO{t:Ty}{tg:Tg}{v:Vl}{h:Hl}(hm:h∈bY t tg v):h.2.nodes<=v.nodes/\h.1.nodes+4*h.2.nodes<=4*v.nodes+1:=eX _ _ _ _ _ hm
theorem fT(n:Nat):∀(m:Nat) (t:Ty) (tg:Tg) (v:Vl) (h:Hl),v.iu n->h∈dB m t tg v->h.1.iu n/\h.2.iu n
 |0,t,tg,v,h,hv,hm=>by simp[dB]at hm
 |
  m+1,t,tg,v,h,hv,hm=>by
  unfold dB at hm
  split at hm
  ·simp only[aQ]at hm
   subst hm
   exact⟨trivial,hv⟩
  ·unfold jg at hm
   split at hm
   ·obtain⟨k,h1,rfl⟩:=dx hm
    exact(fun q=>fT n m _ _ _ k q h1) hv
   ·obtain⟨k,h1,rfl⟩:=dx hm
    exact(fun q=>fT n m _ _ _ k q h1) hv
   ·rcases aK.1 hm with hm|hm
    ·obtain⟨k,h1,rfl⟩:=dx hm
     obtain⟨q1,q2⟩:=fT n m _ _ _ k hv.1 h1
     exact⟨⟨q1,hv.2⟩,q2⟩
    ·obtain⟨k,h1,rfl⟩:=dx hm
     obtain⟨q1,q2⟩:=fT n m _ _ _ k hv.2 h1
     exact⟨⟨hv.1,q1⟩,q2⟩
   ·rcases aK.1 hm with hm|hm
    ·obtain⟨k,h1,rfl⟩:=dx hm
     exact(fun q=>fT n m _ _ _ k q h1) hv
    ·obtain⟨k,h1,h2⟩:=List.mem_flatMap.1 hm
     obtain⟨k2,h3,rfl⟩:=dx h2
     obtain⟨q1,q2⟩:=(fun q=>fT n m _ _ _ k q h1) hv
     obtain⟨q3,q4⟩:=fT n m _ _ _ k2 q2 h3
     exact⟨⟨q1,q3⟩,q4⟩
   ·simp at hm
def lO(l:List Hl):Nat:=(l.map fun h=>h.2.nodes).sum
theorem qW(l r:List Hl):lO (l++r)=lO l+lO r:=by simp[lO]
theorem nS(g:Vl->Vl)(l:List Hl):lO (lL g l)=lO l:=by simp[lO,lL,Function.comp_def]
def j9(f:Tg->Nat)(T:List Tg):Nat:=(T.map f).sum
theorem nN(f g:Tg->Nat):∀T:List Tg,j9 (fun x=>f x+g x) T=j9 f T+j9 g T
 |[]=>rfl
 |x::T=>by have:=nN f g T;simp only[j9,bE,List.sum_cons]at this |-;omega
theorem xn{f g:Tg->Nat}:∀{T:List Tg},(∀x,x∈T->f x<=g x)->j9 f T<=j9 g T
 |[],_=>ap _
 |
  x::T,h=>by
  have:=xn (T:=T) fun y hy=>h y (ak _ hy)
  have:=h x ah
  simp only[j9,bE,List.sum_cons]at *;omega
theorem oW{f:Tg->Nat}:∀{T:List Tg},(∀x,x∈T->f x=0)->j9 f T=0
 |[],_=>rfl
 |
  x::T,h=>by
  have:=oW (T:=T) fun y hy=>h y (ak _ hy)
  have:=h x ah
  simp only[j9,bE,List.sum_cons]at *;omega
theorem sb(g:Hl->Tg->Nat)(T:List Tg):∀l:List Hl,j9 (fun x=>(l.map fun h=>g h x).sum) T=(l.map fun h=>j9 (g h) T).sum
 |[]=>oW fun _ _=>rfl
 |
  h::l=>by
  have:=sb g T l
  simp only[bE,List.sum_cons]
  rw[nN,this]
theorem sN(f:Hl->List Hl):∀l:List Hl,lO (l.flatMap f)=(l.map fun h=>lO (f h)).sum
 |[]=>rfl
 |h::l=>by rw[List.flatMap_cons,qW,sN f l];simp
theorem zH{f g:Hl->Nat}:∀{l:List Hl},(∀x,x∈l->f x<=g x)->(l.map f).sum<=(l.map g).sum
 |[],_=>ap _
 |
  x::l,h=>by
  have:=zH (l:=l) fun y hy=>h y (ak _ hy)
  have:=h x ah
  simp only[bE,List.sum_cons]at *;omega
theorem zO{t:Ty}{x y:Tg}(h:eT t x=true)(h':eT t y=true):x=y:=by
 cases t<;>cases x<;>cases y<;>simp[eT]at h h'<;>simp_all
theorem xt{t:Ty}(n:Nat):∀{T:List Tg},T.Nodup->j9 (fun x=>if eT t x=true then n else 0) T<=n
 |[],_=>dJ _
 |
  x::T,h=>by
  obtain⟨h1,h2⟩:=List.nodup_cons.1 h
  have ih:=xt (t:=t) n h2
  by_cases hx:eT t x=true
  ·have:j9 (fun x=>if eT t x=true then n else 0) T=0:=oW fun y hy=>by
    rw[if_neg fun hy'=>h1 (by rw[zO hx hy'];exact hy)]
   simp only[j9,bE,List.sum_cons]at *
   rw[if_pos hx];omega
  ·simp only[j9,bE,List.sum_cons]at *
   rw[if_neg hx];omega
theorem AX{T:List Tg}(h:T.Nodup):(Tg.bd 0::T.map Tg.up).Nodup:=by
 refine List.nodup_cons.2 ⟨fun hm=>?_,?_⟩
 ·obtain⟨x,_,e⟩:=ca.1 hm
  cases x<;>simp[Tg.up]at e
 ·refine List.Pairwise.map _ (fun a b hab e=>hab ?_) h
  cases a<;>cases b<;>simp[Tg.up]at e<;>simp_all
theorem apart:∀(n:Nat) (v:Vl),v.nodes<=n->∀(t:Ty) (T:List Tg),T.Nodup->j9 (fun x=>lO (bY t x v)) T<=v.nodes
 |0,v,h=>by have:=dc v;omega
 |
  n+1,v,hn=>by
  intro t T hT
  have base:∀(hno:∀x,eT t x=false->bY t x v=[]),j9 (fun x=>lO (bY t x v)) T<=v.nodes:=fun hno=>by
   refine Nat.le_trans (xn fun x _=>?_) (xt (t:=t) v.nodes hT)
   cases e:eT t x with
   |true=>rw[ov v e];simp[lO]
   |false=>rw[hno x e];simp[lO]
  cases hm:stuck t v with
  |true=>exact base fun x hx=>eI hx hm
  |
   false =>
   unfold stuck at hm
   split at hm
   ·rename_i a b w
    simp only[Vl.nodes]at hn |-
    simp only[ot,nS]
    have:=apart n w (by omega) a T hT
    omega
   ·rename_i a b w
    simp only[Vl.nodes]at hn |-
    simp only[nZ,nS]
    have:=apart n w (by omega) b T hT
    omega
   ·rename_i a b x y
    simp only[Vl.nodes]at hn |-
    simp only[nC,qW,nS]
    rw[nN]
    have:=apart n x (by omega) a T hT
    have:=apart n y (by omega) b T hT
    omega
   ·rename_i a w
    simp only[Vl.nodes]at hn |-
    simp only[nX,qW,nS,sN]
    rw[nN,sb]
    have h1:=apart n w (by omega) a _ (AX hT)
    simp only[j9,bE,List.sum_cons,List.map_map]at h1
    have h2:((bY a (.bd 0) w).map fun h=>j9 (fun x=>lO (bY (.rc a) x h.2)) T).sum<=lO (bY a (.bd 0) w):=zH fun h hh=>by
     have:=(jO hh).1
     exact apart n h.2 (by omega) (.rc a) T hT
    simp only[j9,Function.comp_def]at h1 h2 |-
    omega
   ·cases hm
theorem qR(t:Ty)(tg:Tg)(v:Vl):lO (bY t tg v)<=v.nodes:=by
 have:=apart v.nodes v (ap _) t [tg] (by simp)
 simpa[j9]using this
theorem qF:∀l:List Hl,l.length<=lO l
 |[]=>dJ _
 |
  h::l=>by
  have:=qF l
  have:=dc h.2
  simp only[lO,bE,List.sum_cons,aq]at *;omega
theorem rN(t:Ty)(tg:Tg)(v:Vl):(bY t tg v).length<=v.nodes:=Nat.le_trans (qF _) (qR t tg v)
end Go.Proofs.Trees
namespace Go.Proofs.Trees
open Go Go.VL Go.RowKit
def gb(ar:List (List UInt8))(k:Nat):List UInt8:=ar.getD (ar.length-1-k) []
theorem fC{s:List UInt8}{ar:List (List UInt8)}:∀(i u:Nat),i<=ar.length->bx s ar i=some u->u<ar.length/\gb ar u=s
 |0,u,_,h=>by cases h
 |
  i+1,u,hi,h=>by
  rw[bx]at h
  split at h
  ·rename_i e
   cases h
   refine⟨by omega,?_⟩
   rw[gb,show ar.length-1-(ar.length-1-i)=i by omega];exact e
  ·exact fC i u (by omega) h
def ud:Ty->Tg->Bool
 | .plus a b,tg=>ud a tg||ud b tg
 | .times a b,tg=>ud a tg||ud b tg
 | .rc a,tg=>ud a tg.up
 |t,tg=>eT t tg
theorem iJ:∀(n:Nat) (v:Vl),v.nodes<=n->∀(t:Ty) (tg:Tg),ud t tg=false->bY t tg v=[]
 |0,v,h=>by have:=dc v;omega
 |
  n+1,v,hn=>by
  intro t tg ho
  cases hm:stuck t v with
  |
   true =>
   refine eI ?_ hm
   cases t<;>first|exact ho|rfl
  |
   false =>
   unfold stuck at hm
   split at hm
   ·simp only[Vl.nodes]at hn
    simp only[ud,bK]at ho
    rw[ot,iJ n _ (by omega) _ _ ho.1];rfl
   ·simp only[Vl.nodes]at hn
    simp only[ud,bK]at ho
    rw[nZ,iJ n _ (by omega) _ _ ho.2];rfl
   ·simp only[Vl.nodes]at hn
    simp only[ud,bK]at ho
    rw[nC,iJ n _ (by omega) _ _ ho.1,iJ n _ (by omega) _ _ ho.2];rfl
   ·rename_i a w
    simp only[Vl.nodes]at hn
    have ho':ud a tg.up=false:=ho
    rw[nX,iJ n _ (by omega) _ _ ho']
    have:(bY a (.bd 0) w).flatMap (fun h=>lL (fun c=>.f (.r (.p h.1 c))) (bY (.rc a) tg h.2))=(bY a (.bd 0) w).flatMap (fun _=>[]):=iF fun h hh=>by
     have:=(jO hh).1
     rw[iJ n h.2 (by omega) (.rc a) tg ho];rfl
    rw[this]
    induction bY a (.bd 0) w<;>simp_all[lL]
   ·cases hm
theorem kH:∀(e:E) (ar:List (List UInt8)) (t:Ty) (k:Nat),cy e ar=some t->ud t (.bd k)=true->k<ar.length/\bx (gb ar k) ar ar.length=some k
 |
  .atom s,ar,t,k,ht,ho=>by
  simp only[cy]at ht
  split at ht
  ·cases ht;cases ho
  ·split at ht
   ·cases ht;cases ho
   ·split at ht
    ·cases ht;cases ho
    ·split at ht
     ·split at ht
      ·rename_i u hu
       cases ht
       have:u=k:=by simpa[ud,eT]using ho
       subst this
       obtain⟨h1,h2⟩:=fC _ _ (ap _) hu
       exact⟨h1,by rw[h2];exact hu⟩
      ·cases ht;cases ho
     ·cases ht
 |
  .list [x,a,b],ar,t,k,ht,ho=>by
  by_cases h0:x.at=[43]
  ·obtain⟨t1,t2,h1,h2,rfl⟩:=fB h0 ht
   simp only[ud,bg]at ho
   rcases ho with ho|ho
   ·exact kH a ar t1 k h1 ho
   ·exact kH b ar t2 k h2 ho
  ·by_cases h1:x.at=[42]
   ·obtain⟨t1,t2,h1,h2,rfl⟩:=eY h1 ht
    simp only[ud,bg]at ho
    rcases ho with ho|ho
    ·exact kH a ar t1 k h1 ho
    ·exact kH b ar t2 k h2 ho
   ·by_cases h2:x.at=[114,101,99]
    ·obtain⟨t1,_,h3,rfl⟩:=dj h2 ht
     obtain⟨q1,q2⟩:=kH b (ar++[a.at]) t1 (k+1) h3 ho
     simp only[an,aq,aE]at q1
     have hk:k<ar.length:=by omega
     have e:gb (ar++[a.at]) (k+1)=gb ar k:=by
      unfold gb
      rw[an,show ar.length+[a.at].length-1-(k+1)=ar.length-1-k by simp;omega]
      simp[aa,List.getElem?_append_left (show ar.length-1-k<ar.length by omega)]
     rw[e]at q2
     refine⟨hk,?_⟩
     have e2:(ar++[a.at]).length=ar.length+1:=by simp
     rw[e2,bx]at q2
     split at q2
     ·rw[e2]at q2;simp at q2
     ·rw[j0 _ _ _ _ (ap _)]at q2
      cases hq:bx (gb ar k) ar ar.length with
      |none=>rw[hq]at q2;cases q2
      |some u=>rw[hq]at q2;simpa using q2
    ·rw[iN _ h0 h1 h2]at ht;cases ht
 | .list [],ar,t,k,ht,ho=>by cases ht
 | .list [_],ar,t,k,ht,ho=>by cases ht
 | .list [_,_],ar,t,k,ht,ho=>by cases ht
 | .list (_::_::_::_::_),ar,t,k,ht,ho=>by cases ht
theorem fO(w:List UInt8)(ar:List (List UInt8)):bx w (ar++[w]) (ar++[w]).length=some 0:=by
 have e2:(ar++[w]).length=ar.length+1:=by simp
 rw[e2,bx,if_pos (by simp[aa]),e2];simp
theorem jo{s w:List UInt8}(ar:List (List UInt8))(h:w≠s):bx s (ar++[w]) (ar++[w]).length=(bx s ar ar.length).map (·+1):=by
 have e2:(ar++[w]).length=ar.length+1:=by simp
 rw[e2,bx,if_neg (by simpa[aa]using h),j0 _ _ _ _ (ap _)]
theorem Ea{b:E}{ar:List (List UInt8)}{w:List UInt8}{t:Ty}{k:Nat}(hb:cy b (ar++[w])=some t)(hk:bx w ar ar.length=some k):ud t (.bd (k+1))=false:=by
 cases h:ud t (.bd (k+1))with
 |false=>rfl
 |
  true =>
  obtain⟨_,q2⟩:=kH _ _ _ _ hb h
  obtain⟨h1,h2⟩:=fC _ _ (ap _) hk
  have e:gb (ar++[w]) (k+1)=gb ar k:=by
   unfold gb
   rw[an,show ar.length+[w].length-1-(k+1)=ar.length-1-k by simp;omega]
   simp[aa,List.getElem?_append_left (show ar.length-1-k<ar.length by omega)]
  rw[e,h2,fO]at q2
  cases q2
def ny(s:List UInt8)(ar:List (List UInt8)):Tg:=match bx s ar ar.length with|some u=>.bd u|none=>.nm s
theorem zN(w:List UInt8)(ar:List (List UInt8)):ny w (ar++[w])=.bd 0:=by rw[ny,fO]
theorem yj{s w:List UInt8}(ar:List (List UInt8))(h:w≠s):ny s (ar++[w])=(ny s ar).up:=by
 rw[ny,ny,jo ar h]
 cases bx s ar ar.length<;>rfl
theorem iZ(n:Nat):∀(m:Nat) (v:Vl),v.nodes<=m->∀(e:E) (env:List Fr) (t:Ty),Ask e env t->fS n v (e,env)=true->∀(k:Nat) (f:Fr),env[k]?=some f->∀h,h∈bY t (.bd k) v->fS n h.2 (f.ex,f.out)=true
 |0,v,hm=>by have:=dc v;omega
 |
  m+1,v,hm=>by
  intro e env t A hv k f hf h hh
  rcases mw A.wf A.ty with⟨hb,hq⟩|⟨u,g,rfl,hq,hu⟩
  ·have hhd:hd e env=(e,env):=kW hq
   rcases jx A.ty hb A.cl with⟨rfl,rfl⟩|⟨rfl,rfl⟩|⟨s,rfl,rfl,hp,h0,h1⟩|⟨x,a,b,t1,t2,rfl,hx,rfl,ha,hbb⟩|⟨x,a,b,t1,t2,rfl,hx,rfl,ha,hbb⟩|⟨x,a,b,t1,rfl,hx,rfl⟩
   ·rw[eI rfl (by cases v<;>rfl)]at hh;cases hh
   ·rw[eI rfl (by cases v<;>rfl)]at hh;cases hh
   ·rw[eI rfl (by cases v<;>rfl)]at hh;cases hh
   ·obtain⟨ok1,ok2,ok3,_⟩:=A.ok
    obtain⟨f1,f2⟩:=hJ A.cl
    cases v with
    |
     l w =>
     simp only[fS,hhd,hx,beq_self_eq_true,bW]at hv
     simp only[Vl.nodes]at hm
     rw[ot]at hh
     obtain⟨h2,h3,rfl⟩:=dx hh
     exact iZ n m w (by omega) a env t1 ⟨ok2,A.wf,ha,f1⟩ hv k f hf h2 h3
    |
     r w =>
     simp only[fS,hhd,hx,beq_self_eq_true,bW]at hv
     simp only[Vl.nodes]at hm
     rw[nZ]at hh
     obtain⟨h2,h3,rfl⟩:=dx hh
     exact iZ n m w (by omega) b env t2 ⟨ok3,A.wf,hbb,f2⟩ hv k f hf h2 h3
    |_=>rw[eI rfl rfl]at hh;cases hh
   ·obtain⟨ok1,ok2,ok3,_⟩:=A.ok
    obtain⟨f1,f2⟩:=gl A.cl
    cases v with
    |
     p w w' =>
     simp only[fS,hhd,hx,beq_self_eq_true,bW,au]at hv
     simp only[Vl.nodes]at hm
     rw[nC]at hh
     rcases aK.1 hh with hh|hh
     ·obtain⟨h2,h3,rfl⟩:=dx hh
      exact iZ n m w (by omega) a env t1 ⟨ok2,A.wf,ha,f1⟩ hv.1 k f hf h2 h3
     ·obtain⟨h2,h3,rfl⟩:=dx hh
      exact iZ n m w' (by omega) b env t2 ⟨ok3,A.wf,hbb,f2⟩ hv.2 k f hf h2 h3
    |_=>rw[eI rfl rfl]at hh;cases hh
   ·obtain⟨t1',he1,h1,f1,hw1⟩:=ky A.wf A.ok hx A.ty A.cl
    cases he1
    obtain⟨ok1,ok2,ok3,_⟩:=A.ok
    cases v with
    |
     f w =>
     simp only[fS,hhd,hx,beq_self_eq_true,bW]at hv
     simp only[Vl.nodes]at hm
     rw[nX]at hh
     have A':Ask b (.mk a.at (.list [x,a,b]) env::env) t1:=⟨ok3,hw1,h1,f1⟩
     rcases aK.1 hh with hh|hh
     ·obtain⟨h2,h3,rfl⟩:=dx hh
      exact iZ n m w (by omega) b _ t1 A' hv (k+1) f (by simpa using hf) h2 h3
     ·obtain⟨kd,h2,h3⟩:=List.mem_flatMap.1 hh
      obtain⟨h4,h5,rfl⟩:=dx h3
      have hkd:=iZ n m w (by omega) b _ t1 A' hv 0 _ rfl kd h2
      have:=(jO h2).1
      exact iZ n m kd.2 (by omega) (.list [x,a,b]) env _ A hkd k f hf h4 h5
    |_=>rw[eI rfl rfl]at hh;cases hh
  ·by_cases huk:u=k
   ·subst huk
    rw[hu]at hf;cases hf
    rw[ov v (by simp[eT])]at hh
    simp only[aQ]at hh
    subst hh
    obtain⟨x,a,b,t',hfe,hok,hx,ht',hf',hwf,hlt⟩:=nE A.wf hq
    rw[<-tS n v (ql hq) (by rw[hfe];exact rB hwf)];exact hv
   ·rw[eI (by simpa[eT]using huk) (by cases v<;>rfl)]at hh;cases hh
end Go.Proofs.Trees
namespace Go.Proofs.Trees
open Go Go.VL Go.RowKit
def cM:E->List Nm->Ty
 | .atom s,ar=>if s=[48]then .zero else if s=[49]then .one else match bx s ar ar.length with|some u=>.bA u|none=>.name s
 | .list [x,a,b],ar=>if x.at=[43]then .plus (cM a ar) (cM b ar)else if x.at=[42]then .times (cM a ar) (cM b ar)else .rc (cM b (ar++[a.at]))
 | .list _,_=>.zero
def qi(s:Nm):Prop:=s≠[]/\s≠[48]/\s≠[49]
inductive Wf:E->Prop
 |atom {s} (h:s≠[]):Wf (.atom s)
 |plus {a b} (ha:Wf a) (hb:Wf b):Wf (.list [.atom [43],a,b])
 |times {a b} (ha:Wf a) (hb:Wf b):Wf (.list [.atom [42],a,b])
 |rc {n b} (hn:qi n) (hb:Wf b):Wf (.list [.atom [114,101,99],.atom n,b])
theorem dO(a b:E)(ar:List Nm):cM (.list [.atom [43],a,b]) ar=.plus (cM a ar) (cM b ar):=by rw[cM,if_pos (show (E.atom [43]).at=[43] from rfl)]
theorem da(a b:E)(ar:List Nm):cM (.list [.atom [42],a,b]) ar=.times (cM a ar) (cM b ar):=by rw[cM,if_neg (by decide),if_pos (show (E.atom [42]).at=[42] from rfl)]
theorem fG(a b:E)(ar:List Nm):cM (.list [.atom [114,101,99],a,b]) ar=.rc (cM b (ar++[a.at])):=by rw[cM,if_neg (by decide),if_neg (by decide)]
theorem Wf.ok{e:E}(h:Wf e):e.ok:=by
 induction h with
 |atom h=>exact h
 |plus ha hb i1 i2=>exact⟨by simp[E.ok],i1,i2,trivial⟩
 |times ha hb i1 i2=>exact⟨by simp[E.ok],i1,i2,trivial⟩
 |rc hn hb i=>exact⟨by simp[E.ok],hn.1,i,trivial⟩
theorem Wf.cN{e:E}(h:Wf e):∀ar,e.cN=(cM e ar).aB:=by
 induction h with
 |
  @atom s h =>
  intro ar
  simp only[E.cN,cM]
  split
  ·rfl
  ·split
   ·rfl
   ·split<;>rfl
 |plus ha hb i1 i2=>intro ar;rw[dO];simp only[E.cN,E.eU,Ty.aB,<-i1 ar,<-i2 ar];omega
 |times ha hb i1 i2=>intro ar;rw[da];simp only[E.cN,E.eU,Ty.aB,<-i1 ar,<-i2 ar];omega
 |@rc n b hn hb i=>intro ar;rw[fG];simp only[E.cN,E.eU,Ty.aB,<-i];omega
theorem Wf.sz{e:E}(h:Wf e):e.sz<=3*e.cN:=by
 induction h with
 |atom h=>simp[E.sz,E.cN]
 |plus ha hb i1 i2=>simp only[E.sz,E.iX,E.cN,E.eU];omega
 |times ha hb i1 i2=>simp only[E.sz,E.iX,E.cN,E.eU];omega
 |rc hn hb i=>simp only[E.sz,E.iX,E.cN,E.eU];omega
theorem j6:∀(e:E) (ar:List Nm) (t:Ty),e.ok->(∀w,w∈ar->cQ w=true)->cy e ar=some t->Wf e/\cM e ar=t
 |
  .atom s,ar,t,hok,hl,ht=>by
  refine⟨.atom hok,?_⟩
  simp only[cy,cM]at ht |-
  split at ht
  ·rename_i h;rw[if_pos h];simpa using ht
  ·rename_i h;rw[if_neg h]
   split at ht
   ·rename_i h1;rw[if_pos h1];simpa using ht
   ·rename_i h1;rw[if_neg h1]
    split at ht
    ·rename_i hp
     cases q:bx s ar ar.length with
     |none=>simpa using ht
     |
      some u =>
      obtain⟨h1,h2⟩:=fC _ _ (ap _) q
      have:=hl (gb ar u) (by
       unfold gb
       have:ar.length-1-u<ar.length:=by omega
       simp[aa,this])
      rw[h2,j2 hp]at this;cases this
    ·split at ht
     ·split at ht<;>rename_i q<;>rw[q]<;>simpa using ht
     ·cases ht
 |
  .list [x,a,b],ar,t,hok,hl,ht=>by
  obtain⟨ok1,ok2,ok3,_⟩:=hok
  by_cases h0:x.at=[43]
  ·obtain⟨t1,t2,h1,h2,rfl⟩:=fB h0 ht
   obtain rfl:=j1 h0 (by simp)
   obtain⟨w1,e1⟩:=j6 a ar t1 ok2 hl h1
   obtain⟨w2,e2⟩:=j6 b ar t2 ok3 hl h2
   exact⟨.plus w1 w2,by rw[dO,e1,e2]⟩
  ·by_cases h1:x.at=[42]
   ·obtain⟨t1,t2,h2,h3,rfl⟩:=eY h1 ht
    obtain rfl:=j1 h1 (by simp)
    obtain⟨w1,e1⟩:=j6 a ar t1 ok2 hl h2
    obtain⟨w2,e2⟩:=j6 b ar t2 ok3 hl h3
    exact⟨.times w1 w2,by rw[da,e1,e2]⟩
   ·by_cases h2:x.at=[114,101,99]
    ·obtain⟨t1,hla,h3,rfl⟩:=dj h2 ht
     obtain rfl:=j1 h2 (by simp)
     have hne:a.at≠[]:=by intro e;rw[e]at hla;cases hla
     have ha:a=.atom a.at:=j1 rfl hne
     obtain⟨w1,e1⟩:=j6 b (ar++[a.at]) t1 ok3 (fun w hw=>by
      rcases aK.1 hw with hw|hw
      ·exact hl w hw
      ·simp only[aQ]at hw;rw[hw];exact hla) h3
     have hN:qi a.at:=⟨hne,fun e=>by rw[e]at hla;revert hla;decide,fun e=>by rw[e]at hla;revert hla;decide⟩
     refine⟨?_,by rw[fG,e1]⟩
     rw[ha];exact .rc hN w1
    ·rw[iN _ h0 h1 h2]at ht;cases ht
 | .list [],ar,t,_,_,ht=>by cases ht
 | .list [_],ar,t,_,_,ht=>by cases ht
 | .list [_,_],ar,t,_,_,ht=>by cases ht
 | .list (_::_::_::_::_),ar,t,_,_,ht=>by cases ht
theorem fm(s:Nm)(ar:List Nm):bx s ar ar.length=none↔s∉ar:=by
 have:=lX s ar ar.length (ap _)
 rwa[List.take_length]at this
theorem nk(s:Nm)(ar:List Nm):∀(n:Nat) (br:List Nm),br.length=n->bx s (ar++br) (ar++br).length=match bx s br br.length with|some u=>some u|none=>(bx s ar ar.length).map (·+br.length)
 |
  0,br,h=>by
  obtain rfl:=List.eq_nil_of_length_eq_zero h
  rw[cY]
  cases h:bx s ar ar.length<;>simp[bx]
 |
  n+1,br,h=>by
  obtain⟨b2,w,rfl⟩:∃b2 w,br=b2++[w]:=⟨br.dropLast,br.getLast (by intro e;rw[e]at h;cases h),(List.dropLast_concat_getLast _).symm⟩
  rw[<-bD]
  by_cases hw:w=s
  ·subst hw;rw[fO,fO]
  ·rw[jo _ hw,jo _ hw,nk s ar n b2 (by simpa using h)]
   cases bx s b2 b2.length with
   |some u=>rfl
   |
    none =>
    cases bx s ar ar.length with
    |none=>rfl
    |some u=>simp only[Option.map_none,cg,an,aq,aE];congr 1
theorem tA(ar:List Nm){e:E}(h:Wf e):∀br,(∀y,a8 y (cM e br)=true->y∉ar)->cM e (ar++br)=cM e br:=by
 induction h with
 |
  @atom s h =>
  intro br hy
  simp only[cM]at hy |-
  split
  ·rfl
  ·rename_i h0
   split
   ·rfl
   ·rename_i h1
    rw[if_neg h0,if_neg h1]at hy
    rw[nk s ar _ br rfl]
    cases q:bx s br br.length with
    |some u=>rfl
    |
     none =>
     rw[q]at hy
     have:=(fm s ar).2 (hy s (by simp[a8]))
     rw[this];rfl
 |
  plus ha hb i1 i2 =>
  intro br hy
  rw[dO]at hy |-
  rw[dO,i1 br fun y h=>hy y (by simp[a8,h]),i2 br fun y h=>hy y (by simp[a8,h])]
 |
  times ha hb i1 i2 =>
  intro br hy
  rw[da]at hy |-
  rw[da,i1 br fun y h=>hy y (by simp[a8,h]),i2 br fun y h=>hy y (by simp[a8,h])]
 |
  @rc n b hn hb i =>
  intro br hy
  rw[fG]at hy |-
  rw[fG,bD,i _ hy]
theorem C9(x:Nm){e:E}(h:Wf e):∀ar,cM e ar=dA (.name x) (cM e ([x]++ar)) ar.length:=by
 induction h with
 |
  @atom s h =>
  intro ar
  simp only[cM]
  split
  ·rfl
  ·split
   ·rfl
   ·rw[nk s [x] _ ar rfl]
    cases q:bx s ar ar.length with
    |
     some u =>
     have:=(fC _ _ (ap _) q).1
     simp only[dA];rw[if_neg (by omega)]
    |
     none =>
     by_cases hx:x=s
     ·subst hx
      have:bx x [x] [x].length=some 0:=fO x []
      rw[this];simp[dA]
     ·have:bx s [x] [x].length=none:=(fm s [x]).2 (by simpa using fun e=>hx e.symm)
      rw[this];rfl
 |plus ha hb i1 i2=>intro ar;rw[dO,dO,dA,<-i1 ar,<-i2 ar]
 |times ha hb i1 i2=>intro ar;rw[da,da,dA,<-i1 ar,<-i2 ar]
 |
  @rc n b hn hb i =>
  intro ar
  rw[fG,fG,dA,i (ar++[E.at (.atom n)]),bD]
  simp
theorem pq{e:E}(h:Wf e):∀ar y,a8 y (cM e ar)=true->qi y/\y∉ar:=by
 induction h with
 |
  @atom s h =>
  intro ar y hy
  simp only[cM]at hy
  split at hy
  ·cases hy
  ·rename_i h0
   split at hy
   ·cases hy
   ·rename_i h1
    split at hy
    ·cases hy
    ·rename_i q
     simp only[a8,decide_eq_true_eq]at hy
     subst hy
     exact⟨⟨h,h0,h1⟩,(fm _ _).1 q⟩
 |
  plus ha hb i1 i2 =>
  intro ar y hy
  rw[dO]at hy
  simp only[a8,bg]at hy
  rcases hy with hy|hy
  ·exact i1 ar y hy
  ·exact i2 ar y hy
 |
  times ha hb i1 i2 =>
  intro ar y hy
  rw[da]at hy
  simp only[a8,bg]at hy
  rcases hy with hy|hy
  ·exact i1 ar y hy
  ·exact i2 ar y hy
 |
  rc hn hb i =>
  intro ar y hy
  rw[fG]at hy
  obtain⟨h1,h2⟩:=i _ y hy
  exact⟨h1,fun h=>h2 (aA _ h)⟩
theorem kM{e:E}(h:Wf e):∀(bd l:List Nm) (y:Nm),y∈jY e bd l↔y∈l\/a8 y (cM e bd)=true:=by
 induction h with
 |
  @atom s h =>
  intro bd l y
  simp only[jY,cM]
  by_cases h0:s=[48]
  ·simp[h0,a8]
  ·by_cases h1:s=[49]
   ·simp[h1,a8]
   ·rw[if_neg h0,if_neg h1]
    by_cases h2:s∈bd
    ·cases q:bx s bd bd.length with
     |none=>exact absurd h2 ((fm _ _).1 q)
     |some u=>simp[h2,a8]
    ·rw[(fm _ _).2 h2]
     simp only[h0,h1,h2,false_or,a8,decide_eq_true_eq]
     by_cases h3:s∈l
     ·simp only[h3,if_true]
      exact⟨fun h=>.inl h,fun h=>by rcases h with h|rfl<;>assumption⟩
     ·simp only[h3,if_false,aK,aQ,eq_comm]
 |
  plus ha hb i1 i2 =>
  intro bd l y
  rw[jY,if_neg (by decide),dO,i2,i1]
  simp[a8,or_assoc]
 |
  times ha hb i1 i2 =>
  intro bd l y
  rw[jY,if_neg (by decide),da,i2,i1]
  simp[a8,or_assoc]
 |
  rc hn hb i =>
  intro bd l y
  rw[jY,if_pos (show (E.atom [114,101,99]).at=[114,101,99] from rfl),fG,i]
  rfl
theorem eG:∀(t:Ty) (out:List Nm) (y:Nm),y∈bw t out↔y∈out\/a8 y t=true
 |
  .name s,out,y=>by
  simp only[bw,oU,a8,decide_eq_true_eq]
  split
  ·rename_i h;exact⟨fun h=>.inl h,fun h'=>by rcases h' with h'|rfl<;>assumption⟩
  ·simp[eq_comm]
 | .plus a b,out,y=>by rw[bw,eG b,eG a];simp[a8,or_assoc]
 | .times a b,out,y=>by rw[bw,eG b,eG a];simp[a8,or_assoc]
 | .rc a,out,y=>by rw[bw,eG a];rfl
 | .zero,out,y=>by simp[bw,a8]
 | .one,out,y=>by simp[bw,a8]
 | .bA k,out,y=>by simp[bw,a8]
end Go.Proofs.Trees
namespace Go.Proofs.Trees
open Go Go.VL Go.RowKit
abbrev dS:Nm:=[114,101,99]
theorem dX(s:Nm):(E.atom s).at=s:=rfl
def qC(x:Nm)(u:E):E->E
 | .atom s=>if s=x then u else .atom s
 | .list [h,a,b]=>if h.at=dS then(if a.at=x then .list [h,a,b]else .list [.atom dS,a,qC x u b])else .list [.atom h.at,qC x u a,qC x u b]
 | .list l=>.list l
def mz(x:Nm):E->Nat
 | .atom s=>if s=x then 1 else 0
 | .list [h,a,b]=>if h.at=dS then(if a.at=x then 0 else mz x b)else mz x a+mz x b
 | .list _=>0
def sR(p:Nm->Prop):E->Prop
 | .atom _=>True
 | .list [h,a,b]=>(if h.at=dS then p a.at else sR p a)/\sR p b
 | .list _=>True
def gy(x:Nm):Ty->Nat
 | .name s=>if s=x then 1 else 0
 | .plus a b=>gy x a+gy x b
 | .times a b=>gy x a+gy x b
 | .rc a=>gy x a
 |_=>0
theorem uP(x:Nm)(u a b:E):qC x u (.list [.atom [43],a,b])=.list [.atom [43],qC x u a,qC x u b]:=by rw[qC,if_neg (by decide)];rfl
theorem sr(x:Nm)(u a b:E):qC x u (.list [.atom [42],a,b])=.list [.atom [42],qC x u a,qC x u b]:=by rw[qC,if_neg (by decide)];rfl
theorem Am(x:Nm)(u:E)(n:Nm)(b:E):qC x u (.list [.atom dS,.atom n,b])=if n=x then .list [.atom dS,.atom n,b]else .list [.atom dS,.atom n,qC x u b]:=by rw[qC,if_pos (dX _)];rfl
theorem qM(x:Nm)(a b:E):mz x (.list [.atom [43],a,b])=mz x a+mz x b:=by rw[mz,if_neg (by decide)]
theorem oZ(x:Nm)(a b:E):mz x (.list [.atom [42],a,b])=mz x a+mz x b:=by rw[mz,if_neg (by decide)]
theorem wm(x:Nm)(n:Nm)(b:E):mz x (.list [.atom dS,.atom n,b])=if n=x then 0 else mz x b:=by rw[mz,if_pos (dX _)];rfl
theorem oB(p:Nm->Prop)(a b:E):sR p (.list [.atom [43],a,b])↔sR p a/\sR p b:=by rw[sR,if_neg (by decide)]
theorem mH(p:Nm->Prop)(a b:E):sR p (.list [.atom [42],a,b])↔sR p a/\sR p b:=by rw[sR,if_neg (by decide)]
theorem tW(p:Nm->Prop)(n:Nm)(b:E):sR p (.list [.atom dS,.atom n,b])↔p n/\sR p b:=by rw[sR,if_pos (dX _)];rfl
theorem AL{p q:Nm->Prop}(h:∀n,p n->q n){e:E}(hw:Wf e):sR p e->sR q e:=by
 induction hw with
 |atom _=>exact fun _=>trivial
 |plus _ _ i1 i2=>rw[oB,oB];exact fun g=>⟨i1 g.1,i2 g.2⟩
 |times _ _ i1 i2=>rw[mH,mH];exact fun g=>⟨i1 g.1,i2 g.2⟩
 |rc _ _ i=>rw[tW,tW];exact fun g=>⟨h _ g.1,i g.2⟩
theorem iW{s:Nm}(hs:qi s){ar:List Nm}(h:s∉ar):cM (.atom s) ar=.name s:=by
 simp only[cM];rw[if_neg hs.2.1,if_neg hs.2.2,(fm s ar).2 h]
theorem C3{x:Nm}(hx:qi x){u:E}(hu:Wf u){e:E}(h:Wf e):sR (fun n=>n≠x/\a8 n (cM u [])=false) e->∀ar,x∉ar->(∀y,y∈ar->a8 y (cM u [])=false)->Wf (qC x u e)/\cM (qC x u e) ar=sub x (cM u []) (cM e ar):=by
 induction h with
 |
  @atom s hs =>
  intro _ ar har hy
  by_cases e:s=x
  ·subst e
   have:cM u (ar++[])=cM u []:=tA ar hu [] fun y hy' hm=>by rw[hy y hm]at hy';cases hy'
   rw[cY]at this
   rw[iW hx har]
   simp only[qC,sub,if_true]
   exact⟨hu,this⟩
  ·simp only[qC,if_neg e]
   refine⟨.atom hs,?_⟩
   simp only[cM]
   split
   ·rfl
   ·split
    ·rfl
    ·split
     ·rfl
     ·simp only[sub,if_neg e]
 |
  plus ha hb i1 i2 =>
  intro hap ar har hy
  rw[oB]at hap
  obtain⟨w1,e1⟩:=i1 hap.1 ar har hy
  obtain⟨w2,e2⟩:=i2 hap.2 ar har hy
  rw[uP,dO,dO,e1,e2]
  exact⟨.plus w1 w2,rfl⟩
 |
  times ha hb i1 i2 =>
  intro hap ar har hy
  rw[mH]at hap
  obtain⟨w1,e1⟩:=i1 hap.1 ar har hy
  obtain⟨w2,e2⟩:=i2 hap.2 ar har hy
  rw[sr,da,da,e1,e2]
  exact⟨.times w1 w2,rfl⟩
 |
  @rc n b hn hb i =>
  intro hap ar har hy
  rw[tW]at hap
  obtain⟨w1,e1⟩:=i hap.2 (ar++[n]) (by
   simp only[aK,aQ]
   rintro(h|h)
   ·exact har h
   ·exact hap.1.1 h.symm) (fun y hm=>by
   simp only[aK,aQ]at hm
   rcases hm with hm|rfl
   ·exact hy y hm
   ·exact hap.1.2)
  rw[Am,if_neg hap.1.1,fG,fG]
  refine⟨.rc hn w1,?_⟩
  show Ty.rc (cM (qC x u b) (ar++[n]))=_
  rw[e1];rfl
theorem C6{x:Nm}(hx:qi x){e:E}(h:Wf e):∀ar,gy x (cM e ar)=if x∈ar then 0 else mz x e:=by
 induction h with
 |
  @atom s hs =>
  intro ar
  by_cases e:s=x
  ·subst e
   by_cases hm:s∈ar
   ·rw[if_pos hm]
    simp only[cM];rw[if_neg hx.2.1,if_neg hx.2.2]
    cases q:bx s ar ar.length with
    |none=>exact absurd hm ((fm _ _).1 q)
    |some u=>rfl
   ·rw[if_neg hm,iW hx hm];simp[gy,mz]
  ·have:gy x (cM (.atom s) ar)=0:=by
    simp only[cM]
    split
    ·rfl
    ·split
     ·rfl
     ·split
      ·rfl
      ·simp[gy,e]
   rw[this];simp[mz,e]
 |plus ha hb i1 i2=>intro ar;rw[dO,qM,gy,i1,i2];split<;>simp
 |times ha hb i1 i2=>intro ar;rw[da,oZ,gy,i1,i2];split<;>simp
 |
  @rc n b hn hb i =>
  intro ar
  rw[fG,wm,gy,i]
  simp only[dX,aK,aQ]
  by_cases h1:x∈ar
  ·simp[h1]
  ·by_cases h2:x=n
   ·simp[h2]
   ·simp[h1,h2,Ne.symm h2]
theorem er(x:Nm)(u:Ty):∀t:Ty,(sub x u t).aB+gy x t=t.aB+gy x t*u.aB
 | .name s=>by simp only[sub,gy];split<;>simp[Ty.aB];omega
 | .plus a b=>by have:=er x u a;have:=er x u b;simp only[sub,Ty.aB,gy,Nat.add_mul];omega
 | .times a b=>by have:=er x u a;have:=er x u b;simp only[sub,Ty.aB,gy,Nat.add_mul];omega
 | .rc a=>by have:=er x u a;simp only[sub,Ty.aB,gy];omega
 | .zero=>by simp[sub,gy]
 | .one=>by simp[sub,gy]
 | .bA k=>by simp[sub,gy]
abbrev tN(m:Nat):Nm:=116::dd m
theorem Dx(m:Nat):dd m≠[]:=by
 by_cases h:m<10
 ·rw[eC h];simp
 ·rw[fH h];simp
theorem vQ:∀(n m k:Nat),m<n->dd m=dd k->m=k
 |0,m,k,h,_=>by omega
 |
  n+1,m,k,h,e=>by
  have d10:∀{a b:Nat},a<10->b<10->aX (48+a)=aX (48+b)->a=b:=fun {a b} ha hb h=>by
   have:=congrArg UInt8.toNat h
   simp only[UInt8.toNat_ofNat']at this
   omega
  by_cases h1:m<10<;>by_cases h2:k<10
  ·rw[eC h1,eC h2]at e
   simp only[List.cons.injEq,and_true]at e
   exact d10 h1 h2 e
  ·rw[eC h1,fH h2]at e
   have:=congrArg List.length e
   have:dd (k/10)=[]:=by
    apply List.eq_nil_of_length_eq_zero
    simp at this;simpa using this
   exact absurd this (Dx _)
  ·rw[fH h1,eC h2]at e
   have:=congrArg List.length e
   have:dd (m/10)=[]:=by
    apply List.eq_nil_of_length_eq_zero
    simp at this;simpa using this
   exact absurd this (Dx _)
  ·rw[fH h1,fH h2]at e
   obtain⟨e1,e2⟩:=List.append_inj' e rfl
   have:=vQ n (m/10) (k/10) (by omega) e1
   simp only[List.cons.injEq,and_true]at e2
   have:=d10 (ej _ (by omega)) (ej _ (by omega)) e2
   omega
theorem z6{m k:Nat}(h:tN m=tN k):m=k:=vQ (m+1) m k (by omega) (List.cons.inj h).2
theorem xb(m:Nat):qi (tN m):=⟨by simp,by simp,by simp⟩
theorem NK:∀(l F:List Nm),l.Nodup->(∀x,x∈l->x∈F)->l.length<=F.length
 |[],_,_,_=>dJ _
 |
  x::l,F,hn,hs=>by
  obtain⟨h1,h2⟩:=List.nodup_cons.1 hn
  have hx:=hs x ah
  have:=NK l (F.erase x) h2 fun y hy=>(List.mem_erase_of_ne (fun e=>h1 (by rw[<-e];exact hy))).2 (hs y (ak _ hy))
  rw[List.length_erase_of_mem hx]at this
  have:0<F.length:=List.length_pos_of_mem hx
  simp only[aq];omega
def pC(F:List Nm):Nat->Nat->Nat
 |0,k=>k
 |n+1,k=>if tN k∈F then pC F n (k+1)else k
theorem vg(F:List Nm):∀(n k:Nat),k<=pC F n k/\pC F n k<=k+n/\(∀j,k<=j->j<pC F n k->tN j∈F)/\(pC F n k<k+n->tN (pC F n k)∉F)
 |0,k=>⟨ap _,ap _,fun j h1 h2=>by simp only[pC]at h2;omega,fun h=>by simp only[pC]at h;omega⟩
 |
  n+1,k=>by
  rw[pC]
  split
  ·rename_i hm
   obtain⟨h1,h2,h3,h4⟩:=vg F n (k+1)
   refine⟨by omega,by omega,fun j hj hl=>?_,fun h=>h4 (by omega)⟩
   by_cases e:j=k
   ·subst e;exact hm
   ·exact h3 j (by omega) hl
  ·rename_i hm
   exact⟨ap _,by omega,fun j h1 h2=>by omega,fun _=>hm⟩
def nx(F:List Nm)(k:Nat):Nat:=pC F (F.length+1) k
theorem gp(F:List Nm)(k:Nat):k<=nx F k/\nx F k<=k+F.length/\(∀j,k<=j->j<nx F k->tN j∈F)/\tN (nx F k)∉F:=by
 obtain⟨h1,h2,h3,h4⟩:=vg F (F.length+1) k
 have hlt:nx F k<k+(F.length+1):=by
  rcases Nat.lt_or_ge (nx F k) (k+(F.length+1))with h|h
  ·exact h
  ·exfalso
   have:=NK ((List.range' k (F.length+1)).map tN) F (by
    refine List.Pairwise.map _ (fun a b hab e=>hab (z6 e)) List.nodup_range') (fun x hx=>by
    obtain⟨j,hj,rfl⟩:=ca.1 hx
    obtain⟨i,hi,rfl⟩:=List.mem_range'.1 hj
    exact h3 _ (by omega) (by show _<nx F k;omega))
   simp at this
   omega
 exact⟨h1,by unfold nx at hlt |-;omega,h3,h4 hlt⟩
theorem zW{F F':List Nm}(h:∀y,y∈F↔y∈F')(k:Nat):nx F k=nx F' k:=by
 obtain⟨a1,a2,a3,a4⟩:=gp F k
 obtain⟨b1,b2,b3,b4⟩:=gp F' k
 rcases Nat.lt_trichotomy (nx F k) (nx F' k)with hl|he|hl
 ·exact absurd ((h _).2 (b3 _ a1 hl)) a4
 ·exact he
 ·exact absurd ((h _).1 (a3 _ b1 hl)) b4
def gI(F:List Nm):Ty->List Nm->Nat->E×Nat
 | .zero,_,k=>(.atom [48],k)
 | .one,_,k=>(.atom [49],k)
 | .name s,_,k=>(.atom s,k)
 | .bA u,to,k=>(.atom (gb to u),k)
 | .plus a b,to,k=>(.list [.atom [43],(gI F a to k).1,(gI F b to (gI F a to k).2).1],(gI F b to (gI F a to k).2).2)
 | .times a b,to,k=>(.list [.atom [42],(gI F a to k).1,(gI F b to (gI F a to k).2).1],(gI F b to (gI F a to k).2).2)
 | .rc a,to,k=>(.list [.atom dS,.atom (tN (nx F k)),(gI F a (to++[tN (nx F k)]) (nx F k+1)).1],(gI F a (to++[tN (nx F k)]) (nx F k+1)).2)
theorem jw{F F':List Nm}(h:∀y,y∈F↔y∈F'):∀(t:Ty) (to:List Nm) (k:Nat),gI F t to k=gI F' t to k
 | .zero,_,_=>rfl
 | .one,_,_=>rfl
 | .name _,_,_=>rfl
 | .bA _,_,_=>rfl
 | .plus a b,to,k=>by simp only[gI];rw[jw h a,jw h b]
 | .times a b,to,k=>by simp only[gI];rw[jw h a,jw h b]
 | .rc a,to,k=>by simp only[gI];rw[zW h,jw h a]
def jf:Ty->Nat->Prop
 | .bA u,i=>u<i
 | .plus a b,i=>jf a i/\jf b i
 | .times a b,i=>jf a i/\jf b i
 | .rc a,i=>jf a (i+1)
 |_,_=>True
theorem tM{e:E}(h:Wf e):∀ar,jf (cM e ar) ar.length:=by
 induction h with
 |
  @atom s hs =>
  intro ar
  simp only[cM]
  split
  ·trivial
  ·split
   ·trivial
   ·split
    ·rename_i u q;exact(fC _ _ (ap _) q).1
    ·trivial
 |plus ha hb i1 i2=>intro ar;rw[dO];exact⟨i1 ar,i2 ar⟩
 |times ha hb i1 i2=>intro ar;rw[da];exact⟨i1 ar,i2 ar⟩
 |
  @rc n b hn hb i =>
  intro ar;rw[fG]
  have:=i (ar++[(E.atom n).at])
  rw[an]at this
  exact this
structure Gn(F to:List Nm)(k:Nat):Prop where
 out:∀w,w∈to->w∉F
 lt:∀w,w∈to->∃j,j<k/\w=tN j
 nd:to.Nodup
theorem Gn.nil(F:List Nm)(k:Nat):Gn F [] k:=⟨fun _ h=>(by cases h),fun _ h=>(by cases h),by simp⟩
theorem Gn.mono{F to:List Nm}{k k':Nat}(h:Gn F to k)(hk:k<=k'):Gn F to k':=⟨h.out,fun w hw=>by obtain⟨j,h1,h2⟩:=h.lt w hw;exact⟨j,by omega,h2⟩,h.nd⟩
theorem Gn.push{F to:List Nm}{k:Nat}(h:Gn F to k):Gn F (to++[tN (nx F k)]) (nx F k+1):=by
 obtain⟨h1,h2,h3,h4⟩:=gp F k
 refine⟨fun w hw=>?_,fun w hw=>?_,?_⟩
 ·rcases aK.1 hw with hw|hw
  ·exact h.out w hw
  ·simp only[aQ]at hw;rw[hw];exact h4
 ·rcases aK.1 hw with hw|hw
  ·obtain⟨j,g1,g2⟩:=h.lt w hw;exact⟨j,by omega,g2⟩
  ·simp only[aQ]at hw;exact⟨_,by omega,hw⟩
 ·refine List.nodup_append.2 ⟨h.nd,by simp,fun a ha b hb e=>?_⟩
  simp only[aQ]at hb
  obtain⟨j,g1,g2⟩:=h.lt a ha
  rw[e,hb]at g2
  have:=z6 g2
  omega
theorem s7{to:List Nm}(hn:to.Nodup){u:Nat}(hu:u<to.length):bx (gb to u) to to.length=some u:=by
 have hm:gb to u∈to:=by
  unfold gb
  have:to.length-1-u<to.length:=by omega
  simp[aa,this]
 cases q:bx (gb to u) to to.length with
 |none=>exact absurd hm ((fm _ _).1 q)
 |
  some v =>
  obtain⟨h1,h2⟩:=fC _ _ (ap _) q
  unfold gb at h2
  have e1:to.length-1-v<to.length:=by omega
  have e2:to.length-1-u<to.length:=by omega
  rw[aa,aa,bc e1,bc e2]at h2
  have hp:=List.pairwise_iff_getElem.1 hn
  have h3:to[to.length-1-v]=to[to.length-1-u]:=by simpa using h2
  rcases Nat.lt_trichotomy (to.length-1-v) (to.length-1-u)with hl|he|hl
  ·exact absurd h3 (hp _ _ e1 e2 hl)
  ·congr 1;omega
  ·exact absurd h3.symm (hp _ _ e2 e1 hl)
theorem kb(F:List Nm):∀(t:Ty) (to:List Nm) (k:Nat),Gn F to k->jf t to.length->(∀y,a8 y t=true->y∈F/\qi y) ->
 Wf (gI F t to k).1/\cM (gI F t to k).1 to=t/\k<=(gI F t to k).2/\(gI F t to k).2<=k+(F.length+1)*t.aB/\sR (·∉F) (gI F t to k).1
 | .zero,to,k,_,_,_=>⟨.atom (by simp),rfl,ap _,cK _ _,trivial⟩
 | .one,to,k,_,_,_=>⟨.atom (by simp),rfl,ap _,cK _ _,trivial⟩
 |
  .name s,to,k,g,hl,hn=>by
  obtain⟨h1,h2⟩:=hn s (by simp[a8])
  exact⟨.atom h2.1,iW h2 (fun h=>g.out s h h1),ap _,cK _ _,trivial⟩
 |
  .bA u,to,k,g,hl,hn=>by
  have hm:gb to u∈to:=by
   unfold gb
   have:to.length-1-u<to.length:=by have:u<to.length:=hl;omega
   simp[aa,this]
  obtain⟨j,_,e⟩:=g.lt _ hm
  have hok:qi (gb to u):=by rw[e];exact xb j
  refine⟨.atom hok.1,?_,ap _,cK _ _,trivial⟩
  simp only[gI,cM]
  rw[if_neg hok.2.1,if_neg hok.2.2,s7 g.nd hl]
 |
  .plus a b,to,k,g,hl,hn=>by
  obtain⟨a1,a2,a3,a4,a5⟩:=kb F a to k g hl.1 fun y hy=>hn y (by simp[a8,hy])
  obtain⟨b1,b2,b3,b4,b5⟩:=kb F b to _ (g.mono a3) hl.2 fun y hy=>hn y (by simp[a8,hy])
  simp only[gI,dO,a2,b2,oB,Ty.aB]
  refine⟨.plus a1 b1,trivial,by omega,?_,a5,b5⟩
  have:(F.length+1)*(1+a.aB+b.aB)=(F.length+1)+(F.length+1)*a.aB+(F.length+1)*b.aB:=by simp only[cA,dw]
  omega
 |
  .times a b,to,k,g,hl,hn=>by
  obtain⟨a1,a2,a3,a4,a5⟩:=kb F a to k g hl.1 fun y hy=>hn y (by simp[a8,hy])
  obtain⟨b1,b2,b3,b4,b5⟩:=kb F b to _ (g.mono a3) hl.2 fun y hy=>hn y (by simp[a8,hy])
  simp only[gI,da,a2,b2,mH,Ty.aB]
  refine⟨.times a1 b1,trivial,by omega,?_,a5,b5⟩
  have:(F.length+1)*(1+a.aB+b.aB)=(F.length+1)+(F.length+1)*a.aB+(F.length+1)*b.aB:=by simp only[cA,dw]
  omega
 |
  .rc a,to,k,g,hl,hn=>by
  obtain⟨h1,h2,h3,h4⟩:=gp F k
  obtain⟨a1,a2,a3,a4,a5⟩:=kb F a (to++[tN (nx F k)]) (nx F k+1) g.push (by rw[an];exact hl) hn
  simp only[gI,fG,dX,a2,tW,Ty.aB]
  refine⟨.rc (xb _) a1,trivial,by omega,?_,h4,a5⟩
  have:(F.length+1)*(2+a.aB)=(F.length+1)*2+(F.length+1)*a.aB:=by simp only[cA]
  omega
end Go.Proofs.Trees
namespace Go.Proofs.Trees
open Go Go.VL Go.RowKit
inductive oV:AV->List Nat->Prop
 |nil:oV mb []
 |cons {m:Nat} {cs:List AV} {e:AV} {ids:List Nat} (hm:m∉ids) (h:oV e ids):oV (.ptr [.pid m cs,e]) (m::ids)
theorem oV.has{a:AV}{ids:List Nat}(h:oV a ids):LK.has .ptr a:=by
 cases h
 ·exact(iM).mpr trivial
 ·exact(cC _).mpr trivial
theorem oV.Oi{M:Mem}{a:AV}{ids:List Nat}(h:oV a ids):∀{v:Value},bp M di a v->∀b,b∈ids->M.p b:=by
 induction h with
 |nil=>intro v _ b hb;cases hb
 |
  @cons m cs e ids hm h ih =>
  intro v hr b hb
  cases hr with
  |
   ptr _ _ _ off us hc hr =>
   have h0:=hr 0 (by simp)
   have h1:=hr 1 (by simp)
   simp only[bq,List.getD_cons_succ]at h0 h1
   rcases aI.1 hb with rfl|hb
   ·generalize us 0=u0 at h0
    cases h0 with
    |pid _ _ _ us hp _ _=>exact hp
   ·exact ih h1 b hb
theorem oV.nodup{a:AV}{ids:List Nat}(h:oV a ids):ids.Nodup:=by
 induction h with
 |nil=>simp
 |cons hm h ih=>exact List.nodup_cons.2 ⟨hm,ih⟩
theorem yD(a b:AV)(S:Nat->Prop)(R:AV->Prop):Bm I6 co ep (dy ep) [.agg [.x a,.x b]] S (fun o=>aJ o 7) R =
 .al (LK.has .ptr a/\a.isNil=false) (.al (LK.has .ptr a/\a.isNil=false) (.al (LK.has .ptr ((a.deref.drop 3).headD .any)/\1<=(a.deref.drop 3).length)
  (.al (∀ids:Nat->Nat,(∀o,¬S (ids o))->(True/\R (.cx [.agg [(a.deref.drop 3).headD .any,.ptr [.pid (ids 7) [a,b],b]],.pid (ids 7) [a,b]]))) (.done 0 [] [])))):=by kernel_rfl
def Ff(t:Ty)(ea:AV)(ids:List Nat):AV->List Ob->Prop:=fun r o=>(∃m,m∉ids/\r=.cx [.agg [t.av,.ptr [.pid m [(Ty.rc t).av,ea],ea]],.pid m [(Ty.rc t).av,ea]])/\o=[]
theorem Ff.ne(t:Ty)(ea:AV)(ids:List Nat):∃r o,Ff t ea ids r o:=by
 have:∃m,m∉ids:=⟨ids.foldr max 0+1,fun h=>by
  have key:∀(l:List Nat) (x:Nat),x∈l->x<=l.foldr max 0:=by
   intro l
   induction l with
   |nil=>intro x hx;cases hx
   |
    cons y l ih =>
    intro x hx
    rcases aI.1 hx with rfl|hx
    ·simp only[List.foldr_cons];omega
    ·have:=ih x hx;simp only[List.foldr_cons];omega
  have:=key _ _ h
  omega⟩
 obtain⟨m,hm⟩:=this
 exact⟨_,_,⟨m,hm,rfl⟩,rfl⟩
theorem Mo(t:Ty)(ea:AV)(ids:List Nat)(he:oV ea ids):az Tryz.prog 107 [.agg [(Ty.rc t).av,ea]] [] (Ff t ea ids):=by
 have hup:wB [.agg [(Ty.rc t).av,ea]] [.agg [.x (Ty.rc t).av,.x ea]]:=ai (cF (ai (ci ((aG _).mpr trivial)) (ai (ci he.has) aH))) aH
 refine az.up hup ?_
 refine az.Og (co:=co) (F:=ep) (S:=fun b=>b∈ids) (sel:=fun o=>aJ o 7) s4 mixed (by kernel_rfl) (by kernel_rfl) (c:=dy ep) (by kernel_rfl) (by kernel_rfl) (fun M β vs hr b hb=>?_) ?_
 ·have h0:=hr 0 (by simp)
  simp only[bq]at h0
  obtain⟨us,_,hl,hq,_⟩:=gn h0
  have h1:=hq 1 (by simp at hl |-)
  simp only[List.getD_cons_succ,bq]at h1
  cases h1 with
  |x _ _ _ _ h=>exact he.Oi h b hb
 ·rw[yD]
  simp only[Ty.av,↓zq,zs,af,aG]
  exact⟨by omega,fun ids' hf=>⟨ids' 7,hf 7,rfl⟩⟩
inductive Du:Tg->List Nat->List UInt8->AV->Prop
 |nm (s:List UInt8) (ids:List Nat):Du (.nm s) ids s mb
 |bd {k:Nat} {ids:List Nat} (hk:k<ids.length) (cs:List AV) (s:List UInt8):Du (.bd k) ids s (.pid (ids.getD k 0) cs)
theorem Du.has{tg:Tg}{ids:List Nat}{s:List UInt8}{fr:AV}(h:Du tg ids s fr):LK.has .ptr fr:=by
 cases h
 ·exact(iM).mpr trivial
 ·exact .inr (.inr ⟨_,_,rfl⟩)
theorem Du.push{tg:Tg}{ids:List Nat}{s:List UInt8}{fr:AV}(h:Du tg ids s fr)(m:Nat):Du tg.up (m::ids) s fr:=by
 cases h with
 |nm=>exact .nm _ _
 |
  @bd k _ hk cs =>
  have:=Du.bd (k:=k+1) (ids:=m::ids) (by simpa using hk) cs s
  simpa[Tg.up]using this
end Go.Proofs.Trees
namespace Go.Proofs.Trees
open Go Go.VL Go.RowKit
theorem KQ(b:Int)(a:AV)(h:LK.ptr.has a):az Tryz.prog 95 [.v (.int .u8 b),a] [] (bG (.ptr [.v (.int .u8 b),.v (.string (mk [])),a,mb])):=by
 refine LO _ _ h ?_
 simp[HI,↓zq,zs,af,bG]
end Go.Proofs.Trees
namespace Go.Proofs.Trees
open Go Go.VL Go.RowKit
theorem mj(g:Vl->Vl)(l:List Hl){i:Nat}(hi:i<l.length):lL g (l.drop i)=(g (l[i]).1,(l[i]).2)::lL g (l.drop (i+1)):=by
 rw[ba hi];rfl
theorem kT(g:Vl->Vl)(l:List Hl):(lL g l).length=l.length:=by simp[lL]
end Go.Proofs.Trees
namespace Go.Proofs.Trees
open Go Go.VL Go.RowKit
abbrev Gt(a:Ty)(tg:Tg):Hl->List Hl:=fun h=>lL (fun c=>.f (.r (.p h.1 c))) (bY (.rc a) tg h.2)
theorem EU(l:List Hl){i:Nat}(hi:i<l.length):l[i]∈l:=bI _
end Go.Proofs.Trees
namespace Go.Proofs.Trees
open Go Go.VL Go.RowKit
theorem Gr:∀(v:Vl),v.ei.length<=900000->az Tryz.prog 93 [v.dQ] [] (bG (.v (.string (mk v.ei))))
 | .u,h=>by refine y7 _ ((bo _).mpr trivial) ?_;simp[vU,Vl.dQ,↓zq,zs,af,bG,Vl.ei,Vl.dm,eQ]
 | .el k,h=>by refine y7 _ ((bo _).mpr trivial) ?_;simp[vU,Vl.dQ,↓zq,zs,af,bG,Vl.ei,Vl.dm,eQ]
 |
  .l v,h=>by
  simp only[Vl.ei,Vl.dm,eQ,dZ,aq,an,aE]at h
  refine y7 _ ((bo _).mpr trivial) ?_
  have hb:(⟨(bytesOf [[.v (.int .u8 108)]]).toArray⟩:ByteArray)=mk [108]:=rfl
  have ha:ji [[.v (.int .u8 108)]]:=kq 108
  simp only[vU,Vl.dQ,↓zq,zs,af,bo,eM,hb]
  refine⟨by omega,fun h=>by omega,fun _=>⟨fun h=>by omega,fun _=>⟨fun h=>by omega,fun _=>⟨by omega,ha,by simp[cO],by rw[kK,cO,cO];simp,by omega,?_⟩⟩⟩⟩
  refine aj (Gr v (by simp only[Vl.ei];omega)) ?_
  simp only[↓zq,zs,af,zt,bG,Vl.ei,Vl.dm,eQ,dZ]
  refine⟨by simp;omega,by simp;omega,by simp⟩
 |
  .r v,h=>by
  simp only[Vl.ei,Vl.dm,eQ,dZ,aq,an,aE]at h
  refine y7 _ ((bo _).mpr trivial) ?_
  have hb:(⟨(bytesOf [[.v (.int .u8 114)]]).toArray⟩:ByteArray)=mk [114]:=rfl
  have ha:ji [[.v (.int .u8 114)]]:=kq 114
  simp only[vU,Vl.dQ,↓zq,zs,af,bo,eM,hb]
  refine⟨by omega,fun h=>by omega,fun _=>⟨fun h=>by omega,fun _=>⟨fun h=>by omega,fun _=>⟨by omega,ha,by simp[cO],by rw[kK,cO,cO];simp,by omega,?_⟩⟩⟩⟩
  refine aj (Gr v (by simp only[Vl.ei];omega)) ?_
  simp only[↓zq,zs,af,zt,bG,Vl.ei,Vl.dm,eQ,dZ]
  refine⟨by simp;omega,by simp;omega,by simp⟩
 |
  .f v,h=>by
  simp only[Vl.ei,Vl.dm,eQ,dZ,aq,an,aE]at h
  refine y7 _ ((bo _).mpr trivial) ?_
  have hb:(⟨(bytesOf [[.v (.int .u8 102)]]).toArray⟩:ByteArray)=mk [102]:=rfl
  have ha:ji [[.v (.int .u8 102)]]:=kq 102
  simp only[vU,Vl.dQ,↓zq,zs,af,bo,eM,hb]
  refine⟨by omega,fun h=>by omega,fun _=>⟨fun h=>by omega,fun _=>⟨fun h=>by omega,fun _=>⟨by omega,ha,by simp[cO],by rw[kK,cO,cO];simp,by omega,?_⟩⟩⟩⟩
  refine aj (Gr v (by simp only[Vl.ei];omega)) ?_
  simp only[↓zq,zs,af,zt,bG,Vl.ei,Vl.dm,eQ,dZ]
  refine⟨by simp;omega,by simp;omega,by simp⟩
 |
  .p a b,h=>by
  simp only[Vl.ei,Vl.dm,eQ,dZ,aq,an,aE]at h
  refine y7 _ ((bo _).mpr trivial) ?_
  simp only[vU,Vl.dQ,↓zq,zs,af,bo,eM]
  refine⟨by omega,fun h=>by omega,fun _=>⟨fun h=>by omega,fun _=>⟨fun _=>⟨by omega,?_⟩,fun h=>absurd rfl h⟩⟩⟩
  refine aj (Gr a (by simp only[Vl.ei];omega)) ?_
  simp only[↓zq,zs,af,zt,bo,Vl.ei]
  refine⟨by simp;omega,by simp;omega,by omega,?_⟩
  refine aj (Gr b (by simp only[Vl.ei];omega)) ?_
  simp only[↓zq,zs,af,zt,bG,Vl.ei,Vl.dm,eQ,dZ]
  refine⟨by simp;omega,by simp;omega,by simp⟩
def ku:Option (List UInt8)->AV
 |some s=>.cx [.v (.string (mk s)),.v (.bool true)]
 |none=>.cx [.v (.string (mk [])),.v (.bool false)]
theorem Mu(v:Vl)(hb:v.iu 100)(hn:v.nodes<100000):az Tryz.prog 43 [v.dQ] [] (bG (ku (if v.nodes<=200 then some v.ei else none))):=by
 refine KZ _ ((bo _).mpr trivial) ?_
 unfold Kg
 refine aj (DF v (by omega)) ?_
 simp only[↓zq,zs,af,bG]
 refine⟨fun h=>?_,fun h=>?_⟩
 ·rw[if_neg (by omega)];rfl
 ·have:=iS v hb
  refine aj (Gr v (by omega)) ?_
  rw[if_pos (by omega)]
  simp only[↓zq,zs,af,ku]
end Go.Proofs.Trees
namespace Go.Proofs.Trees
open Go Go.VL Go.RowKit
def back(n:Nat):Ty->Nat->Vl
 | .name _,c=>.el c
 | .plus a b,c=>match Gv n a with|some x=>if c<x then .l (back n a c)else .r (back n b (c-x))|none=>.u
 | .times a b,c=>match Gv n b with|some y=>.p (back n a (c/y)) (back n b (c%y))|none=>.u
 |_,_=>.u
theorem xX:∀l:List E,cT 2 (E.bb l)
 |[]=>fun c hc=>by cases hc
 |
  e::l=>fun c hc=>by
  simp only[E.bb,aI]at hc
  rcases hc with rfl|hc
  ·exact gf e
  ·exact xX l c hc
theorem Im(w:List UInt8)(l:List E)(hl:l.length<1000000):az Tryz.prog 69 [.v (.string (mk w)),.sl (E.bb l)] [] (bG (E.ka (.list (.atom w::l)))):=by
 refine H9 _ _ ((bZ _).mpr trivial) ?_
 simp only[Gk,↓zq,zs,af,dV,bG,E.ka,E.gX,E.bb]
 exact⟨⟨xX l,by omega⟩,rfl⟩
end Go.Proofs.Trees
namespace Go.Proofs.Trees
open Go Go.VL Go.RowKit
def lN(l:List Hl):List (List AV):=l.map fun h=>[.v (.string (mk h.1.dm.at)),h.1.dm.sp,.v (.string (mk h.2.dm.at)),h.2.dm.sp]
theorem fp(l:List Hl):(lN l).length=l.length:=by simp[lN]
theorem gr{l:List Hl}{i:Nat}(hi:i<l.length):(lN l).getD i []=[.v (.string (mk (l[i]).1.dm.at)),(l[i]).1.dm.sp,.v (.string (mk (l[i]).2.dm.at)),(l[i]).2.dm.sp]:=by simp[lN,aa,hi]
theorem oA(out:List Hl)(a b:Vl):lN out++[[.v (.string (mk a.dm.at)),a.dm.sp,.v (.string (mk b.dm.at)),b.dm.sp]]=lN (out++[(a,b)]):=by simp[lN]
theorem yU(a b c d:AV):cT 4 [[a,b,c,d]]:=fun x hx=>by simp at hx;rw[hx];rfl
theorem aP(s:ByteArray)(e:E):bT [.str,.sl] [.v (.string s),e.sp] 0=True:=by simp[bT,dC,aV]
theorem kk(s:ByteArray)(e:E)(x y:AV):bT [.str,.sl] [.v (.string s),e.sp,x,y] 0=True:=by simp[bT,dC,aV]
theorem Bv(w:List UInt8)(e:E):az Tryz.prog 69 [.v (.string (mk w)),.sl [[.v (.string (mk e.at)),e.sp]]] [] (bG (.agg [.v (.string (mk [])),(E.list [.atom w,e]).sp])):=by
 have:=Im w [e] (by simp)
 simpa only[E.bb,fE,dU,E.at]using this
theorem yR(w:List UInt8)(e e':E):az Tryz.prog 69 [.v (.string (mk w)),.sl [[.v (.string (mk e.at)),e.sp],[.v (.string (mk e'.at)),e'.sp]]] [] (bG (.agg [.v (.string (mk [])),(E.list [.atom w,e,e']).sp])):=by
 have:=Im w [e,e'] (by simp)
 simpa only[E.bb,fE,dU,E.at]using this
def P3(pv:AV)(a b:E):Prop:=LK.sl.has pv/\pv.aS.length=3/\pv.aS.getD 1 []=[.v (.string (mk a.at)),a.sp]/\pv.aS.getD 2 []=[.v (.string (mk b.at)),b.sp]
theorem P3.of(x a b:E):P3 (E.list [x,a,b]).sp a b:=⟨by simp[E.sp,bZ],by simp[E.sp,E.bb,fw],by simp[E.sp,E.bb,fw,fE],by simp[E.sp,E.bb,fw,fE]⟩
def P2(pv:AV)(a:E):Prop:=LK.sl.has pv/\pv.aS.length=2/\pv.aS.getD 1 []=[.v (.string (mk a.at)),a.sp]
theorem P2.of(x a:E):P2 (E.list [x,a]).sp a:=⟨by simp[E.sp,bZ],by simp[E.sp,E.bb,fw],by simp[E.sp,E.bb,fw,fE]⟩
theorem G5(w:List UInt8)(g:Vl->Vl)(hg:∀c,(g c).dm=.list [.atom w,c.dm])(l:List Hl)(hl:l.length<=1000000):∀(k i:Nat) (out:List Hl),i+k=l.length->out.length+k<=1000000 ->
 EA [.sl (lN l),.v (.string (mk w)),.v (.int .i64 (i:Int))] [.vec 4 (lN out)] (ki 1 [] [.vec 4 (lN (out++lL g (l.drop i)))])
 |
  0,i,out,hi,ho=>by
  refine I1 _ _ _ _ ?_
  have:i=l.length:=by omega
  subst this
  simp only[EZ,↓zq,zs,af,fp]
  exact⟨fun h=>by omega,fun _=>by simp[ki,lL]⟩
 |
  k+1,i,out,hi,ho=>by
  have hlt:i<l.length:=by omega
  refine I1 _ _ _ _ ?_
  simp only[EZ,↓zq,zs,af,zt,fp,gr hlt,kk,aP]
  refine⟨fun _=>?_,fun h=>by omega⟩
  repeat refine⟨by omega,?_⟩
  refine aj (Bv _ _) ?_
  simp only[↓zq,zs,af,aP]
  repeat refine⟨by omega,?_⟩
  refine⟨⟨yU _ _ _ _,by omega⟩,?_⟩
  rw[bS i (by omega)]
  have:=G5 w g hg l hl k (i+1) (out++[(g (l[i]).1,(l[i]).2)]) (by omega) (by simp;omega)
  rw[bD,<-oA,hg]at this
  rw[mj g l hlt]
  exact this
theorem Iz(w:List UInt8)(g:Vl->Vl)(hg:∀c,(g c).dm=.list [.atom w,c.dm])(l out:List Hl)(hl:out.length+l.length<=1000000) :
 az Tryz.prog 150 [.sl (lN l),.v (.string (mk w)),.vec 0] [.vec 4 (lN out)] (gC (.vec 1) [.dead,.vec 4 (lN (out++lL g l))]):=by
 refine LZ _ _ _ ((bZ _).mpr trivial) ?_
 simp only[Gy,↓zq,zs,af]
 have h:=G5 w g hg l (by omega) l.length 0 out (by omega) (by omega)
 rw[bO]at h
 refine df h ?_
 simp[↓zq,zs,af,gC]
theorem Kp(s:List UInt8)(ta:ByteArray)(tp:AV)(ht:LK.sl.has tp)(va:ByteArray)(vp:AV)(x y:Vl)(hp:P3 vp x.dm y.dm)(l:List Hl)(hl:l.length<=1000000):∀(k i:Nat) (out:List Hl),i+k=l.length->out.length+k<=1000000 ->
 DM [.v (.string (mk s)),.sl (lN l),.v (.int .i64 (i:Int))] [.cells [.v (.string ta),tp],.cells [.v (.string va),vp],.vec 4 (lN out)] (ki 1 [.v (.string (mk s))] [.cells [.v (.string ta),tp],.cells [.v (.string va),vp],.vec 4 (lN (out++lL (fun c=>Vl.l (.p c y)) (l.drop i)))])
 |
  0,i,out,hi,ho=>by
  refine H7 _ _ _ _ _ _ _ _ ?_
  have:i=l.length:=by omega
  subst this
  simp only[Fc,↓zq,zs,af,fp,ht,aV,af,hp.1]
  exact⟨fun h=>by omega,fun _=>by simp[ki,lL]⟩
 |
  k+1,i,out,hi,ho=>by
  have hlt:i<l.length:=by omega
  refine H7 _ _ _ _ _ _ _ _ ?_
  simp only[Fc,↓zq,zs,af,zt,fp,gr hlt,kk,aP,gr,ht,aV,af,hp.1,toNat_one,bf,hp.1,hp.2.1,hp.2.2.1,hp.2.2.2]
  refine⟨fun _=>?_,fun h=>by omega⟩
  repeat refine⟨by omega,?_⟩
  refine aj (yR _ _ _) ?_
  simp only[↓zq,zs,af,aP]
  repeat refine⟨by omega,?_⟩
  refine aj (Bv [108] (E.list [.atom [112],(l[i]).1.dm,y.dm])) ?_
  simp only[↓zq,zs,af,aP]
  repeat refine⟨by omega,?_⟩
  refine⟨⟨yU _ _ _ _,by omega⟩,?_⟩
  rw[bS i (by omega)]
  have:=Kp s ta tp ht va vp x y hp l hl k (i+1) (out++[((fun c=>Vl.l (.p c y)) (l[i]).1,(l[i]).2)]) (by omega) (by simp;omega)
  rw[bD,<-oA]at this
  rw[mj (fun c=>Vl.l (.p c y)) l hlt]
  exact this
theorem I7(va:ByteArray)(vp:AV)(x y:Vl)(hp:P3 vp x.dm y.dm)(l:List Hl)(hl:l.length<=1000000):∀(k i:Nat) (out:List Hl),i+k=l.length->out.length+k<=1000000 ->
 Fu [.sl (lN l),.v (.int .i64 (i:Int))] [.cells [.v (.string va),vp],.vec 4 (lN out)] (ki 1 [] [.vec 4 (lN (out++lL (fun c=>Vl.r (.p x c)) (l.drop i)))])
 |
  0,i,out,hi,ho=>by
  refine HZ _ _ _ _ _ ?_
  have:i=l.length:=by omega
  subst this
  simp only[EG,↓zq,zs,af,fp,aV,af,hp.1]
  exact⟨fun h=>by omega,fun _=>by simp[ki,lL]⟩
 |
  k+1,i,out,hi,ho=>by
  have hlt:i<l.length:=by omega
  refine HZ _ _ _ _ _ ?_
  simp only[EG,↓zq,zs,af,zt,fp,gr hlt,kk,aP,gr,aV,af,hp.1,toNat_one,bf,hp.1,hp.2.1,hp.2.2.1,hp.2.2.2]
  refine⟨fun _=>?_,fun h=>by omega⟩
  repeat refine⟨by omega,?_⟩
  refine aj (yR _ _ _) ?_
  simp only[↓zq,zs,af,aP]
  repeat refine⟨by omega,?_⟩
  refine aj (Bv [114] (E.list [.atom [112],x.dm,(l[i]).1.dm])) ?_
  simp only[↓zq,zs,af,aP]
  repeat refine⟨by omega,?_⟩
  refine⟨⟨yU _ _ _ _,by omega⟩,?_⟩
  rw[bS i (by omega)]
  have:=I7 va vp x y hp l hl k (i+1) (out++[((fun c=>Vl.r (.p x c)) (l[i]).1,(l[i]).2)]) (by omega) (by simp;omega)
  rw[bD,<-oA]at this
  rw[mj (fun c=>Vl.r (.p x c)) l hlt]
  exact this
theorem IN(s s2:List UInt8)(ta:ByteArray)(tp:AV)(ht:LK.sl.has tp)(va:ByteArray)(vp:AV)(hp:LK.sl.has vp)(l:List Hl)(hl:l.length<=1000000):∀(k i:Nat) (out:List Hl),i+k=l.length->out.length+k<=1000000 ->
 Ed [.v (.string (mk s)),.v (.string (mk s2)),.sl (lN l),.v (.int .i64 (i:Int))] [.cells [.v (.string ta),tp],.cells [.v (.string va),vp],.vec 4 (lN out)] (ki 1 [.v (.string (mk s)),.v (.string (mk s2))] [.cells [.v (.string ta),tp],.cells [.v (.string va),vp],.vec 4 (lN (out++lL (fun c=>Vl.f (.l c)) (l.drop i)))])
 |
  0,i,out,hi,ho=>by
  refine G3 _ _ _ _ _ _ _ _ _ ?_
  have:i=l.length:=by omega
  subst this
  simp only[Eb,↓zq,zs,af,fp,ht,aV,af,hp]
  exact⟨fun h=>by omega,fun _=>by simp[ki,lL]⟩
 |
  k+1,i,out,hi,ho=>by
  have hlt:i<l.length:=by omega
  refine G3 _ _ _ _ _ _ _ _ _ ?_
  simp only[Eb,↓zq,zs,af,zt,fp,gr hlt,kk,aP,gr,ht,aV,af,hp]
  refine⟨fun _=>?_,fun h=>by omega⟩
  repeat refine⟨by omega,?_⟩
  refine aj (Bv _ _) ?_
  simp only[↓zq,zs,af,aP]
  repeat refine⟨by omega,?_⟩
  refine aj (Bv [102] (E.list [.atom [108],(l[i]).1.dm])) ?_
  simp only[↓zq,zs,af,aP]
  repeat refine⟨by omega,?_⟩
  refine⟨⟨yU _ _ _ _,by omega⟩,?_⟩
  rw[bS i (by omega)]
  have:=IN s s2 ta tp ht va vp hp l hl k (i+1) (out++[((fun c=>Vl.f (.l c)) (l[i]).1,(l[i]).2)]) (by omega) (by simp;omega)
  rw[bD,<-oA]at this
  rw[mj (fun c=>Vl.f (.l c)) l hlt]
  exact this
theorem IW(s:List UInt8)(L:AV)(q:Nat)(kc:Vl)(kv:Vl)(hL:LK.sl.has L)(hq:q<L.aS.length)(hg:L.aS.getD q []=[.v (.string (mk kc.dm.at)),kc.dm.sp,.v (.string (mk kv.dm.at)),kv.dm.sp])(ta:ByteArray)(tp:AV)(ht:LK.sl.has tp)(l:List Hl)(hl:l.length<=1000000):∀(k i:Nat) (out:List Hl),i+k=l.length->out.length+k<=1000000 ->
 DP [.v (.string (mk s)),L,.v (.int .i64 (q:Int)),.sl (lN l),.v (.int .i64 (i:Int))] [.cells [.v (.string ta),tp],.vec 4 (lN out)] (ki 1 [.v (.string (mk s)),L,.v (.int .i64 (q:Int))] [.cells [.v (.string ta),tp],.vec 4 (lN (out++lL (fun c=>Vl.f (.r (.p kc c))) (l.drop i)))])
 |
  0,i,out,hi,ho=>by
  refine Jk _ _ _ _ _ _ _ _ ?_
  have:i=l.length:=by omega
  subst this
  simp only[Ga,↓zq,zs,af,fp,ht,aV,af,hL]
  exact⟨fun h=>by omega,fun _=>by simp[ki,lL]⟩
 |
  k+1,i,out,hi,ho=>by
  have hlt:i<l.length:=by omega
  refine Jk _ _ _ _ _ _ _ _ ?_
  simp only[Ga,↓zq,zs,af,zt,fp,gr hlt,kk,aP,gr,ht,aV,af,hL,hg]
  refine⟨fun _=>?_,fun h=>by omega⟩
  repeat refine⟨by omega,?_⟩
  refine aj (yR _ _ _) ?_
  simp only[↓zq,zs,af,aP]
  repeat refine⟨by omega,?_⟩
  refine aj (Bv [114] (E.list [.atom [112],kc.dm,(l[i]).1.dm])) ?_
  simp only[↓zq,zs,af,aP]
  repeat refine⟨by omega,?_⟩
  refine aj (Bv [102] (E.list [.atom [114],E.list [.atom [112],kc.dm,(l[i]).1.dm]])) ?_
  simp only[↓zq,zs,af,aP]
  repeat refine⟨by omega,?_⟩
  refine⟨⟨yU _ _ _ _,by omega⟩,?_⟩
  rw[bS i (by omega)]
  have:=IW s L q kc kv hL hq hg ta tp ht l hl k (i+1) (out++[((fun c=>Vl.f (.r (.p kc c))) (l[i]).1,(l[i]).2)]) (by omega) (by simp;omega)
  rw[bD,<-oA]at this
  rw[mj (fun c=>Vl.f (.r (.p kc c))) l hlt]
  exact this
theorem H0(s:List UInt8)(te:E)(a:Ty)(tg:Tg)(l:List Hl)(hl:l.length<=1000000)(ih:∀h,h∈l->az Tryz.prog 110 [.agg [.v (.string (mk te.at)),te.sp],.v (.string (mk s)),.agg [.v (.string (mk h.2.dm.at)),h.2.dm.sp]] [] (bG (.sl (lN (bY (.rc a) tg h.2))))) :
 ∀(k i:Nat) (out:List Hl),i+k=l.length->(out++(l.drop i).flatMap (Gt a tg)).length<=1000000 ->
 EQ [.v (.string (mk s)),.sl (lN l),.v (.int .i64 (i:Int))] [.cells [.v (.string (mk te.at)),te.sp],.vec 4 (lN out)] (ki 1 [] [.vec 4 (lN (out++(l.drop i).flatMap (Gt a tg)))])
 |
  0,i,out,hi,ho=>by
  refine H4 _ _ _ _ _ _ ?_
  have:i=l.length:=by omega
  subst this
  simp only[Fj,↓zq,zs,af,fp,aV,af]
  exact⟨fun h=>by omega,fun _=>by simp[ki]⟩
 |
  k+1,i,out,hi,ho=>by
  have hlt:i<l.length:=by omega
  have hd:(l.drop i).flatMap (Gt a tg)=Gt a tg (l[i])++(l.drop (i+1)).flatMap (Gt a tg):=by rw[ba hlt,List.flatMap_cons]
  rw[hd]at ho |-
  refine H4 _ _ _ _ _ _ ?_
  simp only[Fj,↓zq,zs,af,zt,fp,gr hlt,kk,aP,aV,af]
  refine⟨fun _=>?_,fun h=>by omega⟩
  repeat refine⟨by omega,?_⟩
  refine aj (ih _ (EU l hlt)) ?_
  simp only[↓zq,zs,af]
  have hb:out.length+(bY (.rc a) tg (l[i]).2).length<=1000000:=by
   simp only[an,kT]at ho;omega
  have h5:=IW s (.sl (lN l)) i (l[i]).1 (l[i]).2 ((bZ _).mpr trivial) (by rw[fw,fp];omega) (by rw[fw,gr hlt]) (mk te.at) te.sp ((aV _).mpr trivial) (bY (.rc a) tg (l[i]).2) (by omega) (bY (.rc a) tg (l[i]).2).length 0 out (by omega) (by omega)
  rw[bO]at h5
  refine df h5 ?_
  simp only[↓zq,zs,af,aV,af]
  repeat refine⟨by omega,?_⟩
  rw[bS i (by omega),<-bD]
  exact H0 s te a tg l hl ih k (i+1) _ (by omega) (by rw[bD];exact ho)
end Go.Proofs.Trees
namespace Go.Proofs.Trees
open Go Go.VL Go.RowKit
def kids(a:Ty):Vl->List Hl
 | .f w=>bY a (.bd 0) w
 |_=>[]
theorem CF{a:Ty}{v:Vl}{h:Hl}(hh:h∈kids a v):h.2.nodes<v.nodes:=by
 cases v with
 |f w=>have:=(jO hh).1;simp only[Vl.nodes];omega
 |_=>cases hh
theorem qX{n:Nat}{a:Ty}{v:Vl}{h:Hl}(hv:v.iu n)(hh:h∈kids a v):h.1.iu n/\h.2.iu n:=by
 cases v with
 |f w=>exact fT n _ _ _ w h hv hh
 |_=>cases hh
end Go.Proofs.Trees
namespace Go.Proofs.Trees
open Go Go.VL
mutual
def E.pr:E->Prop
 | .atom s=>s≠[]/\s.all eV=true
 | .list l=>l≠[]/\E.A3 l
def E.A3:List E->Prop
 |[]=>True
 |e::l=>e.pr/\E.A3 l
end
mutual
def E.dp:E->Nat
 | .atom _=>0
 | .list l=>1+E.ua l
def E.ua:List E->Nat
 |[]=>0
 |e::l=>max e.dp (E.ua l)
end
def Hu(r:List UInt8):Prop:=∀c t,r=c::t->eV c=false
theorem tQ:Hu []:=by intro c t h;cases h
theorem z8{s r:List UInt8}(hs:s.all eV=true)(hr:Hu r):(s++r).takeWhile eV=s/\(s++r).dropWhile eV=r:=by
 induction s with
 |
  nil =>
  cases r with
  |nil=>exact⟨rfl,rfl⟩
  |cons c t=>have:=hr c t rfl;simp[List.takeWhile,List.dropWhile,this]
 |
  cons c s ih =>
  simp only[cJ,au]at hs
  have:=ih hs.2
  simp[List.takeWhile,List.dropWhile,hs.1,this.1,this.2]
theorem vk(l:List E)(r:List UInt8):Hu (dZ l++41::r):=by
 intro c t h
 cases l with
 |nil=>simp only[dZ,bh,List.cons.injEq]at h;rw[<-h.1];decide
 |cons e l=>simp only[dZ,bn,List.cons.injEq]at h;rw[<-h.1];decide
theorem AN{f:List UInt8->Option (E×List UInt8)}(r:List UInt8):∀(l:List E) (e:E) (acc:List E) (n:Nat),l.length<n->(∀x,x=e\/x∈l->∀r,Hu r->f (eQ x++r)=some (x,r)) ->
 rD f n (eQ e++(dZ l++41::r)) acc=some (.list (acc++e::l),r)
 |l,e,acc,0,hn,hf=>by omega
 |
  [],e,acc,n+1,hn,hf=>by
  simp only[rD]
  rw[hf e (.inl rfl) _ (vk [] r)]
  simp[dZ]
 |
  x::l,e,acc,n+1,hn,hf=>by
  simp only[rD]
  rw[hf e (.inl rfl) _ (vk (x::l) r)]
  simp only[aq]at hn
  have ih:=AN r l x (acc++[e]) n (by omega) (fun y hy=>hf y (.inr (by cases hy with|inl h=>rw[h];exact ah|inr h=>exact ak _ h)))
  simp only[bD,bn,bh]at ih
  simp only[dZ,bn,bD]
  simp[ih]
theorem BR{l:List E}{k:Nat}:E.A3 l->E.ua l<=k->∀x,x∈l->x.pr/\x.dp<=k:=by
 induction l with
 |nil=>intro _ _ x h;cases h
 |
  cons e l ih =>
  intro h hd x hx
  simp only[E.A3,E.ua]at h hd
  cases hx with
  |head=>exact⟨h.1,by omega⟩
  |tail _ hx=>exact ih h.2 (by omega) x hx
theorem xG:∀(k:Nat) (e:E) (r:List UInt8),e.pr->e.dp<=k->Hu r->rd k (eQ e++r)=some (e,r)
 |
  0,.atom s,r,hp,hd,hr=>by
  have h:=z8 hp.2 hr
  simp only[eQ,rd,h.1,h.2,hp.1,if_false]
 |
  k+1,.atom s,r,hp,hd,hr=>by
  have h:=z8 hp.2 hr
  simp only[eQ,rd,h.1,h.2,hp.1,if_false]
 |0,.list l,r,hp,hd,hr=>by simp only[E.dp]at hd;omega
 |k+1,.list [],r,hp,hd,hr=>by exact absurd rfl hp.1
 |
  k+1,.list (e::l),r,hp,hd,hr=>by
  have hs:eV 40=false:=by decide
  simp only[E.dp,E.pr]at hd hp
  have hm:=BR (k:=k) hp.2 (by omega)
  have:=AN (f:=rd k) r l e [] ((eQ e++(dZ l++41::r)).length+1) (by have:=qz l;simp only[an,aq];omega)
   (fun x hx r hr=>xG k x r (hm x (by cases hx with|inl h=>rw[h];exact ah|inr h=>exact ak _ h)).1 (hm x (by cases hx with|inl h=>rw[h];exact ah|inr h=>exact ak _ h)).2 hr)
  simp only[eQ,bn,bD,bh]at *
  simp only[rd,List.takeWhile,hs,if_true]
  simpa using this
theorem AB{e e':E}(h:e.pr)(h':e'.pr)(ht:eQ e=eQ e'):e=e':=by
 have a:=xG (max e.dp e'.dp) e [] h (by omega) tQ
 have b:=xG (max e.dp e'.dp) e' [] h' (by omega) tQ
 rw[ht,b]at a;cases a;rfl
theorem F9{e:E}(h:e.pr)(hd:e.dp<=300)(hl:(eQ e).length<=8000):qj (eQ e)=some e:=by
 have:=xG 300 e [] h hd tQ
 rw[cY]at this
 rw[qj,this];simp;omega
theorem Ai(s:List UInt8):(s.takeWhile eV).all eV=true:=by
 induction s with
 |nil=>rfl
 |cons c s ih =>
  cases h:eV c
  ·simp[List.takeWhile,h]
  ·simp only[List.takeWhile,h,cJ,ih];rfl
theorem Bw(l r:List E):E.A3 (l++r)↔E.A3 l/\E.A3 r:=by
 induction l with
 |nil=>simp[E.A3]
 |cons e l ih=>simp[E.A3,ih,and_assoc]
theorem BV(l r:List E):E.ua (l++r)=max (E.ua l) (E.ua r):=by
 induction l with
 |nil=>simp[E.ua]
 |cons e l ih=>simp[E.ua,ih,Nat.max_assoc]
theorem xp{k:Nat}{f:List UInt8->Option (E×List UInt8)}(hf:∀s e r,f s=some (e,r)->s=eQ e++r/\e.pr/\e.dp<=k):∀(n:Nat) (s:List UInt8) (acc:List E) (e:E) (r:List UInt8),rD f n s acc=some (e,r)->E.A3 acc->E.ua acc<=k ->
 ∃l,e=.list (acc++l)/\l≠[]/\32::s=dZ l++41::r/\E.A3 l/\E.ua l<=k
 |0,s,acc,e,r,h,hp,hd=>by cases h
 |
  n+1,s,acc,e,r,h,hp,hd=>by
  simp only[rD]at h
  split at h
  ·rename_i p c r' hs
   obtain⟨h1,h2,h3⟩:=hf _ _ _ hs
   split at h
   ·rename_i hc
    have hc:c=41:=dK.mp hc
    cases h
    exact⟨[p],rfl,by simp,by simp[dZ,h1,hc],⟨h2,trivial⟩,by simp[E.ua];omega⟩
   ·split at h
    ·rename_i hc
     have hc:c=32:=dK.mp hc
     obtain⟨l,g1,g2,g3,g4,g5⟩:=xp hf n _ _ _ _ h ((Bw _ _).mpr ⟨hp,h2,trivial⟩) (by rw[BV];simp[E.ua];omega)
     refine⟨p::l,by simpa using g1,by simp,?_,⟨h2,g4⟩,by simp only[E.ua];omega⟩
     rw[h1,hc,g3];simp[dZ]
    ·cases h
  ·cases h
theorem zw:∀(k:Nat) (s:List UInt8) (e:E) (r:List UInt8),rd k s=some (e,r)->s=eQ e++r/\e.pr/\e.dp<=k
 |
  0,s,e,r,h=>by
  simp only[rd]at h
  split at h
  ·cases h
  ·rename_i hs;cases h
   exact⟨(bL).symm,⟨hs,Ai s⟩,ap _⟩
 |
  k+1,s,e,r,h=>by
  simp only[rd]at h
  split at h
  ·split at h
   ·rename_i c r' _
    split at h
    ·rename_i hc
     have hc:c=40:=dK.mp hc
     obtain⟨l,g1,g2,g3,g4,g5⟩:=xp (k:=k) (fun s e r h=>zw k s e r h) _ _ _ _ _ h trivial (dJ _)
     simp only[bh]at g1
     subst g1;subst hc
     refine⟨?_,⟨g2,g4⟩,by simp only[E.dp];omega⟩
     cases l with
     |nil=>exact absurd rfl g2
     |
      cons x l =>
      simp only[dZ,bn,bD,List.cons.injEq,true_and]at g3
      rw[g3];simp[eQ]
    ·cases h
   ·cases h
  ·rename_i hs;cases h
   exact⟨(bL).symm,⟨hs,Ai s⟩,by simp[E.dp]⟩
theorem wT{s:List UInt8}{e:E}(h:qj s=some e):s=eQ e/\e.pr/\e.dp<=300/\s.length<=8000:=by
 unfold qj at h
 split at h
 ·cases h
 ·rename_i hl
  split at h
  ·rename_i e' hr
   cases h
   have:=zw _ _ _ _ hr
   exact⟨by simpa using this.1,this.2.1,this.2.2,by omega⟩
  ·cases h
theorem AZ{k:Nat}(h:k<10):eV (aX (48+k))=true:=by
 have:∀k:Fin 10,eV (aX (48+k.val))=true:=by decide
 exact this ⟨k,h⟩
theorem vG:∀(n k:Nat),k<n->(dd k).all eV=true
 |0,k,h=>by omega
 |
  n+1,k,h=>by
  by_cases hk:k<10
  ·rw[eC hk,cJ,AZ hk];rfl
  ·rw[fH hk]
   have:=vG n (k/10) (by omega)
   rw[List.all_append,this,cJ,AZ (ej k (by omega:0<10))];rfl
theorem F2(k:Nat):(E.atom (uE k)).pr:=⟨by simp,by have:=vG (k+1) k (by omega);simp only[uE,cJ,this];decide⟩
theorem mi:∀v:Vl,v.dm.pr
 | .u=>⟨by simp,by decide⟩
 | .el k=>F2 k
 | .l v=>⟨by simp,⟨by simp,by decide⟩,mi v,trivial⟩
 | .r v=>⟨by simp,⟨by simp,by decide⟩,mi v,trivial⟩
 | .f v=>⟨by simp,⟨by simp,by decide⟩,mi v,trivial⟩
 | .p a b=>⟨by simp,⟨by simp,by decide⟩,mi a,mi b,trivial⟩
theorem pk:∀v:Vl,v.dm.dp<v.nodes+1
 | .u=>by simp[Vl.dm,E.dp,Vl.nodes]
 | .el k=>by simp[Vl.dm,E.dp,Vl.nodes]
 | .l v=>by have:=pk v;simp only[Vl.dm,E.dp,E.ua,Vl.nodes]at *;omega
 | .r v=>by have:=pk v;simp only[Vl.dm,E.dp,E.ua,Vl.nodes]at *;omega
 | .f v=>by have:=pk v;simp only[Vl.dm,E.dp,E.ua,Vl.nodes]at *;omega
 | .p a b=>by have:=pk a;have:=pk b;simp only[Vl.dm,E.dp,E.ua,Vl.nodes]at *;omega
theorem Bz(k:Nat)(h:k<100):(dd k).length<=2:=by
 by_cases hk:k<10
 ·rw[eC hk];simp
 ·rw[fH hk,eC (by omega:k/10<10)];simp
theorem kt:∀v:Vl,v.iu 100->v.ei.length<=5*v.nodes
 | .u,_=>by simp[Vl.ei,Vl.dm,eQ,Vl.nodes]
 |
  .el k,h=>by
  have:=Bz k h
  simp only[Vl.ei,Vl.dm,eQ,Vl.nodes,aq];omega
 | .l v,h=>by have:=kt v h;simp only[Vl.ei,Vl.dm,eQ,dZ,Vl.nodes,aq,an,aE]at this |-;omega
 | .r v,h=>by have:=kt v h;simp only[Vl.ei,Vl.dm,eQ,dZ,Vl.nodes,aq,an,aE]at this |-;omega
 | .f v,h=>by have:=kt v h;simp only[Vl.ei,Vl.dm,eQ,dZ,Vl.nodes,aq,an,aE]at this |-;omega
 | .p a b,h=>by have:=kt a h.1;have:=kt b h.2;simp only[Vl.ei,Vl.dm,eQ,dZ,Vl.nodes,aq,an,aE]at *;omega
theorem Eu(k:Nat):uE k≠[117]:=by simp[uE]
theorem j8:∀v:Vl,v.iu 100->fF v.dm=some v
 | .u,_=>by simp[Vl.dm,fF]
 | .el k,h=>by simp only[Vl.dm,fF,Eu,if_false,qp k h]
 | .l v,h=>by simp only[Vl.dm,fF,j8 v h,E.at];simp
 | .r v,h=>by simp only[Vl.dm,fF,j8 v h,E.at];simp
 | .f v,h=>by simp only[Vl.dm,fF,j8 v h,E.at];simp
 | .p a b,h=>by simp only[Vl.dm,fF,j8 a h.1,j8 b h.2,E.at];simp
theorem nO{v:Vl}(h:v.iu 100)(hn:v.nodes<=200):pE v.ei=some v:=by
 have hd:=pk v
 have hl:=kt v h
 rw[pE,F9 (mi v) (by omega) (by show v.ei.length<=8000;omega)]
 simp only[j8 v h]
 rw[if_neg (by omega)]
theorem wM{v w:Vl}(h:v.iu 100)(h':w.iu 100)(ht:v.ei=w.ei):v=w:=by
 have:=AB (mi v) (mi w) ht
 have a:=j8 v h
 rw[this,j8 w h']at a;cases a;rfl
theorem mD{s:List UInt8}{v:Vl}(h:pE s=some v):s=v.ei:=(wT (gF h).1).1
end Go.Proofs.Trees
namespace Go.Proofs.Trees
open Go Go.VL Go.RowKit
theorem cn(l:List E):(E.list l).at=[]:=rfl
def cG:Ty->Vl->Vl->Vl
 | .plus a _,.l c,v=>.l (cG a c v)
 | .plus _ b,.r c,v=>.r (cG b c v)
 | .times a _,.l (.p x y),v=>.p (cG a x v) y
 | .times _ b,.r (.p x y),v=>.p x (cG b y v)
 | .rc a,.f (.l x),v=>.f (cG a x v)
 | .rc a,.f (.r (.p x y)),v=>.f (cG a x (cG (.rc a) y v))
 |_,_,v=>v
def dH:Ty->Vl->Bool
 | .plus a _,.l c=>dH a c
 | .plus _ b,.r c=>dH b c
 | .times a _,.l (.p x _)=>dH a x
 | .times _ b,.r (.p _ y)=>dH b y
 | .rc a,.f (.l x)=>dH a x
 | .rc a,.f (.r (.p x y))=>dH a x&&dH (.rc a) y
 | .plus _ _,_=>false
 | .times _ _,_=>false
 | .rc _,_=>false
 |_,_=>true
theorem oT(c v:Vl):cG .zero c v=v:=by cases c<;>rfl
theorem qK(c v:Vl):cG .one c v=v:=by cases c<;>rfl
theorem jz(s:List UInt8)(c v:Vl):cG (.name s) c v=v:=by cases c<;>rfl
theorem nv(u:Nat)(c v:Vl):cG (.bA u) c v=v:=by cases c<;>rfl
theorem Bq{a b:Ty}{c:Vl}(h:dH (.plus a b) c=true):(∃x,c=.l x/\dH a x=true)\/∃x,c=.r x/\dH b x=true:=by
 cases c<;>simp[dH]at h<;>simp[h]
theorem yC{a b:Ty}{c:Vl}(h:dH (.times a b) c=true):(∃x y,c=.l (.p x y)/\dH a x=true)\/∃x y,c=.r (.p x y)/\dH b y=true:=by
 cases c with
 |l c=>cases c<;>simp[dH]at h<;>simp[h]
 |r c=>cases c<;>simp[dH]at h<;>exact .inr ⟨_,_,rfl,h⟩
 |_=>simp[dH]at h
theorem FW{a:Ty}{c:Vl}(h:dH (.rc a) c=true):(∃x,c=.f (.l x)/\dH a x=true)\/∃x y,c=.f (.r (.p x y))/\dH a x=true/\dH (.rc a) y=true:=by
 cases c with
 |
  f c =>
  cases c with
  |l c=>simp[dH]at h;simp[h]
  |r c=>cases c<;>simp[dH]at h<;>exact .inr ⟨_,_,rfl,h⟩
  |_=>simp[dH]at h
 |_=>simp[dH]at h
theorem vu(t:Ty)(c v:Vl):(cG t c v).nodes<=c.nodes+v.nodes:=by
 induction t,c,v using cG.induct<;>simp only[cG,Vl.nodes]at*<;> omega
theorem u7(m:Nat)(t:Ty)(c v:Vl):c.iu m->v.iu m->(cG t c v).iu m:=by
 induction t,c,v using cG.induct with
 |case1 a b c v ih=>exact fun h h'=>ih h h'
 |case2 a b c v ih=>exact fun h h'=>ih h h'
 |case3 a b x y v ih=>exact fun h h'=>⟨ih h.1 h',h.2⟩
 |case4 a b x y v ih=>exact fun h h'=>⟨h.1,ih h.2 h'⟩
 |case5 a x v ih=>exact fun h h'=>ih h h'
 |case6 a x y v ih1 ih2=>exact fun h h'=>ih2 h.1 (ih1 h.2 h')
 |case7=>intro h h';simpa only[cG]using h'
def KR:Hl:=(.u,.u)
end Go.Proofs.Trees
namespace Go.Proofs.Trees
open Go Go.VL Go.RowKit
theorem po(s:Nm)(a b:E):az Tryz.prog 90 [.agg [.v (.string (mk [])),(E.list [.atom s,a,b]).sp]] [] (bG (.v (.string (mk s)))):=wP (.atom s) [a,b]
theorem B4{e:E}(h:Wf e):∀(bd l:List Nm) (a:AV),dN a bd->bd.length+l.length+e.sz<100000->az Tryz.prog 98 [.agg [.v (.string (mk e.at)),e.sp],a,.vec 0] [.vec 1 (cb l)] (gC (.vec 1) [.dead,.vec 1 (cb (jY e bd l))]):=by
 induction h with
 |
  @atom s hs =>
  intro bd l a ha hl
  simp only[E.sz]at hl
  refine yG _ _ _ _ ((aV _).mpr trivial) ha.1 ?_
  have hll:(cb l).length=l.length:=by simp[cb]
  simp only[vW,dX,↓zq,zs,af,zt,gC,jY]
  refine⟨fun _=>⟨fun h=>?_,fun h=>⟨fun h1=>?_,fun h1=>?_⟩⟩,fun h=>absurd h hs⟩
  ·rw[if_pos (.inl h)]
  ·rw[if_pos (.inr (.inl h1))]
  ·refine aj (FU bd a ha s (by omega)) ?_
   simp only[↓zq,zs,af]
   refine⟨fun h2=>?_,fun h2=>aj (FU l _ (.of l) s (by omega)) ?_⟩
   ·rw[if_pos (.inr (.inr (.inl h2)))]
   ·simp only[↓zq,zs,af]
    refine⟨fun h3=>?_,fun h3=>⟨⟨fun c hc=>(by simp at hc;rw[hc];rfl),by omega⟩,?_⟩⟩
    ·rw[if_pos (.inr (.inr (.inr h3)))]
    ·rw[yT,if_neg]
     rintro(q|q|q|q)
     ·exact h q
     ·exact h1 q
     ·exact h2 q
     ·exact h3 q
 |
  @plus x y hx hy i1 i2 =>
  intro bd l a ha hl
  simp only[E.sz,E.iX]at hl
  have hfl:=fU x bd l
  refine yG _ _ _ _ ((aV _).mpr trivial) ha.1 ?_
  have hP:=P3.of (.atom [43]) x y
  simp only[vW,cn,toNat_one,bf,↓zq,zs,af,zt,hP.1,hP.2.1,hP.2.2.1,hP.2.2.2,aP,gC]
  refine⟨fun h=>absurd rfl h,fun _=>?_⟩
  refine aj (po [43] x y) ?_
  simp only[↓zq,zs,af,zt]
  refine⟨fun h=>by simp at h,fun _=>?_⟩
  repeat refine⟨by omega,?_⟩
  refine bj (i1 bd l a ha (by omega)) ?_
  simp only[↓zq,zs,af,zt,be,bu,Ob.es]
  repeat refine⟨by omega,?_⟩
  refine bj (i2 bd (jY x bd l) a ha (by omega)) ?_
  simp only[↓zq,zs,af,zt,be,bu,Ob.es]
  rw[jY,if_neg (by decide)]
 |
  @times x y hx hy i1 i2 =>
  intro bd l a ha hl
  simp only[E.sz,E.iX]at hl
  have hfl:=fU x bd l
  refine yG _ _ _ _ ((aV _).mpr trivial) ha.1 ?_
  have hP:=P3.of (.atom [42]) x y
  simp only[vW,cn,toNat_one,bf,↓zq,zs,af,zt,hP.1,hP.2.1,hP.2.2.1,hP.2.2.2,aP,gC]
  refine⟨fun h=>absurd rfl h,fun _=>?_⟩
  refine aj (po [42] x y) ?_
  simp only[↓zq,zs,af,zt]
  refine⟨fun h=>by simp at h,fun _=>?_⟩
  repeat refine⟨by omega,?_⟩
  refine bj (i1 bd l a ha (by omega)) ?_
  simp only[↓zq,zs,af,zt,be,bu,Ob.es]
  repeat refine⟨by omega,?_⟩
  refine bj (i2 bd (jY x bd l) a ha (by omega)) ?_
  simp only[↓zq,zs,af,zt,be,bu,Ob.es]
  rw[jY,if_neg (by decide)]
 |
  @rc n y hn hy i =>
  intro bd l a ha hl
  simp only[E.sz,E.iX]at hl
  refine yG _ _ _ _ ((aV _).mpr trivial) ha.1 ?_
  have hP:=P3.of (.atom dS) (.atom n) y
  simp only[vW,cn,toNat_one,bf,↓zq,zs,af,zt,hP.1,hP.2.1,hP.2.2.1,hP.2.2.2,aP,gC]
  refine⟨fun h=>absurd rfl h,fun _=>?_⟩
  refine aj (po dS (.atom n) y) ?_
  simp only[↓zq,zs,af,zt]
  refine⟨fun _=>?_,fun h=>absurd rfl h⟩
  repeat refine⟨by omega,?_⟩
  refine aj (yZ bd a ha n (by omega)) ?_
  simp only[↓zq,zs,af]
  refine bj (i (bd++[n]) l _ (.of _) (by simp;omega)) ?_
  simp only[↓zq,zs,af,be,bu,Ob.es]
  rw[jY,if_pos (dX _)];rfl
theorem LR(x:Nm)(u:E){e:E}(h:Wf e):az Tryz.prog 187 [.agg [.v (.string (mk e.at)),e.sp],.v (.string (mk x)),.agg [.v (.string (mk u.at)),u.sp]] [] (bG (.agg [.v (.string (mk (qC x u e).at)),(qC x u e).sp])):=by
 induction h with
 |
  @atom s hs =>
  refine Dd _ _ _ _ _ ((aV _).mpr trivial) ((aV _).mpr trivial) ?_
  simp only[Ag,dX,↓zq,zs,af,zt,bG,qC]
  refine⟨fun _=>⟨fun h=>?_,fun h=>?_⟩,fun h=>absurd h hs⟩
  ·rw[if_pos h]
  ·rw[if_neg h];rfl
 |
  @plus a b ha hb i1 i2 =>
  refine Dd _ _ _ _ _ ((aV _).mpr trivial) ((aV _).mpr trivial) ?_
  have hP:=P3.of (.atom [43]) a b
  simp only[Ag,cn,toNat_one,bf,↓zq,zs,af,zt,hP.1,hP.2.1,hP.2.2.1,hP.2.2.2,aP]
  refine⟨fun h=>absurd rfl h,fun _=>?_⟩
  refine aj (po [43] a b) ?_
  simp only[↓zq,zs,af,zt]
  refine⟨fun h=>by simp at h,fun _=>?_⟩
  refine aj (po [43] a b) ?_
  simp only[↓zq,zs,af,zt]
  repeat refine⟨by omega,?_⟩
  refine aj i1 ?_
  simp only[↓zq,zs,af,zt,aP]
  repeat refine⟨by omega,?_⟩
  refine aj i2 ?_
  simp only[↓zq,zs,af,zt,aP]
  repeat refine⟨by omega,?_⟩
  refine aj (yR _ _ _) ?_
  simp only[↓zq,zs,af,zt,aP,uP,cn]
  repeat refine⟨by omega,?_⟩
  exact⟨rfl,rfl⟩
 |
  @times a b ha hb i1 i2 =>
  refine Dd _ _ _ _ _ ((aV _).mpr trivial) ((aV _).mpr trivial) ?_
  have hP:=P3.of (.atom [42]) a b
  simp only[Ag,cn,toNat_one,bf,↓zq,zs,af,zt,hP.1,hP.2.1,hP.2.2.1,hP.2.2.2,aP]
  refine⟨fun h=>absurd rfl h,fun _=>?_⟩
  refine aj (po [42] a b) ?_
  simp only[↓zq,zs,af,zt]
  refine⟨fun h=>by simp at h,fun _=>?_⟩
  refine aj (po [42] a b) ?_
  simp only[↓zq,zs,af,zt]
  repeat refine⟨by omega,?_⟩
  refine aj i1 ?_
  simp only[↓zq,zs,af,zt,aP]
  repeat refine⟨by omega,?_⟩
  refine aj i2 ?_
  simp only[↓zq,zs,af,zt,aP]
  repeat refine⟨by omega,?_⟩
  refine aj (yR _ _ _) ?_
  simp only[↓zq,zs,af,zt,aP,sr,cn]
  repeat refine⟨by omega,?_⟩
  exact⟨rfl,rfl⟩
 |
  @rc n b hn hb i =>
  refine Dd _ _ _ _ _ ((aV _).mpr trivial) ((aV _).mpr trivial) ?_
  have hP:=P3.of (.atom dS) (.atom n) b
  simp only[Ag,cn,toNat_one,bf,↓zq,zs,af,zt,hP.1,hP.2.1,hP.2.2.1,hP.2.2.2,aP]
  refine⟨fun h=>absurd rfl h,fun _=>?_⟩
  refine aj (po dS (.atom n) b) ?_
  simp only[↓zq,zs,af,zt]
  refine⟨fun _=>?_,fun h=>absurd rfl h⟩
  repeat refine⟨by omega,?_⟩
  rw[Am]
  refine⟨fun h=>?_,fun h=>?_⟩
  ·have hh:n=x:=h
   rw[if_pos hh];exact⟨rfl,rfl⟩
  ·have hh:¬n=x:=h
   rw[if_neg hh]
   repeat refine⟨by omega,?_⟩
   refine aj i ?_
   simp only[↓zq,zs,af,zt,aP]
   repeat refine⟨by omega,?_⟩
   refine aj (yR dS (.atom n) (qC x u b)) ?_
   simp only[↓zq,zs,af,zt,aP,cn]
   repeat refine⟨by omega,?_⟩
   exact⟨rfl,rfl⟩
theorem qY(x:Nm){e:E}(h:Wf e):mz x e<=e.cN:=by
 induction h with
 |atom hs=>simp only[mz,E.cN];split<;>omega
 |plus ha hb i1 i2=>rw[qM];simp only[E.cN,E.eU];omega
 |times ha hb i1 i2=>rw[oZ];simp only[E.cN,E.eU];omega
 |rc hn hb i=>rw[wm];simp only[E.cN,E.eU];split<;>omega
theorem KW(x:Nm){e:E}(h:Wf e):e.cN<1000000->az Tryz.prog 186 [.agg [.v (.string (mk e.at)),e.sp],.v (.string (mk x))] [] (bG (.v (.int .i64 (mz x e:Int)))):=by
 induction h with
 |
  @atom s hs =>
  intro hl
  refine Cu _ _ _ ((aV _).mpr trivial) ?_
  simp only[Aa,dX,↓zq,zs,af,zt,bG,mz]
  refine⟨fun _=>⟨fun h=>?_,fun h=>?_⟩,fun h=>absurd h hs⟩
  ·rw[if_pos h];rfl
  ·rw[if_neg h];rfl
 |
  @plus a b ha hb i1 i2 =>
  intro hl
  simp only[E.cN,E.eU]at hl
  have u1:=qY x ha
  have u2:=qY x hb
  refine Cu _ _ _ ((aV _).mpr trivial) ?_
  have hP:=P3.of (.atom [43]) a b
  simp only[Aa,cn,toNat_one,bf,↓zq,zs,af,zt,hP.1,hP.2.1,hP.2.2.1,hP.2.2.2,aP]
  refine⟨fun h=>absurd rfl h,fun _=>?_⟩
  refine aj (po [43] a b) ?_
  simp only[↓zq,zs,af,zt]
  refine⟨fun h=>by simp at h,fun _=>?_⟩
  repeat refine⟨by omega,?_⟩
  refine aj (i1 (by omega)) ?_
  simp only[↓zq,zs,af,zt]
  repeat refine⟨by omega,?_⟩
  refine aj (i2 (by omega)) ?_
  simp only[↓zq,zs,af,zt]
  rw[qM,wrap64 _ (by omega) (by omega)]
  exact⟨by simp,rfl⟩
 |
  @times a b ha hb i1 i2 =>
  intro hl
  simp only[E.cN,E.eU]at hl
  have u1:=qY x ha
  have u2:=qY x hb
  refine Cu _ _ _ ((aV _).mpr trivial) ?_
  have hP:=P3.of (.atom [42]) a b
  simp only[Aa,cn,toNat_one,bf,↓zq,zs,af,zt,hP.1,hP.2.1,hP.2.2.1,hP.2.2.2,aP]
  refine⟨fun h=>absurd rfl h,fun _=>?_⟩
  refine aj (po [42] a b) ?_
  simp only[↓zq,zs,af,zt]
  refine⟨fun h=>by simp at h,fun _=>?_⟩
  repeat refine⟨by omega,?_⟩
  refine aj (i1 (by omega)) ?_
  simp only[↓zq,zs,af,zt]
  repeat refine⟨by omega,?_⟩
  refine aj (i2 (by omega)) ?_
  simp only[↓zq,zs,af,zt]
  rw[oZ,wrap64 _ (by omega) (by omega)]
  exact⟨by simp,rfl⟩
 |
  @rc n b hn hb i =>
  intro hl
  simp only[E.cN,E.eU]at hl
  refine Cu _ _ _ ((aV _).mpr trivial) ?_
  have hP:=P3.of (.atom dS) (.atom n) b
  simp only[Aa,cn,toNat_one,bf,↓zq,zs,af,zt,hP.1,hP.2.1,hP.2.2.1,hP.2.2.2,aP]
  refine⟨fun h=>absurd rfl h,fun _=>?_⟩
  refine aj (po dS (.atom n) b) ?_
  simp only[↓zq,zs,af,zt]
  refine⟨fun _=>?_,fun h=>absurd rfl h⟩
  repeat refine⟨by omega,?_⟩
  rw[wm]
  refine⟨fun h=>?_,fun h=>?_⟩
  ·have hh:n=x:=h
   rw[if_pos hh];exact⟨rfl,rfl⟩
  ·have hh:¬n=x:=h
   rw[if_neg hh]
   repeat refine⟨by omega,?_⟩
   refine aj (i (by omega)) ?_
   simp only[↓zq,zs,af,zt]
   exact⟨rfl,rfl⟩
theorem IU{x:Nm}(hx:qi x){e u:E}(h:Wf e)(hu:Wf u)(hl:e.cN<=1000)(hlu:u.cN<=1000):az Tryz.prog 162 [.agg [.v (.string (mk e.at)),e.sp],.v (.string (mk x)),.agg [.v (.string (mk u.at)),u.sp]] [] (bG (.v (.bool (decide ((sub x (cM u []) (cM e [])).aB<=400))))):=by
 refine K0 _ _ _ _ _ ((aV _).mpr trivial) ((aV _).mpr trivial) ?_
 unfold Is
 have a1:=BP e h.ok (by have:=h.sz;omega)
 have a2:=BP u hu.ok (by have:=hu.sz;omega)
 rw[dU]at a1 a2
 have hle:=qY x h
 have hpos:1<=u.cN:=by rw[hu.cN []];exact eg _
 refine aj a1 ?_
 simp only[↓zq,zs,af,zt]
 refine aj (KW x h (by omega)) ?_
 simp only[↓zq,zs,af,zt]
 refine aj a2 ?_
 simp only[↓zq,zs,af,zt]
 have e1:=er x (cM u []) (cM e [])
 have e2:=C6 hx h []
 rw[if_neg (by simp)]at e2
 rw[e2,<-h.cN [],<-hu.cN []]at e1
 have hm:mz x e*(u.cN-1)<=1000*1000:=Nat.mul_le_mul (by omega) (by omega)
 have e3:(mz x e:Int)*((u.cN:Int)-1)=((mz x e*(u.cN-1):Nat):Int):=by
  rw[Int.natCast_mul];congr 1;omega
 have e4:mz x e*(u.cN-1)+mz x e=mz x e*u.cN:=by
  rw[Nat.mul_sub,dw]
  have:=Nat.le_mul_of_pos_right (mz x e) hpos
  omega
 rw[wrap64 ((u.cN:Int)-1) (by omega) (by omega),e3,wrap64 ((mz x e*(u.cN-1):Nat):Int) (by omega) (by omega),wrap64 _ (by omega) (by omega)]
 refine⟨?_,rfl⟩
 congr 2
 rw[cX,decide_eq_true_eq,decide_eq_true_eq]
 omega
end Go.Proofs.Trees
namespace Go.Proofs.Trees
open Go Go.VL Go.RowKit
abbrev zc:AV:=.v (.slice none 0 0)
abbrev zE:Ob:=.cells [.v (.string (mk [])),zc]
theorem Ib(s:Nm)(p a b:AV)(hp:LK.sl.has p)(F fr to:List Nm)(k:Int)(ha:dN a fr)(hb:dN b to)(hft:fr.length=to.length)(hl:fr.length<1000000):∀(i:Nat),i<=fr.length ->
 EF [a,b,.v (.int .i64 ((i:Int)-1))] [.cells [.v (.string (mk s)),p],zE,.cells [.any,.v (.int .i64 k)],.vec 1 (cb F)]
  (rK (match bx s fr i with|some u=>(2,[],[.cells [.v (.string (mk (gb to u))),zc],.cells [.any,.v (.int .i64 k)],.vec 1 (cb F)])|none=>(1,[],[.cells [.v (.string (mk s)),p],zE,.cells [.any,.v (.int .i64 k)],.vec 1 (cb F)])))
 |
  0,hi=>by
  refine JW _ _ _ _ _ _ _ _ _ ?_
  simp only[F6,↓zq,zs,af,af,hp,bm]
  exact⟨ha.1,hb.1,fun h=>by omega,fun _=>rfl⟩
 |
  i+1,hi=>by
  have hlt:i<fr.length:=by omega
  have hlt':i<to.length:=by omega
  have e1:((i+1:Nat):Int)-1=(i:Int):=by omega
  rw[e1]
  refine JW _ _ _ _ _ _ _ _ _ ?_
  simp only[F6,↓zq,zs,af,zt,af,hp,bm,ha.len,hb.len,ha.idx hlt,hb.idx hlt',cc]
  refine⟨ha.1,hb.1,fun _=>⟨⟨ha.1,by omega,by omega⟩,by omega,fun h=>?_,fun h=>?_⟩,fun h=>by omega⟩
  ·refine⟨⟨hb.1,by omega,by omega⟩,by omega,?_⟩
   have hh:fr.getD i []=s:=h
   simp only[bx,hh,if_true,rK]
   have:gb to (fr.length-1-i)=to.getD i []:=by unfold gb;congr 1;omega
   rw[this]
  ·have hh:¬fr.getD i []=s:=h
   simp only[bx,hh,if_false]
   rw[wrap64 _ (by omega) (by omega)]
   exact Ib s p a b hp F fr to k ha hb hft hl i (by omega)
theorem JE(a b:AV)(ha:LK.sl.has a)(hb:LK.sl.has b)(F:List Nm)(hF:F.length<100000)(t:ByteArray)(p:AV)(hp:LK.sl.has p):∀(n j:Nat),pC F n j<j+n->j+n<100000000 ->
 D5 [a,b,.v (.string (mk (tN j)))] [.cells [.any,.v (.int .i64 (j:Int))],.vec 1 (cb F),.cells [.v (.string t),p],zE] (ki 1 [a,b,.v (.string (mk (tN (pC F n j))))] [.cells [.any,.v (.int .i64 (pC F n j:Int))],.vec 1 (cb F),.cells [.v (.string t),p],zE])
 |0,j,h,_=>by simp only[pC]at h;omega
 |
  n+1,j,h,hj=>by
  refine No _ _ _ _ _ _ _ _ _ ?_
  simp only[HH,↓zq,zs,af,zt,af,hp,bm]
  refine⟨ha,hb,?_⟩
  refine aj (FU F _ (.of F) (tN j) (by omega)) ?_
  simp only[↓zq,zs,af,zt]
  rw[pC]at h |-
  refine⟨fun hm=>?_,fun hm=>?_⟩
  ·rw[if_pos hm]at h |-
   rw[bS j (by omega)]
   refine aj (wt (j+2) (j+1) (by omega) (by omega)) ?_
   have hd:=mq (j+2) (j+1) (by omega)
   simp only[↓zq,zs,af,zt,bn,bh]
   refine⟨by simp[cO];omega,?_⟩
   exact JE a b ha hb F hF t p hp n (j+1) (by omega) (by omega)
  ·rw[if_neg hm]
   exact⟨rfl,rfl,rfl⟩
theorem gV(F:List Nm):∀(t:Ty) (to:List Nm) (k:Nat),k<=(gI F t to k).2/\(gI F t to k).2<=k+(F.length+1)*t.aB
 | .zero,_,k=>⟨ap _,cK _ _⟩
 | .one,_,k=>⟨ap _,cK _ _⟩
 | .name _,_,k=>⟨ap _,cK _ _⟩
 | .bA _,_,k=>⟨ap _,cK _ _⟩
 |
  .plus a b,to,k=>by
  have h1:=gV F a to k
  have h2:=gV F b to (gI F a to k).2
  simp only[gI,Ty.aB]
  have:(F.length+1)*(1+a.aB+b.aB)=(F.length+1)+(F.length+1)*a.aB+(F.length+1)*b.aB:=by simp only[cA,dw]
  omega
 |
  .times a b,to,k=>by
  have h1:=gV F a to k
  have h2:=gV F b to (gI F a to k).2
  simp only[gI,Ty.aB]
  have:(F.length+1)*(1+a.aB+b.aB)=(F.length+1)+(F.length+1)*a.aB+(F.length+1)*b.aB:=by simp only[cA,dw]
  omega
 |
  .rc a,to,k=>by
  obtain⟨g1,g2,_,_⟩:=gp F k
  have h1:=gV F a (to++[tN (nx F k)]) (nx F k+1)
  simp only[gI,Ty.aB]
  have:(F.length+1)*(2+a.aB)=(F.length+1)*2+(F.length+1)*a.aB:=by simp only[cA]
  omega
theorem pF(l:List Nm):(cb l).length=l.length:=by simp[cb]
theorem KT(F:List Nm)(hF:F.length<10000){e:E}(h:Wf e):∀(fr to:List Nm) (a b:AV) (k:Nat),dN a fr->dN b to->fr.length=to.length->(∀w,w∈fr->qi w)->fr.length+e.sz<10000->k+(F.length+1)*(cM e fr).aB<99000000 ->
 az Tryz.prog 131 [.agg [.v (.string (mk e.at)),e.sp],a,b,.ref 0 0] [.cells [.vec 1,.v (.int .i64 (k:Int))],.vec 1 (cb F)] (gC (.agg [.v (.string (mk (gI F (cM e fr) to k).1.at)),(gI F (cM e fr) to k).1.sp]) [.cells [.vec 1,.v (.int .i64 ((gI F (cM e fr) to k).2:Int))],.vec 1 (cb F)]):=by
 induction h with
 |
  @atom s hs =>
  intro fr to a b k ha hb hft hfr hl hk
  simp only[E.sz]at hl
  refine BF _ _ _ _ _ _ ((aV _).mpr trivial) ha.1 hb.1 ?_
  have hz:∀c,(c=[48]\/c=[49])->bx c fr fr.length=none:=fun c hc=>(fm c fr).2 fun hm=>by
   obtain⟨h1,h2,h3⟩:=hfr c hm
   rcases hc with rfl|rfl
   ·exact h2 rfl
   ·exact h3 rfl
  have hq:gI F (cM (.atom s) fr) to k=(match bx s fr fr.length with|some u=>.atom (gb to u)|none=>.atom s,k):=by
   simp only[cM]
   by_cases h0:s=[48]
   ·rw[if_pos h0,hz s (.inl h0),h0];rfl
   ·rw[if_neg h0]
    by_cases h1:s=[49]
    ·rw[if_pos h1,hz s (.inr h1),h1];rfl
    ·rw[if_neg h1]
     cases bx s fr fr.length<;>rfl
  simp only[zz,dX,↓zq,zs,af,zt]
  refine⟨fun _=>⟨ha.1,?_⟩,fun h=>absurd h hs⟩
  rw[ha.len,wrap64 _ (by omega) (by omega)]
  refine i6 (Ib s _ a b ((aV _).mpr trivial) F fr to (k:Int) ha hb hft (by omega) fr.length (ap _)) (fun ys o e=>?_) (fun ys o e=>?_)
  ·rw[hq]
   cases q:bx s fr fr.length<;>rw[q]at e<;>cases e
   simp only[↓zq,zs,af,zt,af,aN,bm,aV]
   exact⟨rfl,rfl⟩
  ·rw[hq]
   cases q:bx s fr fr.length<;>rw[q]at e<;>cases e
   simp only[↓zq,zs,af,zt,af,aN,bm]
   exact⟨rfl,rfl⟩
 |
  @plus x y hx hy i1 i2 =>
  intro fr to a b k ha hb hft hfr hl hk
  simp only[E.sz,E.iX]at hl
  rw[dO]at hk |-
  simp only[Ty.aB]at hk
  have hm:(F.length+1)*(1+(cM x fr).aB+(cM y fr).aB)=(F.length+1)+(F.length+1)*(cM x fr).aB+(F.length+1)*(cM y fr).aB:=by simp only[cA,dw]
  have hc:=gV F (cM x fr) to k
  refine BF _ _ _ _ _ _ ((aV _).mpr trivial) ha.1 hb.1 ?_
  have hP:=P3.of (.atom [43]) x y
  simp only[zz,cn,toNat_one,bf,↓zq,zs,af,zt,hP.1,hP.2.1,hP.2.2.1,hP.2.2.2,aP]
  refine⟨fun h=>absurd rfl h,fun _=>?_⟩
  refine aj (po [43] x y) ?_
  simp only[↓zq,zs,af,zt]
  refine⟨fun h=>by simp at h,fun _=>?_⟩
  repeat refine⟨by omega,?_⟩
  refine bj (i1 fr to a b k ha hb hft hfr (by omega) (by omega)) ?_
  simp only[↓zq,zs,af,zt,aN,aP,be,bu,Ob.es]
  repeat refine⟨by omega,?_⟩
  refine aj (po [43] x y) ?_
  simp only[↓zq,zs,af,zt]
  repeat refine⟨by omega,?_⟩
  refine bj (i2 fr to a b _ ha hb hft hfr (by omega) (by omega)) ?_
  simp only[↓zq,zs,af,zt,aN,aP,be,bu,Ob.es]
  repeat refine⟨by omega,?_⟩
  refine aj (yR _ _ _) ?_
  simp only[↓zq,zs,af,zt,aP,cn]
  repeat refine⟨by omega,?_⟩
  exact⟨rfl,rfl⟩
 |
  @times x y hx hy i1 i2 =>
  intro fr to a b k ha hb hft hfr hl hk
  simp only[E.sz,E.iX]at hl
  rw[da]at hk |-
  simp only[Ty.aB]at hk
  have hm:(F.length+1)*(1+(cM x fr).aB+(cM y fr).aB)=(F.length+1)+(F.length+1)*(cM x fr).aB+(F.length+1)*(cM y fr).aB:=by simp only[cA,dw]
  have hc:=gV F (cM x fr) to k
  refine BF _ _ _ _ _ _ ((aV _).mpr trivial) ha.1 hb.1 ?_
  have hP:=P3.of (.atom [42]) x y
  simp only[zz,cn,toNat_one,bf,↓zq,zs,af,zt,hP.1,hP.2.1,hP.2.2.1,hP.2.2.2,aP]
  refine⟨fun h=>absurd rfl h,fun _=>?_⟩
  refine aj (po [42] x y) ?_
  simp only[↓zq,zs,af,zt]
  refine⟨fun h=>by simp at h,fun _=>?_⟩
  repeat refine⟨by omega,?_⟩
  refine bj (i1 fr to a b k ha hb hft hfr (by omega) (by omega)) ?_
  simp only[↓zq,zs,af,zt,aN,aP,be,bu,Ob.es]
  repeat refine⟨by omega,?_⟩
  refine aj (po [42] x y) ?_
  simp only[↓zq,zs,af,zt]
  repeat refine⟨by omega,?_⟩
  refine bj (i2 fr to a b _ ha hb hft hfr (by omega) (by omega)) ?_
  simp only[↓zq,zs,af,zt,aN,aP,be,bu,Ob.es]
  repeat refine⟨by omega,?_⟩
  refine aj (yR _ _ _) ?_
  simp only[↓zq,zs,af,zt,aP,cn]
  repeat refine⟨by omega,?_⟩
  exact⟨rfl,rfl⟩
 |
  @rc n y hn hy i =>
  intro fr to a b k ha hb hft hfr hl hk
  simp only[E.sz,E.iX]at hl
  rw[fG]at hk |-
  simp only[Ty.aB,dX]at hk
  have hm:(F.length+1)*(2+(cM y (fr++[n])).aB)=(F.length+1)*2+(F.length+1)*(cM y (fr++[n])).aB:=by simp only[cA]
  have hc:=gV F (cM y (fr++[n])) (to++[tN (nx F k)]) (nx F k+1)
  obtain⟨g1,g2,_,_⟩:=gp F k
  refine BF _ _ _ _ _ _ ((aV _).mpr trivial) ha.1 hb.1 ?_
  have hP:=P3.of (.atom dS) (.atom n) y
  simp only[zz,cn,toNat_one,bf,↓zq,zs,af,zt,hP.1,hP.2.1,hP.2.2.1,hP.2.2.2,aP]
  refine⟨fun h=>absurd rfl h,fun _=>?_⟩
  refine aj (po dS (.atom n) y) ?_
  simp only[↓zq,zs,af,zt]
  refine⟨fun _=>?_,fun h=>absurd rfl h⟩
  refine aj (wt (k+1) k (by omega) (by omega)) ?_
  have hd:=mq (k+1) k (by omega)
  simp only[↓zq,zs,af,zt,bn,bh]
  refine⟨by simp[cO];omega,?_⟩
  refine df (JE a b ha.1 hb.1 F (by omega) (mk []) _ ((aV _).mpr trivial) (F.length+1) k (by show nx F k<_;omega) (by omega)) ?_
  simp only[↓zq,zs,af,zt,af,aN,bm,aV,ha.1,hb.1,hP.1,hP.2.1,hP.2.2.1,hP.2.2.2,toNat_one,bf,aP]
  repeat refine⟨by omega,?_⟩
  have hnx:pC F (F.length+1) k=nx F k:=rfl
  rw[hnx]
  refine aj (yZ fr a ha n (by omega)) ?_
  simp only[↓zq,zs,af,zt]
  refine aj (yZ to b hb (tN (nx F k)) (by omega)) ?_
  simp only[↓zq,zs,af,zt]
  rw[bS (nx F k) (by omega)]
  have hmk:=yR dS (.atom (tN (nx F k))) (gI F (cM y (fr++[n])) (to++[tN (nx F k)]) (nx F k+1)).1
  simp only[dX]at hmk
  refine bj (i (fr++[n]) (to++[tN (nx F k)]) _ _ (nx F k+1) (.of _) (.of _) (by simp[hft]) (fun w hw=>by
   rcases aK.1 hw with hw|hw
   ·exact hfr w hw
   ·simp only[aQ]at hw;rw[hw];exact hn) (by simp;omega) (by omega)) ?_
  simp only[↓zq,zs,af,zt,aN,aP,be,bu,Ob.es]
  repeat refine⟨by omega,?_⟩
  refine aj hmk ?_
  simp only[↓zq,zs,af,zt,aP,cn]
  repeat refine⟨by omega,?_⟩
  exact⟨rfl,rfl⟩
theorem vP(l r:List Nm):cb (l++r)=cb l++cb r:=by simp[cb]
def rA(os:List E):List Nm:=os.flatMap fun o=>jY o [] []
theorem uj{os:List E}{i:Nat}(h:i<os.length):(E.bb os).getD i []=[.v (.string (mk (os[i]).at)),(os[i]).sp]:=by
 have:∀(os:List E) (i:Nat) (h:i<os.length),(E.bb os).getD i []=(os[i]).gX:=by
  intro os
  induction os with
  |nil=>intro i h;simp at h
  |
   cons o os ih =>
   intro i h
   cases i with
   |zero=>simp[E.bb]
   |succ i=>simpa[E.bb]using ih i (by simpa using h)
 rw[this os i h,fE]
theorem yI(os:List E){i:Nat}(h:i<os.length):rA (os.drop i)=jY (os[i]) [] []++rA (os.drop (i+1)):=by
 unfold rA;rw[ba h,List.flatMap_cons]
theorem Ka(a:AV)(os:List E)(ha:LK.sl.has a/\a.aS=E.bb os)(ho:∀o,o∈os->Wf o/\o.sz<5000)(hl:os.length<100)(t:ByteArray)(p:AV)(hp:LK.sl.has p):∀(k i:Nat) (F:List Nm),i+k=os.length->F.length<=5000+5000*i ->
 D3 [a,.v (.int .i64 (i:Int))] [.cells [.v (.string t),p],zE,.vec 1 (cb F)] (ki 1 [] [.cells [.v (.string t),p],zE,.vec 1 (cb (F++rA (os.drop i)))])
 |
  0,i,F,hi,hF=>by
  refine Ig _ _ _ _ _ _ _ ?_
  have:i=os.length:=by omega
  subst this
  simp only[Gj,↓zq,zs,af,zt,af,hp,bm,ha.1,ha.2,dV,List.drop_length]
  exact⟨fun h=>by omega,fun _=>by simp[ki,rA]⟩
 |
  k+1,i,F,hi,hF=>by
  have hlt:i<os.length:=by omega
  obtain⟨hw,hsz⟩:=ho _ (bI hlt)
  have hfl:=fU (os[i]) [] []
  refine Ig _ _ _ _ _ _ _ ?_
  simp only[Gj,↓zq,zs,af,zt,af,hp,bm,ha.1,ha.2,dV,uj hlt,aP,cc]
  refine⟨fun _=>?_,fun h=>by omega⟩
  repeat refine⟨by omega,?_⟩
  have hfre:=B4 hw [] [] (.sl []) (.of []) (by simp;omega)
  refine bj hfre ?_
  simp only[↓zq,zs,af,zt,be,bu,Ob.es,pF,<-vP]
  rw[bS i (by omega),yI os hlt,<-bD]
  simp only[aE,aR]at hfl
  refine⟨⟨jZ _,by omega⟩,?_⟩
  exact Ka a os ha ho hl t p hp k (i+1) _ (by omega) (by simp;omega)
def zb(e:E)(os:List E):List Nm:=jY e [] []++rA os
def yF(e:E)(os:List E):E:=(gI (zb e os) (cM e []) [] 0).1
theorem Dc{e:E}{os:List E}(h:e.sz<=2000)(ho:∀o,o∈os->Wf o/\o.sz<=2000)(hl:os.length<=2):(zb e os).length<=6000:=by
 have h1:=fU e [] []
 have h2:∀(l:List E),(∀o,o∈l->o.sz<=2000)->(rA l).length<=2000*l.length:=by
  intro l
  induction l with
  |nil=>intro _;simp[rA]
  |
   cons o l ih =>
   intro hl
   have:=ih fun q hq=>hl q (ak _ hq)
   have:=hl o ah
   have:=fU o [] []
   simp only[rA,List.flatMap_cons,an,aq,aE]at *
   omega
 have:=h2 os fun o ho'=>(ho o ho').2
 simp only[zb,an,aE]at *
 omega
theorem BD{e:E}(h:Wf e)(a:AV)(os:List E)(ha:LK.sl.has a/\a.aS=E.bb os)(he:e.sz<=2000)(ho:∀o,o∈os->Wf o/\o.sz<=2000)(hl:os.length<=2) :
 az Tryz.prog 78 [.agg [.v (.string (mk e.at)),e.sp],a] [] (bG (.agg [.v (.string (mk (yF e os).at)),(yF e os).sp])):=by
 refine LG _ _ _ ((aV _).mpr trivial) ha.1 ?_
 unfold IA
 have hfl:=fU e [] []
 simp only[aE,aR]at hfl
 have hap:=Dc he ho hl
 have hats:(cM e []).aB<=2000:=by
  rw[<-h.cN []]
  have:e.cN<=e.sz:=by
   clear hap hfl ha he ho hl
   induction h with
   |atom _=>simp[E.cN,E.sz]
   |plus _ _ i1 i2=>simp only[E.cN,E.eU,E.sz,E.iX];omega
   |times _ _ i1 i2=>simp only[E.cN,E.eU,E.sz,E.iX];omega
   |rc _ _ i=>simp only[E.cN,E.eU,E.sz,E.iX];omega
  omega
 have hfre:=B4 h [] [] (.sl []) (.of []) (by simp;omega)
 simp only[↓zq,zs,af,zt]
 refine bj hfre ?_
 simp only[↓zq,zs,af,zt,be,bu,Ob.es]
 have hlp:=Ka a os ha (fun o hq=>⟨(ho o hq).1,by have:=(ho o hq).2;omega⟩) (by omega) (mk e.at) e.sp ((aV _).mpr trivial) os.length 0 (jY e [] []) (by omega) (by omega)
 rw[bO]at hlp
 refine df hlp ?_
 simp only[↓zq,zs,af,zt,af,aN,bm,aV,be,bu,Ob.es]
 have hmul:((zb e os).length+1)*(cM e []).aB<=6001*2000:=Nat.mul_le_mul (by omega) hats
 have hren:=KT (zb e os) (by omega) h [] [] (.sl []) (.sl []) 0 (.of []) (.of []) rfl (fun w hw=>by cases hw) (by simp;omega) (by omega)
 refine bj hren ?_
 simp only[↓zq,zs,af,zt,aN,aP]
 repeat refine⟨by omega,?_⟩
 exact⟨rfl,rfl⟩
end Go.Proofs.Trees
namespace Go.Proofs.Trees
open Go Go.VL Go.RowKit
def fu(t:Ty):Prop:=jf t 0/\∀y,a8 y t=true->qi y
theorem gq:∀(t:Ty) {i j:Nat},jf t i->i<=j->jf t j
 | .bA u,i,j,h,hj=>cU h hj
 | .plus a b,i,j,h,hj=>⟨gq a h.1 hj,gq b h.2 hj⟩
 | .times a b,i,j,h,hj=>⟨gq a h.1 hj,gq b h.2 hj⟩
 | .rc a,i,j,h,hj=>gq (i:=i+1) (j:=j+1) a h (by omega)
 | .zero,_,_,_,_=>trivial
 | .one,_,_,_,_=>trivial
 | .name _,_,_,_,_=>trivial
theorem gz(x:Nm):∀(t:Ty) {i:Nat},jf t (i+1)->jf (dA (.name x) t i) i
 |
  .bA u,i,h=>by
  simp only[dA]
  split
  ·trivial
  ·have:u<i+1:=h
   show u<i;omega
 | .plus a b,i,h=>⟨gz x a h.1,gz x b h.2⟩
 | .times a b,i,h=>⟨gz x a h.1,gz x b h.2⟩
 | .rc a,i,h=>gz x (i:=i+1) a h
 | .zero,_,_=>trivial
 | .one,_,_=>trivial
 | .name _,_,_=>trivial
theorem kf{x:Nm}{u:Ty}(hu:jf u 0):∀(t:Ty) {i:Nat},jf t i->jf (sub x u t) i
 | .name s,i,_=>by simp only[sub];split;exact gq u hu (dJ _);trivial
 | .plus a b,i,h=>⟨kf hu a h.1,kf hu b h.2⟩
 | .times a b,i,h=>⟨kf hu a h.1,kf hu b h.2⟩
 | .rc a,i,h=>kf hu (i:=i+1) a h
 | .zero,_,_=>trivial
 | .one,_,_=>trivial
 | .bA _,_,h=>h
theorem Dv.lc{t d:Ty}{s:Nm}(h:Dv t s d):jf t 0->jf d 0:=by
 induction h with
 |zero s=>exact fun _=>trivial
 |one s=>exact fun _=>trivial
 |bA k s=>exact fun _=>trivial
 |hit s=>exact fun _=>trivial
 |p7 h=>exact fun _=>trivial
 |plus h1 h2 hl i1 i2=>exact fun h=>⟨i1 h.1,i2 h.2⟩
 |times h1 h2 hl i1 i2=>exact fun h=>⟨⟨i1 h.1,h.2⟩,h.1,i2 h.2⟩
 |
  rc x hx hs h1 h2 hl i1 i2 =>
  intro h
  have g1:=kf (x:=x) h _ (i1 (gz x _ h))
  have g2:=kf (x:=x) h _ (i2 (gz x _ h))
  exact⟨gq _ g1 (by omega),gq _ g2 (by omega),Nat.zero_lt_one⟩
theorem Wf.oL{e:E}(h:Wf e):fu (cM e []):=⟨tM h [],fun y hy=>(pq h [] y hy).1⟩
theorem fu.dv{t d:Ty}{s:Nm}(g:fu t)(h:Dv t s d):fu d:=⟨h.lc g.1,fun y hy=>g.2 y (h.names y hy)⟩
theorem fu.tree{t:Ty}(g:fu t):∃e,Wf e/\cM e []=t:=by
 obtain⟨h1,h2,_⟩:=kb (bw t []) t [] 0 (.nil _ _) g.1 fun y hy=>⟨(eG t [] y).2 (.inr hy),g.2 y hy⟩
 exact⟨_,h1,h2⟩
theorem fu.sub{x:Nm}{u t:Ty}(hu:fu u)(ht:fu t):fu (sub x u t):=⟨kf hu.1 t ht.1,fun y hy=>by
 rcases iT t hy with h|h
 ·exact hu.2 y h
 ·exact ht.2 y h.2⟩
def lP(o:Option Ty):AV->List Ob->Prop:=fun r ob=>ob=[]/\∃(c:Nm) (d:AV),LK.sl.has d/\r=.cx [.agg [.v (.string (mk c)),d],.v (.bool o.isSome)]/\∀t,o=some t->∃e,Wf e/\cM e []=t/\c=e.at/\d=e.sp
theorem lP.ne{o:Option Ty}(h:∀t,o=some t->fu t):∃r ob,lP o r ob:=by
 cases o with
 |none=>exact⟨_,_,rfl,[],zc,(bm).mpr trivial,rfl,fun t h=>by cases h⟩
 |
  some t =>
  obtain⟨e,h1,h2⟩:=(h t rfl).tree
  exact⟨_,_,rfl,e.at,e.sp,(aV _).mpr trivial,rfl,fun t' h'=>by cases h';exact⟨e,h1,h2,rfl,rfl⟩⟩
theorem lP.of{e:E}(h:Wf e):lP (some (cM e [])) (.cx [.agg [.v (.string (mk e.at)),e.sp],.v (.bool true)]) [] :=
 ⟨rfl,e.at,e.sp,(aV _).mpr trivial,rfl,fun t h'=>by cases h';exact⟨e,h,rfl,rfl,rfl⟩⟩
theorem lP.no(c:Nm)(d:AV)(hd:LK.sl.has d):lP none (.cx [.agg [.v (.string (mk c)),d],.v (.bool false)]) [] :=
 ⟨rfl,c,d,hd,rfl,fun t h'=>by cases h'⟩
theorem iV{c:ByteArray}{d:AV}(h:LK.sl.has d):bT [.str,.sl] [.v (.string c),d] 0=True:=by simp[bT,dC,h]
theorem wl{e:E}{os:List E}(h:Wf e):Wf (yF e os)/\cM (yF e os) []=cM e []/\sR (·∉zb e os) (yF e os):=by
 obtain⟨h1,h2,_,_,h5⟩:=kb (zb e os) (cM e []) [] 0 (.nil _ _) (tM h []) fun y hy=>⟨aA _ ((kM h [] [] y).2 (.inr hy)),(pq h [] y hy).1⟩
 exact⟨h1,h2,h5⟩
theorem qT{os:List E}{o:E}(ho:o∈os)(hw:Wf o){y:Nm}(hy:a8 y (cM o [])=true):y∈rA os :=
 List.mem_flatMap.2 ⟨o,ho,(kM hw [] [] y).2 (.inr hy)⟩
theorem qD{s:Nm}(hs:qi s):cM (.atom s) []=.name s:=iW hs (by simp)
theorem Jg{x:Nm}(hx:qi x){e u:E}(h:Wf e)(hu:Wf u)(hl:e.cN<=400)(hlu:u.cN<=400):∃g,Wf g/\cM g []=sub x (cM u []) (cM e [])/\az Tryz.prog 163 [.agg [.v (.string (mk e.at)),e.sp],.v (.string (mk x)),.agg [.v (.string (mk u.at)),u.sp]] [] (bG (.agg [.v (.string (mk g.at)),g.sp])):=by
 obtain⟨w1,w2,w3⟩:=wl (os:=[u,.atom x]) h
 have hap:sR (fun n=>n≠x/\a8 n (cM u [])=false) (yF e [u,.atom x]):=AL (fun n hn=>⟨fun e1=>hn (by
  subst e1
  exact aw _ (qT (o:=.atom n) (by simp) (.atom hx.1) (by rw[qD hx];simp[a8]))),by
  cases q:a8 n (cM u [])with
  |false=>rfl
  |true=>exact absurd (aw _ (qT (o:=u) (by simp) hu q)) hn⟩) w1 w3
 obtain⟨p1,p2⟩:=C3 hx hu w1 hap [] (by simp) (fun y hy=>by cases hy)
 refine⟨_,p1,by rw[p2,w2],?_⟩
 refine Na _ _ _ _ _ ((aV _).mpr trivial) ((aV _).mpr trivial) ?_
 unfold IL
 have s1:=h.sz
 have s2:=hu.sz
 have hA:=BD h (.sl [[.v (.string (mk u.at)),u.sp],[.v (.string (mk x)),zc]]) [u,.atom x] ⟨(bZ _).mpr trivial,by simp only[fw,E.bb,fE];rfl⟩ (by omega) (fun o ho=>by
  simp only[aI,List.not_mem_nil,or_false]at ho
  rcases ho with rfl|rfl
  ·exact⟨hu,by omega⟩
  ·exact⟨.atom hx.1,by simp[E.sz]⟩) (by simp)
 refine aj hA ?_
 simp only[↓zq,zs,af,zt,aP]
 repeat refine⟨by omega,?_⟩
 refine aj (LR x u w1) ?_
 simp only[↓zq,zs,af,zt,aP]
 repeat refine⟨by omega,?_⟩
 exact⟨rfl,rfl⟩
theorem J9{x:Nm}(hx:qi x){e u:E}(h:Wf e)(hu:Wf u)(hl:e.cN<=400)(hlu:u.cN<=400):az Tryz.prog 161 [.agg [.v (.string (mk e.at)),e.sp],.v (.string (mk x)),.agg [.v (.string (mk u.at)),u.sp]] [] (lP (mU (sub x (cM u []) (cM e [])))):=by
 refine K9 _ _ _ _ _ ((aV _).mpr trivial) ((aV _).mpr trivial) ?_
 unfold GY
 refine aj (IU hx h hu (by omega) (by omega)) ?_
 simp only[↓zq,zs,af,zt]
 refine⟨fun hn=>?_,fun hy=>?_⟩
 ·rw[show mU (sub x (cM u []) (cM e []))=none by unfold mU;rw[if_neg hn]]
  exact lP.no _ _ ((aV _).mpr trivial)
 ·rw[show mU (sub x (cM u []) (cM e []))=some (sub x (cM u []) (cM e [])) by unfold mU;rw[if_pos hy]]
  obtain⟨g,g1,g2,g3⟩:=Jg hx h hu hl hlu
  refine aj g3 ?_
  simp only[↓zq,zs,af,zt,aP]
  repeat refine⟨by omega,?_⟩
  rw[<-g2]
  exact lP.of g1
end Go.Proofs.Trees
namespace Go.Proofs.Trees
open Go Go.VL Go.RowKit
theorem zF(w:Nm)(c1 c2:Nm)(d1 d2:AV):az Tryz.prog 69 [.v (.string (mk w)),.sl [[.v (.string (mk c1)),d1],[.v (.string (mk c2)),d2]]] [] (bG (.agg [.v (.string (mk [])),.sl [[.v (.string (mk w)),zc],[.v (.string (mk c1)),d1],[.v (.string (mk c2)),d2]]])):=by
 refine H9 _ _ ((bZ _).mpr trivial) ?_
 simp only[Gk,↓zq,zs,af,bG]
 exact⟨⟨fun c hc=>by
  simp only[aI,List.not_mem_nil,or_false]at hc
  rcases hc with rfl|rfl<;>rfl,by omega⟩,rfl⟩
theorem Hj(F:List Nm)(hF:F.length<100000)(c1 c2:Nm)(d1 d2:AV)(h1:LK.sl.has d1)(h2:LK.sl.has d2):∀(n j:Nat),pC F n j<j+n->j+n<100000000 ->
 E4 [.v (.int .i64 (j:Int))] [zE,.cells [.v (.string (mk c1)),d1],.cells [.v (.string (mk c2)),d2],.vec 1 (cb F)] (ki 1 [.v (.int .i64 (pC F n j:Int))] [zE,.cells [.v (.string (mk c1)),d1],.cells [.v (.string (mk c2)),d2]])
 |0,j,h,_=>by simp only[pC]at h;omega
 |
  n+1,j,h,hj=>by
  refine KV _ _ _ _ _ _ _ _ ?_
  simp only[HO,↓zq,zs,af,zt,af,bm,h1,h2]
  refine aj (wt (j+1) j (by omega) (by omega)) ?_
  have hd:=mq (j+1) j (by omega)
  simp only[↓zq,zs,af,zt,bn,bh]
  refine⟨by simp[cO];omega,?_⟩
  refine aj (FU F _ (.of F) (tN j) (by omega)) ?_
  simp only[↓zq,zs,af,zt]
  rw[pC]at h |-
  refine⟨fun hm=>?_,fun hm=>?_⟩
  ·rw[if_pos hm]at h |-
   rw[bS j (by omega)]
   exact Hj F hF c1 c2 d1 d2 h1 h2 n (j+1) (by omega) (by omega)
  ·rw[if_neg hm]
   exact⟨rfl,rfl,rfl⟩
theorem sY{x:Nm}{a c d:Ty}(h:(oO a x c d).aB<=400):(sub x (.rc a) c).aB<=400/\(sub x (.rc a) d).aB<=400:=by
 simp only[oO,Ty.aB]at h;omega
theorem Wf.jh{e:E}(h:Wf e){t:Ty}(ht:cM e []=t)(hl:t.aB<=400):e.cN<=400:=by rw[h.cN [],ht];exact hl
def NQ(n:Nat):Prop:=∀(e:E) (s:Nm),Wf e->e.cN<=n->e.cN<=400->qi s->az Tryz.prog 101 [.agg [.v (.string (mk e.at)),e.sp],.v (.string (mk s))] [] (lP (jU (cM e []) s))
theorem jV{e:E}{s:Nm}(h:Wf e):∀t,jU (cM e []) s=some t->fu t:=fun t ht=>h.oL.dv (cw.1 ht)
theorem uG{t:Ty}(h:fu t):∀d,mU t=some d->fu d:=fun d hd=>by obtain⟨_,rfl⟩:=fR.1 hd;exact h
theorem Mb(n:Nat)(ih:NQ n)(m:Nm)(B:E)(hm:qi m)(hB:Wf B)(hl:(E.list [.atom dS,.atom m,B]).cN<=n+1)(hl4:(E.list [.atom dS,.atom m,B]).cN<=400)(s:Nm)(hs:qi s) :
 az Tryz.prog 145 [.agg [.v (.string (mk [])),(E.list [.atom dS,.atom m,B]).sp],.v (.string (mk s))] [] (lP (jU (cM (.list [.atom dS,.atom m,B]) []) s)):=by
 have hw:Wf (.list [.atom dS,.atom m,B]):=.rc hm hB
 have hsz:=hw.sz
 have hA:=BD hw (.sl [[.v (.string (mk s)),zc]]) [.atom s] ⟨(bZ _).mpr trivial,by simp only[fw,E.bb,fE];rfl⟩ (by omega) (fun o ho=>by
  simp only[aI,List.not_mem_nil,or_false]at ho
  subst ho
  exact⟨.atom hs.1,by simp[E.sz]⟩) (by simp)
 have hatsB:B.cN+2=(E.list [.atom dS,.atom m,B]).cN:=by simp only[E.cN,E.eU];omega
 have hT:cM (.list [.atom dS,.atom m,B]) []=.rc (cM B [m]):=fG _ _ _
 obtain⟨w1,w2,_,_,w5⟩:=kb (zb (.list [.atom dS,.atom m,B]) [.atom s]) (cM (.list [.atom dS,.atom m,B]) []) [] 0 (.nil _ _) (tM hw []) fun y hy=>⟨aA _ ((kM hw [] [] y).2 (.inr hy)),(pq hw [] y hy).1⟩
 have hsF:s∈zb (.list [.atom dS,.atom m,B]) [.atom s]:=aw _ (qT (o:=.atom s) (by simp) (.atom hs.1) (by rw[qD hs];simp[a8]))
 have haF:∀y,a8 y (cM B [m])=true->y∈zb (.list [.atom dS,.atom m,B]) [.atom s]:=fun y hy=>aA _ ((kM hw [] [] y).2 (.inr (by rw[hT];exact hy)))
 unfold yF at hA
 rw[hT]at hA w1 w2 w5
 rw[hT]
 generalize zb (.list [.atom dS,.atom m,B]) [.atom s]=F at *
 obtain⟨_,_,_,hxF⟩:=gp F 0
 simp only[gI,bh]at hA w1 w2 w5
 generalize hxd:tN (nx F 0)=x at *
 have hx:qi x:=by rw[<-hxd];exact xb _
 generalize (gI F (cM B [m]) [x] (nx F 0+1)).1=b at *
 have hb:Wf b:=by cases w1;assumption
 rw[fG]at w2
 have hbt:cM b [x]=cM B [m]:=by injection w2
 have hxa:a8 x (cM B [m])=false:=by
  cases q:a8 x (cM B [m])with
  |false=>rfl
  |true=>exact absurd (haF x q) hxF
 have hxs:x≠s:=fun e=>hxF (by rw[e];exact hsF)
 generalize cM B [m]=a at *
 have hbo:cM b []=dA (.name x) a 0:=by
  have:=C9 x hb []
  rw[cY,hbt]at this;exact this
 have hba:b.cN+2=(E.list [.atom dS,.atom m,B]).cN:=by
  rw[hw.cN [],hT,hb.cN [],hbo,fV];simp only[Ty.aB];omega
 have i1:=ih b s hb (by omega) (by omega) hs
 have i2:=ih b x hb (by omega) (by omega) hx
 have n1:=jV (s:=s) hb
 have n2:=jV (s:=x) hb
 rw[hbo]at i1 i2 n1 n2
 have hP:=P3.of (.atom dS) (.atom x) b
 rw[Av hxa hxs]
 have hE1:Wf (.list [.atom dS,.atom x,b]):=w1
 have hE1t:cM (.list [.atom dS,.atom x,b]) []=.rc a:=by rw[fG];exact w2
 have hE1l:(E.list [.atom dS,.atom x,b]).cN<=400:=by
  have:(E.list [.atom dS,.atom x,b]).cN=b.cN+2:=by simp only[E.cN,E.eU];omega
  omega
 refine M9 _ _ _ ((aV _).mpr trivial) ?_
 unfold Ki
 refine aj hA ?_
 simp only[↓zq,zs,af,zt,aP,cn,toNat_one,bf,hP.1,hP.2.1,hP.2.2.1,hP.2.2.2,dX]
 repeat refine⟨by omega,?_⟩
 refine aM i1 (lP.ne n1) ?_
 rintro r o ⟨rfl,c1,d1,hd1,rfl,hc1⟩
 simp only[↓zq,zs,af,zt,iV hd1]
 repeat refine⟨by omega,?_⟩
 refine aM i2 (lP.ne n2) ?_
 rintro r o ⟨rfl,c2,d2,hd2,rfl,hc2⟩
 simp only[↓zq,zs,af,zt,iV hd2]
 cases q1:jU (dA (.name x) a 0) s with
 |
  none =>
  simp only[ck,bR]
  exact⟨fun _=>lP.no _ _ ((aV _).mpr trivial),fun h=>(by cases h)⟩
 |some c =>
 cases q2:jU (dA (.name x) a 0) x with
 |
  none =>
  simp only[ck,cm,bR,aY]
  exact⟨fun h=>(by cases h),fun _=>⟨fun _=>lP.no _ _ ((aV _).mpr trivial),fun h=>(by cases h)⟩⟩
 |some d =>
 simp only[cm,aY]
 refine⟨fun h=>(by cases h),fun _=>⟨fun h=>(by cases h),fun _=>?_⟩⟩
 obtain⟨ec,wc,tc,rfl,rfl⟩:=hc1 c q1
 obtain⟨ed,wd,td,rfl,rfl⟩:=hc2 d q2
 have lc:=(cw.1 q1).small
 have ld:=(cw.1 q2).small
 have p1:=J9 hx wc hE1 (wc.jh tc lc) hE1l
 have p2:=J9 hx wd hE1 (wd.jh td ld) hE1l
 have g1:=uG (hE1.oL.sub (x:=x) wc.oL)
 have g2:=uG (hE1.oL.sub (x:=x) wd.oL)
 rw[hE1t,tc]at p1 g1
 rw[hE1t,td]at p2 g2
 simp only[cn]at p1 p2
 repeat refine⟨by omega,?_⟩
 refine aM p1 (lP.ne g1) ?_
 rintro r o ⟨rfl,c3,d3,hd3,rfl,hc3⟩
 simp only[↓zq,zs,af,zt,iV hd3]
 repeat refine⟨by omega,?_⟩
 refine aM p2 (lP.ne g2) ?_
 rintro r o ⟨rfl,c4,d4,hd4,rfl,hc4⟩
 simp only[↓zq,zs,af,zt,iV hd4]
 have big:∀t:Ty,mU t=none->¬t.aB<=400:=fun t ht hle=>by unfold mU at ht;rw[if_pos hle]at ht;cases ht
 have out0:(mU (sub x (.rc a) c)=none\/mU (sub x (.rc a) d)=none)->mU (oO a x c d)=none:=fun h=>by
  unfold mU
  rw[if_neg fun hle=>?_]
  have:=sY hle
  rcases h with h|h
  ·exact big _ h this.1
  ·exact big _ h this.2
 cases q3:mU (sub x (.rc a) c)with
 |
  none =>
  rw[out0 (.inl q3)]
  simp only[ck]
  exact⟨fun _=>lP.no _ _ ((aV _).mpr trivial),fun h=>(by cases h)⟩
 |some c' =>
 cases q4:mU (sub x (.rc a) d)with
 |
  none =>
  rw[out0 (.inr q4)]
  simp only[ck,cm]
  exact⟨fun h=>(by cases h),fun _=>⟨fun _=>lP.no _ _ ((aV _).mpr trivial),fun h=>(by cases h)⟩⟩
 |some d' =>
 simp only[cm]
 refine⟨fun h=>(by cases h),fun _=>⟨fun h=>(by cases h),fun _=>?_⟩⟩
 obtain⟨ec',wc',tc',rfl,rfl⟩:=hc3 c' q3
 obtain⟨ed',wd',td',rfl,rfl⟩:=hc4 d' q4
 obtain⟨lc',e3⟩:=fR.1 q3
 obtain⟨ld',e4⟩:=fR.1 q4
 rw[e3]at lc';rw[e4]at ld'
 have z1:=wc'.sz
 have z2:=wd'.sz
 have k1:=wc'.jh tc' lc'
 have k2:=wd'.jh td' ld'
 have f1:=B4 wd' [] [] (.sl []) (.of []) (by simp;omega)
 have fl1:=fU ed' [] []
 have fl2:=fU ec' [] (jY ed' [] [])
 simp only[aE,aR]at fl1
 have f2:=B4 wc' [] (jY ed' [] []) (.sl []) (.of []) (by simp;omega)
 refine bj f1 ?_
 simp only[↓zq,zs,af,zt,be,bu,Ob.es]
 refine bj f2 ?_
 simp only[↓zq,zs,af,zt,be,bu,Ob.es]
 have hF3:∀y,(a8 y c'=true\/a8 y d'=true)->y∈jY ec' [] (jY ed' [] []):=fun y hy=>by
  rw[kM wc',kM wd']
  rcases hy with hy|hy
  ·exact .inr (by rw[tc'];exact hy)
  ·exact .inl (.inr (by rw[td'];exact hy))
 generalize jY ec' [] (jY ed' [] [])=F3 at *
 obtain⟨_,y2,_,hyF⟩:=gp F3 0
 refine df (Hj F3 (by omega) _ _ _ _ ((aV _).mpr trivial) ((aV _).mpr trivial) (F3.length+1) 0 (by show nx F3 0<_;omega) (by omega)) ?_
 have hnx:pC F3 (F3.length+1) 0=nx F3 0:=rfl
 rw[hnx]
 simp only[↓zq,zs,af,zt,af,aN,bm,aV]
 refine aj (wt (nx F3 0+1) (nx F3 0) (by omega) (by omega)) ?_
 have hdl:=mq (nx F3 0+1) (nx F3 0) (by omega)
 simp only[↓zq,zs,af,zt,bn,bh]
 refine⟨by omega,?_⟩
 obtain⟨y,hyd⟩:∃y:Nm,(116::dd (nx F3 0):Nm)=y:=⟨_,rfl⟩
 rw[hyd]
 rw[show tN (nx F3 0)=y from hyd]at hyF
 have hy:qi y:=by rw[<-hyd];exact xb _
 have hcy:cM ec' [y]=c':=by
  have:=tA [y] wc' [] (fun z hz hm=>hyF (by
   simp only[aQ]at hm
   rw[<-hm];exact hF3 z (.inl (by rw[<-tc'];exact hz))))
  rw[cY,tc']at this;exact this
 have hdy:cM ed' [y]=d':=by
  have:=tA [y] wd' [] (fun z hz hm=>hyF (by
   simp only[aQ]at hm
   rw[<-hm];exact hF3 z (.inr (by rw[<-td'];exact hz))))
  rw[cY,td']at this;exact this
 have hyb:cM (.atom y) [y]=.bA 0:=by
  simp only[cM];rw[if_neg hy.2.1,if_neg hy.2.2,show bx y [y] [y].length=some 0 from fO y []]
 let o1:E:=.list [.atom [42],ed',.atom y]
 let o2:E:=.list [.atom [43],ec',o1]
 let o3:E:=.list [.atom dS,.atom y,o2]
 have hw3:Wf o3:=.rc hy (.plus wc' (.times wd' (.atom hy.1)))
 have ht3:cM o3 []=oO a x c d:=by
  show cM (.list [.atom dS,.atom y,o2]) []=_
  rw[fG]
  show Ty.rc (cM (.list [.atom [43],ec',o1]) [y])=_
  rw[dO]
  show Ty.rc (.plus (cM ec' [y]) (cM (.list [.atom [42],ed',.atom y]) [y]))=_
  rw[da,hcy,hdy,hyb,oO,e3,e4]
 have m1:=yR [42] ed' (.atom y)
 have m2:=yR [43] ec' o1
 have m3:=yR dS (.atom y) o2
 simp only[o1,cn,dX]at m1 m2 m3
 refine aj m1 ?_
 simp only[↓zq,zs,af,zt,aP]
 repeat refine⟨by omega,?_⟩
 refine aj m2 ?_
 simp only[↓zq,zs,af,zt,aP]
 repeat refine⟨by omega,?_⟩
 refine aj m3 ?_
 simp only[↓zq,zs,af,zt,aP]
 repeat refine⟨by omega,?_⟩
 have z3:=hw3.sz
 have hats3:o3.cN=ec'.cN+ed'.cN+5:=by simp only[o3,o2,o1,E.cN,E.eU];omega
 have ma:=BP o3 hw3.ok (by omega)
 rw[dU]at ma
 simp only[o3,o2,o1,cn]at ma
 refine aj ma ?_
 simp only[↓zq,zs,af,zt]
 have hd3:(oO a x c d).aB=o3.cN:=by rw[<-ht3,<-hw3.cN []]
 unfold mU
 by_cases hle:(oO a x c d).aB<=400
 ·rw[if_pos hle]
  have:=lP.of hw3
  rw[ht3]at this
  rw[show decide ((((E.list [.atom dS,.atom y,.list [.atom [43],ec',.list [.atom [42],ed',.atom y]]]).cN:Nat):Int)<=400)=true from decide_eq_true (by show ((o3.cN:Nat):Int)<=400;omega)]
  exact this
 ·rw[if_neg hle]
  rw[show decide ((((E.list [.atom dS,.atom y,.list [.atom [43],ec',.list [.atom [42],ed',.atom y]]]).cN:Nat):Int)<=400)=false from decide_eq_false (by show ¬((o3.cN:Nat):Int)<=400;omega)]
  exact lP.no _ _ ((aV o3).mpr trivial)
theorem yr:∀n,NQ n
 |0=>fun e s h hl=>by have:=eg (cM e []);rw[<-h.cN []]at this;omega
 |
  n+1=>by
  intro e s h hl h4 hs
  cases h with
  |
   @atom c hc =>
   refine C5 _ _ _ ((aV _).mpr trivial) ?_
   simp only[AD,dX,↓zq,zs,af,zt]
   refine⟨fun _=>⟨fun he=>?_,fun hne=>?_⟩,fun h=>absurd h hc⟩
   ·have he:c=s:=he
    subst he
    rw[qD hs,nG,if_pos rfl]
    exact lP.of (e:=.atom [49]) (.atom (by simp))
   ·have hne:¬c=s:=hne
    have:jU (cM (.atom c) []) s=some .zero:=by
     simp only[cM]
     split
     ·exact uK _
     ·split
      ·exact xu _
      ·rw[show bx c [] ([]:List Nm).length=none from rfl,nG,if_neg hne]
    rw[this]
    exact lP.of (e:=.atom [48]) (.atom (by simp))
  |
   @plus x y hx hy =>
   have hxy:(E.list [.atom [43],x,y]).cN=x.cN+y.cN+1:=by simp only[E.cN,E.eU];omega
   have p1:1<=x.cN:=by rw[hx.cN []];exact eg _
   have p2:1<=y.cN:=by rw[hy.cN []];exact eg _
   refine C5 _ _ _ ((aV _).mpr trivial) ?_
   have hP:=P3.of (.atom [43]) x y
   simp only[AD,cn,toNat_one,bf,↓zq,zs,af,zt,hP.1,hP.2.1,hP.2.2.1,hP.2.2.2,aP]
   refine⟨fun h=>absurd rfl h,fun _=>?_⟩
   refine aj (po [43] x y) ?_
   simp only[↓zq,zs,af,zt]
   refine⟨fun h=>by simp at h,fun _=>?_⟩
   repeat refine⟨by omega,?_⟩
   rw[dO,uk]
   refine aM (yr n x s hx (by omega) (by omega) hs) (lP.ne (jV hx)) ?_
   rintro r o ⟨rfl,c1,d1,hd1,rfl,hc1⟩
   simp only[↓zq,zs,af,zt,iV hd1]
   repeat refine⟨by omega,?_⟩
   refine aM (yr n y s hy (by omega) (by omega) hs) (lP.ne (jV hy)) ?_
   rintro r o ⟨rfl,c2,d2,hd2,rfl,hc2⟩
   simp only[↓zq,zs,af,zt,iV hd2]
   refine aj (zF [43] c1 c2 d1 d2) ?_
   simp only[↓zq,zs,af,zt,bT,dC,bZ]
   repeat refine⟨by omega,?_⟩
   refine aj (po [43] x y) ?_
   simp only[↓zq,zs,af,zt]
   refine⟨fun h=>by simp at h,fun _=>?_⟩
   cases q1:jU (cM x []) s with
   |
    none =>
    simp only[ck,bR]
    exact⟨fun h=>(by cases h),fun _=>lP.no _ _ ((bZ _).mpr trivial)⟩
   |some tx =>
   cases q2:jU (cM y []) s with
   |
    none =>
    simp only[ck,cm,bR,aY]
    exact⟨fun _=>⟨fun h=>(by cases h),fun _=>lP.no _ _ ((bZ _).mpr trivial)⟩,fun h=>(by cases h)⟩
   |some t2 =>
   simp only[cm,aY]
   refine⟨fun _=>⟨fun _=>?_,fun h=>(by cases h)⟩,fun h=>(by cases h)⟩
   obtain⟨e1,w1,te1,rfl,rfl⟩:=hc1 tx q1
   obtain⟨e2,w2,te2,rfl,rfl⟩:=hc2 t2 q2
   have l1:=w1.jh te1 (cw.1 q1).small
   have l2:=w2.jh te2 (cw.1 q2).small
   have z1:=w1.sz
   have z2:=w2.sz
   have hw3:Wf (.list [.atom [43],e1,e2]):=.plus w1 w2
   have ht3:cM (.list [.atom [43],e1,e2]) []=.plus tx t2:=by rw[dO,te1,te2]
   have ma:=BP _ hw3.ok (by simp only[E.sz,E.iX];omega)
   rw[dU]at ma
   simp only[cn]at ma
   have e3:AV.sl [[.v (.string (mk [43])),zc],[.v (.string (mk e1.at)),e1.sp],[.v (.string (mk e2.at)),e2.sp]]=(E.list [.atom [43],e1,e2]).sp:=by simp only[E.sp,E.bb,fE];rfl
   rw[e3]
   refine aj ma ?_
   simp only[↓zq,zs,af,zt]
   have hd3:(Ty.plus tx t2).aB=(E.list [.atom [43],e1,e2]).cN:=by rw[<-ht3,<-hw3.cN []]
   unfold mU
   by_cases hle:(Ty.plus tx t2).aB<=400
   ·rw[if_pos hle,show decide ((((E.list [.atom [43],e1,e2]).cN:Nat):Int)<=400)=true from decide_eq_true (by omega)]
    have:=lP.of hw3
    rw[ht3]at this
    exact this
   ·rw[if_neg hle,show decide ((((E.list [.atom [43],e1,e2]).cN:Nat):Int)<=400)=false from decide_eq_false (by omega)]
    exact lP.no _ _ ((aV _).mpr trivial)
  |
   @times x y hx hy =>
   have hxy:(E.list [.atom [42],x,y]).cN=x.cN+y.cN+1:=by simp only[E.cN,E.eU];omega
   have p1:1<=x.cN:=by rw[hx.cN []];exact eg _
   have p2:1<=y.cN:=by rw[hy.cN []];exact eg _
   refine C5 _ _ _ ((aV _).mpr trivial) ?_
   have hP:=P3.of (.atom [42]) x y
   simp only[AD,cn,toNat_one,bf,↓zq,zs,af,zt,hP.1,hP.2.1,hP.2.2.1,hP.2.2.2,aP]
   refine⟨fun h=>absurd rfl h,fun _=>?_⟩
   refine aj (po [42] x y) ?_
   simp only[↓zq,zs,af,zt]
   refine⟨fun h=>by simp at h,fun _=>?_⟩
   repeat refine⟨by omega,?_⟩
   rw[da,sM]
   refine aM (yr n x s hx (by omega) (by omega) hs) (lP.ne (jV hx)) ?_
   rintro r o ⟨rfl,c1,d1,hd1,rfl,hc1⟩
   simp only[↓zq,zs,af,zt,iV hd1]
   repeat refine⟨by omega,?_⟩
   refine aM (yr n y s hy (by omega) (by omega) hs) (lP.ne (jV hy)) ?_
   rintro r o ⟨rfl,c2,d2,hd2,rfl,hc2⟩
   simp only[↓zq,zs,af,zt,iV hd2]
   refine aj (zF [43] c1 c2 d1 d2) ?_
   simp only[↓zq,zs,af,zt,bT,dC,bZ]
   repeat refine⟨by omega,?_⟩
   refine aj (po [42] x y) ?_
   simp only[↓zq,zs,af,zt]
   refine⟨fun _=>?_,fun h=>by simp at h⟩
   repeat refine⟨by omega,?_⟩
   refine aj (zF [42] c1 y.at d1 y.sp) ?_
   simp only[↓zq,zs,af,zt,bT,dC,bZ,aV]
   repeat refine⟨by omega,?_⟩
   refine aj (zF [42] x.at c2 x.sp d2) ?_
   simp only[↓zq,zs,af,zt,bT,dC,bZ,aV]
   repeat refine⟨by omega,?_⟩
   refine aj (zF [43] [] [] _ _) ?_
   simp only[↓zq,zs,af,zt,bT,dC,bZ]
   repeat refine⟨by omega,?_⟩
   cases q1:jU (cM x []) s with
   |
    none =>
    simp only[ck,bR]
    exact⟨fun h=>(by cases h),fun _=>lP.no _ _ ((bZ _).mpr trivial)⟩
   |some tx =>
   cases q2:jU (cM y []) s with
   |
    none =>
    simp only[ck,cm,bR,aY]
    exact⟨fun _=>⟨fun h=>(by cases h),fun _=>lP.no _ _ ((bZ _).mpr trivial)⟩,fun h=>(by cases h)⟩
   |some t2 =>
   simp only[cm,aY]
   refine⟨fun _=>⟨fun _=>?_,fun h=>(by cases h)⟩,fun h=>(by cases h)⟩
   obtain⟨e1,w1,te1,rfl,rfl⟩:=hc1 tx q1
   obtain⟨e2,w2,te2,rfl,rfl⟩:=hc2 t2 q2
   have l1:=w1.jh te1 (cw.1 q1).small
   have l2:=w2.jh te2 (cw.1 q2).small
   have z1:=w1.sz
   have z2:=w2.sz
   have z3:=hx.sz
   have z4:=hy.sz
   have hw3:Wf (.list [.atom [43],.list [.atom [42],e1,y],.list [.atom [42],x,e2]]):=.plus (.times w1 hy) (.times hx w2)
   have ht3:cM (.list [.atom [43],.list [.atom [42],e1,y],.list [.atom [42],x,e2]]) []=.plus (.times tx (cM y [])) (.times (cM x []) t2):=by rw[dO,da,da,te1,te2]
   have ma:=BP _ hw3.ok (by simp only[E.sz,E.iX];omega)
   rw[dU]at ma
   simp only[cn]at ma
   have e3:AV.sl [[.v (.string (mk [43])),zc],[.v (.string (mk [])),.sl [[.v (.string (mk [42])),zc],[.v (.string (mk e1.at)),e1.sp],[.v (.string (mk y.at)),y.sp]]],[.v (.string (mk [])),.sl [[.v (.string (mk [42])),zc],[.v (.string (mk x.at)),x.sp],[.v (.string (mk e2.at)),e2.sp]]]]=(E.list [.atom [43],.list [.atom [42],e1,y],.list [.atom [42],x,e2]]).sp:=by simp only[E.sp,E.bb,fE];rfl
   rw[e3]
   refine aj ma ?_
   simp only[↓zq,zs,af,zt]
   have hd3:(Ty.plus (.times tx (cM y [])) (.times (cM x []) t2)).aB=(E.list [.atom [43],.list [.atom [42],e1,y],.list [.atom [42],x,e2]]).cN:=by rw[<-ht3,<-hw3.cN []]
   unfold mU
   by_cases hle:(Ty.plus (.times tx (cM y [])) (.times (cM x []) t2)).aB<=400
   ·rw[if_pos hle,show decide ((((E.list [.atom [43],.list [.atom [42],e1,y],.list [.atom [42],x,e2]]).cN:Nat):Int)<=400)=true from decide_eq_true (by omega)]
    have:=lP.of hw3
    rw[ht3]at this
    exact this
   ·rw[if_neg hle,show decide ((((E.list [.atom [43],.list [.atom [42],e1,y],.list [.atom [42],x,e2]]).cN:Nat):Int)<=400)=false from decide_eq_false (by omega)]
    exact lP.no _ _ ((aV _).mpr trivial)
  |
   @rc m B hm hB =>
   have hlp:=Mb n (yr n) m B hm hB hl h4 s hs
   have hg:=jV (s:=s) (Wf.rc hm hB)
   refine C5 _ _ _ ((aV _).mpr trivial) ?_
   have hP:=P3.of (.atom dS) (.atom m) B
   simp only[AD,cn,toNat_one,bf,↓zq,zs,af,zt,hP.1,hP.2.1,hP.2.2.1,hP.2.2.2,aP]
   refine⟨fun h=>absurd rfl h,fun _=>?_⟩
   refine aj (po dS (.atom m) B) ?_
   simp only[↓zq,zs,af,zt]
   refine⟨fun _=>?_,fun h=>absurd rfl h⟩
   refine aM hlp (lP.ne hg) ?_
   rintro r o ⟨rfl,c1,d1,hd1,rfl,hc1⟩
   simp only[↓zq,zs,af,zt,iV hd1]
   exact⟨rfl,c1,d1,hd1,rfl,hc1⟩
end Go.Proofs.Trees
namespace Go.Proofs.Trees
open Go Go.VL Go.RowKit
theorem oe:∀(n k:Nat),k<10 ^ (n+1)->(dd k).length<=n+1
 |0,k,h=>by rw[eC (by omega)];simp
 |
  n+1,k,h=>by
  by_cases h1:k<10
  ·rw[eC h1];simp
  ·rw[fH h1]
   have:=oe n (k/10) (by
    have:10 ^ (n+1+1)=10*10 ^ (n+1):=by rw[Nat.pow_succ,Nat.mul_comm]
    omega)
   simp;omega
inductive Sh:E->Prop
 |atom {s:Nm} (h:s.length<=20):Sh (.atom s)
 |l3 {h:Nm} {a b:E} (hh:h.length<=20) (ha:Sh a) (hb:Sh b):Sh (.list [.atom h,a,b])
theorem Sh.ei{e:E}(hw:Wf e)(h:Sh e):(eQ e).length<=50*e.cN:=by
 induction hw with
 |atom _=>cases h with|atom h=>simp only[eQ,E.cN];omega
 |
  plus _ _ i1 i2 =>
  cases h with|l3 hh ha hb =>
  have:=i1 ha
  have:=i2 hb
  simp only[eQ,dZ,aq,an,aE,E.cN,E.eU];omega
 |
  times _ _ i1 i2 =>
  cases h with|l3 hh ha hb =>
  have:=i1 ha
  have:=i2 hb
  simp only[eQ,dZ,aq,an,aE,E.cN,E.eU];omega
 |
  rc _ _ i =>
  cases h with|l3 hh ha hb =>
  cases ha with|atom ha =>
  have:=i hb
  simp only[eQ,dZ,aq,an,aE,E.cN,E.eU];omega
def w9(t:Ty):Prop:=∀y,a8 y t=true->y.length<=20
theorem wu{k:Nat}(h:k<100000000):(tN k).length<=20:=by
 have:=oe 7 k (by omega)
 simp;omega
theorem oS(F:List Nm)(hF:F.length<=10000):∀(t:Ty) (to:List Nm) (k:Nat),w9 t->(∀w,w∈to->w.length<=20)->k+(F.length+1)*t.aB<90000000->Sh (gI F t to k).1
 | .zero,_,_,_,_,_=>.atom (by simp)
 | .one,_,_,_,_,_=>.atom (by simp)
 | .name s,_,_,hn,_,_=>.atom (hn s (by simp[a8]))
 |
  .bA u,to,_,_,ht,_=>by
  refine .atom ?_
  show (gb to u).length<=20
  unfold gb
  by_cases h:to.length-1-u<to.length
  ·rw[aa,bc h];exact ht _ (bI h)
  ·rw[aa,List.getElem?_eq_none (by omega)];simp
 |
  .plus a b,to,k,hn,ht,hk=>by
  have h1:=gV F a to k
  have:(F.length+1)*(1+a.aB+b.aB)=(F.length+1)+(F.length+1)*a.aB+(F.length+1)*b.aB:=by simp only[cA,dw]
  simp only[Ty.aB]at hk
  exact .l3 (by simp) (oS F hF a to k (fun y hy=>hn y (by simp[a8,hy])) ht (by omega)) (oS F hF b to _ (fun y hy=>hn y (by simp[a8,hy])) ht (by omega))
 |
  .times a b,to,k,hn,ht,hk=>by
  have h1:=gV F a to k
  have:(F.length+1)*(1+a.aB+b.aB)=(F.length+1)+(F.length+1)*a.aB+(F.length+1)*b.aB:=by simp only[cA,dw]
  simp only[Ty.aB]at hk
  exact .l3 (by simp) (oS F hF a to k (fun y hy=>hn y (by simp[a8,hy])) ht (by omega)) (oS F hF b to _ (fun y hy=>hn y (by simp[a8,hy])) ht (by omega))
 |
  .rc a,to,k,hn,ht,hk=>by
  obtain⟨g1,g2,_,_⟩:=gp F k
  have:(F.length+1)*(2+a.aB)=(F.length+1)*2+(F.length+1)*a.aB:=by simp only[cA]
  simp only[Ty.aB]at hk
  have hl:=wu (k:=nx F k) (by omega)
  exact .l3 (by simp) (.atom hl) (oS F hF a _ _ hn (fun w hw=>by
   rcases aK.1 hw with hw|hw
   ·exact ht w hw
   ·simp only[aQ]at hw;rw[hw];exact hl) (by omega))
def Dn(t:Ty):Nm:=eQ (gI (bw t []) t [] 0).1
def told(t:Ty):Option Nm:=if t.aB<=400/\(pu (Dn t)).isSome=true then some (Dn t)else none
theorem BE{t:Ty}(g:fu t)(hs:w9 t)(ha:t.aB<=400):(Dn t).length<=20000:=by
 obtain⟨h1,h2,_⟩:=kb (bw t []) t [] 0 (.nil _ _) g.1 fun y hy=>⟨(eG t [] y).2 (.inr hy),g.2 y hy⟩
 have hn:=ew t []
 simp only[aE,aR]at hn
 have hm:((bw t []).length+1)*t.aB<=401*400:=Nat.mul_le_mul (by omega) ha
 have:=(oS (bw t []) (by omega) t [] 0 hs (fun w hw=>by cases hw) (by omega)).ei h1
 have:=h1.jh h2 ha
 unfold Dn;omega
theorem tT(s:Nm):(vo s).isSome=(pu s).isSome:=by
 rw[tR]
 cases he:vo s with
 |none=>rfl
 |
  some e =>
  obtain⟨h1,h2,h3⟩:=oM he
  simp only[iB e [],h2];rfl
theorem LX(s:Nm):az Tryz.prog 146 [.v (.string (mk s))] [] (bG (.v (.bool (pu s).isSome))):=by
 refine Ns _ ?_
 unfold JJ
 refine aM (Ei s) (mo.ne _ _ (fun h=>h)) ?_
 rintro r o ⟨c,d,hd,rfl,hh⟩
 have hhas:bT [.str,.sl] [.v (.string (mk c)),d] 0:=by simp[bT,dC,hd]
 simp only[↓zq,zs,af,zt,tT]
 exact⟨hhas,rfl,rfl⟩
theorem ML{e:E}(h:Wf e)(hl:e.cN<=400)(hs:w9 (cM e [])):az Tryz.prog 102 [.agg [.v (.string (mk e.at)),e.sp]] [] (bG (ku (told (cM e [])))):=by
 refine Lp _ _ ((aV _).mpr trivial) ?_
 unfold Iy
 have z:=h.sz
 have ma:=BP e h.ok (by omega)
 rw[dU]at ma
 have hA:=BD h zc [] ⟨(bm).mpr trivial,rfl⟩ (by omega) (fun o ho=>by cases ho) (by simp)
 have ha:(cM e []).aB<=400:=by rw[<-h.cN []];exact hl
 have hc:yF e []=(gI (bw (cM e []) []) (cM e []) [] 0).1:=by
  unfold yF zb rA
  rw[List.flatMap_nil,cY,jw (F':=bw (cM e []) []) fun y=>by rw[kM h,eG]]
 have hx:eQ (yF e [])=Dn (cM e []):=by rw[hc];rfl
 have hlen:=BE h.oL hs ha
 have hT:=Eh (yF e []) (wl h).1.ok (by rw[hx];omega)
 rw[dU,hx]at hT
 refine aj ma ?_
 simp only[↓zq,zs,af,zt]
 refine⟨fun h=>by omega,fun _=>?_⟩
 refine aj hA ?_
 simp only[↓zq,zs,af,zt,aP]
 refine aj hT ?_
 simp only[↓zq,zs,af,zt]
 refine aj (LX _) ?_
 simp only[↓zq,zs,af,zt]
 unfold told
 refine⟨fun hn=>?_,fun hy=>?_⟩
 ·rw[if_neg (by rw[hn];simp)];exact⟨rfl,rfl⟩
 ·rw[if_pos ⟨ha,hy⟩];exact⟨rfl,rfl⟩
abbrev rW:Nm:=[35,49]
noncomputable def iO (s:Nm):Option Nm:=match pu s with
 |some (.rc a)=>(zd a rW).bind told
 |_=>none
theorem kV{s:Nm}{t:Ty}(h:pu s=some t):∃e,vo s=some e/\Wf e/\cM e []=t/\e.cN<=400/\e.ok:=by
 rw[tR]at h
 cases he:vo s with
 |none=>rw[he]at h;cases h
 |
  some e =>
  rw[he]at h
  obtain⟨h1,h2,h3⟩:=oM he
  obtain⟨hok,_⟩:=mZ h1
  obtain⟨w1,w2⟩:=j6 e [] t hok (fun w hw=>by cases hw) h
  exact⟨e,rfl,w1,w2,h3,hok⟩
theorem Af{e:E}{x:Nm}{a d:Ty}(hw:Wf e)(ht:cM e []=.rc a)(hx:qi x)(hd:zd a x=some d):fu d/\(w9 (.rc a)->w9 d):=by
 simp only[zd,a6,cw,fR]at hd
 obtain⟨d',h1,_,rfl⟩:=hd
 have g:fu (.rc a):=ht ▸ hw.oL
 have go:fu (dA (.name x) a 0):=⟨gz x a g.1,fun y hy=>by
  rcases hZ a 0 hy with rfl|h
  ·exact hx
  ·exact g.2 y h⟩
 refine⟨g.sub (go.dv h1),fun hs y hy=>?_⟩
 rcases iT _ hy with h|⟨h,h'⟩
 ·exact hs y h
 ·rcases hZ a 0 (h1.names y h')with e|e
  ·exact absurd e h
  ·exact hs y e
def Gm(y:Nm):Prop:=ff y=true\/cQ y=true
theorem iv:∀(e:E) (ar:List Nm) (t:Ty),cy e ar=some t->∀y,a8 y t=true->Gm y
 |
  .atom s,ar,t,ht,y,hy=>by
  simp only[cy]at ht
  split at ht
  ·cases ht;cases hy
  ·split at ht
   ·cases ht;cases hy
   ·split at ht
    ·rename_i hp
     cases ht
     simp only[a8,decide_eq_true_eq]at hy
     subst hy;exact .inl hp
    ·split at ht
     ·rename_i hq
      split at ht
      ·cases ht;cases hy
      ·cases ht
       simp only[a8,decide_eq_true_eq]at hy
       subst hy;exact .inr hq
     ·cases ht
 |
  .list [x,a,b],ar,t,ht,y,hy=>by
  by_cases h0:x.at=[43]
  ·obtain⟨t1,t2,h1,h2,rfl⟩:=fB h0 ht
   simp only[a8,bg]at hy
   rcases hy with hy|hy
   ·exact iv a ar t1 h1 y hy
   ·exact iv b ar t2 h2 y hy
  ·by_cases h1:x.at=[42]
   ·obtain⟨t1,t2,h2,h3,rfl⟩:=eY h1 ht
    simp only[a8,bg]at hy
    rcases hy with hy|hy
    ·exact iv a ar t1 h2 y hy
    ·exact iv b ar t2 h3 y hy
   ·by_cases h2:x.at=[114,101,99]
    ·obtain⟨t1,hla,h3,rfl⟩:=dj h2 ht
     exact iv b _ t1 h3 y hy
    ·rw[iN _ h0 h1 h2]at ht;cases ht
 | .list [],ar,t,ht,_,_=>by cases ht
 | .list [_],ar,t,ht,_,_=>by cases ht
 | .list [_,_],ar,t,ht,_,_=>by cases ht
 | .list (_::_::_::_::_),ar,t,ht,_,_=>by cases ht
theorem wg{y:Nm}(h:Gm y):y.length<=3/\∀r,y≠35::r:=by
 have key:∀lo hi,116<=lo->named lo hi y=true->y.length<=3/\∀r,y≠35::r:=fun lo hi hlo h=>by
  cases y with
  |nil=>cases h
  |
   cons c r =>
   simp only[named,au,decide_eq_true_eq]at h
   refine⟨by simp;omega,fun r' e=>?_⟩
   have:c=35:=by injection e
   subst this
   have:=h.1.2.1
   have e35:(35:UInt8).toNat=35:=rfl
   omega
 rcases h with h|h
 ·exact key 120 122 (by omega) h
 ·exact key 116 116 (by omega) h
theorem kD{s:Nm}{t:Ty}(h:pu s=some t):∀y,a8 y t=true->Gm y:=by
 rw[tR]at h
 cases he:vo s with
 |none=>rw[he]at h;cases h
 |some e=>rw[he]at h;exact iv e [] t h
theorem vB{s:Nm}{a:Ty}(h:pu s=some (.rc a)):a8 rW a=false:=by
 cases q:a8 rW a with
 |false=>rfl
 |true=>exact absurd rfl ((wg (kD h rW q)).2 [49])
theorem Ba{s:Nm}{t:Ty}(h:pu s=some t):w9 t:=fun y hy=>by have:=(wg (kD h y hy)).1;omega
end Go.Proofs.Trees
namespace Go.Proofs.Trees
open Go Go.VL Go.RowKit
theorem v7(w:World)(k:Nat)(os:Array Obj):Below w.heap.size w (Go.«Sort».grow (w.drewN k) os):=by
 refine⟨rfl,rfl,rfl,?_,fun b hb=>?_⟩
 ·simp[Go.«Sort».grow,World.drewN]
 ·simp only[Go.«Sort».grow,World.drewN]
  rw[Array.getElem?_append_left hb]
theorem EW(k:Nat)(hk:k<1000000000):az Tryz.prog 94 [.v (.int .i64 (k:Int))] [] (bG (.v (.string (mk (dd k))))):=by
 refine az.Ni (xs:=[.int .i64 (k:Int)]) ⟨pV,by kernel_rfl,by kernel_rfl,by kernel_rfl⟩ fun w ht=>?_
 have:=Any.strconv_Itoa Tryz.AW (k:Int) (by omega) (by omega) w ht
 refine Calls.mono this fun e w' ⟨h1,n,os,h2⟩=>⟨?_,?_⟩
 ·rw[h1,Lib.itoa_nonneg];rfl
 ·rw[h2];exact v7 w n os
abbrev hN(k:Nat):Nm:=35::dd k
theorem Bj{j k:Nat}(h:hN j=hN k):j=k:=vQ (j+1) j k (by omega) (List.cons.inj h).2
theorem yQ(u:Ty):∀(t:Ty) (i:Nat),i+t.aB<1000000->az Tryz.prog 158 [t.av,u.av,.v (.int .i64 (i:Int))] [] (bG (dA u t i).av)
 |
  .zero,i,_=>by
  refine vA _ _ _ ((aG _).mpr trivial) ((aG _).mpr trivial) ?_
  simp[Dp,Ty.av,dA,↓zq,zs,af,bG]
 |
  .one,i,_=>by
  refine vA _ _ _ ((aG _).mpr trivial) ((aG _).mpr trivial) ?_
  simp[Dp,Ty.av,dA,↓zq,zs,af,bG]
 |
  .name s,i,_=>by
  refine vA _ _ _ ((aG _).mpr trivial) ((aG _).mpr trivial) ?_
  simp[Dp,Ty.av,dA,↓zq,zs,af,bG]
 |
  .bA k,i,_=>by
  refine vA _ _ _ ((aG _).mpr trivial) ((aG _).mpr trivial) ?_
  simp only[Dp,Ty.av,dA,↓zq,zs,af,bG]
  refine⟨by omega,fun _=>⟨by omega,fun h=>?_,fun h=>?_⟩,fun h=>absurd rfl h⟩
  ·rw[if_pos (by omega)]
  ·rw[if_neg (by omega)];rfl
 |
  .plus a b,i,hl=>by
  simp only[Ty.aB]at hl
  refine vA _ _ _ ((aG _).mpr trivial) ((aG _).mpr trivial) ?_
  simp only[Dp,Ty.av,dA,↓zq,zs,af,aG]
  refine⟨by omega,fun h=>by omega,fun _=>⟨fun _=>?_,fun h=>absurd rfl h⟩⟩
  repeat refine⟨by omega,?_⟩
  refine aj (yQ u a i (by omega)) ?_
  simp only[↓zq,zs,af,aG]
  repeat refine⟨by omega,?_⟩
  refine aj (yQ u b i (by omega)) ?_
  simp only[↓zq,zs,af,aG]
  exact⟨rfl,rfl⟩
 |
  .times a b,i,hl=>by
  simp only[Ty.aB]at hl
  refine vA _ _ _ ((aG _).mpr trivial) ((aG _).mpr trivial) ?_
  simp only[Dp,Ty.av,dA,↓zq,zs,af,aG]
  refine⟨by omega,fun h=>by omega,fun _=>⟨fun h=>by omega,fun _=>⟨fun _=>?_,fun h=>absurd rfl h⟩⟩⟩
  repeat refine⟨by omega,?_⟩
  refine aj (yQ u a i (by omega)) ?_
  simp only[↓zq,zs,af,aG]
  repeat refine⟨by omega,?_⟩
  refine aj (yQ u b i (by omega)) ?_
  simp only[↓zq,zs,af,aG]
  exact⟨rfl,rfl⟩
 |
  .rc a,i,hl=>by
  simp only[Ty.aB]at hl
  refine vA _ _ _ ((aG _).mpr trivial) ((aG _).mpr trivial) ?_
  simp only[Dp,Ty.av,dA,↓zq,zs,af,aG]
  refine⟨by omega,fun h=>by omega,fun _=>⟨fun h=>by omega,fun _=>⟨fun h=>by omega,fun _=>⟨fun _=>?_,fun h=>absurd rfl h⟩⟩⟩⟩
  repeat refine⟨by omega,?_⟩
  rw[bS i (by omega)]
  refine aj (yQ u a (i+1) (by omega)) ?_
  simp only[↓zq,zs,af,aG]
  exact⟨rfl,rfl⟩
theorem Bt(x:Nm)(u:Ty):∀(t:Ty),az Tryz.prog 159 [t.av,.v (.string (mk x)),u.av] [] (bG (sub x u t).av)
 |
  .zero=>by
  refine vC _ _ _ ((aG _).mpr trivial) ((aG _).mpr trivial) ?_
  simp[Dq,Ty.av,sub,↓zq,zs,af,bG]
 |
  .one=>by
  refine vC _ _ _ ((aG _).mpr trivial) ((aG _).mpr trivial) ?_
  simp[Dq,Ty.av,sub,↓zq,zs,af,bG]
 |
  .bA k=>by
  refine vC _ _ _ ((aG _).mpr trivial) ((aG _).mpr trivial) ?_
  simp[Dq,Ty.av,sub,↓zq,zs,af,bG]
 |
  .name s=>by
  refine vC _ _ _ ((aG _).mpr trivial) ((aG _).mpr trivial) ?_
  simp only[Dq,Ty.av,sub,↓zq,zs,af,zt,bG]
  refine⟨by omega,fun _=>⟨by omega,fun h=>?_,fun h=>?_⟩,fun h=>absurd rfl h⟩
  ·rw[if_pos h]
  ·rw[if_neg h];rfl
 |
  .plus a b=>by
  refine vC _ _ _ ((aG _).mpr trivial) ((aG _).mpr trivial) ?_
  simp only[Dq,Ty.av,sub,↓zq,zs,af,aG]
  refine⟨by omega,fun h=>by omega,fun _=>⟨fun _=>?_,fun h=>absurd rfl h⟩⟩
  repeat refine⟨by omega,?_⟩
  refine aj (Bt x u a) ?_
  simp only[↓zq,zs,af,aG]
  repeat refine⟨by omega,?_⟩
  refine aj (Bt x u b) ?_
  simp only[↓zq,zs,af,aG]
  exact⟨rfl,rfl⟩
 |
  .times a b=>by
  refine vC _ _ _ ((aG _).mpr trivial) ((aG _).mpr trivial) ?_
  simp only[Dq,Ty.av,sub,↓zq,zs,af,aG]
  refine⟨by omega,fun h=>by omega,fun _=>⟨fun h=>by omega,fun _=>⟨fun _=>?_,fun h=>absurd rfl h⟩⟩⟩
  repeat refine⟨by omega,?_⟩
  refine aj (Bt x u a) ?_
  simp only[↓zq,zs,af,aG]
  repeat refine⟨by omega,?_⟩
  refine aj (Bt x u b) ?_
  simp only[↓zq,zs,af,aG]
  exact⟨rfl,rfl⟩
 |
  .rc a=>by
  refine vC _ _ _ ((aG _).mpr trivial) ((aG _).mpr trivial) ?_
  simp only[Dq,Ty.av,sub,↓zq,zs,af,aG]
  refine⟨by omega,fun h=>by omega,fun _=>⟨fun h=>by omega,fun _=>⟨fun h=>by omega,fun _=>⟨fun _=>?_,fun h=>absurd rfl h⟩⟩⟩⟩
  repeat refine⟨by omega,?_⟩
  refine aj (Bt x u a) ?_
  simp only[↓zq,zs,af,aG]
  exact⟨rfl,rfl⟩
theorem xx(c:Int)(a b:Ty):az Tryz.prog 183 [.v (.int .u8 c),a.av,b.av] [] (bG (.ptr [.v (.int .u8 c),.v (.string (mk [])),.v (.int .i64 0),a.av,b.av])):=by
 refine Mv _ _ _ ((aG _).mpr trivial) ((aG _).mpr trivial) ?_
 simp[Kl,↓zq,zs,af,bG]
abbrev Da(f:Nat)(g:Bool):Ob:=.cells [.v (.int .i64 (f:Int)),.v (.bool g)]
theorem M8(f:Nat)(g:Bool)(hf:f<100000000):az Tryz.prog 155 [.ref 0 0] [Da f g] (gC (.v (.string (mk (hN (f+1))))) [Da (f+1) g]):=by
 refine K4 _ _ ?_
 simp only[H5,↓zq,zs,af,zt]
 rw[bS f (by omega)]
 refine aj (EW (f+1) (by omega)) ?_
 have hd:=oe 8 (f+1) (by omega)
 simp only[↓zq,zs,af,zt,bn,bh]
 exact⟨by simp[cO];omega,rfl,rfl⟩
def uf(g:Bool)(t:Ty):Ty:=if g=true\/400<t.aB then .zero else t
def zi(g:Bool)(t:Ty):Bool:=g||decide (400<t.aB)
theorem xl(t:Ty):uf true t=.zero:=by simp[uf]
theorem xJ(t:Ty):zi true t=true:=rfl
theorem zS{t:Ty}(h:t.aB<=400):uf false t=t:=by simp[uf,show ¬400<t.aB by omega]
theorem zy{t:Ty}(h:t.aB<=400):zi false t=false:=by simp[zi,show ¬400<t.aB by omega]
theorem I4{t:Ty}(h:¬t.aB<=400):zi false t=true:=by simp[zi,show 400<t.aB by omega]
theorem IC{t:Ty}(h:¬t.aB<=400):uf false t=.zero:=by simp[uf,show 400<t.aB by omega]
theorem wE(f:Nat)(g:Bool)(t:Ty)(hl:t.aB<1000000):az Tryz.prog 156 [.ref 0 0,t.av] [Da f g] (gC (uf g t).av [Da f (zi g t)]):=by
 refine L6 _ _ _ ((aG _).mpr trivial) ?_
 simp only[Hh,↓zq,zs,af,zt]
 cases g with
 |true=>exact⟨fun _=>⟨rfl,rfl⟩,fun h=>(by cases h)⟩
 |
  false =>
  refine⟨fun h=>(by cases h),fun _=>?_⟩
  refine aj (Dg t hl) ?_
  simp only[↓zq,zs,af,zt]
  refine⟨fun h=>?_,fun h=>?_⟩
  ·have h:400<t.aB:=by omega
   simp[uf,zi,h,gC,Ty.av]
  ·have h:¬400<t.aB:=by omega
   simp[uf,zi,h,gC]
theorem DK(t:Ty)(s:Nm)(f:Nat):az Tryz.prog 157 [.ref 0 0,t.av,.v (.string (mk s))] [Da f true] (gC Ty.zero.av [Da f true]):=by
 refine Ic _ _ _ _ ((aG _).mpr trivial) ?_
 simp only[Cq,↓zq,zs,af]
 exact⟨fun _=>⟨rfl,rfl⟩,fun h=>(by cases h)⟩
def By(f:Nat)(t:Ty):Prop:=∀j,f<j->a8 (hN j) t=false
def pG(o:Option Ty)(t:Ty):Nat:=match o with|some d=>d.aB|none=>1000*t.aB
def z7(o:Option Ty)(f B:Nat):AV->List Ob->Prop:=fun r ob=>∃f':Nat,f<=f'/\f'<=f+B/\r=(o.getD .zero).av/\ob=[Da f' o.isNone]
theorem z7.ne(o:Option Ty)(f B:Nat):∃r ob,z7 o f B r ob:=⟨_,_,f,ap _,cK _ _,rfl,rfl⟩
theorem qy{f f':Nat}{t:Ty}(h:By f t)(hf:f<=f'):By f' t:=fun j hj=>h j (by omega)
end Go.Proofs.Trees
