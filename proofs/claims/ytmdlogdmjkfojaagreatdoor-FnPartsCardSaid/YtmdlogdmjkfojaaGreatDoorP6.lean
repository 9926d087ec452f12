/-
  Part of a proof: Go functions read by values, trees of functions, their contracts.
-/
import Derived.Test.YtmdlogdmjkfojaaGreatDoorP5
set_option linter.unusedVariables false
set_option linter.unusedSimpArgs false
open And renaming intro→aI
open Bool renaming and_eq_true→aw,eq_iff_iff→cq,or_eq_false_iff→cj,or_eq_true→bn,true_and→bJ
open ByteArray renaming toList→af
open Int renaming tmod→du,toNat_natCast→bB
open List renaming all_cons→cL,all_eq_true→bL,append_assoc→aS,cons_append→bz,drop_eq_getElem_cons→aL,drop_zero→aX,flatMap_cons→cP,getD_eq_getElem?_getD→aa,getElem?_eq_getElem→bo,getElem_mem→bE,headD_cons→bc,length_append→al,length_cons→au,length_map→cI,length_nil→aG,map_cons→bp,mem_append→aM,mem_append_left→aB,mem_append_right→az,mem_cons→aH,mem_cons_of_mem→ak,mem_cons_self→ai,mem_flatMap→dq,mem_map→bZ,mem_singleton→aU,nil_append→aQ,tail_cons→bF,takeWhile_append_dropWhile→bS
open Nat renaming le_add_right→cM,le_refl→aq,lt_of_lt_of_le→cU,mod_lt→dW,mul_add→da,mul_le_mul_right→aZ,mul_one→dQ,zero_add→aW,zero_le→dr
open Option renaming bind_eq_some_iff→bA,bind_none→dw,bind_some→ck,getD_some→cK,isSome_iff_exists→bx,map_some→cr
open UInt8 renaming ofNat→a8,toNat_inj→dE
namespace Go.Proofs.Trees
open Go Go.VL Go.RowKit
def iY(F:List Nm):Ty->List Nm->Nat->E×Nat
 | .zero,_,k=>(.atom [48],k)
 | .one,_,k=>(.atom [49],k)
 | .name s,_,k=>(.atom s,k)
 | .bO u,to,k=>(.atom (gy to u),k)
 | .plus a b,to,k=>(.list [.atom [43],(iY F a to k).1,(iY F b to (iY F a to k).2).1],(iY F b to (iY F a to k).2).2)
 | .times a b,to,k=>(.list [.atom [42],(iY F a to k).1,(iY F b to (iY F a to k).2).1],(iY F b to (iY F a to k).2).2)
 | .rc a,to,k=>(.list [.atom ic,.atom (tN (nx F k)),(iY F a (to++[tN (nx F k)]) (nx F k+1)).1],(iY F a (to++[tN (nx F k)]) (nx F k+1)).2)
def j0:Ty->Nat->Prop
 | .bO u,i=>u<i
 | .plus a b,i=>j0 a i/\j0 b i
 | .times a b,i=>j0 a i/\j0 b i
 | .rc a,i=>j0 a (i+1)
 |_,_=>True
theorem wt{e:E}(h:Wf e):∀ar,j0 (er e ar) ar.length:=by
 induction h with
 |
  @atom s hs =>
  intro ar
  simp only[er]
  split
  ·trivial
  ·split
   ·trivial
   ·split
    ·rename_i u q;exact(fS _ _ (aq _) q).1
    ·trivial
 |plus ha hb i1 i2=>intro ar;rw[fh];exact⟨i1 ar,i2 ar⟩
 |times ha hb i1 i2=>intro ar;rw[eu];exact⟨i1 ar,i2 ar⟩
 |
  @rc n b hn hb i =>
  intro ar;rw[jh]
  have:=i (ar++[(E.atom n).at])
  rw[al]at this
  exact this
structure Gn(F to:List Nm)(k:Nat):Prop where
 out:∀w,w∈to->w∉F
 lt:∀w,w∈to->∃j,j<k/\w=tN j
 nd:to.Nodup
theorem Gn.nil(F:List Nm)(k:Nat):Gn F [] k:=⟨fun _ h=>(by cases h),fun _ h=>(by cases h),by simp⟩
theorem Gn.mono{F to:List Nm}{k k':Nat}(h:Gn F to k)(hk:k<=k'):Gn F to k':=⟨h.out,fun w hw=>by obtain⟨j,h1,h2⟩:=h.lt w hw;exact⟨j,by omega,h2⟩,h.nd⟩
theorem Gn.push{F to:List Nm}{k:Nat}(h:Gn F to k):Gn F (to++[tN (nx F k)]) (nx F k+1):=by
 obtain⟨h1,h2,h3,h4⟩:=lM F k
 refine⟨fun w hw=>?_,fun w hw=>?_,?_⟩
 ·rcases aM.1 hw with hw|hw
  ·exact h.out w hw
  ·simp only[aU]at hw;rw[hw];exact h4
 ·rcases aM.1 hw with hw|hw
  ·obtain⟨j,g1,g2⟩:=h.lt w hw;exact⟨j,by omega,g2⟩
  ·simp only[aU]at hw;exact⟨_,by omega,hw⟩
 ·refine List.nodup_append.2 ⟨h.nd,by simp,fun a ha b hb e=>?_⟩
  simp only[aU]at hb
  obtain⟨j,g1,g2⟩:=h.lt a ha
  rw[e,hb]at g2
  have:=At g2
  omega
theorem tR{to:List Nm}(hn:to.Nodup){u:Nat}(hu:u<to.length):bK (gy to u) to to.length=some u:=by
 have hm:gy to u∈to:=by
  unfold gy
  have:to.length-1-u<to.length:=by omega
  simp[aa,this]
 cases q:bK (gy to u) to to.length with
 |none=>exact absurd hm ((fO _ _).1 q)
 |
  some v =>
  obtain⟨h1,h2⟩:=fS _ _ (aq _) q
  unfold gy at h2
  have e1:to.length-1-v<to.length:=by omega
  have e2:to.length-1-u<to.length:=by omega
  rw[aa,aa,bo e1,bo e2]at h2
  have hp:=List.pairwise_iff_getElem.1 hn
  have h3:to[to.length-1-v]=to[to.length-1-u]:=by simpa using h2
  rcases Nat.lt_trichotomy (to.length-1-v) (to.length-1-u)with hl|he|hl
  ·exact absurd h3 (hp _ _ e1 e2 hl)
  ·congr 1;omega
  ·exact absurd h3.symm (hp _ _ e2 e1 hl)
theorem me(F:List Nm):∀(t:Ty) (to:List Nm) (k:Nat),Gn F to k->j0 t to.length->(∀y,bm y t=true->y∈F/\uJ y) ->
 Wf (iY F t to k).1/\er (iY F t to k).1 to=t/\k<=(iY F t to k).2/\(iY F t to k).2<=k+(F.length+1)*t.aC/\tX (·∉F) (iY F t to k).1
 | .zero,to,k,_,_,_=>⟨.atom (by simp),rfl,aq _,cM _ _,trivial⟩
 | .one,to,k,_,_,_=>⟨.atom (by simp),rfl,aq _,cM _ _,trivial⟩
 |
  .name s,to,k,g,hl,hn=>by
  obtain⟨h1,h2⟩:=hn s (by simp[bm])
  exact⟨.atom h2.1,iR h2 (fun h=>g.out s h h1),aq _,cM _ _,trivial⟩
 |
  .bO u,to,k,g,hl,hn=>by
  have hm:gy to u∈to:=by
   unfold gy
   have:to.length-1-u<to.length:=by have:u<to.length:=hl;omega
   simp[aa,this]
  obtain⟨j,_,e⟩:=g.lt _ hm
  have hok:uJ (gy to u):=by rw[e];exact D9 j
  refine⟨.atom hok.1,?_,aq _,cM _ _,trivial⟩
  simp only[iY,er]
  rw[if_neg hok.2.1,if_neg hok.2.2,tR g.nd hl]
 |
  .plus a b,to,k,g,hl,hn=>by
  obtain⟨a1,a2,a3,a4,a5⟩:=me F a to k g hl.1 fun y hy=>hn y (by simp[bm,hy])
  obtain⟨b1,b2,b3,b4,b5⟩:=me F b to _ (g.mono a3) hl.2 fun y hy=>hn y (by simp[bm,hy])
  simp only[iY,fh,a2,b2,oM,Ty.aC]
  refine⟨.plus a1 b1,trivial,by omega,?_,a5,b5⟩
  have:(F.length+1)*(1+a.aC+b.aC)=(F.length+1)+(F.length+1)*a.aC+(F.length+1)*b.aC:=by simp only[da,dQ]
  omega
 |
  .times a b,to,k,g,hl,hn=>by
  obtain⟨a1,a2,a3,a4,a5⟩:=me F a to k g hl.1 fun y hy=>hn y (by simp[bm,hy])
  obtain⟨b1,b2,b3,b4,b5⟩:=me F b to _ (g.mono a3) hl.2 fun y hy=>hn y (by simp[bm,hy])
  simp only[iY,eu,a2,b2,mT,Ty.aC]
  refine⟨.times a1 b1,trivial,by omega,?_,a5,b5⟩
  have:(F.length+1)*(1+a.aC+b.aC)=(F.length+1)+(F.length+1)*a.aC+(F.length+1)*b.aC:=by simp only[da,dQ]
  omega
 |
  .rc a,to,k,g,hl,hn=>by
  obtain⟨h1,h2,h3,h4⟩:=lM F k
  obtain⟨a1,a2,a3,a4,a5⟩:=me F a (to++[tN (nx F k)]) (nx F k+1) g.push (by rw[al];exact hl) hn
  simp only[iY,jh,eB,a2,tL,Ty.aC]
  refine⟨.rc (D9 _) a1,trivial,by omega,?_,h4,a5⟩
  have:(F.length+1)*(2+a.aC)=(F.length+1)*2+(F.length+1)*a.aC:=by simp only[da]
  omega
end Go.Proofs.Trees
namespace Go.Proofs.Trees
open Go Go.VL
mutual
def E.pr:E->Prop
 | .atom s=>s≠[]/\s.all eH=true
 | .list l=>l≠[]/\E.Ac l
def E.Ac:List E->Prop
 |[]=>True
 |e::l=>e.pr/\E.Ac l
end
mutual
def E.dp:E->Nat
 | .atom _=>0
 | .list l=>1+E.uw l
def E.uw:List E->Nat
 |[]=>0
 |e::l=>max e.dp (E.uw l)
end
def Jl(r:List UInt8):Prop:=∀c t,r=c::t->eH c=false
theorem tA:Jl []:=by intro c t h;cases h
theorem AE{s r:List UInt8}(hs:s.all eH=true)(hr:Jl r):(s++r).takeWhile eH=s/\(s++r).dropWhile eH=r:=by
 induction s with
 |
  nil =>
  cases r with
  |nil=>exact⟨rfl,rfl⟩
  |cons c t=>have:=hr c t rfl;simp[List.takeWhile,List.dropWhile,this]
 |
  cons c s ih =>
  simp only[cL,aw]at hs
  have:=ih hs.2
  simp[List.takeWhile,List.dropWhile,hs.1,this.1,this.2]
theorem vz(l:List E)(r:List UInt8):Jl (dS l++41::r):=by
 intro c t h
 cases l with
 |nil=>simp only[dS,aQ,List.cons.injEq]at h;rw[<-h.1];decide
 |cons e l=>simp only[dS,bz,List.cons.injEq]at h;rw[<-h.1];decide
theorem zV{f:List UInt8->Option (E×List UInt8)}(r:List UInt8):∀(l:List E) (e:E) (acc:List E) (n:Nat),l.length<n->(∀x,x=e\/x∈l->∀r,Jl r->f (eG x++r)=some (x,r)) ->
 rV f n (eG e++(dS l++41::r)) acc=some (.list (acc++e::l),r)
 |l,e,acc,0,hn,hf=>by omega
 |
  [],e,acc,n+1,hn,hf=>by
  simp only[rV]
  rw[hf e (.inl rfl) _ (vz [] r)]
  simp[dS]
 |
  x::l,e,acc,n+1,hn,hf=>by
  simp only[rV]
  rw[hf e (.inl rfl) _ (vz (x::l) r)]
  simp only[au]at hn
  have ih:=zV r l x (acc++[e]) n (by omega) (fun y hy=>hf y (.inr (by cases hy with|inl h=>rw[h];exact ai|inr h=>exact ak _ h)))
  simp only[aS,bz,aQ]at ih
  simp only[dS,bz,aS]
  simp[ih]
theorem Cr{l:List E}{k:Nat}:E.Ac l->E.uw l<=k->∀x,x∈l->x.pr/\x.dp<=k:=by
 induction l with
 |nil=>intro _ _ x h;cases h
 |
  cons e l ih =>
  intro h hd x hx
  simp only[E.Ac,E.uw]at h hd
  cases hx with
  |head=>exact⟨h.1,by omega⟩
  |tail _ hx=>exact ih h.2 (by omega) x hx
theorem ym:∀(k:Nat) (e:E) (r:List UInt8),e.pr->e.dp<=k->Jl r->rd k (eG e++r)=some (e,r)
 |
  0,.atom s,r,hp,hd,hr=>by
  have h:=AE hp.2 hr
  simp only[eG,rd,h.1,h.2,hp.1,if_false]
 |
  k+1,.atom s,r,hp,hd,hr=>by
  have h:=AE hp.2 hr
  simp only[eG,rd,h.1,h.2,hp.1,if_false]
 |0,.list l,r,hp,hd,hr=>by simp only[E.dp]at hd;omega
 |k+1,.list [],r,hp,hd,hr=>by exact absurd rfl hp.1
 |
  k+1,.list (e::l),r,hp,hd,hr=>by
  have hs:eH 40=false:=by decide
  simp only[E.dp,E.pr]at hd hp
  have hm:=Cr (k:=k) hp.2 (by omega)
  have:=zV (f:=rd k) r l e [] ((eG e++(dS l++41::r)).length+1) (by have:=qR l;simp only[al,au];omega)
   (fun x hx r hr=>ym k x r (hm x (by cases hx with|inl h=>rw[h];exact ai|inr h=>exact ak _ h)).1 (hm x (by cases hx with|inl h=>rw[h];exact ai|inr h=>exact ak _ h)).2 hr)
  simp only[eG,bz,aS,aQ]at *
  simp only[rd,List.takeWhile,hs,if_true]
  simpa using this
theorem Br{e e':E}(h:e.pr)(h':e'.pr)(ht:eG e=eG e'):e=e':=by
 have a:=ym (max e.dp e'.dp) e [] h (by omega) tA
 have b:=ym (max e.dp e'.dp) e' [] h' (by omega) tA
 rw[ht,b]at a;cases a;rfl
theorem Hv{e:E}(h:e.pr)(hd:e.dp<=300)(hl:(eG e).length<=8000):qk (eG e)=some e:=by
 have:=ym 300 e [] h hd tA
 rw[List.append_nil]at this
 rw[qk,this];simp;omega
theorem Bk(s:List UInt8):(s.takeWhile eH).all eH=true:=by
 induction s with
 |nil=>rfl
 |cons c s ih =>
  cases h:eH c
  ·simp[List.takeWhile,h]
  ·simp only[List.takeWhile,h,cL,ih];rfl
theorem CL(l r:List E):E.Ac (l++r)↔E.Ac l/\E.Ac r:=by
 induction l with
 |nil=>simp[E.Ac]
 |cons e l ih=>simp[E.Ac,ih,and_assoc]
theorem DA(l r:List E):E.uw (l++r)=max (E.uw l) (E.uw r):=by
 induction l with
 |nil=>simp[E.uw]
 |cons e l ih=>simp[E.uw,ih,Nat.max_assoc]
theorem xS{k:Nat}{f:List UInt8->Option (E×List UInt8)}(hf:∀s e r,f s=some (e,r)->s=eG e++r/\e.pr/\e.dp<=k):∀(n:Nat) (s:List UInt8) (acc:List E) (e:E) (r:List UInt8),rV f n s acc=some (e,r)->E.Ac acc->E.uw acc<=k ->
 ∃l,e=.list (acc++l)/\l≠[]/\32::s=dS l++41::r/\E.Ac l/\E.uw l<=k
 |0,s,acc,e,r,h,hp,hd=>by cases h
 |
  n+1,s,acc,e,r,h,hp,hd=>by
  simp only[rV]at h
  split at h
  ·rename_i p c r' hs
   obtain⟨h1,h2,h3⟩:=hf _ _ _ hs
   split at h
   ·rename_i hc
    have hc:c=41:=dE.mp hc
    cases h
    exact⟨[p],rfl,by simp,by simp[dS,h1,hc],⟨h2,trivial⟩,by simp[E.uw];omega⟩
   ·split at h
    ·rename_i hc
     have hc:c=32:=dE.mp hc
     obtain⟨l,g1,g2,g3,g4,g5⟩:=xS hf n _ _ _ _ h ((CL _ _).mpr ⟨hp,h2,trivial⟩) (by rw[DA];simp[E.uw];omega)
     refine⟨p::l,by simpa using g1,by simp,?_,⟨h2,g4⟩,by simp only[E.uw];omega⟩
     rw[h1,hc,g3];simp[dS]
    ·cases h
  ·cases h
theorem Bt:∀(k:Nat) (s:List UInt8) (e:E) (r:List UInt8),rd k s=some (e,r)->s=eG e++r/\e.pr/\e.dp<=k
 |
  0,s,e,r,h=>by
  simp only[rd]at h
  split at h
  ·cases h
  ·rename_i hs;cases h
   exact⟨(bS).symm,⟨hs,Bk s⟩,aq _⟩
 |
  k+1,s,e,r,h=>by
  simp only[rd]at h
  split at h
  ·split at h
   ·rename_i c r' _
    split at h
    ·rename_i hc
     have hc:c=40:=dE.mp hc
     obtain⟨l,g1,g2,g3,g4,g5⟩:=xS (k:=k) (fun s e r h=>Bt k s e r h) _ _ _ _ _ h trivial (dr _)
     simp only[aQ]at g1
     subst g1;subst hc
     refine⟨?_,⟨g2,g4⟩,by simp only[E.dp];omega⟩
     cases l with
     |nil=>exact absurd rfl g2
     |
      cons x l =>
      simp only[dS,bz,aS,List.cons.injEq,true_and]at g3
      rw[g3];simp[eG]
    ·cases h
   ·cases h
  ·rename_i hs;cases h
   exact⟨(bS).symm,⟨hs,Bk s⟩,by simp[E.dp]⟩
theorem yf{s:List UInt8}{e:E}(h:qk s=some e):s=eG e/\e.pr/\e.dp<=300/\s.length<=8000:=by
 unfold qk at h
 split at h
 ·cases h
 ·rename_i hl
  split at h
  ·rename_i e' hr
   cases h
   have:=Bt _ _ _ _ hr
   exact⟨by simpa using this.1,this.2.1,this.2.2,by omega⟩
  ·cases h
theorem AH{k:Nat}(h:k<10):eH (a8 (48+k))=true:=by
 have:∀k:Fin 10,eH (a8 (48+k.val))=true:=by decide
 exact this ⟨k,h⟩
theorem we:∀(n k:Nat),k<n->(dd k).all eH=true
 |0,k,h=>by omega
 |
  n+1,k,h=>by
  by_cases hk:k<10
  ·rw[ep hk,cL,AH hk];rfl
  ·rw[fD hk]
   have:=we n (k/10) (by omega)
   rw[List.all_append,this,cL,AH (dW k (by omega:0<10))];rfl
theorem Gd(k:Nat):(E.atom (vX k)).pr:=⟨by simp,by have:=we (k+1) k (by omega);simp only[vX,cL,this];decide⟩
theorem mn:∀v:Vl,v.db.pr
 | .u=>⟨by simp,by decide⟩
 | .el k=>Gd k
 | .l v=>⟨by simp,⟨by simp,by decide⟩,mn v,trivial⟩
 | .r v=>⟨by simp,⟨by simp,by decide⟩,mn v,trivial⟩
 | .f v=>⟨by simp,⟨by simp,by decide⟩,mn v,trivial⟩
 | .p a b=>⟨by simp,⟨by simp,by decide⟩,mn a,mn b,trivial⟩
theorem px:∀v:Vl,v.db.dp<v.nodes+1
 | .u=>by simp[Vl.db,E.dp,Vl.nodes]
 | .el k=>by simp[Vl.db,E.dp,Vl.nodes]
 | .l v=>by have:=px v;simp only[Vl.db,E.dp,E.uw,Vl.nodes]at *;omega
 | .r v=>by have:=px v;simp only[Vl.db,E.dp,E.uw,Vl.nodes]at *;omega
 | .f v=>by have:=px v;simp only[Vl.db,E.dp,E.uw,Vl.nodes]at *;omega
 | .p a b=>by have:=px a;have:=px b;simp only[Vl.db,E.dp,E.uw,Vl.nodes]at *;omega
theorem Cp(k:Nat)(h:k<100):(dd k).length<=2:=by
 by_cases hk:k<10
 ·rw[ep hk];simp
 ·rw[fD hk,ep (by omega:k/10<10)];simp
theorem kB:∀v:Vl,v.jf 100->v.dT.length<=5*v.nodes
 | .u,_=>by simp[Vl.dT,Vl.db,eG,Vl.nodes]
 |
  .el k,h=>by
  have:=Cp k h
  simp only[Vl.dT,Vl.db,eG,Vl.nodes,au];omega
 | .l v,h=>by have:=kB v h;simp only[Vl.dT,Vl.db,eG,dS,Vl.nodes,au,al,aG]at this |-;omega
 | .r v,h=>by have:=kB v h;simp only[Vl.dT,Vl.db,eG,dS,Vl.nodes,au,al,aG]at this |-;omega
 | .f v,h=>by have:=kB v h;simp only[Vl.dT,Vl.db,eG,dS,Vl.nodes,au,al,aG]at this |-;omega
 | .p a b,h=>by have:=kB a h.1;have:=kB b h.2;simp only[Vl.dT,Vl.db,eG,dS,Vl.nodes,au,al,aG]at *;omega
theorem Hh(k:Nat):vX k≠[117]:=by simp[vX]
theorem ki:∀v:Vl,v.jf 100->fw v.db=some v
 | .u,_=>by simp[Vl.db,fw]
 | .el k,h=>by simp only[Vl.db,fw,Hh,if_false,uR k h]
 | .l v,h=>by simp only[Vl.db,fw,ki v h,E.at];simp
 | .r v,h=>by simp only[Vl.db,fw,ki v h,E.at];simp
 | .f v,h=>by simp only[Vl.db,fw,ki v h,E.at];simp
 | .p a b,h=>by simp only[Vl.db,fw,ki a h.1,ki b h.2,E.at];simp
theorem yw{v:Vl}(h:v.jf 100)(hn:v.nodes<=200):sa v.dT=some v:=by
 have hd:=px v
 have hl:=kB v h
 rw[sa,Hv (mn v) (by omega) (by show v.dT.length<=8000;omega)]
 simp only[ki v h]
 rw[if_neg (by omega)]
theorem xV{v w:Vl}(h:v.jf 100)(h':w.jf 100)(ht:v.dT=w.dT):v=w:=by
 have:=Br (mn v) (mn w) ht
 have a:=ki v h
 rw[this,ki w h']at a;cases a;rfl
theorem nN{s:List UInt8}{v:Vl}(h:sa s=some v):s=v.dT:=(yf (lf h).1).1
end Go.Proofs.Trees
namespace Go.Proofs.Trees
open Go Go.VL Go.RowKit
theorem df(l:List E):(E.list l).at=[]:=rfl
def fZ:Ty->Vl->Vl->Vl
 | .plus a _,.l c,v=>.l (fZ a c v)
 | .plus _ b,.r c,v=>.r (fZ b c v)
 | .times a _,.l (.p x y),v=>.p (fZ a x v) y
 | .times _ b,.r (.p x y),v=>.p x (fZ b y v)
 | .rc a,.f (.l x),v=>.f (fZ a x v)
 | .rc a,.f (.r (.p x y)),v=>.f (fZ a x (fZ (.rc a) y v))
 |_,_,v=>v
def iB:Ty->Vl->Bool
 | .plus a _,.l c=>iB a c
 | .plus _ b,.r c=>iB b c
 | .times a _,.l (.p x _)=>iB a x
 | .times _ b,.r (.p _ y)=>iB b y
 | .rc a,.f (.l x)=>iB a x
 | .rc a,.f (.r (.p x y))=>iB a x&&iB (.rc a) y
 | .plus _ _,_=>false
 | .times _ _,_=>false
 | .rc _,_=>false
 |_,_=>true
theorem sN(s:List UInt8)(c v:Vl):fZ (.name s) c v=v:=by cases c<;>rfl
theorem BE(m:Nat)(t:Ty)(c v:Vl):c.jf m->v.jf m->(fZ t c v).jf m:=by
 induction t,c,v using fZ.induct with
 |case1 a b c v ih=>exact fun h h'=>ih h h'
 |case2 a b c v ih=>exact fun h h'=>ih h h'
 |case3 a b x y v ih=>exact fun h h'=>⟨ih h.1 h',h.2⟩
 |case4 a b x y v ih=>exact fun h h'=>⟨h.1,ih h.2 h'⟩
 |case5 a x v ih=>exact fun h h'=>ih h h'
 |case6 a x y v ih1 ih2=>exact fun h h'=>ih2 h.1 (ih1 h.2 h')
 |case7=>intro h h';simpa only[fZ]using h'
def HT:Hl:=(.u,.u)
end Go.Proofs.Trees
namespace Go.Proofs.Trees
open Go Go.VL Go.RowKit
theorem rU(s:Nm)(a b:E):ap Tryz.prog 71 [.agg [.v (.string (mk [])),(E.list [.atom s,a,b]).sp]] [] (bH (.v (.string (mk s)))):=vY (.atom s) [a,b]
theorem MO{e:E}(h:Wf e):∀(bd l:List Nm) (a:AV),cZ a bd->bd.length+l.length+e.sz<100000->ap Tryz.prog 98 [.agg [.v (.string (mk e.at)),e.sp],a,.vec 0] [.vec 1 (bw l)] (cN (.vec 1) [.dead,.vec 1 (bw (lV e bd l))]):=by
 induction h with
 |
  @atom s hs =>
  intro bd l a ha hl
  simp only[E.sz]at hl
  refine zm _ _ _ _ ((bf _).mpr trivial) ha.1 ?_
  have hll:(bw l).length=l.length:=by simp[bw]
  simp only[wN,eB,↓zq,zs,ae,zt,cN,lV]
  refine⟨fun _=>⟨fun h=>?_,fun h=>⟨fun h1=>?_,fun h1=>?_⟩⟩,fun h=>absurd h hs⟩
  ·rw[if_pos (.inl h)]
  ·rw[if_pos (.inr (.inl h1))]
  ·refine an (yF bd a ha s (by omega)) ?_
   simp only[↓zq,zs,ae]
   refine⟨fun h2=>?_,fun h2=>an (yF l _ (.of l) s (by omega)) ?_⟩
   ·rw[if_pos (.inr (.inr (.inl h2)))]
   ·simp only[↓zq,zs,ae]
    refine⟨fun h3=>?_,fun h3=>⟨⟨fun c hc=>(by simp at hc;rw[hc];rfl),by omega⟩,?_⟩⟩
    ·rw[if_pos (.inr (.inr (.inr h3)))]
    ·rw[BS,if_neg]
     rintro(q|q|q|q)
     ·exact h q
     ·exact h1 q
     ·exact h2 q
     ·exact h3 q
 |
  @plus x y hx hy i1 i2 =>
  intro bd l a ha hl
  simp only[E.sz,E.ji]at hl
  have hfl:=ij x bd l
  refine zm _ _ _ _ ((bf _).mpr trivial) ha.1 ?_
  have hP:=P3.of (.atom [43]) x y
  simp only[wN,df,toNat_one,bq,↓zq,zs,ae,zt,hP.1,hP.2.1,hP.2.2.1,hP.2.2.2,aT,cN]
  refine⟨fun h=>absurd rfl h,fun _=>?_⟩
  refine an (rU [43] x y) ?_
  simp only[↓zq,zs,ae,zt]
  refine⟨fun h=>by simp at h,fun _=>?_⟩
  repeat refine⟨by omega,?_⟩
  refine a7 (i1 bd l a ha (by omega)) ?_
  simp only[↓zq,zs,ae,zt,bc,bF,Ob.es]
  repeat refine⟨by omega,?_⟩
  refine a7 (i2 bd (lV x bd l) a ha (by omega)) ?_
  simp only[↓zq,zs,ae,zt,bc,bF,Ob.es]
  rw[lV,if_neg (by decide)]
 |
  @times x y hx hy i1 i2 =>
  intro bd l a ha hl
  simp only[E.sz,E.ji]at hl
  have hfl:=ij x bd l
  refine zm _ _ _ _ ((bf _).mpr trivial) ha.1 ?_
  have hP:=P3.of (.atom [42]) x y
  simp only[wN,df,toNat_one,bq,↓zq,zs,ae,zt,hP.1,hP.2.1,hP.2.2.1,hP.2.2.2,aT,cN]
  refine⟨fun h=>absurd rfl h,fun _=>?_⟩
  refine an (rU [42] x y) ?_
  simp only[↓zq,zs,ae,zt]
  refine⟨fun h=>by simp at h,fun _=>?_⟩
  repeat refine⟨by omega,?_⟩
  refine a7 (i1 bd l a ha (by omega)) ?_
  simp only[↓zq,zs,ae,zt,bc,bF,Ob.es]
  repeat refine⟨by omega,?_⟩
  refine a7 (i2 bd (lV x bd l) a ha (by omega)) ?_
  simp only[↓zq,zs,ae,zt,bc,bF,Ob.es]
  rw[lV,if_neg (by decide)]
 |
  @rc n y hn hy i =>
  intro bd l a ha hl
  simp only[E.sz,E.ji]at hl
  refine zm _ _ _ _ ((bf _).mpr trivial) ha.1 ?_
  have hP:=P3.of (.atom ic) (.atom n) y
  simp only[wN,df,toNat_one,bq,↓zq,zs,ae,zt,hP.1,hP.2.1,hP.2.2.1,hP.2.2.2,aT,cN]
  refine⟨fun h=>absurd rfl h,fun _=>?_⟩
  refine an (rU ic (.atom n) y) ?_
  simp only[↓zq,zs,ae,zt]
  refine⟨fun _=>?_,fun h=>absurd rfl h⟩
  repeat refine⟨by omega,?_⟩
  refine an (yE bd a ha n (by omega)) ?_
  simp only[↓zq,zs,ae]
  refine a7 (i (bd++[n]) l _ (.of _) (by simp;omega)) ?_
  simp only[↓zq,zs,ae,bc,bF,Ob.es]
  rw[lV,if_pos (eB _)];rfl
theorem PT(x:Nm)(u:E){e:E}(h:Wf e):ap Tryz.prog 161 [.agg [.v (.string (mk e.at)),e.sp],.v (.string (mk x)),.agg [.v (.string (mk u.at)),u.sp]] [] (bH (.agg [.v (.string (mk (qF x u e).at)),(qF x u e).sp])):=by
 induction h with
 |
  @atom s hs =>
  refine Du _ _ _ _ _ ((bf _).mpr trivial) ((bf _).mpr trivial) ?_
  simp only[Aw,eB,↓zq,zs,ae,zt,bH,qF]
  refine⟨fun _=>⟨fun h=>?_,fun h=>?_⟩,fun h=>absurd h hs⟩
  ·rw[if_pos h]
  ·rw[if_neg h];rfl
 |
  @plus a b ha hb i1 i2 =>
  refine Du _ _ _ _ _ ((bf _).mpr trivial) ((bf _).mpr trivial) ?_
  have hP:=P3.of (.atom [43]) a b
  simp only[Aw,df,toNat_one,bq,↓zq,zs,ae,zt,hP.1,hP.2.1,hP.2.2.1,hP.2.2.2,aT]
  refine⟨fun h=>absurd rfl h,fun _=>?_⟩
  refine an (rU [43] a b) ?_
  simp only[↓zq,zs,ae,zt]
  refine⟨fun h=>by simp at h,fun _=>?_⟩
  refine an (rU [43] a b) ?_
  simp only[↓zq,zs,ae,zt]
  repeat refine⟨by omega,?_⟩
  refine an i1 ?_
  simp only[↓zq,zs,ae,zt,aT]
  repeat refine⟨by omega,?_⟩
  refine an i2 ?_
  simp only[↓zq,zs,ae,zt,aT]
  repeat refine⟨by omega,?_⟩
  refine an (BU _ _ _) ?_
  simp only[↓zq,zs,ae,zt,aT,vf,df]
  repeat refine⟨by omega,?_⟩
  exact⟨rfl,rfl⟩
 |
  @times a b ha hb i1 i2 =>
  refine Du _ _ _ _ _ ((bf _).mpr trivial) ((bf _).mpr trivial) ?_
  have hP:=P3.of (.atom [42]) a b
  simp only[Aw,df,toNat_one,bq,↓zq,zs,ae,zt,hP.1,hP.2.1,hP.2.2.1,hP.2.2.2,aT]
  refine⟨fun h=>absurd rfl h,fun _=>?_⟩
  refine an (rU [42] a b) ?_
  simp only[↓zq,zs,ae,zt]
  refine⟨fun h=>by simp at h,fun _=>?_⟩
  refine an (rU [42] a b) ?_
  simp only[↓zq,zs,ae,zt]
  repeat refine⟨by omega,?_⟩
  refine an i1 ?_
  simp only[↓zq,zs,ae,zt,aT]
  repeat refine⟨by omega,?_⟩
  refine an i2 ?_
  simp only[↓zq,zs,ae,zt,aT]
  repeat refine⟨by omega,?_⟩
  refine an (BU _ _ _) ?_
  simp only[↓zq,zs,ae,zt,aT,s3,df]
  repeat refine⟨by omega,?_⟩
  exact⟨rfl,rfl⟩
 |
  @rc n b hn hb i =>
  refine Du _ _ _ _ _ ((bf _).mpr trivial) ((bf _).mpr trivial) ?_
  have hP:=P3.of (.atom ic) (.atom n) b
  simp only[Aw,df,toNat_one,bq,↓zq,zs,ae,zt,hP.1,hP.2.1,hP.2.2.1,hP.2.2.2,aT]
  refine⟨fun h=>absurd rfl h,fun _=>?_⟩
  refine an (rU ic (.atom n) b) ?_
  simp only[↓zq,zs,ae,zt]
  refine⟨fun _=>?_,fun h=>absurd rfl h⟩
  repeat refine⟨by omega,?_⟩
  rw[AG]
  refine⟨fun h=>?_,fun h=>?_⟩
  ·have hh:n=x:=h
   rw[if_pos hh];exact⟨rfl,rfl⟩
  ·have hh:¬n=x:=h
   rw[if_neg hh]
   repeat refine⟨by omega,?_⟩
   refine an i ?_
   simp only[↓zq,zs,ae,zt,aT]
   repeat refine⟨by omega,?_⟩
   refine an (BU ic (.atom n) (qF x u b)) ?_
   simp only[↓zq,zs,ae,zt,aT,df]
   repeat refine⟨by omega,?_⟩
   exact⟨rfl,rfl⟩
theorem rC(x:Nm){e:E}(h:Wf e):mS x e<=e.en:=by
 induction h with
 |atom hs=>simp only[mS,E.en];split<;>omega
 |plus ha hb i1 i2=>rw[rP];simp only[E.en,E.fA];omega
 |times ha hb i1 i2=>rw[ph];simp only[E.en,E.fA];omega
 |rc hn hb i=>rw[wv];simp only[E.en,E.fA];split<;>omega
theorem PA(x:Nm){e:E}(h:Wf e):e.en<1000000->ap Tryz.prog 160 [.agg [.v (.string (mk e.at)),e.sp],.v (.string (mk x))] [] (bH (.v (.int .i64 (mS x e:Int)))):=by
 induction h with
 |
  @atom s hs =>
  intro hl
  refine CW _ _ _ ((bf _).mpr trivial) ?_
  simp only[Ap,eB,↓zq,zs,ae,zt,bH,mS]
  refine⟨fun _=>⟨fun h=>?_,fun h=>?_⟩,fun h=>absurd h hs⟩
  ·rw[if_pos h];rfl
  ·rw[if_neg h];rfl
 |
  @plus a b ha hb i1 i2 =>
  intro hl
  simp only[E.en,E.fA]at hl
  have u1:=rC x ha
  have u2:=rC x hb
  refine CW _ _ _ ((bf _).mpr trivial) ?_
  have hP:=P3.of (.atom [43]) a b
  simp only[Ap,df,toNat_one,bq,↓zq,zs,ae,zt,hP.1,hP.2.1,hP.2.2.1,hP.2.2.2,aT]
  refine⟨fun h=>absurd rfl h,fun _=>?_⟩
  refine an (rU [43] a b) ?_
  simp only[↓zq,zs,ae,zt]
  refine⟨fun h=>by simp at h,fun _=>?_⟩
  repeat refine⟨by omega,?_⟩
  refine an (i1 (by omega)) ?_
  simp only[↓zq,zs,ae,zt]
  repeat refine⟨by omega,?_⟩
  refine an (i2 (by omega)) ?_
  simp only[↓zq,zs,ae,zt]
  rw[rP,wrap64 _ (by omega) (by omega)]
  exact⟨by simp,rfl⟩
 |
  @times a b ha hb i1 i2 =>
  intro hl
  simp only[E.en,E.fA]at hl
  have u1:=rC x ha
  have u2:=rC x hb
  refine CW _ _ _ ((bf _).mpr trivial) ?_
  have hP:=P3.of (.atom [42]) a b
  simp only[Ap,df,toNat_one,bq,↓zq,zs,ae,zt,hP.1,hP.2.1,hP.2.2.1,hP.2.2.2,aT]
  refine⟨fun h=>absurd rfl h,fun _=>?_⟩
  refine an (rU [42] a b) ?_
  simp only[↓zq,zs,ae,zt]
  refine⟨fun h=>by simp at h,fun _=>?_⟩
  repeat refine⟨by omega,?_⟩
  refine an (i1 (by omega)) ?_
  simp only[↓zq,zs,ae,zt]
  repeat refine⟨by omega,?_⟩
  refine an (i2 (by omega)) ?_
  simp only[↓zq,zs,ae,zt]
  rw[ph,wrap64 _ (by omega) (by omega)]
  exact⟨by simp,rfl⟩
 |
  @rc n b hn hb i =>
  intro hl
  simp only[E.en,E.fA]at hl
  refine CW _ _ _ ((bf _).mpr trivial) ?_
  have hP:=P3.of (.atom ic) (.atom n) b
  simp only[Ap,df,toNat_one,bq,↓zq,zs,ae,zt,hP.1,hP.2.1,hP.2.2.1,hP.2.2.2,aT]
  refine⟨fun h=>absurd rfl h,fun _=>?_⟩
  refine an (rU ic (.atom n) b) ?_
  simp only[↓zq,zs,ae,zt]
  refine⟨fun _=>?_,fun h=>absurd rfl h⟩
  repeat refine⟨by omega,?_⟩
  rw[wv]
  refine⟨fun h=>?_,fun h=>?_⟩
  ·have hh:n=x:=h
   rw[if_pos hh];exact⟨rfl,rfl⟩
  ·have hh:¬n=x:=h
   rw[if_neg hh]
   repeat refine⟨by omega,?_⟩
   refine an (i (by omega)) ?_
   simp only[↓zq,zs,ae,zt]
   exact⟨rfl,rfl⟩
theorem P8{x:Nm}(hx:uJ x){e u:E}(h:Wf e)(hu:Wf u)(hl:e.en<=1000)(hlu:u.en<=1000):ap Tryz.prog 142 [.agg [.v (.string (mk e.at)),e.sp],.v (.string (mk x)),.agg [.v (.string (mk u.at)),u.sp]] [] (bH (.v (.bool (decide ((sub x (er u []) (er e [])).aC<=400))))):=by
 refine PD _ _ _ _ _ ((bf _).mpr trivial) ((bf _).mpr trivial) ?_
 unfold K0
 have a1:=H8 e h.ok (by have:=h.sz;omega)
 have a2:=H8 u hu.ok (by have:=hu.sz;omega)
 rw[ei]at a1 a2
 have hle:=rC x h
 have hpos:1<=u.en:=by rw[hu.en []];exact fV _
 refine an a1 ?_
 simp only[↓zq,zs,ae,zt]
 refine an (PA x h (by omega)) ?_
 simp only[↓zq,zs,ae,zt]
 refine an a2 ?_
 simp only[↓zq,zs,ae,zt]
 have e1:=dK x (er u []) (er e [])
 have e2:=B8 hx h []
 rw[if_neg (by simp)]at e2
 rw[e2,<-h.en [],<-hu.en []]at e1
 have hm:mS x e*(u.en-1)<=1000*1000:=Nat.mul_le_mul (by omega) (by omega)
 have e3:(mS x e:Int)*((u.en:Int)-1)=((mS x e*(u.en-1):Nat):Int):=by
  rw[Int.natCast_mul];congr 1;omega
 have e4:mS x e*(u.en-1)+mS x e=mS x e*u.en:=by
  rw[Nat.mul_sub,dQ]
  have:=Nat.le_mul_of_pos_right (mS x e) hpos
  omega
 rw[wrap64 ((u.en:Int)-1) (by omega) (by omega),e3,wrap64 ((mS x e*(u.en-1):Nat):Int) (by omega) (by omega),wrap64 _ (by omega) (by omega)]
 refine⟨?_,rfl⟩
 congr 2
 rw[cq,decide_eq_true_eq,decide_eq_true_eq]
 omega
end Go.Proofs.Trees
namespace Go.Proofs.Trees
open Go Go.VL Go.RowKit
abbrev Hd:AV:=.v (.slice none 0 0)
abbrev zE:Ob:=.cells [.v (.string (mk [])),Hd]
theorem Mh(s:Nm)(p a b:AV)(hp:LK.sl.has p)(F fr to:List Nm)(k:Int)(ha:cZ a fr)(hb:cZ b to)(hft:fr.length=to.length)(hl:fr.length<1000000):∀(i:Nat),i<=fr.length ->
 EV [a,b,.v (.int .i64 ((i:Int)-1))] [.cells [.v (.string (mk s)),p],zE,.cells [.any,.v (.int .i64 k)],.vec 1 (bw F)]
  (ru (match bK s fr i with|some u=>(2,[],[.cells [.v (.string (mk (gy to u))),Hd],.cells [.any,.v (.int .i64 k)],.vec 1 (bw F)])|none=>(1,[],[.cells [.v (.string (mk s)),p],zE,.cells [.any,.v (.int .i64 k)],.vec 1 (bw F)])))
 |
  0,hi=>by
  refine M7 _ _ _ _ _ _ _ _ _ ?_
  simp only[FU,↓zq,zs,ae,ae,hp,be]
  exact⟨ha.1,hb.1,fun h=>by omega,fun _=>rfl⟩
 |
  i+1,hi=>by
  have hlt:i<fr.length:=by omega
  have hlt':i<to.length:=by omega
  have e1:((i+1:Nat):Int)-1=(i:Int):=by omega
  rw[e1]
  refine M7 _ _ _ _ _ _ _ _ _ ?_
  simp only[FU,↓zq,zs,ae,zt,ae,hp,be,ha.len,hb.len,ha.idx hlt,hb.idx hlt',bB]
  refine⟨ha.1,hb.1,fun _=>⟨⟨ha.1,by omega,by omega⟩,by omega,fun h=>?_,fun h=>?_⟩,fun h=>by omega⟩
  ·refine⟨⟨hb.1,by omega,by omega⟩,by omega,?_⟩
   have hh:fr.getD i []=s:=h
   simp only[bK,hh,if_true,ru]
   have:gy to (fr.length-1-i)=to.getD i []:=by unfold gy;congr 1;omega
   rw[this]
  ·have hh:¬fr.getD i []=s:=h
   simp only[bK,hh,if_false]
   rw[wrap64 _ (by omega) (by omega)]
   exact Mh s p a b hp F fr to k ha hb hft hl i (by omega)
theorem KF(a b:AV)(ha:LK.sl.has a)(hb:LK.sl.has b)(F:List Nm)(hF:F.length<100000)(t:ByteArray)(p:AV)(hp:LK.sl.has p):∀(n j:Nat),rY F n j<j+n->j+n<100000000 ->
 FE [a,b,.v (.string (mk (tN j)))] [.cells [.any,.v (.int .i64 (j:Int))],.vec 1 (bw F),.cells [.v (.string t),p],zE] (ga 1 [a,b,.v (.string (mk (tN (rY F n j))))] [.cells [.any,.v (.int .i64 (rY F n j:Int))],.vec 1 (bw F),.cells [.v (.string t),p],zE])
 |0,j,h,_=>by simp only[rY]at h;omega
 |
  n+1,j,h,hj=>by
  refine Pm _ _ _ _ _ _ _ _ _ ?_
  simp only[Mz,↓zq,zs,ae,zt,ae,hp,be]
  refine⟨ha,hb,?_⟩
  refine an (yF F _ (.of F) (tN j) (by omega)) ?_
  simp only[↓zq,zs,ae,zt]
  rw[rY]at h |-
  refine⟨fun hm=>?_,fun hm=>?_⟩
  ·rw[if_pos hm]at h |-
   rw[bh j (by omega)]
   refine an (Cn (j+2) (j+1) (by omega) (by omega)) ?_
   have hd:=pB (j+2) (j+1) (by omega)
   simp only[↓zq,zs,ae,zt,bz,aQ]
   refine⟨by simp[cX];omega,?_⟩
   exact KF a b ha hb F hF t p hp n (j+1) (by omega) (by omega)
  ·rw[if_neg hm]
   exact⟨rfl,rfl,rfl⟩
theorem jk(F:List Nm):∀(t:Ty) (to:List Nm) (k:Nat),k<=(iY F t to k).2/\(iY F t to k).2<=k+(F.length+1)*t.aC
 | .zero,_,k=>⟨aq _,cM _ _⟩
 | .one,_,k=>⟨aq _,cM _ _⟩
 | .name _,_,k=>⟨aq _,cM _ _⟩
 | .bO _,_,k=>⟨aq _,cM _ _⟩
 |
  .plus a b,to,k=>by
  have h1:=jk F a to k
  have h2:=jk F b to (iY F a to k).2
  simp only[iY,Ty.aC]
  have:(F.length+1)*(1+a.aC+b.aC)=(F.length+1)+(F.length+1)*a.aC+(F.length+1)*b.aC:=by simp only[da,dQ]
  omega
 |
  .times a b,to,k=>by
  have h1:=jk F a to k
  have h2:=jk F b to (iY F a to k).2
  simp only[iY,Ty.aC]
  have:(F.length+1)*(1+a.aC+b.aC)=(F.length+1)+(F.length+1)*a.aC+(F.length+1)*b.aC:=by simp only[da,dQ]
  omega
 |
  .rc a,to,k=>by
  obtain⟨g1,g2,_,_⟩:=lM F k
  have h1:=jk F a (to++[tN (nx F k)]) (nx F k+1)
  simp only[iY,Ty.aC]
  have:(F.length+1)*(2+a.aC)=(F.length+1)*2+(F.length+1)*a.aC:=by simp only[da]
  omega
theorem mo(l:List Nm):(bw l).length=l.length:=by simp[bw]
theorem Qx(F:List Nm)(hF:F.length<10000){e:E}(h:Wf e):∀(fr to:List Nm) (a b:AV) (k:Nat),cZ a fr->cZ b to->fr.length=to.length->(∀w,w∈fr->uJ w)->fr.length+e.sz<10000->k+(F.length+1)*(er e fr).aC<99000000 ->
 ap Tryz.prog 112 [.agg [.v (.string (mk e.at)),e.sp],a,b,.ref 0 0] [.cells [.vec 1,.v (.int .i64 (k:Int))],.vec 1 (bw F)] (cN (.agg [.v (.string (mk (iY F (er e fr) to k).1.at)),(iY F (er e fr) to k).1.sp]) [.cells [.vec 1,.v (.int .i64 ((iY F (er e fr) to k).2:Int))],.vec 1 (bw F)]):=by
 induction h with
 |
  @atom s hs =>
  intro fr to a b k ha hb hft hfr hl hk
  simp only[E.sz]at hl
  refine CO _ _ _ _ _ _ ((bf _).mpr trivial) ha.1 hb.1 ?_
  have hz:∀c,(c=[48]\/c=[49])->bK c fr fr.length=none:=fun c hc=>(fO c fr).2 fun hm=>by
   obtain⟨h1,h2,h3⟩:=hfr c hm
   rcases hc with rfl|rfl
   ·exact h2 rfl
   ·exact h3 rfl
  have hq:iY F (er (.atom s) fr) to k=(match bK s fr fr.length with|some u=>.atom (gy to u)|none=>.atom s,k):=by
   simp only[er]
   by_cases h0:s=[48]
   ·rw[if_pos h0,hz s (.inl h0),h0];rfl
   ·rw[if_neg h0]
    by_cases h1:s=[49]
    ·rw[if_pos h1,hz s (.inr h1),h1];rfl
    ·rw[if_neg h1]
     cases bK s fr fr.length<;>rfl
  simp only[Aj,eB,↓zq,zs,ae,zt]
  refine⟨fun _=>⟨ha.1,?_⟩,fun h=>absurd h hs⟩
  rw[ha.len,wrap64 _ (by omega) (by omega)]
  refine hH (Mh s _ a b ((bf _).mpr trivial) F fr to (k:Int) ha hb hft (by omega) fr.length (aq _)) (fun ys o e=>?_) (fun ys o e=>?_)
  ·rw[hq]
   cases q:bK s fr fr.length<;>rw[q]at e<;>cases e
   simp only[↓zq,zs,ae,zt,ae,aK,be,bf]
   exact⟨rfl,rfl⟩
  ·rw[hq]
   cases q:bK s fr fr.length<;>rw[q]at e<;>cases e
   simp only[↓zq,zs,ae,zt,ae,aK,be]
   exact⟨rfl,rfl⟩
 |
  @plus x y hx hy i1 i2 =>
  intro fr to a b k ha hb hft hfr hl hk
  simp only[E.sz,E.ji]at hl
  rw[fh]at hk |-
  simp only[Ty.aC]at hk
  have hm:(F.length+1)*(1+(er x fr).aC+(er y fr).aC)=(F.length+1)+(F.length+1)*(er x fr).aC+(F.length+1)*(er y fr).aC:=by simp only[da,dQ]
  have hc:=jk F (er x fr) to k
  refine CO _ _ _ _ _ _ ((bf _).mpr trivial) ha.1 hb.1 ?_
  have hP:=P3.of (.atom [43]) x y
  simp only[Aj,df,toNat_one,bq,↓zq,zs,ae,zt,hP.1,hP.2.1,hP.2.2.1,hP.2.2.2,aT]
  refine⟨fun h=>absurd rfl h,fun _=>?_⟩
  refine an (rU [43] x y) ?_
  simp only[↓zq,zs,ae,zt]
  refine⟨fun h=>by simp at h,fun _=>?_⟩
  repeat refine⟨by omega,?_⟩
  refine a7 (i1 fr to a b k ha hb hft hfr (by omega) (by omega)) ?_
  simp only[↓zq,zs,ae,zt,aK,aT,bc,bF,Ob.es]
  repeat refine⟨by omega,?_⟩
  refine an (rU [43] x y) ?_
  simp only[↓zq,zs,ae,zt]
  repeat refine⟨by omega,?_⟩
  refine a7 (i2 fr to a b _ ha hb hft hfr (by omega) (by omega)) ?_
  simp only[↓zq,zs,ae,zt,aK,aT,bc,bF,Ob.es]
  repeat refine⟨by omega,?_⟩
  refine an (BU _ _ _) ?_
  simp only[↓zq,zs,ae,zt,aT,df]
  repeat refine⟨by omega,?_⟩
  exact⟨rfl,rfl⟩
 |
  @times x y hx hy i1 i2 =>
  intro fr to a b k ha hb hft hfr hl hk
  simp only[E.sz,E.ji]at hl
  rw[eu]at hk |-
  simp only[Ty.aC]at hk
  have hm:(F.length+1)*(1+(er x fr).aC+(er y fr).aC)=(F.length+1)+(F.length+1)*(er x fr).aC+(F.length+1)*(er y fr).aC:=by simp only[da,dQ]
  have hc:=jk F (er x fr) to k
  refine CO _ _ _ _ _ _ ((bf _).mpr trivial) ha.1 hb.1 ?_
  have hP:=P3.of (.atom [42]) x y
  simp only[Aj,df,toNat_one,bq,↓zq,zs,ae,zt,hP.1,hP.2.1,hP.2.2.1,hP.2.2.2,aT]
  refine⟨fun h=>absurd rfl h,fun _=>?_⟩
  refine an (rU [42] x y) ?_
  simp only[↓zq,zs,ae,zt]
  refine⟨fun h=>by simp at h,fun _=>?_⟩
  repeat refine⟨by omega,?_⟩
  refine a7 (i1 fr to a b k ha hb hft hfr (by omega) (by omega)) ?_
  simp only[↓zq,zs,ae,zt,aK,aT,bc,bF,Ob.es]
  repeat refine⟨by omega,?_⟩
  refine an (rU [42] x y) ?_
  simp only[↓zq,zs,ae,zt]
  repeat refine⟨by omega,?_⟩
  refine a7 (i2 fr to a b _ ha hb hft hfr (by omega) (by omega)) ?_
  simp only[↓zq,zs,ae,zt,aK,aT,bc,bF,Ob.es]
  repeat refine⟨by omega,?_⟩
  refine an (BU _ _ _) ?_
  simp only[↓zq,zs,ae,zt,aT,df]
  repeat refine⟨by omega,?_⟩
  exact⟨rfl,rfl⟩
 |
  @rc n y hn hy i =>
  intro fr to a b k ha hb hft hfr hl hk
  simp only[E.sz,E.ji]at hl
  rw[jh]at hk |-
  simp only[Ty.aC,eB]at hk
  have hm:(F.length+1)*(2+(er y (fr++[n])).aC)=(F.length+1)*2+(F.length+1)*(er y (fr++[n])).aC:=by simp only[da]
  have hc:=jk F (er y (fr++[n])) (to++[tN (nx F k)]) (nx F k+1)
  obtain⟨g1,g2,_,_⟩:=lM F k
  refine CO _ _ _ _ _ _ ((bf _).mpr trivial) ha.1 hb.1 ?_
  have hP:=P3.of (.atom ic) (.atom n) y
  simp only[Aj,df,toNat_one,bq,↓zq,zs,ae,zt,hP.1,hP.2.1,hP.2.2.1,hP.2.2.2,aT]
  refine⟨fun h=>absurd rfl h,fun _=>?_⟩
  refine an (rU ic (.atom n) y) ?_
  simp only[↓zq,zs,ae,zt]
  refine⟨fun _=>?_,fun h=>absurd rfl h⟩
  refine an (Cn (k+1) k (by omega) (by omega)) ?_
  have hd:=pB (k+1) k (by omega)
  simp only[↓zq,zs,ae,zt,bz,aQ]
  refine⟨by simp[cX];omega,?_⟩
  refine cb (KF a b ha.1 hb.1 F (by omega) (mk []) _ ((bf _).mpr trivial) (F.length+1) k (by show nx F k<_;omega) (by omega)) ?_
  simp only[↓zq,zs,ae,zt,ae,aK,be,bf,ha.1,hb.1,hP.1,hP.2.1,hP.2.2.1,hP.2.2.2,toNat_one,bq,aT]
  repeat refine⟨by omega,?_⟩
  have hnx:rY F (F.length+1) k=nx F k:=rfl
  rw[hnx]
  refine an (yE fr a ha n (by omega)) ?_
  simp only[↓zq,zs,ae,zt]
  refine an (yE to b hb (tN (nx F k)) (by omega)) ?_
  simp only[↓zq,zs,ae,zt]
  rw[bh (nx F k) (by omega)]
  have hmk:=BU ic (.atom (tN (nx F k))) (iY F (er y (fr++[n])) (to++[tN (nx F k)]) (nx F k+1)).1
  simp only[eB]at hmk
  refine a7 (i (fr++[n]) (to++[tN (nx F k)]) _ _ (nx F k+1) (.of _) (.of _) (by simp[hft]) (fun w hw=>by
   rcases aM.1 hw with hw|hw
   ·exact hfr w hw
   ·simp only[aU]at hw;rw[hw];exact hn) (by simp;omega) (by omega)) ?_
  simp only[↓zq,zs,ae,zt,aK,aT,bc,bF,Ob.es]
  repeat refine⟨by omega,?_⟩
  refine an hmk ?_
  simp only[↓zq,zs,ae,zt,aT,df]
  repeat refine⟨by omega,?_⟩
  exact⟨rfl,rfl⟩
theorem wE(l r:List Nm):bw (l++r)=bw l++bw r:=by simp[bw]
def sc(os:List E):List Nm:=os.flatMap fun o=>lV o [] []
theorem vm{os:List E}{i:Nat}(h:i<os.length):(E.bj os).getD i []=[.v (.string (mk (os[i]).at)),(os[i]).sp]:=by
 have:∀(os:List E) (i:Nat) (h:i<os.length),(E.bj os).getD i []=(os[i]).hJ:=by
  intro os
  induction os with
  |nil=>intro i h;simp at h
  |
   cons o os ih =>
   intro i h
   cases i with
   |zero=>simp[E.bj]
   |succ i=>simpa[E.bj]using ih i (by simpa using h)
 rw[this os i h,iJ]
theorem yD(os:List E){i:Nat}(h:i<os.length):sc (os.drop i)=lV (os[i]) [] []++sc (os.drop (i+1)):=by
 unfold sc;rw[aL h,cP]
theorem HX(a:AV)(os:List E)(ha:LK.sl.has a/\a.aO=E.bj os)(ho:∀o,o∈os->Wf o/\o.sz<5000)(hl:os.length<100)(t:ByteArray)(p:AV)(hp:LK.sl.has p):∀(k i:Nat) (F:List Nm),i+k=os.length->F.length<=5000+5000*i ->
 FB [a,.v (.int .i64 (i:Int))] [.cells [.v (.string t),p],zE,.vec 1 (bw F)] (ga 1 [] [.cells [.v (.string t),p],zE,.vec 1 (bw (F++sc (os.drop i)))])
 |
  0,i,F,hi,hF=>by
  refine Ig _ _ _ _ _ _ _ ?_
  have:i=os.length:=by omega
  subst this
  simp only[G2,↓zq,zs,ae,zt,ae,hp,be,ha.1,ha.2,dO,List.drop_length]
  exact⟨fun h=>by omega,fun _=>by simp[ga,sc]⟩
 |
  k+1,i,F,hi,hF=>by
  have hlt:i<os.length:=by omega
  obtain⟨hw,hsz⟩:=ho _ (bE hlt)
  have hfl:=ij (os[i]) [] []
  refine Ig _ _ _ _ _ _ _ ?_
  simp only[G2,↓zq,zs,ae,zt,ae,hp,be,ha.1,ha.2,dO,vm hlt,aT,bB]
  refine⟨fun _=>?_,fun h=>by omega⟩
  repeat refine⟨by omega,?_⟩
  have hfre:=MO hw [] [] (.sl []) (.of []) (by simp;omega)
  refine a7 hfre ?_
  simp only[↓zq,zs,ae,zt,bc,bF,Ob.es,mo,<-wE]
  rw[bh i (by omega),yD os hlt,<-aS]
  simp only[aG,aW]at hfl
  refine⟨⟨kb _,by omega⟩,?_⟩
  exact HX a os ha ho hl t p hp k (i+1) _ (by omega) (by simp;omega)
def EF(e:E)(os:List E):List Nm:=lV e [] []++sc os
def Eb(e:E)(os:List E):E:=(iY (EF e os) (er e []) [] 0).1
theorem Dk{e:E}{os:List E}(h:e.sz<=2000)(ho:∀o,o∈os->Wf o/\o.sz<=2000)(hl:os.length<=2):(EF e os).length<=6000:=by
 have h1:=ij e [] []
 have h2:∀(l:List E),(∀o,o∈l->o.sz<=2000)->(sc l).length<=2000*l.length:=by
  intro l
  induction l with
  |nil=>intro _;simp[sc]
  |
   cons o l ih =>
   intro hl
   have:=ih fun q hq=>hl q (ak _ hq)
   have:=hl o ai
   have:=ij o [] []
   simp only[sc,cP,al,au,aG]at *
   omega
 have:=h2 os fun o ho'=>(ho o ho').2
 simp only[EF,al,aG]at *
 omega
theorem L7{e:E}(h:Wf e)(a:AV)(os:List E)(ha:LK.sl.has a/\a.aO=E.bj os)(he:e.sz<=2000)(ho:∀o,o∈os->Wf o/\o.sz<=2000)(hl:os.length<=2) :
 ap Tryz.prog 83 [.agg [.v (.string (mk e.at)),e.sp],a] [] (bH (.agg [.v (.string (mk (Eb e os).at)),(Eb e os).sp])):=by
 refine N6 _ _ _ ((bf _).mpr trivial) ha.1 ?_
 unfold L4
 have hfl:=ij e [] []
 simp only[aG,aW]at hfl
 have hap:=Dk he ho hl
 have hats:(er e []).aC<=2000:=by
  rw[<-h.en []]
  have:e.en<=e.sz:=by
   clear hap hfl ha he ho hl
   induction h with
   |atom _=>simp[E.en,E.sz]
   |plus _ _ i1 i2=>simp only[E.en,E.fA,E.sz,E.ji];omega
   |times _ _ i1 i2=>simp only[E.en,E.fA,E.sz,E.ji];omega
   |rc _ _ i=>simp only[E.en,E.fA,E.sz,E.ji];omega
  omega
 have hfre:=MO h [] [] (.sl []) (.of []) (by simp;omega)
 simp only[↓zq,zs,ae,zt]
 refine a7 hfre ?_
 simp only[↓zq,zs,ae,zt,bc,bF,Ob.es]
 have hlp:=HX a os ha (fun o hq=>⟨(ho o hq).1,by have:=(ho o hq).2;omega⟩) (by omega) (mk e.at) e.sp ((bf _).mpr trivial) os.length 0 (lV e [] []) (by omega) (by omega)
 rw[aX]at hlp
 refine cb hlp ?_
 simp only[↓zq,zs,ae,zt,ae,aK,be,bf,bc,bF,Ob.es]
 have hmul:((EF e os).length+1)*(er e []).aC<=6001*2000:=Nat.mul_le_mul (by omega) hats
 have hren:=Qx (EF e os) (by omega) h [] [] (.sl []) (.sl []) 0 (.of []) (.of []) rfl (fun w hw=>by cases hw) (by simp;omega) (by omega)
 refine a7 hren ?_
 simp only[↓zq,zs,ae,zt,aK,aT]
 repeat refine⟨by omega,?_⟩
 exact⟨rfl,rfl⟩
end Go.Proofs.Trees
namespace Go.Proofs.Trees
open Go Go.VL Go.RowKit
def iA(t:Ty):Prop:=j0 t 0/\∀y,bm y t=true->uJ y
theorem gu:∀(t:Ty) {i j:Nat},j0 t i->i<=j->j0 t j
 | .bO u,i,j,h,hj=>cU h hj
 | .plus a b,i,j,h,hj=>⟨gu a h.1 hj,gu b h.2 hj⟩
 | .times a b,i,j,h,hj=>⟨gu a h.1 hj,gu b h.2 hj⟩
 | .rc a,i,j,h,hj=>gu (i:=i+1) (j:=j+1) a h (by omega)
 | .zero,_,_,_,_=>trivial
 | .one,_,_,_,_=>trivial
 | .name _,_,_,_,_=>trivial
theorem iK(x:Nm):∀(t:Ty) {i:Nat},j0 t (i+1)->j0 (dN (.name x) t i) i
 |
  .bO u,i,h=>by
  simp only[dN]
  split
  ·trivial
  ·have:u<i+1:=h
   show u<i;omega
 | .plus a b,i,h=>⟨iK x a h.1,iK x b h.2⟩
 | .times a b,i,h=>⟨iK x a h.1,iK x b h.2⟩
 | .rc a,i,h=>iK x (i:=i+1) a h
 | .zero,_,_=>trivial
 | .one,_,_=>trivial
 | .name _,_,_=>trivial
theorem kl{x:Nm}{u:Ty}(hu:j0 u 0):∀(t:Ty) {i:Nat},j0 t i->j0 (sub x u t) i
 | .name s,i,_=>by simp only[sub];split;exact gu u hu (dr _);trivial
 | .plus a b,i,h=>⟨kl hu a h.1,kl hu b h.2⟩
 | .times a b,i,h=>⟨kl hu a h.1,kl hu b h.2⟩
 | .rc a,i,h=>kl hu (i:=i+1) a h
 | .zero,_,_=>trivial
 | .one,_,_=>trivial
 | .bO _,_,h=>h
theorem Dv.lc{t d:Ty}{s:Nm}(h:Dv t s d):j0 t 0->j0 d 0:=by
 induction h with
 |zero s=>exact fun _=>trivial
 |one s=>exact fun _=>trivial
 |bO k s=>exact fun _=>trivial
 |hit s=>exact fun _=>trivial
 |qQ h=>exact fun _=>trivial
 |plus h1 h2 hl i1 i2=>exact fun h=>⟨i1 h.1,i2 h.2⟩
 |times h1 h2 hl i1 i2=>exact fun h=>⟨⟨i1 h.1,h.2⟩,h.1,i2 h.2⟩
 |
  rc x hx hs h1 h2 hl i1 i2 =>
  intro h
  have g1:=kl (x:=x) h _ (i1 (iK x _ h))
  have g2:=kl (x:=x) h _ (i2 (iK x _ h))
  exact⟨gu _ g1 (by omega),gu _ g2 (by omega),Nat.zero_lt_one⟩
theorem Wf.FO{e:E}(h:Wf e):iA (er e []):=⟨wt h [],fun y hy=>(td h [] y hy).1⟩
theorem iA.dv{t d:Ty}{s:Nm}(g:iA t)(h:Dv t s d):iA d:=⟨h.lc g.1,fun y hy=>g.2 y (h.names y hy)⟩
theorem iA.tree{t:Ty}(g:iA t):∃e,Wf e/\er e []=t:=by
 obtain⟨h1,h2,_⟩:=me (bM t []) t [] 0 (.nil _ _) g.1 fun y hy=>⟨(fP t [] y).2 (.inr hy),g.2 y hy⟩
 exact⟨_,h1,h2⟩
theorem iA.sub{x:Nm}{u t:Ty}(hu:iA u)(ht:iA t):iA (sub x u t):=⟨kl hu.1 t ht.1,fun y hy=>by
 rcases iN t hy with h|h
 ·exact hu.2 y h
 ·exact ht.2 y h.2⟩
def HQ(o:Option Ty):AV->List Ob->Prop:=fun r ob=>ob=[]/\∃(c:Nm) (d:AV),LK.sl.has d/\r=.cQ [.agg [.v (.string (mk c)),d],.v (.bool o.isSome)]/\∀t,o=some t->∃e,Wf e/\er e []=t/\c=e.at/\d=e.sp
theorem HQ.ne{o:Option Ty}(h:∀t,o=some t->iA t):∃r ob,HQ o r ob:=by
 cases o with
 |none=>exact⟨_,_,rfl,[],Hd,(be).mpr trivial,rfl,fun t h=>by cases h⟩
 |
  some t =>
  obtain⟨e,h1,h2⟩:=(h t rfl).tree
  exact⟨_,_,rfl,e.at,e.sp,(bf _).mpr trivial,rfl,fun t' h'=>by cases h';exact⟨e,h1,h2,rfl,rfl⟩⟩
theorem HQ.of{e:E}(h:Wf e):HQ (some (er e [])) (.cQ [.agg [.v (.string (mk e.at)),e.sp],.v (.bool true)]) [] :=
 ⟨rfl,e.at,e.sp,(bf _).mpr trivial,rfl,fun t h'=>by cases h';exact⟨e,h,rfl,rfl,rfl⟩⟩
theorem HQ.no(c:Nm)(d:AV)(hd:LK.sl.has d):HQ none (.cQ [.agg [.v (.string (mk c)),d],.v (.bool false)]) [] :=
 ⟨rfl,c,d,hd,rfl,fun t h'=>by cases h'⟩
theorem AW{e:E}{os:List E}(h:Wf e):Wf (Eb e os)/\er (Eb e os) []=er e []/\tX (·∉EF e os) (Eb e os):=by
 obtain⟨h1,h2,_,_,h5⟩:=me (EF e os) (er e []) [] 0 (.nil _ _) (wt h []) fun y hy=>⟨aB _ ((xy h [] [] y).2 (.inr hy)),(td h [] y hy).1⟩
 exact⟨h1,h2,h5⟩
theorem uU{os:List E}{o:E}(ho:o∈os)(hw:Wf o){y:Nm}(hy:bm y (er o [])=true):y∈sc os :=
 dq.2 ⟨o,ho,(xy hw [] [] y).2 (.inr hy)⟩
theorem AM{s:Nm}(hs:uJ s):er (.atom s) []=.name s:=iR hs (by simp)
theorem NO{x:Nm}(hx:uJ x){e u:E}(h:Wf e)(hu:Wf u)(hl:e.en<=400)(hlu:u.en<=400):∃g,Wf g/\er g []=sub x (er u []) (er e [])/\ap Tryz.prog 143 [.agg [.v (.string (mk e.at)),e.sp],.v (.string (mk x)),.agg [.v (.string (mk u.at)),u.sp]] [] (bH (.agg [.v (.string (mk g.at)),g.sp])):=by
 obtain⟨w1,w2,w3⟩:=AW (os:=[u,.atom x]) h
 have hap:tX (fun n=>n≠x/\bm n (er u [])=false) (Eb e [u,.atom x]):=Ab (fun n hn=>⟨fun e1=>hn (by
  subst e1
  exact az _ (uU (o:=.atom n) (by simp) (.atom hx.1) (by rw[AM hx];simp[bm]))),by
  cases q:bm n (er u [])with
  |false=>rfl
  |true=>exact absurd (az _ (uU (o:=u) (by simp) hu q)) hn⟩) w1 w3
 obtain⟨p1,p2⟩:=Cw hx hu w1 hap [] (by simp) (fun y hy=>by cases hy)
 refine⟨_,p1,by rw[p2,w2],?_⟩
 refine Pp _ _ _ _ _ ((bf _).mpr trivial) ((bf _).mpr trivial) ?_
 unfold KG
 have s1:=h.sz
 have s2:=hu.sz
 have hA:=L7 h (.sl [[.v (.string (mk u.at)),u.sp],[.v (.string (mk x)),Hd]]) [u,.atom x] ⟨(ci _).mpr trivial,by simp only[fL,E.bj,iJ];rfl⟩ (by omega) (fun o ho=>by
  simp only[aH,List.not_mem_nil,or_false]at ho
  rcases ho with rfl|rfl
  ·exact⟨hu,by omega⟩
  ·exact⟨.atom hx.1,by simp[E.sz]⟩) (by simp)
 refine an hA ?_
 simp only[↓zq,zs,ae,zt,aT]
 repeat refine⟨by omega,?_⟩
 refine an (PT x u w1) ?_
 simp only[↓zq,zs,ae,zt,aT]
 repeat refine⟨by omega,?_⟩
 exact⟨rfl,rfl⟩
end Go.Proofs.Trees
namespace Go.Proofs.Trees
open Go Go.VL Go.RowKit
theorem Wf.AZ{e:E}(h:Wf e){t:Ty}(ht:er e []=t)(hl:t.aC<=400):e.en<=400:=by rw[h.en [],ht];exact hl
end Go.Proofs.Trees
namespace Go.Proofs.Trees
open Go Go.VL Go.RowKit
theorem og:∀(n k:Nat),k<10 ^ (n+1)->(dd k).length<=n+1
 |0,k,h=>by rw[ep (by omega)];simp
 |
  n+1,k,h=>by
  by_cases h1:k<10
  ·rw[ep h1];simp
  ·rw[fD h1]
   have:=og n (k/10) (by
    have:10 ^ (n+1+1)=10*10 ^ (n+1):=by rw[Nat.pow_succ,Nat.mul_comm]
    omega)
   simp;omega
inductive Sh:E->Prop
 |atom {s:Nm} (h:s.length<=20):Sh (.atom s)
 |l3 {h:Nm} {a b:E} (hh:h.length<=20) (ha:Sh a) (hb:Sh b):Sh (.list [.atom h,a,b])
theorem Sh.dT{e:E}(hw:Wf e)(h:Sh e):(eG e).length<=50*e.en:=by
 induction hw with
 |atom _=>cases h with|atom h=>simp only[eG,E.en];omega
 |
  plus _ _ i1 i2 =>
  cases h with|l3 hh ha hb =>
  have:=i1 ha
  have:=i2 hb
  simp only[eG,dS,au,al,aG,E.en,E.fA];omega
 |
  times _ _ i1 i2 =>
  cases h with|l3 hh ha hb =>
  have:=i1 ha
  have:=i2 hb
  simp only[eG,dS,au,al,aG,E.en,E.fA];omega
 |
  rc _ _ i =>
  cases h with|l3 hh ha hb =>
  cases ha with|atom ha =>
  have:=i hb
  simp only[eG,dS,au,al,aG,E.en,E.fA];omega
def yC(t:Ty):Prop:=∀y,bm y t=true->y.length<=20
theorem z7{k:Nat}(h:k<100000000):(tN k).length<=20:=by
 have:=og 7 k (by omega)
 simp;omega
def LZ(t:Ty):Nm:=eG (iY (bM t []) t [] 0).1
def told(t:Ty):Option Nm:=if t.aC<=400/\(s4 (LZ t)).isSome=true then some (LZ t)else none
abbrev mH:Nm:=[35,49]
noncomputable def ej (s:Nm):Option Nm:=match s4 s with
 |some (.rc a)=>(vK a mH).bind told
 |_=>none
theorem rT{s:Nm}{t:Ty}(h:s4 s=some t):∃e,xd s=some e/\Wf e/\er e []=t/\e.en<=400/\e.ok:=by
 rw[wB]at h
 cases he:xd s with
 |none=>rw[he]at h;cases h
 |
  some e =>
  rw[he]at h
  obtain⟨h1,h2,h3⟩:=qW he
  obtain⟨hok,_⟩:=nJ h1
  obtain⟨w1,w2⟩:=ka e [] t hok (fun w hw=>by cases hw) h
  exact⟨e,rfl,w1,w2,h3,hok⟩
theorem vH{e:E}{x:Nm}{a d:Ty}(hw:Wf e)(ht:er e []=.rc a)(hx:uJ x)(hd:vK a x=some d):iA d/\(yC (.rc a)->yC d):=by
 simp only[vK,bA,dG,je]at hd
 obtain⟨d',h1,_,rfl⟩:=hd
 have g:iA (.rc a):=ht ▸ hw.FO
 have go:iA (dN (.name x) a 0):=⟨iK x a g.1,fun y hy=>by
  rcases gr a 0 hy with rfl|h
  ·exact hx
  ·exact g.2 y h⟩
 refine⟨g.sub (go.dv h1),fun hs y hy=>?_⟩
 rcases iN _ hy with h|⟨h,h'⟩
 ·exact hs y h
 ·rcases gr a 0 (h1.names y h')with e|e
  ·exact absurd e h
  ·exact hs y e
def IR(y:Nm):Prop:=gH y=true\/cS y=true
theorem iE:∀(e:E) (ar:List Nm) (t:Ty),cD e ar=some t->∀y,bm y t=true->IR y
 |
  .atom s,ar,t,ht,y,hy=>by
  simp only[cD]at ht
  split at ht
  ·cases ht;cases hy
  ·split at ht
   ·cases ht;cases hy
   ·split at ht
    ·rename_i hp
     cases ht
     simp only[bm,decide_eq_true_eq]at hy
     subst hy;exact .inl hp
    ·split at ht
     ·rename_i hq
      split at ht
      ·cases ht;cases hy
      ·cases ht
       simp only[bm,decide_eq_true_eq]at hy
       subst hy;exact .inr hq
     ·cases ht
 |
  .list [x,a,b],ar,t,ht,y,hy=>by
  by_cases h0:x.at=[43]
  ·obtain⟨t1,t2,h1,h2,rfl⟩:=fq h0 ht
   simp only[bm,bn]at hy
   rcases hy with hy|hy
   ·exact iE a ar t1 h1 y hy
   ·exact iE b ar t2 h2 y hy
  ·by_cases h1:x.at=[42]
   ·obtain⟨t1,t2,h2,h3,rfl⟩:=eS h1 ht
    simp only[bm,bn]at hy
    rcases hy with hy|hy
    ·exact iE a ar t1 h2 y hy
    ·exact iE b ar t2 h3 y hy
   ·by_cases h2:x.at=[114,101,99]
    ·obtain⟨t1,hla,h3,rfl⟩:=dh h2 ht
     exact iE b _ t1 h3 y hy
    ·rw[iO _ h0 h1 h2]at ht;cases ht
 | .list [],ar,t,ht,_,_=>by cases ht
 | .list [_],ar,t,ht,_,_=>by cases ht
 | .list [_,_],ar,t,ht,_,_=>by cases ht
 | .list (_::_::_::_::_),ar,t,ht,_,_=>by cases ht
theorem wJ{y:Nm}(h:IR y):y.length<=3/\∀r,y≠35::r:=by
 have key:∀lo hi,116<=lo->named lo hi y=true->y.length<=3/\∀r,y≠35::r:=fun lo hi hlo h=>by
  cases y with
  |nil=>cases h
  |
   cons c r =>
   simp only[named,aw,decide_eq_true_eq]at h
   refine⟨by simp;omega,fun r' e=>?_⟩
   have:c=35:=by injection e
   subst this
   have:=h.1.2.1
   have e35:(35:UInt8).toNat=35:=rfl
   omega
 rcases h with h|h
 ·exact key 120 122 (by omega) h
 ·exact key 116 116 (by omega) h
theorem mU{s:Nm}{t:Ty}(h:s4 s=some t):∀y,bm y t=true->IR y:=by
 rw[wB]at h
 cases he:xd s with
 |none=>rw[he]at h;cases h
 |some e=>rw[he]at h;exact iE e [] t h
theorem A2{s:Nm}{a:Ty}(h:s4 s=some (.rc a)):bm mH a=false:=by
 cases q:bm mH a with
 |false=>rfl
 |true=>exact absurd rfl ((wJ (mU h mH q)).2 [49])
theorem GF{s:Nm}{t:Ty}(h:s4 s=some t):yC t:=fun y hy=>by have:=(wJ (mU h y hy)).1;omega
end Go.Proofs.Trees
namespace Go.Proofs.Trees
open Go Go.VL Go.RowKit
def vT(n:Nat):Vl->Ty->Bool
 | .u,.one=>true
 | .el k,.name _=>decide (k<n)
 | .l w,.plus a _=>vT n w a
 | .r w,.plus _ b=>vT n w b
 | .p x y,.times a b=>vT n x a&&vT n y b
 | .f w,.rc a=>vT n w (dN (.rc a) a 0)
 |_,_=>false
def lP(us:List Ty):Ty->Nat->Ty
 | .bO k,i=>if k<i then .bO k else us.getD (k-i) .zero
 | .plus a b,i=>.plus (lP us a i) (lP us b i)
 | .times a b,i=>.times (lP us a i) (lP us b i)
 | .rc a,i=>.rc (lP us a (i+1))
 |t,_=>t
def xQ:List Fr->List Ty
 |[]=>[]
 |f::r=>lP (xQ r) (xC f.ex r) 0::xQ r
theorem lF(u:Ty):∀(t:Ty) {i:Nat},j0 t i->dN u t i=t
 | .bO k,i,h=>by simp only[dN];rw[if_neg (by have:k<i:=h;omega)]
 | .plus a b,i,h=>by simp only[dN];rw[lF u a h.1,lF u b h.2]
 | .times a b,i,h=>by simp only[dN];rw[lF u a h.1,lF u b h.2]
 | .rc a,i,h=>by simp only[dN];rw[lF u a (i:=i+1) h]
 | .zero,_,_=>rfl
 | .one,_,_=>rfl
 | .name _,_,_=>rfl
theorem pE(us:List Ty):∀(t:Ty) {i:Nat},j0 t i->lP us t i=t
 | .bO k,i,h=>by simp only[lP];rw[if_pos (by have:k<i:=h;omega)]
 | .plus a b,i,h=>by simp only[lP];rw[pE us a h.1,pE us b h.2]
 | .times a b,i,h=>by simp only[lP];rw[pE us a h.1,pE us b h.2]
 | .rc a,i,h=>by simp only[lP];rw[pE us a (i:=i+1) h]
 | .zero,_,_=>rfl
 | .one,_,_=>rfl
 | .name _,_,_=>rfl
theorem yr{us:List Ty}(hu:∀u,u∈us->j0 u 0)(k:Nat):j0 (us.getD k .zero) 0:=by
 by_cases h:k<us.length
 ·rw[aa,bo h];exact hu _ (bE h)
 ·rw[aa,List.getElem?_eq_none (by omega)];trivial
theorem pg{us:List Ty}(hu:∀u,u∈us->j0 u 0):∀(t:Ty) (i:Nat),j0 (lP us t i) i
 |
  .bO k,i=>by
  simp only[lP]
  split
  ·rename_i h;exact h
  ·exact gu _ (yr hu _) (dr _)
 | .plus a b,i=>⟨pg hu a i,pg hu b i⟩
 | .times a b,i=>⟨pg hu a i,pg hu b i⟩
 | .rc a,i=>pg hu a (i+1)
 | .zero,_=>trivial
 | .one,_=>trivial
 | .name _,_=>trivial
theorem mW{us:List Ty}(hu:∀u,u∈us->j0 u 0)(U:Ty):∀(t:Ty) (i:Nat),dN U (lP us t (i+1)) i=lP (U::us) t i
 |
  .bO k,i=>by
  simp only[lP]
  by_cases h1:k<i
  ·rw[if_pos (by omega),if_pos h1];simp only[dN];rw[if_neg (by omega)]
  ·rw[if_neg h1]
   by_cases h2:k=i
   ·subst h2;rw[if_pos (by omega)];simp[dN]
   ·rw[if_neg (by omega),lF U _ (gu _ (yr hu _) (dr _)),show k-i=(k-(i+1))+1 by omega,List.getD_cons_succ]
 | .plus a b,i=>by simp only[lP,dN];rw[mW hu U a i,mW hu U b i]
 | .times a b,i=>by simp only[lP,dN];rw[mW hu U a i,mW hu U b i]
 | .rc a,i=>by simp only[lP,dN];rw[mW hu U a (i+1)]
 | .zero,_=>rfl
 | .one,_=>rfl
 | .name _,_=>rfl
theorem wa:∀env:List Fr,∀u,u∈xQ env->j0 u 0
 |[],u,h=>by cases h
 |
  f::r,u,h=>by
  rcases aH.1 h with rfl|h
  ·exact pg (wa r) _ 0
  ·exact wa r u h
theorem CD{env:List Fr}(h:WF env):∀{u:Nat} {g:Fr},env[u]?=some g->(xQ env).getD u .zero=lP (xQ g.out) (xC g.ex g.out) 0:=by
 induction h with
 |nil=>intro u g hg;simp at hg
 |
  cons hs hok hx ht hf hr ih =>
  intro u g hg
  cases u with
  |zero=>simp at hg;subst hg;rfl
  |
   succ u =>
   have:=ih (u:=u) (g:=g) (by simpa using hg)
   simpa[xQ]using this
theorem pC(n:Nat):∀(m:Nat) (v:Vl),v.nodes<=m->∀(e:E) (env:List Fr) (t:Ty),Ask e env t->ez n v (e,env)=vT n v (lP (xQ env) t 0)
 |0,v,hm=>by have:=cJ v;omega
 |
  m+1,v,hm=>by
  intro e env t A
  have recCase:∀(x a b:E) (env:List Fr) (t1:Ty),Ask (.list [x,a,b]) env (.rc t1)->x.at=[114,101,99]->ez n v (.list [x,a,b],env)=vT n v (lP (xQ env) (.rc t1) 0):=by
   intro x a b env t1 A hx
   have hhd:hd (.list [x,a,b]) env=(.list [x,a,b],env):=o0 A.wf
   obtain⟨t1',he1,h1,f1,hw1⟩:=jU A.wf A.ok hx A.ty A.cl
   cases he1
   obtain⟨ok1,ok2,ok3,_⟩:=A.ok
   have A':Ask b (.mk a.at (.list [x,a,b]) env::env) t1:=⟨ok3,hw1,h1,f1⟩
   cases v with
   |
    f w =>
    simp only[Vl.nodes]at hm
    simp only[ez,hhd,hx,beq_self_eq_true,bJ]
    rw[pC n m w (by omega) b _ t1 A']
    have hty:xC (.list [x,a,b]) env=.rc t1:=by unfold xC;rw[A.ty];rfl
    show vT n w (lP (lP (xQ env) (xC (.list [x,a,b]) env) 0::xQ env) t1 0)=vT n w (dN (.rc (lP (xQ env) t1 1)) (lP (xQ env) t1 1) 0)
    rw[hty,mW (wa env)]
    rfl
   |_=>simp[ez,hhd,hx,lP,vT]
  rcases im A.wf A.ty with⟨hb,hq⟩|⟨u,g,rfl,hq,hu⟩
  ·have hhd:hd e env=(e,env):=kg hq
   rcases fR A.ty hb A.cl with⟨rfl,rfl⟩|⟨rfl,rfl⟩|⟨s,rfl,rfl,hp,h0,h1⟩|⟨x,a,b,t1,t2,rfl,hx,rfl,ha,hbb⟩|⟨x,a,b,t1,t2,rfl,hx,rfl,ha,hbb⟩|⟨x,a,b,t1,rfl,hx,rfl⟩
   ·have hp0:gH [48]=false:=rfl
    cases v<;>simp[ez,hhd,lP,vT,hp0]
   ·cases v<;>simp[ez,hhd,lP,vT]
   ·cases v<;>simp[ez,hhd,lP,vT,hp,h1]
   ·obtain⟨ok1,ok2,ok3,_⟩:=A.ok
    obtain⟨f1,f2⟩:=fT A.cl
    cases v with
    |
     l w =>
     simp only[Vl.nodes]at hm
     simp only[ez,hhd,hx,beq_self_eq_true,bJ,lP,vT]
     exact pC n m w (by omega) a env t1 ⟨ok2,A.wf,ha,f1⟩
    |
     r w =>
     simp only[Vl.nodes]at hm
     simp only[ez,hhd,hx,beq_self_eq_true,bJ,lP,vT]
     exact pC n m w (by omega) b env t2 ⟨ok3,A.wf,hbb,f2⟩
    |_=>simp[ez,hhd,hx,lP,vT]
   ·obtain⟨ok1,ok2,ok3,_⟩:=A.ok
    obtain⟨f1,f2⟩:=fm A.cl
    cases v with
    |
     p w w' =>
     simp only[Vl.nodes]at hm
     simp only[ez,hhd,hx,beq_self_eq_true,bJ,lP,vT]
     rw[pC n m w (by omega) a env t1 ⟨ok2,A.wf,ha,f1⟩,pC n m w' (by omega) b env t2 ⟨ok3,A.wf,hbb,f2⟩]
    |_=>simp[ez,hhd,hx,lP,vT]
   ·exact recCase x a b env t1 A hx
  ·obtain⟨x,a,b,t',hfe,hok,hx,ht',hf',hwf,hlt⟩:=nT A.wf hq
   have hrec:hd g.ex g.out=(g.ex,g.out):=by rw[hfe];exact o0 hwf
   rw[ui n v (qp hq) hrec]
   have hcl:lP (xQ env) (.bO u) 0=lP (xQ g.out) (xC g.ex g.out) 0:=by
    simp only[lP];rw[if_neg (by omega),Nat.sub_zero];exact CD A.wf hu
   rw[hcl]
   have hty:xC g.ex g.out=t':=by unfold xC;rw[ht'];rfl
   rw[hty,hfe]
   rw[hfe]at ht'
   obtain⟨t1,_,_,rfl⟩:=dh hx ht'
   exact recCase x a b g.out t1 ⟨hok,hwf,ht',hf'⟩ hx
theorem oD{n:Nat}{v:Vl}{e:E}{t:Ty}(A:Ask e [] t):ez n v (e,[])=vT n v t:=by
 have:=pC n v.nodes v (aq _) e [] t A
 rw[this]
 obtain⟨w,ht⟩:=ka e [] t A.ok (fun w hw=>by cases hw) A.ty
 have hl:=wt w []
 rw[ht]at hl
 exact congrArg (vT n v) (pE _ t hl)
def eN(σ:Nm->Option Ty):Ty->Ty
 | .name s=>(σ s).getD (.name s)
 | .plus a b=>.plus (eN σ a) (eN σ b)
 | .times a b=>.times (eN σ a) (eN σ b)
 | .rc a=>.rc (eN σ a)
 |t=>t
def i7(σ:Nm->Option Ty)(x:Nm)(u:Ty):Nm->Option Ty:=fun s=>if s=x then some u else σ s
theorem iT(σ:Nm->Option Ty)(x:Nm)(u:Ty):∀t:Ty,eN σ (sub x u t)=eN (i7 σ x (eN σ u)) t
 |
  .name s=>by
  by_cases h:s=x
  ·simp[sub,eN,i7,h]
  ·simp[sub,eN,i7,h]
 | .plus a b=>by simp only[sub,eN,iT σ x u a,iT σ x u b]
 | .times a b=>by simp only[sub,eN,iT σ x u a,iT σ x u b]
 | .rc a=>by simp only[sub,eN,iT σ x u a]
 | .zero=>rfl
 | .one=>rfl
 | .bO k=>rfl
def CT(σ:Nm->Option Ty):Prop:=∀s u,σ s=some u->j0 u 0
theorem km{σ:Nm->Option Ty}(hσ:CT σ):∀(t:Ty) {i:Nat},j0 t i->j0 (eN σ t) i
 |
  .name s,i,_=>by
  simp only[eN]
  cases q:σ s with
  |none=>trivial
  |some u=>exact gu u (hσ s u q) (dr _)
 | .plus a b,i,h=>⟨km hσ a h.1,km hσ b h.2⟩
 | .times a b,i,h=>⟨km hσ a h.1,km hσ b h.2⟩
 | .rc a,i,h=>km hσ a (i:=i+1) h
 | .zero,_,_=>trivial
 | .one,_,_=>trivial
 | .bO k,_,h=>h
theorem jp{σ:Nm->Option Ty}(hσ:CT σ)(x:Nm)(U:Ty):∀(t:Ty) (i:Nat),bm x t=false->eN (i7 σ x U) (dN (.name x) t i)=dN U (eN σ t) i
 |
  .name s,i,h=>by
  have hs:s≠x:=by simpa[bm]using h
  simp only[dN,eN,i7,if_neg hs]
  cases q:σ s with
  |none=>rfl
  |some u=>exact(lF U u (gu u (hσ s u q) (dr _))).symm
 |
  .bO k,i,h=>by
  simp only[dN,eN]
  split
  ·simp[eN,i7]
  ·rfl
 |
  .plus a b,i,h=>by
  simp only[bm,cj]at h
  simp only[dN,eN,jp hσ x U a i h.1,jp hσ x U b i h.2]
 |
  .times a b,i,h=>by
  simp only[bm,cj]at h
  simp only[dN,eN,jp hσ x U a i h.1,jp hσ x U b i h.2]
 | .rc a,i,h=>by simp only[dN,eN,jp hσ x U a (i+1) h]
 | .zero,_,_=>rfl
 | .one,_,_=>rfl
theorem n9{σ:Nm->Option Ty}(hσ:CT σ)(x:Nm){u:Ty}(hu:j0 u 0):CT (i7 σ x u):=fun s v h=>by
 unfold i7 at h
 split at h
 ·cases h;exact hu
 ·exact hσ s v h
theorem iP(x:Nm):∀(n:Nat) (c:Vl) (t:Ty) (i:Nat),c.nodes<=n->iB (dN (.name x) t i) c=iB t c
 |0,c,_,_,h=>by have:=cJ c;omega
 |
  n+1,c,t,i,hn=>by
  cases t with
  |bO k=>simp only[dN];split<;>(cases c<;>rfl)
  |
   plus a b =>
   cases c with
   |l c=>simp only[Vl.nodes]at hn;exact iP x n c a i (by omega)
   |r c=>simp only[Vl.nodes]at hn;exact iP x n c b i (by omega)
   |_=>rfl
  |
   times a b =>
   cases c with
   |
    l c =>
    cases c with
    |p y z=>simp only[Vl.nodes]at hn;exact iP x n y a i (by omega)
    |_=>rfl
   |
    r c =>
    cases c with
    |p y z=>simp only[Vl.nodes]at hn;exact iP x n z b i (by omega)
    |_=>rfl
   |_=>rfl
  |
   rc a =>
   cases c with
   |
    f c =>
    cases c with
    |l y=>simp only[Vl.nodes]at hn;exact iP x n y a (i+1) (by omega)
    |
     r c =>
     cases c with
     |
      p y z =>
      simp only[Vl.nodes]at hn
      have h1:=iP x n y a (i+1) (by omega)
      have h2:=iP x n z (.rc a) i (by omega)
      show (iB (dN (.name x) a (i+1)) y&&iB (.rc (dN (.name x) a (i+1))) z)=(iB a y&&iB (.rc a) z)
      rw[h1]
      exact congrArg _ h2
     |_=>rfl
    |_=>rfl
   |_=>rfl
  |_=>rfl
end Go.Proofs.Trees
namespace Go.Proofs.Trees
open Go Go.VL Go.RowKit
theorem eU(x:Nm):∀(n:Nat) (c:Vl) (t:Ty) (i:Nat) (v:Vl),c.nodes<=n->fZ (dN (.name x) t i) c v=fZ t c v
 |0,c,_,_,_,h=>by have:=cJ c;omega
 |
  n+1,c,t,i,v,hn=>by
  cases t with
  |bO k=>simp only[dN];split<;>(cases c<;>rfl)
  |
   plus a b =>
   cases c with
   |l c=>simp only[Vl.nodes]at hn;exact congrArg Vl.l (eU x n c a i v (by omega))
   |r c=>simp only[Vl.nodes]at hn;exact congrArg Vl.r (eU x n c b i v (by omega))
   |_=>rfl
  |
   times a b =>
   cases c with
   |
    l c =>
    cases c with
    |p y z=>simp only[Vl.nodes]at hn;exact congrArg (fun q=>Vl.p q z) (eU x n y a i v (by omega))
    |_=>rfl
   |
    r c =>
    cases c with
    |p y z=>simp only[Vl.nodes]at hn;exact congrArg (Vl.p y) (eU x n z b i v (by omega))
    |_=>rfl
   |_=>rfl
  |
   rc a =>
   cases c with
   |
    f c =>
    cases c with
    |l y=>simp only[Vl.nodes]at hn;exact congrArg Vl.f (eU x n y a (i+1) v (by omega))
    |
     r c =>
     cases c with
     |
      p y z =>
      simp only[Vl.nodes]at hn
      have h2:=eU x n z (.rc a) i v (by omega)
      have h1:=eU x n y a (i+1) (fZ (.rc a) z v) (by omega)
      show Vl.f (fZ (dN (.name x) a (i+1)) y (fZ (.rc (dN (.name x) a (i+1))) z v))=Vl.f (fZ a y (fZ (.rc a) z v))
      have h3:fZ (.rc (dN (.name x) a (i+1))) z v=fZ (.rc a) z v:=h2
      rw[h3,h1]
     |_=>rfl
    |_=>rfl
   |_=>rfl
  |_=>rfl
theorem DI{n:Nat}{c:Vl}{a:Ty}(h:vT n c (.rc a)=true):∃w,c=.f w/\vT n w (dN (.rc a) a 0)=true:=by
 cases c with
 |f w=>exact⟨w,rfl,h⟩
 |_=>simp[vT]at h
theorem kW{n:Nat}{c:Vl}{a b:Ty}(h:vT n c (.plus a b)=true):(∃w,c=.l w/\vT n w a=true)\/∃w,c=.r w/\vT n w b=true:=by
 cases c with
 |l w=>exact .inl ⟨w,rfl,h⟩
 |r w=>exact .inr ⟨w,rfl,h⟩
 |_=>simp[vT]at h
theorem jF{n:Nat}{c:Vl}{a b:Ty}(h:vT n c (.times a b)=true):∃x y,c=.p x y/\vT n x a=true/\vT n y b=true:=by
 cases c with
 |p x y=>simp only[vT,aw]at h;exact⟨x,y,rfl,h.1,h.2⟩
 |_=>simp[vT]at h
theorem rk{σ:Nm->Option Ty}(hσ:CT σ){a c d:Ty}{x:Nm}(ha:j0 (.rc a) 0)(hc:j0 c 0)(hd:j0 d 0):∃X,eN σ (sA a x c d)=.rc X/\dN (.rc X) X 0=.plus (eN (i7 σ x (eN σ (.rc a))) c) (.times (eN (i7 σ x (eN σ (.rc a))) d) (eN σ (sA a x c d))):=by
 refine⟨.plus (eN σ (sub x (.rc a) c)) (.times (eN σ (sub x (.rc a) d)) (.bO 0)),rfl,?_⟩
 have h1:=km hσ (sub x (.rc a) c) (kl ha c hc)
 have h2:=km hσ (sub x (.rc a) d) (kl ha d hd)
 simp only[dN,lF _ _ h1,lF _ _ h2,if_true]
 rw[iT,iT]
 simp only[sA,eN,iT]
theorem uP(n:Nat):∀(m:Nat) (c:Vl),c.nodes<=m->∀(t:Ty) (s:Nm) (d:Ty) (σ:Nm->Option Ty),Dv t s d->CT σ->j0 t 0->vT n c (eN σ d)=true->iB t c=true
 |0,c,h=>by have:=cJ c;omega
 |
  m+1,c,hm=>by
  intro t s d σ hd hσ hl hv
  cases hd with
  |zero=>cases c<;>rfl
  |one=>cases c<;>rfl
  |bO=>cases c<;>rfl
  |hit=>cases c<;>rfl
  |qQ=>cases c<;>rfl
  |
   plus h1 h2 _ =>
   rcases kW hv with⟨w,rfl,hw⟩|⟨w,rfl,hw⟩
   ·simp only[Vl.nodes]at hm;exact uP n m w (by omega) _ s _ σ h1 hσ hl.1 hw
   ·simp only[Vl.nodes]at hm;exact uP n m w (by omega) _ s _ σ h2 hσ hl.2 hw
  |
   times h1 h2 _ =>
   rcases kW hv with⟨w,rfl,hw⟩|⟨w,rfl,hw⟩
   ·obtain⟨x,y,rfl,hx,hy⟩:=jF hw
    simp only[Vl.nodes]at hm;exact uP n m x (by omega) _ s _ σ h1 hσ hl.1 hx
   ·obtain⟨x,y,rfl,hx,hy⟩:=jF hw
    simp only[Vl.nodes]at hm;exact uP n m y (by omega) _ s _ σ h2 hσ hl.2 hy
  |
   @rc a _ c0 d0 x hx hs h1 h2 hsz =>
   have lo:j0 (dN (.name x) a 0) 0:=iK x a hl
   obtain⟨X,e1,e2⟩:=rk (x:=x) hσ hl (h1.lc lo) (h2.lc lo)
   have hv':=hv
   rw[e1]at hv'
   obtain⟨w,rfl,hw⟩:=DI hv'
   rw[e2]at hw
   have hcl:=n9 hσ x (km hσ (.rc a) hl)
   rcases kW hw with⟨y,rfl,hy⟩|⟨y,rfl,hy⟩
   ·simp only[Vl.nodes]at hm
    have:=uP n m y (by omega) _ s _ _ h1 hcl lo hy
    rw[iP x y.nodes y a 0 (aq _)]at this
    exact this
   ·obtain⟨y,z,rfl,hy,hz⟩:=jF hy
    simp only[Vl.nodes]at hm
    have q1:=uP n m y (by omega) _ x _ _ h2 hcl lo hy
    rw[iP x y.nodes y a 0 (aq _)]at q1
    have q2:=uP n m z (by omega) (.rc a) s _ σ (.rc x hx hs h1 h2 hsz) hσ hl hz
    show (iB a y&&iB (.rc a) z)=true
    rw[q1,q2];rfl
theorem p6(n:Nat):∀(m:Nat) (c:Vl),c.nodes<=m->∀(t:Ty) (s:Nm) (d:Ty) (σ:Nm->Option Ty),Dv t s d->CT σ->j0 t 0->vT n c (eN σ d)=true->∀v,vT n v (eN σ (.name s))=true->vT n (fZ t c v) (eN σ t)=true
 |0,c,h=>by have:=cJ c;omega
 |
  m+1,c,hm=>by
  intro t s d σ hd hσ hl hv v hvv
  have no:∀c,vT n c .zero=false:=fun c=>by cases c<;>rfl
  cases hd with
  |zero=>rw[show eN σ .zero=.zero from rfl,no]at hv;cases hv
  |one=>rw[show eN σ .zero=.zero from rfl,no]at hv;cases hv
  |bO=>rw[show eN σ .zero=.zero from rfl,no]at hv;cases hv
  |qQ=>rw[show eN σ .zero=.zero from rfl,no]at hv;cases hv
  |hit=>rw[sN];exact hvv
  |
   plus h1 h2 _ =>
   rcases kW hv with⟨w,rfl,hw⟩|⟨w,rfl,hw⟩
   ·simp only[Vl.nodes]at hm;exact p6 n m w (by omega) _ s _ σ h1 hσ hl.1 hw v hvv
   ·simp only[Vl.nodes]at hm;exact p6 n m w (by omega) _ s _ σ h2 hσ hl.2 hw v hvv
  |
   times h1 h2 _ =>
   rcases kW hv with⟨w,rfl,hw⟩|⟨w,rfl,hw⟩
   ·obtain⟨x,y,rfl,hx,hy⟩:=jF hw
    simp only[Vl.nodes]at hm
    have:=p6 n m x (by omega) _ s _ σ h1 hσ hl.1 hx v hvv
    show (vT n _ _&&vT n _ _)=true
    rw[this,hy];rfl
   ·obtain⟨x,y,rfl,hx,hy⟩:=jF hw
    simp only[Vl.nodes]at hm
    have:=p6 n m y (by omega) _ s _ σ h2 hσ hl.2 hy v hvv
    show (vT n _ _&&vT n _ _)=true
    rw[this,hx];rfl
  |
   @rc a _ c0 d0 x hx hs h1 h2 hsz =>
   have lo:j0 (dN (.name x) a 0) 0:=iK x a hl
   obtain⟨X,e1,e2⟩:=rk (x:=x) hσ hl (h1.lc lo) (h2.lc lo)
   have hv':=hv
   rw[e1]at hv'
   obtain⟨w,rfl,hw⟩:=DI hv'
   rw[e2]at hw
   have hcl:=n9 hσ x (km hσ (.rc a) hl)
   have hop:eN (i7 σ x (eN σ (.rc a))) (dN (.name x) a 0)=dN (eN σ (.rc a)) (eN σ a) 0:=jp hσ x _ a 0 hx
   have hns:eN (i7 σ x (eN σ (.rc a))) (.name s)=eN σ (.name s):=by simp only[eN,i7,if_neg (Ne.symm hs)]
   have hnx:eN (i7 σ x (eN σ (.rc a))) (.name x)=eN σ (.rc a):=by simp[eN,i7]
   rcases kW hw with⟨y,rfl,hy⟩|⟨y,rfl,hy⟩
   ·simp only[Vl.nodes]at hm
    have:=p6 n m y (by omega) _ s _ _ h1 hcl lo hy v (by rw[hns];exact hvv)
    rw[hop,eU x y.nodes y a 0 v (aq _)]at this
    exact this
   ·obtain⟨y,z,rfl,hy,hz⟩:=jF hy
    simp only[Vl.nodes]at hm
    have q2:=p6 n m z (by omega) (.rc a) s _ σ (.rc x hx hs h1 h2 hsz) hσ hl hz v hvv
    have q1:=p6 n m y (by omega) _ x _ _ h2 hcl lo hy (fZ (.rc a) z v) (by rw[hnx];exact q2)
    rw[hop,eU x y.nodes y a 0 _ (aq _)]at q1
    exact q1
def Fp:Nm->Option Ty:=fun _=>none
theorem ug:CT Fp:=fun _ _ h=>by cases h
theorem jL:∀t:Ty,eN Fp t=t
 | .name s=>rfl
 | .plus a b=>by simp only[eN,jL a,jL b]
 | .times a b=>by simp only[eN,jL a,jL b]
 | .rc a=>by simp only[eN,jL a]
 | .zero=>rfl
 | .one=>rfl
 | .bO k=>rfl
theorem EI{n:Nat}{a D:Ty}{x:Nm}(hx:bm x a=false)(hl:j0 (.rc a) 0)(h:vK a x=some D){c:Vl}(hc:vT n c D=true) :
 iB a c=true/\∀v,vT n v (.rc a)=true->vT n (.f (fZ a c v)) (.rc a)=true:=by
 simp only[vK,bA,dG,je]at h
 obtain⟨d,hd,_,rfl⟩:=h
 have lo:j0 (dN (.name x) a 0) 0:=iK x a hl
 have hcl:=n9 ug x hl
 have e1:sub x (.rc a) d=eN (i7 Fp x (.rc a)) d:=by
  have:=iT Fp x (.rc a) d
  rw[jL,jL]at this;exact this
 rw[e1]at hc
 have h1:=uP n c.nodes c (aq _) _ x _ _ hd hcl lo hc
 rw[iP x c.nodes c a 0 (aq _)]at h1
 refine⟨h1,fun v hv=>?_⟩
 have h2:=p6 n c.nodes c (aq _) _ x _ _ hd hcl lo hc v (by simpa[eN,i7]using hv)
 rw[eU x c.nodes c a 0 v (aq _),jp ug x _ a 0 hx,jL]at h2
 exact h2
end Go.Proofs.Trees
namespace Go.Proofs.Trees
open Go Go.VL Go.RowKit
theorem EG{b:UInt8}(h:hD b=true):eH b=true:=by
 simp only[hD,eH,decide_eq_true_eq]at h |-;omega
theorem Ds{y:Nm}(h:IR y):y≠[]/\y.all eH=true:=by
 have key:∀lo hi,97<=lo->hi<=122->named lo hi y=true->y≠[]/\y.all eH=true:=fun lo hi h1 h2 h=>by
  cases y with
  |nil=>cases h
  |
   cons c r =>
   simp only[named,aw,decide_eq_true_eq]at h
   refine⟨by simp,?_⟩
   rw[cL,aw]
   refine⟨?_,?_⟩
   ·simp only[eH,decide_eq_true_eq];omega
   ·rw[bL]
    intro b hb
    exact EG (bL.1 h.2 b hb)
 rcases h with h|h
 ·exact key 120 122 (by omega) (by omega) h
 ·exact key 116 116 (by omega) (by omega) h
theorem Ae(m:Nat):(tN m).all eH=true:=by
 rw[cL,we (m+1) m (by omega)];rfl
theorem oY(F:List Nm):∀(t:Ty) (to:List Nm) (k:Nat),(∀y,bm y t=true->y≠[]/\y.all eH=true)->(∀w,w∈to->w≠[]/\w.all eH=true)->j0 t to.length->(iY F t to k).1.pr
 | .zero,_,_,_,_,_=>⟨by simp,by decide⟩
 | .one,_,_,_,_,_=>⟨by simp,by decide⟩
 | .name s,_,_,hn,_,_=>hn s (by simp[bm])
 |
  .bO u,to,_,_,ht,hl=>by
  have:to.length-1-u<to.length:=by have:u<to.length:=hl;omega
  show (E.atom (gy to u)).pr
  unfold gy
  rw[aa,bo this]
  exact ht _ (bE this)
 | .plus a b,to,k,hn,ht,hl=>⟨by simp,⟨by simp,by decide⟩,oY F a to k (fun y hy=>hn y (by simp[bm,hy])) ht hl.1,oY F b to _ (fun y hy=>hn y (by simp[bm,hy])) ht hl.2,trivial⟩
 | .times a b,to,k,hn,ht,hl=>⟨by simp,⟨by simp,by decide⟩,oY F a to k (fun y hy=>hn y (by simp[bm,hy])) ht hl.1,oY F b to _ (fun y hy=>hn y (by simp[bm,hy])) ht hl.2,trivial⟩
 |
  .rc a,to,k,hn,ht,hl=>by
  refine⟨by simp,⟨by simp,by decide⟩,⟨by simp,Ae _⟩,oY F a (to++[tN (nx F k)]) _ hn (fun w hw=>?_) (by rw[al];exact hl),trivial⟩
  rcases aM.1 hw with hw|hw
  ·exact ht w hw
  ·simp only[aU]at hw;rw[hw];exact⟨by simp,Ae _⟩
theorem zx{D:Ty}{dt:Nm}(g:iA D)(hn:∀y,bm y D=true->IR y)(h:told D=some dt):s4 dt=some D:=by
 unfold told at h
 split at h
 ·rename_i hh
  cases h
  obtain⟨t,ht⟩:=bx.1 hh.2
  obtain⟨e,he,hw,hte,_,_⟩:=rT ht
  obtain⟨h1,_,_⟩:=qW he
  obtain⟨hx,hpr,_⟩:=yf h1
  obtain⟨w1,w2,_⟩:=me (bM D []) D [] 0 (.nil _ _) g.1 fun y hy=>⟨(fP D [] y).2 (.inr hy),g.2 y hy⟩
  have hp:=oY (bM D []) D [] 0 (fun y hy=>Ds (hn y hy)) (fun w hw=>by cases hw) g.1
  have:=Br hp hpr hx
  rw[ht,<-hte,<-this,w2]
 ·cases h
theorem sS{a d:Ty}{x:Nm}(h:vK a x=some d):∀y,bm y d=true->bm y a=true:=by
 simp only[vK,bA,dG,je]at h
 obtain⟨d',h1,_,rfl⟩:=h
 intro y hy
 rcases iN _ hy with h|⟨h,h'⟩
 ·exact h
 ·rcases gr a 0 (h1.names y h')with e|e
  ·exact absurd e h
  ·exact e
structure ZT(s d:Nm)(a:Ty)(x A B:E)(D:Ty):Prop where
 l:jC s=some a
 ce:jr s=some (.list [x,A,B])
 ask:Ask (.list [x,A,B]) [] (.rc a)
 hx:x.at=[114,101,99]
 body:Ask B [.mk A.at (.list [x,A,B]) []] a
 dl:ej s=some d
 y:s4 s=some (.rc a)
 lp:vK a mH=some D
 bk:s4 d=some D
theorem xh{s:Nm}{t:Ty}(h:wj s=some t):s4 s=some t:=by
 unfold wj at h
 split at h
 ·cases h
 ·rename_i u hu
  split at h
  ·cases h;exact hu
  ·cases h
theorem ZT.of{s d:Nm}{a:Ty}(hl:jC s=some a)(hd:ej s=some d):∃x A B D,ZT s d a x A B D:=by
 have hc:=tI hl
 cases hce:jr s with
 |none=>rw[mJ hce]at hc;cases hc
 |
  some e =>
  obtain⟨t,h1,hA,_⟩:=gJ hce
  rw[hc]at h1;cases h1
  obtain⟨x,A,B,rfl,hx,hA',hB⟩:=tc hA
  have hy:=xh hc
  have hd':=hd
  unfold ej at hd'
  rw[hy]at hd'
  obtain⟨D,h2,h3⟩:=bA.1 hd'
  obtain⟨e2,he2,hw2,hte2,_,_⟩:=rT hy
  have hg:=vH hw2 hte2 (x:=mH) ⟨by simp,by simp,by simp⟩ h2
  exact⟨x,A,B,D,hl,hce,hA,hx,hB,hd,hy,h2,zx hg.1 (fun y hy'=>mU hy y (sS h2 y hy')) h3⟩
structure Cx(a:Ty)(w:Vl):Prop where
 ok:iB a w=true
 ty:∀v,vT 100 v (.rc a)=true->vT 100 (.f (fZ a w v)) (.rc a)=true
 jf:w.jf 100
 nd:w.nodes<=200
structure Fo(a:Ty)(v:Vl):Prop where
 ty:vT 100 v (.rc a)=true
 jf:v.jf 100
 nd:v.nodes<=200
theorem ZT.Ez{s d:Nm}{a:Ty}{x A B:E}{D:Ty}(z:ZT s d a x A B D){c:Nm}{w:Vl}(h:pV d c 100=some w):Cx a w:=by
 obtain⟨e,t,m,h1,h2,h3,h4,h5,h6,h7⟩:=rS h
 have hm:m=100:=by omega
 subst hm
 have:=xh h3
 rw[z.bk]at this;cases this
 rw[oD h4]at h7
 obtain⟨e2,he2,hw2,hte2,_,_⟩:=rT z.y
 have hlc:j0 (.rc a) 0:=hte2 ▸ hw2.FO.1
 obtain⟨q1,q2⟩:=EI (A2 z.y) hlc z.lp h7
 exact⟨q1,q2,(lf h2).2.1,(lf h2).2.2⟩
theorem ZT.yN{s d:Nm}{a:Ty}{x A B:E}{D:Ty}(z:ZT s d a x A B D){f:Nm}{v:Vl}(h:lD s f=some v):Fo a v/\f=v.dT:=by
 obtain⟨a',x',A',B',L⟩:=gK h
 have:=L.l
 rw[z.l]at this;cases this
 exact⟨⟨by rw[<-oD L.ask];exact L.ez,L.jf,L.nodes⟩,nN L.v⟩
theorem Fo.ez{s d:Nm}{a:Ty}{x A B:E}{D:Ty}(z:ZT s d a x A B D){v:Vl}(h:Fo a v):ez 100 v (.list [x,A,B],[])=true:=by rw[oD z.ask];exact h.ty
theorem ZT.dT{s d:Nm}{a:Ty}{x A B:E}{D:Ty}(z:ZT s d a x A B D){w:Vl}(hb:w.jf 100)(hv:vT 100 w (.rc a)=true):pV s w.dT 100=if w.nodes<=200 then some w else none:=by
 unfold pV
 rw[z.ce]
 by_cases hn:w.nodes<=200
 ·rw[yw hb hn,if_pos hn]
  simp only
  rw[if_pos ⟨by omega,by rw[show (100:Int).toNat=100 from rfl,oD z.ask];exact hv⟩]
 ·rw[if_neg hn]
  cases q:sa w.dT with
  |none=>rfl
  |
   some w' =>
   exfalso
   obtain⟨_,h2,h3⟩:=lf q
   have:=xV hb h2 (nN q)
   rw[this]at hn;exact hn h3
theorem ZT.lv{s d:Nm}{a:Ty}{x A B:E}{D:Ty}(z:ZT s d a x A B D)(f:Nm):lD s f=pV s f 100:=by
 unfold lD;rw[z.l]
def fC(d:Nm):List Nm->Option (List Vl)
 |[]=>some []
 |
  c::r=>match pV d c 100,fC d r with
  |some w,some l=>some (w::l)
  |_,_=>none
theorem qZ{s d:Nm}{a:Ty}{x A B:E}{D:Ty}(z:ZT s d a x A B D):∀(p:List Nm) (l:List Vl),fC d p=some l->p=l.map (·.dT)/\∀c,c∈l->Cx a c
 |[],l,h=>by cases h;exact⟨rfl,fun c hc=>by cases hc⟩
 |
  c::r,l,h=>by
  simp only[fC]at h
  split at h
  ·rename_i w l' h1 h2
   cases h
   obtain⟨q1,q2⟩:=qZ z r l' h2
   obtain⟨_,_,_,_,hv,_⟩:=rS h1
   refine⟨by rw[bp,<-q1,<-nN hv],fun c' hc'=>?_⟩
   rcases aH.1 hc' with rfl|hc'
   ·exact z.Ez h1
   ·exact q2 c' hc'
  ·cases h
theorem sJ(d:Nm):∀(p q:List Nm),fC d (p++q)=(fC d p).bind fun l=>(fC d q).map (l++·)
 |[],q=>by cases h:fC d q<;>simp[fC,h]
 |
  c::p,q=>by
  simp only[bz,fC,sJ d p q]
  cases pV d c 100 with
  |none=>rfl
  |
   some w =>
   cases fC d p with
   |none=>rfl
   |some l=>cases fC d q<;>rfl
noncomputable def yA (s:Nm) (p:List Nm) (f:Nm):Option (List Vl×Vl):=match lD s f,ej s with
 |some v,some d=>if p.length<=50 then(fC d p).map fun l=>(l,v)else none
 |_,_=>none
def zA(s:Nm):Ty:=(jC s).getD .zero
def DW(a:Ty)(l:List Vl)(v:Vl):Option (List Vl×Vl):=match l.getLast? with
 |none=>none
 |some c=>if(Vl.f (fZ a c v)).nodes<=200 then some (l.dropLast,.f (fZ a c v))else none
def rh:Nat->Ty->List Vl->Vl->Option Vl
 |0,_,_,v=>some v
 |n+1,a,l,v=>(DW a l v).bind fun r=>rh n a r.1 r.2
def w4(a:Ty)(l:List Vl)(v:Vl):Option Vl:=rh l.length a l v
noncomputable def uF (s:Nm) (p:List Nm) (f:Nm):Option (List Vl×Vl):=(yA s p f).bind fun r=>if(w4 (zA s) r.1 r.2).isSome=true then some r else none
structure ZI(a:Ty)(l:List Vl)(v:Vl):Prop where
 Ez:∀c,c∈l->Cx a c
 yN:Fo a v
theorem Hi{a:Ty}{l l':List Vl}{v w:Vl}(h:ZI a l v)(hu:DW a l v=some (l',w)):ZI a l' w/\l'.length+1=l.length/\∃c,l=l'++[c]/\w=.f (fZ a c v):=by
 unfold DW at hu
 cases q:l.getLast? with
 |none=>rw[q]at hu;cases hu
 |
  some c =>
  rw[q]at hu
  simp only at hu
  split at hu
  ·rename_i hn
   cases hu
   have hne:l≠[]:=by rintro rfl;cases q
   have hl:l.dropLast++[c]=l:=by
    have:=List.dropLast_concat_getLast hne
    rw[List.getLast?_eq_some_getLast hne]at q
    cases q;exact this
   have hc:c∈l:=by rw[<-hl];simp
   have hC:=h.Ez c hc
   refine⟨⟨fun c' hc'=>h.Ez c' (by rw[<-hl];exact aB _ hc'),hC.ty v h.yN.ty,BE 100 a c v hC.jf h.yN.jf,hn⟩,?_,c,hl.symm,rfl⟩
   have:=congrArg List.length hl
   simpa using this
  ·cases hu
end Go.Proofs.Trees
namespace Go.Proofs.Trees
open Go Go.VL Go.RowKit
theorem wo(w:World)(k:Nat)(os:Array Obj):Below w.heap.size w (Go.«Sort».grow (w.drewN k) os):=by
 refine⟨rfl,rfl,rfl,?_,fun b hb=>?_⟩
 ·simp[Go.«Sort».grow,World.drewN]
 ·simp only[Go.«Sort».grow,World.drewN]
  rw[Array.getElem?_append_left hb]
theorem Fm(k:Nat)(hk:k<1000000000):ap Tryz.prog 148 [.v (.int .i64 (k:Int))] [] (bH (.v (.string (mk (dd k))))):=by
 refine ap.Qa (xs:=[.int .i64 (k:Int)]) ⟨qh,by kernel_rfl,by kernel_rfl,by kernel_rfl⟩ fun w ht=>?_
 have:=Any.strconv_Itoa Tryz.AU (k:Int) (by omega) (by omega) w ht
 refine Calls.mono this fun e w' ⟨h1,n,os,h2⟩=>⟨?_,?_⟩
 ·rw[h1,Lib.itoa_nonneg];rfl
 ·rw[h2];exact wo w n os
abbrev hN(k:Nat):Nm:=35::dd k
theorem ue{j k:Nat}(h:hN j=hN k):j=k:=vZ (j+1) j k (by omega) (List.cons.inj h).2
theorem wH(u:Ty):∀(t:Ty) (i:Nat),i+t.aC<1000000->ap Tryz.prog 119 [t.av,u.av,.v (.int .i64 (i:Int))] [] (bH (dN u t i).av)
 |
  .zero,i,_=>by
  refine Fg _ _ _ ((aF _).mpr trivial) ((aF _).mpr trivial) ?_
  simp[Ea,Ty.av,dN,↓zq,zs,ae,bH]
 |
  .one,i,_=>by
  refine Fg _ _ _ ((aF _).mpr trivial) ((aF _).mpr trivial) ?_
  simp[Ea,Ty.av,dN,↓zq,zs,ae,bH]
 |
  .name s,i,_=>by
  refine Fg _ _ _ ((aF _).mpr trivial) ((aF _).mpr trivial) ?_
  simp[Ea,Ty.av,dN,↓zq,zs,ae,bH]
 |
  .bO k,i,_=>by
  refine Fg _ _ _ ((aF _).mpr trivial) ((aF _).mpr trivial) ?_
  simp only[Ea,Ty.av,dN,↓zq,zs,ae,bH]
  refine⟨by omega,fun _=>⟨by omega,fun h=>?_,fun h=>?_⟩,fun h=>absurd rfl h⟩
  ·rw[if_pos (by omega)]
  ·rw[if_neg (by omega)];rfl
 |
  .plus a b,i,hl=>by
  simp only[Ty.aC]at hl
  refine Fg _ _ _ ((aF _).mpr trivial) ((aF _).mpr trivial) ?_
  simp only[Ea,Ty.av,dN,↓zq,zs,ae,aF]
  refine⟨by omega,fun h=>by omega,fun _=>⟨fun _=>?_,fun h=>absurd rfl h⟩⟩
  repeat refine⟨by omega,?_⟩
  refine an (wH u a i (by omega)) ?_
  simp only[↓zq,zs,ae,aF]
  repeat refine⟨by omega,?_⟩
  refine an (wH u b i (by omega)) ?_
  simp only[↓zq,zs,ae,aF]
  exact⟨rfl,rfl⟩
 |
  .times a b,i,hl=>by
  simp only[Ty.aC]at hl
  refine Fg _ _ _ ((aF _).mpr trivial) ((aF _).mpr trivial) ?_
  simp only[Ea,Ty.av,dN,↓zq,zs,ae,aF]
  refine⟨by omega,fun h=>by omega,fun _=>⟨fun h=>by omega,fun _=>⟨fun _=>?_,fun h=>absurd rfl h⟩⟩⟩
  repeat refine⟨by omega,?_⟩
  refine an (wH u a i (by omega)) ?_
  simp only[↓zq,zs,ae,aF]
  repeat refine⟨by omega,?_⟩
  refine an (wH u b i (by omega)) ?_
  simp only[↓zq,zs,ae,aF]
  exact⟨rfl,rfl⟩
 |
  .rc a,i,hl=>by
  simp only[Ty.aC]at hl
  refine Fg _ _ _ ((aF _).mpr trivial) ((aF _).mpr trivial) ?_
  simp only[Ea,Ty.av,dN,↓zq,zs,ae,aF]
  refine⟨by omega,fun h=>by omega,fun _=>⟨fun h=>by omega,fun _=>⟨fun h=>by omega,fun _=>⟨fun _=>?_,fun h=>absurd rfl h⟩⟩⟩⟩
  repeat refine⟨by omega,?_⟩
  rw[bh i (by omega)]
  refine an (wH u a (i+1) (by omega)) ?_
  simp only[↓zq,zs,ae,aF]
  exact⟨rfl,rfl⟩
theorem Au(x:Nm)(u:Ty):∀(t:Ty),ap Tryz.prog 120 [t.av,.v (.string (mk x)),u.av] [] (bH (sub x u t).av)
 |
  .zero=>by
  refine ED _ _ _ ((aF _).mpr trivial) ((aF _).mpr trivial) ?_
  simp[DN,Ty.av,sub,↓zq,zs,ae,bH]
 |
  .one=>by
  refine ED _ _ _ ((aF _).mpr trivial) ((aF _).mpr trivial) ?_
  simp[DN,Ty.av,sub,↓zq,zs,ae,bH]
 |
  .bO k=>by
  refine ED _ _ _ ((aF _).mpr trivial) ((aF _).mpr trivial) ?_
  simp[DN,Ty.av,sub,↓zq,zs,ae,bH]
 |
  .name s=>by
  refine ED _ _ _ ((aF _).mpr trivial) ((aF _).mpr trivial) ?_
  simp only[DN,Ty.av,sub,↓zq,zs,ae,zt,bH]
  refine⟨by omega,fun _=>⟨by omega,fun h=>?_,fun h=>?_⟩,fun h=>absurd rfl h⟩
  ·rw[if_pos h]
  ·rw[if_neg h];rfl
 |
  .plus a b=>by
  refine ED _ _ _ ((aF _).mpr trivial) ((aF _).mpr trivial) ?_
  simp only[DN,Ty.av,sub,↓zq,zs,ae,aF]
  refine⟨by omega,fun h=>by omega,fun _=>⟨fun _=>?_,fun h=>absurd rfl h⟩⟩
  repeat refine⟨by omega,?_⟩
  refine an (Au x u a) ?_
  simp only[↓zq,zs,ae,aF]
  repeat refine⟨by omega,?_⟩
  refine an (Au x u b) ?_
  simp only[↓zq,zs,ae,aF]
  exact⟨rfl,rfl⟩
 |
  .times a b=>by
  refine ED _ _ _ ((aF _).mpr trivial) ((aF _).mpr trivial) ?_
  simp only[DN,Ty.av,sub,↓zq,zs,ae,aF]
  refine⟨by omega,fun h=>by omega,fun _=>⟨fun h=>by omega,fun _=>⟨fun _=>?_,fun h=>absurd rfl h⟩⟩⟩
  repeat refine⟨by omega,?_⟩
  refine an (Au x u a) ?_
  simp only[↓zq,zs,ae,aF]
  repeat refine⟨by omega,?_⟩
  refine an (Au x u b) ?_
  simp only[↓zq,zs,ae,aF]
  exact⟨rfl,rfl⟩
 |
  .rc a=>by
  refine ED _ _ _ ((aF _).mpr trivial) ((aF _).mpr trivial) ?_
  simp only[DN,Ty.av,sub,↓zq,zs,ae,aF]
  refine⟨by omega,fun h=>by omega,fun _=>⟨fun h=>by omega,fun _=>⟨fun h=>by omega,fun _=>⟨fun _=>?_,fun h=>absurd rfl h⟩⟩⟩⟩
  repeat refine⟨by omega,?_⟩
  refine an (Au x u a) ?_
  simp only[↓zq,zs,ae,aF]
  exact⟨rfl,rfl⟩
theorem xk(c:Int)(a b:Ty):ap Tryz.prog 149 [.v (.int .u8 c),a.av,b.av] [] (bH (.ptr [.v (.int .u8 c),.v (.string (mk [])),.v (.int .i64 0),a.av,b.av])):=by
 refine OB _ _ _ ((aF _).mpr trivial) ((aF _).mpr trivial) ?_
 simp[MI,↓zq,zs,ae,bH]
abbrev CX(f:Nat)(g:Bool):Ob:=.cells [.v (.int .i64 (f:Int)),.v (.bool g)]
theorem L9(f:Nat)(g:Bool)(hf:f<100000000):ap Tryz.prog 116 [.ref 0 0] [CX f g] (cN (.v (.string (mk (hN (f+1))))) [CX (f+1) g]):=by
 refine Oi _ _ ?_
 simp only[Jz,↓zq,zs,ae,zt]
 rw[bh f (by omega)]
 refine an (Fm (f+1) (by omega)) ?_
 have hd:=og 8 (f+1) (by omega)
 simp only[↓zq,zs,ae,zt,bz,aQ]
 exact⟨by simp[cX];omega,rfl,rfl⟩
def uq(g:Bool)(t:Ty):Ty:=if g=true\/400<t.aC then .zero else t
def zG(g:Bool)(t:Ty):Bool:=g||decide (400<t.aC)
theorem xi(t:Ty):uq true t=.zero:=by simp[uq]
theorem vj(t:Ty):zG true t=true:=rfl
theorem uA{t:Ty}(h:t.aC<=400):uq false t=t:=by simp[uq,show ¬400<t.aC by omega]
theorem uO{t:Ty}(h:t.aC<=400):zG false t=false:=by simp[zG,show ¬400<t.aC by omega]
theorem D6{t:Ty}(h:¬t.aC<=400):zG false t=true:=by simp[zG,show 400<t.aC by omega]
theorem DS{t:Ty}(h:¬t.aC<=400):uq false t=.zero:=by simp[uq,show 400<t.aC by omega]
theorem vg(f:Nat)(g:Bool)(t:Ty)(hl:t.aC<1000000):ap Tryz.prog 117 [.ref 0 0,t.av] [CX f g] (cN (uq g t).av [CX f (zG g t)]):=by
 refine Oa _ _ _ ((aF _).mpr trivial) ?_
 simp only[Kx,↓zq,zs,ae,zt]
 cases g with
 |true=>exact⟨fun _=>⟨rfl,rfl⟩,fun h=>(by cases h)⟩
 |
  false =>
  refine⟨fun h=>(by cases h),fun _=>?_⟩
  refine an (D3 t hl) ?_
  simp only[↓zq,zs,ae,zt]
  refine⟨fun h=>?_,fun h=>?_⟩
  ·have h:400<t.aC:=by omega
   simp[uq,zG,h,cN,Ty.av]
  ·have h:¬400<t.aC:=by omega
   simp[uq,zG,h,cN]
theorem Hq(t:Ty)(s:Nm)(f:Nat):ap Tryz.prog 118 [.ref 0 0,t.av,.v (.string (mk s))] [CX f true] (cN Ty.zero.av [CX f true]):=by
 refine Mw _ _ _ _ ((aF _).mpr trivial) ?_
 simp only[DD,↓zq,zs,ae]
 exact⟨fun _=>⟨rfl,rfl⟩,fun h=>(by cases h)⟩
def BV(f:Nat)(t:Ty):Prop:=∀j,f<j->bm (hN j) t=false
def p5(o:Option Ty)(t:Ty):Nat:=match o with|some d=>d.aC|none=>1000*t.aC
def A5(o:Option Ty)(f B:Nat):AV->List Ob->Prop:=fun r ob=>∃f':Nat,f<=f'/\f'<=f+B/\r=(o.getD .zero).av/\ob=[CX f' o.isNone]
theorem A5.ne(o:Option Ty)(f B:Nat):∃r ob,A5 o f B r ob:=⟨_,_,f,aq _,cM _ _,rfl,rfl⟩
theorem rp{f f':Nat}{t:Ty}(h:BV f t)(hf:f<=f'):BV f' t:=fun j hj=>h j (by omega)
theorem wh:∀(n:Nat) (t:Ty),t.aC<=n->t.aC<=400->∀(s:Nm) (f:Nat),BV f t->(∀j,f<j->s≠hN j)->f+1000*t.aC<50000000->ap Tryz.prog 118 [.ref 0 0,t.av,.v (.string (mk s))] [CX f false] (A5 (oV t s) f (p5 (oV t s) t))
 |0,t,h=>by have:=fV t;omega
 |
  n+1,t,hn=>by
  intro h4 s f hf hs hb
  refine Mw _ _ _ _ ((aF _).mpr trivial) ?_
  have fin0:∀u:Ty,oV t s=some u->A5 (oV t s) f (p5 (oV t s) t) u.av [CX f false]:=fun u hu=>by
   rw[hu];exact⟨f,aq _,cM _ _,rfl,rfl⟩
  cases t with
  |
   zero =>
   have:=fin0 .zero (BJ s)
   simpa[DD,Ty.av,↓zq,zs,ae]using this
  |
   one =>
   have:=fin0 .zero (B0 s)
   simpa[DD,Ty.av,↓zq,zs,ae]using this
  |
   bO k =>
   have:=fin0 .zero (yQ k s)
   simpa[DD,Ty.av,↓zq,zs,ae]using this
  |
   name c =>
   simp only[DD,Ty.av,↓zq,zs,ae,zt]
   refine⟨fun h=>(by cases h),fun _=>⟨by omega,fun _=>⟨by omega,fun h=>?_,fun h=>?_⟩,fun h=>absurd rfl h⟩⟩
   ·exact fin0 .one (by rw[vD,if_pos h])
   ·exact fin0 .zero (by rw[vD,if_neg h])
  |
   plus a b =>
   simp only[Ty.aC]at hn h4 hb
   have pa:=fV a
   have pb:=fV b
   have fa:BV f a:=fun j hj=>by have:=hf j hj;simp only[bm,cj]at this;exact this.1
   have fb:BV f b:=fun j hj=>by have:=hf j hj;simp only[bm,cj]at this;exact this.2
   simp only[DD,Ty.av,↓zq,zs,ae,zt,aF]
   refine⟨fun h=>(by cases h),fun _=>⟨by omega,fun h=>by omega,fun _=>⟨fun _=>?_,fun h=>absurd rfl h⟩⟩⟩
   repeat refine⟨by omega,?_⟩
   rw[Bm]
   refine aV (wh n a (by omega) (by omega) s f fa hs (by omega)) (A5.ne _ _ _) ?_
   rintro r ob ⟨f1,g1,g2,rfl,rfl⟩
   simp only[↓zq,zs,ae,zt,aK,aF]
   repeat refine⟨by omega,?_⟩
   cases q1:oV a s with
   |
    none =>
    rw[q1]at g2
    simp only[p5]at g2
    simp only[Option.isNone_none,Option.getD_none,dw]
    refine a7 (Hq b s f1) ?_
    simp only[↓zq,zs,ae,zt,aK,aF]
    repeat refine⟨by omega,?_⟩
    refine an (xk 43 _ _) ?_
    simp only[↓zq,zs,ae,zt,cu]
    refine a7 (vg f1 true (.plus .zero .zero) (by simp[Ty.aC])) ?_
    simp only[↓zq,zs,ae,zt,aK,aF]
    exact⟨f1,g1,by simp only[p5,Ty.aC];omega,rfl,rfl⟩
   |
    some a' =>
    rw[q1]at g2
    simp only[p5]at g2
    have la:=(dG.1 q1).small
    simp only[Option.isNone_some,cK,ck]
    refine aV (wh n b (by omega) (by omega) s f1 (rp fb g1) (fun j hj=>hs j (by omega)) (by omega)) (A5.ne _ _ _) ?_
    rintro r ob ⟨f2,k1,k2,rfl,rfl⟩
    simp only[↓zq,zs,ae,zt,aK,aF]
    repeat refine⟨by omega,?_⟩
    refine an (xk 43 _ _) ?_
    simp only[↓zq,zs,ae,zt,cu]
    cases q2:oV b s with
    |
     none =>
     rw[q2]at k2
     simp only[p5]at k2
     simp only[Option.isNone_none,Option.getD_none,dw]
     refine a7 (vg f2 true (.plus a' .zero) (by simp[Ty.aC];omega)) ?_
     simp only[↓zq,zs,ae,zt,aK,aF]
     exact⟨f2,by omega,by simp only[p5,Ty.aC];omega,rfl,rfl⟩
    |
     some b' =>
     rw[q2]at k2
     simp only[p5]at k2
     have lb:=(dG.1 q2).small
     simp only[Option.isNone_some,cK,ck]
     refine a7 (vg f2 false (.plus a' b') (by simp only[Ty.aC];omega)) ?_
     simp only[↓zq,zs,ae,zt,aK,aF]
     unfold v8
     by_cases hle:(Ty.plus a' b').aC<=400
     ·rw[if_pos hle]
      refine⟨f2,by omega,by simp only[p5,Ty.aC];omega,?_,?_⟩
      ·simp[uq,show ¬400<(Ty.plus a' b').aC by omega]
      ·simp[zG,show ¬400<(Ty.plus a' b').aC by omega]
     ·rw[if_neg hle]
      refine⟨f2,by omega,by simp only[p5,Ty.aC];omega,?_,?_⟩
      ·simp[uq,show 400<(Ty.plus a' b').aC by omega]
      ·simp[zG,show 400<(Ty.plus a' b').aC by omega]
  |
   times a b =>
   simp only[Ty.aC]at hn h4 hb
   have pa:=fV a
   have pb:=fV b
   have fa:BV f a:=fun j hj=>by have:=hf j hj;simp only[bm,cj]at this;exact this.1
   have fb:BV f b:=fun j hj=>by have:=hf j hj;simp only[bm,cj]at this;exact this.2
   simp only[DD,Ty.av,↓zq,zs,ae,zt,aF]
   refine⟨fun h=>(by cases h),fun _=>⟨by omega,fun h=>by omega,fun _=>⟨fun h=>by omega,fun _=>⟨fun _=>?_,fun h=>absurd rfl h⟩⟩⟩⟩
   repeat refine⟨by omega,?_⟩
   rw[zr]
   refine aV (wh n a (by omega) (by omega) s f fa hs (by omega)) (A5.ne _ _ _) ?_
   rintro r ob ⟨f1,g1,g2,rfl,rfl⟩
   simp only[↓zq,zs,ae,zt,aK,aF]
   repeat refine⟨by omega,?_⟩
   refine an (xk 42 _ _) ?_
   simp only[↓zq,zs,ae,zt,cu]
   repeat refine⟨by omega,?_⟩
   cases q1:oV a s with
   |
    none =>
    rw[q1]at g2
    simp only[p5]at g2
    simp only[Option.isNone_none,Option.getD_none,dw]
    refine a7 (Hq b s f1) ?_
    simp only[↓zq,zs,ae,zt,aK,aF]
    repeat refine⟨by omega,?_⟩
    refine an (xk 42 _ _) ?_
    simp only[↓zq,zs,ae,zt,cu]
    refine an (xk 43 (.times .zero b) (.times a .zero)) ?_
    simp only[↓zq,zs,ae,zt,cu]
    refine a7 (vg f1 true (.plus (.times .zero b) (.times a .zero)) (by simp only[Ty.aC];omega)) ?_
    simp only[↓zq,zs,ae,zt,aK,aF]
    exact⟨f1,g1,by simp only[p5,Ty.aC];omega,rfl,rfl⟩
   |
    some a' =>
    rw[q1]at g2
    simp only[p5]at g2
    have la:=(dG.1 q1).small
    simp only[Option.isNone_some,cK,ck]
    refine aV (wh n b (by omega) (by omega) s f1 (rp fb g1) (fun j hj=>hs j (by omega)) (by omega)) (A5.ne _ _ _) ?_
    rintro r ob ⟨f2,k1,k2,rfl,rfl⟩
    simp only[↓zq,zs,ae,zt,aK,aF]
    repeat refine⟨by omega,?_⟩
    refine an (xk 42 _ _) ?_
    simp only[↓zq,zs,ae,zt,cu]
    cases q2:oV b s with
    |
     none =>
     rw[q2]at k2
     simp only[p5]at k2
     simp only[Option.isNone_none,Option.getD_none,dw]
     refine an (xk 43 (.times a' b) (.times a .zero)) ?_
     simp only[↓zq,zs,ae,zt,cu]
     refine a7 (vg f2 true (.plus (.times a' b) (.times a .zero)) (by simp only[Ty.aC];omega)) ?_
     simp only[↓zq,zs,ae,zt,aK,aF]
     exact⟨f2,by omega,by simp only[p5,Ty.aC];omega,rfl,rfl⟩
    |
     some b' =>
     rw[q2]at k2
     simp only[p5]at k2
     have lb:=(dG.1 q2).small
     simp only[Option.isNone_some,cK,ck]
     refine an (xk 43 (.times a' b) (.times a b')) ?_
     simp only[↓zq,zs,ae,zt,cu]
     refine a7 (vg f2 false (.plus (.times a' b) (.times a b')) (by simp only[Ty.aC];omega)) ?_
     simp only[↓zq,zs,ae,zt,aK,aF]
     unfold v8
     by_cases hle:(Ty.plus (.times a' b) (.times a b')).aC<=400
     ·rw[if_pos hle]
      refine⟨f2,by omega,by simp only[p5,Ty.aC];omega,?_,?_⟩
      ·simp[uq,show ¬400<(Ty.plus (.times a' b) (.times a b')).aC by omega]
      ·simp[zG,show ¬400<(Ty.plus (.times a' b) (.times a b')).aC by omega]
     ·rw[if_neg hle]
      refine⟨f2,by omega,by simp only[p5,Ty.aC];omega,?_,?_⟩
      ·simp[uq,show 400<(Ty.plus (.times a' b) (.times a b')).aC by omega]
      ·simp[zG,show 400<(Ty.plus (.times a' b) (.times a b')).aC by omega]
  |
   rc a =>
   simp only[Ty.aC]at hn h4 hb
   have pa:=fV a
   have fa:BV f a:=fun j hj=>hf j hj
   have hxa:bm (hN (f+1)) a=false:=fa _ (by omega)
   have hxs:hN (f+1)≠s:=fun e=>hs _ (by omega) e.symm
   have fo:BV (f+1) (dN (.name (hN (f+1))) a 0):=fun j hj=>by
    cases q:bm (hN j) (dN (.name (hN (f+1))) a 0)with
    |false=>rfl
    |
     true =>
     rcases gr a 0 q with e|e
     ·have:=ue e;omega
     ·rw[fa j (by omega)]at e;cases e
   have hoa:(dN (.name (hN (f+1))) a 0).aC=a.aC:=fW _ _ _
   have hop:=wH (.name (hN (f+1))) a 0 (by omega)
   rw[Hx hxa hxs]
   simp only[DD,Ty.av,↓zq,zs,ae,zt,aF]
   refine⟨fun h=>(by cases h),fun _=>⟨by omega,fun h=>by omega,fun _=>⟨fun h=>by omega,fun _=>⟨fun h=>by omega,fun _=>⟨fun _=>?_,fun h=>absurd rfl h⟩⟩⟩⟩⟩
   refine a7 (L9 f false (by omega)) ?_
   simp only[↓zq,zs,ae,zt,aK,aF]
   repeat refine⟨by omega,?_⟩
   simp only[Ty.av]at hop
   refine an hop ?_
   simp only[↓zq,zs,ae,zt,aK,aF]
   refine aV (wh n (dN (.name (hN (f+1))) a 0) (by omega) (by omega) s (f+1) fo (fun j hj=>hs j (by omega)) (by omega)) (A5.ne _ _ _) ?_
   rintro r ob ⟨f1,g1,g2,rfl,rfl⟩
   simp only[↓zq,zs,ae,zt,aK,aF]
   generalize hx:hN (f+1)=x at *
   generalize hin:dN (.name x) a 0=i at *
   have hrc:(Ty.rc a).av=.ptr [.v (.int .u8 114),.v (.string (mk [])),.v (.int .i64 0),a.av,.v (.pointer none)]:=rfl
   cases q1:oV i s with
   |
    none =>
    rw[q1]at g2
    simp only[p5]at g2
    simp only[Option.isNone_none,Option.getD_none,dw]
    refine a7 (vg f1 true .zero (by simp[Ty.aC])) ?_
    simp only[↓zq,zs,ae,zt,aK,aF]
    rw[<-hrc]
    refine an (Au x (.rc a) _) ?_
    simp only[↓zq,zs,ae,zt,aF]
    refine a7 (Hq i x f1) ?_
    simp only[↓zq,zs,ae,zt,aK,aF]
    refine a7 (vg f1 true .zero (by simp[Ty.aC])) ?_
    simp only[↓zq,zs,ae,zt,aK,aF]
    refine an (Au x (.rc a) _) ?_
    simp only[↓zq,zs,ae,zt,aF]
    refine an (xk 42 _ (.bO 0)) ?_
    simp only[↓zq,zs,ae,zt,cu]
    refine an (xk 43 (sub x (.rc a) (uq true .zero)) (.times (sub x (.rc a) (uq true .zero)) (.bO 0))) ?_
    simp only[↓zq,zs,ae,zt,cu,vj]
    have hz:sub x (.rc a) (uq true .zero)=.zero:=by rw[xi];rfl
    refine a7 (vg f1 true (.rc (.plus (sub x (.rc a) (uq true .zero)) (.times (sub x (.rc a) (uq true .zero)) (.bO 0)))) (by rw[hz];simp only[Ty.aC];omega)) ?_
    simp only[↓zq,zs,ae,zt,aK,aF]
    rw[xi,vj]
    exact⟨f1,by omega,by simp only[p5,Ty.aC];omega,rfl,rfl⟩
   |
    some c =>
    rw[q1]at g2
    simp only[p5]at g2
    have lc:=(dG.1 q1).small
    simp only[Option.isNone_some,cK,ck]
    refine a7 (vg f1 false c (by omega)) ?_
    simp only[↓zq,zs,ae,zt,aK,aF]
    rw[uA lc,uO lc,<-hrc]
    refine an (Au x (.rc a) c) ?_
    simp only[↓zq,zs,ae,zt,aF]
    refine aV (wh n i (by omega) (by omega) x f1 (rp fo g1) (fun j hj=>by rw[<-hx];exact fun e=>by have:=ue e;omega) (by omega)) (A5.ne _ _ _) ?_
    rintro r ob ⟨f2,k1,k2,rfl,rfl⟩
    simp only[↓zq,zs,ae,zt,aK,aF]
    have hsc:(sub x (.rc a) c).aC+eY x c=c.aC+eY x c*(Ty.rc a).aC:=dK x (.rc a) c
    have hcc:∀t:Ty,eY x t<=t.aC:=fun t=>by
     have h1:=dK x .zero t
     have h2:=gT x .zero t
     simp only[Ty.aC,dQ]at h1
     have h3:∀t:Ty,eY x t<=t.aC:=by
      intro t
      induction t with
      |name s=>simp only[eY,Ty.aC];split<;>omega
      |plus a b i1 i2=>simp only[eY,Ty.aC];omega
      |times a b i1 i2=>simp only[eY,Ty.aC];omega
      |rc a i=>simp only[eY,Ty.aC];omega
      |_=>simp[eY,Ty.aC]
     exact h3 t
    have hbig:∀t:Ty,t.aC<=400->(sub x (.rc a) t).aC<=400+400*402:=fun t ht=>by
     have h1:=dK x (.rc a) t
     have h2:=hcc t
     have h3:eY x t*(Ty.rc a).aC<=400*402:=Nat.mul_le_mul (by omega) (by simp only[Ty.aC];omega)
     omega
    have b1:=hbig c lc
    cases q2:oV i x with
    |
     none =>
     rw[q2]at k2
     simp only[p5]at k2
     simp only[Option.isNone_none,Option.getD_none,dw]
     refine a7 (vg f2 true .zero (by simp[Ty.aC])) ?_
     simp only[↓zq,zs,ae,zt,aK,aF]
     rw[xi,vj]
     refine an (Au x (.rc a) .zero) ?_
     simp only[↓zq,zs,ae,zt,aF]
     refine an (xk 42 _ (.bO 0)) ?_
     simp only[↓zq,zs,ae,zt,cu]
     refine an (xk 43 (sub x (.rc a) c) (.times (sub x (.rc a) .zero) (.bO 0))) ?_
     simp only[↓zq,zs,ae,zt,cu]
     refine a7 (vg f2 true (.rc (.plus (sub x (.rc a) c) (.times (sub x (.rc a) .zero) (.bO 0)))) (by simp only[sub,Ty.aC];omega)) ?_
     simp only[↓zq,zs,ae,zt,aK,aF]
     rw[xi,vj]
     exact⟨f2,by omega,by simp only[p5,Ty.aC];omega,rfl,rfl⟩
    |
     some d =>
     rw[q2]at k2
     simp only[p5]at k2
     have ld:=(dG.1 q2).small
     have b2:=hbig d ld
     simp only[Option.isNone_some,cK,ck]
     refine a7 (vg f2 false d (by omega)) ?_
     simp only[↓zq,zs,ae,zt,aK,aF]
     rw[uA ld,uO ld]
     refine an (Au x (.rc a) d) ?_
     simp only[↓zq,zs,ae,zt,aF]
     refine an (xk 42 _ (.bO 0)) ?_
     simp only[↓zq,zs,ae,zt,cu]
     refine an (xk 43 (sub x (.rc a) c) (.times (sub x (.rc a) d) (.bO 0))) ?_
     simp only[↓zq,zs,ae,zt,cu]
     have hdrc:sA a x c d=.rc (.plus (sub x (.rc a) c) (.times (sub x (.rc a) d) (.bO 0))):=rfl
     refine a7 (vg f2 false (sA a x c d) (by rw[hdrc];simp only[Ty.aC];omega)) ?_
     simp only[↓zq,zs,ae,zt,aK,aF]
     have s1:=gT x (.rc a) c
     have s2:=gT x (.rc a) d
     unfold v8
     by_cases hle:(sA a x c d).aC<=400
     ·rw[if_pos hle,uA hle,uO hle]
      exact⟨f2,by omega,by simp only[p5,hdrc,Ty.aC];omega,rfl,rfl⟩
     ·rw[if_neg hle,DS hle,D6 hle]
      exact⟨f2,by omega,by simp only[p5,Ty.aC];omega,rfl,rfl⟩
def Nu(o:Option Ty):AV->List Ob->Prop:=fun r ob=>ob=[]/\∃p,LK.ptr.has p/\r=.cQ [p,.v (.bool o.isSome)]/\∀d,o=some d->p=d.av
theorem Nu.ne(o:Option Ty):∃r ob,Nu o r ob:=by
 cases o with
 |none=>exact⟨_,_,rfl,jZ,(gp).mpr trivial,rfl,fun d h=>by cases h⟩
 |some d=>exact⟨_,_,rfl,d.av,(aF _).mpr trivial,rfl,fun d' h=>by cases h;rfl⟩
theorem Gt:hN 1=mH:=by show (35::dd 1:Nm)=_;rw[ep (by omega)];rfl
theorem Oq(a:Ty)(h4:a.aC+2<=400)(hf:∀j,bm (hN j) a=false):ap Tryz.prog 85 [(Ty.rc a).av] [] (Nu (vK a mH)):=by
 have hxa:bm (hN 1) a=false:=hf 1
 have fo:BV 1 (dN (.name (hN 1)) a 0):=fun j hj=>by
  cases q:bm (hN j) (dN (.name (hN 1)) a 0)with
  |false=>rfl
  |
   true =>
   rcases gr a 0 q with e|e
   ·have:=ue e;omega
   ·rw[hf j]at e;cases e
 have hoa:(dN (.name (hN 1)) a 0).aC=a.aC:=fW _ _ _
 have hop:=wH (.name (hN 1)) a 0 (by omega)
 rw[<-Gt]
 have hrc:(Ty.rc a).av=.ptr [.v (.int .u8 114),.v (.string (mk [])),.v (.int .i64 0),a.av,.v (.pointer none)]:=rfl
 refine Qk _ ((aF _).mpr trivial) ?_
 unfold MG
 refine a7 (L9 0 false (by omega)) ?_
 simp only[Ty.av,↓zq,zs,ae,zt,aK,aF]
 repeat refine⟨by omega,?_⟩
 simp only[Ty.av]at hop
 refine an hop ?_
 simp only[↓zq,zs,ae,zt,aK,aF]
 refine aV (wh 400 (dN (.name (hN 1)) a 0) (by omega) (by omega) (hN 1) 1 fo (fun j hj e=>by have:=ue e;omega) (by omega)) (A5.ne _ _ _) ?_
 rintro r ob ⟨f1,g1,g2,rfl,rfl⟩
 simp only[↓zq,zs,ae,zt,aK,aF]
 unfold vK
 cases q1:oV (dN (.name (hN 1)) a 0) (hN 1)with
 |
  none =>
  simp only[Option.isNone_none,Option.getD_none,dw]
  refine a7 (vg f1 true .zero (by simp[Ty.aC])) ?_
  simp only[↓zq,zs,ae,zt,aK,aF,vj]
  exact⟨fun _=>⟨rfl,jZ,(gp).mpr trivial,rfl,fun d h=>(by cases h)⟩,fun h=>(by cases h)⟩
 |
  some d =>
  have ld:=(dG.1 q1).small
  simp only[Option.isNone_some,cK,ck]
  refine a7 (vg f1 false d (by omega)) ?_
  simp only[↓zq,zs,ae,zt,aK,aF]
  rw[uA ld,uO ld]
  refine⟨fun h=>(by cases h),fun _=>?_⟩
  rw[<-hrc]
  refine an (Au (hN 1) (.rc a) d) ?_
  simp only[↓zq,zs,ae,zt,aF]
  have h1:=dK (hN 1) (.rc a) d
  have hcn:eY (hN 1) d<=d.aC:=by
   have h3:∀t:Ty,eY (hN 1) t<=t.aC:=by
    intro t
    induction t with
    |name s=>simp only[eY,Ty.aC];split<;>omega
    |plus a b i1 i2=>simp only[eY,Ty.aC];omega
    |times a b i1 i2=>simp only[eY,Ty.aC];omega
    |rc a i=>simp only[eY,Ty.aC];omega
    |_=>simp[eY,Ty.aC]
   exact h3 d
  have h3:eY (hN 1) d*(Ty.rc a).aC<=400*402:=Nat.mul_le_mul (by omega) (by simp only[Ty.aC];omega)
  refine a7 (vg f1 false (sub (hN 1) (.rc a) d) (by omega)) ?_
  simp only[↓zq,zs,ae,zt,aK,aF]
  unfold v8
  by_cases hle:(sub (hN 1) (.rc a) d).aC<=400
  ·rw[if_pos hle,uA hle,uO hle]
   exact⟨rfl,_,(aF _).mpr trivial,rfl,fun d' h=>by cases h;rfl⟩
  ·rw[if_neg hle,DS hle,D6 hle]
   exact⟨rfl,_,(aF _).mpr trivial,rfl,fun d' h=>(by cases h)⟩
end Go.Proofs.Trees
namespace Go.Proofs.Trees
open Go Go.VL Go.RowKit
theorem rQ(h:Nm)(a b:E):(eG (.list [.atom h,a,b])).length=h.length+(eG a).length+(eG b).length+4:=by
 simp only[eG,dS,au,al,aG];omega
theorem iU(F:List Nm)(hF:F.length<=10000):∀(t:Ty) (to:List Nm) (k:Nat),yC t->(∀w,w∈to->w.length<=20)->k+(F.length+1)*t.aC<90000000->(eG (iY F t to k).1).length<=50*t.aC
 | .zero,_,_,_,_,_=>by simp[iY,eG,Ty.aC]
 | .one,_,_,_,_,_=>by simp[iY,eG,Ty.aC]
 | .name s,_,_,hn,_,_=>by have:=hn s (by simp[bm]);simp only[iY,eG,Ty.aC];omega
 |
  .bO u,to,_,_,ht,_=>by
  show (gy to u).length<=50*1
  unfold gy
  by_cases h:to.length-1-u<to.length
  ·rw[aa,bo h];have:=ht _ (bE h);simp only[cK];omega
  ·rw[aa,List.getElem?_eq_none (by omega)];simp
 |
  .plus a b,to,k,hn,ht,hk=>by
  have h1:=jk F a to k
  have:(F.length+1)*(1+a.aC+b.aC)=(F.length+1)+(F.length+1)*a.aC+(F.length+1)*b.aC:=by simp only[da,dQ]
  simp only[Ty.aC]at hk
  have i1:=iU F hF a to k (fun y hy=>hn y (by simp[bm,hy])) ht (by omega)
  have i2:=iU F hF b to _ (fun y hy=>hn y (by simp[bm,hy])) ht (show (iY F a to k).2+_<_ by omega)
  simp only[iY,rQ,Ty.aC,au,aG];omega
 |
  .times a b,to,k,hn,ht,hk=>by
  have h1:=jk F a to k
  have:(F.length+1)*(1+a.aC+b.aC)=(F.length+1)+(F.length+1)*a.aC+(F.length+1)*b.aC:=by simp only[da,dQ]
  simp only[Ty.aC]at hk
  have i1:=iU F hF a to k (fun y hy=>hn y (by simp[bm,hy])) ht (by omega)
  have i2:=iU F hF b to _ (fun y hy=>hn y (by simp[bm,hy])) ht (show (iY F a to k).2+_<_ by omega)
  simp only[iY,rQ,Ty.aC,au,aG];omega
 |
  .rc a,to,k,hn,ht,hk=>by
  obtain⟨g1,g2,_,_⟩:=lM F k
  have:(F.length+1)*(2+a.aC)=(F.length+1)*2+(F.length+1)*a.aC:=by simp only[da]
  simp only[Ty.aC]at hk
  have hl:=z7 (k:=nx F k) (by omega)
  have i1:=iU F hF a (to++[tN (nx F k)]) (nx F k+1) hn (fun w hw=>by
   rcases aM.1 hw with hw|hw
   ·exact ht w hw
   ·simp only[aU]at hw;rw[hw];exact hl) (by omega)
  simp only[iY,rQ,Ty.aC,au,aG]
  simp only[eG]
  simp only[au]at hl |-
  omega
theorem Ls(x0 a fv:AV)(F:List Nm)(h0:LK.ptr.has x0)(ha:LK.sl.has a)(hfv:cZ fv F)(hF:F.length<100000):∀(n j:Nat),rY F n j<j+n->j+n<100000000 ->
 Ch [x0,a,.v (.string (mk (tN j)))] [.cells [fv],.cells [.v (.int .i64 ((j+1:Nat):Int))]] (ga 1 [x0,a,.v (.string (mk (tN (rY F n j))))] [.cells [fv],.cells [.v (.int .i64 ((rY F n j+1:Nat):Int))]])
 |0,j,h,_=>by simp only[rY]at h;omega
 |
  n+1,j,h,hj=>by
  refine IF _ _ _ _ _ ?_
  simp only[Fa,↓zq,zs,ae,zt,ae,hfv.1,h0,ha]
  refine⟨fun h=>(by simp at h),fun _=>?_⟩
  refine an (L3 F fv hfv (tN j) (by omega)) ?_
  simp only[↓zq,zs,ae,zt]
  rw[rY]at h |-
  refine⟨fun hm=>?_,fun hm=>?_⟩
  ·rw[if_pos hm]at h |-
   refine an (Fm (j+1) (by omega)) ?_
   have hd:=og 8 (j+1) (by omega)
   simp only[↓zq,zs,ae,zt,bz,aQ]
   rw[bh (j+1) (by omega)]
   exact⟨by simp[cX];omega,Ls x0 a fv F h0 ha hfv hF n (j+1) (by omega) (by omega)⟩
  ·rw[if_neg hm]
   exact⟨rfl,rfl,rfl⟩
theorem PI(x0 a fv:AV)(F:List Nm)(h0:LK.ptr.has x0)(ha:LK.sl.has a)(hfv:cZ fv F)(hF:F.length<10000)(k:Nat)(hk:k<90000000) :
 Ch [x0,a,.v (.string (mk []))] [.cells [fv],.cells [.v (.int .i64 (k:Int))]] (ga 1 [x0,a,.v (.string (mk (tN (nx F k))))] [.cells [fv],.cells [.v (.int .i64 ((nx F k+1:Nat):Int))]]):=by
 obtain⟨g1,g2,_,_⟩:=lM F k
 refine IF _ _ _ _ _ ?_
 simp only[Fa,↓zq,zs,ae,zt,ae,hfv.1,h0,ha]
 refine⟨fun _=>?_,fun h=>(by simp at h)⟩
 refine an (Fm k (by omega)) ?_
 have hd:=og 8 k (by omega)
 simp only[↓zq,zs,ae,zt,bz,aQ]
 rw[bh k (by omega)]
 exact⟨by simp[cX];omega,Ls x0 a fv F h0 ha hfv (by omega) (F.length+1) k (by show nx F k<_;omega) (by omega)⟩
theorem yB(F:List Nm)(fv:AV)(hfv:cZ fv F)(hF:F.length<=1000):∀(t:Ty) (to:List Nm) (a:AV) (k:Nat),cZ a to->to.length+t.aC<10000->j0 t to.length->yC t->(∀w,w∈to->w.length<=20)->k+(F.length+1)*t.aC<80000000 ->
 ap Tryz.prog 151 [t.av,a,.fM 151 [none,some 0,some 1],.ref 0 0,.ref 1 0] [.cells [fv],.cells [.v (.int .i64 (k:Int))]] (cN (.v (.string (mk (eG (iY F t to k).1)))) [.cells [fv],.cells [.v (.int .i64 ((iY F t to k).2:Int))]])
 |
  .zero,to,a,k,ha,hl,hlc,hs,ht,hk=>by
  refine GU _ _ _ _ ((aF _).mpr trivial) ha.1 hfv.1 ?_
  simp only[D4,Ty.av,↓zq,zs,ae,zt,aF]
  refine⟨by omega,fun h=>by omega,fun _=>⟨fun h=>by omega,fun _=>⟨fun h=>by omega,fun _=>⟨fun h=>by omega,fun _=>⟨fun h=>by omega,fun _=>?_⟩⟩⟩⟩⟩
  repeat refine⟨by omega,?_⟩
  exact⟨⟨rfl,(lg _ _).mpr trivial,trivial⟩,rfl,rfl⟩
 |
  .one,to,a,k,ha,hl,hlc,hs,ht,hk=>by
  refine GU _ _ _ _ ((aF _).mpr trivial) ha.1 hfv.1 ?_
  simp only[D4,Ty.av,↓zq,zs,ae,zt,aF]
  refine⟨by omega,fun h=>by omega,fun _=>⟨fun h=>by omega,fun _=>⟨fun h=>by omega,fun _=>⟨fun h=>by omega,fun _=>⟨fun h=>by omega,fun _=>?_⟩⟩⟩⟩⟩
  repeat refine⟨by omega,?_⟩
  exact⟨⟨rfl,(lg _ _).mpr trivial,trivial⟩,rfl,rfl⟩
 |
  .name s,to,a,k,ha,hl,hlc,hs,ht,hk=>by
  refine GU _ _ _ _ ((aF _).mpr trivial) ha.1 hfv.1 ?_
  simp[D4,Ty.av,↓zq,zs,ae,cN,iY,eG]
 |
  .bO u,to,a,k,ha,hl,hlc,hs,ht,hk=>by
  have hu:u<to.length:=hlc
  refine GU _ _ _ _ ((aF _).mpr trivial) ha.1 hfv.1 ?_
  simp only[D4,Ty.av,↓zq,zs,ae,zt,ha.len]
  rw[wrap64 ((to.length:Int)-1) (by omega) (by omega),wrap64 _ (by omega) (by omega)]
  have e1:(to.length:Int)-1-(u:Int)=((to.length-1-u:Nat):Int):=by omega
  rw[e1]
  simp only[bB,ha.idx (show to.length-1-u<to.length by omega),↓zq,zs,ae,zt]
  refine⟨by omega,fun h=>by omega,fun _=>⟨fun _=>⟨ha.1,by omega,⟨ha.1,by omega,by omega⟩,by omega,rfl,rfl⟩,fun h=>absurd rfl h⟩⟩
 |
  .plus x y,to,a,k,ha,hl,hlc,hs,ht,hk=>by
  simp only[Ty.aC]at hl hk
  have h1:=jk F x to k
  have hm:(F.length+1)*(1+x.aC+y.aC)=(F.length+1)+(F.length+1)*x.aC+(F.length+1)*y.aC:=by simp only[da,dQ]
  have sx:yC x:=fun z hz=>hs z (by simp[bm,hz])
  have sy:yC y:=fun z hz=>hs z (by simp[bm,hz])
  have t1:=iU F (by omega) x to k sx ht (by omega)
  have t2:=iU F (by omega) y to (iY F x to k).2 sy ht (by omega)
  have hb:(⟨(bytesOf [[.v (.int .u8 43)]]).toArray⟩:ByteArray)=mk [43]:=rfl
  have h8:jo [[AV.v (.int .u8 43)]]:=⟨rfl,(lg _ _).mpr trivial,trivial⟩
  refine GU _ _ _ _ ((aF _).mpr trivial) ha.1 hfv.1 ?_
  simp only[D4,Ty.av,↓zq,zs,ae,zt,aF,hb]
  refine⟨by omega,fun h=>by omega,fun _=>⟨fun h=>by omega,fun _=>⟨fun _=>?_,fun h=>absurd rfl h⟩⟩⟩
  repeat refine⟨by omega,?_⟩
  refine a7 (yB F fv hfv hF x to a k ha (by omega) hlc.1 sx ht (by omega)) ?_
  simp only[↓zq,zs,ae,zt,aK,hfv.1,hb,bz,aQ]
  repeat (first|refine⟨by omega,?_⟩|refine⟨h8,?_⟩|refine⟨by simp[cX];omega,?_⟩)
  refine a7 (yB F fv hfv hF y to a _ ha (by omega) hlc.2 sy ht (by omega)) ?_
  simp only[↓zq,zs,ae,zt,aK,hfv.1,hb,bz,aQ]
  repeat (first|refine⟨by omega,?_⟩|refine⟨h8,?_⟩|refine⟨by simp[cX];omega,?_⟩)
  refine⟨?_,rfl⟩
  simp[iY,eG,dS]
 |
  .times x y,to,a,k,ha,hl,hlc,hs,ht,hk=>by
  simp only[Ty.aC]at hl hk
  have h1:=jk F x to k
  have hm:(F.length+1)*(1+x.aC+y.aC)=(F.length+1)+(F.length+1)*x.aC+(F.length+1)*y.aC:=by simp only[da,dQ]
  have sx:yC x:=fun z hz=>hs z (by simp[bm,hz])
  have sy:yC y:=fun z hz=>hs z (by simp[bm,hz])
  have t1:=iU F (by omega) x to k sx ht (by omega)
  have t2:=iU F (by omega) y to (iY F x to k).2 sy ht (by omega)
  have hb:(⟨(bytesOf [[.v (.int .u8 42)]]).toArray⟩:ByteArray)=mk [42]:=rfl
  have h8:jo [[AV.v (.int .u8 42)]]:=⟨rfl,(lg _ _).mpr trivial,trivial⟩
  refine GU _ _ _ _ ((aF _).mpr trivial) ha.1 hfv.1 ?_
  simp only[D4,Ty.av,↓zq,zs,ae,zt,aF,hb]
  refine⟨by omega,fun h=>by omega,fun _=>⟨fun h=>by omega,fun _=>⟨fun h=>by omega,fun _=>⟨fun _=>?_,fun h=>absurd rfl h⟩⟩⟩⟩
  repeat refine⟨by omega,?_⟩
  refine a7 (yB F fv hfv hF x to a k ha (by omega) hlc.1 sx ht (by omega)) ?_
  simp only[↓zq,zs,ae,zt,aK,hfv.1,hb,bz,aQ]
  repeat (first|refine⟨by omega,?_⟩|refine⟨h8,?_⟩|refine⟨by simp[cX];omega,?_⟩)
  refine a7 (yB F fv hfv hF y to a _ ha (by omega) hlc.2 sy ht (by omega)) ?_
  simp only[↓zq,zs,ae,zt,aK,hfv.1,hb,bz,aQ]
  repeat (first|refine⟨by omega,?_⟩|refine⟨h8,?_⟩|refine⟨by simp[cX];omega,?_⟩)
  refine⟨?_,rfl⟩
  simp[iY,eG,dS]
 |
  .rc x,to,a,k,ha,hl,hlc,hs,ht,hk=>by
  simp only[Ty.aC]at hl hk
  obtain⟨g1,g2,_,_⟩:=lM F k
  have hm:(F.length+1)*(2+x.aC)=(F.length+1)*2+(F.length+1)*x.aC:=by simp only[da]
  have hln:=z7 (k:=nx F k) (by omega)
  have ht':∀w,w∈to++[tN (nx F k)]->w.length<=20:=fun w hw=>by
   rcases aM.1 hw with hw|hw
   ·exact ht w hw
   ·simp only[aU]at hw;rw[hw];exact hln
  have t1:=iU F (by omega) x (to++[tN (nx F k)]) (nx F k+1) hs ht' (by omega)
  have hrc:(Ty.rc x).av=.ptr [.v (.int .u8 114),.v (.string (mk [])),.v (.int .i64 0),x.av,.v (.pointer none)]:=rfl
  refine GU _ _ _ _ ((aF _).mpr trivial) ha.1 hfv.1 ?_
  simp only[D4,Ty.av,↓zq,zs,ae,zt,aF]
  refine⟨by omega,fun h=>by omega,fun _=>⟨fun h=>by omega,fun _=>⟨fun h=>by omega,fun _=>⟨fun h=>by omega,fun _=>⟨fun _=>?_,fun h=>absurd rfl h⟩⟩⟩⟩⟩
  rw[<-hrc]
  repeat refine⟨by omega,?_⟩
  refine cb (PI (Ty.rc x).av a fv F ((aF _).mpr trivial) ha.1 hfv (by omega) k (by omega)) ?_
  simp only[Ty.av,↓zq,zs,ae,zt,ae,aK,hfv.1,ha.1,aF,ha.2,BS,aQ,mo,kb]
  have hl2:(dd (nx F k)).length+1<=20:=hln
  have hl3:(tN (nx F k)).length=(dd (nx F k)).length+1:=rfl
  refine⟨by omega,by simp only[al,au,aG,hl3];omega,by omega,by omega,⟨fun c hc=>by simp at hc;rw[hc];rfl,by omega⟩,?_⟩
  refine a7 (yB F fv hfv hF x (to++[tN (nx F k)]) _ (nx F k+1) (.of _) (by simp;omega) (by rw[al];exact hlc) hs ht' (by omega)) ?_
  simp only[↓zq,zs,ae,zt,aK,hfv.1]
  repeat refine⟨by omega,?_⟩
  refine⟨by simp only[al,au,aG,hl3];omega,by simp only[al,au,aG,hl3];omega,?_,rfl⟩
  simp[iY,eG,dS]
theorem PL(t:Ty)(g:iA t)(hs:yC t)(h4:t.aC<=400):ap Tryz.prog 121 [t.av] [] (bH (.v (.string (mk (LZ t))))):=by
 refine PE _ ((aF _).mpr trivial) ?_
 unfold IM
 have hn:=eD t []
 simp only[aG,aW]at hn
 have hm:((bM t []).length+1)*t.aC<=401*400:=Nat.mul_le_mul (by omega) h4
 refine an (LF t (by omega)) ?_
 simp only[↓zq,zs,ae,zt,ci]
 refine a7 (yB (bM t []) _ (.of _) (by omega) t [] Hd 0 .nil (by simp;omega) g.1 hs (fun w hw=>by cases hw) (by omega)) ?_
 simp only[↓zq,zs,ae,zt,aK,ci]
 exact⟨rfl,rfl⟩
theorem N5(t:Ty)(g:iA t)(hs:yC t)(hl:t.aC<1000000):ap Tryz.prog 86 [t.av] [] (bH (Di (told t))):=by
 refine Qf _ ((aF _).mpr trivial) ?_
 unfold Lh
 refine an (D3 t hl) ?_
 simp only[↓zq,zs,ae,zt]
 refine⟨fun h=>?_,fun h=>?_⟩
 ·have:told t=none:=by unfold told;rw[if_neg fun h'=>by have:=h'.1;omega]
  rw[this];exact⟨rfl,rfl⟩
 ·have h4:t.aC<=400:=by omega
  refine an (PL t g hs h4) ?_
  simp only[↓zq,zs,ae,zt]
  refine an (EK (LZ t)) ?_
  simp only[↓zq,zs,ae,zt,ii]
  unfold told
  cases q:s4 (LZ t)with
  |
   none =>
   simp only[gZ,↓zq,zs,ae]
   rw[if_neg (by simp)]
   exact⟨fun _=>⟨rfl,rfl⟩,fun h=>(by cases h)⟩
  |
   some u =>
   simp only[gZ,↓zq,zs,ae,fy]
   rw[if_pos ⟨h4,rfl⟩]
   exact⟨fun h=>(by cases h),fun _=>⟨rfl,rfl⟩⟩
theorem Qg(s:Nm):ap Tryz.prog 53 [.v (.string (mk s))] [] (bH (Di (ej s))):=by
 refine PW _ ?_
 unfold J0
 refine an (EK s) ?_
 simp only[↓zq,zs,ae,zt,ii]
 cases q:s4 s with
 |
  none =>
  have:ej s=none:=by unfold ej;rw[q]
  rw[this]
  simp only[gZ,↓zq,zs,ae]
  exact⟨fun _=>⟨rfl,rfl⟩,fun h=>(by cases h)⟩
 |
  some t =>
  simp only[gZ,↓zq,zs,ae,fy]
  have notRec:(∀a,t≠.rc a)->ej s=none:=fun hn=>by
   unfold ej;rw[q]
   cases t<;>first|rfl|exact absurd rfl (hn _)
  refine⟨fun h=>(by cases h),fun _=>?_⟩
  cases t with
  |
   rc a =>
   have h4:=s6 q
   simp only[Ty.aC]at h4
   have hq:ej s=(vK a mH).bind told:=by unfold ej;rw[q]
   obtain⟨e,he,hw,hte,hats,hok⟩:=rT q
   have hgood:∀d,vK a mH=some d->iA d/\(yC (.rc a)->yC d):=fun d hd=>vH hw hte ⟨by simp,by simp,by simp⟩ hd
   rw[hq]
   simp only[Ty.av,↓zq,zs,ae]
   refine⟨by omega,fun h=>by omega,fun _=>?_⟩
   have hld:=Oq a (by omega) (fun j=>by
    cases q2:bm (hN j) a with
    |false=>rfl
    |true=>exact absurd rfl ((wJ (mU q (hN j) q2)).2 (dd j)))
   simp only[Ty.av]at hld
   refine aV hld (Nu.ne _) ?_
   rintro r ob ⟨rfl,p,hp,rfl,hpe⟩
   simp only[↓zq,zs,ae,zt,eq_true hp]
   cases q1:vK a mH with
   |
    none =>
    simp only[Option.isSome_none,dw]
    exact⟨fun _=>⟨rfl,rfl⟩,fun h=>(by cases h)⟩
   |
    some d =>
    simp only[Option.isSome_some,ck]
    refine⟨fun h=>(by cases h),fun _=>?_⟩
    rw[hpe d q1]
    have hl:d.aC<=400:=by
     simp only[vK,bA,je]at q1
     obtain⟨_,_,h1,h2⟩:=q1
     rw[<-h2];exact h1
    refine an (N5 d (hgood d q1).1 ((hgood d q1).2 (GF q)) (by omega)) ?_
    cases told d<;>simp only[Di,↓zq,zs,ae,zt]<;>exact⟨rfl,rfl⟩
  |
   _ =>
   rw[notRec fun a h=>by cases h]
   simp only[Ty.av,↓zq,zs,ae]
   exact⟨by omega,fun _=>⟨rfl,rfl⟩,fun h=>by omega⟩
end Go.Proofs.Trees
namespace Go.Proofs.Trees
open Go Go.VL Go.RowKit
def xD(l:List Vl):List (List AV):=l.map fun c=>[c.cx]
theorem qj(l:List Vl):(xD l).length=l.length:=by simp[xD]
theorem Cz{l:List Vl}{i:Nat}(h:i<l.length):(xD l).getD i []=[(l[i]).cx]:=by simp[xD,aa,h]
theorem xj(l:List Vl)(c:Vl):xD l++[[c.cx]]=xD (l++[c]):=by simp[xD]
def HN(s:Nm)(a:Ty)(l:List Vl)(v:Vl):AV:=.ptr [.v (.string (mk s)),(Ty.rc a).av,.sl (xD l),v.cx]
def oZ(s:Nm)(a:Ty):Option (List Vl×Vl)->AV
 |some r=>HN s a r.1 r.2
 |none=>jZ
theorem oX(s:Nm)(a:Ty)(o:Option (List Vl×Vl)):LK.has .ptr (oZ s a o)=True:=by cases o<;>simp[oZ,HN,gp,cu]
theorem MN{s d:Nm}{a:Ty}{x A B:E}{D:Ty}(z:ZT s d a x A B D)(pa:AV)(p:List Nm)(hp:cZ pa p)(hl:p.length<=50)(v:Vl):∀(k i:Nat) (l0:List Vl),i+k=p.length->l0.length<=i ->
 Gw [.v (.string (mk d)),pa,.v (.int .i64 (p.length:Int)),.v (.int .i64 (i:Int))] [.cells [.v (.string (mk s)),(Ty.rc a).av,.any,v.cx],.vec 1 (xD l0)]
  (ru (match fC d (p.drop i)with|some l=>(1,[],[.cells [.v (.string (mk s)),(Ty.rc a).av,.any,v.cx],.vec 1 (xD (l0++l))])|none=>(2,[jZ],[])))
 |
  0,i,l0,hi,HT=>by
  refine Kg _ _ _ _ _ _ _ _ ?_
  have:i=p.length:=by omega
  subst this
  simp only[GO,↓zq,zs,ae,ae,aF,aR,List.drop_length]
  exact⟨hp.1,fun h=>by omega,fun _=>by simp[ru,fC]⟩
 |
  k+1,i,l0,hi,HT=>by
  have hlt:i<p.length:=by omega
  have hd:p.drop i=p.getD i []::p.drop (i+1):=by rw[aL hlt];simp[aa,hlt]
  refine Kg _ _ _ _ _ _ _ _ ?_
  simp only[GO,↓zq,zs,ae,zt,ae,aF,aR,hp.len,hp.idx hlt,bB]
  refine⟨hp.1,fun _=>⟨⟨hp.1,by omega,by omega⟩,by omega,?_⟩,fun h=>by omega⟩
  refine an (Ia d (p.getD i []) 100) ?_
  rw[hd,fC]
  simp only[↓zq,zs,ae,zt,ii,gl]
  cases q:pV d (p.getD i []) 100 with
  |
   none =>
   simp only[iq,↓zq,zs,ae]
   exact⟨fun _=>by first|trivial|rfl,fun h=>(by cases h)⟩
  |
   some w =>
   simp only[iq,↓zq,zs,ae,eQ,xj]
   refine⟨fun h=>(by cases h),fun _=>?_⟩
   rw[bh i (by omega)]
   have ih:=MN z pa p hp hl v k (i+1) (l0++[w]) (by omega) (by simp;omega)
   refine⟨⟨fun c hc=>by simp at hc;rw[hc];rfl,by rw[qj];omega⟩,?_⟩
   cases q2:fC d (p.drop (i+1))with
   |none=>rw[q2]at ih;exact ih
   |some l=>rw[q2]at ih;simp only[aS,bz,aQ]at ih;exact ih
theorem uE{s:Nm}{p:List Nm}{f:Nm}{l:List Vl}{v:Vl}(h:yA s p f=some (l,v)):∃d a x A B D,ZT s d a x A B D/\ZI a l v/\p=l.map (·.dT)/\f=v.dT/\p.length<=50/\zA s=a/\lD s f=some v/\fC d p=some l:=by
 unfold yA at h
 split at h
 ·rename_i v' d h1 h2
  split at h
  ·rename_i hl
   obtain⟨l',h3,h4⟩:=Option.map_eq_some_iff.1 h
   cases h4
   obtain⟨a,_,_,_,L⟩:=gK h1
   obtain⟨x,A,B,D,z⟩:=ZT.of L.l h2
   obtain⟨q1,q2⟩:=qZ z p l h3
   obtain⟨q3,q4⟩:=z.yN h1
   exact⟨d,a,x,A,B,D,z,⟨q2,q3⟩,q1,q4,hl,by unfold zA;rw[L.l];rfl,h1,h3⟩
  ·cases h
 ·cases h
theorem QL(s:Nm)(pa:AV)(p:List Nm)(hp:cZ pa p)(f:Nm):ap Tryz.prog 30 [.agg [.v (.string (mk s)),pa,.v (.string (mk f))]] [] (bH (oZ s (zA s) (yA s p f))):=by
 refine Ou _ _ _ hp.1 ?_
 unfold MM
 refine an (Kj s f) ?_
 have hlt:LK.has .ptr (zT s)=True:=by unfold zT;split<;>simp[aF,gp]
 simp only[↓zq,zs,ae,zt,hlt,gl]
 refine an (Qg s) ?_
 have ho:∀o:Option Nm,Di o=.cQ [.v (.string (mk (o.getD []))),.v (.bool o.isSome)]:=fun o=>by cases o<;>rfl
 rw[ho]
 simp only[↓zq,zs,ae,zt]
 unfold yA
 cases h1:lD s f with
 |
  none =>
  simp only[iq,↓zq,zs,ae]
  exact⟨fun _=>⟨rfl,rfl⟩,fun h=>(by cases h)⟩
 |
  some v =>
  simp only[iq,↓zq,zs,ae,eQ]
  refine⟨fun h=>(by cases h),fun _=>?_⟩
  cases h2:ej s with
  |
   none =>
   simp only[Option.isSome_none]
   exact⟨fun _=>⟨rfl,rfl⟩,fun h=>(by cases h)⟩
  |
   some d =>
   simp only[Option.isSome_some,cK,hp.len]
   refine⟨fun h=>(by cases h),fun _=>⟨hp.1,fun h=>?_,fun h=>?_⟩⟩
   ·rw[if_neg (by omega)];exact⟨rfl,rfl⟩
   ·have hl:p.length<=50:=by omega
    rw[if_pos hl]
    obtain⟨a,_,_,_,L⟩:=gK h1
    obtain⟨x,A,B,D,z⟩:=ZT.of L.l h2
    have ht:zT s=(Ty.rc a).av:=by unfold zT;rw[L.l]
    have hza:zA s=a:=by unfold zA;rw[L.l];rfl
    rw[ht,hza]
    refine⟨hp.1,?_⟩
    have hloop:=MN z pa p hp hl v p.length 0 [] (by omega) (by simp)
    rw[aX]at hloop
    refine hH hloop (fun ys o e=>?_) (fun ys o e=>?_)
    ·cases q:fC d p with
     |none=>rw[q]at e;cases e
     |
      some l =>
      rw[q]at e
      cases e
      simp only[↓zq,zs,ae,zt,ae,aK,aF,aR,cr]
      exact⟨rfl,rfl⟩
    ·cases q:fC d p with
     |
      none =>
      rw[q]at e
      cases e
      simp only[↓zq,zs,ae,zt,ae,aK,Option.map_none]
      exact⟨rfl,rfl⟩
     |some l=>rw[q]at e;cases e
end Go.Proofs.Trees
namespace Go.Proofs.Trees
open Go Go.VL Go.RowKit
abbrev tZ(s:Nm):Option (List Vl×Vl)->Nm×List Nm×Nm
 |some r=>(s,r.1.map (·.dT),r.2.dT)
 |none=>([],[],[])
def GZ(o:Option (List Vl×Vl)):Prop:=∀r,o=some r->(∀c,c∈r.1->c.dT.length<=900000)/\r.2.dT.length<=900000/\r.1.length<=51
theorem Cx.dT{a:Ty}{c:Vl}(h:Cx a c):c.dT.length<=900000:=by have:=jw c h.jf;have:=h.nd;omega
theorem Fo.dT{a:Ty}{c:Vl}(h:Fo a c):c.dT.length<=900000:=by have:=jw c h.jf;have:=h.nd;omega
theorem ZI.gz{a:Ty}{l:List Vl}{v:Vl}(h:ZI a l v)(hl:l.length<=51):GZ (some (l,v)):=fun r hr=>by
 cases hr;exact⟨fun c hc=>(h.Ez c hc).dT,h.yN.dT,hl⟩
theorem GZ.none:GZ none:=fun r hr=>by cases hr
theorem KP(l:List Vl)(hl:l.length<=51)(ht:∀c,c∈l->c.dT.length<=900000)(s f:Nm):∀(k i:Nat) (out:List Nm),i+k=l.length->out.length<=i ->
 GG [.sl (xD l),.v (.int .i64 (l.length:Int)),.v (.int .i64 (i:Int))] [.cells [.v (.string (mk [])),Hd,.v (.string (mk []))],.cells [.v (.string (mk s)),.any,.v (.string (mk f))],.vec 1 (bw out)]
  (ga 1 [] [.cells [.v (.string (mk [])),Hd,.v (.string (mk []))],.cells [.v (.string (mk s)),.any,.v (.string (mk f))],.vec 1 (bw (out++(l.drop i).map (·.dT)))])
 |
  0,i,out,hi,ho=>by
  refine J7 _ _ _ _ _ _ _ _ _ ?_
  have:i=l.length:=by omega
  subst this
  simp only[EY,↓zq,zs,ae,zt,ae,be,List.drop_length]
  exact⟨fun h=>by omega,fun _=>by simp[ga]⟩
 |
  k+1,i,out,hi,ho=>by
  have hlt:i<l.length:=by omega
  refine J7 _ _ _ _ _ _ _ _ _ ?_
  simp only[EY,↓zq,zs,ae,zt,ae,be,qj,Cz hlt,aR,bB]
  refine⟨fun _=>?_,fun h=>by omega⟩
  repeat refine⟨by omega,?_⟩
  refine an (DY (l[i]) (ht _ (bE hlt))) ?_
  simp only[↓zq,zs,ae,zt,BS,mo]
  refine⟨⟨fun c hc=>by simp at hc;rw[hc];rfl,by omega⟩,?_⟩
  rw[bh i (by omega),aL hlt,bp]
  have:=KP l hl ht s f k (i+1) (out++[(l[i]).dT]) (by omega) (by simp;omega)
  rw[aS]at this
  exact this
theorem O8(s:Nm)(a:Ty)(o:Option (List Vl×Vl))(h:GZ o):ap Tryz.prog 32 [oZ s a o] [] (cN (.cQ [.agg [.v (.string (mk (tZ s o).1)),.vec 0,.v (.string (mk (tZ s o).2.2))],.v (.bool o.isSome)]) [.vec 1 (bw (tZ s o).2.1)]):=by
 refine OI _ (by rw[oX];trivial) ?_
 unfold Mi
 cases o with
 |
  none =>
  simp only[oZ,↓zq,zs,ae]
  exact⟨fun _=>⟨rfl,rfl⟩,fun h=>(by cases h)⟩
 |
  some r =>
  obtain⟨h1,h2,h3⟩:=h r rfl
  simp only[oZ,HN,↓zq,zs,ae,zt,aF,aR]
  refine⟨fun h=>(by cases h),fun _=>?_⟩
  repeat refine⟨by omega,?_⟩
  refine an (DY r.2 h2) ?_
  simp only[↓zq,zs,ae,zt,aF,aR,qj]
  repeat refine⟨by omega,?_⟩
  have hlp:=KP r.1 h3 h1 s r.2.dT r.1.length 0 [] (by omega) (by simp)
  rw[aX,aQ]at hlp
  refine cb hlp ?_
  simp only[↓zq,zs,ae,zt,ae,aK,be]
  exact⟨rfl,rfl⟩
theorem pq{s:Nm}{p:List Nm}{f:Nm}{l:List Vl}{v:Vl}(h:uF s p f=some (l,v)):yA s p f=some (l,v)/\(w4 (zA s) l v).isSome=true:=by
 unfold uF at h
 obtain⟨r,h1,h2⟩:=bA.1 h
 split at h2
 ·rename_i hc
  cases h2
  exact⟨h1,hc⟩
 ·cases h2
abbrev Qe(s:Nm)(o:Option (List Vl×Vl)):AV->List Ob->Prop:=cN (.cQ [.agg [.v (.string (mk (tZ s o).1)),.vec 0,.v (.string (mk (tZ s o).2.2))],.v (.bool o.isSome)]) [.vec 1 (bw (tZ s o).2.1)]
end Go.Proofs.Trees
namespace Go.Proofs.Trees
open Go Go.VL Go.RowKit
def lI:E->Option E
 | .list [x,a,b]=>if x.at=[114,101,99]then some (.list [x,a,b])else none
 |_=>none
def ox(s:List UInt8):Option E:=match jr s with
 |some e=>lI e
 |none=>none
theorem Of(s:List UInt8):ap Tryz.prog 45 [.v (.string (mk s))] [] (mD (ox s) (ox s).isSome):=by
 refine Od _ ?_
 unfold Ii
 refine aV (F3 s) (mD.ne _ _ (fun h=>h)) ?_
 rintro r o ⟨c,d,hd,rfl,hh⟩
 have hhas:cc [.str,.sl] [.v (.string (mk c)),d] 0:=by simp[cc,eV,hd]
 simp only[↓zq,zs,ae,zt]
 refine⟨hhas,fun h=>?_,fun h=>?_⟩
 ·obtain⟨e,he,hce⟩:=hh h
  obtain⟨t,h1,hA,h3,h4,h5,_⟩:=gJ he
  have hce':=hce
  rw[ei]at hce'
  simp only[AV.agg.injEq,List.cons.injEq,AV.v.injEq,Value.string.injEq,and_true]at hce'
  obtain⟨hc1,rfl⟩:=hce'
  have hc2:=vS hc1
  subst hc2
  have head:∀w:List UInt8,ap Tryz.prog 71 [.agg [.v (.string (mk e.at)),e.sp]] [] (bH (.v (.string (mk w))))->(w=[114,101,99]↔(lI e).isSome=true)->((lI e).isSome=true->lI e=some e) ->
   eF Tryz.prog 18 (Tree.call 71 [.agg [.v (.string (mk e.at)),e.sp]] [] fun r2 o2=>Tree.aj (LK.str.has r2) (Tree.done 0 [.cQ [.agg [.v (.string (mk e.at)),e.sp],.v (.bool (af r2.ah==[114,101,99]))]] [])) fun _ xs obs=>mD (ox s) (ox s).isSome (xs.headD .any) obs:=by
   intro w hw h1 h2
   refine an hw ?_
   simp only[↓zq,zs,ae,zt]
   refine⟨e.at,e.sp,hd,?_,fun hs=>⟨e,?_,(ei e).symm⟩⟩
   ·congr 3
    simp only[ox,he,AV.v.injEq,Value.bool.injEq,List.cons.injEq,and_true]
    rw[cq];simpa using h1
   ·simp only[ox,he]at hs |-;exact h2 hs
  have hl:∀x l,e=.list (x::l)->ap Tryz.prog 71 [.agg [.v (.string (mk e.at)),e.sp]] [] (bH (.v (.string (mk x.at)))):=by
   rintro x l rfl;exact vY x l
  have ha:∀s0,e=.atom s0->ap Tryz.prog 71 [.agg [.v (.string (mk e.at)),e.sp]] [] (bH (.v (.string (mk [])))):=by
   rintro s0 rfl;exact A0 s0 _ ((be).mpr trivial) hA.ok
  rcases im hA.wf hA.ty with⟨hb,_⟩|⟨u,g,rfl,_,hg⟩
  ·rcases fR hA.ty hb hA.cl with⟨rfl,rfl⟩|⟨rfl,rfl⟩|⟨s0,rfl,rfl,hp,h0,h1⟩|⟨x,a,b,t1,t2,rfl,hx,rfl,ha',hbb⟩|⟨x,a,b,t1,t2,rfl,hx,rfl,ha',hbb⟩|⟨x,a,b,t1,rfl,hx,rfl⟩
   ·exact head _ (ha _ rfl) (by simp[lI]) (by simp[lI])
   ·exact head _ (ha _ rfl) (by simp[lI]) (by simp[lI])
   ·exact head _ (ha _ rfl) (by simp[lI]) (by simp[lI])
   ·exact head _ (hl _ _ rfl) (by simp[lI,hx]) (by simp[lI,hx])
   ·exact head _ (hl _ _ rfl) (by simp[lI,hx]) (by simp[lI,hx])
   ·exact head _ (hl _ _ rfl) (by simp[lI,hx]) (by simp[lI,hx])
  ·simp at hg
 ·have hn:jr s=none:=by cases hq:jr s<;>simp[hq]at h |-
  refine⟨c,d,hd,?_,fun h=>?_⟩
  ·simp[ox,hn]
  ·simp[ox,hn]at h
theorem uN(s:List UInt8):(ox s).isSome=(jC s).isSome:=by
 unfold ox jC
 cases h:jr s with
 |none=>rw[mJ h];rfl
 |
  some e =>
  obtain⟨t,h1,hA,h3,h4,h5,_⟩:=gJ h
  rw[h1]
  simp only
  rcases im hA.wf hA.ty with⟨hb,_⟩|⟨u,g,rfl,_,hg⟩
  ·rcases fR hA.ty hb hA.cl with⟨rfl,rfl⟩|⟨rfl,rfl⟩|⟨s0,rfl,rfl,hp,h0,h1⟩|⟨x,a,b,t1,t2,rfl,hx,rfl,ha',hbb⟩|⟨x,a,b,t1,t2,rfl,hx,rfl,ha',hbb⟩|⟨x,a,b,t1,rfl,hx,rfl⟩<;>simp_all[lI]
  ·simp at hg
theorem LV.le{s v:List UInt8}{w:Vl}{a:Ty}{x A B:E}(h:LV s v w a x A B):ox s=some (.list [x,A,B]):=by
 unfold ox;rw[h.ce];simp[lI,h.hx]
theorem Qu(n:Nat)(v:Vl)(x A B:E)(a:Ty)(hA:Ask B [.mk A.at (.list [x,A,B]) []] a)(hx:x.at=[114,101,99])(w:Vl)(hw:v=.f w)(hv:ez n v (.list [x,A,B],[])=true)(hl:v.nodes<90000) :
 ap Tryz.prog 77 [.agg [.v (.string (mk B.at)),B.sp],.v (.string (mk A.at)),.agg [.v (.string (mk w.db.at)),w.db.sp]] [] (bH (.sl (lW (kids a v)))):=by
 subst hw
 obtain⟨w',e,hw'⟩:=qt .nil hx hv
 cases e
 simp only[Vl.nodes]at hl
 have hnm:names [Fr.mk A.at (.list [x,A,B]) []]=[]++[A.at]:=rfl
 have h:=Ef n w.nodes w (aq _) B _ a hA hw' (by simp;omega) A.at (by rw[hnm];right;rw[gR];rfl)
 rw[hnm,uB]at h
 exact h
end Go.Proofs.Trees
namespace Go.Proofs.Trees
open Go Go.VL Go.RowKit
abbrev QQ:Ob:=.cells [.v (.string (mk [])),.v (.slice none 0 0),.v (.string (mk []))]
theorem ZT.le{s d:Nm}{a:Ty}{x A B:E}{D:Ty}(z:ZT s d a x A B D):ox s=some (.list [x,A,B]):=by
 unfold ox;rw[z.ce];simp[lI,z.hx]
theorem qS{d:Nm}:∀{p:List Nm} {l:List Vl},fC d p=some l->p=l.map (·.dT)->∀c,c∈l->pV d c.dT 100=some c
 |[],l,h,_,c,hc=>by cases h;cases hc
 |
  q::r,l,h,hp,c,hc=>by
  simp only[fC]at h
  split at h
  ·rename_i w l' h1 h2
   cases h
   simp only[bp,List.cons.injEq]at hp
   rcases aH.1 hc with rfl|hc
   ·rw[<-hp.1];exact h1
   ·exact qS h2 hp.2 c hc
  ·cases h
structure St(s d:Nm)(a:Ty)(l:List Vl)(v:Vl):Prop where
 z:∃x A B D,ZT s d a x A B D
 i:ZI a l v
 each:∀c,c∈l->pV d c.dT 100=some c
 len:l.length<=50
theorem St.up{s d:Nm}{a:Ty}{l l':List Vl}{v w:Vl}(h:St s d a l v)(hu:DW a l v=some (l',w)):St s d a l' w:=by
 obtain⟨h1,h2,c,h3,_⟩:=Hi h.i hu
 have hl:=h.len
 exact⟨h.z,h1,fun c' hc'=>h.each c' (by rw[h3];exact aB _ hc'),by omega⟩
def La(o:Option Vl):AV->List Ob->Prop:=fun r ob=>ob=[]/\∃c0 pa c2,LK.sl.has pa/\r=.cQ [.agg [.v (.string c0),pa,.v (.string c2)],.v (.bool o.isSome)]/\∀w,o=some w->c2=mk w.dT
theorem La.ne(o:Option Vl):∃r ob,La o r ob:=⟨_,[],rfl,mk [],.sl [],mk ((o.map (·.dT)).getD []),(ci _).mpr trivial,rfl,fun w h=>by rw[h];rfl⟩
theorem AJ(s:Nm)(p:List Nm)(f:Nm):yA s p f=(ej s).bind fun d=>(jC s).bind fun _=>(pV s f 100).bind fun v=>if p.length<=50 then(fC d p).map fun l=>(l,v)else none:=by
 unfold yA lD
 cases jC s with
 |none=>cases ej s<;>rfl
 |some a=>cases pV s f 100<;>cases ej s<;>rfl
end Go.Proofs.Trees
namespace Go.Proofs.Trees
open Go Go.VL Go.RowKit
inductive Rl(x:Nm):Nat->Tg->Tg->Prop
 |nm (i):Rl x i (.nm x) (.bd i)
 |ke (i s) (h:s≠x):Rl x i (.nm s) (.nm s)
 |bd (i j) (h:j≠i):Rl x i (.bd j) (.bd j)
theorem Rl.up{x:Nm}{i:Nat}{a b:Tg}(h:Rl x i a b):Rl x (i+1) a.up b.up:=by
 cases h with
 |nm=>exact .nm _
 |ke s h=>exact .ke _ _ h
 |bd j h=>exact .bd _ _ (by omega)
theorem Rl.at{x:Nm}{i:Nat}{a b:Tg}(h:Rl x i a b):∀t:Ty,bm x t=false->fu (dN (.name x) t i) a=fu t b
 |
  .bO k,_=>by
  simp only[dN]
  cases h with
  |
   nm =>
   by_cases e:k=i
   ·simp[e,fu]
   ·simp[e,fu]
  |
   ke s h =>
   by_cases e:k=i
   ·simp[e,fu,Ne.symm h]
   ·simp[e,fu]
  |
   bd j h =>
   by_cases e:k=i
   ·simp[e,fu,Ne.symm h]
   ·simp[e,fu]
 |
  .name s,hn=>by
  have hs:s≠x:=by simpa[bm]using hn
  cases h with
  |nm=>simp[dN,fu,hs]
  |ke=>rfl
  |bd=>rfl
 | .plus _ _,_=>by cases h<;>rfl
 | .times _ _,_=>by cases h<;>rfl
 | .rc _,_=>by cases h<;>rfl
 | .zero,_=>by cases h<;>rfl
 | .one,_=>by cases h<;>rfl
theorem gV(x:Nm):∀(n:Nat) (t:Ty) (i:Nat) (a b:Tg) (v:Vl),bm x t=false->Rl x i a b->eh n (dN (.name x) t i) a v=eh n t b v
 |0,_,_,_,_,_,_,_=>rfl
 |
  n+1,t,i,a,b,v,hn,h=>by
  rw[eh,eh,h.at t hn]
  by_cases ht:fu t b=true
  ·rw[if_pos ht,if_pos ht]
  ·rw[if_neg ht,if_neg ht]
   cases t with
   |
    plus p q =>
    simp only[bm,cj]at hn
    cases v<;>simp only[dN,kt,gV x n p i a b _ hn.1 h,gV x n q i a b _ hn.2 h]
   |
    times p q =>
    simp only[bm,cj]at hn
    cases v<;>simp only[dN,kt,gV x n p i a b _ hn.1 h,gV x n q i a b _ hn.2 h]
   |
    rc p =>
    have h0:Rl x (i+1) (.bd 0) (.bd 0):=.bd _ _ (by omega)
    cases v<;>simp only[dN,kt]
    rename_i w
    rw[gV x n p (i+1) a.up b.up w hn h.up,gV x n p (i+1) (.bd 0) (.bd 0) w hn h0]
    congr 1
    apply jI
    intro k _
    have:=gV x n (.rc p) i a b k.2 hn h
    simp only[dN]at this
    rw[this]
   |
    bO k =>
    simp only[dN]
    by_cases e:k=i
    ·rw[if_pos e];cases v<;>rfl
    ·rw[if_neg e];cases v<;>rfl
   |name s=>rfl
   |zero=>rfl
   |one=>rfl
theorem nw(x:Nm){t:Ty}{i:Nat}{a b:Tg}(v:Vl)(hn:bm x t=false)(h:Rl x i a b):bW (dN (.name x) t i) a v=bW t b v:=gV x _ t i a b v hn h
theorem mq(n:Nat):∀(m:Nat) (v:Vl),v.nodes<=m->∀(t:Ty) (s:Nm) (d:Ty) (σ:Nm->Option Ty),Dv t s d->CT σ->j0 t 0->vT n v (eN σ t)=true->∀h,h∈bW t (.nm s) v ->
 vT n h.1 (eN σ d)=true/\vT n h.2 (eN σ (.name s))=true/\fZ t h.1 h.2=v
 |0,v,hm=>by have:=cJ v;omega
 |
  m+1,v,hm=>by
  intro t s d σ hd hσ hl hv h hh
  cases hd with
  |zero=>rw[dH rfl (by cases v<;>rfl)]at hh;cases hh
  |one=>rw[dH rfl (by cases v<;>rfl)]at hh;cases hh
  |bO=>rw[dH rfl (by cases v<;>rfl)]at hh;cases hh
  |qQ hne=>rw[dH (by simp[fu,hne]) (by cases v<;>rfl)]at hh;cases hh
  |
   hit =>
   rw[mF v (by simp[fu])]at hh
   simp only[aU]at hh
   subst hh
   exact⟨rfl,hv,sN _ _ _⟩
  |
   @plus a b _ a' b' h1 h2 _ =>
   rcases kW hv with⟨w,rfl,hw⟩|⟨w,rfl,hw⟩
   ·simp only[Vl.nodes]at hm
    rw[mR]at hh
    obtain⟨k,hk,rfl⟩:=dx hh
    obtain⟨q1,q2,q3⟩:=mq n m w (by omega) _ s _ σ h1 hσ hl.1 hw k hk
    exact⟨q1,q2,congrArg Vl.l q3⟩
   ·simp only[Vl.nodes]at hm
    rw[mN]at hh
    obtain⟨k,hk,rfl⟩:=dx hh
    obtain⟨q1,q2,q3⟩:=mq n m w (by omega) _ s _ σ h2 hσ hl.2 hw k hk
    exact⟨q1,q2,congrArg Vl.r q3⟩
  |
   @times a b _ a' b' h1 h2 _ =>
   obtain⟨x,y,rfl,hx,hy⟩:=jF hv
   simp only[Vl.nodes]at hm
   rw[mV]at hh
   rcases aM.1 hh with hh|hh
   ·obtain⟨k,hk,rfl⟩:=dx hh
    obtain⟨q1,q2,q3⟩:=mq n m x (by omega) _ s _ σ h1 hσ hl.1 hx k hk
    refine⟨?_,q2,congrArg (fun q=>Vl.p q y) q3⟩
    show (vT n k.1 (eN σ a')&&vT n y (eN σ b))=true
    rw[q1,hy];rfl
   ·obtain⟨k,hk,rfl⟩:=dx hh
    obtain⟨q1,q2,q3⟩:=mq n m y (by omega) _ s _ σ h2 hσ hl.2 hy k hk
    refine⟨?_,q2,congrArg (Vl.p x) q3⟩
    show (vT n x (eN σ a)&&vT n k.1 (eN σ b'))=true
    rw[q1,hx];rfl
  |
   @rc a _ c0 d0 x hx hs h1 h2 hsz =>
   have lo:j0 (dN (.name x) a 0) 0:=iK x a hl
   obtain⟨X,e1,e2⟩:=rk (x:=x) hσ hl (h1.lc lo) (h2.lc lo)
   obtain⟨w,rfl,hw⟩:=DI hv
   simp only[Vl.nodes]at hm
   have hcl:=n9 hσ x (km hσ (.rc a) hl)
   have hop:eN (i7 σ x (eN σ (.rc a))) (dN (.name x) a 0)=dN (eN σ (.rc a)) (eN σ a) 0:=jp hσ x _ a 0 hx
   have hns:eN (i7 σ x (eN σ (.rc a))) (.name s)=eN σ (.name s):=by simp only[eN,i7,if_neg (Ne.symm hs)]
   have hnx:eN (i7 σ x (eN σ (.rc a))) (.name x)=eN σ (.rc a):=by simp[eN,i7]
   have hw':vT n w (eN (i7 σ x (eN σ (.rc a))) (dN (.name x) a 0))=true:=by rw[hop];exact hw
   have ty:∀y,vT n y (dN (.rc X) X 0)=true->vT n (.f y) (eN σ (sA a x c0 d0))=true:=fun y hy=>by rw[e1];exact hy
   rw[mO]at hh
   rcases aM.1 hh with hh|hh
   ·obtain⟨k,hk,rfl⟩:=dx hh
    have hk':k∈bW (dN (.name x) a 0) (.nm s) w:=by rw[nw x w hx (.ke 0 s (Ne.symm hs))];exact hk
    obtain⟨q1,q2,q3⟩:=mq n m w (by omega) _ s _ _ h1 hcl lo hw' k hk'
    rw[eU x k.1.nodes k.1 a 0 k.2 (aq _)]at q3
    refine⟨ty _ ?_,by rw[<-hns];exact q2,congrArg Vl.f q3⟩
    rw[e2];exact q1
   ·obtain⟨k,hk,hh⟩:=dq.1 hh
    obtain⟨k2,hk2,rfl⟩:=dx hh
    have hk':k∈bW (dN (.name x) a 0) (.nm x) w:=by rw[nw x w hx (.nm 0)];exact hk
    obtain⟨q1,q2,q3⟩:=mq n m w (by omega) _ x _ _ h2 hcl lo hw' k hk'
    rw[eU x k.1.nodes k.1 a 0 k.2 (aq _)]at q3
    rw[hnx]at q2
    have hsz2:=(iZ hk).1
    obtain⟨r1,r2,r3⟩:=mq n m k.2 (by omega) (.rc a) s _ σ (.rc x hx hs h1 h2 hsz) hσ hl q2 k2 hk2
    refine⟨ty _ ?_,r2,?_⟩
    ·rw[e2]
     show (vT n k.1 _&&vT n k2.1 _)=true
     rw[q1,r1];rfl
    ·show Vl.f (fZ a k.1 (fZ (.rc a) k2.1 k2.2))=.f w
     rw[r3,q3]
theorem Ce{n:Nat}{a D:Ty}{x:Nm}(hx:bm x a=false)(hl:j0 (.rc a) 0)(h:vK a x=some D){v:Vl}(hv:vT n v (.rc a)=true){k:Hl}(hk:k∈kids a v) :
 vT n k.1 D=true/\vT n k.2 (.rc a)=true/\.f (fZ a k.1 k.2)=v:=by
 simp only[vK,bA,dG,je]at h
 obtain⟨d,hd,_,rfl⟩:=h
 have lo:j0 (dN (.name x) a 0) 0:=iK x a hl
 have hcl:=n9 ug x hl
 have e1:sub x (.rc a) d=eN (i7 Fp x (.rc a)) d:=by
  have:=iT Fp x (.rc a) d
  rw[jL,jL]at this;exact this
 obtain⟨w,rfl,hw⟩:=DI hv
 have hk':k∈bW (dN (.name x) a 0) (.nm x) w:=by rw[nw x w hx (.nm 0)];exact hk
 have hop:eN (i7 Fp x (.rc a)) (dN (.name x) a 0)=dN (.rc a) a 0:=by rw[jp ug x _ a 0 hx,jL]
 obtain⟨q1,q2,q3⟩:=mq n w.nodes w (aq _) _ x _ _ hd hcl lo (by rw[hop];exact hw) k hk'
 rw[eU x k.1.nodes k.1 a 0 k.2 (aq _)]at q3
 refine⟨by rw[e1];exact q1,?_,congrArg Vl.f q3⟩
 simpa[eN,i7]using q2
theorem gU:∀{t:Ty},bP t=true->∃y,bm y t=true/\cS y=true
 | .name s,h=>⟨s,by simp[bm],h⟩
 |
  .plus a b,h=>by
  simp only[bP,bn]at h
  rcases h with h|h
  ·obtain⟨y,h1,h2⟩:=gU h;exact⟨y,by simp[bm,h1],h2⟩
  ·obtain⟨y,h1,h2⟩:=gU h;exact⟨y,by simp[bm,h1],h2⟩
 |
  .times a b,h=>by
  simp only[bP,bn]at h
  rcases h with h|h
  ·obtain⟨y,h1,h2⟩:=gU h;exact⟨y,by simp[bm,h1],h2⟩
  ·obtain⟨y,h1,h2⟩:=gU h;exact⟨y,by simp[bm,h1],h2⟩
 |
  .rc a,h=>by
  obtain⟨y,h1,h2⟩:=gU (t:=a) h;exact⟨y,by simp[bm,h1],h2⟩
theorem gI:∀{t:Ty} {y:Nm},bm y t=true->cS y=true->bP t=true
 |
  .name s,y,h,hl=>by
  have:s=y:=by simpa[bm]using h
  rw[this];exact hl
 |
  .plus a b,y,h,hl=>by
  simp only[bm,bn]at h
  simp only[bP,bn]
  exact h.imp (gI · hl) (gI · hl)
 |
  .times a b,y,h,hl=>by
  simp only[bm,bn]at h
  simp only[bP,bn]
  exact h.imp (gI · hl) (gI · hl)
 | .rc a,y,h,hl=>gI (t:=a) h hl
 | .zero,y,h,_=>by simp[bm]at h
 | .one,y,h,_=>by simp[bm]at h
 | .bO k,y,h,_=>by simp[bm]at h
theorem ZT.Ri{s d:Nm}{a:Ty}{x A B:E}{D:Ty}(z:ZT s d a x A B D):∃e,jr d=some e/\Ask e [] D:=by
 have hcl:bP D=false:=by
  cases q:bP D with
  |false=>rfl
  |
   true =>
   obtain⟨y,h1,h2⟩:=gU q
   have:=gI (t:=.rc a) (sS z.lp y h1) h2
   rw[z.ask.cl]at this;cases this
 have hc:wj d=some D:=by unfold wj;rw[z.bk];simp only;rw[if_pos (by rw[sF,hcl];rfl)]
 cases q:jr d with
 |none=>rw[mJ q]at hc;cases hc
 |
  some e =>
  obtain⟨t,h1,hA,_⟩:=gJ q
  rw[hc]at h1;cases h1
  exact⟨e,rfl,hA⟩
theorem ZT.QT{s d:Nm}{a:Ty}{x A B:E}{D:Ty}(z:ZT s d a x A B D){w:Vl}(hb:w.jf 100)(hv:vT 100 w D=true):pV d w.dT 100=if w.nodes<=200 then some w else none:=by
 obtain⟨e,he,hA⟩:=z.Ri
 unfold pV
 rw[he]
 by_cases hn:w.nodes<=200
 ·rw[yw hb hn,if_pos hn]
  simp only
  rw[if_pos ⟨by omega,by rw[show (100:Int).toNat=100 from rfl,oD hA];exact hv⟩]
 ·rw[if_neg hn]
  cases q:sa w.dT with
  |none=>rfl
  |
   some w' =>
   exfalso
   obtain⟨_,h2,h3⟩:=lf q
   have:=xV hb h2 (nN q)
   rw[this]at hn;exact hn h3
theorem ZT.QU{s d:Nm}{a:Ty}{x A B:E}{D:Ty}(z:ZT s d a x A B D){v:Vl}(hv:Fo a v){k:Hl}(hk:k∈kids a v):vT 100 k.1 D=true/\Fo a k.2/\.f (fZ a k.1 k.2)=v:=by
 obtain⟨e2,he2,hw2,hte2,_,_⟩:=rT z.y
 have hlc:j0 (.rc a) 0:=hte2 ▸ hw2.FO.1
 obtain⟨q1,q2,q3⟩:=Ce (A2 z.y) hlc z.lp hv.ty hk
 have:=j9 hk
 have:=hv.nd
 exact⟨q1,⟨q2,(my hv.jf hk).2,by omega⟩,q3⟩
def zl(a:Ty)(l:List Vl)(v:Vl)(k:Int):Option (List Vl×Vl) :=
 if l.length=50 then none else if 0<=k/\k.toNat<(kids a v).length then
  (if((kids a v).getD k.toNat (.u,.u)).1.nodes<=200 then some (l++[((kids a v).getD k.toNat (.u,.u)).1],((kids a v).getD k.toNat (.u,.u)).2)else none)else none
theorem u4{a:Ty}{l:List Vl}{c e v:Vl}(h:.f (fZ a c e)=v)(hn:v.nodes<=200):DW a (l++[c]) e=some (l,v)/\w4 a (l++[c]) e=w4 a l v:=by
 have hu:DW a (l++[c]) e=some (l,v):=by
  unfold DW
  rw[List.getLast?_concat]
  simp only
  rw[h,if_pos hn,List.dropLast_concat]
 refine⟨hu,?_⟩
 unfold w4
 rw[al,List.length_singleton,rh,hu]
 rfl
theorem zC{s d:Nm}{l:List Vl}{v:Vl}(hs:St s d (zA s) l v)(hd:ej s=some d)(hv:uF s (l.map (·.dT)) v.dT=some (l,v)){k:Hl}(hk:k∈kids (zA s) v) :
 uF s (l.map (·.dT)++[k.1.dT]) k.2.dT=if l.length=50 then none else if k.1.nodes<=200 then some (l++[k.1],k.2)else none:=by
 obtain⟨x,A,B,D,z⟩:=hs.z
 obtain⟨t1,t2,t3⟩:=z.QU hs.i.yN hk
 have hb:=(my hs.i.yN.jf hk).1
 have hz:=(pq hv).1
 have hclo:=(pq hv).2
 have hlen:=hs.len
 have hlp:fC d (l.map (·.dT))=some l:=by
  rw[AJ,hd]at hz
  simp only[ck,z.l]at hz
  obtain⟨_,h1,h2⟩:=bA.1 hz
  split at h2
  ·obtain⟨l',h3,h4⟩:=Option.map_eq_some_iff.1 h2
   cases h4;exact h3
  ·cases h2
 have e1:pV s k.2.dT 100=some k.2:=by rw[z.dT t2.jf t2.ty,if_pos t2.nd]
 unfold uF
 rw[AJ,hd]
 simp only[ck,z.l,e1,sJ,hlp,fC,z.QT hb t1,al,cI,List.length_singleton]
 by_cases h50:l.length=50
 ·rw[if_neg (by omega),if_pos h50];rfl
 ·rw[if_pos (by omega),if_neg h50]
  by_cases hn:k.1.nodes<=200
  ·rw[if_pos hn,if_pos hn]
   simp only[cr,ck,(u4 (l:=l) t3 hs.i.yN.nd).2]
   rw[if_pos hclo]
  ·rw[if_neg hn,if_neg hn];rfl
end Go.Proofs.Trees
namespace Go.Proofs.Trees
open Go Go.VL Go.RowKit
def Ns(s:Nm)(o:Option (List Vl×Vl)):AV->List Ob->Prop:=fun r obs=>obs=[]/\∃pa,cZ pa (tZ s o).2.1/\r=.cQ [.agg [.v (.string (mk (tZ s o).1)),pa,.v (.string (mk (tZ s o).2.2))],.v (.bool o.isSome)]
theorem Ns.ne(s:Nm)(o:Option (List Vl×Vl)):∃r ob,Ns s o r ob:=⟨_,[],rfl,_,cZ.of _,rfl⟩
theorem Ns.none(s:Nm):Ns s none (.cQ [.agg [.v (.string (mk [])),.v (.slice none 0 0),.v (.string (mk []))],.v (.bool false)]) []:=⟨rfl,_,cZ.nil,rfl⟩
end Go.Proofs.Trees
namespace Go.Proofs.Trees
open Go Go.VL Go.RowKit
theorem qO{a:Ty}{l l':List Vl}{v w:Vl}{k:Int}(h:zl a l v k=some (l',w)):∃q,q∈kids a v/\l'=l++[q.1]/\w=q.2/\q.1.nodes<=200/\l.length≠50/\0<=k/\(kids a v)[k.toNat]?=some q:=by
 unfold zl at h
 split at h
 ·cases h
 ·rename_i h0
  split at h
  ·rename_i h1
   split at h
   ·rename_i h2
    cases h
    have e:(kids a v).getD k.toNat (.u,.u)=(kids a v)[k.toNat]'h1.2:=by simp[aa,h1.2]
    rw[e]at h2 |-
    exact⟨_,bE _,rfl,rfl,h2,h0,h1.1,by simp[h1.2]⟩
   ·cases h
  ·cases h
theorem St.dn{s d:Nm}{a:Ty}{l l':List Vl}{v w:Vl}{k:Int}(h:St s d a l v)(hu:zl a l v k=some (l',w)):St s d a l' w/\DW a l' w=some (l,v)/\l'.length=l.length+1:=by
 obtain⟨q,hq,rfl,rfl,hn,h50,_,_⟩:=qO hu
 obtain⟨x,A,B,D,z⟩:=h.z
 obtain⟨t1,t2,t3⟩:=z.QU h.i.yN hq
 have hv:pV d q.1.dT 100=some q.1:=by rw[z.QT (my h.i.yN.jf hq).1 t1,if_pos hn]
 have hlen:=h.len
 refine⟨⟨⟨x,A,B,D,z⟩,⟨fun c hc=>?_,t2⟩,fun c hc=>?_,by simp;omega⟩,(u4 t3 h.i.yN.nd).1,by simp⟩
 ·rcases aM.1 hc with hc|hc
  ·exact h.i.Ez c hc
  ·simp only[aU]at hc;subst hc;exact z.Ez hv
 ·rcases aM.1 hc with hc|hc
  ·exact h.each c hc
  ·simp only[aU]at hc;subst hc;exact hv
theorem Nz{s d:Nm}{a:Ty}{l:List Vl}{v:Vl}(h:St s d a l v)(k:Int):ap Tryz.prog 31 [HN s a l v,.v (.int .i64 k)] [] (bH (oZ s a (zl a l v k))):=by
 obtain⟨x,A,B,D,z⟩:=h.z
 have hnd:=h.i.yN.nd
 have hlen:=h.len
 refine LQ _ _ ((cu _).mpr trivial) ?_
 simp only[Hg,HN,↓zq,zs,ae,qj,aR,aF]
 refine⟨fun h=>(by cases h),fun _=>?_⟩
 repeat refine⟨by first|trivial|omega,?_⟩
 unfold zl
 refine⟨fun h5=>?_,fun h5=>?_⟩
 ·rw[if_pos (by omega)];exact⟨rfl,rfl⟩
 ·rw[if_neg (by omega)]
  repeat refine⟨by first|trivial|omega,?_⟩
  refine an (Nc 100 v x A B a z.body z.hx (h.i.yN.ez z) (by omega)) ?_
  have hkl:(gG (kids a v)).length=(kids a v).length:=by simp[gG]
  simp only[↓zq,zs,ae,hkl]
  refine⟨fun h0=>?_,fun h0=>⟨fun h1=>?_,fun h1=>?_⟩⟩
  ·rw[if_neg (by omega)];exact⟨rfl,rfl⟩
  ·rw[if_neg (by omega)];exact⟨rfl,rfl⟩
  ·have hlt:k.toNat<(kids a v).length:=by omega
   rw[if_pos ⟨by omega,hlt⟩]
   have hg:(gG (kids a v)).getD k.toNat []=[((kids a v)[k.toNat]).1.cx,((kids a v)[k.toNat]).2.cx]:=by simp[gG,aa,hlt]
   have hg2:(kids a v).getD k.toNat (.u,.u)=(kids a v)[k.toNat]:=by simp[aa,hlt]
   have hm:=bE hlt
   rw[hg2]
   have hctx:((kids a v)[k.toNat]).1.nodes<=4*v.nodes:=by
    cases v with
    |f w=>have:=(iZ hm).2;simp only[Vl.nodes];omega
    |_=>simp[kids]at hlt
   generalize (kids a v)[k.toNat]=q at *
   simp only[hg,↓zq,zs,ae,aR]
   repeat refine⟨by first|trivial|omega,?_⟩
   refine an (FH q.1 (by omega)) ?_
   simp only[↓zq,zs,ae,aR,aF,zt]
   refine⟨fun hb=>?_,fun hb=>?_⟩
   ·rw[if_neg (by omega)];exact⟨rfl,rfl⟩
   ·rw[if_pos (by omega)]
    repeat refine⟨by first|trivial|omega,?_⟩
    refine⟨⟨fun c hc=>?_,by simp[xD];omega⟩,?_⟩
    ·simp only[xD,bZ]at hc
     obtain⟨y,_,rfl⟩:=hc;rfl
    repeat refine⟨by first|trivial|omega,?_⟩
    refine⟨⟨fun c hc=>by simp at hc;rw[hc];rfl,by simp[xD];omega⟩,?_⟩
    repeat refine⟨by first|trivial|omega,?_⟩
    refine⟨?_,rfl⟩
    simp only[oZ,HN,aQ,xj]
theorem Pg(s:Nm)(a:Ty)(o:Option (List Vl×Vl))(ho:∀r,o=some r->∃d,St s d a r.1 r.2)(k:Int):ap Tryz.prog 31 [oZ s a o,.v (.int .i64 k)] [] (bH (oZ s a (o.bind fun r=>zl a r.1 r.2 k))):=by
 cases o with
 |
  none =>
  refine LQ _ _ ((gp).mpr trivial) ?_
  simp only[Hg,oZ,↓zq,zs,ae,dw]
  exact⟨fun _=>⟨rfl,rfl⟩,fun h=>(by cases h)⟩
 |
  some r =>
  obtain⟨d,h⟩:=ho r rfl
  exact Nz h k
theorem St.gz{s d:Nm}{a:Ty}{l:List Vl}{v:Vl}(h:St s d a l v):GZ (some (l,v)):=h.i.gz (by have:=h.len;omega)
theorem BM{s:Nm}{p:List Nm}{f:Nm}{r:List Vl×Vl}(h:yA s p f=some r):∃d,ej s=some d/\St s d (zA s) r.1 r.2/\p=r.1.map (·.dT)/\f=r.2.dT:=by
 obtain⟨d,a,x,A,B,D,z,hz,hp,hf,hl,hza,_,hr⟩:=uE (l:=r.1) (v:=r.2) h
 rw[hza]
 exact⟨d,z.dl,⟨⟨x,A,B,D,z⟩,hz,qS hr hp,by rw[hp]at hl;simpa using hl⟩,hp,hf⟩
theorem MW{s d:Nm}{l:List Vl}{v:Vl}(hs:St s d (zA s) l v)(hd:ej s=some d)(hv:uF s (l.map (·.dT)) v.dT=some (l,v)){k:Int}(h0:0<=k)(hk:k.toNat<(kids (zA s) v).length) :
 uF s (l.map (·.dT)++[((kids (zA s) v)[k.toNat]).1.dT]) ((kids (zA s) v)[k.toNat]).2.dT=zl (zA s) l v k:=by
 rw[zC hs hd hv (bE hk)]
 unfold zl
 by_cases h5:l.length=50
 ·rw[if_pos h5,if_pos h5]
 ·rw[if_neg h5,if_neg h5,if_pos (show 0<=k/\k.toNat<(kids (zA s) v).length from ⟨h0,hk⟩)]
  have hg2:(kids (zA s) v).getD k.toNat (.u,.u)=(kids (zA s) v)[k.toNat]:=by simp[aa,hk]
  rw[hg2]
end Go.Proofs.Trees
namespace Go.Proofs.Trees
open Go Go.VL Go.RowKit
abbrev ZO:=Option (List Vl×Vl)
def zK(s:Nm)(o:ZO):Prop:=∀r,o=some r->∃d,St s d (zA s) r.1 r.2
def EU(a:Ty)(pl:List Int)(o:ZO):ZO:=pl.foldl (fun o k=>o.bind fun r=>zl a r.1 r.2 k) o
theorem qE(a:Ty):∀pl,EU a pl none=none
 |[]=>rfl
 |_::pl=>qE a pl
theorem vy(a:Ty)(k:Int)(pl:List Int)(o:ZO):EU a (k::pl) o=EU a pl (o.bind fun r=>zl a r.1 r.2 k):=rfl
theorem zK.dn{s:Nm}{o:ZO}(h:zK s o)(k:Int):zK s (o.bind fun r=>zl (zA s) r.1 r.2 k):=fun r hr=>by
 obtain⟨q,h1,h2⟩:=bA.1 hr
 obtain⟨d,hs⟩:=h q h1
 exact⟨d,(hs.dn (l':=r.1) (w:=r.2) h2).1⟩
theorem zK.go{s:Nm}:∀{pl:List Int} {o:ZO},zK s o->zK s (EU (zA s) pl o)
 |[],o,h=>h
 |k::pl,o,h=>zK.go (pl:=pl) (h.dn k)
theorem zK.gz{s:Nm}{o:ZO}(h:zK s o):GZ o:=fun r hr=>by
 obtain⟨d,hs⟩:=h r hr
 exact hs.gz r rfl
theorem xW(s:Nm)(p:List Nm)(f:Nm):zK s (yA s p f):=fun r hr=>by
 obtain⟨d,_,hs,_⟩:=BM hr
 exact⟨d,hs⟩
noncomputable def Nq (s f:Nm) (pl:List Int):ZO:=EU (zA s) pl (yA s [] f)
theorem Hn(s f:Nm)(pl:List Int):zK s (Nq s f pl):=(xW s [] f).go
theorem Jh(s:Nm)(a:AV)(pl:List Int)(ha:mC a pl)(hl:pl.length<=2000000):∀(k i:Nat) (o:ZO),i+k=pl.length->zK s o ->
 Fj [oZ s (zA s) o,a,.v (.int .i64 (pl.length:Int)),.v (.int .i64 (i:Int))] [QQ] (ga 1 [oZ s (zA s) (EU (zA s) (pl.drop i) o)] [QQ])
 |
  0,i,o,hi,ho=>by
  refine LS _ _ _ _ _ _ _ ?_
  have:i=pl.length:=by omega
  subst this
  simp only[HD,↓zq,zs,ae,zt,ae,oX,be,List.drop_length]
  exact⟨ha.1,fun h=>by omega,fun _=>⟨rfl,rfl,rfl⟩⟩
 |
  k+1,i,o,hi,ho=>by
  have hlt:i<pl.length:=by omega
  refine LS _ _ _ _ _ _ _ ?_
  simp only[HD,↓zq,zs,ae,zt,ae,oX,be,ha.len,ha.idx hlt,bB]
  refine⟨ha.1,fun _=>⟨⟨ha.1,by omega,by omega⟩,by omega,?_⟩,fun h=>by omega⟩
  refine an (Pg s (zA s) o ho _) ?_
  simp only[↓zq,zs,ae,oX]
  have hd:pl.drop i=pl.getD i 0::pl.drop (i+1):=by rw[aL hlt];simp[aa,hlt]
  rw[bh i (by omega),hd,vy]
  exact Jh s a pl ha hl k (i+1) _ (by omega) (ho.dn _)
theorem NQ(s f:Nm)(a:AV)(pl:List Int)(ha:mC a pl)(hl:pl.length<=2000000):ap Tryz.prog 8 [.v (.string (mk s)),.v (.string (mk f)),a] [] (Qe s (Nq s f pl)):=by
 refine Qq _ _ _ ha.1 ?_
 unfold Ic
 refine an (QL s _ [] (cZ.nil) f) ?_
 simp only[↓zq,zs,ae,zt,oX,ha.len]
 refine⟨ha.1,?_⟩
 have hloop:=Jh s a pl ha hl pl.length 0 (yA s [] f) (by omega) (xW s [] f)
 rw[aX]at hloop
 refine cb hloop ?_
 simp only[↓zq,zs,ae,zt,ae,oX,be]
 refine a7 (O8 s (zA s) _ (Hn s f pl).gz) ?_
 simp only[↓zq,zs,ae,zt,aK]
 exact⟨nD _,rfl,rfl⟩
def Pd(s:Nm)(o:ZO):Prop:=∀r,o=some r->uF s (r.1.map (·.dT)) r.2.dT=some r
theorem Pd.dn{s:Nm}{o:ZO}(h:Pd s o)(k:Int):Pd s (o.bind fun r=>zl (zA s) r.1 r.2 k):=fun r hr=>by
 obtain⟨q,h1,h2⟩:=bA.1 hr
 have hq:=h q h1
 obtain⟨d,hd,hs,_⟩:=BM (pq (l:=q.1) (v:=q.2) hq).1
 obtain⟨e,_,h3,h4,_,_,h0,h5⟩:=qO (l':=r.1) (w:=r.2) h2
 have hk:k.toNat<(kids (zA s) q.2).length:=by
  rcases Nat.lt_or_ge k.toNat (kids (zA s) q.2).length with h|h
  ·exact h
  ·rw[List.getElem?_eq_none h]at h5;cases h5
 have he:(kids (zA s) q.2)[k.toNat]=e:=by rw[bo hk]at h5;cases h5;rfl
 have:=MW hs hd hq h0 hk
 rw[h2,he]at this
 obtain⟨l1,v1⟩:=r
 simp only at h3 h4 |-
 subst h3 h4
 rw[List.map_append]
 exact this
end Go.Proofs.Trees
namespace Go.Proofs.Trees
open Go Go.VL Go.RowKit
def wk(a:Ty):Vl->List Nat->Option Vl
 |v,[]=>some v
 |
  v,k::ks=>match (kids a v)[k]? with
  |some h=>wk a h.2 ks
  |none=>none
theorem vw{pl:List Nat}{q:Pt}:∀{l:List Hl} {i:Nat},q∈gC pl l i->∃j h,l[j]?=some h/\q=(h.2,pl++[i+j])
 |[],i,hq=>by simp[gC]at hq
 |
  h::l,i,hq=>by
  rw[gC]at hq
  rcases aH.1 hq with rfl|hq
  ·exact⟨0,h,rfl,rfl⟩
  ·obtain⟨j,h',h1,h2⟩:=vw hq
   exact⟨j+1,h',by rw[List.getElem?_cons_succ];exact h1,by rw[h2,show i+1+j=i+(j+1) by omega]⟩
theorem rH:∀(n:Nat) (a:Ty) (p q:Pt),q∈e9 n a p->∃path,q.2=p.2++path/\wk a p.1 path=some q.1
 |0,a,p,q,h=>by simp[e9]at h
 |
  n+1,a,p,q,h=>by
  rw[e9]at h
  rcases aH.1 h with rfl|h
  ·exact⟨[],by simp,rfl⟩
  ·obtain⟨c,hc,hq⟩:=dq.1 h
   obtain⟨j,k,h1,rfl⟩:=vw hc
   obtain⟨path,e1,e2⟩:=rH n a _ q hq
   refine⟨j::path,by rw[e1];simp,?_⟩
   rw[wk,h1];exact e2
theorem Ed{a:Ty}:∀(path:List Nat) (l l':List Vl) (v w:Vl),EU a (path.map fun(k:Nat)=>(k:Int)) (some (l,v))=some (l',w)->wk a v path=some w
 |[],l,l',v,w,h=>by cases h;rfl
 |
  k::path,l,l',v,w,h=>by
  rw[bp,vy,ck]at h
  cases q:zl a l v (k:Int)with
  |none=>simp only[q,qE]at h;cases h
  |
   some r =>
   obtain⟨l1,v1⟩:=r
   simp only[q]at h
   obtain⟨h',_,_,rfl,_,_,_,hk⟩:=qO q
   rw[bB]at hk
   rw[wk,hk]
   exact Ed path l1 l' h'.2 w h
theorem C7{s v:Nm}{l:List Pt}(hp:dk s v=some l){q:Pt}(hq:q∈l){r:List Vl×Vl}(hr:Nq s v (q.2.map fun(k:Nat)=>(k:Int))=some r):r.2=q.1:=by
 unfold dk at hp
 split at hp
 ·rename_i a w h1 h2
  split at hp
  ·cases hp
   obtain⟨path,e1,e2⟩:=rH _ a _ q hq
   rw[aQ]at e1
   unfold Nq at hr
   cases q1:yA s [] v with
   |none=>rw[q1,qE]at hr;cases hr
   |
    some r0 =>
    obtain⟨l0,v0⟩:=r0
    obtain⟨d,a',x,A,B,D,z,hz,_,_,_,ha,hl,_⟩:=uE q1
    rw[h2]at hl;cases hl
    have haa:zA s=a:=by unfold zA;rw[h1];rfl
    rw[q1,haa,e1]at hr
    obtain⟨l',w'⟩:=r
    have:=Ed path l0 l' _ w' hr
    simp only at e2
    rw[e2]at this;cases this;rfl
  ·cases hp
 ·cases hp
theorem uG{s v:Nm}{l:List Pt}(h:dk s v=some l):∃w l',lD s v=some w/\l=(w,[])::l':=by
 unfold dk at h
 split at h
 ·rename_i a w h1 h2
  have hp:∃l',parts a w=(w,[])::l':=by
   unfold parts
   obtain⟨n,hn⟩:∃n,w.nodes=n+1:=⟨w.nodes-1,by have:=cJ w;omega⟩
   rw[hn,e9]
   exact⟨_,rfl⟩
  obtain⟨l',hl'⟩:=hp
  split at h
  ·cases h;exact⟨w,l',h2,hl'⟩
  ·cases h
 ·cases h
end Go.Proofs.Trees
namespace Go.Proofs.Trees
open Go Go.VL Go.RowKit
def mB(l:List Pt):List (List AV):=l.map fun p=>[.sl (eT p.2),.v (.string (mk p.1.dT)),.v (.string (mk []))]
theorem kQ(l:List Pt):(mB l).length=l.length:=by simp[mB]
theorem Az{l:List Pt}{i:Nat}(hi:i<l.length):(mB l).getD i []=[.sl (eT (l[i]).2),.v (.string (mk (l[i]).1.dT)),.v (.string (mk []))]:=by simp[mB,aa,hi]
theorem Ax(out:List Pt)(p:Pt):mB out++[[.sl (eT p.2),.v (.string (mk p.1.dT)),.v (.string (mk []))]]=mB (out++[p]):=by simp[mB]
theorem N4(a b c:AV):bV 3 [[a,b,c]]:=fun x hx=>by simp at hx;rw[hx];rfl
def Eh(x A B:E)(a:Ty)(n:Nat)(q:Pt):Prop:=∀out:List Pt,out.length+q.1.nodes<=600->ap Tryz.prog 66 [.agg [.v (.string (mk [])),(E.list [x,A,B]).sp],.agg [.v (.string (mk q.1.db.at)),q.1.db.sp],.sl (eT q.2),.vec 0] [.vec 3 (mB out)] (cN (.vec 1) [.dead,.vec 3 (mB (lT n a out q))])
abbrev w8(n:Nat)(a:Ty):List Pt->Pt->List Pt:=fun o q=>if o.length<=100 then lT n a o q else o
theorem qN(n:Nat)(a:Ty):∀(l:List Pt) (o:List Pt),100<o.length->l.foldl (w8 n a) o=o
 |[],_,_=>rfl
 |q::l,o,h=>by rw[List.foldl_cons,w8,if_neg (by omega)];exact qN n a l o h
theorem J9(x A B:E)(a:Ty)(n:Nat)(pl:List Nat)(hpl:pl.length<=1000)(l:List Hl)(hl:l.length<=1000)(ih:∀q,q∈gC pl l 0->Eh x A B a n q)(hn:∀q,q∈gC pl l 0->q.1.nodes<=n):∀(k i:Nat) (out:List Pt),i+k=l.length->out.length+gF (l.drop i)<=600->(∀q,q∈gC pl (l.drop i) i->q∈gC pl l 0) ->
 EO [.sl (eT pl),.sl (lW l),.v (.int .i64 (i:Int))] [.cells [.v (.string (mk [])),(E.list [x,A,B]).sp],.vec 3 (mB out)] (ga 1 [] [.vec 3 (mB ((gC pl (l.drop i) i).foldl (w8 n a) out))])
 |
  0,i,out,hi,ho,hm=>by
  refine Jb _ _ _ _ _ _ ?_
  have:i=l.length:=by omega
  subst this
  simp only[Gm,↓zq,zs,ae,eW,bf]
  exact⟨fun h=>by omega,fun _=>by simp[ga,gC]⟩
 |
  k+1,i,out,hi,ho,hm=>by
  have hlt:i<l.length:=by omega
  have hd:=sY pl l hlt
  rw[hd]at hm |-
  have hq:=hm _ ai
  have hsum:gF (l.drop i)=(l[i]).2.nodes+gF (l.drop (i+1)):=by rw[aL hlt];rfl
  have hw:=(qP n a ((l[i]).2,pl++[i]) (hn _ hq) out).2.2.2
  have hp:=jX n a ((l[i]).2,pl++[i])
  simp only at hw hp
  refine Jb _ _ _ _ _ _ ?_
  simp only[Gm,↓zq,zs,ae,zt,eW,gq hlt,aT,bf,aQ,nr,rA,kQ]
  refine⟨fun _=>⟨fun hle=>?_,fun hgt=>?_⟩,fun h=>by omega⟩
  ·repeat refine⟨by omega,?_⟩
   refine⟨⟨pP _,by omega⟩,⟨oG _,by omega⟩,?_⟩
   have hcall:=ih _ hq out (by show out.length+(l[i]).2.nodes<=600;omega)
   refine a7 hcall ?_
   simp only[↓zq,zs,ae]
   rw[bh i (by omega),List.foldl_cons,show w8 n a out ((l[i]).2,pl++[i])=lT n a out ((l[i]).2,pl++[i]) from if_pos (by omega)]
   exact J9 x A B a n pl hpl l hl ih hn k (i+1) _ (by omega) (by omega) (fun q hq=>hm q (ak _ hq))
  ·rw[qN n a _ _ (by omega)]
   simp[ga]
theorem K5(c:Nat)(x A B:E)(a:Ty)(hA:Ask B [.mk A.at (.list [x,A,B]) []] a)(hx:x.at=[114,101,99]):∀(n:Nat) (q:Pt),q.1.nodes<=n->n<=200->q.2.length+n<=200->q.1.jf 100->ez c q.1 (.list [x,A,B],[])=true->Eh x A B a n q
 |0,q,h,_,_,_,_=>by have:=cJ q.1;omega
 |
  n+1,q,h,hn,hpl,hb,hv=>by
  intro out ho
  have hk:=pn a q.1
  have hkl:=oO (kids a q.1)
  have htx:=jw q.1 hb
  obtain⟨w,hqw,hw⟩:=qt .nil hx hv
  have hP:=P3.of x A B
  have hW:=P2.of (.atom [102]) w.db
  have hqe:q.1.db=.list [.atom [102],w.db]:=by rw[hqw];rfl
  have htext:=OG q.1.db (py _) (by show q.1.dT.length<=900000;omega)
  rw[ei]at htext
  refine Pj _ _ _ _ _ _ ((bf _).mpr trivial) ((bf _).mpr trivial) ((ci _).mpr trivial) ?_
  unfold Im
  refine an htext ?_
  have ol:(out++[q]).length=out.length+1:=by simp
  rw[hqe]
  simp only[↓zq,zs,ae,zt,kQ,toNat_one,bq,hP.1,hP.2.1,hP.2.2.1,hP.2.2.2,hW.1,hW.2.1,hW.2.2,aT]
  refine⟨⟨N4 _ _ _,by omega⟩,?_⟩
  repeat refine⟨by omega,?_⟩
  refine an (Qu c q.1 x A B a hA hx w hqw hv (by omega)) ?_
  simp only[↓zq,zs,ae]
  have hl:=J9 x A B a n q.2 (by omega) (kids a q.1) (by omega) (fun r hr=>by
   obtain⟨k,h1,h2⟩:=jd hr
   have:=j9 h1
   have hlen:r.2.length=q.2.length+1:=by
    have:∀(l:List Hl) (i:Nat),r∈gC q.2 l i->r.2.length=q.2.length+1:=by
     intro l
     induction l with
     |nil=>intro i hh;cases hh
     |
      cons k l ih =>
      intro i hh
      rcases aH.1 hh with rfl|hh
      ·simp
      ·exact ih _ hh
    exact this _ _ hr
   exact K5 c x A B a hA hx n r (by rw[h2];omega) (by omega) (by omega) (by rw[h2];exact(my hb h1).2) (by rw[h2];exact uI hA .nil hx hv h1)) (fun r hr=>by
   obtain⟨k,h1,h2⟩:=jd hr
   have:=j9 h1
   rw[h2];omega) (kids a q.1).length 0 (out++[q]) (by omega) (by rw[sG,ol];omega) (fun r hr=>hr)
  rw[aX]at hl
  rw[show mB out++[[.sl (eT q.2),.v (.string (mk (eG (.list [.atom [102],w.db])))),.v (.string (mk []))]]=mB (out++[q]) by rw[<-hqe];exact Ax out q]
  refine cb hl ?_
  rw[lT];simp[↓zq,zs,ae,cN]
theorem OR(s v:List UInt8):ap Tryz.prog 41 [.v (.string (mk s)),.v (.string (mk v))] [] (DT mB s v):=by
 refine PQ _ _ ?_
 unfold Ms
 refine aV (Of s) (mD.ne _ _ (fun h=>h)) ?_
 rintro r o ⟨c,d,hd,rfl,hh⟩
 have hhas:cc [.str,.sl] [.v (.string (mk c)),d] 0:=by simp[cc,eV,hd]
 simp only[↓zq,zs,ae,zt]
 refine⟨hhas,?_⟩
 refine aV (Iw v) (mD.ne _ _ (fun h=>by cases hq:sa v<;>simp[hq]at h |-)) ?_
 rintro r o ⟨c',d',hd',rfl,hh'⟩
 have hhas':cc [.str,.sl] [.v (.string (mk c')),d'] 0:=by simp[cc,eV,hd']
 simp only[↓zq,zs,ae,zt]
 have none1:dk s v=none->DT mB s v (.cQ [.sl [],.v (.bool false)]) []:=fun hn=>⟨rfl,.sl [],(ci _).mpr trivial,by rw[hn];rfl,fun l hl=>by rw[hn]at hl;cases hl⟩
 refine⟨hhas',fun h=>none1 ?_,fun h=>?_⟩
 ·rw[uN]at h
  have:jC s=none:=by cases hq:jC s<;>simp[hq]at h |-
  unfold dk;rw[this]
 ·refine an (Q8 s v 100) ?_
  simp only[↓zq,zs,ae]
  refine⟨fun h2=>none1 ?_,fun h2=>?_⟩
  ·have:pV s v 100=none:=by cases hq:pV s v 100<;>simp[hq]at h2 |-
   have:lD s v=none:=by unfold lD;rw[this];cases jC s<;>rfl
   unfold dk;rw[this];cases jC s<;>rfl
  ·obtain⟨w,hw⟩:=bx.1 h2
   rw[uN]at h
   obtain⟨a0,ha0⟩:=bx.1 h
   have hlv:lD s v=some w:=by unfold lD;rw[ha0];exact hw
   obtain⟨a,x,A,B,L⟩:=gK hlv
   obtain⟨e,he,hce⟩:=hh (by rw[L.le];rfl)
   rw[L.le]at he;cases he
   obtain⟨e2,he2,hce2⟩:=hh' (by rw[L.v];rfl)
   rw[L.v]at he2;cases he2
   rw[hce,hce2,ei,ei]
   have hnd:=L.nodes
   obtain⟨p1,p2,p3⟩:=wb a w
   have hs:=K5 100 x A B a L.body L.hx w.nodes (w,[]) (aq _) hnd (by simp;omega) L.jf L.ez [] (by simp;omega)
   refine a7 hs ?_
   simp only[↓zq,zs,ae,kQ]
   refine⟨rfl,.sl (mB (lT w.nodes a [] (w,[]))),(ci _).mpr trivial,?_,fun l hl=>?_⟩
   ·congr 4
    have:dk s v=if(parts a w).length<=100 then some (parts a w)else none:=by unfold dk;rw[L.l,hlv]
    rw[this]
    by_cases hc:(parts a w).length<=100
    ·rw[if_pos hc,p1 hc];simp;omega
    ·rw[if_neg hc];have:=p2 (by omega);simp;omega
   ·unfold dk at hl
    rw[L.l,hlv]at hl
    simp only at hl
    split at hl
    ·rename_i hc
     cases hl
     rw[p1 hc]
    ·cases hl
end Go.Proofs.Trees
namespace Go.Proofs.Trees
open Go Go.VL Go.RowKit
def pX(l:List UInt8):List (List AV):=l.map fun(x:UInt8)=>[.v (.int .u8 (x.toNat:Int))]
structure sC(b:AV)(l:List UInt8):Prop where
 has:LK.sl.has b
 el:b.aO=pX l
 len:l.length<=2000
theorem sC.ln{b:AV}{l:List UInt8}(h:sC b l):b.aO.length=l.length:=by rw[h.el];simp[pX]
theorem sC.get{b:AV}{l:List UInt8}(h:sC b l){i:Nat}(hi:i<l.length):b.aO.getD i []=[.v (.int .u8 ((l[i]).toNat:Int))]:=by rw[h.el];simp[pX,aa,hi]
def eI(b:AV)(p c:Nat)(X:AV->Prop):AV->List Ob->Prop:=fun r o=>∃q:Nat,p<=q/\q<=p+c/\X r/\o=[.cells [b,.v (.int .i64 (q:Int))]]
theorem eI.ne{b:AV}{p c:Nat}{X:AV->Prop}{r:AV}(h:X r):∃r o,eI b p c X r o:=⟨r,_,p,aq _,cM _ _,h,rfl⟩
theorem CQ{a b:Int}(ha:0<=a)(hb:0<=b)(ha':a<9223372036854775808)(hb':b<9223372036854775808):∃W:Nat,AF .i64 a b=(W:Int):=by
 obtain⟨x,rfl⟩:∃x:Nat,a=(x:Int):=⟨a.toNat,by omega⟩
 obtain⟨y,rfl⟩:∃y:Nat,b=(y:Int):=⟨b.toNat,by omega⟩
 have e1:(BitVec.ofInt 64 (x:Int)).toNat=x:=by simp;omega
 have e2:(BitVec.ofInt 64 (y:Int)).toNat=y:=by simp;omega
 have hlt:x ^^^ y<2 ^ 63:=Nat.xor_lt_two_pow (by omega) (by omega)
 refine⟨x ^^^ y,?_⟩
 unfold AF
 have e3:(BitVec.ofInt (IntKind.bits .i64) (x:Int) ^^^ BitVec.ofInt (IntKind.bits .i64) (y:Int)).toNat=x ^^^ y:=by
  show (BitVec.ofInt 64 (x:Int) ^^^ BitVec.ofInt 64 (y:Int)).toNat=_
  rw[BitVec.toNat_xor,e1,e2]
 rw[e3,VL.wrap64]<;>omega
theorem xK(a b:Nat):Int.tdiv (a:Int) (b:Int)=((a/b:Nat):Int):=(Int.ofNat_tdiv a b).symm
theorem qo(a b:Nat):du (a:Int) (b:Int)=((a%b:Nat):Int):=(Int.ofNat_tmod a b).symm
theorem ve(n:Nat)(h:n<9223372036854775808):IntKind.wrap .i64 (n:Int)=(n:Int):=VL.wrap64 _ (by omega) (by omega)
def Ej(n:Nat):AV->Prop:=fun r=>∃k:Nat,r=.v (.int .i64 (k:Int))/\(1<=n->k<n)/\k<=n
abbrev qm:Nat:=1000000000000000
theorem xg(b:AV)(l:List UInt8)(hb:sC b l)(p n:Nat)(hp:p<2*qm)(hn:n<qm):ap Tryz.prog 29 [.ref 0 0,.v (.int .i64 (n:Int))] [.cells [b,.v (.int .i64 (p:Int))]] (eI b p 1 (Ej n)):=by
 refine O3 _ _ _ hb.has ?_
 have e1:IntKind.wrap .i64 ((p:Int)+1)=((p+1:Nat):Int):=by rw[VL.wrap64]<;>simp[qm]at hp<;>omega
 have e2:IntKind.wrap .i64 (((p+1:Nat):Int)-1)=(p:Int):=by rw[VL.wrap64]<;>simp[qm]at hp<;>omega
 have fin:∀k:Nat,(1<=n->k<n)->k<=n->eI b p 1 (Ej n) (.v (.int .i64 (k:Int))) [.cells [b,.v (.int .i64 ((p+1:Nat):Int))]]:=fun k h h'=>⟨p+1,by omega,aq _,⟨k,rfl,h,h'⟩,rfl⟩
 simp only[Mr,↓zq,zs,ae,e1,e2,hb.ln,xK,qo]
 refine⟨fun h=>fin 0 (fun h'=>by omega) (dr _),fun h=>⟨hb.has,fun h0=>fin 0 (fun h'=>by omega) (dr _),fun h0=>?_⟩⟩
 have hl:0<l.length:=by omega
 have hll:=hb.len
 refine⟨hb.has,fun hlt=>?_,fun hge=>?_⟩
 ·have hlt:p<l.length:=by omega
  have hx:=(l[p]).toNat_lt
  simp only[bB,hb.get hlt,hb.has,↓zq,zs,ae]
  rw[ve _ (by omega),qo]
  have:=fin ((l[p]).toNat%n) (fun h'=>dW _ (by omega)) (Nat.le_of_lt (dW _ (by omega)))
  repeat (first|exact this|refine⟨by omega,?_⟩)
 ·have h1:p%l.length<l.length:=dW _ hl
  have e3:IntKind.wrap .i64 ((p:Int)*7)=((p*7:Nat):Int):=by rw[VL.wrap64]<;>simp[qm]at hp<;>omega
  have e4:IntKind.wrap .i64 (((p*7:Nat):Int)+3)=((p*7+3:Nat):Int):=by rw[VL.wrap64]<;>simp[qm]at hp<;>omega
  have h2:(p*7+3)%l.length<l.length:=dW _ hl
  have hx:=(l[p%l.length]).toNat_lt
  have hy:=(l[(p*7+3)%l.length]).toNat_lt
  have hq:p/l.length<=p:=Nat.div_le_self _ _
  simp only[e3,e4,qo,bB,hb.get h1,hb.get h2,hb.has,↓zq,zs,ae]
  generalize hxx:(l[p%l.length]).toNat=x at hx |-
  generalize hyy:(l[(p*7+3)%l.length]).toNat=y at hy |-
  generalize hqq:p/l.length=q at hq |-
  have f1:IntKind.wrap .i64 ((x:Int))=(x:Int):=ve _ (by omega)
  have f2:IntKind.wrap .i64 ((y:Int))=(y:Int):=ve _ (by omega)
  have f3:IntKind.wrap .i64 ((x:Int)*131)=((x*131:Nat):Int):=by rw[VL.wrap64]<;>omega
  have f4:IntKind.wrap .i64 ((y:Int)*1117)=((y*1117:Nat):Int):=by rw[VL.wrap64]<;>omega
  have f5:IntKind.wrap .i64 (((x*131:Nat):Int)+((y*1117:Nat):Int))=((x*131+y*1117:Nat):Int):=by rw[VL.wrap64]<;>omega
  have f6:IntKind.wrap .i64 ((p:Int)*29)=((p*29:Nat):Int):=by rw[VL.wrap64]<;>simp[qm]at hp<;>omega
  have f7:IntKind.wrap .i64 (((x*131+y*1117:Nat):Int)+((p*29:Nat):Int))=((x*131+y*1117+p*29:Nat):Int):=by rw[VL.wrap64]<;>simp[qm]at hp<;>omega
  have f8:IntKind.wrap .i64 ((q:Int))=(q:Int):=ve _ (by simp[qm]at hp;omega)
  have f9:IntKind.wrap .i64 ((q:Int)*53)=((q*53:Nat):Int):=by rw[VL.wrap64]<;>simp[qm]at hp<;>omega
  have f10:IntKind.wrap .i64 (((x*131+y*1117+p*29:Nat):Int)+((q*53:Nat):Int))=((x*131+y*1117+p*29+q*53:Nat):Int):=by rw[VL.wrap64]<;>simp[qm]at hp<;>omega
  simp only[f1,f2,f3,f4,f5,f6,f7,f8,f9,f10]
  generalize hV:x*131+y*1117+p*29+q*53=V
  have hVl:V<1000000000000000000:=by simp[qm]at hp;omega
  have f11:IntKind.wrap .i64 (Int.tdiv (V:Int) 64)=((V/64:Nat):Int):=by
   have:Int.tdiv (V:Int) 64=((V/64:Nat):Int):=xK V 64
   rw[this,ve _ (by omega)]
  rw[f11]
  obtain⟨W,hW⟩:=CQ (a:=(V:Int)) (b:=((V/64:Nat):Int)) (by omega) (by omega) (by omega) (by omega)
  rw[hW,qo]
  have:=fin (W%n) (fun h'=>dW _ (by omega)) (Nat.le_of_lt (dW _ (by omega)))
  repeat (first|exact this|refine⟨by omega,?_⟩)
def kE(L:List (List UInt8)):AV->Prop:=fun r=>∃s,s∈L/\r=.v (.string (mk s))
theorem Cf(b:AV)(l:List UInt8)(hb:sC b l)(p:Nat)(hp:p<2*qm)(L:List (List UInt8))(a:AV)(ha:cZ a L)(hL:0<L.length)(hLl:L.length<1000000):ap Tryz.prog 80 [.ref 0 0,a] [.cells [b,.v (.int .i64 (p:Int))]] (eI b p 1 (kE L)):=by
 refine OK _ _ _ ha.1 hb.has ?_
 unfold KM
 simp only[↓zq,zs,ae,ha.len]
 refine⟨ha.1,?_⟩
 have hpk:=xg b l hb p L.length hp (by simp[qm];omega)
 refine aV hpk (eI.ne ⟨0,rfl,fun h=>h,dr _⟩) ?_
 rintro r o ⟨q,h1,h2,⟨k,rfl,h3,h4⟩,rfl⟩
 have hk:=h3 hL
 simp only[↓zq,zs,ae,zt,aK,hb.has,ha.idx hk,bB]
 refine⟨⟨ha.1,by omega⟩,?_⟩
 have:eI b p 1 (kE L) (.v (.string (mk (L.getD k [])))) [.cells [b,.v (.int .i64 (q:Int))]]:=⟨q,h1,h2,⟨_,by simp[aa,hk],rfl⟩,rfl⟩
 repeat (first|exact this|refine⟨by omega,?_⟩)
def gh(n:Nat):AV->Prop:=fun r=>∃s:List UInt8,r=.v (.string (mk s))/\s.length<=n
theorem kE.dT{L:List (List UInt8)}{n:Nat}(h:∀s,s∈L->s.length<=n){r:AV}(hr:kE L r):gh n r:=by
 obtain⟨s,h1,h2⟩:=hr;exact⟨s,h2,h s h1⟩
end Go.Proofs.Trees
namespace Go.Proofs.Trees
open Go Go.VL Go.RowKit
def jY:AV->List Ob->Prop:=fun r o=>o=[]/\∃b:Bool,r=.v (.bool b)
theorem jY.ne:∃r o,jY r o:=⟨_,_,rfl,true,rfl⟩
theorem jY.mk(b:Bool):jY (.v (.bool b)) []:=⟨rfl,b,rfl⟩
theorem jY.call{n:Nat}{f:Nat}{xs:List AV}{k:AV->List Ob->Tree}{Q:Nat->List AV->List Ob->Prop}(h:ap Tryz.prog f xs [] jY)(hk:∀b:Bool,eF Tryz.prog n (k (.v (.bool b)) []) Q):eF Tryz.prog n (.call f xs [] k) Q :=
 aV h jY.ne (by rintro r o ⟨rfl,b,rfl⟩;exact hk b)
theorem MD{e:E}(h:Wf e):∀(l:List Nm) (a:AV),cZ a l->l.length+e.sz<100000->ap Tryz.prog 108 [.agg [.v (.string (mk e.at)),e.sp],a] [] jY:=by
 induction h with
 |
  @atom s hs =>
  intro l a ha hl
  simp only[E.sz]at hl
  refine Cg _ _ _ ((bf _).mpr trivial) ha.1 ?_
  simp only[Bu,eB,↓zq,zs,ae]
  refine an (A0 s _ ((bf (.atom s)).mpr trivial) hs) ?_
  simp only[↓zq,zs,ae,zt,ha.1]
  refine⟨fun h=>(by cases h),fun _=>⟨fun h=>(by cases h),fun _=>⟨fun h=>(by cases h),fun _=>⟨fun _=>.mk true,fun _=>?_⟩⟩⟩⟩
  refine an (yF l a ha s (by omega)) ?_
  simp only[↓zq,zs,ae]
  exact .mk _
 |
  @plus x y hx hy i1 i2 =>
  intro l a ha hl
  simp only[E.sz,E.ji]at hl
  refine Cg _ _ _ ((bf _).mpr trivial) ha.1 ?_
  have hP:=P3.of (.atom [43]) x y
  simp only[Bu,df,toNat_one,bq,↓zq,zs,ae,zt,hP.1,hP.2.1,hP.2.2.1,hP.2.2.2,aT]
  refine an (rU [43] x y) ?_
  simp only[↓zq,zs,ae,zt,ha.1,aT]
  refine⟨fun _=>⟨by omega,by omega,jY.call (i1 l a ha (by omega)) fun b=>?_⟩,fun h=>absurd rfl h⟩
  simp only[↓zq,zs,ae]
  refine⟨fun _=>⟨by omega,by omega,jY.call (i2 l a ha (by omega)) fun b=>?_⟩,fun _=>.mk _⟩
  simp only[↓zq,zs,ae]
  exact .mk _
 |
  @times x y hx hy i1 i2 =>
  intro l a ha hl
  simp only[E.sz,E.ji]at hl
  refine Cg _ _ _ ((bf _).mpr trivial) ha.1 ?_
  have hP:=P3.of (.atom [42]) x y
  simp only[Bu,df,toNat_one,bq,↓zq,zs,ae,zt,hP.1,hP.2.1,hP.2.2.1,hP.2.2.2,aT]
  refine an (rU [42] x y) ?_
  simp only[↓zq,zs,ae,zt,ha.1,aT]
  refine⟨fun h=>(by cases h),fun _=>⟨fun _=>⟨by omega,by omega,jY.call (i1 l a ha (by omega)) fun b=>?_⟩,fun h=>absurd rfl h⟩⟩
  simp only[↓zq,zs,ae]
  refine⟨fun _=>.mk _,fun _=>⟨by omega,by omega,jY.call (i2 l a ha (by omega)) fun b=>?_⟩⟩
  simp only[↓zq,zs,ae]
  exact .mk _
 |
  @rc n b hn hb i =>
  intro l a ha hl
  simp only[E.sz,E.ji]at hl
  refine Cg _ _ _ ((bf _).mpr trivial) ha.1 ?_
  have hP:=P3.of (.atom ic) (.atom n) b
  simp only[Bu,df,toNat_one,bq,↓zq,zs,ae,zt,hP.1,hP.2.1,hP.2.2.1,hP.2.2.2,aT]
  refine an (rU ic (.atom n) b) ?_
  simp only[↓zq,zs,ae,zt,ha.1,aT]
  refine⟨fun h=>(by cases h),fun _=>⟨fun h=>(by cases h),fun _=>⟨fun _=>⟨by omega,by omega,by omega,by omega,?_⟩,fun h=>absurd rfl h⟩⟩⟩
  refine an (yE l a ha n (by omega)) ?_
  simp only[↓zq,zs,ae,zt]
  refine jY.call (i (l++[n]) _ (.of _) (by simp;omega)) fun b=>?_
  simp only[↓zq,zs,ae]
  exact .mk _
def QI:AV->List Ob->Prop:=fun r o=>o=[]/\∃(g:E) (b:Bool),r=.cQ [.agg [.v (.string (mk g.at)),g.sp],.v (.bool b)]/\Wf g/\g.en<=400
theorem OF{n:Nm}{b:E}(hn:uJ n)(hb:Wf b)(hl:(E.list [.atom ic,.atom n,b]).en<=400):ap Tryz.prog 110 [.agg [.v (.string (mk [])),(E.list [.atom ic,.atom n,b]).sp]] [] QI:=by
 have hw:Wf (.list [.atom ic,.atom n,b]):=.rc hn hb
 refine Qj _ _ ((bf _).mpr trivial) ?_
 have hP:=P3.of (.atom ic) (.atom n) b
 have hbl:b.en<=400:=by simp only[E.en,E.fA]at hl;omega
 simp only[KT,toNat_one,bq,↓zq,zs,ae,zt,hP.1,hP.2.1,hP.2.2.1,hP.2.2.2,aT]
 refine⟨by omega,by omega,by omega,by omega,?_⟩
 have hf:=P8 hn hb hw (by omega) (by omega)
 obtain⟨g,g1,g2,g3⟩:=NO hn hb hw hbl hl
 simp only[df]at hf g3
 refine an hf ?_
 simp only[↓zq,zs,ae,zt,aT]
 refine⟨fun h=>⟨rfl,_,false,rfl,hw,hl⟩,fun h=>?_⟩
 repeat refine⟨by omega,?_⟩
 refine an g3 ?_
 simp only[↓zq,zs,ae,zt,aT]
 refine⟨rfl,g,true,rfl,g1,?_⟩
 rw[g1.en [],g2]
 simpa using h
end Go.Proofs.Trees
namespace Go.Proofs.Trees
open Go Go.VL Go.RowKit
def jJ(n:Nat):AV->Prop:=fun r=>∃e:E,r=.agg [.v (.string (mk e.at)),e.sp]/\e.ok/\(eG e).length<=n
theorem jJ.u(n:Nat)(h:1<=n):jJ n (.agg [.v (.string (mk [117])),.v (.slice none 0 0)]):=⟨.atom [117],rfl,by simp[E.ok],by simpa[eG]using h⟩
def jP(b:AV)(d:Int)(e:E)(B C:Nat):Prop:=∀p:Nat,p+C<qm->ap Tryz.prog 82 [.ref 0 0,.agg [.v (.string (mk e.at)),e.sp],.v (.int .i64 d)] [.cells [b,.v (.int .i64 (p:Int))]] (eI b p C (jJ B))
theorem jP.mono{b:AV}{d:Int}{e:E}{B C B' C':Nat}(h:jP b d e B C)(hB:B<=B')(hC:C<=C'):jP b d e B' C':=fun p hp=>ap.mono (h p (by omega)) fun r o ⟨q,h1,h2,⟨g,h3,h4,h5⟩,h6⟩=>⟨q,h1,by omega,⟨g,h3,h4,by omega⟩,h6⟩
theorem ot(b:AV)(p C B:Nat)(h:1<=B):∃r o,eI b p C (jJ B) r o:=eI.ne (jJ.u B h)
theorem Q2(w:Nm)(e:E)(h:w.length=1):(eG (.list [.atom w,e])).length=(eG e).length+4:=by
 simp[eG,dS];omega
theorem QX(w:Nm)(e f:E)(h:w.length=1):(eG (.list [.atom w,e,f])).length=(eG e).length+(eG f).length+5:=by
 simp[eG,dS];omega
theorem J6{b:AV}{p q q' C B:Nat}{w:Nm}{e:E}(hw:w.length=1)(h1:p<=q)(h2:q<=p+1)(h3:q<=q')(h4:q'<=q+C)(ho:e.ok)(hl:(eG e).length<=B) :
 eI b p (C+1) (jJ (B+5)) (.agg [.v (.string (mk [])),(E.list [.atom w,e]).sp]) [.cells [b,.v (.int .i64 (q':Int))]] :=
 ⟨q',by omega,by omega,⟨.list [.atom w,e],rfl,⟨by intro h;rw[h]at hw;simp at hw,ho,trivial⟩,by rw[Q2 w e hw];omega⟩,rfl⟩
theorem H6(b:AV)(l:List UInt8)(hb:sC b l)(d:Int){s:Nm}(hs:s≠[]):jP b d (.atom s) 5 1:=by
 intro p hp
 refine Co _ _ _ _ _ ((bf (.atom s)).mpr trivial) hb.has ?_
 simp only[Ad,eB,↓zq,zs,ae]
 refine an (A0 s _ ((bf (.atom s)).mpr trivial) hs) ?_
 simp only[↓zq,zs,ae,zt]
 refine⟨fun h=>(by cases h),fun _=>⟨fun h=>(by cases h),fun _=>⟨fun h=>(by cases h),fun _=>⟨fun _=>?_,fun _=>?_⟩⟩⟩⟩
 ·exact⟨p,aq _,by omega,jJ.u 5 (by omega),rfl⟩
 ·refine aV (xg b l hb p 3 (by omega) (by decide)) (eI.ne ⟨0,rfl,fun h=>by omega,by omega⟩) ?_
  rintro r o ⟨q,h1,h2,⟨k,rfl,h3,h4⟩,rfl⟩
  have hk:k<3:=h3 (by omega)
  simp only[↓zq,zs,ae,aK,hb.has]
  refine an (Cn (k+1) k (by omega) (by omega)) ?_
  have hd:dd k=[a8 (48+k)]:=ep (by omega)
  simp only[↓zq,zs,ae,zt,hd]
  refine⟨by simp,q,h1,h2,⟨.atom ([101]++[a8 (48+k)]),rfl,by simp[E.ok],by simp[eG]⟩,rfl⟩
theorem ML(b:AV)(l:List UInt8)(hb:sC b l)(d:Int)(hd:-100000<=d/\d<=100000){n:Nm}{e:E}(hn:uJ n)(he:Wf e)(hl:(E.list [.atom ic,.atom n,e]).en<=400)(B C:Nat)(ih:-12<=d->∀g,Wf g->g.en<=400->jP b (d-1) g B C)(hB:1<=B):jP b d (.list [.atom ic,.atom n,e]) (B+5) (C+1):=by
 intro p hp
 refine Co _ _ _ _ _ ((bf _).mpr trivial) hb.has ?_
 have ed:IntKind.wrap .i64 (d-1)=d-1:=VL.wrap64 _ (by omega) (by omega)
 simp only[Ad,df,↓zq,zs,ae,ed]
 refine an (rU ic (.atom n) e) ?_
 simp only[↓zq,zs,ae,zt]
 have hu:=OF hn he hl
 refine⟨fun h=>(by cases h),fun _=>⟨fun h=>(by cases h),fun _=>⟨fun _=>?_,fun h=>absurd rfl h⟩⟩⟩
 refine aV hu ⟨_,_,rfl,.atom [117],true,rfl,.atom (by simp),by simp[E.en]⟩ ?_
 rintro r o ⟨rfl,g,c,rfl,g1,g2⟩
 have u:eI b p (C+1) (jJ (B+5)) (.agg [.v (.string (mk [117])),.v (.slice none 0 0)]) [.cells [b,.v (.int .i64 (p:Int))]]:=⟨p,aq _,by omega,jJ.u _ (by omega),rfl⟩
 simp only[↓zq,zs,ae,zt,aT]
 refine⟨fun _=>u,fun _=>⟨fun _=>u,fun hd2=>?_⟩⟩
 refine aV (ih (by omega) g g1 g2 p (by omega)) (ot b p C B hB) ?_
 rintro r o ⟨q,h1,h2,⟨f,rfl,h4,h5⟩,rfl⟩
 simp only[↓zq,zs,ae,zt,aK,hb.has,aT]
 repeat refine⟨by omega,?_⟩
 refine an (BQ [102] f) ?_
 simp only[↓zq,zs,ae,zt,aK,hb.has,aT]
 have fin:=J6 (b:=b) (w:=[102]) rfl (aq p) (by omega) h1 h2 h4 h5
 first|exact fin|exact⟨by omega,fin⟩
theorem MR(b:AV)(l:List UInt8)(hb:sC b l)(d:Int)(hd:-100000<=d/\d<=100000){x y:E}(hx:Wf x)(hy:Wf y)(B1 C1 B2 C2:Nat)(ix:jP b (d-1) x B1 C1)(iy:jP b (d-1) y B2 C2)(hB:1<=B1)(hB2:1<=B2):jP b d (.list [.atom [42],x,y]) (B1+B2+5) (C1+C2+1):=by
 intro p hp
 refine Co _ _ _ _ _ ((bf _).mpr trivial) hb.has ?_
 have ed:IntKind.wrap .i64 (d-1)=d-1:=VL.wrap64 _ (by omega) (by omega)
 have hP:=P3.of (.atom [42]) x y
 simp only[Ad,df,toNat_one,bq,↓zq,zs,ae,zt,hP.1,hP.2.1,hP.2.2.1,hP.2.2.2,aT,ed]
 refine an (rU [42] x y) ?_
 simp only[↓zq,zs,ae,zt]
 refine⟨fun h=>(by cases h),fun _=>⟨fun _=>?_,fun h=>absurd rfl h⟩⟩
 refine⟨by omega,by omega,aV (ix p (by omega)) (ot b p C1 B1 hB) ?_⟩
 rintro r o ⟨q,h1,h2,⟨f,rfl,h4,h5⟩,rfl⟩
 simp only[↓zq,zs,ae,zt,aK,hb.has,aT]
 repeat refine⟨by omega,?_⟩
 refine aV (iy q (by omega)) (ot b q C2 B2 hB2) ?_
 rintro r o ⟨q',g1,g2,⟨g,rfl,g4,g5⟩,rfl⟩
 simp only[↓zq,zs,ae,zt,aK,hb.has,aT]
 repeat refine⟨by omega,?_⟩
 refine an (BU [112] f g) ?_
 simp only[↓zq,zs,ae,zt,aK,hb.has,aT]
 have fin:eI b p (C1+C2+1) (jJ (B1+B2+5)) (.agg [.v (.string (mk [])),(E.list [.atom [112],f,g]).sp]) [.cells [b,.v (.int .i64 (q':Int))]]:=⟨q',by omega,by omega,⟨.list [.atom [112],f,g],rfl,⟨by simp[E.ok],h4,g4,trivial⟩,by rw[QX [112] f g rfl];omega⟩,rfl⟩
 first|exact fin|exact⟨by omega,fin⟩
theorem M8(b:AV)(l:List UInt8)(hb:sC b l)(d:Int)(hd:-100000<=d/\d<=100000){x y:E}(hx:Wf x)(hy:Wf y)(hl:(E.list [.atom [43],x,y]).en<=400)(B C:Nat)(ix:jP b (d-1) x B C)(iy:jP b (d-1) y B C)(hB:1<=B):jP b d (.list [.atom [43],x,y]) (B+5) (C+1):=by
 intro p hp
 refine Co _ _ _ _ _ ((bf _).mpr trivial) hb.has ?_
 have ed:IntKind.wrap .i64 (d-1)=d-1:=VL.wrap64 _ (by omega) (by omega)
 have hP:=P3.of (.atom [43]) x y
 simp only[E.en,E.fA]at hl
 have s1:=hx.sz
 have s2:=hy.sz
 simp only[Ad,df,toNat_one,bq,↓zq,zs,ae,zt,hP.1,hP.2.1,hP.2.2.1,hP.2.2.2,aT,ed]
 refine an (rU [43] x y) ?_
 simp only[↓zq,zs,ae,zt]
 refine⟨fun _=>?_,fun h=>absurd rfl h⟩
 refine aV (xg b l hb p 2 (by omega) (by decide)) (eI.ne ⟨0,rfl,fun h=>by omega,by omega⟩) ?_
 rintro r o ⟨q,h1,h2,⟨k,rfl,_,_⟩,rfl⟩
 simp only[↓zq,zs,ae,zt,aK,hb.has,aT]
 have ex:=MD hx [] (.sl []) (.of []) (by simp;omega)
 have ey:=MD hy [] (.sl []) (.of []) (by simp;omega)
 have ax:=H8 x hx.ok (by omega)
 have ay:=H8 y hy.ok (by omega)
 rw[ei]at ax ay
 have lx:=ix q (by omega)
 have ly:=iy q (by omega)
 have t:=ot b q C B hB
 have leaf:∀(w:Nm) (q':Nat) (f:E),w.length=1->q<=q'->q'<=q+C->f.ok->(eG f).length<=B->eI b p (C+1) (jJ (B+5)) (.agg [.v (.string (mk [])),(E.list [.atom w,f]).sp]) [.cells [b,.v (.int .i64 (q':Int))]]:=fun w q' f hw g1 g2 h4 h5=>J6 hw h1 h2 g1 g2 h4 h5
 repeat' first
  |intro _
  |refine⟨by omega,?_⟩
  |(
   with_reducible refine aV lx t ?_
   rintro r o ⟨q',g1,g2,⟨f,rfl,h4,h5⟩,rfl⟩
   simp only[↓zq,zs,ae,zt,aK,hb.has,aT]
   repeat refine⟨by omega,?_⟩
   refine an (BQ _ f) ?_
   simp only[↓zq,zs,ae,zt,aK,hb.has,aT]
   have fin:=leaf [108] q' f rfl g1 g2 h4 h5
   first|exact fin|exact⟨by omega,fin⟩)
  |(
   with_reducible refine aV ly t ?_
   rintro r o ⟨q',g1,g2,⟨f,rfl,h4,h5⟩,rfl⟩
   simp only[↓zq,zs,ae,zt,aK,hb.has,aT]
   repeat refine⟨by omega,?_⟩
   refine an (BQ _ f) ?_
   simp only[↓zq,zs,ae,zt,aK,hb.has,aT]
   have fin:=leaf [114] q' f rfl g1 g2 h4 h5
   first|exact fin|exact⟨by omega,fin⟩)
  |(with_reducible refine jY.call ex fun _=>?_;simp only[↓zq,zs,ae,zt,aT])
  |(with_reducible refine jY.call ey fun _=>?_;simp only[↓zq,zs,ae,zt,aT])
  |(with_reducible refine an ax ?_;simp only[↓zq,zs,ae,zt,aT])
  |(with_reducible refine an ay ?_;simp only[↓zq,zs,ae,zt,aT])
  |with_reducible refine aI ?_ ?_
  |(exfalso;omega)
end Go.Proofs.Trees
namespace Go.Proofs.Trees
open Go Go.VL Go.RowKit
def ng:Nat->Nat
 |0=>2
 |d+1=>2*ng d+15
def na:Nat->Nat
 |0=>3
 |d+1=>2*na d+8
theorem Qt(d:Nat):2<=ng d:=by cases d<;>simp only[ng]<;>omega
theorem On(d:Nat):3<=na d:=by cases d<;>simp only[na]<;>omega
theorem Hw:∀d:Nat,d<=10->ng d<=100000000
 |0,_=>by decide
 |1,_=>by decide
 |2,_=>by decide
 |3,_=>by decide
 |4,_=>by decide
 |5,_=>by decide
 |6,_=>by decide
 |7,_=>by decide
 |8,_=>by decide
 |9,_=>by decide
 |10,_=>by decide
 |d+11,h=>by omega
theorem A4(b:AV)(l:List UInt8)(hb:sC b l)(p:Nat)(hp:p<2*qm):ap Tryz.prog 50 [.ref 0 0] [.cells [b,.v (.int .i64 (p:Int))]] (eI b p 1 (gh 60)):=by
 refine OD _ _ hb.has ?_
 unfold IW
 refine aV (Cf b l hb p hp _ _ (.of [_,_,_,_,_,_,_]) (by simp) (by simp)) (eI.ne ⟨_,ai,rfl⟩) ?_
 rintro r o ⟨q,h1,h2,hr,rfl⟩
 obtain⟨s,rfl,hs⟩:=kE.dT (n:=60) (by decide) hr
 simp only[↓zq,zs,ae,aK,hb.has]
 exact⟨q,h1,h2,⟨s,rfl,hs⟩,rfl⟩
theorem GS(b:AV)(l:List UInt8)(hb:sC b l):∀(d:Nat),d<=10->∀(p:Nat) (ls:List (List UInt8)) (a:AV),cZ a ls->(∀s,s∈ls->s.length<=2)->ls.length+d<=100->p+na d<2*qm ->
 ap Tryz.prog 107 [.ref 0 0,a,.v (.int .i64 (d:Int))] [.cells [b,.v (.int .i64 (p:Int))]] (eI b p (na d) (gh (ng d))):=by
 intro d
 induction d with
 |
  zero =>
  intro hd p ls a ha hls hll hp
  simp only[na]at hp
  refine JR _ _ _ _ ha.1 hb.has ?_
  simp only[Fk,↓zq,zs,ae,ha.len]
  refine⟨fun _=>⟨ha.1,fun hpos=>?_,fun _=>?_⟩,fun h=>by omega⟩
  ·refine aV (xg b l hb p 3 (by omega) (by decide)) (eI.ne ⟨0,rfl,fun h=>by omega,by omega⟩) ?_
   rintro r o ⟨q1,h1,h2,⟨k,rfl,h3,h4⟩,rfl⟩
   simp only[↓zq,zs,ae,aK,hb.has]
   refine⟨fun _=>⟨ha.1,?_⟩,fun _=>?_⟩
   ·refine aV (xg b l hb q1 ls.length (by omega) (by simp[qm];omega)) (eI.ne ⟨0,rfl,fun h=>by omega,by omega⟩) ?_
    rintro r o ⟨q2,g1,g2,⟨k2,rfl,g3,g4⟩,rfl⟩
    have hk:=g3 (by omega)
    simp only[↓zq,zs,ae,aK,hb.has,bB,ha.idx hk]
    have:eI b p (na 0) (gh (ng 0)) (.v (.string (mk (ls.getD k2 [])))) [.cells [b,.v (.int .i64 (q2:Int))]]:=⟨q2,by omega,by simp only[na];omega,⟨_,rfl,by
     have:=hls (ls.getD k2 []) (by simp[aa,hk]);simp only[ng];omega⟩,rfl⟩
    refine⟨⟨ha.1,by omega⟩,?_⟩
    repeat (first|exact this|refine⟨by omega,?_⟩)
   ·refine aV (Cf b l hb q1 (by omega) _ _ (.of [_,_,_,_,_,_]) (by simp) (by simp)) (eI.ne ⟨_,ai,rfl⟩) ?_
    rintro r o ⟨q2,g1,g2,hr,rfl⟩
    obtain⟨s,rfl,hs⟩:=kE.dT (n:=2) (by decide) hr
    simp only[↓zq,zs,ae,aK,hb.has]
    exact⟨q2,by omega,by simp only[na];omega,⟨s,rfl,by simp only[ng];omega⟩,rfl⟩
  ·refine aV (Cf b l hb p (by omega) _ _ (.of [_,_,_,_,_,_]) (by simp) (by simp)) (eI.ne ⟨_,ai,rfl⟩) ?_
   rintro r o ⟨q2,g1,g2,hr,rfl⟩
   obtain⟨s,rfl,hs⟩:=kE.dT (n:=2) (by decide) hr
   simp only[↓zq,zs,ae,aK,hb.has]
   exact⟨q2,by omega,by simp only[na];omega,⟨s,rfl,by simp only[ng];omega⟩,rfl⟩
 |
  succ d ih =>
  intro hd p ls a ha hls hll hp
  simp only[na]at hp
  have hL:=Qt d
  have hC:=On d
  have ih:=ih (by omega)
  have hL8:=Hw d (by omega)
  have ed:IntKind.wrap .i64 (((d+1:Nat):Int)-1)=(d:Int):=by rw[VL.wrap64]<;>omega
  refine JR _ _ _ _ ha.1 hb.has ?_
  simp only[Fk,↓zq,zs,ae,ha.len,ed]
  refine⟨fun h=>by omega,fun _=>?_⟩
  refine aV (xg b l hb p 4 (by omega) (by decide)) (eI.ne ⟨0,rfl,fun h=>by omega,by omega⟩) ?_
  rintro r o ⟨q0,a1,a2,⟨k0,rfl,_,_⟩,rfl⟩
  simp only[↓zq,zs,ae,aK,hb.has]
  refine⟨fun _=>⟨ha.1,fun hpos=>?_,fun _=>?_⟩,fun _=>?_⟩
  ·refine aV (xg b l hb q0 3 (by omega) (by decide)) (eI.ne ⟨0,rfl,fun h=>by omega,by omega⟩) ?_
   rintro r o ⟨q1,h1,h2,⟨k,rfl,h3,h4⟩,rfl⟩
   simp only[↓zq,zs,ae,aK,hb.has]
   refine⟨fun _=>⟨ha.1,?_⟩,fun _=>?_⟩
   ·refine aV (xg b l hb q1 ls.length (by omega) (by simp[qm];omega)) (eI.ne ⟨0,rfl,fun h=>by omega,by omega⟩) ?_
    rintro r o ⟨q2,g1,g2,⟨k2,rfl,g3,g4⟩,rfl⟩
    have hk:=g3 (by omega)
    simp only[↓zq,zs,ae,aK,hb.has,bB,ha.idx hk]
    have:eI b p (na (d+1)) (gh (ng (d+1))) (.v (.string (mk (ls.getD k2 [])))) [.cells [b,.v (.int .i64 (q2:Int))]]:=⟨q2,by omega,by simp only[na];omega,⟨_,rfl,by
     have:=hls (ls.getD k2 []) (by simp[aa,hk]);simp only[ng];omega⟩,rfl⟩
    refine⟨⟨ha.1,by omega⟩,?_⟩
    repeat (first|exact this|refine⟨by omega,?_⟩)
   ·refine aV (Cf b l hb q1 (by omega) _ _ (.of [_,_,_,_,_,_]) (by simp) (by simp)) (eI.ne ⟨_,ai,rfl⟩) ?_
    rintro r o ⟨q2,g1,g2,hr,rfl⟩
    obtain⟨s,rfl,hs⟩:=kE.dT (n:=2) (by decide) hr
    simp only[↓zq,zs,ae,aK,hb.has]
    exact⟨q2,by omega,by simp only[na];omega,⟨s,rfl,by simp only[ng];omega⟩,rfl⟩
  ·refine aV (Cf b l hb q0 (by omega) _ _ (.of [_,_,_,_,_,_]) (by simp) (by simp)) (eI.ne ⟨_,ai,rfl⟩) ?_
   rintro r o ⟨q2,g1,g2,hr,rfl⟩
   obtain⟨s,rfl,hs⟩:=kE.dT (n:=2) (by decide) hr
   simp only[↓zq,zs,ae,aK,hb.has]
   exact⟨q2,by omega,by simp only[na];omega,⟨s,rfl,by simp only[ng];omega⟩,rfl⟩
  ·refine aV (xg b l hb q0 5 (by omega) (by decide)) (eI.ne ⟨0,rfl,fun h=>by omega,by omega⟩) ?_
   rintro r o ⟨q1,b1,b2,⟨k1,rfl,c3,_⟩,rfl⟩
   have hk1:=c3 (by omega)
   obtain rfl|rfl|rfl|rfl|rfl:k1=0\/k1=1\/k1=2\/k1=3\/k1=4:=by omega
   ·simp only[↓zq,zs,ae,aK,hb.has]
    refine⟨fun _=>?_,fun h=>absurd rfl h⟩
    refine aV (ih q1 ls a ha hls (by omega) (by omega)) (eI.ne ⟨[],rfl,by simp⟩) ?_
    rintro r o ⟨q2,d1,d2,⟨s1,rfl,d3⟩,rfl⟩
    simp only[↓zq,zs,ae,zt,aK,hb.has,al]
    repeat refine⟨by first|omega|(simp only[al,au,aG];omega),?_⟩
    refine aV (ih q2 ls a ha hls (by omega) (by omega)) (eI.ne ⟨[],rfl,by simp⟩) ?_
    rintro r o ⟨q3,e1,e2,⟨s2,rfl,e3⟩,rfl⟩
    simp only[↓zq,zs,ae,zt,aK,hb.has,al]
    have fin:∀s:List UInt8,s.length<=ng (d+1)->eI b p (na (d+1)) (gh (ng (d+1))) (.v (.string (mk s))) [.cells [b,.v (.int .i64 (q3:Int))]]:=fun s hs=>⟨q3,by omega,by simp only[na];omega,⟨s,rfl,hs⟩,rfl⟩
    repeat (first|exact fin _ (by simp only[al,au,aG,ng];omega)|refine⟨by first|omega|(simp only[al,au,aG];omega),?_⟩)
   ·simp only[↓zq,zs,ae,aK,hb.has]
    refine⟨fun h=>by omega,fun _=>⟨fun _=>?_,fun h=>absurd rfl h⟩⟩
    refine aV (ih q1 ls a ha hls (by omega) (by omega)) (eI.ne ⟨[],rfl,by simp⟩) ?_
    rintro r o ⟨q2,d1,d2,⟨s1,rfl,d3⟩,rfl⟩
    simp only[↓zq,zs,ae,zt,aK,hb.has,al]
    repeat refine⟨by first|omega|(simp only[al,au,aG];omega),?_⟩
    refine aV (ih q2 ls a ha hls (by omega) (by omega)) (eI.ne ⟨[],rfl,by simp⟩) ?_
    rintro r o ⟨q3,e1,e2,⟨s2,rfl,e3⟩,rfl⟩
    simp only[↓zq,zs,ae,zt,aK,hb.has,al]
    have fin:∀s:List UInt8,s.length<=ng (d+1)->eI b p (na (d+1)) (gh (ng (d+1))) (.v (.string (mk s))) [.cells [b,.v (.int .i64 (q3:Int))]]:=fun s hs=>⟨q3,by omega,by simp only[na];omega,⟨s,rfl,hs⟩,rfl⟩
    repeat (first|exact fin _ (by simp only[al,au,aG,ng];omega)|refine⟨by first|omega|(simp only[al,au,aG];omega),?_⟩)
   ·simp only[↓zq,zs,ae,aK,hb.has]
    refine⟨fun h=>by omega,fun _=>⟨fun h=>by omega,fun _=>⟨fun _=>?_,fun h=>absurd rfl h⟩⟩⟩
    refine aV (ih q1 ls a ha hls (by omega) (by omega)) (eI.ne ⟨[],rfl,by simp⟩) ?_
    rintro r o ⟨q2,d1,d2,⟨s1,rfl,d3⟩,rfl⟩
    simp only[↓zq,zs,ae,zt,aK,hb.has,al]
    repeat refine⟨by first|omega|(simp only[al,au,aG];omega),?_⟩
    refine aV (ih q2 ls a ha hls (by omega) (by omega)) (eI.ne ⟨[],rfl,by simp⟩) ?_
    rintro r o ⟨q3,e1,e2,⟨s2,rfl,e3⟩,rfl⟩
    simp only[↓zq,zs,ae,zt,aK,hb.has,al]
    have fin:∀s:List UInt8,s.length<=ng (d+1)->eI b p (na (d+1)) (gh (ng (d+1))) (.v (.string (mk s))) [.cells [b,.v (.int .i64 (q3:Int))]]:=fun s hs=>⟨q3,by omega,by simp only[na];omega,⟨s,rfl,hs⟩,rfl⟩
    repeat (first|exact fin _ (by simp only[al,au,aG,ng];omega)|refine⟨by first|omega|(simp only[al,au,aG];omega),?_⟩)
   ·simp only[↓zq,zs,ae,aK,hb.has]
    refine⟨fun h=>by omega,fun _=>⟨fun h=>by omega,fun _=>⟨fun h=>by omega,fun _=>⟨fun _=>?_,fun h=>absurd rfl h⟩⟩⟩⟩
    refine aV (ih q1 ls a ha hls (by omega) (by omega)) (eI.ne ⟨[],rfl,by simp⟩) ?_
    rintro r o ⟨q2,d1,d2,⟨s1,rfl,d3⟩,rfl⟩
    simp only[↓zq,zs,ae,zt,aK,hb.has,al]
    repeat refine⟨by first|omega|(simp only[al,au,aG];omega),?_⟩
    refine aV (ih q2 ls a ha hls (by omega) (by omega)) (eI.ne ⟨[],rfl,by simp⟩) ?_
    rintro r o ⟨q3,e1,e2,⟨s2,rfl,e3⟩,rfl⟩
    simp only[↓zq,zs,ae,zt,aK,hb.has,al]
    have fin:∀s:List UInt8,s.length<=ng (d+1)->eI b p (na (d+1)) (gh (ng (d+1))) (.v (.string (mk s))) [.cells [b,.v (.int .i64 (q3:Int))]]:=fun s hs=>⟨q3,by omega,by simp only[na];omega,⟨s,rfl,hs⟩,rfl⟩
    repeat (first|exact fin _ (by simp only[al,au,aG,ng];omega)|refine⟨by first|omega|(simp only[al,au,aG];omega),?_⟩)
   ·simp only[↓zq,zs,ae,aK,hb.has]
    refine⟨fun h=>by omega,fun _=>⟨fun h=>by omega,fun _=>⟨fun h=>by omega,fun _=>⟨fun h=>by omega,fun _=>?_⟩⟩⟩⟩
    refine aV (Cf b l hb q1 (by omega) _ _ (.of [_,_,_]) (by simp) (by simp)) (eI.ne ⟨_,ai,rfl⟩) ?_
    rintro r o ⟨q2,g1,g2,hr,rfl⟩
    obtain⟨s,rfl,hs⟩:=kE.dT (n:=2) (by decide) hr
    simp only[↓zq,zs,ae,zt,aK,hb.has]
    repeat refine⟨by first|omega|(simp only[al,au,aG];omega),?_⟩
    refine an (yE ls a ha s (by omega)) ?_
    simp only[↓zq,zs,ae]
    refine aV (ih q2 (ls++[s]) _ (.of _) (fun w hw=>by
     rcases aM.1 hw with hw|hw
     ·exact hls w hw
     ·simp at hw;rw[hw];exact hs) (by simp;omega) (by omega)) (eI.ne ⟨[],rfl,by simp⟩) ?_
    rintro r o ⟨q3,e1,e2,⟨s2,rfl,e3⟩,rfl⟩
    simp only[↓zq,zs,ae,zt,aK,hb.has,al]
    have fin:∀s:List UInt8,s.length<=ng (d+1)->eI b p (na (d+1)) (gh (ng (d+1))) (.v (.string (mk s))) [.cells [b,.v (.int .i64 (q3:Int))]]:=fun s hs=>⟨q3,by omega,by simp only[na];omega,⟨s,rfl,hs⟩,rfl⟩
    repeat (first|exact fin _ (by simp only[al,au,aG,ng];omega)|refine⟨by first|omega|(simp only[al,au,aG];omega),?_⟩)
end Go.Proofs.Trees
namespace Go.Proofs.Trees
open Go Go.VL Go.RowKit
theorem eI.mono{b:AV}{p c c':Nat}{X Y:AV->Prop}(hc:c<=c')(h:∀r,X r->Y r){r:AV}{o:List Ob}(hr:eI b p c X r o):eI b p c' Y r o:=by
 obtain⟨q,h1,h2,h3,h4⟩:=hr;exact⟨q,h1,by omega,h r h3,h4⟩
theorem gh.le{n m:Nat}(h:n<=m){r:AV}(hr:gh n r):gh m r:=by obtain⟨s,h1,h2⟩:=hr;exact⟨s,h1,by omega⟩
theorem PY(b:AV)(l:List UInt8)(hb:sC b l)(p:Nat)(hp:p<qm):ap Tryz.prog 106 [.ref 0 0] [.cells [b,.v (.int .i64 (p:Int))]] (eI b p 100 (gh 200)):=by
 refine OQ _ _ hb.has ?_
 unfold Ja
 have hfar:qm=1000000000000000:=rfl
 refine aV (xg b l hb p 12 (by omega) (by decide)) (eI.ne ⟨0,rfl,fun h=>by omega,by omega⟩) ?_
 rintro r o ⟨q,h1,h2,⟨k,rfl,_,_⟩,rfl⟩
 have kn:∀(c m:Nat) (r:AV) (o:List Ob),c<=90->m<=200->eI b q c (gh m) r o->∃q':Nat,∃s:List UInt8,r=.v (.string (mk s))/\o=[.cells [b,.v (.int .i64 (q':Int))]]/\eI b p 100 (gh 200) (.v (.string (mk s))) [.cells [b,.v (.int .i64 (q':Int))]]:=by
  rintro c m r o hc hm ⟨q',g1,g2,⟨s,rfl,hs⟩,rfl⟩
  exact⟨q',s,rfl,rfl,q',by omega,by omega,⟨s,rfl,by omega⟩,rfl⟩
 simp only[↓zq,zs,ae,aK,hb.has]
 refine⟨fun _=>?_,fun _=>⟨fun _=>?_,fun _=>⟨fun _=>?_,fun _=>⟨fun _=>?_,fun _=>⟨fun _=>?_,fun _=>?_⟩⟩⟩⟩⟩
 ·refine aV (Cf b l hb q (by omega) _ _ (.of [_,_,_,_,_,_,_,_,_]) (by simp) (by simp)) (eI.ne ⟨_,ai,rfl⟩) ?_
  intro r o hr
  obtain⟨q',s,rfl,rfl,hd⟩:=kn 1 20 r o (by omega) (by omega) (hr.mono (aq _) fun r h=>kE.dT (n:=20) (by decide) h)
  simp only[↓zq,zs,ae,aK,hb.has];exact hd
 ·refine aV (A4 b l hb q (by omega)) (eI.ne ⟨[],rfl,by simp⟩) ?_
  intro r o hr
  obtain⟨q',s,rfl,rfl,hd⟩:=kn _ _ r o (by omega) (by omega) hr
  simp only[↓zq,zs,ae,aK,hb.has];exact hd
 ·refine aV (A4 b l hb q (by omega)) (eI.ne ⟨[],rfl,by simp⟩) ?_
  intro r o hr
  obtain⟨q',s,rfl,rfl,hd⟩:=kn _ _ r o (by omega) (by omega) hr
  simp only[↓zq,zs,ae,aK,hb.has];exact hd
 ·refine aV (A4 b l hb q (by omega)) (eI.ne ⟨[],rfl,by simp⟩) ?_
  intro r o hr
  obtain⟨q',s,rfl,rfl,hd⟩:=kn _ _ r o (by omega) (by omega) hr
  simp only[↓zq,zs,ae,aK,hb.has];exact hd
 ·refine aV (GS b l hb 2 (by omega) q [[116],[116,49]] _ (cZ.of [[116],[116,49]]) (by decide) (by simp) (by simp[na];omega)) (eI.ne ⟨[],rfl,by simp⟩) ?_
  intro r o hr
  obtain⟨q',s,rfl,rfl,hd⟩:=kn _ _ r o (by simp[na]) (by simp[ng]) hr
  simp only[↓zq,zs,ae,aK,hb.has];exact hd
 ·refine aV (GS b l hb 3 (by omega) q [] _ (cZ.of []) (by simp) (by simp) (by simp[na];omega)) (eI.ne ⟨[],rfl,by simp⟩) ?_
  intro r o hr
  obtain⟨q',s,rfl,rfl,hd⟩:=kn _ _ r o (by simp[na]) (by simp[ng]) hr
  simp only[↓zq,zs,ae,aK,hb.has];exact hd
def xE(a:AV):Prop:=LK.sl.has a/\∃l:List UInt8,a.aO=pX l
def Nw(r:AV)(o:List Ob):Prop:=∃(b:AV) (l:List UInt8),sC b l/\r=.ref 0 0/\o=[.cells [b,.v (.int .i64 0)]]
theorem Nw.ne:∃r o,Nw r o:=⟨_,_,.v (.slice none 0 0),[],⟨(be).mpr trivial,rfl,by simp⟩,rfl,rfl⟩
theorem OZ(a:AV)(ha:xE a):ap Tryz.prog 27 [a] [] Nw:=by
 obtain⟨hs,l,hl⟩:=ha
 have hln:a.aO.length=l.length:=by rw[hl];simp[pX]
 refine Ot _ hs ?_
 simp only[Jm,↓zq,zs,ae,hln]
 refine⟨hs,fun h=>⟨⟨hs,by omega⟩,?_⟩,fun h=>?_⟩
 ·refine⟨_,l.take 2000,⟨(ci _).mpr trivial,?_,?_⟩,rfl,rfl⟩
  ·rw[fL,hl];simp[pX]
  ·simp;omega
 ·exact⟨a,l,⟨hs,hl,by omega⟩,rfl,rfl⟩
end Go.Proofs.Trees
namespace Go.Proofs.Trees
open Go Go.VL Go.RowKit
theorem Ah(b:AV)(l:List UInt8)(hb:sC b l){e:E}(h:Wf e):∀d:Int,d<=-13->-50000+(e.sz:Int)<=d->e.en<=400->jP b d e (5*e.sz) e.sz:=by
 induction h with
 |
  @atom s hs =>
  intro d h1 h2 h3
  exact(H6 b l hb d hs).mono (by simp[E.sz]) (by simp[E.sz])
 |
  @plus x y hx hy i1 i2 =>
  intro d h1 h2 h3
  have h4:=h3
  simp only[E.sz,E.ji,E.en,E.fA]at h2 h4 |-
  exact(M8 b l hb d (by omega) hx hy h3 (5*(x.sz+y.sz)+1) (x.sz+y.sz) ((i1 (d-1) (by omega) (by omega) (by omega)).mono (by omega) (by omega)) ((i2 (d-1) (by omega) (by omega) (by omega)).mono (by omega) (by omega)) (by omega)).mono (by omega) (by omega)
 |
  @times x y hx hy i1 i2 =>
  intro d h1 h2 h3
  have h4:=h3
  simp only[E.sz,E.ji,E.en,E.fA]at h2 h4 |-
  exact(MR b l hb d (by omega) hx hy (5*x.sz+1) x.sz (5*y.sz+1) y.sz ((i1 (d-1) (by omega) (by omega) (by omega)).mono (by omega) (by omega)) ((i2 (d-1) (by omega) (by omega) (by omega)).mono (by omega) (by omega)) (by omega) (by omega)).mono (by omega) (by omega)
 |
  @rc n x hn hx i =>
  intro d h1 h2 h3
  simp only[E.sz,E.ji]at h2 |-
  exact(ML b l hb d (by omega) hn hx h3 1 0 (fun h=>absurd h (by omega)) (by omega)).mono (by omega) (by omega)
def oW:Nat->Nat
 |0=>6100
 |n+1=>2*oW n+5
theorem Gu:∀n,6100<=oW n
 |0=>aq _
 |n+1=>by have:=Gu n;simp only[oW];omega
theorem v7:∀n k:Nat,oW (n+k)+5=2 ^ k*(oW n+5)
 |n,0=>by simp
 |
  n,k+1=>by
  have:=v7 n k
  rw[show n+(k+1)=n+k+1 from rfl,oW,Nat.pow_succ,Nat.mul_comm (2 ^ k) 2,Nat.mul_assoc,<-this];omega
theorem Av{n m:Nat}(h:n<=m):oW n<=oW m:=by
 obtain⟨k,rfl⟩:=Nat.exists_eq_add_of_le h
 have:=v7 n k
 have h2:1*(oW n+5)<=2 ^ k*(oW n+5):=aZ _ Nat.one_le_two_pow
 omega
theorem KV:oW 22<=30000000000:=by
 have:=v7 0 22
 simp only[aW]at this
 have h0:oW 0=6100:=rfl
 rw[h0]at this
 omega
theorem yb(b:AV)(l:List UInt8)(hb:sC b l):∀n:Nat,n<=40->∀e,Wf e->e.en<=400->jP b ((n:Int)-13) e (oW n) (oW n)
 |
  0,hn,e,h,hl=>by
  have:=h.sz
  exact(Ah b l hb h _ (by simp) (by simp;omega) hl).mono (by simp only[oW];omega) (by simp only[oW];omega)
 |
  n+1,hn,e,h,hl=>by
  have hb1:=Gu n
  have ih:∀g,Wf g->g.en<=400->jP b (((n+1:Nat):Int)-13-1) g (oW n) (oW n):=by
   rw[show ((n+1:Nat):Int)-13-1=(n:Int)-13 by omega];exact yb b l hb n (by omega)
  cases h with
  |@atom s hs=>exact(H6 b l hb _ hs).mono (by simp only[oW];omega) (by simp only[oW];omega)
  |
   @plus x y hx hy =>
   have h4:=hl
   simp only[E.en,E.fA]at h4
   exact(M8 b l hb _ (by omega) hx hy hl _ _ (ih x hx (by omega)) (ih y hy (by omega)) (by omega)).mono (by simp only[oW];omega) (by simp only[oW];omega)
  |
   @times x y hx hy =>
   simp only[E.en,E.fA]at hl
   exact(MR b l hb _ (by omega) hx hy _ _ _ _ (ih x hx (by omega)) (ih y hy (by omega)) (by omega) (by omega)).mono (by simp only[oW];omega) (by simp only[oW];omega)
  |@rc m x hm hx=>exact(ML b l hb _ (by omega) hm hx hl _ _ (fun _=>ih) (by omega)).mono (by simp only[oW];omega) (by simp only[oW];omega)
theorem Mo(b:AV)(l:List UInt8)(hb:sC b l)(p:Nat)(hp:p<100000000000000)(s:Nm):ap Tryz.prog 52 [.ref 0 0,.v (.string (mk s))] [.cells [b,.v (.int .i64 (p:Int))]] (eI b p 40000000000 (gh 40000000000)):=by
 refine Pu _ _ _ hb.has ?_
 have hfar:qm=1000000000000000:=rfl
 have oneL:∀(q:Nat) (r:AV) (o:List Ob),p<=q->q<=p+1->eI b q 1 (kE [[],[117],[101,48],[101,48,48],[101,49,48,48],[40,108,32,117,41],[40,112,32,117,41],[40,102,32,40,108,32,117,41,41],[40,120,32,117,41],[40,108,32,32,117,41]]) r o->∃q':Nat,∃t:List UInt8,r=.v (.string (mk t))/\o=[.cells [b,.v (.int .i64 (q':Int))]]/\eI b p 40000000000 (gh 40000000000) (.v (.string (mk t))) [.cells [b,.v (.int .i64 (q':Int))]]:=by
  rintro q r o h1 h2 ⟨q',g1,g2,hr,rfl⟩
  obtain⟨t,rfl,ht⟩:=kE.dT (n:=20) (by decide) hr
  exact⟨q',t,rfl,rfl,q',by omega,by omega,⟨t,rfl,by omega⟩,rfl⟩
 unfold Jc
 refine aV (F3 s) (mD.ne _ _ (fun h=>h)) ?_
 rintro r o ⟨c,d,hd,rfl,hh⟩
 have hhas:cc [.str,.sl] [.v (.string (mk c)),d] 0:=by simp[cc,eV,hd]
 simp only[↓zq,zs,ae,zt]
 refine⟨hhas,fun h=>?_,fun h=>?_⟩
 ·refine aV (Cf b l hb p (by omega) _ _ (.of [_,_,_,_,_,_,_,_,_,_]) (by simp) (by simp)) (eI.ne ⟨_,ai,rfl⟩) ?_
  intro r o hr
  obtain⟨q',t,rfl,rfl,hd⟩:=oneL p r o (aq _) (by omega) hr
  simp only[↓zq,zs,ae,aK,hb.has];exact hd
 ·obtain⟨e,he,hce⟩:=hh (by simpa using h)
  obtain⟨t,h1,hA,h3,h4,h5,_⟩:=gJ he
  rw[ei]at hce
  simp only[AV.agg.injEq,List.cons.injEq,AV.v.injEq,Value.string.injEq,and_true]at hce
  obtain⟨hc1,rfl⟩:=hce
  have hc2:=vS hc1
  subst hc2
  obtain⟨hw,hwt⟩:=ka e [] t hA.ok (by simp) hA.ty
  have hats:e.en<=400:=by rw[hw.en [],hwt];exact h5
  have hsz:=hw.sz
  refine aV (xg b l hb p 16 (by omega) (by decide)) (eI.ne ⟨0,rfl,fun h=>by omega,by omega⟩) ?_
  rintro r o ⟨q,h1,h2,⟨k,rfl,_,_⟩,rfl⟩
  simp only[↓zq,zs,ae,aK,hb.has]
  refine⟨fun _=>?_,fun _=>?_⟩
  ·refine aV (Cf b l hb q (by omega) _ _ (.of [_,_,_,_,_,_,_,_,_,_]) (by simp) (by simp)) (eI.ne ⟨_,ai,rfl⟩) ?_
   intro r o hr
   obtain⟨q',t,rfl,rfl,hd⟩:=oneL q r o h1 h2 hr
   simp only[↓zq,zs,ae,aK,hb.has];exact hd
  ·obtain⟨w1,w2,_⟩:=AW (os:=[]) hw
   have hap:=L7 hw (.v (.slice none 0 0)) [] ⟨(be).mpr trivial,rfl⟩ (by omega) (by simp) (by simp)
   refine an hap ?_
   simp only[↓zq,zs,ae,zt,aT]
   repeat refine⟨by omega,?_⟩
   have hats2:(Eb e []).en<=400:=by rw[w1.en [],w2,<-hw.en []];exact hats
   refine aV (xg b l hb q 5 (by omega) (by decide)) (eI.ne ⟨0,rfl,fun h=>by omega,by omega⟩) ?_
   rintro r o ⟨q1,g1,g2,⟨k1,rfl,c3,_⟩,rfl⟩
   have hk1:=c3 (by omega)
   simp only[↓zq,zs,ae,zt,aK,hb.has,aT]
   have ed:IntKind.wrap .i64 (5+(k1:Int))=((18+k1:Nat):Int)-13:=by rw[VL.wrap64 _ (by omega) (by omega)];omega
   have hB:=KV
   have hB2:oW (18+k1)<=oW 22:=Av (by omega)
   have hB3:=Gu (18+k1)
   rw[ed]
   refine aV (yb b l hb (18+k1) (by omega) (Eb e []) w1 hats2 q1 (by omega)) (ot b q1 _ _ (by omega)) ?_
   rintro r o ⟨q2,d1,d2,⟨f,rfl,f1,f2⟩,rfl⟩
   simp only[↓zq,zs,ae,zt,aK,hb.has,aT]
   repeat refine⟨by omega,?_⟩
   have ht:=Df (f.sz+1) f (by omega) f1 (by omega)
   rw[ei]at ht
   refine an ht ?_
   simp only[↓zq,zs,ae,zt,aK,hb.has,aT]
   exact⟨q2,by omega,by omega,⟨eG f,rfl,by omega⟩,rfl⟩
theorem O7(b:AV)(l:List UInt8)(hb:sC b l)(p:Nat)(hp:p<100000000000000):ap Tryz.prog 81 [.ref 0 0] [.cells [b,.v (.int .i64 (p:Int))]] (eI b p 200 (gh 200)):=by
 refine O4 _ _ hb.has ?_
 unfold LD
 have hfar:qm=1000000000000000:=rfl
 refine aV (xg b l hb p 8 (by omega) (by decide)) (eI.ne ⟨0,rfl,fun h=>by omega,by omega⟩) ?_
 rintro r o ⟨q,h1,h2,⟨k,rfl,_,_⟩,rfl⟩
 have kn:∀(c m:Nat) (r:AV) (o:List Ob),c<=190->m<=200->eI b q c (gh m) r o->∃q':Nat,∃s:List UInt8,r=.v (.string (mk s))/\o=[.cells [b,.v (.int .i64 (q':Int))]]/\eI b p 200 (gh 200) (.v (.string (mk s))) [.cells [b,.v (.int .i64 (q':Int))]]:=by
  rintro c m r o hc hm ⟨q',g1,g2,⟨s,rfl,hs⟩,rfl⟩
  exact⟨q',s,rfl,rfl,q',by omega,by omega,⟨s,rfl,by omega⟩,rfl⟩
 have sh:=GS b l hb 3 (by omega) q [] _ (cZ.of []) (by simp) (by simp) (by simp[na];omega)
 have ty:=PY b l hb q (by omega)
 have kw:=A4 b l hb q (by omega)
 simp only[↓zq,zs,ae,aK,hb.has]
 refine⟨fun _=>?_,fun _=>⟨fun _=>?_,fun _=>⟨fun _=>?_,fun _=>⟨fun _=>?_,fun _=>?_⟩⟩⟩⟩
 ·refine aV ty (eI.ne ⟨[],rfl,by simp⟩) ?_
  intro r o hr
  obtain⟨q',s,rfl,rfl,hd⟩:=kn _ _ r o (by omega) (by omega) hr
  simp only[↓zq,zs,ae,aK,hb.has];exact hd
 ·refine aV sh (eI.ne ⟨[],rfl,by simp⟩) ?_
  intro r o hr
  obtain⟨q',s,rfl,rfl,hd⟩:=kn _ _ r o (by simp[na]) (by simp[ng]) hr
  simp only[↓zq,zs,ae,aK,hb.has];exact hd
 ·refine aV sh (eI.ne ⟨[],rfl,by simp⟩) ?_
  intro r o hr
  obtain⟨q',s,rfl,rfl,hd⟩:=kn _ _ r o (by simp[na]) (by simp[ng]) hr
  simp only[↓zq,zs,ae,aK,hb.has];exact hd
 ·refine aV sh (eI.ne ⟨[],rfl,by simp⟩) ?_
  intro r o hr
  obtain⟨q',s,rfl,rfl,hd⟩:=kn _ _ r o (by simp[na]) (by simp[ng]) hr
  simp only[↓zq,zs,ae,aK,hb.has];exact hd
 ·refine aV kw (eI.ne ⟨[],rfl,by simp⟩) ?_
  intro r o hr
  obtain⟨q',s,rfl,rfl,hd⟩:=kn _ _ r o (by omega) (by omega) hr
  simp only[↓zq,zs,ae,aK,hb.has];exact hd
def F4:AV->Prop:=fun r=>∃s t:Nm,r=.cQ [.v (.string (mk s)),.v (.string (mk t))]
theorem NW(b:AV)(l:List UInt8)(hb:sC b l)(p:Nat)(hp:p<10000000000000):ap Tryz.prog 51 [.ref 0 0] [.cells [b,.v (.int .i64 (p:Int))]] (eI b p 50000000000 F4):=by
 refine Po _ _ hb.has ?_
 unfold IL
 refine aV (O7 b l hb p (by omega)) (eI.ne ⟨[],rfl,by simp⟩) ?_
 rintro r o ⟨q,h1,h2,⟨s,rfl,_⟩,rfl⟩
 simp only[↓zq,zs,ae,aK,hb.has]
 refine aV (Mo b l hb q (by omega) s) (eI.ne ⟨[],rfl,by simp⟩) ?_
 rintro r o ⟨q1,g1,g2,⟨t,rfl,_⟩,rfl⟩
 simp only[↓zq,zs,ae,aK,hb.has]
 exact⟨q1,by omega,by omega,⟨s,t,rfl⟩,rfl⟩
theorem Ow(b:AV)(l:List UInt8)(hb:sC b l)(p:Nat)(hp:p<1000000000000):ap Tryz.prog 28 [.ref 0 0] [.cells [b,.v (.int .i64 (p:Int))]] (eI b p 60000000000 F4):=by
 refine PF _ _ hb.has ?_
 unfold KH
 have hfar:qm=1000000000000000:=rfl
 refine aV (A4 b l hb p (by omega)) (eI.ne ⟨[],rfl,by simp⟩) ?_
 rintro r o ⟨q,h1,h2,⟨s,rfl,_⟩,rfl⟩
 simp only[↓zq,zs,ae,aK,hb.has]
 refine aV (xg b l hb q 12 (by omega) (by decide)) (eI.ne ⟨0,rfl,fun h=>by omega,by omega⟩) ?_
 rintro r o ⟨q1,g1,g2,⟨k,rfl,_,_⟩,rfl⟩
 simp only[↓zq,zs,ae,aK,hb.has]
 refine⟨fun _=>?_,fun _=>?_⟩
 ·refine aV (NW b l hb q1 (by omega)) (eI.ne ⟨[],[],rfl⟩) ?_
  rintro r o ⟨q2,e1,e2,⟨x,y,rfl⟩,rfl⟩
  simp only[↓zq,zs,ae,zt,aK,hb.has]
  exact⟨q2,by omega,by omega,⟨x,y,rfl⟩,rfl⟩
 ·refine aV (Mo b l hb q1 (by omega) s) (eI.ne ⟨[],rfl,by simp⟩) ?_
  rintro r o ⟨q2,e1,e2,⟨t,rfl,_⟩,rfl⟩
  simp only[↓zq,zs,ae,aK,hb.has]
  exact⟨q2,by omega,by omega,⟨s,t,rfl⟩,rfl⟩
end Go.Proofs.Trees
namespace Go.Proofs.Trees
open Go Go.VL Go.RowKit
abbrev pZ(p:List Nat):List Int:=p.map Int.ofNat
theorem Be(p:List Nat):mC (nH p) (pZ p):=⟨by rw[ku];trivial,by rw[yc,vN]⟩
theorem Ca(f:List Nat->AV){l:List Pt}{i:Nat}(hi:i<l.length):(fk f l).getD i []=[f (l[i]).2]:=by simp[fk,aa,hi]
end Go.Proofs.Trees
namespace Go.Proofs.Trees
open Go Go.VL Go.RowKit
theorem J5(l:List Pt)(hl:l.length<=1000):∀(k i:Nat) (out:List (List UInt8)),i+k=l.length->out.length+k<=1000 ->
 Fx [.sl (mB l),.v (.bool true),.v (.int .i64 (i:Int))] [.vec 1 (bw out)] (ga 1 [.v (.bool true)] [.vec 1 (bw (out++kP (l.drop i)))])
 |
  0,i,out,hi,ho=>by
  refine Hr _ _ _ _ ?_
  have:i=l.length:=by omega
  subst this
  simp only[DK,↓zq,zs,ae,kQ]
  exact⟨fun h=>by omega,fun _=>by simp[ga,kP]⟩
 |
  k+1,i,out,hi,ho=>by
  have hlt:i<l.length:=by omega
  refine Hr _ _ _ _ ?_
  simp only[DK,↓zq,zs,ae,zt,kQ,Az hlt,wO,BS]
  refine⟨fun _=>⟨fun _=>?_,fun h=>(by cases h)⟩,fun h=>by omega⟩
  repeat refine⟨by omega,?_⟩
  refine⟨⟨oG _,by omega⟩,?_⟩
  have:=J5 l hl k (i+1) (out++[(l[i]).1.dT]) (by omega) (by simp;omega)
  rw[bh i (by omega),aL hlt]
  rw[aS]at this
  exact this
theorem P5(s v:List UInt8):ap Tryz.prog 16 [.v (.string (mk s)),.v (.string (mk v))] [] (bH (.cQ [.sl (bw (zL s v)),.v (.bool (dk s v).isSome)])):=by
 refine Pc _ _ ?_
 unfold L6
 refine aV (OR s v) (DT.ne _ s v) ?_
 rintro r o ⟨rfl,x,hx,rfl,hl⟩
 cases h:dk s v with
 |
  none =>
  simp only[↓zq,zs,ae,hx,Option.isSome_none]
  refine cb (ys:=[.v (.bool false)]) (o:=[.vec 1 []]) ?_ ?_
  ·refine Hr _ _ _ _ ?_
   simp only[DK,↓zq,zs,ae,hx]
   exact⟨fun _=>⟨fun h=>(by cases h),fun _=>⟨rfl,rfl,rfl⟩⟩,fun _=>⟨rfl,rfl,rfl⟩⟩
  ·simp[↓zq,zs,ae,bH,zL,h,bw,Ob.es]
 |
  some l =>
  rw[hl l h]
  have:=(jE h).1
  simp only[↓zq,zs,ae,Option.isSome_some,kQ]
  have:=J5 l (by omega) l.length 0 [] (by omega) (by simp;omega)
  rw[aX,aQ]at this
  refine cb this ?_
  simp[↓zq,zs,ae,bH,zL,h,Ob.es]
end Go.Proofs.Trees
namespace Go.Proofs.Trees
open Go Go.VL Go.RowKit
theorem PR(a:AV)(ha:xE a):ap Tryz.prog 14 [a] [] (fun r o=>o=[]/\F4 r):=by
 refine PJ _ ha.1 ?_
 unfold Lu
 refine aV (OZ a ha) Nw.ne ?_
 rintro r o ⟨b,l,hb,rfl,rfl⟩
 simp only[↓zq,zs,ae,zt,hb.has]
 refine⟨by simp[cc,hb.has,lg],aV (Ow b l hb 0 (by omega)) (eI.ne ⟨[],[],rfl⟩) ?_⟩
 rintro r o ⟨q,_,_,⟨s,t,rfl⟩,rfl⟩
 simp only[↓zq,zs,ae,zt,aK,hb.has]
 first|exact⟨rfl,s,t,rfl⟩|exact⟨s,t,rfl⟩|exact⟨trivial,s,t,rfl⟩
theorem s8{l:List Pt}{i:Nat}(hi:i<l.length):(bw (kP l)).getD i []=[.v (.string (mk (l[i]).1.dT))]:=by simp[bw,kP,aa,hi]
theorem pe(l:List Pt):(bw (kP l)).length=l.length:=by simp[bw,kP]
theorem G0(s v:Nm)(l:List Pt)(hp:dk s v=some l):∀(k i:Nat),i+k=l.length ->
 ES [.v (.string (mk s)),.v (.string (mk v)),.sl (fk nH l),.v (.bool true),.v (.int .i64 (i:Int))] [.vec 1 (bw (kP l))] (ga 1 [.v (.string (mk v)),.sl (fk nH l),.v (.bool true)] [.vec 1 (bw (kP l))])
 |
  0,i,hi=>by
  have:i=l.length:=by omega
  subst this
  refine JP _ _ _ _ _ _ ?_
  simp only[Es,↓zq,zs,ae,jt,pe]
  exact⟨fun h=>by omega,fun _=>⟨rfl,rfl,rfl⟩⟩
 |
  k+1,i,hi=>by
  have hlt:i<l.length:=by omega
  have hm:=bE hlt
  have hd:=tE hp _ hm
  have hll:=(jE hp).1
  refine JP _ _ _ _ _ _ ?_
  simp only[Es,↓zq,zs,ae,zt,jt,pe,Ca _ hlt,s8 hlt,bB,eq_true (Be (l[i]).2).1]
  rw[bh i (by omega)]
  refine⟨fun _=>⟨fun _=>?_,fun h=>by omega⟩,fun h=>by omega⟩
  repeat refine⟨by omega,?_⟩
  refine a7 (NQ s v _ _ (Be (l[i]).2) (by simp;omega)) ?_
  simp only[↓zq,zs,ae,zt,aK,Ob.es,bc]
  refine⟨nD _,fun h=>?_,fun h=>?_⟩
  ·obtain⟨r,hr⟩:=bx.1 h
   have h2:r.2=(l[i]).1:=C7 hp hm hr
   rw[hr]
   repeat refine⟨by omega,?_⟩
   refine⟨fun h=>absurd (show r.2.dT=_ by rw[h2]) h,fun _=>?_⟩
   exact G0 s v l hp k (i+1) (by omega)
  ·exact G0 s v l hp k (i+1) (by omega)
theorem N0(a:AV)(ha:xE a):ap Tryz.prog 4 [a] [] (bH (.v (.bool true))):=by
 refine Qp _ ha.1 ?_
 simp only[Jd,↓zq,zs,ae,zt,bH]
 refine⟨ha.1,fun _=>trivial,fun _=>?_⟩
 refine aV (PR a ha) ⟨_,_,rfl,[],[],rfl⟩ ?_
 rintro r o ⟨rfl,s,v,rfl⟩
 simp only[↓zq,zs,ae,zt]
 have hn:=Dl s v
 have EQ:=P1 (.sl (bw (zL s v))) (.sl (bw (zL s v))) _ (.of _) (.of _) (by omega)
 refine a7 (QK s v) ?_
 simp only[↓zq,zs,ae,zt,Ob.es,bc]
 refine⟨nD _,an (P5 s v) ?_⟩
 simp only[↓zq,zs,ae,zt]
 refine⟨fun h=>by simp at h,fun _=>an EQ ?_⟩
 simp only[↓zq,zs,ae,zt]
 refine⟨fun h=>by simp at h,fun _=>⟨fun _=>⟨fun _=>an EQ ?_,fun h=>absurd rfl h⟩,fun h=>?_⟩⟩
 ·simp only[↓zq,zs,ae]
 ·obtain⟨l,hp⟩:=bx.1 h
  obtain⟨w,l',hw,hl⟩:=uG hp
  obtain⟨_,_,_,_,_,L⟩:=gK hw |> fun⟨a,x,A,B,L⟩=>(⟨a,x,A,B,trivial,L⟩:∃a x A B,∃_:True,LV s v w a x A B)
  have hv:v=w.dT:=nN L.v
  have hx:zL s v=kP l:=by unfold zL;rw[hp]
  refine an (NY s v) ?_
  simp only[hp,hx,CU,↓zq,zs,ae,zt]
  refine cb (G0 s v l hp l.length 0 (by omega)) ?_
  have h0:0<l.length:=by rw[hl];simp
  have hg:=s8 h0
  simp only[↓zq,zs,ae,zt,Ob.es,bc,bF,jt,pe,hg,Int.toNat_zero]
  have e0:(l[0]).1=w:=by simp[hl]
  simp[e0,hv,h0]
end Go.Proofs.Trees
