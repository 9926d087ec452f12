/-
  Part of a proof: Go functions read by values, trees of functions, their contracts.
-/
import Derived.Test.YthcjhageibaepaaGreatDoorP6
set_option linter.unusedVariables false
set_option linter.unusedSimpArgs false
open Bool renaming eq_iff_iff→cy,or_eq_false_iff→cj,or_eq_true→bC
open Int renaming toNat_natCast→bH
open List renaming append_assoc→ba,drop_eq_getElem_cons→aU,drop_zero→bf,eq_nil_of_length_eq_zero→bR,getD_cons_zero→bq,getD_eq_getElem?_getD→aa,getElem?_eq_getElem→bp,getElem_mem→bD,headD_cons→aO,length_append→aq,length_map→cu,length_nil→aG,map_cons→bE,mem_append→aN,mem_append_left→aD,mem_append_right→aB,mem_cons_of_mem→al,mem_cons_self→ak,mem_map→bO,mem_singleton→aR,nil_append→aT,tail_cons→bz
open Nat renaming le_refl→au
open Option renaming bind_eq_some_iff→a7,bind_none→bI,bind_some→a6,getD_some→cC,isSome_iff_exists→bU,isSome_none→bu,isSome_some→aY,map_some→cg
namespace Go.Proofs.Trees
open Go Go.VL Go.RowKit
theorem mE(n:Nat):∀(m:Nat) (v:Vl),v.nodes<=m->∀(t:Ty) (s:Nm) (d:Ty) (σ:Nm->Option Ty),Dv t s d->CJ σ->jx t 0->vT n v (eS σ t)=true->∀h,h∈cm t (.nm s) v ->
 vT n h.1 (eS σ d)=true/\vT n h.2 (eS σ (.name s))=true/\cW t h.1 h.2=v
 |0,v,hm=>by have:=du v;omega
 |
  m+1,v,hm=>by
  intro t s d σ hd hσ hl hv h hh
  cases hd with
  |zero=>rw[dS rfl (by cases v<;>rfl)]at hh;cases hh
  |one=>rw[dS rfl (by cases v<;>rfl)]at hh;cases hh
  |bound=>rw[dS rfl (by cases v<;>rfl)]at hh;cases hh
  |qx hne=>rw[dS (by simp[eE,hne]) (by cases v<;>rfl)]at hh;cases hh
  |
   hit =>
   rw[mS v (by simp[eE])]at hh
   simp only[aR]at hh
   subst hh
   exact⟨rfl,hv,kQ _ _ _⟩
  |
   @plus a b _ a' b' h1 h2 _ =>
   rcases jh hv with⟨w,rfl,hw⟩|⟨w,rfl,hw⟩
   ·simp only[Vl.nodes]at hm
    rw[mZ]at hh
    obtain⟨k,hk,rfl⟩:=cY hh
    obtain⟨q1,q2,q3⟩:=mE n m w (by omega) _ s _ σ h1 hσ hl.1 hw k hk
    exact⟨q1,q2,congrArg Vl.l q3⟩
   ·simp only[Vl.nodes]at hm
    rw[mY]at hh
    obtain⟨k,hk,rfl⟩:=cY hh
    obtain⟨q1,q2,q3⟩:=mE n m w (by omega) _ s _ σ h2 hσ hl.2 hw k hk
    exact⟨q1,q2,congrArg Vl.r q3⟩
  |
   @times a b _ a' b' h1 h2 _ =>
   obtain⟨x,y,rfl,hx,hy⟩:=gr hv
   simp only[Vl.nodes]at hm
   rw[mX]at hh
   rcases aN.1 hh with hh|hh
   ·obtain⟨k,hk,rfl⟩:=cY hh
    obtain⟨q1,q2,q3⟩:=mE n m x (by omega) _ s _ σ h1 hσ hl.1 hx k hk
    refine⟨?_,q2,congrArg (fun q=>Vl.p q y) q3⟩
    show (vT n k.1 (eS σ a')&&vT n y (eS σ b))=true
    rw[q1,hy];rfl
   ·obtain⟨k,hk,rfl⟩:=cY hh
    obtain⟨q1,q2,q3⟩:=mE n m y (by omega) _ s _ σ h2 hσ hl.2 hy k hk
    refine⟨?_,q2,congrArg (Vl.p x) q3⟩
    show (vT n x (eS σ a)&&vT n k.1 (eS σ b'))=true
    rw[q1,hx];rfl
  |
   @rc a _ c0 d0 x hx hs h1 h2 hsz =>
   have lo:jx (dy (.name x) a 0) 0:=gK x a hl
   obtain⟨X,e1,e2⟩:=ot (x:=x) hσ hl (h1.lc lo) (h2.lc lo)
   obtain⟨w,rfl,hw⟩:=BG hv
   simp only[Vl.nodes]at hm
   have hcl:=lU hσ x (jX hσ (.rc a) hl)
   have hop:eS (iR σ x (eS σ (.rc a))) (dy (.name x) a 0)=dy (eS σ (.rc a)) (eS σ a) 0:=jF hσ x _ a 0 hx
   have hns:eS (iR σ x (eS σ (.rc a))) (.name s)=eS σ (.name s):=by simp only[eS,iR,if_neg (Ne.symm hs)]
   have hnx:eS (iR σ x (eS σ (.rc a))) (.name x)=eS σ (.rc a):=by simp[eS,iR]
   have hw':vT n w (eS (iR σ x (eS σ (.rc a))) (dy (.name x) a 0))=true:=by rw[hop];exact hw
   have ty:∀y,vT n y (dy (.rc X) X 0)=true->vT n (.f y) (eS σ (pW a x c0 d0))=true:=fun y hy=>by rw[e1];exact hy
   rw[nn]at hh
   rcases aN.1 hh with hh|hh
   ·obtain⟨k,hk,rfl⟩:=cY hh
    have hk':k∈cm (dy (.name x) a 0) (.nm s) w:=by rw[nY x w hx (.kq 0 s (Ne.symm hs))];exact hk
    obtain⟨q1,q2,q3⟩:=mE n m w (by omega) _ s _ _ h1 hcl lo hw' k hk'
    rw[dI x k.1.nodes k.1 a 0 k.2 (au _)]at q3
    refine⟨ty _ ?_,by rw[<-hns];exact q2,congrArg Vl.f q3⟩
    rw[e2];exact q1
   ·obtain⟨k,hk,hh⟩:=List.mem_flatMap.1 hh
    obtain⟨k2,hk2,rfl⟩:=cY hh
    have hk':k∈cm (dy (.name x) a 0) (.nm x) w:=by rw[nY x w hx (.nm 0)];exact hk
    obtain⟨q1,q2,q3⟩:=mE n m w (by omega) _ x _ _ h2 hcl lo hw' k hk'
    rw[dI x k.1.nodes k.1 a 0 k.2 (au _)]at q3
    rw[hnx]at q2
    have hsz2:=(iE hk).1
    obtain⟨r1,r2,r3⟩:=mE n m k.2 (by omega) (.rc a) s _ σ (.rc x hx hs h1 h2 hsz) hσ hl q2 k2 hk2
    refine⟨ty _ ?_,r2,?_⟩
    ·rw[e2]
     show (vT n k.1 _&&vT n k2.1 _)=true
     rw[q1,r1];rfl
    ·show Vl.f (cW a k.1 (cW (.rc a) k2.1 k2.2))=.f w
     rw[r3,q3]
theorem DN{n:Nat}{a D:Ty}{x:Nm}(hx:bn x a=false)(hl:jx (.rc a) 0)(h:n6 a x=some D){v:Vl}(hv:vT n v (.rc a)=true){k:Hl}(hk:k∈kids a v) :
 vT n k.1 D=true/\vT n k.2 (.rc a)=true/\.f (cW a k.1 k.2)=v:=by
 simp only[n6,a7,cQ,eN]at h
 obtain⟨d,hd,_,rfl⟩:=h
 have lo:jx (dy (.name x) a 0) 0:=gK x a hl
 have hcl:=lU rH x hl
 have e1:sub x (.rc a) d=eS (iR CV x (.rc a)) d:=by
  have:=iw CV x (.rc a) d
  rw[iX,iX]at this;exact this
 obtain⟨w,rfl,hw⟩:=BG hv
 have hk':k∈cm (dy (.name x) a 0) (.nm x) w:=by rw[nY x w hx (.nm 0)];exact hk
 have hop:eS (iR CV x (.rc a)) (dy (.name x) a 0)=dy (.rc a) a 0:=by rw[jF rH x _ a 0 hx,iX]
 obtain⟨q1,q2,q3⟩:=mE n w.nodes w (au _) _ x _ _ hd hcl lo (by rw[hop];exact hw) k hk'
 rw[dI x k.1.nodes k.1 a 0 k.2 (au _)]at q3
 refine⟨by rw[e1];exact q1,?_,congrArg Vl.f q3⟩
 simpa[eS,iR]using q2
theorem gW:∀{t:Ty},cc t=true->∃y,bn y t=true/\dk y=true
 | .name s,h=>⟨s,by simp[bn],h⟩
 |
  .plus a b,h=>by
  simp only[cc,bC]at h
  rcases h with h|h
  ·obtain⟨y,h1,h2⟩:=gW h;exact⟨y,by simp[bn,h1],h2⟩
  ·obtain⟨y,h1,h2⟩:=gW h;exact⟨y,by simp[bn,h1],h2⟩
 |
  .times a b,h=>by
  simp only[cc,bC]at h
  rcases h with h|h
  ·obtain⟨y,h1,h2⟩:=gW h;exact⟨y,by simp[bn,h1],h2⟩
  ·obtain⟨y,h1,h2⟩:=gW h;exact⟨y,by simp[bn,h1],h2⟩
 |
  .rc a,h=>by
  obtain⟨y,h1,h2⟩:=gW (t:=a) h;exact⟨y,by simp[bn,h1],h2⟩
theorem gU:∀{t:Ty} {y:Nm},bn y t=true->dk y=true->cc t=true
 |
  .name s,y,h,hl=>by
  have:s=y:=by simpa[bn]using h
  rw[this];exact hl
 |
  .plus a b,y,h,hl=>by
  simp only[bn,bC]at h
  simp only[cc,bC]
  exact h.imp (gU · hl) (gU · hl)
 |
  .times a b,y,h,hl=>by
  simp only[bn,bC]at h
  simp only[cc,bC]
  exact h.imp (gU · hl) (gU · hl)
 | .rc a,y,h,hl=>gU (t:=a) h hl
 | .zero,y,h,_=>by simp[bn]at h
 | .one,y,h,_=>by simp[bn]at h
 | .bound k,y,h,_=>by simp[bn]at h
theorem ZT.Tk{s d:Nm}{a:Ty}{x A B:E}{D:Ty}(z:ZT s d a x A B D):∃e,jI d=some e/\Ask e [] D:=by
 have hcl:cc D=false:=by
  cases q:cc D with
  |false=>rfl
  |
   true =>
   obtain⟨y,h1,h2⟩:=gW q
   have:=gU (t:=.rc a) (s6 z.lp y h1) h2
   rw[z.ask.cl]at this;cases this
 have hc:w8 d=some D:=by unfold w8;rw[z.bk];simp only;rw[if_pos (by rw[sL,hcl];rfl)]
 cases q:jI d with
 |none=>rw[nj q]at hc;cases hc
 |
  some e =>
  obtain⟨t,h1,hA,_⟩:=gZ q
  rw[hc]at h1;cases h1
  exact⟨e,rfl,hA⟩
theorem ZT.PI{s d:Nm}{a:Ty}{x A B:E}{D:Ty}(z:ZT s d a x A B D){w:Vl}(hb:w.ig 100)(hv:vT 100 w D=true):m9 d w.cA 100=if w.nodes<=200 then some w else none:=by
 obtain⟨e,he,hA⟩:=z.Tk
 unfold m9
 rw[he]
 by_cases hn:w.nodes<=200
 ·rw[qP hb hn,if_pos hn]
  simp only
  rw[if_pos ⟨by omega,by rw[show (100:Int).toNat=100 from rfl,na hA];exact hv⟩]
 ·rw[if_neg hn]
  cases q:sw w.cA with
  |none=>rfl
  |
   some w' =>
   exfalso
   obtain⟨_,h2,h3⟩:=lW q
   have:=tU hb h2 (qQ q)
   rw[this]at hn;exact hn h3
theorem ZT.P6{s d:Nm}{a:Ty}{x A B:E}{D:Ty}(z:ZT s d a x A B D){v:Vl}(hv:Fo a v){k:Hl}(hk:k∈kids a v):vT 100 k.1 D=true/\Fo a k.2/\.f (cW a k.1 k.2)=v:=by
 obtain⟨e2,he2,hw2,hte2,_,_⟩:=nV z.y
 have hlc:jx (.rc a) 0:=hte2 ▸ hw2.qH.1
 obtain⟨q1,q2,q3⟩:=DN (ui z.y) hlc z.lp hv.ty hk
 have:=xP hk
 have:=hv.nd
 exact⟨q1,⟨q2,(kW hv.ig hk).2,by omega⟩,q3⟩
def wF(a:Ty)(l:List Vl)(v:Vl)(k:Int):Option (List Vl×Vl) :=
 if l.length=50 then none else if 0<=k/\k.toNat<(kids a v).length then
  (if((kids a v).getD k.toNat (.u,.u)).1.nodes<=200 then some (l++[((kids a v).getD k.toNat (.u,.u)).1],((kids a v).getD k.toNat (.u,.u)).2)else none)else none
theorem vu{a:Ty}{l:List Vl}{c e v:Vl}(h:.f (cW a c e)=v)(hn:v.nodes<=200):pz a (l++[c]) e=some (l,v)/\sf a (l++[c]) e=sf a l v:=by
 have hu:pz a (l++[c]) e=some (l,v):=by
  unfold pz
  rw[List.getLast?_concat]
  simp only
  rw[h,if_pos hn,List.dropLast_concat]
 refine⟨hu,?_⟩
 unfold sf
 rw[aq,List.length_singleton,iV,hu]
 rfl
theorem zN{s d:Nm}{l:List Vl}{v:Vl}(hs:St s d (zA s) l v)(hd:cH s=some d)(hv:fF s (l.map (·.cA)) v.cA=some (l,v)){k:Hl}(hk:k∈kids (zA s) v) :
 fF s (l.map (·.cA)++[k.1.cA]) k.2.cA=if l.length=50 then none else if k.1.nodes<=200 then some (l++[k.1],k.2)else none:=by
 obtain⟨x,A,B,D,z⟩:=hs.z
 obtain⟨t1,t2,t3⟩:=z.P6 hs.i.oI hk
 have hb:=(kW hs.i.oI.ig hk).1
 have hz:=(fH hv).1
 have hclo:=(fH hv).2
 have hlen:=hs.len
 have hlp:eC d (l.map (·.cA))=some l:=by
  rw[uV,hd]at hz
  simp only[a6,z.l]at hz
  obtain⟨_,h1,h2⟩:=a7.1 hz
  split at h2
  ·obtain⟨l',h3,h4⟩:=Option.map_eq_some_iff.1 h2
   cases h4;exact h3
  ·cases h2
 have e1:m9 s k.2.cA 100=some k.2:=by rw[z.cA t2.ig t2.ty,if_pos t2.nd]
 unfold fF
 rw[uV,hd]
 simp only[a6,z.l,e1,sX,hlp,eC,z.PI hb t1,aq,cu,List.length_singleton]
 by_cases h50:l.length=50
 ·rw[if_neg (by omega),if_pos h50];rfl
 ·rw[if_pos (by omega),if_neg h50]
  by_cases hn:k.1.nodes<=200
  ·rw[if_pos hn,if_pos hn]
   simp only[cg,a6,(vu (l:=l) t3 hs.i.oI.nd).2]
   rw[if_pos hclo]
  ·rw[if_neg hn,if_neg hn];rfl
end Go.Proofs.Trees
namespace Go.Proofs.Trees
open Go Go.VL Go.RowKit
def E6(s:Nm)(o:Option (List Vl×Vl)):AV->List Ob->Prop:=fun r obs=>obs=[]/\∃pa,ct pa (tZ s o).2.1/\r=.cG [.agg [.v (.string (mk (tZ s o).1)),pa,.v (.string (mk (tZ s o).2.2))],.v (.bool o.isSome)]
theorem wS(s:Nm){o:Option (List Vl×Vl)}(h:GZ o):(tZ s o).2.1.length<=51:=by
 cases o with
 |none=>simp
 |some r=>obtain⟨_,_,h3⟩:=h r rfl;simpa using h3
theorem E6.ne(s:Nm)(o:Option (List Vl×Vl)):∃r ob,E6 s o r ob:=⟨_,[],rfl,_,ct.of _,rfl⟩
theorem E6.none(s:Nm):E6 s none (.cG [.agg [.v (.string (mk [])),.v (.slice none 0 0),.v (.string (mk []))],.v (.bool false)]) []:=⟨rfl,_,ct.nil,rfl⟩
theorem lX{s:Nm}{p:List Nm}{f:Nm}{l:List Vl}{v:Vl}(h:fF s p f=some (l,v)):∃d,St s d (zA s) l v/\p=l.map (·.cA)/\f=v.cA:=xt (fH h).1
abbrev RS(s:Nm)(o:Option (List Vl×Vl)):AV->List Ob->Prop:=df (.cG [.agg [.v (.string (mk (tZ s o).1)),.vec 1,.v (.string (mk (tZ s o).2.2))],.v (.bool o.isSome)]) [.dead,.vec 1 (bJ (tZ s o).2.1)]
theorem NO(s:Nm)(p:List Nm)(f:Nm):an Tryz.prog 41 [.agg [.v (.string (mk s)),.vec 0,.v (.string (mk f))]] [.vec 1 (bJ p)] (RS s (fF s p f)):=by
 refine RJ _ _ _ ?_
 unfold Kl
 refine ai (DL s _ p (ct.of p) f) ?_
 simp only[↓zq,zs,ae]
 cases q:fF s p f with
 |none=>simp only[bu];exact⟨fun _=>⟨rfl,rfl⟩,fun h=>by simp at h⟩
 |
  some r =>
  obtain⟨_,_,rfl,rfl⟩:=lX (l:=r.1) (v:=r.2) q
  simp only[aY]
  exact⟨fun h=>by simp at h,fun _=>⟨rfl,rfl⟩⟩
theorem Cr(s f:Nm):fF s [] f=vt s [] f:=by
 unfold fF
 cases q:vt s [] f with
 |none=>rfl
 |
  some r =>
  obtain⟨l,v⟩:=r
  obtain⟨_,_,h,_⟩:=xt q
  have:l=[]:=List.map_eq_nil_iff.1 h.symm
  subst this
  rfl
theorem Rn(s f:Nm):an Tryz.prog 54 [.v (.string (mk s)),.v (.string (mk f))] [] (DM s (vt s [] f)):=by
 refine QR _ _ ?_
 unfold Nh
 rw[<-Cr]
 refine aV (NO s [] f) ?_
 simp only[↓zq,zs,ae,zt,aJ,Ob.es,aO,bz]
 exact⟨rfl,rfl⟩
theorem PH(s:Nm)(pa:AV)(p:List Nm)(hp:ct pa p)(f:Nm):an Tryz.prog 27 [.agg [.v (.string (mk s)),pa,.v (.string (mk f))]] [] (E6 s (Aj s p f)):=by
 refine Rt _ _ _ hp.1 ?_
 unfold N4
 refine ai (DL s pa p hp f) ?_
 simp only[↓zq,zs,ae]
 unfold Aj
 cases q:fF s p f with
 |none=>simp only[bu];exact⟨fun _=>E6.none s,fun h=>by simp at h⟩
 |
  some r =>
  obtain⟨l,v⟩:=r
  obtain⟨d,hs,rfl,rfl⟩:=lX q
  simp only[aY,a6]
  refine⟨fun h=>by simp at h,fun _=>?_⟩
  refine ai (Jt hs pa hp) ?_
  cases q2:pz (zA s) l v with
  |
   none =>
   obtain⟨p',f',h1,h2⟩:=tL (s:=s) hp.1 q2
   rw[h2]
   simp only[↓zq,zs,ae,zt,bF]
   exact⟨h1,fun _=>E6.none s,fun h=>by simp at h⟩
  |
   some r =>
   obtain⟨l',w⟩:=r
   rw[sW q2]
   simp only[↓zq,zs,ae,zt,bF,cf]
   exact⟨fun h=>by simp at h,fun _=>⟨rfl,_,ct.of _,rfl⟩⟩
def l4(l:List Hl):List (List AV):=l.map fun h=>[.v (.string (mk h.1.cA)),.v (.string (mk h.2.cA))]
theorem l6(l:List Hl):(l4 l).length=l.length:=by simp[l4]
theorem JR(l:List Hl)(hl:l.length<=1000)(h1:∀h,h∈l->h.1.cA.length<=900000)(h2:∀h,h∈l->h.2.cA.length<=900000):∀(k i:Nat) (out:List Hl),i+k=l.length->out.length<=i ->
 Gy [.sl (l8 l),.v (.int .i64 (i:Int))] [.vec 2 (l4 out)] (gV 1 [] [.vec 2 (l4 (out++l.drop i))])
 |
  0,i,out,hi,ho=>by
  refine KT _ _ _ ?_
  have:i=l.length:=by omega
  subst this
  simp only[Gk,↓zq,zs,ae,fA,List.drop_length]
  exact⟨fun h=>by omega,fun _=>by simp[gV]⟩
 |
  k+1,i,out,hi,ho=>by
  have hlt:i<l.length:=by omega
  have hm:=bD hlt
  have t1:=DK (l[i]).1.cL (mq _) (h1 _ hm)
  have t2:=DK (l[i]).2.cL (mq _) (h2 _ hm)
  rw[dj]at t1 t2
  refine KT _ _ _ ?_
  simp only[Gk,↓zq,zs,ae,zt,fA,gC hlt,bF,aX]
  refine⟨fun _=>?_,fun h=>by omega⟩
  repeat refine⟨by omega,?_⟩
  refine ai t1 ?_
  simp only[↓zq,zs,ae,zt]
  repeat refine⟨by omega,?_⟩
  refine ai t2 ?_
  simp only[↓zq,zs,ae,zt,l6]
  refine⟨⟨fun c hc=>by simp at hc;rw[hc];rfl,by omega⟩,?_⟩
  rw[bA i (by omega),aU hlt]
  have:=JR l hl h1 h2 k (i+1) (out++[l[i]]) (by omega) (by simp;omega)
  rw[ba]at this
  simpa[l4]using this
theorem Ph(l:List Hl)(hl:l.length<=1000)(h1:∀h,h∈l->h.1.cA.length<=900000)(h2:∀h,h∈l->h.2.cA.length<=900000):an Tryz.prog 73 [.sl (l8 l)] [] (bK (.sl (l4 l))):=by
 refine Qh _ ((cf _).mpr trivial) ?_
 unfold LO
 refine cz (JR l hl h1 h2 l.length 0 [] (by omega) (by simp)) ?_
 simp only[↓zq,zs,ae]
 exact⟨rfl,rfl⟩
theorem rA{a:Ty}{v:Vl}(h:Fo a v){k:Hl}(hk:k∈kids a v):k.1.cA.length<=900000/\k.2.cA.length<=900000:=by
 obtain⟨b1,b2⟩:=kW h.ig hk
 have h1:=jk _ b1
 have h2:=jk _ b2
 have h3:=xP hk
 have h4:=h.nd
 have h5:k.1.nodes<=4*v.nodes:=by
  cases v with
  |f w=>have:=(iE hk).2;simp only[Vl.nodes];omega
  |_=>cases hk
 omega
theorem Lz{s d:Nm}{a:Ty}{x A B:E}{D:Ty}(z:ZT s d a x A B D)(v:Vl)(hv:Fo a v):an Tryz.prog 51 [.v (.string (mk s)),.v (.string (mk v.cA))] [] (bK (.cG [.sl (l4 (kids a v)),.v (.bool true)])):=by
 have hv2:m9 s v.cA 100=some v:=by rw[z.cA hv.ig hv.ty,if_pos hv.nd]
 have hP:=P3.of x A B
 have hn:=hv.nd
 obtain⟨v0,hv0,_⟩:=uM .nil z.hx (hv.eV z)
 have hkids:=RP 100 v x A B a z.body z.hx v0 hv0 (hv.eV z) (by omega)
 have hV:=P2.of (.atom [102]) v0.cL
 refine Pg _ _ ?_
 unfold JH
 refine aP (GW s) (jH.ne _ _ (fun h=>h)) ?_
 rintro r o ⟨c,e,he,rfl,hh⟩
 rw[z.le]at hh
 obtain⟨e',he',hce⟩:=hh rfl
 cases he'
 rw[dj]at hce
 rw[hce,z.le]
 simp only[↓zq,zs,ae,zt,aL,bM]
 repeat refine⟨by omega,?_⟩
 refine aP (D4 v.cA) (jH.ne _ _ (fun h=>by simpa using h)) ?_
 rw[qP hv.ig hn]
 rintro r o ⟨c,e,he,rfl,hh⟩
 obtain⟨e',he',hce⟩:=hh rfl
 cases he'
 rw[dj]at hce
 rw[hce]
 simp only[↓zq,zs,ae,zt,aL,aY]
 repeat refine⟨by omega,?_⟩
 refine⟨fun h=>by simp at h,fun _=>?_⟩
 refine ai (zU s v.cA 100) ?_
 rw[hv2,hv0]
 simp only[toNat_one,bg,Vl.cL,bM,↓zq,zs,ae,zt,hP.1,hP.2.1,hP.2.2.1,hP.2.2.2,hV.1,hV.2.1,hV.2.2,aL,aX,aY]
 refine⟨fun h=>by simp at h,fun _=>?_⟩
 repeat refine⟨by omega,?_⟩
 refine ai hkids ?_
 simp only[↓zq,zs,ae]
 repeat refine⟨by omega,?_⟩
 have hlen:=mT a v
 have:=kY (kids a v)
 refine ai (Ph (kids a v) (by omega) (fun h hh=>(rA hv hh).1) (fun h hh=>(rA hv hh).2)) ?_
 rw[<-hv0]
 simp only[↓zq,zs,ae]
 exact⟨rfl,rfl⟩
theorem Pf(s:Nm)(pa:AV)(p:List Nm)(hp:ct pa p)(f:Nm):an Tryz.prog 50 [.agg [.v (.string (mk s)),pa,.v (.string (mk f))]] [] (bK (.v (.int .i64 (p6 s p f)))):=by
 refine SG _ _ _ hp.1 ?_
 unfold JV
 refine ai (DL s pa p hp f) ?_
 simp only[↓zq,zs,ae]
 unfold p6
 cases q:fF s p f with
 |none=>simp only[bu];exact⟨fun _=>⟨rfl,rfl⟩,fun h=>by simp at h⟩
 |
  some r =>
  obtain⟨l,v⟩:=r
  obtain⟨d,hs,rfl,rfl⟩:=lX q
  obtain⟨x,A,B,D,z⟩:=hs.z
  simp only[aY]
  refine⟨fun h=>by simp at h,fun _=>?_⟩
  refine ai (Lz z v hs.i.oI) ?_
  simp only[↓zq,zs,ae,l6]
  exact⟨rfl,rfl⟩
end Go.Proofs.Trees
namespace Go.Proofs.Trees
open Go Go.VL Go.RowKit
theorem vx{a:Ty}{l l':List Vl}{v w:Vl}{k:Int}(h:wF a l v k=some (l',w)):∃q,q∈kids a v/\l'=l++[q.1]/\w=q.2/\q.1.nodes<=200/\l.length≠50/\0<=k/\(kids a v)[k.toNat]?=some q:=by
 unfold wF at h
 split at h
 ·cases h
 ·rename_i h0
  split at h
  ·rename_i h1
   split at h
   ·rename_i h2
    cases h
    have e:(kids a v).getD k.toNat (.u,.u)=(kids a v)[k.toNat]'h1.2:=by simp[aa,h1.2]
    rw[e]at h2 |-
    exact⟨_,bD _,rfl,rfl,h2,h0,h1.1,by simp[h1.2]⟩
   ·cases h
  ·cases h
theorem St.dn{s d:Nm}{a:Ty}{l l':List Vl}{v w:Vl}{k:Int}(h:St s d a l v)(hu:wF a l v k=some (l',w)):St s d a l' w/\pz a l' w=some (l,v)/\l'.length=l.length+1:=by
 obtain⟨q,hq,rfl,rfl,hn,h50,_,_⟩:=vx hu
 obtain⟨x,A,B,D,z⟩:=h.z
 obtain⟨t1,t2,t3⟩:=z.P6 h.i.oI hq
 have hv:m9 d q.1.cA 100=some q.1:=by rw[z.PI (kW h.i.oI.ig hq).1 t1,if_pos hn]
 have hlen:=h.len
 refine⟨⟨⟨x,A,B,D,z⟩,⟨fun c hc=>?_,t2⟩,fun c hc=>?_,by simp;omega⟩,(vu t3 h.i.oI.nd).1,by simp⟩
 ·rcases aN.1 hc with hc|hc
  ·exact h.i.ctx c hc
  ·simp only[aR]at hc;subst hc;exact z.ctx hv
 ·rcases aN.1 hc with hc|hc
  ·exact h.each c hc
  ·simp only[aR]at hc;subst hc;exact hv
theorem SI{s d:Nm}{a:Ty}{l:List Vl}{v:Vl}(h:St s d a l v)(k:Int):an Tryz.prog 44 [pA s a l v,.v (.int .i64 k)] [] (bK (oZ s a (wF a l v k))):=by
 obtain⟨x,A,B,D,z⟩:=h.z
 have hnd:=h.i.oI.nd
 have hlen:=h.len
 refine L8 _ _ ((cb _).mpr trivial) ?_
 simp only[Hj,pA,↓zq,zs,ae,gu,aM,aE]
 refine⟨fun h=>(by cases h),fun _=>?_⟩
 repeat refine⟨by first|trivial|omega,?_⟩
 unfold wF
 refine⟨fun h5=>?_,fun h5=>?_⟩
 ·rw[if_pos (by omega)];exact⟨rfl,rfl⟩
 ·rw[if_neg (by omega)]
  repeat refine⟨by first|trivial|omega,?_⟩
  refine ai (IQ 100 v x A B a z.body z.hx (h.i.oI.eV z) (by omega)) ?_
  have hkl:(gF (kids a v)).length=(kids a v).length:=by simp[gF]
  simp only[↓zq,zs,ae,hkl]
  refine⟨fun h0=>?_,fun h0=>⟨fun h1=>?_,fun h1=>?_⟩⟩
  ·rw[if_neg (by omega)];exact⟨rfl,rfl⟩
  ·rw[if_neg (by omega)];exact⟨rfl,rfl⟩
  ·have hlt:k.toNat<(kids a v).length:=by omega
   rw[if_pos ⟨by omega,hlt⟩]
   have hg:(gF (kids a v)).getD k.toNat []=[((kids a v)[k.toNat]).1.cD,((kids a v)[k.toNat]).2.cD]:=by simp[gF,aa,hlt]
   have hg2:(kids a v).getD k.toNat (.u,.u)=(kids a v)[k.toNat]:=by simp[aa,hlt]
   have hm:=bD hlt
   rw[hg2]
   have hctx:((kids a v)[k.toNat]).1.nodes<=4*v.nodes:=by
    cases v with
    |f w=>have:=(iE hm).2;simp only[Vl.nodes];omega
    |_=>simp[kids]at hlt
   generalize (kids a v)[k.toNat]=q at *
   simp only[hg,↓zq,zs,ae,aM]
   repeat refine⟨by first|trivial|omega,?_⟩
   refine ai (E2 q.1 (by omega)) ?_
   simp only[↓zq,zs,ae,aM,aE,zt]
   refine⟨fun hb=>?_,fun hb=>?_⟩
   ·rw[if_neg (by omega)];exact⟨rfl,rfl⟩
   ·rw[if_pos (by omega)]
    repeat refine⟨by first|trivial|omega,?_⟩
    refine⟨⟨fun c hc=>?_,by simp[u3];omega⟩,?_⟩
    ·simp only[u3,bO]at hc
     obtain⟨y,_,rfl⟩:=hc;rfl
    repeat refine⟨by first|trivial|omega,?_⟩
    refine⟨⟨fun c hc=>by simp at hc;rw[hc];rfl,by simp[u3];omega⟩,?_⟩
    repeat refine⟨by first|trivial|omega,?_⟩
    refine⟨?_,rfl⟩
    simp only[oZ,pA,aT,yj]
theorem QF(s:Nm)(a:Ty)(o:Option (List Vl×Vl))(ho:∀r,o=some r->∃d,St s d a r.1 r.2)(k:Int):an Tryz.prog 44 [oZ s a o,.v (.int .i64 k)] [] (bK (oZ s a (o.bind fun r=>wF a r.1 r.2 k))):=by
 cases o with
 |
  none =>
  refine L8 _ _ ((gD).mpr trivial) ?_
  simp only[Hj,oZ,↓zq,zs,ae,bI]
  exact⟨fun _=>⟨rfl,rfl⟩,fun h=>(by cases h)⟩
 |
  some r =>
  obtain⟨d,h⟩:=ho r rfl
  exact SI h k
noncomputable def tG (s:Nm) (p:List Nm) (f:Nm) (k:Int):Option (List Vl×Vl):=(fF s p f).bind fun r=>wF (zA s) r.1 r.2 k
theorem St.gz{s d:Nm}{a:Ty}{l:List Vl}{v:Vl}(h:St s d a l v):GZ (some (l,v)):=h.i.gz (by have:=h.len;omega)
theorem v8(s:Nm)(p:List Nm)(f:Nm)(k:Int):GZ (tG s p f k):=fun r hr=>by
 obtain⟨q,h1,h2⟩:=a7.1 hr
 obtain⟨d,hs,_⟩:=lX (l:=q.1) (v:=q.2) h1
 exact(hs.dn (l':=r.1) (w:=r.2) h2).1.gz r rfl
theorem PT(s:Nm)(pa:AV)(p:List Nm)(hp:ct pa p)(f:Nm)(k:Int):an Tryz.prog 28 [.agg [.v (.string (mk s)),pa,.v (.string (mk f))],.v (.int .i64 k)] [] (DM s (tG s p f k)):=by
 refine QS _ _ _ _ hp.1 ?_
 unfold Jq
 refine ai (O1 s pa p hp f) ?_
 simp only[↓zq,zs,ae,zt,lE]
 refine ai (QF s (zA s) (fF s p f) (fun r hr=>by obtain⟨d,hs,_⟩:=lX (l:=r.1) (v:=r.2) hr;exact⟨d,hs⟩) k) ?_
 simp only[↓zq,zs,ae,zt,lE]
 refine aV (Nz s (zA s) _ (v8 s p f k)) ?_
 simp only[↓zq,zs,ae,zt,aJ]
 exact⟨dU _,rfl,rfl⟩
theorem xi{l:List Hl}{i:Nat}(h:i<l.length):(l4 l).getD i []=[.v (.string (mk (l[i]).1.cA)),.v (.string (mk (l[i]).2.cA))]:=by simp[l4,aa,h]
theorem wM{s:Nm}{p:List Nm}{f:Nm}{r:List Vl×Vl}(h:vt s p f=some r):∃d,cH s=some d/\St s d (zA s) r.1 r.2/\p=r.1.map (·.cA)/\f=r.2.cA:=by
 obtain⟨d,a,x,A,B,D,z,hz,hp,hf,hl,hza,_,hr⟩:=mO (l:=r.1) (v:=r.2) h
 rw[hza]
 exact⟨d,z.dl,⟨⟨x,A,B,D,z⟩,hz,nJ hr hp,by rw[hp]at hl;simpa using hl⟩,hp,hf⟩
theorem ER{s d:Nm}{l:List Vl}{v:Vl}(hs:St s d (zA s) l v)(hd:cH s=some d)(hv:fF s (l.map (·.cA)) v.cA=some (l,v)){k:Int}(h0:0<=k)(hk:k.toNat<(kids (zA s) v).length) :
 fF s (l.map (·.cA)++[((kids (zA s) v)[k.toNat]).1.cA]) ((kids (zA s) v)[k.toNat]).2.cA=wF (zA s) l v k:=by
 rw[zN hs hd hv (bD hk)]
 unfold wF
 by_cases h5:l.length=50
 ·rw[if_pos h5,if_pos h5]
 ·rw[if_neg h5,if_neg h5,if_pos (show 0<=k/\k.toNat<(kids (zA s) v).length from ⟨h0,hk⟩)]
  have hg2:(kids (zA s) v).getD k.toNat (.u,.u)=(kids (zA s) v)[k.toNat]:=by simp[aa,hk]
  rw[hg2]
theorem Rw(s:Nm)(pa:AV)(p:List Nm)(hp:ct pa p)(f:Nm)(k:Int):an Tryz.prog 30 [.agg [.v (.string (mk s)),pa,.v (.string (mk f))],.v (.int .i64 k)] [] (DM s (tG s p f k)):=by
 refine Sk _ _ _ _ hp.1 ?_
 unfold KL
 refine ai (DL s pa p hp f) ?_
 simp only[↓zq,zs,ae]
 unfold tG
 cases q:fF s p f with
 |none=>simp only[bu];exact⟨fun _=>⟨rfl,rfl⟩,fun h=>by simp at h⟩
 |
  some r =>
  obtain⟨l,v⟩:=r
  obtain⟨d,hd,hs,rfl,rfl⟩:=wM (fH q).1
  obtain⟨x,A,B,D,z⟩:=hs.z
  have hlen:l.length<=50:=hs.len
  have hnd:v.nodes<=200:=hs.i.oI.nd
  have hks:=mT (zA s) v
  have hks2:=kY (kids (zA s) v)
  simp only[aY,a6]
  refine⟨fun h=>by simp at h,fun _=>?_⟩
  refine ai (Lz z v hs.i.oI) ?_
  simp only[↓zq,zs,ae,l6]
  rw[wrap64 (((kids (zA s) v).length:Int)-1) (by omega) (by omega)]
  refine ai (AG k 0 _) ?_
  rw[show CH k 0 (((kids (zA s) v).length:Int)-1)=decide (0<=k/\k<=((kids (zA s) v).length:Int)-1) by rw[cy];simp[CH]]
  simp only[↓zq,zs,ae,l6]
  by_cases hin:0<=k/\k<=((kids (zA s) v).length:Int)-1
  ·have hlt:k.toNat<(kids (zA s) v).length:=by omega
   refine⟨fun h=>(by exfalso;first|omega|(simp at h;omega)),fun _=>?_⟩
   simp only[xi hlt,↓zq,zs,ae,zt]
   repeat refine⟨by first|trivial|omega,?_⟩
   refine aV (Fi _ pa hp _ (by simp;omega)) ?_
   simp only[↓zq,zs,ae,zt,Ob.es,aO]
   refine⟨dU _,?_⟩
   repeat refine⟨by first|trivial|omega,?_⟩
   have hdn:=NO s (l.map (·.cA)++[((kids (zA s) v)[k.toNat]).1.cA]) ((kids (zA s) v)[k.toNat]).2.cA
   rw[ER hs hd q hin.1 hlt]at hdn
   refine aV hdn ?_
   simp only[↓zq,zs,ae,zt,aJ,Ob.es,aO,bz]
   exact⟨rfl,rfl⟩
  ·refine⟨fun _=>?_,fun h=>(by exfalso;first|omega|(simp at h;omega))⟩
   have:wF (zA s) l v k=none:=by
    unfold wF
    by_cases h5:l.length=50
    ·rw[if_pos h5]
    ·rw[if_neg h5,if_neg (by omega)]
   rw[this]
   exact⟨rfl,rfl⟩
end Go.Proofs.Trees
namespace Go.Proofs.Trees
open Go Go.VL Go.RowKit
def dZ(b:AV)(q:Nat)(s:Nm)(p:List Nm)(f:Nm):List Ob:=[.cells [b,.v (.int .i64 (q:Int))],Pq,.cells [.v (.string (mk s)),.any,.v (.string (mk f))],.vec 1 (bJ p)]
def Tn(b:AV)(q c:Nat):Nat->List AV->List Ob->Prop:=fun k ys ob=>k=1/\ys=[]/\∃(q':Nat) (s:Nm) (p:List Nm) (f:Nm),q<=q'/\q'<=q+c/\p.length<=51/\ob=dZ b q' s p f
theorem Cn(s:Nm)(p:List Nm)(f:Nm):-1<=p6 s p f/\p6 s p f<=1000:=by
 unfold p6
 cases q:fF s p f with
 |none=>simp
 |
  some r =>
  obtain⟨d,hs,_⟩:=lX (l:=r.1) (v:=r.2) q
  have h1:=mT (zA s) r.2
  have h2:=kY (kids (zA s) r.2)
  have h3:=hs.i.oI.nd
  simp only
  omega
theorem FX(b:AV)(l:List UInt8)(hb:su b l)(q0 C:Nat)(hC:q0+C<1000000000000):∀(k:Nat) (ok:Bool) (i n q:Nat) (s:Nm) (p:List Nm) (f:Nm),i+k=n->n<=100->q0<=q->q+k<=q0+C->p.length<=51 ->
 E9 [.v (.bool ok),.v (.int .i64 (n:Int)),.v (.int .i64 (i:Int))] (dZ b q s p f) (Tn b q0 C)
 |
  0,ok,i,n,q,s,p,f,hi,hn,hq0,hq,hp=>by
  refine OU _ _ _ _ _ _ _ _ _ _ _ ?_
  have:i=n:=by omega
  subst this
  simp only[H3,↓zq,zs,ae,zt,ae,bh,hb.has]
  refine⟨fun h=>by omega,fun _=>⟨rfl,rfl,q,s,p,f,by omega,by omega,hp,rfl⟩⟩
 |
  k+1,ok,i,n,q,s,p,f,hi,hn,hq0,hq,hp=>by
  refine OU _ _ _ _ _ _ _ _ _ _ _ ?_
  have hfar:p9=1000000000000000:=rfl
  simp only[H3,↓zq,zs,ae,zt,ae,bh,hb.has]
  refine⟨fun _=>⟨fun hok=>?_,fun _=>⟨rfl,rfl,q,s,p,f,by omega,by omega,hp,rfl⟩⟩,fun h=>by omega⟩
  refine ai (Pf s _ p (ct.of p) f) ?_
  have hm:=Cn s p f
  obtain⟨m,hm1,hm2⟩:∃m:Nat,(if p6 s p f>1 then p6 s p f else 1)=(m:Int)/\m<=1000:=by
   split
   ·exact⟨(p6 s p f).toNat,by omega,by omega⟩
   ·exact⟨1,rfl,by omega⟩
  simp only[↓zq,zs,ae,hm1]
  refine aP (vN b l hb q m (by omega) (by omega)) (eX.ne ⟨0,rfl,fun h=>by omega,by omega⟩) ?_
  rintro r o ⟨q1,h1,h2,⟨j,rfl,_,_⟩,rfl⟩
  simp only[↓zq,zs,ae,zt,aJ,hb.has]
  refine aV (Rw s _ p (ct.of p) f (j:Int)) ?_
  have hl:=wS s (v8 s p f (j:Int))
  simp only[↓zq,zs,ae,zt,aJ,Ob.es,aO]
  rw[bA i (by omega)]
  refine⟨dU _,fun _=>?_,fun _=>?_⟩
  ·exact FX b l hb q0 C hC k ok (i+1) n q1 _ _ _ (by omega) hn (by omega) (by omega) hl
  ·exact FX b l hb q0 C hC k ok (i+1) n q1 _ _ _ (by omega) hn (by omega) (by omega) hp
def O5(b:AV)(p c:Nat):AV->List Ob->Prop:=fun r o=>∃(q:Nat) (s:Nm) (pth:List Nm) (f:Nm),p<=q/\q<=p+c/\pth.length<=52/\r=.agg [.v (.string (mk s)),.vec 1,.v (.string (mk f))]/\o=[.cells [b,.v (.int .i64 (q:Int))],.vec 1 (bJ pth)]
theorem O5.ne(b:AV)(p c:Nat):∃r o,O5 b p c r o:=⟨_,_,p,[],[],[],au _,by omega,by simp,rfl,rfl⟩
theorem Q3(b:AV)(l:List UInt8)(hb:su b l)(p:Nat)(hp:p<100000000000):an Tryz.prog 31 [.ref 0 0] [.cells [b,.v (.int .i64 (p:Int))]] (O5 b p 60000001000):=by
 have hfar:p9=1000000000000000:=rfl
 refine SS _ _ hb.has ?_
 unfold MD
 refine aP (P7 b l hb p (by omega)) (eX.ne ⟨[],[],rfl⟩) ?_
 rintro r o ⟨q,h1,h2,⟨s,f,rfl⟩,rfl⟩
 simp only[↓zq,zs,ae,zt,aJ,hb.has]
 refine aV (Rn s f) ?_
 have hl:=wS s (HU s [] f)
 simp only[↓zq,zs,ae,zt,aJ,Ob.es,aO]
 refine⟨dU _,?_⟩
 refine aP (vN b l hb q 4 (by omega) (by decide)) (eX.ne ⟨0,rfl,fun h=>by omega,by omega⟩) ?_
 rintro r o ⟨q1,g1,g2,⟨n,rfl,_,hn⟩,rfl⟩
 simp only[↓zq,zs,ae,zt,aJ,hb.has]
 refine kZ (FX b l hb q1 n (by omega) n _ 0 n q1 _ _ _ (by omega) (by omega) (by omega) (by omega) hl) (fun ys o e=>?_) (fun ys o e=>?_)
 ·obtain⟨_,rfl,q2,s2,p2,f2,e1,e2,e3,rfl⟩:=e
  simp only[dZ,↓zq,zs,ae,zt,ae,bh,hb.has,Ob.es,aO,bz,bf]
  refine aP (vN b l hb q2 20 (by omega) (by decide)) (eX.ne ⟨0,rfl,fun h=>by omega,by omega⟩) ?_
  rintro r o ⟨q3,d1,d2,⟨j,rfl,_,_⟩,rfl⟩
  simp only[↓zq,zs,ae,zt,aJ,hb.has]
  have hsl:(bJ p2).length=p2.length:=by simp[bJ]
  have ap:bJ p2++[[.v (.string (mk [117]))]]=bJ (p2++[[117]]):=by simp[bJ]
  refine⟨fun _=>⟨⟨fun c hc=>(by simp at hc;rw[hc];rfl),by simp;omega⟩,?_⟩,fun _=>⟨fun _=>?_,fun _=>⟨fun _=>?_,fun _=>?_⟩⟩⟩
  ·rw[ap];exact⟨q3,s2,_,f2,by omega,by omega,by simp;omega,rfl,rfl⟩
  ·exact⟨q3,s2,_,_,by omega,by omega,by omega,rfl,rfl⟩
  ·exact⟨q3,_,_,f2,by omega,by omega,by omega,rfl,rfl⟩
  ·exact⟨q3,s2,_,f2,by omega,by omega,by omega,rfl,rfl⟩
 ·exact absurd e.1 (by decide)
end Go.Proofs.Trees
namespace Go.Proofs.Trees
open Go Go.VL Go.RowKit
def O2:AV->List Ob->Prop:=fun r o=>o=[]/\∃(s:Nm) (p:List Nm) (f:Nm),p.length<=52/\r=.agg [.v (.string (mk s)),.sl (bJ p),.v (.string (mk f))]
theorem O2.ne:∃r o,O2 r o:=⟨_,_,rfl,[],[],[],by simp,rfl⟩
theorem Si:(0:Nat)<100000000000:=by decide
theorem QZ(a:AV)(ha:yO a):an Tryz.prog 26 [a] [] O2:=by
 refine SE _ ha.1 ?_
 unfold L6
 refine aP (QD a ha) O4.ne ?_
 rintro r o ⟨b,l,hb,rfl,rfl⟩
 simp only[↓zq,zs,ae,zt,hb.has]
 refine⟨by simp[bF,hb.has,lM],aP (Q3 b l hb 0 Si) (O5.ne _ _ _) ?_⟩
 rintro r o ⟨q,s,p,f,_,_,h3,rfl,rfl⟩
 simp only[↓zq,zs,ae,zt,aJ,hb.has,bz,aO,Ob.es]
 exact⟨rfl,s,p,f,h3,rfl⟩
end Go.Proofs.Trees
namespace Go.Proofs.Trees
open Go Go.VL Go.RowKit
def S0(n:Nat):AV->List Ob->Prop:=fun r o=>∃x:Int,r=.v (.int .i64 x)/\(0<=x->n<=1048576)
theorem S0.ne(n:Nat):∃r o,S0 n r o:=⟨_,[],-1,rfl,fun h=>by omega⟩
end Go.Proofs.Trees
namespace Go.Proofs.Trees
open Go Go.VL Go.RowKit
def qa(a:AV)(l:List Nat):Prop:=LK.sl.has a/\a.elems=rl l
theorem qa.of(l:List Nat):qa (.sl (rl l)) l:=⟨(cf _).mpr trivial,rfl⟩
theorem qa.nil:qa (.v (.slice none 0 0)) []:=⟨(bh).mpr trivial,rfl⟩
theorem qa.len{a:AV}{l:List Nat}(h:qa a l):a.elems.length=l.length:=by rw[h.2,wJ]
theorem qa.idx{a:AV}{l:List Nat}(h:qa a l){i:Nat}(hi:i<l.length):a.elems.getD i []=[.v (.int .i64 (l.getD i 0:Nat))]:=by
 rw[h.2];simp[rl,aa,hi]
end Go.Proofs.Trees
namespace Go.Proofs.Trees
open Go Go.VL Go.RowKit
def eu(l:List Int):List (List AV):=l.map fun k=>[.v (.int .i64 k)]
def qe(a:AV)(l:List Int):Prop:=LK.sl.has a/\a.elems=eu l
theorem nh(l:List Int):(eu l).length=l.length:=by simp[eu]
theorem qe.of(l:List Int):qe (.sl (eu l)) l:=⟨(cf _).mpr trivial,rfl⟩
theorem qe.nil:qe (.v (.slice none 0 0)) []:=⟨(bh).mpr trivial,rfl⟩
theorem qe.len{a:AV}{l:List Int}(h:qe a l):a.elems.length=l.length:=by rw[h.2,nh]
theorem qe.idx{a:AV}{l:List Int}(h:qe a l){i:Nat}(hi:i<l.length):a.elems.getD i []=[.v (.int .i64 (l.getD i 0))]:=by
 rw[h.2];simp[eu,aa,hi]
theorem wo(l:List Int):∀x,x∈[Ob.vec 1 (eu l)]->eG x:=by
 intro x hx
 simp only[aR]at hx
 subst hx
 intro e he c hc
 simp only[eu,bO]at he
 obtain⟨k,_,rfl⟩:=he
 simp only[aR]at hc
 exact⟨_,hc⟩
end Go.Proofs.Trees
namespace Go.Proofs.Trees
open Go Go.VL Go.RowKit
abbrev ZO:=Option (List Vl×Vl)
def C0(s:Nm)(o:ZO):Prop:=∀r,o=some r->∃d,St s d (zA s) r.1 r.2
def Tm(a:Ty)(pl:List Int)(o:ZO):ZO:=pl.foldl (fun o k=>o.bind fun r=>wF a r.1 r.2 k) o
theorem C0.dn{s:Nm}{o:ZO}(h:C0 s o)(k:Int):C0 s (o.bind fun r=>wF (zA s) r.1 r.2 k):=fun r hr=>by
 obtain⟨q,h1,h2⟩:=a7.1 hr
 obtain⟨d,hs⟩:=h q h1
 exact⟨d,(hs.dn (l':=r.1) (w:=r.2) h2).1⟩
theorem C0.go{s:Nm}:∀{pl:List Int} {o:ZO},C0 s o->C0 s (Tm (zA s) pl o)
 |[],o,h=>h
 |k::pl,o,h=>C0.go (pl:=pl) (h.dn k)
theorem C0.gz{s:Nm}{o:ZO}(h:C0 s o):GZ o:=fun r hr=>by
 obtain⟨d,hs⟩:=h r hr
 exact hs.gz r rfl
def Qn(s:Nm)(o:ZO):Prop:=∀r,o=some r->fF s (r.1.map (·.cA)) r.2.cA=some r
theorem Qn.dn{s:Nm}{o:ZO}(h:Qn s o)(k:Int):Qn s (o.bind fun r=>wF (zA s) r.1 r.2 k):=fun r hr=>by
 obtain⟨q,h1,h2⟩:=a7.1 hr
 have hq:=h q h1
 obtain⟨d,hd,hs,_⟩:=wM (fH (l:=q.1) (v:=q.2) hq).1
 obtain⟨e,_,h3,h4,_,_,h0,h5⟩:=vx (l':=r.1) (w:=r.2) h2
 have hk:k.toNat<(kids (zA s) q.2).length:=by
  rcases Nat.lt_or_ge k.toNat (kids (zA s) q.2).length with h|h
  ·exact h
  ·rw[List.getElem?_eq_none h]at h5;cases h5
 have he:(kids (zA s) q.2)[k.toNat]=e:=by rw[bp hk]at h5;cases h5;rfl
 have:=ER hs hd hq h0 hk
 rw[h2,he]at this
 obtain⟨l1,v1⟩:=r
 simp only at h3 h4 |-
 subst h3 h4
 rw[List.map_append]
 exact this
end Go.Proofs.Trees
namespace Go.Proofs.Trees
open Go Go.VL Go.RowKit
def ve(c:Nm):List Hl->Nat->Int
 |[],_=>-1
 |h::l,i=>if h.1.cA=c then(i:Int)else ve c l (i+1)
theorem Re(q:Vl)(w:AV)(hw:LK.ptr.has w)(c:Nm)(hq:q.cA.length<=900000):an Tryz.prog 59 [.agg [q.cD,w],.ref 0 0] [.cells [.v (.string (mk c))]] (df (.v (.bool (decide (q.cA=c)))) [.cells [.v (.string (mk c))]]):=by
 refine RQ _ _ _ ((aM _).mpr trivial) hw ?_
 unfold Ou
 refine ai (CI q hq) ?_
 simp only[↓zq,zs,ae,zt]
 refine⟨?_,rfl⟩
 congr 2
 rw[cy];simp
theorem JK(c:Nm)(l:List Hl)(hl:l.length<=1000)(ht:∀h,h∈l->h.1.cA.length<=900000):∀(k i:Nat),i+k=l.length->Fc [.sl (gF l),.v (.int .i64 (l.length:Int)),.v (.int .i64 (i:Int))] [.cells [.v (.string (mk c))]]
 (oq (if ve c (l.drop i) i = -1 then(1,[],[.cells [.v (.string (mk c))]])else(2,[.v (.int .i64 (ve c (l.drop i) i))],[.cells [.v (.string (mk c))]])))
 |
  0,i,hi=>by
  refine Jd _ _ _ _ ?_
  have:i=l.length:=by omega
  subst this
  simp only[Gs,↓zq,zs,ae,zt,ae,List.drop_length,ve]
  exact⟨fun h=>by omega,fun _=>by simp[oq]⟩
 |
  k+1,i,hi=>by
  have hlt:i<l.length:=by omega
  refine Jd _ _ _ _ ?_
  simp only[Gs,↓zq,zs,ae,zt,ae,bF,ek,lO hlt,aM,bH]
  refine⟨fun _=>?_,fun h=>by omega⟩
  repeat refine⟨by first|trivial|omega,?_⟩
  refine aV (Re (l[i]).1 _ ((aM _).mpr trivial) c (ht _ (bD hlt))) ?_
  simp only[↓zq,zs,ae,zt,aJ]
  rw[aU hlt,ve]
  by_cases h:(l[i]).1.cA=c
  ·simp only[if_pos h]
   refine⟨fun _=>?_,fun hn=>absurd h (by simpa using hn)⟩
   rw[if_neg (by omega)]
  ·simp only[if_neg h]
   refine⟨fun hp=>absurd (by simpa using hp) h,fun _=>?_⟩
   rw[bA i (by omega)]
   exact JK c l hl ht k (i+1) (by omega)
theorem RZ(c:Nm)(l:List Hl)(hl:l.length<=1000)(ht:∀h,h∈l->h.1.cA.length<=900000):an Tryz.prog 57 [.sl (gF l),.fn 59 [.ref 0 0]] [.cells [.v (.string (mk c))]] (df (.v (.int .i64 (ve c l 0))) [.cells [.v (.string (mk c))]]):=by
 refine RD _ _ ((cf _).mpr trivial) ?_
 simp only[KO,↓zq,zs,ae,ek]
 have hloop:=JK c l hl ht l.length 0 (by omega)
 rw[bf]at hloop
 refine fE hloop (fun ys o e=>?_) (fun ys o e=>?_)
 ·split at e
  ·rename_i h
   cases e
   simp only[↓zq,zs,ae,zt,ae]
   rw[h];exact⟨rfl,rfl⟩
  ·cases e
 ·split at e
  ·cases e
  ·cases e
   simp only[↓zq,zs,ae,zt,ae]
   exact⟨rfl,rfl⟩
theorem Fo.kt{a:Ty}{v:Vl}(h:Fo a v):(kids a v).length<=199/\(∀k,k∈kids a v->k.1.cA.length<=900000):=by
 refine⟨?_,fun k hk=>(rA h hk).1⟩
 have h1:=mT a v
 have h2:=kY (kids a v)
 have:=h.nd
 omega
theorem SW{s d:Nm}{a:Ty}{l l':List Vl}{v w c:Vl}(h:St s d a l v)(hu:pz a l v=some (l',w))(hc:l=l'++[c]):an Tryz.prog 35 [pA s a l v,pA s a l' w] [] (bK (.v (.int .i64 (ve c.cA (kids a w) 0)))):=by
 have h':=h.up hu
 obtain⟨x,A,B,D,z⟩:=h.z
 have hlen:=h.len
 have hl1:l.length=l'.length+1:=by rw[hc];simp
 refine Qg _ _ ((cb _).mpr trivial) ((cb _).mpr trivial) ?_
 simp only[N2,pA,↓zq,zs,ae,gu,aM,aE]
 repeat refine⟨by first|trivial|omega,?_⟩
 rw[wrap64 ((l.length:Int)-1) (by omega) (by omega)]
 have e1:((l.length:Int)-1).toNat=l'.length:=by omega
 have hg:(u3 l).getD l'.length []=[c.cD]:=by rw[uk (by omega)];simp[hc]
 simp only[e1,hg,↓zq,zs,ae,aM]
 repeat refine⟨by first|trivial|omega,?_⟩
 have hcx:=h.i.ctx c (by rw[hc];simp)
 refine ai (CI c hcx.cA) ?_
 simp only[↓zq,zs,ae,zt,aM,aE]
 repeat refine⟨by first|trivial|omega,?_⟩
 have hnd:=h'.i.oI.nd
 refine ai (IQ 100 w x A B a z.body z.hx (h'.i.oI.eV z) (by omega)) ?_
 simp only[↓zq,zs,ae,zt]
 have hk:=h'.i.oI.kt
 refine aV (RZ c.cA (kids a w) (by omega) hk.2) ?_
 simp only[↓zq,zs,ae,zt,aJ]
 exact⟨rfl,rfl⟩
def qG:Nat->Ty->List Vl->Vl->List Int
 |0,_,_,_=>[]
 |
  n+1,a,l,v=>match pz a l v with
  |some r=>qG n a r.1 r.2++[ve ((l.getLast?).getD .u).cA (kids a r.2) 0]
  |none=>[]
theorem rp:∀(n:Nat) (a:Ty) (l:List Vl) (v:Vl),(qG n a l v).length<=n
 |0,_,_,_=>by simp[qG]
 |
  n+1,a,l,v=>by
  unfold qG
  cases pz a l v with
  |none=>simp
  |some r=>have:=rp n a r.1 r.2;simp;omega
def Sj(p q:List Int)(i:Nat):Prop:=q.length=p.length/\∀k,k<p.length->q.getD k 0=if k<i\/p.length-1-k<i then p.getD (p.length-1-k) 0 else p.getD k 0
theorem wB{l:List Int}{i j:Nat}(x:Int)(hj:j<l.length):(l.set i x).getD j 0=if i=j then x else l.getD j 0:=by
 simp only[aa,List.getElem?_set]
 split
 ·rename_i e;subst e;simp[hj]
 ·rfl
theorem Ji(p:List Int)(hp:p.length<=1000000):∀(m i:Nat) (q:List Int),p.length<=m+2*i->i<=p.length->Sj p q i->GA [.v (.int .i64 (i:Int)),.v (.int .i64 ((p.length:Int)-1-(i:Int)))] [.vec 1 (eu q)] (gV 1 [] [.vec 1 (eu p.reverse)])
 |
  m,i,q,hm,hi,hR=>by
  refine Ps _ _ _ ?_
  by_cases hlt:(i:Int)<(p.length:Int)-1-(i:Int)
  ·have e2:((p.length:Int)-1-(i:Int)).toNat=p.length-1-i:=by omega
   have h1:i<q.length:=by rw[hR.1];omega
   have h2:p.length-1-i<q.length:=by rw[hR.1];omega
   have g1:(eu q).getD i []=[.v (.int .i64 (q.getD i 0))]:=by simp[eu,aa,h1]
   have g2:(eu q).getD (p.length-1-i) []=[.v (.int .i64 (q.getD (p.length-1-i) 0))]:=by simp[eu,aa,h2]
   have s1:(eu q).set i [.v (.int .i64 (q.getD (p.length-1-i) 0))]=eu (q.set i (q.getD (p.length-1-i) 0)):=by simp[eu,List.map_set]
   have g3:(eu (q.set i (q.getD (p.length-1-i) 0))).getD (p.length-1-i) []=[.v (.int .i64 (q.getD (p.length-1-i) 0))]:=by
    have hne:i≠p.length-1-i:=by omega
    simp[eu,aa,List.getElem?_set,hne,h2]
   simp only[FE,↓zq,zs,ae,nh,bH,e2,g1,g2,List.set_cons_zero,bq,s1,g3]
   have s2:(eu (q.set i (q.getD (p.length-1-i) 0))).set (p.length-1-i) [.v (.int .i64 (q.getD i 0))]=eu ((q.set i (q.getD (p.length-1-i) 0)).set (p.length-1-i) (q.getD i 0)):=by simp[eu,List.map_set]
   simp only[s2,List.length_set]
   have hl:=hR.1
   refine⟨fun _=>⟨⟨by omega,by omega⟩,⟨h2,by first|trivial|simp⟩,⟨by omega,by omega⟩,⟨h1,by first|trivial|simp⟩,⟨by omega,by omega⟩,⟨h1,by omega⟩,⟨by omega,by omega⟩,⟨h2,by omega⟩,?_⟩,fun h=>absurd hlt h⟩
   rw[bA i (by omega),wrap64 ((p.length:Int)-1-(i:Int)-1) (by omega) (by omega),show (p.length:Int)-1-(i:Int)-1=(p.length:Int)-1-((i+1:Nat):Int) by omega]
   match m,hm with
   |0,hm=>omega
   |
    m+1,hm =>
    refine Ji p hp m (i+1) _ (by omega) (by omega) ⟨by simp[hl],fun k hk=>?_⟩
    rw[wB _ (by rw[List.length_set,hl];exact hk),wB _ (by rw[hl];exact hk)]
    have hi1:=hR.2 i (by omega)
    have hi2:=hR.2 (p.length-1-i) (by omega)
    have hi3:=hR.2 k hk
    rw[if_neg (by omega)]at hi1 hi2
    by_cases c1:p.length-1-i=k
    ·subst c1
     rw[if_pos rfl,if_pos (by omega),hi1]
     congr 1;omega
    ·rw[if_neg c1]
     by_cases c2:i=k
     ·subst c2
      rw[if_pos rfl,if_pos (by omega),hi2]
     ·rw[if_neg c2,hi3]
      by_cases c3:k<i\/p.length-1-k<i
      ·rw[if_pos c3,if_pos (by omega)]
      ·rw[if_neg c3,if_neg (by omega)]
  ·simp only[FE,↓zq,zs,ae]
   refine⟨fun h=>absurd h hlt,fun _=>?_⟩
   have:q=p.reverse:=by
    apply List.ext_getElem
    ·rw[hR.1,List.length_reverse]
    ·intro k h1 h2
     have hk:k<p.length:=by rw[<-hR.1];exact h1
     have:=hR.2 k hk
     have e1:q.getD k 0=q[k]:=by simp[aa,h1]
     rw[e1]at this
     rw[this,List.getElem_reverse]
     have e2:p.getD (p.length-1-k) 0=p[p.length-1-k]:=by simp[aa,show p.length-1-k<p.length by omega]
     split
     ·exact e2
     ·rename_i hn
      have:k=p.length-1-k:=by omega
      rw[<-e2,<-this]
   rw[this];exact⟨rfl,rfl,rfl⟩
theorem PN(p:List Int)(hp:p.length<=1000000):an Tryz.prog 36 [.vec 0] [.vec 1 (eu p)] (df .any [.kA 1 (eu p.reverse)]):=by
 refine Qi _ ?_
 unfold NN
 rw[nh,wrap64 ((p.length:Int)-1) (by omega) (by omega)]
 have hloop:=Ji p hp p.length 0 p (by omega) (by omega) ⟨rfl,fun k hk=>by rw[if_neg (by omega)]⟩
 rw[show (p.length:Int)-1-((0:Nat):Int)=(p.length:Int)-1 by omega]at hloop
 refine cz hloop ?_
 simp only[↓zq,zs,ae,Ob.es,aO]
 exact⟨rfl,rfl⟩
end Go.Proofs.Trees
namespace Go.Proofs.Trees
open Go Go.VL Go.RowKit
theorem Ec{a:Ty}:∀(n:Nat) (l:List Vl) (v:Vl),l.length=n->(iV n a l v).isSome=true->∀c l',l=l'++[c]->∃w,pz a l v=some (l',w)/\(iV l'.length a l' w).isSome=true
 |0,l,v,hl,_,c,l',h=>by rw[h]at hl;simp at hl
 |
  n+1,l,v,hl,hs,c,l',h=>by
  rw[iV]at hs
  cases q:pz a l v with
  |none=>rw[q]at hs;cases hs
  |
   some r =>
   obtain⟨l1,w⟩:=r
   rw[q]at hs
   have h2:l1=l':=by
    unfold pz at q
    rw[h,List.getLast?_concat]at q
    simp only at q
    split at q
    ·cases q;simp
    ·cases q
   subst h2
   have hn:l1.length=n:=by rw[h]at hl;simpa using hl
   exact⟨w,rfl,by rw[hn];exact hs⟩
theorem vo{d:Nm}:∀{l:List Vl},(∀c,c∈l->m9 d c.cA 100=some c)->eC d (l.map (·.cA))=some l
 |[],_=>rfl
 |
  c::l,h=>by
  rw[bE,eC,h c ak,vo fun x hx=>h x (al _ hx)]
theorem Ew{s d:Nm}{l:List Vl}{v:Vl}(hs:St s d (zA s) l v)(hd:cH s=some d):fF s (l.map (·.cA)) v.cA=if(sf (zA s) l v).isSome=true then some (l,v)else none:=by
 obtain⟨x,A,B,D,z⟩:=hs.z
 have hlen:=hs.len
 have e1:m9 s v.cA 100=some v:=by rw[z.cA hs.i.oI.ig hs.i.oI.ty,if_pos hs.i.oI.nd]
 unfold fF
 rw[uV,hd]
 simp only[a6,z.l,e1,vo hs.each,cu,if_pos hlen,cg]
theorem Eu{s d:Nm}{l l':List Vl}{v w:Vl}(hs:St s d (zA s) l v)(hd:cH s=some d)(hv:fF s (l.map (·.cA)) v.cA=some (l,v))(hu:pz (zA s) l v=some (l',w)):fF s (l'.map (·.cA)) w.cA=some (l',w):=by
 rw[Ew (hs.up hu) hd]
 have h1:=(fH hv).2
 obtain⟨_,h2,_⟩:=mn hs.i hu
 unfold sf at h1 |-
 rw[<-h2,iV,hu]at h1
 exact if_pos h1
theorem vI(l:List Vl)(c:Vl):((l++[c]).getLast?).getD .u=c:=by rw[List.getLast?_concat];rfl
theorem yh{a:Ty}{l l':List Vl}{v w c:Vl}(n:Nat)(hu:pz a l v=some (l',w))(hc:l=l'++[c]):qG (n+1) a l v=qG n a l' w++[ve c.cA (kids a w) 0]:=by
 rw[qG,hu];simp only[hc,vI]
noncomputable def B9 (s:Nm) (p:List Nm) (f:Nm):Option (List Int):=(fF s p f).map fun r=>qG r.1.length (zA s) r.1 r.2
def S2(o:Option (List Int)):List Int:=o.getD []
theorem Mr(s d:Nm)(a:Ty):∀(n:Nat) (l:List Vl) (v:Vl) (out:List Int),l.length=n->St s d a l v->(iV n a l v).isSome=true->out.length+n<=1000 ->
 Ig [pA s a l v] [.vec 1 (eu out)] (gV 1 [] [.vec 1 (eu (out++(qG n a l v).reverse))])
 |
  0,l,v,out,hl,h,_,ho=>by
  have:l=[]:=bR hl
  subst this
  refine LD _ _ ?_
  simp only[Gl,pA,↓zq,zs,ae,gu,aG]
  refine⟨by omega,fun h=>by omega,fun _=>by simp[gV,qG]⟩
 |
  n+1,l,v,out,hl,h,hs,ho=>by
  have hne:l≠[]:=by rintro rfl;simp at hl
  have hlc:l=l.dropLast++[l.getLast hne]:=(List.dropLast_concat_getLast hne).symm
  obtain⟨w,hu,hs'⟩:=Ec (n+1) l v hl hs _ _ hlc
  have hn:l.dropLast.length=n:=by rw[List.length_dropLast];omega
  rw[hn]at hs'
  refine LD _ _ ?_
  have hup:=D0 s a l v h.i h.len
  rw[hu]at hup
  have hix:=SW h hu hlc
  rw[yh n hu hlc]
  generalize l.dropLast=l' at *
  generalize l.getLast hne=c at *
  simp only[Gl,oZ]at hup |-
  simp only[pA,↓zq,zs,ae,gu,hl]at hup hix |-
  refine⟨by omega,fun _=>?_,fun h=>by omega⟩
  refine ai hup ?_
  simp only[↓zq,zs,ae]
  refine ai hix ?_
  simp only[↓zq,zs,ae,nh]
  refine⟨⟨fun x hx=>by simp at hx;rw[hx];rfl,by simp;omega⟩,?_⟩
  have e:eu out++[[.v (.int .i64 (ve c.cA (kids a w) 0))]]=eu (out++[ve c.cA (kids a w) 0]):=by simp[eu]
  rw[e,List.reverse_append,List.reverse_singleton,<-ba]
  exact Mr s d a n l' w _ hn (h.up hu) hs' (by simp;omega)
theorem QL(s:Nm)(pa:AV)(p:List Nm)(hp:ct pa p)(f:Nm):an Tryz.prog 10 [.agg [.v (.string (mk s)),pa,.v (.string (mk f))]] [] (df (.cG [.vec 0,.v (.bool (B9 s p f).isSome)]) [.vec 1 (eu (S2 (B9 s p f)))]):=by
 refine Qu _ _ _ hp.1 ?_
 unfold Oq
 refine ai (O1 s pa p hp f) ?_
 simp only[↓zq,zs,ae,lE]
 unfold B9
 cases q:fF s p f with
 |
  none =>
  simp only[oZ,↓zq,zs,ae,Option.map_none]
  exact⟨fun _=>⟨rfl,rfl⟩,fun h=>(by cases h)⟩
 |
  some r =>
  obtain⟨l,v⟩:=r
  obtain⟨d,hs,_⟩:=lX q
  have hlen:=hs.len
  have hcl:=(fH q).2
  have hloop:=Mr s d (zA s) l.length l v [] rfl hs hcl (by simp;omega)
  have hpl:=rp l.length (zA s) l v
  simp only[oZ,cg]
  have hn:(pA s (zA s) l v).isNil=false:=rfl
  simp only[hn]
  refine⟨fun h=>(by cases h),fun _=>?_⟩
  refine cz hloop ?_
  simp only[↓zq,zs,ae,Ob.es,aO,aT]
  refine aV (PN (qG l.length (zA s) l v).reverse (by rw[List.length_reverse];omega)) ?_
  rw[List.reverse_reverse]
  simp only[↓zq,zs,ae,Ob.es,aO]
  exact⟨rfl,rfl⟩
end Go.Proofs.Trees
namespace Go.Proofs.Trees
open Go Go.VL Go.RowKit
def u6(l:List Hl):Prop:=(l.map (·.1)).Nodup
theorem qW:u6 []:=List.nodup_nil
theorem DX(h:Hl):u6 [h]:=by simp[u6]
theorem nf{g:Vl->Vl}(hg:∀x y,g x=g y->x=y){l:List Hl}(h:u6 l):u6 (iI g l):=by
 unfold u6 iI at *
 rw[List.map_map]
 have:((fun x:Hl=>x.1)∘fun h:Hl=>(g h.1,h.2))=g∘(fun x:Hl=>x.1):=rfl
 rw[this,<-List.map_map]
 exact List.Pairwise.map _ (fun a b hab e=>hab (hg _ _ e)) h
theorem uv{l r:List Hl}(hl:u6 l)(hr:u6 r)(h:∀x y,x∈l->y∈r->x.1≠y.1):u6 (l++r):=by
 unfold u6 at *
 rw[List.map_append,List.nodup_append]
 refine⟨hl,hr,?_⟩
 intro a ha b hb e
 obtain⟨x,hx,rfl⟩:=bO.1 ha
 obtain⟨y,hy,rfl⟩:=bO.1 hb
 exact h x y hx hy e
theorem wz{f:Hl->List Hl}:∀{l:List Hl},u6 l->(∀h,h∈l->u6 (f h))->(∀h k,h∈l->k∈l->h.1≠k.1->∀x y,x∈f h->y∈f k->x.1≠y.1)->u6 (l.flatMap f)
 |[],_,_,_=>qW
 |
  h::l,hn,hf,hd=>by
  rw[List.flatMap_cons]
  unfold u6 at hn
  rw[bE,List.nodup_cons]at hn
  refine uv (hf h ak) (wz (l:=l) hn.2 (fun k hk=>hf k (al _ hk)) fun a b ha hb=>hd a b (al _ ha) (al _ hb)) ?_
  intro x y hx hy
  obtain⟨k,hk,hy⟩:=List.mem_flatMap.1 hy
  refine hd h k ak (al _ hk) (fun e=>hn.1 ?_) x y hx hy
  rw[e];exact bO.2 ⟨k,hk,rfl⟩
theorem jm:∀(n:Nat) (t:Ty) (tg:Tg) (v:Vl),u6 (dC n t tg v)
 |0,t,tg,v=>qW
 |
  n+1,t,tg,v=>by
  unfold dC
  split
  ·exact DX _
  ·unfold iT
   split
   ·exact nf (fun x y e=>by cases e;rfl) (jm n _ _ _)
   ·exact nf (fun x y e=>by cases e;rfl) (jm n _ _ _)
   ·refine uv (nf (fun x y e=>by cases e;rfl) (jm n _ _ _)) (nf (fun x y e=>by cases e;rfl) (jm n _ _ _)) fun x y hx hy e=>?_
    obtain⟨k,_,rfl⟩:=cY hx
    obtain⟨k',_,rfl⟩:=cY hy
    cases e
   ·refine uv (nf (fun x y e=>by cases e;rfl) (jm n _ _ _)) (wz (jm n _ _ _) (fun h hh=>nf (fun x y e=>by cases e;rfl) (jm n _ _ _)) fun h k hh hk hne x y hx hy e=>?_) fun x y hx hy e=>?_
    ·obtain⟨a,_,rfl⟩:=cY hx
     obtain⟨b,_,rfl⟩:=cY hy
     injection e with e
     injection e with e
     injection e with e1 e2
     exact hne e1
    ·obtain⟨k,_,rfl⟩:=cY hx
     obtain⟨h,_,hy⟩:=List.mem_flatMap.1 hy
     obtain⟨b,_,rfl⟩:=cY hy
     cases e
   ·exact qW
end Go.Proofs.Trees
namespace Go.Proofs.Trees
open Go Go.VL Go.RowKit
theorem EA(a:Ty)(v:Vl):u6 (kids a v):=by
 cases v<;>first|exact jm _ _ _ _|exact qW
theorem BK:∀(l:List Hl) (i k:Nat) (q:Hl),u6 l->(∀h,h∈l->h.1.ig 100)->l[k]?=some q->ve q.1.cA l i=((i+k:Nat):Int)
 |[],i,k,q,_,_,h=>by simp at h
 |
  h::l,i,0,q,hn,hb,hk=>by
  simp only[List.getElem?_cons_zero,Option.some.injEq]at hk
  subst hk
  simp[ve]
 |
  h::l,i,k+1,q,hn,hb,hk=>by
  rw[List.getElem?_cons_succ]at hk
  have hm:q∈l:=List.mem_of_getElem? hk
  unfold u6 at hn
  rw[bE,List.nodup_cons]at hn
  have hne:¬h.1.cA=q.1.cA:=fun e=>hn.1 (by
   have:=tU (hb h ak) (hb q (al _ hm)) e
   rw[this];exact bO.2 ⟨q,hm,rfl⟩)
  rw[ve,if_neg hne,BK l (i+1) k q hn.2 (fun x hx=>hb x (al _ hx)) hk]
  omega
end Go.Proofs.Trees
namespace Go.Proofs.Trees
open Go Go.VL Go.RowKit
def CD(x:Nm)(i:Nat)(tg tg':Tg):Prop:=(tg=.bd i/\tg'=.nm x)\/(∃s,s≠x/\tg=.nm s/\tg'=.nm s)\/∃j,j<i/\tg=.bd j/\tg'=.bd j
theorem CD.up{x:Nm}{i:Nat}{tg tg':Tg}(h:CD x i tg tg'):CD x (i+1) tg.up tg'.up:=by
 rcases h with⟨rfl,rfl⟩|⟨s,h,rfl,rfl⟩|⟨j,h,rfl,rfl⟩
 ·exact .inl ⟨rfl,rfl⟩
 ·exact .inr (.inl ⟨s,h,rfl,rfl⟩)
 ·exact .inr (.inr ⟨j+1,by omega,rfl,rfl⟩)
theorem AR{x:Nm}{i:Nat}{tg tg':Tg}(h:CD x i tg tg')(t:Ty)(hx:bn x t=false):eE (dy (.name x) t i) tg'=eE t tg:=by
 cases t with
 |
  bound k =>
  simp only[dy]
  rcases h with⟨rfl,rfl⟩|⟨s,h,rfl,rfl⟩|⟨j,h,rfl,rfl⟩
  ·split
   ·rename_i e;simp[eE,e]
   ·rename_i e;simp[eE,e]
  ·split
   ·simp[eE,Ne.symm h]
   ·simp[eE]
  ·split
   ·rename_i e;simp only[eE];exact(decide_eq_false (by omega)).symm
   ·simp[eE]
 |
  name n =>
  have hn:¬n=x:=by simpa[bn]using hx
  rcases h with⟨rfl,rfl⟩|⟨s,h,rfl,rfl⟩|⟨j,h,rfl,rfl⟩<;>simp[dy,eE,hn]
 |_=>rcases h with⟨rfl,rfl⟩|⟨s,h,rfl,rfl⟩|⟨j,h,rfl,rfl⟩<;>rfl
theorem fL(x:Nm):∀(n:Nat) (t:Ty) (i:Nat) (tg tg':Tg) (v:Vl),bn x t=false->CD x i tg tg'->dC n (dy (.name x) t i) tg' v=dC n t tg v
 |0,_,_,_,_,_,_,_=>rfl
 |
  n+1,t,i,tg,tg',v,hx,hr=>by
  rw[dC,dC,AR hr t hx]
  split
  ·rfl
  ·cases t with
   |
    plus a b =>
    simp only[bn,cj]at hx
    cases v with
    |l w=>exact congrArg (iI .l) (fL x n a i tg tg' w hx.1 hr)
    |r w=>exact congrArg (iI .r) (fL x n b i tg tg' w hx.2 hr)
    |_=>rfl
   |
    times a b =>
    simp only[bn,cj]at hx
    cases v with
    |
     p y z =>
     simp only[dy,iT]
     rw[fL x n a i tg tg' y hx.1 hr,fL x n b i tg tg' z hx.2 hr]
    |_=>rfl
   |
    rc a =>
    cases v with
    |
     f w =>
     simp only[dy,iT]
     rw[fL x n a (i+1) tg.up tg'.up w hx hr.up,fL x n a (i+1) (.bd 0) (.bd 0) w hx (.inr (.inr ⟨0,by omega,rfl,rfl⟩))]
     congr 1
     refine iQ fun h hh=>?_
     have:=fL x n (.rc a) i tg tg' h.2 hx hr
     simp only[dy]at this
     rw[this]
    |_=>rfl
   |
    bound k =>
    simp only[dy]
    split<;>(cases v<;>rfl)
   |_=>rfl
theorem pO{g:Vl->Vl}{l:List Hl}{c v:Vl}(h:(c,v)∈l):(g c,v)∈iI g l:=bO.2 ⟨_,h,rfl⟩
theorem qt(n:Nat):∀(m:Nat) (c:Vl),c.nodes<=m->∀(t:Ty) (s:Nm) (d:Ty) (σ:Nm->Option Ty),Dv t s d->CJ σ->jx t 0->vT n c (eS σ d)=true->∀(v:Vl) (k:Nat),(cW t c v).nodes<=k->(c,v)∈dC k t (.nm s) (cW t c v)
 |0,c,h=>by have:=du c;omega
 |
  m+1,c,hm=>by
  intro t s d σ hd hσ hl hv v k hk
  have no:∀c,vT n c .zero=false:=fun c=>by cases c<;>rfl
  obtain⟨k,rfl⟩:∃j,k=j+1:=⟨k-1,by have:=du (cW t c v);omega⟩
  cases hd with
  |zero=>rw[show eS σ .zero=.zero from rfl,no]at hv;cases hv
  |one=>rw[show eS σ .zero=.zero from rfl,no]at hv;cases hv
  |bound=>rw[show eS σ .zero=.zero from rfl,no]at hv;cases hv
  |qx=>rw[show eS σ .zero=.zero from rfl,no]at hv;cases hv
  |
   hit =>
   have hc:c=.u:=by
    have hv:vT n c .one=true:=hv
    cases c<;>first|rfl|simp[vT]at hv
   rw[kQ,dC,if_pos (by simp[eE]),hc];exact ak
  |
   plus h1 h2 _ =>
   rcases jh hv with⟨w,rfl,hw⟩|⟨w,rfl,hw⟩
   ·simp only[Vl.nodes]at hm
    rename_i a b _ _
    simp only[cW,Vl.nodes]at hk
    have:=qt n m w (by omega) _ s _ σ h1 hσ hl.1 hw v k (by omega)
    exact pO (g:=.l) this
   ·simp only[Vl.nodes]at hm
    simp only[cW,Vl.nodes]at hk
    have:=qt n m w (by omega) _ s _ σ h2 hσ hl.2 hw v k (by omega)
    exact pO (g:=.r) this
  |
   times h1 h2 _ =>
   rcases jh hv with⟨w,rfl,hw⟩|⟨w,rfl,hw⟩
   ·obtain⟨x,y,rfl,hx,hy⟩:=gr hw
    simp only[Vl.nodes]at hm
    simp only[cW,Vl.nodes]at hk
    have:=qt n m x (by omega) _ s _ σ h1 hσ hl.1 hx v k (by omega)
    exact aD _ (pO (g:=fun c=>.l (.p c y)) this)
   ·obtain⟨x,y,rfl,hx,hy⟩:=gr hw
    simp only[Vl.nodes]at hm
    simp only[cW,Vl.nodes]at hk
    have:=qt n m y (by omega) _ s _ σ h2 hσ hl.2 hy v k (by omega)
    exact aB _ (pO (g:=fun c=>.r (.p x c)) this)
  |
   @rc a _ c0 d0 x hx hs h1 h2 hsz =>
   have lo:jx (dy (.name x) a 0) 0:=gK x a hl
   obtain⟨X,e1,e2⟩:=ot (x:=x) hσ hl (h1.lc lo) (h2.lc lo)
   have hv':=hv
   rw[e1]at hv'
   obtain⟨w,rfl,hw⟩:=BG hv'
   rw[e2]at hw
   have hcl:=lU hσ x (jX hσ (.rc a) hl)
   rcases jh hw with⟨y,rfl,hy⟩|⟨y,rfl,hy⟩
   ·simp only[Vl.nodes]at hm
    simp only[cW,Vl.nodes]at hk
    have:=qt n m y (by omega) _ s _ _ h1 hcl lo hy v k (by rw[dI x y.nodes y a 0 v (au _)];omega)
    rw[dI x y.nodes y a 0 v (au _),fL x k a 0 (.nm s) (.nm s) _ hx (.inr (.inl ⟨s,Ne.symm hs,rfl,rfl⟩))]at this
    exact aD _ (pO (g:=fun c=>.f (.l c)) this)
   ·obtain⟨y,z,rfl,hy,hz⟩:=gr hy
    simp only[Vl.nodes]at hm
    simp only[cW,Vl.nodes]at hk
    have q1:=qt n m y (by omega) _ x _ _ h2 hcl lo hy (cW (.rc a) z v) k (by rw[dI x y.nodes y a 0 _ (au _)];omega)
    rw[dI x y.nodes y a 0 _ (au _),fL x k a 0 (.bd 0) (.nm x) _ hx (.inl ⟨rfl,rfl⟩)]at q1
    have hsz2:=(fg k a (.bd 0) _ _ q1).1
    have q2:=qt n m z (by omega) (.rc a) s _ σ (.rc x hx hs h1 h2 hsz) hσ hl hz v k (by simp only at hsz2;omega)
    exact aB _ (List.mem_flatMap.2 ⟨_,q1,pO (g:=fun c=>.f (.r (.p y c))) q2⟩)
theorem Fg{n:Nat}{a D:Ty}{x:Nm}(hx:bn x a=false)(hl:jx (.rc a) 0)(h:n6 a x=some D){c:Vl}(hc:vT n c D=true)(v:Vl):(c,v)∈kids a (.f (cW a c v)):=by
 simp only[n6,a7,cQ,eN]at h
 obtain⟨d,hd,_,rfl⟩:=h
 have lo:jx (dy (.name x) a 0) 0:=gK x a hl
 have hcl:=lU rH x hl
 have e1:sub x (.rc a) d=eS (iR CV x (.rc a)) d:=by
  have:=iw CV x (.rc a) d
  rw[iX,iX]at this;exact this
 rw[e1]at hc
 have h1:=qt n c.nodes c (au _) _ x _ _ hd hcl lo hc v (cW a c v).nodes (by rw[dI x c.nodes c a 0 v (au _)];omega)
 rw[dI x c.nodes c a 0 v (au _),fL x _ a 0 (.bd 0) (.nm x) _ hx (.inl ⟨rfl,rfl⟩)]at h1
 exact h1
end Go.Proofs.Trees
namespace Go.Proofs.Trees
open Go Go.VL Go.RowKit
theorem ZT.hole{s d:Nm}{a:Ty}{x A B:E}{D:Ty}(z:ZT s d a x A B D){c:Nm}{w:Vl}(h:m9 d c 100=some w)(v:Vl):(w,v)∈kids a (.f (cW a w v)):=by
 obtain⟨e,t,m,h1,h2,h3,h4,h5,h6,h7⟩:=oG h
 have hm:m=100:=by omega
 subst hm
 have:=uz h3
 rw[z.bk]at this;cases this
 rw[na h4]at h7
 obtain⟨e2,he2,hw2,hte2,_,_⟩:=nV z.y
 have hlc:jx (.rc a) 0:=hte2 ▸ hw2.qH.1
 exact Fg (ui z.y) hlc z.lp h7 v
end Go.Proofs.Trees
namespace Go.Proofs.Trees
open Go Go.VL Go.RowKit
theorem St.Hi{s d:Nm}{a:Ty}{l l':List Vl}{v w c:Vl}(h:St s d a l v)(hu:pz a l v=some (l',w))(hc:l=l'++[c]):w=.f (cW a c v)/\∃k:Nat,(kids a w)[k]?=some (c,v)/\ve c.cA (kids a w) 0=(k:Int):=by
 obtain⟨x,A,B,D,z⟩:=h.z
 have h':=h.up hu
 obtain⟨_,_,c',hc',hw⟩:=mn h.i hu
 have e:c=c':=by rw[hc]at hc';exact List.singleton_inj.1 (List.append_cancel_left hc')
 subst e
 have hm:(c,v)∈kids a w:=by rw[hw];exact z.hole (h.each c (by rw[hc];simp)) v
 obtain⟨k,hk⟩:=List.getElem?_of_mem hm
 refine⟨hw,k,hk,?_⟩
 have:=BK (kids a w) 0 k _ (EA a w) (fun x hx=>(kW h'.i.oI.ig hx).1) hk
 simpa using this
theorem St.Ts{s d:Nm}{a:Ty}{l:List Vl}{v w c:Vl}(h:St s d a l v){k:Hl}(hk:k∈kids a v)(hv:m9 d k.1.cA 100=some k.1):k.1.nodes<=200:=by
 obtain⟨x,A,B,D,z⟩:=h.z
 obtain⟨t1,_,_⟩:=z.P6 h.i.oI hk
 rw[z.PI (kW h.i.oI.ig hk).1 t1]at hv
 split at hv
 ·assumption
 ·cases hv
theorem St.back{s d:Nm}{a:Ty}{l l':List Vl}{v w c:Vl}(h:St s d a l v)(hu:pz a l v=some (l',w))(hc:l=l'++[c]):wF a l' w (ve c.cA (kids a w) 0)=some (l,v):=by
 obtain⟨_,k,hk,e⟩:=h.Hi hu hc
 have hlen:=h.len
 have hm:=List.mem_of_getElem? hk
 have hn:c.nodes<=200:=(h.up hu).Ts (w:=v) (c:=v) hm (h.each c (by rw[hc];simp))
 have hlt:k<(kids a w).length:=(List.getElem?_eq_some_iff.1 hk).1
 have hg:(kids a w).getD k (.u,.u)=(c,v):=by rw[aa,hk];rfl
 rw[e];unfold wF
 rw[if_neg (by rw[hc]at hlen;simp at hlen;omega),if_pos ⟨by omega,by simpa using hlt⟩,bH,hg,if_pos hn,hc]
theorem z8{s:Nm}{p:List Nm}{f:Nm}{r:List Vl×Vl}(h:fF s p f=some r):∃d,cH s=some d/\St s d (zA s) r.1 r.2/\p=r.1.map (·.cA)/\f=r.2.cA/\∃w,sf (zA s) r.1 r.2=some w:=by
 obtain⟨h1,h2⟩:=fH (l:=r.1) (v:=r.2) h
 obtain⟨d,hd,hs,hp,hf⟩:=wM h1
 obtain⟨w,hw⟩:=bU.1 h2
 exact⟨d,hd,hs,hp,hf,w,hw⟩
theorem Mh{s:Nm}{p:List Nm}{f:Nm}{r:List Vl×Vl}(h:Aj s p f=some r):∃r0 pl k w,fF s p f=some r0/\p=r0.1.map (·.cA)/\f=r0.2.cA/\B9 s p f=some (pl++[k])/\tG s (r.1.map (·.cA)) r.2.cA k=some r0/\pD s p f=some w/\pD s (r.1.map (·.cA)) r.2.cA=some w/\(pl++[k]).length<=50:=by
 obtain⟨r0,h0,h1⟩:=a7.1 h
 obtain⟨d,hd,hs,hp,hf,w,hw⟩:=z8 h0
 obtain⟨l,v⟩:=r0
 obtain⟨l',v'⟩:=r
 simp only at h1 hs hp hf hw |-
 rw[hp,hf]at h0
 have hv:=Eu hs hd h0 h1
 obtain⟨_,h3,c,hc,_⟩:=mn hs.i h1
 have hcl:sf (zA s) l' v'=some w:=by
  unfold sf at hw |-
  rw[<-h3,iV,h1]at hw
  exact hw
 have hlen:=hs.len
 have hpl:=rp l'.length (zA s) l' v'
 refine⟨(l,v),qG l'.length (zA s) l' v',ve c.cA (kids (zA s) v') 0,w.cA,by rw[hp,hf];exact h0,hp,hf,?_,?_,?_,?_,by simp;omega⟩
 ·rw[hp,hf];unfold B9;rw[h0];simp only[cg];rw[<-h3,yh l'.length h1 hc]
 ·unfold tG;rw[hv];exact hs.back h1 hc
 ·rw[hp,hf];unfold pD;rw[h0];simp[hw]
 ·unfold pD;rw[hv];simp[hcl]
end Go.Proofs.Trees
namespace Go.Proofs.Trees
open Go Go.VL Go.RowKit
theorem Mq(a b:AV)(l:List (List UInt8))(ha:ct a l)(hb:ct b l)(hl:l.length<=2000000):∀(m i:Nat),i+m=l.length->Fm [a,b,.v (.int .i64 (i:Int))] [] (gV 1 [] [])
 |
  0,i,hi=>by
  refine KD _ _ _ ?_
  simp only[Ix,↓zq,zs,ae,ha.len]
  exact⟨ha.1,hb.1,ha.1,fun h=>by omega,fun _=>⟨rfl,rfl,rfl⟩⟩
 |
  m+1,i,hi=>by
  have hlt:i<l.length:=by omega
  refine KD _ _ _ ?_
  simp only[Ix,↓zq,zs,ae,zt,ha.len,hb.len,ha.idx hlt,hb.idx hlt,bH]
  refine⟨ha.1,hb.1,ha.1,fun _=>⟨⟨ha.1,by omega,by omega⟩,by omega,⟨hb.1,by omega,by omega⟩,by omega,fun h=>by simp at h,fun _=>?_⟩,fun h=>by omega⟩
  rw[bA i (by omega)]
  exact Mq a b l ha hb hl m (i+1) (by omega)
theorem SN(a b:AV)(l:List (List UInt8))(ha:ct a l)(hb:ct b l)(hl:l.length<=2000000):an Tryz.prog 42 [a,b] [] (bK (.v (.bool true))):=by
 refine Sx _ _ ha.1 hb.1 ?_
 simp only[L4,↓zq,zs,ae,ha.len,hb.len]
 refine⟨ha.1,hb.1,fun h=>by simp at h,fun _=>?_⟩
 refine cz (Mq a b l ha hb hl l.length 0 (by omega)) ?_
 simp[bK,↓zq,zs,ae]
theorem Nk(s f:(List UInt8))(x y:AV)(l:List (List UInt8))(hx:ct x l)(hy:ct y l)(hl:l.length<=2000000):an Tryz.prog 16 [.agg [.v (.string (mk s)),x,.v (.string (mk f))],.agg [.v (.string (mk s)),y,.v (.string (mk f))]] [] (bK (.v (.bool true))):=by
 refine Sz _ _ _ _ _ _ hx.1 hy.1 ?_
 simp only[Kq,↓zq,zs,ae,zt,bK]
 refine⟨fun _=>⟨fun _=>?_,fun h=>absurd rfl h⟩,fun h=>absurd rfl h⟩
 refine ai (SN x y l hx hy hl) ?_
 simp only[↓zq,zs,ae,zt]
end Go.Proofs.Trees
namespace Go.Proofs.Trees
open Go Go.VL Go.RowKit
theorem Sp(a:AV)(ha:yO a):an Tryz.prog 7 [a] [] (bK (.v (.bool true))):=by
 refine Rc _ ha.1 ?_
 simp only[KJ,↓zq,zs,ae,zt,bK]
 refine⟨ha.1,fun _=>trivial,fun _=>?_⟩
 refine aP (QZ a ha) O2.ne ?_
 rintro r o ⟨rfl,s,p,f,hp,rfl⟩
 simp only[↓zq,zs,ae,zt,bF]
 have hl:=wS s (o:=Aj s p f) (BC s p f)
 have EQ:=fun(w:AV) hw=>Nk (tZ s (Aj s p f)).1 (tZ s (Aj s p f)).2.2 _ w _ (ct.of (tZ s (Aj s p f)).2.1) hw (by omega)
 refine aV (PJ s _ p (ct.of p) f) ?_
 simp only[↓zq,zs,ae,zt,aJ,Ob.es,aO]
 refine⟨dU _,?_⟩
 refine aP (PH s _ p (ct.of p) f) (E6.ne _ _) ?_
 rintro r o ⟨rfl,w,hw,rfl⟩
 simp only[↓zq,zs,ae,zt,bF]
 refine⟨hw.1,fun h=>by simp at h,fun _=>?_⟩
 refine ai (EQ w hw) ?_
 simp only[↓zq,zs,ae]
 cases hr:Aj s p f with
 |
  none =>
  rw[hr]at EQ hw
  refine⟨fun h=>by simp at h,fun _=>⟨fun _=>⟨fun _=>ai (EQ w hw) ?_,fun h=>absurd rfl h⟩,fun h=>by simp at h⟩⟩
  simp only[↓zq,zs,ae]
 |
  some r =>
  obtain⟨r0,pl,k,x,h0,hpp,hff,e1,e2,e3,e4,hlen⟩:=Mh hr
  have W1:=QL s (.sl (bJ p)) p (ct.of p) f
  have W2:=PT s (.sl (bJ (r.1.map (·.cA)))) _ (ct.of _) r.2.cA k
  have W3:=Jz s (.sl (bJ p)) p (ct.of p) f
  have W4:=Jz s (.sl (bJ (r.1.map (·.cA)))) _ (ct.of _) r.2.cA
  rw[e1]at W1
  rw[e2]at W2
  rw[e3]at W3
  rw[e4]at W4
  refine⟨fun h=>by simp at h,fun _=>⟨fun h=>by simp at h,fun _=>aV W1 ?_⟩⟩
  have hlen2:(eu (pl++[k])).length=pl.length+1:=by simp[eu]
  have hget:(eu (pl++[k])).getD pl.length []=[.v (.int .i64 k)]:=by simp[eu,aa]
  simp only[↓zq,zs,ae,zt,aJ,Ob.es,aO,aY,S2,cC,hlen2]
  refine⟨wo _,fun h=>by simp at h,fun _=>⟨fun h=>by omega,fun _=>?_⟩⟩
  have hlen':pl.length<=50:=by have:=hlen;simp at this;omega
  have hw:IntKind.wrap .i64 (((pl.length+1:Nat):Int)-1)=((pl.length:Nat):Int):=by rw[Go.VL.wrap64]<;>omega
  simp only[hw,bH,hget,↓zq,zs,ae,zt]
  repeat refine⟨by omega,?_⟩
  refine aV W2 ?_
  simp only[↓zq,zs,ae,zt,aJ,Ob.es,aO,aY]
  refine⟨dU _,ai W3 ?_⟩
  simp only[qy,↓zq,zs,ae,zt]
  refine ai W4 ?_
  simp only[qy,↓zq,zs,ae,zt]
  refine⟨fun _=>⟨fun _=>⟨fun _=>?_,fun h=>by simp at h⟩,fun h=>by simp at h⟩,fun h=>by simp at h⟩
  rw[hpp,hff]
  refine ai (Nk s r0.2.cA _ _ (r0.1.map (·.cA)) (ct.of _) (ct.of _) (by rw[hpp]at hp;omega)) ?_
  simp[↓zq,zs,ae]
end Go.Proofs.Trees
