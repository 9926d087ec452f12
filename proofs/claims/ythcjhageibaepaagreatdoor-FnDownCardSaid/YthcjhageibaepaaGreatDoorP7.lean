/-
  Part of a proof: Go functions read by values, trees of functions, their contracts.
-/
import Derived.Test.YthcjhageibaepaaGreatDoorP6
set_option linter.unusedVariables false
set_option linter.unusedSimpArgs false
open Bool renaming eq_iff_iff→cy,or_eq_false_iff→cf,or_eq_true→bC
open Int renaming toNat_natCast→bH
open List renaming append_assoc→a8,drop_eq_getElem_cons→aU,drop_zero→bf,eq_nil_of_length_eq_zero→bJ,getD_cons_zero→bq,getD_eq_getElem?_getD→aa,getElem?_eq_getElem→bp,getElem_mem→bD,headD_cons→aJ,length_append→aq,length_map→ct,length_nil→aG,map_cons→bI,mem_append→aO,mem_append_left→aD,mem_append_right→aB,mem_cons_of_mem→al,mem_cons_self→ak,mem_map→bP,mem_singleton→aQ,nil_append→aT,tail_cons→bu
open Nat renaming le_refl→au
open Option renaming bind_eq_some_iff→a6,bind_none→bL,bind_some→bb,getD_some→cx,isSome_iff_exists→bU,isSome_none→bA,isSome_some→aW,map_some→cz
namespace Go.Proofs.Trees
open Go Go.VL Go.RowKit
theorem mG(n:Nat):∀(m:Nat) (v:Vl),v.nodes<=m->∀(t:Ty) (s:Nm) (d:Ty) (σ:Nm->Option Ty),Dv t s d->CN σ->jy t 0->vT n v (eW σ t)=true->∀h,h∈ck t (.nm s) v ->
 vT n h.1 (eW σ d)=true/\vT n h.2 (eW σ (.name s))=true/\cW t h.1 h.2=v
 |0,v,hm=>by have:=dr v;omega
 |
  m+1,v,hm=>by
  intro t s d σ hd hσ hl hv h hh
  cases hd with
  |zero=>rw[dU rfl (by cases v<;>rfl)]at hh;cases hh
  |one=>rw[dU rfl (by cases v<;>rfl)]at hh;cases hh
  |bound=>rw[dU rfl (by cases v<;>rfl)]at hh;cases hh
  |qA hne=>rw[dU (by simp[eF,hne]) (by cases v<;>rfl)]at hh;cases hh
  |
   hit =>
   rw[mP v (by simp[eF])]at hh
   simp only[aQ]at hh
   subst hh
   exact⟨rfl,hv,kP _ _ _⟩
  |
   @plus a b _ a' b' h1 h2 _ =>
   rcases jl hv with⟨w,rfl,hw⟩|⟨w,rfl,hw⟩
   ·simp only[Vl.nodes]at hm
    rw[nn]at hh
    obtain⟨k,hk,rfl⟩:=cY hh
    obtain⟨q1,q2,q3⟩:=mG n m w (by omega) _ s _ σ h1 hσ hl.1 hw k hk
    exact⟨q1,q2,congrArg Vl.l q3⟩
   ·simp only[Vl.nodes]at hm
    rw[nf]at hh
    obtain⟨k,hk,rfl⟩:=cY hh
    obtain⟨q1,q2,q3⟩:=mG n m w (by omega) _ s _ σ h2 hσ hl.2 hw k hk
    exact⟨q1,q2,congrArg Vl.r q3⟩
  |
   @times a b _ a' b' h1 h2 _ =>
   obtain⟨x,y,rfl,hx,hy⟩:=gu hv
   simp only[Vl.nodes]at hm
   rw[ng]at hh
   rcases aO.1 hh with hh|hh
   ·obtain⟨k,hk,rfl⟩:=cY hh
    obtain⟨q1,q2,q3⟩:=mG n m x (by omega) _ s _ σ h1 hσ hl.1 hx k hk
    refine⟨?_,q2,congrArg (fun q=>Vl.p q y) q3⟩
    show (vT n k.1 (eW σ a')&&vT n y (eW σ b))=true
    rw[q1,hy];rfl
   ·obtain⟨k,hk,rfl⟩:=cY hh
    obtain⟨q1,q2,q3⟩:=mG n m y (by omega) _ s _ σ h2 hσ hl.2 hy k hk
    refine⟨?_,q2,congrArg (Vl.p x) q3⟩
    show (vT n x (eW σ a)&&vT n k.1 (eW σ b'))=true
    rw[q1,hx];rfl
  |
   @rc a _ c0 d0 x hx hs h1 h2 hsz =>
   have lo:jy (dA (.name x) a 0) 0:=gK x a hl
   obtain⟨X,e1,e2⟩:=pq (x:=x) hσ hl (h1.lc lo) (h2.lc lo)
   obtain⟨w,rfl,hw⟩:=AL hv
   simp only[Vl.nodes]at hm
   have hcl:=lU hσ x (jX hσ (.rc a) hl)
   have hop:eW (iU σ x (eW σ (.rc a))) (dA (.name x) a 0)=dA (eW σ (.rc a)) (eW σ a) 0:=jH hσ x _ a 0 hx
   have hns:eW (iU σ x (eW σ (.rc a))) (.name s)=eW σ (.name s):=by simp only[eW,iU,if_neg (Ne.symm hs)]
   have hnx:eW (iU σ x (eW σ (.rc a))) (.name x)=eW σ (.rc a):=by simp[eW,iU]
   have hw':vT n w (eW (iU σ x (eW σ (.rc a))) (dA (.name x) a 0))=true:=by rw[hop];exact hw
   have ty:∀y,vT n y (dA (.rc X) X 0)=true->vT n (.f y) (eW σ (pK a x c0 d0))=true:=fun y hy=>by rw[e1];exact hy
   rw[ns]at hh
   rcases aO.1 hh with hh|hh
   ·obtain⟨k,hk,rfl⟩:=cY hh
    have hk':k∈ck (dA (.name x) a 0) (.nm s) w:=by rw[nT x w hx (.kE 0 s (Ne.symm hs))];exact hk
    obtain⟨q1,q2,q3⟩:=mG n m w (by omega) _ s _ _ h1 hcl lo hw' k hk'
    rw[dK x k.1.nodes k.1 a 0 k.2 (au _)]at q3
    refine⟨ty _ ?_,by rw[<-hns];exact q2,congrArg Vl.f q3⟩
    rw[e2];exact q1
   ·obtain⟨k,hk,hh⟩:=List.mem_flatMap.1 hh
    obtain⟨k2,hk2,rfl⟩:=cY hh
    have hk':k∈ck (dA (.name x) a 0) (.nm x) w:=by rw[nT x w hx (.nm 0)];exact hk
    obtain⟨q1,q2,q3⟩:=mG n m w (by omega) _ x _ _ h2 hcl lo hw' k hk'
    rw[dK x k.1.nodes k.1 a 0 k.2 (au _)]at q3
    rw[hnx]at q2
    have hsz2:=(iE hk).1
    obtain⟨r1,r2,r3⟩:=mG n m k.2 (by omega) (.rc a) s _ σ (.rc x hx hs h1 h2 hsz) hσ hl q2 k2 hk2
    refine⟨ty _ ?_,r2,?_⟩
    ·rw[e2]
     show (vT n k.1 _&&vT n k2.1 _)=true
     rw[q1,r1];rfl
    ·show Vl.f (cW a k.1 (cW (.rc a) k2.1 k2.2))=.f w
     rw[r3,q3]
theorem DE{n:Nat}{a D:Ty}{x:Nm}(hx:bn x a=false)(hl:jy (.rc a) 0)(h:od a x=some D){v:Vl}(hv:vT n v (.rc a)=true){k:Hl}(hk:k∈kids a v) :
 vT n k.1 D=true/\vT n k.2 (.rc a)=true/\.f (cW a k.1 k.2)=v:=by
 simp only[od,a6,cQ,eT]at h
 obtain⟨d,hd,_,rfl⟩:=h
 have lo:jy (dA (.name x) a 0) 0:=gK x a hl
 have hcl:=lU sr x hl
 have e1:sub x (.rc a) d=eW (iU Du x (.rc a)) d:=by
  have:=iv Du x (.rc a) d
  rw[iY,iY]at this;exact this
 obtain⟨w,rfl,hw⟩:=AL hv
 have hk':k∈ck (dA (.name x) a 0) (.nm x) w:=by rw[nT x w hx (.nm 0)];exact hk
 have hop:eW (iU Du x (.rc a)) (dA (.name x) a 0)=dA (.rc a) a 0:=by rw[jH sr x _ a 0 hx,iY]
 obtain⟨q1,q2,q3⟩:=mG n w.nodes w (au _) _ x _ _ hd hcl lo (by rw[hop];exact hw) k hk'
 rw[dK x k.1.nodes k.1 a 0 k.2 (au _)]at q3
 refine⟨by rw[e1];exact q1,?_,congrArg Vl.f q3⟩
 simpa[eW,iU]using q2
theorem gS:∀{t:Ty},cc t=true->∃y,bn y t=true/\dm y=true
 | .name s,h=>⟨s,by simp[bn],h⟩
 |
  .plus a b,h=>by
  simp only[cc,bC]at h
  rcases h with h|h
  ·obtain⟨y,h1,h2⟩:=gS h;exact⟨y,by simp[bn,h1],h2⟩
  ·obtain⟨y,h1,h2⟩:=gS h;exact⟨y,by simp[bn,h1],h2⟩
 |
  .times a b,h=>by
  simp only[cc,bC]at h
  rcases h with h|h
  ·obtain⟨y,h1,h2⟩:=gS h;exact⟨y,by simp[bn,h1],h2⟩
  ·obtain⟨y,h1,h2⟩:=gS h;exact⟨y,by simp[bn,h1],h2⟩
 |
  .rc a,h=>by
  obtain⟨y,h1,h2⟩:=gS (t:=a) h;exact⟨y,by simp[bn,h1],h2⟩
theorem hD:∀{t:Ty} {y:Nm},bn y t=true->dm y=true->cc t=true
 |
  .name s,y,h,hl=>by
  have:s=y:=by simpa[bn]using h
  rw[this];exact hl
 |
  .plus a b,y,h,hl=>by
  simp only[bn,bC]at h
  simp only[cc,bC]
  exact h.imp (hD · hl) (hD · hl)
 |
  .times a b,y,h,hl=>by
  simp only[bn,bC]at h
  simp only[cc,bC]
  exact h.imp (hD · hl) (hD · hl)
 | .rc a,y,h,hl=>hD (t:=a) h hl
 | .zero,y,h,_=>by simp[bn]at h
 | .one,y,h,_=>by simp[bn]at h
 | .bound k,y,h,_=>by simp[bn]at h
theorem ZT.Tr{s d:Nm}{a:Ty}{x A B:E}{D:Ty}(z:ZT s d a x A B D):∃e,jG d=some e/\Ask e [] D:=by
 have hcl:cc D=false:=by
  cases q:cc D with
  |false=>rfl
  |
   true =>
   obtain⟨y,h1,h2⟩:=gS q
   have:=hD (t:=.rc a) (s3 z.lp y h1) h2
   rw[z.ask.cl]at this;cases this
 have hc:wR d=some D:=by unfold wR;rw[z.bk];simp only;rw[if_pos (by rw[sP,hcl];rfl)]
 cases q:jG d with
 |none=>rw[nk q]at hc;cases hc
 |
  some e =>
  obtain⟨t,h1,hA,_⟩:=ia q
  rw[hc]at h1;cases h1
  exact⟨e,rfl,hA⟩
theorem ZT.Sl{s d:Nm}{a:Ty}{x A B:E}{D:Ty}(z:ZT s d a x A B D){w:Vl}(hb:w.ij 100)(hv:vT 100 w D=true):nJ d w.cF 100=if w.nodes<=200 then some w else none:=by
 obtain⟨e,he,hA⟩:=z.Tr
 unfold nJ
 rw[he]
 by_cases hn:w.nodes<=200
 ·rw[qN hb hn,if_pos hn]
  simp only
  rw[if_pos ⟨by omega,by rw[show (100:Int).toNat=100 from rfl,np hA];exact hv⟩]
 ·rw[if_neg hn]
  cases q:sD w.cF with
  |none=>rfl
  |
   some w' =>
   exfalso
   obtain⟨_,h2,h3⟩:=lD q
   have:=uj hb h2 (qY q)
   rw[this]at hn;exact hn h3
theorem ZT.Pp{s d:Nm}{a:Ty}{x A B:E}{D:Ty}(z:ZT s d a x A B D){v:Vl}(hv:Fo a v){k:Hl}(hk:k∈kids a v):vT 100 k.1 D=true/\Fo a k.2/\.f (cW a k.1 k.2)=v:=by
 obtain⟨e2,he2,hw2,hte2,_,_⟩:=nS z.y
 have hlc:jy (.rc a) 0:=hte2 ▸ hw2.qB.1
 obtain⟨q1,q2,q3⟩:=DE (uv z.y) hlc z.lp hv.ty hk
 have:=yB hk
 have:=hv.nd
 exact⟨q1,⟨q2,(jT hv.ij hk).2,by omega⟩,q3⟩
def vk(a:Ty)(l:List Vl)(v:Vl)(k:Int):Option (List Vl×Vl) :=
 if l.length=50 then none else if 0<=k/\k.toNat<(kids a v).length then
  (if((kids a v).getD k.toNat (.u,.u)).1.nodes<=200 then some (l++[((kids a v).getD k.toNat (.u,.u)).1],((kids a v).getD k.toNat (.u,.u)).2)else none)else none
theorem rR{a:Ty}{l:List Vl}{c e v:Vl}(h:.f (cW a c e)=v)(hn:v.nodes<=200):qt a (l++[c]) e=some (l,v)/\sI a (l++[c]) e=sI a l v:=by
 have hu:qt a (l++[c]) e=some (l,v):=by
  unfold qt
  rw[List.getLast?_concat]
  simp only
  rw[h,if_pos hn,List.dropLast_concat]
 refine⟨hu,?_⟩
 unfold sI
 rw[aq,List.length_singleton,iK,hu]
 rfl
theorem zS{s d:Nm}{l:List Vl}{v:Vl}(hs:St s d (zA s) l v)(hd:cL s=some d)(hv:fV s (l.map (·.cF)) v.cF=some (l,v)){k:Hl}(hk:k∈kids (zA s) v) :
 fV s (l.map (·.cF)++[k.1.cF]) k.2.cF=if l.length=50 then none else if k.1.nodes<=200 then some (l++[k.1],k.2)else none:=by
 obtain⟨x,A,B,D,z⟩:=hs.z
 obtain⟨t1,t2,t3⟩:=z.Pp hs.i.ov hk
 have hb:=(jT hs.i.ov.ij hk).1
 have hz:=(ga hv).1
 have hclo:=(ga hv).2
 have hlen:=hs.len
 have hlp:eM d (l.map (·.cF))=some l:=by
  rw[xF,hd]at hz
  simp only[bb,z.l]at hz
  obtain⟨_,h1,h2⟩:=a6.1 hz
  split at h2
  ·obtain⟨l',h3,h4⟩:=Option.map_eq_some_iff.1 h2
   cases h4;exact h3
  ·cases h2
 have e1:nJ s k.2.cF 100=some k.2:=by rw[z.cF t2.ij t2.ty,if_pos t2.nd]
 unfold fV
 rw[xF,hd]
 simp only[bb,z.l,e1,tq,hlp,eM,z.Sl hb t1,aq,ct,List.length_singleton]
 by_cases h50:l.length=50
 ·rw[if_neg (by omega),if_pos h50];rfl
 ·rw[if_pos (by omega),if_neg h50]
  by_cases hn:k.1.nodes<=200
  ·rw[if_pos hn,if_pos hn]
   simp only[cz,bb,(rR (l:=l) t3 hs.i.ov.nd).2]
   rw[if_pos hclo]
  ·rw[if_neg hn,if_neg hn];rfl
end Go.Proofs.Trees
namespace Go.Proofs.Trees
open Go Go.VL Go.RowKit
def Pg(s:Nm)(o:Option (List Vl×Vl)):AV->List Ob->Prop:=fun r obs=>obs=[]/\∃pa,cm pa (tZ s o).2.1/\r=.cG [.agg [.v (.string (mk (tZ s o).1)),pa,.v (.string (mk (tZ s o).2.2))],.v (.bool o.isSome)]
theorem xb(s:Nm){o:Option (List Vl×Vl)}(h:GZ o):(tZ s o).2.1.length<=51:=by
 cases o with
 |none=>simp
 |some r=>obtain⟨_,_,h3⟩:=h r rfl;simpa using h3
theorem Pg.ne(s:Nm)(o:Option (List Vl×Vl)):∃r ob,Pg s o r ob:=⟨_,[],rfl,_,cm.of _,rfl⟩
theorem Pg.none(s:Nm):Pg s none (.cG [.agg [.v (.string (mk [])),.v (.slice none 0 0),.v (.string (mk []))],.v (.bool false)]) []:=⟨rfl,_,cm.nil,rfl⟩
theorem na{s:Nm}{p:List Nm}{f:Nm}{l:List Vl}{v:Vl}(h:fV s p f=some (l,v)):∃d,St s d (zA s) l v/\p=l.map (·.cF)/\f=v.cF:=wX (ga h).1
abbrev RP(s:Nm)(o:Option (List Vl×Vl)):AV->List Ob->Prop:=df (.cG [.agg [.v (.string (mk (tZ s o).1)),.vec 1,.v (.string (mk (tZ s o).2.2))],.v (.bool o.isSome)]) [.dead,.vec 1 (bE (tZ s o).2.1)]
theorem Nl(s:Nm)(p:List Nm)(f:Nm):an Tryz.prog 41 [.agg [.v (.string (mk s)),.vec 0,.v (.string (mk f))]] [.vec 1 (bE p)] (RP s (fV s p f)):=by
 refine P4 _ _ _ ?_
 unfold ND
 refine aj (Q7 s _ p (cm.of p) f) ?_
 simp only[↓zq,zs,ae]
 cases q:fV s p f with
 |none=>simp only[bA];exact⟨fun _=>⟨rfl,rfl⟩,fun h=>by simp at h⟩
 |
  some r =>
  obtain⟨_,_,rfl,rfl⟩:=na (l:=r.1) (v:=r.2) q
  simp only[aW]
  exact⟨fun h=>by simp at h,fun _=>⟨rfl,rfl⟩⟩
theorem Bd(s f:Nm):fV s [] f=vH s [] f:=by
 unfold fV
 cases q:vH s [] f with
 |none=>rfl
 |
  some r =>
  obtain⟨l,v⟩:=r
  obtain⟨_,_,h,_⟩:=wX q
  have:l=[]:=List.map_eq_nil_iff.1 h.symm
  subst this
  rfl
theorem SN(s f:Nm):an Tryz.prog 54 [.v (.string (mk s)),.v (.string (mk f))] [] (En s (vH s [] f)):=by
 refine RG _ _ ?_
 unfold Oa
 rw[<-Bd]
 refine aV (Nl s [] f) ?_
 simp only[↓zq,zs,ae,zt,aI,Ob.es,aJ,bu]
 exact⟨rfl,rfl⟩
def lQ(l:List Hl):List (List AV):=l.map fun h=>[.v (.string (mk h.1.cF)),.v (.string (mk h.2.cF))]
theorem lO(l:List Hl):(lQ l).length=l.length:=by simp[lQ]
theorem IZ(l:List Hl)(hl:l.length<=1000)(h1:∀h,h∈l->h.1.cF.length<=900000)(h2:∀h,h∈l->h.2.cF.length<=900000):∀(k i:Nat) (out:List Hl),i+k=l.length->out.length<=i ->
 Fq [.sl (mc l),.v (.int .i64 (i:Int))] [.vec 2 (lQ out)] (gZ 1 [] [.vec 2 (lQ (out++l.drop i))])
 |
  0,i,out,hi,ho=>by
  refine OM _ _ _ ?_
  have:i=l.length:=by omega
  subst this
  simp only[H6,↓zq,zs,ae,fA,List.drop_length]
  exact⟨fun h=>by omega,fun _=>by simp[gZ]⟩
 |
  k+1,i,out,hi,ho=>by
  have hlt:i<l.length:=by omega
  have hm:=bD hlt
  have t1:=Dj (l[i]).1.cK (mU _) (h1 _ hm)
  have t2:=Dj (l[i]).2.cK (mU _) (h2 _ hm)
  rw[dj]at t1 t2
  refine OM _ _ _ ?_
  simp only[H6,↓zq,zs,ae,zt,fA,gB hlt,bK,aY]
  refine⟨fun _=>?_,fun h=>by omega⟩
  repeat refine⟨by omega,?_⟩
  refine aj t1 ?_
  simp only[↓zq,zs,ae,zt]
  repeat refine⟨by omega,?_⟩
  refine aj t2 ?_
  simp only[↓zq,zs,ae,zt,lO]
  refine⟨⟨fun c hc=>by simp at hc;rw[hc];rfl,by omega⟩,?_⟩
  rw[bx i (by omega),aU hlt]
  have:=IZ l hl h1 h2 k (i+1) (out++[l[i]]) (by omega) (by simp;omega)
  rw[a8]at this
  simpa[lQ]using this
theorem QP(l:List Hl)(hl:l.length<=1000)(h1:∀h,h∈l->h.1.cF.length<=900000)(h2:∀h,h∈l->h.2.cF.length<=900000):an Tryz.prog 73 [.sl (mc l)] [] (bM (.sl (lQ l))):=by
 refine Ss _ ((cg _).mpr trivial) ?_
 unfold NK
 refine cA (IZ l hl h1 h2 l.length 0 [] (by omega) (by simp)) ?_
 simp only[↓zq,zs,ae]
 exact⟨rfl,rfl⟩
theorem sc{a:Ty}{v:Vl}(h:Fo a v){k:Hl}(hk:k∈kids a v):k.1.cF.length<=900000/\k.2.cF.length<=900000:=by
 obtain⟨b1,b2⟩:=jT h.ij hk
 have h1:=jg _ b1
 have h2:=jg _ b2
 have h3:=yB hk
 have h4:=h.nd
 have h5:k.1.nodes<=4*v.nodes:=by
  cases v with
  |f w=>have:=(iE hk).2;simp only[Vl.nodes];omega
  |_=>cases hk
 omega
theorem J9{s d:Nm}{a:Ty}{x A B:E}{D:Ty}(z:ZT s d a x A B D)(v:Vl)(hv:Fo a v):an Tryz.prog 51 [.v (.string (mk s)),.v (.string (mk v.cF))] [] (bM (.cG [.sl (lQ (kids a v)),.v (.bool true)])):=by
 have hv2:nJ s v.cF 100=some v:=by rw[z.cF hv.ij hv.ty,if_pos hv.nd]
 have hP:=P3.of x A B
 have hn:=hv.nd
 obtain⟨v0,hv0,_⟩:=uM .nil z.hx (hv.eX z)
 have hkids:=SX 100 v x A B a z.body z.hx v0 hv0 (hv.eX z) (by omega)
 have hV:=P2.of (.atom [102]) v0.cK
 refine QM _ _ ?_
 unfold KM
 refine aP (HW s) (jI.ne _ _ (fun h=>h)) ?_
 rintro r o ⟨c,e,he,rfl,hh⟩
 rw[z.le]at hh
 obtain⟨e',he',hce⟩:=hh rfl
 cases he'
 rw[dj]at hce
 rw[hce,z.le]
 simp only[↓zq,zs,ae,zt,aM,bN]
 repeat refine⟨by omega,?_⟩
 refine aP (Ej v.cF) (jI.ne _ _ (fun h=>by simpa using h)) ?_
 rw[qN hv.ij hn]
 rintro r o ⟨c,e,he,rfl,hh⟩
 obtain⟨e',he',hce⟩:=hh rfl
 cases he'
 rw[dj]at hce
 rw[hce]
 simp only[↓zq,zs,ae,zt,aM,aW]
 repeat refine⟨by omega,?_⟩
 refine⟨fun h=>by simp at h,fun _=>?_⟩
 refine aj (Ap s v.cF 100) ?_
 rw[hv2,hv0]
 simp only[toNat_one,bg,Vl.cK,bN,↓zq,zs,ae,zt,hP.1,hP.2.1,hP.2.2.1,hP.2.2.2,hV.1,hV.2.1,hV.2.2,aM,aY,aW]
 refine⟨fun h=>by simp at h,fun _=>?_⟩
 repeat refine⟨by omega,?_⟩
 refine aj hkids ?_
 simp only[↓zq,zs,ae]
 repeat refine⟨by omega,?_⟩
 have hlen:=nt a v
 have:=lf (kids a v)
 refine aj (QP (kids a v) (by omega) (fun h hh=>(sc hv hh).1) (fun h hh=>(sc hv hh).2)) ?_
 rw[<-hv0]
 simp only[↓zq,zs,ae]
 exact⟨rfl,rfl⟩
theorem JY(s:Nm)(pa:AV)(p:List Nm)(hp:cm pa p)(f:Nm):an Tryz.prog 50 [.agg [.v (.string (mk s)),pa,.v (.string (mk f))]] [] (bM (.v (.int .i64 (mV s p f)))):=by
 refine QJ _ _ _ hp.1 ?_
 unfold JN
 refine aj (Q7 s pa p hp f) ?_
 simp only[↓zq,zs,ae]
 unfold mV
 cases q:fV s p f with
 |none=>simp only[bA];exact⟨fun _=>⟨rfl,rfl⟩,fun h=>by simp at h⟩
 |
  some r =>
  obtain⟨l,v⟩:=r
  obtain⟨d,hs,rfl,rfl⟩:=na q
  obtain⟨x,A,B,D,z⟩:=hs.z
  simp only[aW]
  refine⟨fun h=>by simp at h,fun _=>?_⟩
  refine aj (J9 z v hs.i.ov) ?_
  simp only[↓zq,zs,ae,lO]
  exact⟨rfl,rfl⟩
end Go.Proofs.Trees
namespace Go.Proofs.Trees
open Go Go.VL Go.RowKit
theorem rH{a:Ty}{l l':List Vl}{v w:Vl}{k:Int}(h:vk a l v k=some (l',w)):∃q,q∈kids a v/\l'=l++[q.1]/\w=q.2/\q.1.nodes<=200/\l.length≠50/\0<=k/\(kids a v)[k.toNat]?=some q:=by
 unfold vk at h
 split at h
 ·cases h
 ·rename_i h0
  split at h
  ·rename_i h1
   split at h
   ·rename_i h2
    cases h
    have e:(kids a v).getD k.toNat (.u,.u)=(kids a v)[k.toNat]'h1.2:=by simp[aa,h1.2]
    rw[e]at h2 |-
    exact⟨_,bD _,rfl,rfl,h2,h0,h1.1,by simp[h1.2]⟩
   ·cases h
  ·cases h
theorem St.dn{s d:Nm}{a:Ty}{l l':List Vl}{v w:Vl}{k:Int}(h:St s d a l v)(hu:vk a l v k=some (l',w)):St s d a l' w/\qt a l' w=some (l,v)/\l'.length=l.length+1:=by
 obtain⟨q,hq,rfl,rfl,hn,h50,_,_⟩:=rH hu
 obtain⟨x,A,B,D,z⟩:=h.z
 obtain⟨t1,t2,t3⟩:=z.Pp h.i.ov hq
 have hv:nJ d q.1.cF 100=some q.1:=by rw[z.Sl (jT h.i.ov.ij hq).1 t1,if_pos hn]
 have hlen:=h.len
 refine⟨⟨⟨x,A,B,D,z⟩,⟨fun c hc=>?_,t2⟩,fun c hc=>?_,by simp;omega⟩,(rR t3 h.i.ov.nd).1,by simp⟩
 ·rcases aO.1 hc with hc|hc
  ·exact h.i.ctx c hc
  ·simp only[aQ]at hc;subst hc;exact z.ctx hv
 ·rcases aO.1 hc with hc|hc
  ·exact h.each c hc
  ·simp only[aQ]at hc;subst hc;exact hv
theorem Rj{s d:Nm}{a:Ty}{l:List Vl}{v:Vl}(h:St s d a l v)(k:Int):an Tryz.prog 44 [pE s a l v,.v (.int .i64 k)] [] (bM (oZ s a (vk a l v k))):=by
 obtain⟨x,A,B,D,z⟩:=h.z
 have hnd:=h.i.ov.nd
 have hlen:=h.len
 refine Nc _ _ ((cb _).mpr trivial) ?_
 simp only[G6,pE,↓zq,zs,ae,gy,aN,aE]
 refine⟨fun h=>(by cases h),fun _=>?_⟩
 repeat refine⟨by first|trivial|omega,?_⟩
 unfold vk
 refine⟨fun h5=>?_,fun h5=>?_⟩
 ·rw[if_pos (by omega)];exact⟨rfl,rfl⟩
 ·rw[if_neg (by omega)]
  repeat refine⟨by first|trivial|omega,?_⟩
  refine aj (Ju 100 v x A B a z.body z.hx (h.i.ov.eX z) (by omega)) ?_
  have hkl:(gJ (kids a v)).length=(kids a v).length:=by simp[gJ]
  simp only[↓zq,zs,ae,hkl]
  refine⟨fun h0=>?_,fun h0=>⟨fun h1=>?_,fun h1=>?_⟩⟩
  ·rw[if_neg (by omega)];exact⟨rfl,rfl⟩
  ·rw[if_neg (by omega)];exact⟨rfl,rfl⟩
  ·have hlt:k.toNat<(kids a v).length:=by omega
   rw[if_pos ⟨by omega,hlt⟩]
   have hg:(gJ (kids a v)).getD k.toNat []=[((kids a v)[k.toNat]).1.cE,((kids a v)[k.toNat]).2.cE]:=by simp[gJ,aa,hlt]
   have hg2:(kids a v).getD k.toNat (.u,.u)=(kids a v)[k.toNat]:=by simp[aa,hlt]
   have hm:=bD hlt
   rw[hg2]
   have hctx:((kids a v)[k.toNat]).1.nodes<=4*v.nodes:=by
    cases v with
    |f w=>have:=(iE hm).2;simp only[Vl.nodes];omega
    |_=>simp[kids]at hlt
   generalize (kids a v)[k.toNat]=q at *
   simp only[hg,↓zq,zs,ae,aN]
   repeat refine⟨by first|trivial|omega,?_⟩
   refine aj (EP q.1 (by omega)) ?_
   simp only[↓zq,zs,ae,aN,aE,zt]
   refine⟨fun hb=>?_,fun hb=>?_⟩
   ·rw[if_neg (by omega)];exact⟨rfl,rfl⟩
   ·rw[if_pos (by omega)]
    repeat refine⟨by first|trivial|omega,?_⟩
    refine⟨⟨fun c hc=>?_,by simp[u9];omega⟩,?_⟩
    ·simp only[u9,bP]at hc
     obtain⟨y,_,rfl⟩:=hc;rfl
    repeat refine⟨by first|trivial|omega,?_⟩
    refine⟨⟨fun c hc=>by simp at hc;rw[hc];rfl,by simp[u9];omega⟩,?_⟩
    repeat refine⟨by first|trivial|omega,?_⟩
    refine⟨?_,rfl⟩
    simp only[oZ,pE,aT,xS]
theorem R9(s:Nm)(a:Ty)(o:Option (List Vl×Vl))(ho:∀r,o=some r->∃d,St s d a r.1 r.2)(k:Int):an Tryz.prog 44 [oZ s a o,.v (.int .i64 k)] [] (bM (oZ s a (o.bind fun r=>vk a r.1 r.2 k))):=by
 cases o with
 |
  none =>
  refine Nc _ _ ((gx).mpr trivial) ?_
  simp only[G6,oZ,↓zq,zs,ae,bL]
  exact⟨fun _=>⟨rfl,rfl⟩,fun h=>(by cases h)⟩
 |
  some r =>
  obtain⟨d,h⟩:=ho r rfl
  exact Rj h k
noncomputable def mr (s:Nm) (p:List Nm) (f:Nm) (k:Int):Option (List Vl×Vl):=(fV s p f).bind fun r=>vk (zA s) r.1 r.2 k
theorem St.gz{s d:Nm}{a:Ty}{l:List Vl}{v:Vl}(h:St s d a l v):GZ (some (l,v)):=h.i.gz (by have:=h.len;omega)
theorem rL(s:Nm)(p:List Nm)(f:Nm)(k:Int):GZ (mr s p f k):=fun r hr=>by
 obtain⟨q,h1,h2⟩:=a6.1 hr
 obtain⟨d,hs,_⟩:=na (l:=q.1) (v:=q.2) h1
 exact(hs.dn (l':=r.1) (w:=r.2) h2).1.gz r rfl
theorem R0(s:Nm)(pa:AV)(p:List Nm)(hp:cm pa p)(f:Nm)(k:Int):an Tryz.prog 28 [.agg [.v (.string (mk s)),pa,.v (.string (mk f))],.v (.int .i64 k)] [] (En s (mr s p f k)):=by
 refine Qt _ _ _ _ hp.1 ?_
 unfold OS
 refine aj (Pk s pa p hp f) ?_
 simp only[↓zq,zs,ae,zt,lZ]
 refine aj (R9 s (zA s) (fV s p f) (fun r hr=>by obtain⟨d,hs,_⟩:=na (l:=r.1) (v:=r.2) hr;exact⟨d,hs⟩) k) ?_
 simp only[↓zq,zs,ae,zt,lZ]
 refine aV (IV s (zA s) _ (rL s p f k)) ?_
 simp only[↓zq,zs,ae,zt,aI]
 exact⟨dJ _,rfl,rfl⟩
theorem w6{l:List Hl}{i:Nat}(h:i<l.length):(lQ l).getD i []=[.v (.string (mk (l[i]).1.cF)),.v (.string (mk (l[i]).2.cF))]:=by simp[lQ,aa,h]
theorem w7{s:Nm}{p:List Nm}{f:Nm}{r:List Vl×Vl}(h:vH s p f=some r):∃d,cL s=some d/\St s d (zA s) r.1 r.2/\p=r.1.map (·.cF)/\f=r.2.cF:=by
 obtain⟨d,a,x,A,B,D,z,hz,hp,hf,hl,hza,_,hr⟩:=mI (l:=r.1) (v:=r.2) h
 rw[hza]
 exact⟨d,z.dl,⟨⟨x,A,B,D,z⟩,hz,nR hr hp,by rw[hp]at hl;simpa using hl⟩,hp,hf⟩
theorem ED{s d:Nm}{l:List Vl}{v:Vl}(hs:St s d (zA s) l v)(hd:cL s=some d)(hv:fV s (l.map (·.cF)) v.cF=some (l,v)){k:Int}(h0:0<=k)(hk:k.toNat<(kids (zA s) v).length) :
 fV s (l.map (·.cF)++[((kids (zA s) v)[k.toNat]).1.cF]) ((kids (zA s) v)[k.toNat]).2.cF=vk (zA s) l v k:=by
 rw[zS hs hd hv (bD hk)]
 unfold vk
 by_cases h5:l.length=50
 ·rw[if_pos h5,if_pos h5]
 ·rw[if_neg h5,if_neg h5,if_pos (show 0<=k/\k.toNat<(kids (zA s) v).length from ⟨h0,hk⟩)]
  have hg2:(kids (zA s) v).getD k.toNat (.u,.u)=(kids (zA s) v)[k.toNat]:=by simp[aa,hk]
  rw[hg2]
theorem ME(s:Nm)(pa:AV)(p:List Nm)(hp:cm pa p)(f:Nm)(k:Int):an Tryz.prog 30 [.agg [.v (.string (mk s)),pa,.v (.string (mk f))],.v (.int .i64 k)] [] (En s (mr s p f k)):=by
 refine Ra _ _ _ _ hp.1 ?_
 unfold Jv
 refine aj (Q7 s pa p hp f) ?_
 simp only[↓zq,zs,ae]
 unfold mr
 cases q:fV s p f with
 |none=>simp only[bA];exact⟨fun _=>⟨rfl,rfl⟩,fun h=>by simp at h⟩
 |
  some r =>
  obtain⟨l,v⟩:=r
  obtain⟨d,hd,hs,rfl,rfl⟩:=w7 (ga q).1
  obtain⟨x,A,B,D,z⟩:=hs.z
  have hlen:l.length<=50:=hs.len
  have hnd:v.nodes<=200:=hs.i.ov.nd
  have hks:=nt (zA s) v
  have hks2:=lf (kids (zA s) v)
  simp only[aW,bb]
  refine⟨fun h=>by simp at h,fun _=>?_⟩
  refine aj (J9 z v hs.i.ov) ?_
  simp only[↓zq,zs,ae,lO]
  rw[wrap64 (((kids (zA s) v).length:Int)-1) (by omega) (by omega)]
  refine aj (Bs k 0 _) ?_
  rw[show CM k 0 (((kids (zA s) v).length:Int)-1)=decide (0<=k/\k<=((kids (zA s) v).length:Int)-1) by rw[cy];simp[CM]]
  simp only[↓zq,zs,ae,lO]
  by_cases hin:0<=k/\k<=((kids (zA s) v).length:Int)-1
  ·have hlt:k.toNat<(kids (zA s) v).length:=by omega
   refine⟨fun h=>(by exfalso;first|omega|(simp at h;omega)),fun _=>?_⟩
   simp only[w6 hlt,↓zq,zs,ae,zt]
   repeat refine⟨by first|trivial|omega,?_⟩
   refine aV (wZ _ pa hp _ (by simp;omega)) ?_
   simp only[↓zq,zs,ae,zt,Ob.es,aJ]
   refine⟨dJ _,?_⟩
   repeat refine⟨by first|trivial|omega,?_⟩
   have hdn:=Nl s (l.map (·.cF)++[((kids (zA s) v)[k.toNat]).1.cF]) ((kids (zA s) v)[k.toNat]).2.cF
   rw[ED hs hd q hin.1 hlt]at hdn
   refine aV hdn ?_
   simp only[↓zq,zs,ae,zt,aI,Ob.es,aJ,bu]
   exact⟨rfl,rfl⟩
  ·refine⟨fun _=>?_,fun h=>(by exfalso;first|omega|(simp at h;omega))⟩
   have:vk (zA s) l v k=none:=by
    unfold vk
    by_cases h5:l.length=50
    ·rw[if_pos h5]
    ·rw[if_neg h5,if_neg (by omega)]
   rw[this]
   exact⟨rfl,rfl⟩
end Go.Proofs.Trees
namespace Go.Proofs.Trees
open Go Go.VL Go.RowKit
def dZ(b:AV)(q:Nat)(s:Nm)(p:List Nm)(f:Nm):List Ob:=[.cells [b,.v (.int .i64 (q:Int))],RE,.cells [.v (.string (mk s)),.any,.v (.string (mk f))],.vec 1 (bE p)]
def TA(b:AV)(q c:Nat):Nat->List AV->List Ob->Prop:=fun k ys ob=>k=1/\ys=[]/\∃(q':Nat) (s:Nm) (p:List Nm) (f:Nm),q<=q'/\q'<=q+c/\p.length<=51/\ob=dZ b q' s p f
theorem v7(s:Nm)(p:List Nm)(f:Nm):-1<=mV s p f/\mV s p f<=1000:=by
 unfold mV
 cases q:fV s p f with
 |none=>simp
 |
  some r =>
  obtain⟨d,hs,_⟩:=na (l:=r.1) (v:=r.2) q
  have h1:=nt (zA s) r.2
  have h2:=lf (kids (zA s) r.2)
  have h3:=hs.i.ov.nd
  simp only
  omega
theorem Hd(b:AV)(l:List UInt8)(hb:sC b l)(q0 C:Nat)(hC:q0+C<1000000000000):∀(k:Nat) (ok:Bool) (i n q:Nat) (s:Nm) (p:List Nm) (f:Nm),i+k=n->n<=100->q0<=q->q+k<=q0+C->p.length<=51 ->
 Gv [.v (.bool ok),.v (.int .i64 (n:Int)),.v (.int .i64 (i:Int))] (dZ b q s p f) (TA b q0 C)
 |
  0,ok,i,n,q,s,p,f,hi,hn,hq0,hq,hp=>by
  refine MV _ _ _ _ _ _ _ _ _ _ _ ?_
  have:i=n:=by omega
  subst this
  simp only[IK,↓zq,zs,ae,zt,ae,bh,hb.has]
  refine⟨fun h=>by omega,fun _=>⟨rfl,rfl,q,s,p,f,by omega,by omega,hp,rfl⟩⟩
 |
  k+1,ok,i,n,q,s,p,f,hi,hn,hq0,hq,hp=>by
  refine MV _ _ _ _ _ _ _ _ _ _ _ ?_
  have hfar:pT=1000000000000000:=rfl
  simp only[IK,↓zq,zs,ae,zt,ae,bh,hb.has]
  refine⟨fun _=>⟨fun hok=>?_,fun _=>⟨rfl,rfl,q,s,p,f,by omega,by omega,hp,rfl⟩⟩,fun h=>by omega⟩
  refine aj (JY s _ p (cm.of p) f) ?_
  have hm:=v7 s p f
  obtain⟨m,hm1,hm2⟩:∃m:Nat,(if mV s p f>1 then mV s p f else 1)=(m:Int)/\m<=1000:=by
   split
   ·exact⟨(mV s p f).toNat,by omega,by omega⟩
   ·exact⟨1,rfl,by omega⟩
  simp only[↓zq,zs,ae,hm1]
  refine aP (u3 b l hb q m (by omega) (by omega)) (eS.ne ⟨0,rfl,fun h=>by omega,by omega⟩) ?_
  rintro r o ⟨q1,h1,h2,⟨j,rfl,_,_⟩,rfl⟩
  simp only[↓zq,zs,ae,zt,aI,hb.has]
  refine aV (ME s _ p (cm.of p) f (j:Int)) ?_
  have hl:=xb s (rL s p f (j:Int))
  simp only[↓zq,zs,ae,zt,aI,Ob.es,aJ]
  rw[bx i (by omega)]
  refine⟨dJ _,fun _=>?_,fun _=>?_⟩
  ·exact Hd b l hb q0 C hC k ok (i+1) n q1 _ _ _ (by omega) hn (by omega) (by omega) hl
  ·exact Hd b l hb q0 C hC k ok (i+1) n q1 _ _ _ (by omega) hn (by omega) (by omega) hp
def Pb(b:AV)(p c:Nat):AV->List Ob->Prop:=fun r o=>∃(q:Nat) (s:Nm) (pth:List Nm) (f:Nm),p<=q/\q<=p+c/\pth.length<=52/\r=.agg [.v (.string (mk s)),.vec 1,.v (.string (mk f))]/\o=[.cells [b,.v (.int .i64 (q:Int))],.vec 1 (bE pth)]
theorem Pb.ne(b:AV)(p c:Nat):∃r o,Pb b p c r o:=⟨_,_,p,[],[],[],au _,by omega,by simp,rfl,rfl⟩
theorem PW(b:AV)(l:List UInt8)(hb:sC b l)(p:Nat)(hp:p<100000000000):an Tryz.prog 31 [.ref 0 0] [.cells [b,.v (.int .i64 (p:Int))]] (Pb b p 60000001000):=by
 have hfar:pT=1000000000000000:=rfl
 refine Qd _ _ hb.has ?_
 unfold Lx
 refine aP (Rm b l hb p (by omega)) (eS.ne ⟨[],[],rfl⟩) ?_
 rintro r o ⟨q,h1,h2,⟨s,f,rfl⟩,rfl⟩
 simp only[↓zq,zs,ae,zt,aI,hb.has]
 refine aV (SN s f) ?_
 have hl:=xb s (HO s [] f)
 simp only[↓zq,zs,ae,zt,aI,Ob.es,aJ]
 refine⟨dJ _,?_⟩
 refine aP (u3 b l hb q 4 (by omega) (by decide)) (eS.ne ⟨0,rfl,fun h=>by omega,by omega⟩) ?_
 rintro r o ⟨q1,g1,g2,⟨n,rfl,_,hn⟩,rfl⟩
 simp only[↓zq,zs,ae,zt,aI,hb.has]
 refine kM (Hd b l hb q1 n (by omega) n _ 0 n q1 _ _ _ (by omega) (by omega) (by omega) (by omega) hl) (fun ys o e=>?_) (fun ys o e=>?_)
 ·obtain⟨_,rfl,q2,s2,p2,f2,e1,e2,e3,rfl⟩:=e
  simp only[dZ,↓zq,zs,ae,zt,ae,bh,hb.has,Ob.es,aJ,bu,bf]
  refine aP (u3 b l hb q2 20 (by omega) (by decide)) (eS.ne ⟨0,rfl,fun h=>by omega,by omega⟩) ?_
  rintro r o ⟨q3,d1,d2,⟨j,rfl,_,_⟩,rfl⟩
  simp only[↓zq,zs,ae,zt,aI,hb.has]
  have hsl:(bE p2).length=p2.length:=by simp[bE]
  have ap:bE p2++[[.v (.string (mk [117]))]]=bE (p2++[[117]]):=by simp[bE]
  refine⟨fun _=>⟨⟨fun c hc=>(by simp at hc;rw[hc];rfl),by simp;omega⟩,?_⟩,fun _=>⟨fun _=>?_,fun _=>⟨fun _=>?_,fun _=>?_⟩⟩⟩
  ·rw[ap];exact⟨q3,s2,_,f2,by omega,by omega,by simp;omega,rfl,rfl⟩
  ·exact⟨q3,s2,_,_,by omega,by omega,by omega,rfl,rfl⟩
  ·exact⟨q3,_,_,f2,by omega,by omega,by omega,rfl,rfl⟩
  ·exact⟨q3,s2,_,f2,by omega,by omega,by omega,rfl,rfl⟩
 ·exact absurd e.1 (by decide)
end Go.Proofs.Trees
namespace Go.Proofs.Trees
open Go Go.VL Go.RowKit
def Tc:AV->List Ob->Prop:=fun r o=>o=[]/\∃(s:Nm) (p:List Nm) (f:Nm),p.length<=52/\r=.agg [.v (.string (mk s)),.sl (bE p),.v (.string (mk f))]
theorem Tc.ne:∃r o,Tc r o:=⟨_,_,rfl,[],[],[],by simp,rfl⟩
theorem Qk:(0:Nat)<100000000000:=by decide
end Go.Proofs.Trees
namespace Go.Proofs.Trees
open Go Go.VL Go.RowKit
def Pj:AV->List Ob->Prop:=fun r o=>o=[]/\∃(s:Nm) (p:List Nm) (f:Nm) (k:Int),p.length<=52/\r=.cG [.agg [.v (.string (mk s)),.sl (bE p),.v (.string (mk f))],.v (.int .i64 k)]
theorem Pj.ne:∃r o,Pj r o:=⟨_,_,rfl,[],[],[],0,by simp,rfl⟩
def Tf:AV->List Ob->Prop:=fun r o=>o=[]/\∃(s:Nm) (p:List Nm) (f v:Nm),p.length<=52/\r=.cG [.agg [.v (.string (mk s)),.sl (bE p),.v (.string (mk f))],.v (.string (mk v))]
theorem Tf.ne:∃r o,Tf r o:=⟨_,_,rfl,[],[],[],[],by simp,rfl⟩
theorem Qf(a:AV)(ha:xY a):an Tryz.prog 29 [a] [] Pj:=by
 refine RS _ ha.1 ?_
 unfold Lf
 have hfar:pT=1000000000000000:=rfl
 refine aP (QS a ha) Pm.ne ?_
 rintro r o ⟨b,l,hb,rfl,rfl⟩
 simp only[↓zq,zs,ae,zt,hb.has]
 refine⟨by simp[bK,hb.has,lH],aP (PW b l hb 0 Qk) (Pb.ne _ _ _) ?_⟩
 rintro r o ⟨q,s,p,f,_,h2,h3,rfl,rfl⟩
 simp only[↓zq,zs,ae,zt,aI,hb.has,bu,aJ,Ob.es]
 refine aj (JY s _ p (cm.of p) f) ?_
 have hm:=v7 s p f
 obtain⟨m,hm1,hm2⟩:∃m:Nat,(if mV s p f>1 then mV s p f else 1)=(m:Int)/\m<=1000:=by
  split
  ·exact⟨(mV s p f).toNat,by omega,by omega⟩
  ·exact⟨1,rfl,by omega⟩
 simp only[↓zq,zs,ae,hm1]
 refine aP (u3 b l hb q m (by omega) (by omega)) (eS.ne ⟨0,rfl,fun h=>by omega,by omega⟩) ?_
 rintro r o ⟨q1,b1,b2,⟨k,rfl,_,_⟩,rfl⟩
 simp only[↓zq,zs,ae,zt,aI,hb.has]
 refine aP (u3 b l hb q1 20 (by omega) (by omega)) (eS.ne ⟨0,rfl,fun h=>by omega,by omega⟩) ?_
 rintro r o ⟨q2,c1,c2,⟨k2,rfl,_,_⟩,rfl⟩
 simp only[↓zq,zs,ae,zt,aI,hb.has,bu,aJ,Ob.es]
 repeat refine⟨by omega,?_⟩
 exact⟨rfl,s,p,f,_,h3,rfl⟩
end Go.Proofs.Trees
namespace Go.Proofs.Trees
open Go Go.VL Go.RowKit
def Td(n:Nat):AV->List Ob->Prop:=fun r o=>∃x:Int,r=.v (.int .i64 x)/\(0<=x->n<=1048576)
theorem Td.ne(n:Nat):∃r o,Td n r o:=⟨_,[],-1,rfl,fun h=>by omega⟩
end Go.Proofs.Trees
namespace Go.Proofs.Trees
open Go Go.VL Go.RowKit
def qf(a:AV)(l:List Nat):Prop:=LK.sl.has a/\a.elems=sa l
theorem qf.of(l:List Nat):qf (.sl (sa l)) l:=⟨(cg _).mpr trivial,rfl⟩
theorem qf.nil:qf (.v (.slice none 0 0)) []:=⟨(bh).mpr trivial,rfl⟩
theorem qf.len{a:AV}{l:List Nat}(h:qf a l):a.elems.length=l.length:=by rw[h.2,xN]
theorem qf.idx{a:AV}{l:List Nat}(h:qf a l){i:Nat}(hi:i<l.length):a.elems.getD i []=[.v (.int .i64 (l.getD i 0:Nat))]:=by
 rw[h.2];simp[sa,aa,hi]
end Go.Proofs.Trees
namespace Go.Proofs.Trees
open Go Go.VL Go.RowKit
def dP(l:List Int):List (List AV):=l.map fun k=>[.v (.int .i64 k)]
def me(a:AV)(l:List Int):Prop:=LK.sl.has a/\a.elems=dP l
theorem mX(l:List Int):(dP l).length=l.length:=by simp[dP]
theorem me.of(l:List Int):me (.sl (dP l)) l:=⟨(cg _).mpr trivial,rfl⟩
theorem me.nil:me (.v (.slice none 0 0)) []:=⟨(bh).mpr trivial,rfl⟩
theorem me.len{a:AV}{l:List Int}(h:me a l):a.elems.length=l.length:=by rw[h.2,mX]
theorem me.idx{a:AV}{l:List Int}(h:me a l){i:Nat}(hi:i<l.length):a.elems.getD i []=[.v (.int .i64 (l.getD i 0))]:=by
 rw[h.2];simp[dP,aa,hi]
theorem qx(l:List Int):∀x,x∈[Ob.vec 1 (dP l)]->en x:=by
 intro x hx
 simp only[aQ]at hx
 subst hx
 intro e he c hc
 simp only[dP,bP]at he
 obtain⟨k,_,rfl⟩:=he
 simp only[aQ]at hc
 exact⟨_,hc⟩
end Go.Proofs.Trees
namespace Go.Proofs.Trees
open Go Go.VL Go.RowKit
abbrev ZO:=Option (List Vl×Vl)
def CS(s:Nm)(o:ZO):Prop:=∀r,o=some r->∃d,St s d (zA s) r.1 r.2
def Ok(a:Ty)(pl:List Int)(o:ZO):ZO:=pl.foldl (fun o k=>o.bind fun r=>vk a r.1 r.2 k) o
theorem CS.dn{s:Nm}{o:ZO}(h:CS s o)(k:Int):CS s (o.bind fun r=>vk (zA s) r.1 r.2 k):=fun r hr=>by
 obtain⟨q,h1,h2⟩:=a6.1 hr
 obtain⟨d,hs⟩:=h q h1
 exact⟨d,(hs.dn (l':=r.1) (w:=r.2) h2).1⟩
theorem CS.go{s:Nm}:∀{pl:List Int} {o:ZO},CS s o->CS s (Ok (zA s) pl o)
 |[],o,h=>h
 |k::pl,o,h=>CS.go (pl:=pl) (h.dn k)
theorem CS.gz{s:Nm}{o:ZO}(h:CS s o):GZ o:=fun r hr=>by
 obtain⟨d,hs⟩:=h r hr
 exact hs.gz r rfl
def Ph(s:Nm)(o:ZO):Prop:=∀r,o=some r->fV s (r.1.map (·.cF)) r.2.cF=some r
theorem Ph.dn{s:Nm}{o:ZO}(h:Ph s o)(k:Int):Ph s (o.bind fun r=>vk (zA s) r.1 r.2 k):=fun r hr=>by
 obtain⟨q,h1,h2⟩:=a6.1 hr
 have hq:=h q h1
 obtain⟨d,hd,hs,_⟩:=w7 (ga (l:=q.1) (v:=q.2) hq).1
 obtain⟨e,_,h3,h4,_,_,h0,h5⟩:=rH (l':=r.1) (w:=r.2) h2
 have hk:k.toNat<(kids (zA s) q.2).length:=by
  rcases Nat.lt_or_ge k.toNat (kids (zA s) q.2).length with h|h
  ·exact h
  ·rw[List.getElem?_eq_none h]at h5;cases h5
 have he:(kids (zA s) q.2)[k.toNat]=e:=by rw[bp hk]at h5;cases h5;rfl
 have:=ED hs hd hq h0 hk
 rw[h2,he]at this
 obtain⟨l1,v1⟩:=r
 simp only at h3 h4 |-
 subst h3 h4
 rw[List.map_append]
 exact this
end Go.Proofs.Trees
namespace Go.Proofs.Trees
open Go Go.VL Go.RowKit
def wG(c:Nm):List Hl->Nat->Int
 |[],_=>-1
 |h::l,i=>if h.1.cF=c then(i:Int)else wG c l (i+1)
theorem Qs(q:Vl)(w:AV)(hw:LK.ptr.has w)(c:Nm)(hq:q.cF.length<=900000):an Tryz.prog 59 [.agg [q.cE,w],.ref 0 0] [.cells [.v (.string (mk c))]] (df (.v (.bool (decide (q.cF=c)))) [.cells [.v (.string (mk c))]]):=by
 refine Ps _ _ _ ((aN _).mpr trivial) hw ?_
 unfold JU
 refine aj (CL q hq) ?_
 simp only[↓zq,zs,ae,zt]
 refine⟨?_,rfl⟩
 congr 2
 rw[cy];simp
theorem MG(c:Nm)(l:List Hl)(hl:l.length<=1000)(ht:∀h,h∈l->h.1.cF.length<=900000):∀(k i:Nat),i+k=l.length->FN [.sl (gJ l),.v (.int .i64 (l.length:Int)),.v (.int .i64 (i:Int))] [.cells [.v (.string (mk c))]]
 (nH (if wG c (l.drop i) i = -1 then(1,[],[.cells [.v (.string (mk c))]])else(2,[.v (.int .i64 (wG c (l.drop i) i))],[.cells [.v (.string (mk c))]])))
 |
  0,i,hi=>by
  refine Me _ _ _ _ ?_
  have:i=l.length:=by omega
  subst this
  simp only[HR,↓zq,zs,ae,zt,ae,List.drop_length,wG]
  exact⟨fun h=>by omega,fun _=>by simp[nH]⟩
 |
  k+1,i,hi=>by
  have hlt:i<l.length:=by omega
  refine Me _ _ _ _ ?_
  simp only[HR,↓zq,zs,ae,zt,ae,bK,ep,lE hlt,aN,bH]
  refine⟨fun _=>?_,fun h=>by omega⟩
  repeat refine⟨by first|trivial|omega,?_⟩
  refine aV (Qs (l[i]).1 _ ((aN _).mpr trivial) c (ht _ (bD hlt))) ?_
  simp only[↓zq,zs,ae,zt,aI]
  rw[aU hlt,wG]
  by_cases h:(l[i]).1.cF=c
  ·simp only[if_pos h]
   refine⟨fun _=>?_,fun hn=>absurd h (by simpa using hn)⟩
   rw[if_neg (by omega)]
  ·simp only[if_neg h]
   refine⟨fun hp=>absurd (by simpa using hp) h,fun _=>?_⟩
   rw[bx i (by omega)]
   exact MG c l hl ht k (i+1) (by omega)
theorem SG(c:Nm)(l:List Hl)(hl:l.length<=1000)(ht:∀h,h∈l->h.1.cF.length<=900000):an Tryz.prog 57 [.sl (gJ l),.fn 59 [.ref 0 0]] [.cells [.v (.string (mk c))]] (df (.v (.int .i64 (wG c l 0))) [.cells [.v (.string (mk c))]]):=by
 refine Sz _ _ ((cg _).mpr trivial) ?_
 simp only[M5,↓zq,zs,ae,ep]
 have hloop:=MG c l hl ht l.length 0 (by omega)
 rw[bf]at hloop
 refine fj hloop (fun ys o e=>?_) (fun ys o e=>?_)
 ·split at e
  ·rename_i h
   cases e
   simp only[↓zq,zs,ae,zt,ae]
   rw[h];exact⟨rfl,rfl⟩
  ·cases e
 ·split at e
  ·cases e
  ·cases e
   simp only[↓zq,zs,ae,zt,ae]
   exact⟨rfl,rfl⟩
theorem Fo.kt{a:Ty}{v:Vl}(h:Fo a v):(kids a v).length<=199/\(∀k,k∈kids a v->k.1.cF.length<=900000):=by
 refine⟨?_,fun k hk=>(sc h hk).1⟩
 have h1:=nt a v
 have h2:=lf (kids a v)
 have:=h.nd
 omega
theorem S7{s d:Nm}{a:Ty}{l l':List Vl}{v w c:Vl}(h:St s d a l v)(hu:qt a l v=some (l',w))(hc:l=l'++[c]):an Tryz.prog 35 [pE s a l v,pE s a l' w] [] (bM (.v (.int .i64 (wG c.cF (kids a w) 0)))):=by
 have h':=h.up hu
 obtain⟨x,A,B,D,z⟩:=h.z
 have hlen:=h.len
 have hl1:l.length=l'.length+1:=by rw[hc];simp
 refine SH _ _ ((cb _).mpr trivial) ((cb _).mpr trivial) ?_
 simp only[Nt,pE,↓zq,zs,ae,gy,aN,aE]
 repeat refine⟨by first|trivial|omega,?_⟩
 rw[wrap64 ((l.length:Int)-1) (by omega) (by omega)]
 have e1:((l.length:Int)-1).toNat=l'.length:=by omega
 have hg:(u9 l).getD l'.length []=[c.cE]:=by rw[u4 (by omega)];simp[hc]
 simp only[e1,hg,↓zq,zs,ae,aN]
 repeat refine⟨by first|trivial|omega,?_⟩
 have hcx:=h.i.ctx c (by rw[hc];simp)
 refine aj (CL c hcx.cF) ?_
 simp only[↓zq,zs,ae,zt,aN,aE]
 repeat refine⟨by first|trivial|omega,?_⟩
 have hnd:=h'.i.ov.nd
 refine aj (Ju 100 w x A B a z.body z.hx (h'.i.ov.eX z) (by omega)) ?_
 simp only[↓zq,zs,ae,zt]
 have hk:=h'.i.ov.kt
 refine aV (SG c.cF (kids a w) (by omega) hk.2) ?_
 simp only[↓zq,zs,ae,zt,aI]
 exact⟨rfl,rfl⟩
def mo:Nat->Ty->List Vl->Vl->List Int
 |0,_,_,_=>[]
 |
  n+1,a,l,v=>match qt a l v with
  |some r=>mo n a r.1 r.2++[wG ((l.getLast?).getD .u).cF (kids a r.2) 0]
  |none=>[]
theorem vB:∀(n:Nat) (a:Ty) (l:List Vl) (v:Vl),(mo n a l v).length<=n
 |0,_,_,_=>by simp[mo]
 |
  n+1,a,l,v=>by
  unfold mo
  cases qt a l v with
  |none=>simp
  |some r=>have:=vB n a r.1 r.2;simp;omega
def Qb(p q:List Int)(i:Nat):Prop:=q.length=p.length/\∀k,k<p.length->q.getD k 0=if k<i\/p.length-1-k<i then p.getD (p.length-1-k) 0 else p.getD k 0
theorem wC{l:List Int}{i j:Nat}(x:Int)(hj:j<l.length):(l.set i x).getD j 0=if i=j then x else l.getD j 0:=by
 simp only[aa,List.getElem?_set]
 split
 ·rename_i e;subst e;simp[hj]
 ·rfl
theorem MO(p:List Int)(hp:p.length<=1000000):∀(m i:Nat) (q:List Int),p.length<=m+2*i->i<=p.length->Qb p q i->GX [.v (.int .i64 (i:Int)),.v (.int .i64 ((p.length:Int)-1-(i:Int)))] [.vec 1 (dP q)] (gZ 1 [] [.vec 1 (dP p.reverse)])
 |
  m,i,q,hm,hi,hR=>by
  refine SW _ _ _ ?_
  by_cases hlt:(i:Int)<(p.length:Int)-1-(i:Int)
  ·have e2:((p.length:Int)-1-(i:Int)).toNat=p.length-1-i:=by omega
   have h1:i<q.length:=by rw[hR.1];omega
   have h2:p.length-1-i<q.length:=by rw[hR.1];omega
   have g1:(dP q).getD i []=[.v (.int .i64 (q.getD i 0))]:=by simp[dP,aa,h1]
   have g2:(dP q).getD (p.length-1-i) []=[.v (.int .i64 (q.getD (p.length-1-i) 0))]:=by simp[dP,aa,h2]
   have s1:(dP q).set i [.v (.int .i64 (q.getD (p.length-1-i) 0))]=dP (q.set i (q.getD (p.length-1-i) 0)):=by simp[dP,List.map_set]
   have g3:(dP (q.set i (q.getD (p.length-1-i) 0))).getD (p.length-1-i) []=[.v (.int .i64 (q.getD (p.length-1-i) 0))]:=by
    have hne:i≠p.length-1-i:=by omega
    simp[dP,aa,List.getElem?_set,hne,h2]
   simp only[GF,↓zq,zs,ae,mX,bH,e2,g1,g2,List.set_cons_zero,bq,s1,g3]
   have s2:(dP (q.set i (q.getD (p.length-1-i) 0))).set (p.length-1-i) [.v (.int .i64 (q.getD i 0))]=dP ((q.set i (q.getD (p.length-1-i) 0)).set (p.length-1-i) (q.getD i 0)):=by simp[dP,List.map_set]
   simp only[s2,List.length_set]
   have hl:=hR.1
   refine⟨fun _=>⟨⟨by omega,by omega⟩,⟨h2,by first|trivial|simp⟩,⟨by omega,by omega⟩,⟨h1,by first|trivial|simp⟩,⟨by omega,by omega⟩,⟨h1,by omega⟩,⟨by omega,by omega⟩,⟨h2,by omega⟩,?_⟩,fun h=>absurd hlt h⟩
   rw[bx i (by omega),wrap64 ((p.length:Int)-1-(i:Int)-1) (by omega) (by omega),show (p.length:Int)-1-(i:Int)-1=(p.length:Int)-1-((i+1:Nat):Int) by omega]
   match m,hm with
   |0,hm=>omega
   |
    m+1,hm =>
    refine MO p hp m (i+1) _ (by omega) (by omega) ⟨by simp[hl],fun k hk=>?_⟩
    rw[wC _ (by rw[List.length_set,hl];exact hk),wC _ (by rw[hl];exact hk)]
    have hi1:=hR.2 i (by omega)
    have hi2:=hR.2 (p.length-1-i) (by omega)
    have hi3:=hR.2 k hk
    rw[if_neg (by omega)]at hi1 hi2
    by_cases c1:p.length-1-i=k
    ·subst c1
     rw[if_pos rfl,if_pos (by omega),hi1]
     congr 1;omega
    ·rw[if_neg c1]
     by_cases c2:i=k
     ·subst c2
      rw[if_pos rfl,if_pos (by omega),hi2]
     ·rw[if_neg c2,hi3]
      by_cases c3:k<i\/p.length-1-k<i
      ·rw[if_pos c3,if_pos (by omega)]
      ·rw[if_neg c3,if_neg (by omega)]
  ·simp only[GF,↓zq,zs,ae]
   refine⟨fun h=>absurd h hlt,fun _=>?_⟩
   have:q=p.reverse:=by
    apply List.ext_getElem
    ·rw[hR.1,List.length_reverse]
    ·intro k h1 h2
     have hk:k<p.length:=by rw[<-hR.1];exact h1
     have:=hR.2 k hk
     have e1:q.getD k 0=q[k]:=by simp[aa,h1]
     rw[e1]at this
     rw[this,List.getElem_reverse]
     have e2:p.getD (p.length-1-k) 0=p[p.length-1-k]:=by simp[aa,show p.length-1-k<p.length by omega]
     split
     ·exact e2
     ·rename_i hn
      have:k=p.length-1-k:=by omega
      rw[<-e2,<-this]
   rw[this];exact⟨rfl,rfl,rfl⟩
theorem P1(p:List Int)(hp:p.length<=1000000):an Tryz.prog 36 [.vec 0] [.vec 1 (dP p)] (df .any [.kG 1 (dP p.reverse)]):=by
 refine S3 _ ?_
 unfold Mf
 rw[mX,wrap64 ((p.length:Int)-1) (by omega) (by omega)]
 have hloop:=MO p hp p.length 0 p (by omega) (by omega) ⟨rfl,fun k hk=>by rw[if_neg (by omega)]⟩
 rw[show (p.length:Int)-1-((0:Nat):Int)=(p.length:Int)-1 by omega]at hloop
 refine cA hloop ?_
 simp only[↓zq,zs,ae,Ob.es,aJ]
 exact⟨rfl,rfl⟩
end Go.Proofs.Trees
namespace Go.Proofs.Trees
open Go Go.VL Go.RowKit
theorem yq{a:Ty}:∀(n:Nat) (l:List Vl) (v:Vl),l.length=n->(iK n a l v).isSome=true->∀c l',l=l'++[c]->∃w,qt a l v=some (l',w)/\(iK l'.length a l' w).isSome=true
 |0,l,v,hl,_,c,l',h=>by rw[h]at hl;simp at hl
 |
  n+1,l,v,hl,hs,c,l',h=>by
  rw[iK]at hs
  cases q:qt a l v with
  |none=>rw[q]at hs;cases hs
  |
   some r =>
   obtain⟨l1,w⟩:=r
   rw[q]at hs
   have h2:l1=l':=by
    unfold qt at q
    rw[h,List.getLast?_concat]at q
    simp only at q
    split at q
    ·cases q;simp
    ·cases q
   subst h2
   have hn:l1.length=n:=by rw[h]at hl;simpa using hl
   exact⟨w,rfl,by rw[hn];exact hs⟩
theorem wz(l:List Vl)(c:Vl):((l++[c]).getLast?).getD .u=c:=by rw[List.getLast?_concat];rfl
theorem tS{a:Ty}{l l':List Vl}{v w c:Vl}(n:Nat)(hu:qt a l v=some (l',w))(hc:l=l'++[c]):mo (n+1) a l v=mo n a l' w++[wG c.cF (kids a w) 0]:=by
 rw[mo,hu];simp only[hc,wz]
noncomputable def uE (s:Nm) (p:List Nm) (f:Nm):Option (List Int):=(fV s p f).map fun r=>mo r.1.length (zA s) r.1 r.2
def QB(o:Option (List Int)):List Int:=o.getD []
theorem JD(s d:Nm)(a:Ty):∀(n:Nat) (l:List Vl) (v:Vl) (out:List Int),l.length=n->St s d a l v->(iK n a l v).isSome=true->out.length+n<=1000 ->
 Gz [pE s a l v] [.vec 1 (dP out)] (gZ 1 [] [.vec 1 (dP (out++(mo n a l v).reverse))])
 |
  0,l,v,out,hl,h,_,ho=>by
  have:l=[]:=bJ hl
  subst this
  refine KI _ _ ?_
  simp only[HS,pE,↓zq,zs,ae,gy,aG]
  refine⟨by omega,fun h=>by omega,fun _=>by simp[gZ,mo]⟩
 |
  n+1,l,v,out,hl,h,hs,ho=>by
  have hne:l≠[]:=by rintro rfl;simp at hl
  have hlc:l=l.dropLast++[l.getLast hne]:=(List.dropLast_concat_getLast hne).symm
  obtain⟨w,hu,hs'⟩:=yq (n+1) l v hl hs _ _ hlc
  have hn:l.dropLast.length=n:=by rw[List.length_dropLast];omega
  rw[hn]at hs'
  refine KI _ _ ?_
  have hup:=Dy s a l v h.i h.len
  rw[hu]at hup
  have hix:=S7 h hu hlc
  rw[tS n hu hlc]
  generalize l.dropLast=l' at *
  generalize l.getLast hne=c at *
  simp only[HS,oZ]at hup |-
  simp only[pE,↓zq,zs,ae,gy,hl]at hup hix |-
  refine⟨by omega,fun _=>?_,fun h=>by omega⟩
  refine aj hup ?_
  simp only[↓zq,zs,ae]
  refine aj hix ?_
  simp only[↓zq,zs,ae,mX]
  refine⟨⟨fun x hx=>by simp at hx;rw[hx];rfl,by simp;omega⟩,?_⟩
  have e:dP out++[[.v (.int .i64 (wG c.cF (kids a w) 0))]]=dP (out++[wG c.cF (kids a w) 0]):=by simp[dP]
  rw[e,List.reverse_append,List.reverse_singleton,<-a8]
  exact JD s d a n l' w _ hn (h.up hu) hs' (by simp;omega)
theorem I8(s:Nm)(pa:AV)(p:List Nm)(hp:cm pa p)(f:Nm):an Tryz.prog 10 [.agg [.v (.string (mk s)),pa,.v (.string (mk f))]] [] (df (.cG [.vec 0,.v (.bool (uE s p f).isSome)]) [.vec 1 (dP (QB (uE s p f)))]):=by
 refine P8 _ _ _ hp.1 ?_
 unfold Nq
 refine aj (Pk s pa p hp f) ?_
 simp only[↓zq,zs,ae,lZ]
 unfold uE
 cases q:fV s p f with
 |
  none =>
  simp only[oZ,↓zq,zs,ae,Option.map_none]
  exact⟨fun _=>⟨rfl,rfl⟩,fun h=>(by cases h)⟩
 |
  some r =>
  obtain⟨l,v⟩:=r
  obtain⟨d,hs,_⟩:=na q
  have hlen:=hs.len
  have hcl:=(ga q).2
  have hloop:=JD s d (zA s) l.length l v [] rfl hs hcl (by simp;omega)
  have hpl:=vB l.length (zA s) l v
  simp only[oZ,cz]
  have hn:(pE s (zA s) l v).isNil=false:=rfl
  simp only[hn]
  refine⟨fun h=>(by cases h),fun _=>?_⟩
  refine cA hloop ?_
  simp only[↓zq,zs,ae,Ob.es,aJ,aT]
  refine aV (P1 (mo l.length (zA s) l v).reverse (by rw[List.length_reverse];omega)) ?_
  rw[List.reverse_reverse]
  simp only[↓zq,zs,ae,Ob.es,aJ]
  exact⟨rfl,rfl⟩
end Go.Proofs.Trees
namespace Go.Proofs.Trees
open Go Go.VL Go.RowKit
def u7(l:List Hl):Prop:=(l.map (·.1)).Nodup
theorem qX:u7 []:=List.nodup_nil
theorem Ed(h:Hl):u7 [h]:=by simp[u7]
theorem nv{g:Vl->Vl}(hg:∀x y,g x=g y->x=y){l:List Hl}(h:u7 l):u7 (iH g l):=by
 unfold u7 iH at *
 rw[List.map_map]
 have:((fun x:Hl=>x.1)∘fun h:Hl=>(g h.1,h.2))=g∘(fun x:Hl=>x.1):=rfl
 rw[this,<-List.map_map]
 exact List.Pairwise.map _ (fun a b hab e=>hab (hg _ _ e)) h
theorem ux{l r:List Hl}(hl:u7 l)(hr:u7 r)(h:∀x y,x∈l->y∈r->x.1≠y.1):u7 (l++r):=by
 unfold u7 at *
 rw[List.map_append,List.nodup_append]
 refine⟨hl,hr,?_⟩
 intro a ha b hb e
 obtain⟨x,hx,rfl⟩:=bP.1 ha
 obtain⟨y,hy,rfl⟩:=bP.1 hb
 exact h x y hx hy e
theorem we{f:Hl->List Hl}:∀{l:List Hl},u7 l->(∀h,h∈l->u7 (f h))->(∀h k,h∈l->k∈l->h.1≠k.1->∀x y,x∈f h->y∈f k->x.1≠y.1)->u7 (l.flatMap f)
 |[],_,_,_=>qX
 |
  h::l,hn,hf,hd=>by
  rw[List.flatMap_cons]
  unfold u7 at hn
  rw[bI,List.nodup_cons]at hn
  refine ux (hf h ak) (we (l:=l) hn.2 (fun k hk=>hf k (al _ hk)) fun a b ha hb=>hd a b (al _ ha) (al _ hb)) ?_
  intro x y hx hy
  obtain⟨k,hk,hy⟩:=List.mem_flatMap.1 hy
  refine hd h k ak (al _ hk) (fun e=>hn.1 ?_) x y hx hy
  rw[e];exact bP.2 ⟨k,hk,rfl⟩
theorem jw:∀(n:Nat) (t:Ty) (tg:Tg) (v:Vl),u7 (dC n t tg v)
 |0,t,tg,v=>qX
 |
  n+1,t,tg,v=>by
  unfold dC
  split
  ·exact Ed _
  ·unfold iV
   split
   ·exact nv (fun x y e=>by cases e;rfl) (jw n _ _ _)
   ·exact nv (fun x y e=>by cases e;rfl) (jw n _ _ _)
   ·refine ux (nv (fun x y e=>by cases e;rfl) (jw n _ _ _)) (nv (fun x y e=>by cases e;rfl) (jw n _ _ _)) fun x y hx hy e=>?_
    obtain⟨k,_,rfl⟩:=cY hx
    obtain⟨k',_,rfl⟩:=cY hy
    cases e
   ·refine ux (nv (fun x y e=>by cases e;rfl) (jw n _ _ _)) (we (jw n _ _ _) (fun h hh=>nv (fun x y e=>by cases e;rfl) (jw n _ _ _)) fun h k hh hk hne x y hx hy e=>?_) fun x y hx hy e=>?_
    ·obtain⟨a,_,rfl⟩:=cY hx
     obtain⟨b,_,rfl⟩:=cY hy
     injection e with e
     injection e with e
     injection e with e1 e2
     exact hne e1
    ·obtain⟨k,_,rfl⟩:=cY hx
     obtain⟨h,_,hy⟩:=List.mem_flatMap.1 hy
     obtain⟨b,_,rfl⟩:=cY hy
     cases e
   ·exact qX
end Go.Proofs.Trees
namespace Go.Proofs.Trees
open Go Go.VL Go.RowKit
theorem yV(a:Ty)(v:Vl):u7 (kids a v):=by
 cases v<;>first|exact jw _ _ _ _|exact qX
theorem wY:∀(l:List Hl) (i k:Nat) (q:Hl),u7 l->(∀h,h∈l->h.1.ij 100)->l[k]?=some q->wG q.1.cF l i=((i+k:Nat):Int)
 |[],i,k,q,_,_,h=>by simp at h
 |
  h::l,i,0,q,hn,hb,hk=>by
  simp only[List.getElem?_cons_zero,Option.some.injEq]at hk
  subst hk
  simp[wG]
 |
  h::l,i,k+1,q,hn,hb,hk=>by
  rw[List.getElem?_cons_succ]at hk
  have hm:q∈l:=List.mem_of_getElem? hk
  unfold u7 at hn
  rw[bI,List.nodup_cons]at hn
  have hne:¬h.1.cF=q.1.cF:=fun e=>hn.1 (by
   have:=uj (hb h ak) (hb q (al _ hm)) e
   rw[this];exact bP.2 ⟨q,hm,rfl⟩)
  rw[wG,if_neg hne,wY l (i+1) k q hn.2 (fun x hx=>hb x (al _ hx)) hk]
  omega
theorem Hs{s d:Nm}{a:Ty}{l l':List Vl}{v w:Vl}{k:Int}(h:St s d a l v)(hu:vk a l v k=some (l',w)):mo l'.length a l' w=mo l.length a l v++[k]/\sI a l' w=sI a l v:=by
 obtain⟨h1,h2,h3⟩:=h.dn hu
 obtain⟨q,hq,rfl,rfl,hn,h50,h0,hk⟩:=rH hu
 obtain⟨x,A,B,D,z⟩:=h.z
 obtain⟨t1,t2,t3⟩:=z.Pp h.i.ov hq
 refine⟨?_,(rR t3 h.i.ov.nd).2⟩
 rw[h3,tS l.length h2 rfl,wY (kids a v) 0 k.toNat q (yV a v) (fun x hx=>(jT h.i.ov.ij hx).1) hk]
 congr 2
 omega
end Go.Proofs.Trees
namespace Go.Proofs.Trees
open Go Go.VL Go.RowKit
def AK(x:Nm)(i:Nat)(tg tg':Tg):Prop:=(tg=.bd i/\tg'=.nm x)\/(∃s,s≠x/\tg=.nm s/\tg'=.nm s)\/∃j,j<i/\tg=.bd j/\tg'=.bd j
theorem AK.up{x:Nm}{i:Nat}{tg tg':Tg}(h:AK x i tg tg'):AK x (i+1) tg.up tg'.up:=by
 rcases h with⟨rfl,rfl⟩|⟨s,h,rfl,rfl⟩|⟨j,h,rfl,rfl⟩
 ·exact .inl ⟨rfl,rfl⟩
 ·exact .inr (.inl ⟨s,h,rfl,rfl⟩)
 ·exact .inr (.inr ⟨j+1,by omega,rfl,rfl⟩)
theorem Bb{x:Nm}{i:Nat}{tg tg':Tg}(h:AK x i tg tg')(t:Ty)(hx:bn x t=false):eF (dA (.name x) t i) tg'=eF t tg:=by
 cases t with
 |
  bound k =>
  simp only[dA]
  rcases h with⟨rfl,rfl⟩|⟨s,h,rfl,rfl⟩|⟨j,h,rfl,rfl⟩
  ·split
   ·rename_i e;simp[eF,e]
   ·rename_i e;simp[eF,e]
  ·split
   ·simp[eF,Ne.symm h]
   ·simp[eF]
  ·split
   ·rename_i e;simp only[eF];exact(decide_eq_false (by omega)).symm
   ·simp[eF]
 |
  name n =>
  have hn:¬n=x:=by simpa[bn]using hx
  rcases h with⟨rfl,rfl⟩|⟨s,h,rfl,rfl⟩|⟨j,h,rfl,rfl⟩<;>simp[dA,eF,hn]
 |_=>rcases h with⟨rfl,rfl⟩|⟨s,h,rfl,rfl⟩|⟨j,h,rfl,rfl⟩<;>rfl
theorem fJ(x:Nm):∀(n:Nat) (t:Ty) (i:Nat) (tg tg':Tg) (v:Vl),bn x t=false->AK x i tg tg'->dC n (dA (.name x) t i) tg' v=dC n t tg v
 |0,_,_,_,_,_,_,_=>rfl
 |
  n+1,t,i,tg,tg',v,hx,hr=>by
  rw[dC,dC,Bb hr t hx]
  split
  ·rfl
  ·cases t with
   |
    plus a b =>
    simp only[bn,cf]at hx
    cases v with
    |l w=>exact congrArg (iH .l) (fJ x n a i tg tg' w hx.1 hr)
    |r w=>exact congrArg (iH .r) (fJ x n b i tg tg' w hx.2 hr)
    |_=>rfl
   |
    times a b =>
    simp only[bn,cf]at hx
    cases v with
    |
     p y z =>
     simp only[dA,iV]
     rw[fJ x n a i tg tg' y hx.1 hr,fJ x n b i tg tg' z hx.2 hr]
    |_=>rfl
   |
    rc a =>
    cases v with
    |
     f w =>
     simp only[dA,iV]
     rw[fJ x n a (i+1) tg.up tg'.up w hx hr.up,fJ x n a (i+1) (.bd 0) (.bd 0) w hx (.inr (.inr ⟨0,by omega,rfl,rfl⟩))]
     congr 1
     refine iN fun h hh=>?_
     have:=fJ x n (.rc a) i tg tg' h.2 hx hr
     simp only[dA]at this
     rw[this]
    |_=>rfl
   |
    bound k =>
    simp only[dA]
    split<;>(cases v<;>rfl)
   |_=>rfl
theorem pY{g:Vl->Vl}{l:List Hl}{c v:Vl}(h:(c,v)∈l):(g c,v)∈iH g l:=bP.2 ⟨_,h,rfl⟩
theorem qg(n:Nat):∀(m:Nat) (c:Vl),c.nodes<=m->∀(t:Ty) (s:Nm) (d:Ty) (σ:Nm->Option Ty),Dv t s d->CN σ->jy t 0->vT n c (eW σ d)=true->∀(v:Vl) (k:Nat),(cW t c v).nodes<=k->(c,v)∈dC k t (.nm s) (cW t c v)
 |0,c,h=>by have:=dr c;omega
 |
  m+1,c,hm=>by
  intro t s d σ hd hσ hl hv v k hk
  have no:∀c,vT n c .zero=false:=fun c=>by cases c<;>rfl
  obtain⟨k,rfl⟩:∃j,k=j+1:=⟨k-1,by have:=dr (cW t c v);omega⟩
  cases hd with
  |zero=>rw[show eW σ .zero=.zero from rfl,no]at hv;cases hv
  |one=>rw[show eW σ .zero=.zero from rfl,no]at hv;cases hv
  |bound=>rw[show eW σ .zero=.zero from rfl,no]at hv;cases hv
  |qA=>rw[show eW σ .zero=.zero from rfl,no]at hv;cases hv
  |
   hit =>
   have hc:c=.u:=by
    have hv:vT n c .one=true:=hv
    cases c<;>first|rfl|simp[vT]at hv
   rw[kP,dC,if_pos (by simp[eF]),hc];exact ak
  |
   plus h1 h2 _ =>
   rcases jl hv with⟨w,rfl,hw⟩|⟨w,rfl,hw⟩
   ·simp only[Vl.nodes]at hm
    rename_i a b _ _
    simp only[cW,Vl.nodes]at hk
    have:=qg n m w (by omega) _ s _ σ h1 hσ hl.1 hw v k (by omega)
    exact pY (g:=.l) this
   ·simp only[Vl.nodes]at hm
    simp only[cW,Vl.nodes]at hk
    have:=qg n m w (by omega) _ s _ σ h2 hσ hl.2 hw v k (by omega)
    exact pY (g:=.r) this
  |
   times h1 h2 _ =>
   rcases jl hv with⟨w,rfl,hw⟩|⟨w,rfl,hw⟩
   ·obtain⟨x,y,rfl,hx,hy⟩:=gu hw
    simp only[Vl.nodes]at hm
    simp only[cW,Vl.nodes]at hk
    have:=qg n m x (by omega) _ s _ σ h1 hσ hl.1 hx v k (by omega)
    exact aD _ (pY (g:=fun c=>.l (.p c y)) this)
   ·obtain⟨x,y,rfl,hx,hy⟩:=gu hw
    simp only[Vl.nodes]at hm
    simp only[cW,Vl.nodes]at hk
    have:=qg n m y (by omega) _ s _ σ h2 hσ hl.2 hy v k (by omega)
    exact aB _ (pY (g:=fun c=>.r (.p x c)) this)
  |
   @rc a _ c0 d0 x hx hs h1 h2 hsz =>
   have lo:jy (dA (.name x) a 0) 0:=gK x a hl
   obtain⟨X,e1,e2⟩:=pq (x:=x) hσ hl (h1.lc lo) (h2.lc lo)
   have hv':=hv
   rw[e1]at hv'
   obtain⟨w,rfl,hw⟩:=AL hv'
   rw[e2]at hw
   have hcl:=lU hσ x (jX hσ (.rc a) hl)
   rcases jl hw with⟨y,rfl,hy⟩|⟨y,rfl,hy⟩
   ·simp only[Vl.nodes]at hm
    simp only[cW,Vl.nodes]at hk
    have:=qg n m y (by omega) _ s _ _ h1 hcl lo hy v k (by rw[dK x y.nodes y a 0 v (au _)];omega)
    rw[dK x y.nodes y a 0 v (au _),fJ x k a 0 (.nm s) (.nm s) _ hx (.inr (.inl ⟨s,Ne.symm hs,rfl,rfl⟩))]at this
    exact aD _ (pY (g:=fun c=>.f (.l c)) this)
   ·obtain⟨y,z,rfl,hy,hz⟩:=gu hy
    simp only[Vl.nodes]at hm
    simp only[cW,Vl.nodes]at hk
    have q1:=qg n m y (by omega) _ x _ _ h2 hcl lo hy (cW (.rc a) z v) k (by rw[dK x y.nodes y a 0 _ (au _)];omega)
    rw[dK x y.nodes y a 0 _ (au _),fJ x k a 0 (.bd 0) (.nm x) _ hx (.inl ⟨rfl,rfl⟩)]at q1
    have hsz2:=(fh k a (.bd 0) _ _ q1).1
    have q2:=qg n m z (by omega) (.rc a) s _ σ (.rc x hx hs h1 h2 hsz) hσ hl hz v k (by simp only at hsz2;omega)
    exact aB _ (List.mem_flatMap.2 ⟨_,q1,pY (g:=fun c=>.f (.r (.p y c))) q2⟩)
theorem Hx{n:Nat}{a D:Ty}{x:Nm}(hx:bn x a=false)(hl:jy (.rc a) 0)(h:od a x=some D){c:Vl}(hc:vT n c D=true)(v:Vl):(c,v)∈kids a (.f (cW a c v)):=by
 simp only[od,a6,cQ,eT]at h
 obtain⟨d,hd,_,rfl⟩:=h
 have lo:jy (dA (.name x) a 0) 0:=gK x a hl
 have hcl:=lU sr x hl
 have e1:sub x (.rc a) d=eW (iU Du x (.rc a)) d:=by
  have:=iv Du x (.rc a) d
  rw[iY,iY]at this;exact this
 rw[e1]at hc
 have h1:=qg n c.nodes c (au _) _ x _ _ hd hcl lo hc v (cW a c v).nodes (by rw[dK x c.nodes c a 0 v (au _)];omega)
 rw[dK x c.nodes c a 0 v (au _),fJ x _ a 0 (.bd 0) (.nm x) _ hx (.inl ⟨rfl,rfl⟩)]at h1
 exact h1
end Go.Proofs.Trees
namespace Go.Proofs.Trees
open Go Go.VL Go.RowKit
theorem ZT.hole{s d:Nm}{a:Ty}{x A B:E}{D:Ty}(z:ZT s d a x A B D){c:Nm}{w:Vl}(h:nJ d c 100=some w)(v:Vl):(w,v)∈kids a (.f (cW a w v)):=by
 obtain⟨e,t,m,h1,h2,h3,h4,h5,h6,h7⟩:=pw h
 have hm:m=100:=by omega
 subst hm
 have:=uN h3
 rw[z.bk]at this;cases this
 rw[np h4]at h7
 obtain⟨e2,he2,hw2,hte2,_,_⟩:=nS z.y
 have hlc:jy (.rc a) 0:=hte2 ▸ hw2.qB.1
 exact Hx (uv z.y) hlc z.lp h7 v
end Go.Proofs.Trees
namespace Go.Proofs.Trees
open Go Go.VL Go.RowKit
theorem St.Bm{s d:Nm}{a:Ty}{l l':List Vl}{v w c:Vl}(h:St s d a l v)(hu:qt a l v=some (l',w))(hc:l=l'++[c]):w=.f (cW a c v)/\∃k:Nat,(kids a w)[k]?=some (c,v)/\wG c.cF (kids a w) 0=(k:Int):=by
 obtain⟨x,A,B,D,z⟩:=h.z
 have h':=h.up hu
 obtain⟨_,_,c',hc',hw⟩:=pL h.i hu
 have e:c=c':=by rw[hc]at hc';exact List.singleton_inj.1 (List.append_cancel_left hc')
 subst e
 have hm:(c,v)∈kids a w:=by rw[hw];exact z.hole (h.each c (by rw[hc];simp)) v
 obtain⟨k,hk⟩:=List.getElem?_of_mem hm
 refine⟨hw,k,hk,?_⟩
 have:=wY (kids a w) 0 k _ (yV a w) (fun x hx=>(jT h'.i.ov.ij hx).1) hk
 simpa using this
theorem St.TF{s d:Nm}{a:Ty}{l:List Vl}{v w c:Vl}(h:St s d a l v){k:Hl}(hk:k∈kids a v)(hv:nJ d k.1.cF 100=some k.1):k.1.nodes<=200:=by
 obtain⟨x,A,B,D,z⟩:=h.z
 obtain⟨t1,_,_⟩:=z.Pp h.i.ov hk
 rw[z.Sl (jT h.i.ov.ij hk).1 t1]at hv
 split at hv
 ·assumption
 ·cases hv
theorem St.back{s d:Nm}{a:Ty}{l l':List Vl}{v w c:Vl}(h:St s d a l v)(hu:qt a l v=some (l',w))(hc:l=l'++[c]):vk a l' w (wG c.cF (kids a w) 0)=some (l,v):=by
 obtain⟨_,k,hk,e⟩:=h.Bm hu hc
 have hlen:=h.len
 have hm:=List.mem_of_getElem? hk
 have hn:c.nodes<=200:=(h.up hu).TF (w:=v) (c:=v) hm (h.each c (by rw[hc];simp))
 have hlt:k<(kids a w).length:=(List.getElem?_eq_some_iff.1 hk).1
 have hg:(kids a w).getD k (.u,.u)=(c,v):=by rw[aa,hk];rfl
 rw[e];unfold vk
 rw[if_neg (by rw[hc]at hlen;simp at hlen;omega),if_pos ⟨by omega,by simpa using hlt⟩,bH,hg,if_pos hn,hc]
theorem Ee(a:Ty)(p:List Int)(k:Int)(o:ZO):Ok a (p++[k]) o=(Ok a p o).bind fun r=>vk a r.1 r.2 k:=by unfold Ok;rw[List.foldl_append];rfl
theorem Cr{s d:Nm}{a:Ty}:∀(n:Nat) (l:List Vl) (v w:Vl),l.length=n->St s d a l v->iK n a l v=some w->Ok a (mo n a l v) (some ([],w))=some (l,v)/\St s d a [] w/\(mo n a l v).length=n/\∀k,k∈mo n a l v->0<=k
 |
  0,l,v,w,hl,h,hc=>by
  have:l=[]:=bJ hl
  subst this
  rw[iK]at hc;cases hc
  exact⟨rfl,h,rfl,fun k hk=>by cases hk⟩
 |
  n+1,l,v,w,hl,h,hc=>by
  have hne:l≠[]:=by rintro rfl;simp at hl
  have hlc:l=l.dropLast++[l.getLast hne]:=(List.dropLast_concat_getLast hne).symm
  obtain⟨w1,hu,_⟩:=yq (n+1) l v hl (by rw[hc];rfl) _ _ hlc
  have hn:l.dropLast.length=n:=by rw[List.length_dropLast];omega
  rw[iK,hu]at hc
  obtain⟨g1,g2,g3,g4⟩:=Cr n l.dropLast w1 w hn (h.up hu) hc
  rw[tS n hu hlc]
  obtain⟨_,k,_,ek⟩:=h.Bm hu hlc
  refine⟨?_,g2,by simp[g3],fun x hx=>?_⟩
  ·rw[Ee,g1];exact h.back hu hlc
  ·rcases aO.1 hx with hx|hx
   ·exact g4 x hx
   ·simp only[aQ]at hx;rw[hx,ek];omega
theorem sN{s:Nm}{p:List Nm}{f:Nm}{r:List Vl×Vl}(h:fV s p f=some r):∃d,cL s=some d/\St s d (zA s) r.1 r.2/\p=r.1.map (·.cF)/\f=r.2.cF/\∃w,sI (zA s) r.1 r.2=some w:=by
 obtain⟨h1,h2⟩:=ga (l:=r.1) (v:=r.2) h
 obtain⟨d,hd,hs,hp,hf⟩:=w7 h1
 obtain⟨w,hw⟩:=bU.1 h2
 exact⟨d,hd,hs,hp,hf,w,hw⟩
theorem zD{s:Nm}{p:List Nm}{f:Nm}{pl:List Int}(h:uE s p f=some pl):pl.length=p.length:=by
 unfold uE at h
 cases q:fV s p f with
 |none=>rw[q]at h;cases h
 |
  some r =>
  obtain⟨d,hd,hs,hp,hf,w,hw⟩:=sN q
  rw[q]at h
  have e:=(Cr r.1.length r.1 r.2 w rfl hs hw).2.2.1
  cases h
  rw[hp,ct]
  omega
theorem Lb{s:Nm}{p:List Nm}{f:Nm}{k:Int}{r:List Vl×Vl}(h:mr s p f k=some r):∃r0 pl w,fV s p f=some r0/\p=r0.1.map (·.cF)/\f=r0.2.cF/\FM s (r.1.map (·.cF)) r.2.cF=some r0/\pV s p f=some w/\pV s (r.1.map (·.cF)) r.2.cF=some w/\uE s p f=some pl/\uE s (r.1.map (·.cF)) r.2.cF=some (pl++[k])/\r.1.length=r0.1.length+1/\r0.1.length<50:=by
 obtain⟨r0,h0,h1⟩:=a6.1 h
 obtain⟨d,hd,hs,hp,hf,w,hw⟩:=sN h0
 obtain⟨l,v⟩:=r0
 obtain⟨l',v'⟩:=r
 simp only at h1 hs hp hf hw |-
 have hro:Ph s (some (l,v)):=fun q hq=>by cases hq;rw[<-hp,<-hf];exact h0
 have hv:fV s (l'.map (·.cF)) v'.cF=some (l',v'):=hro.dn k (l',v') h1
 obtain⟨g1,g2,g3⟩:=hs.dn h1
 obtain⟨e1,e2⟩:=Hs hs h1
 have h50:=g1.len
 refine⟨(l,v),mo l.length (zA s) l v,w.cF,h0,hp,hf,?_,?_,?_,?_,?_,g3,by simp only;omega⟩
 ·unfold FM;rw[hv];exact g2
 ·unfold pV;rw[h0];simp[hw]
 ·unfold pV;rw[hv];simp[e2,hw]
 ·unfold uE;rw[h0];rfl
 ·unfold uE;rw[hv];simp[e1]
end Go.Proofs.Trees
namespace Go.Proofs.Trees
open Go Go.VL Go.RowKit
theorem JB(a b:AV)(l:List (List UInt8))(ha:cm a l)(hb:cm b l)(hl:l.length<=2000000):∀(m i:Nat),i+m=l.length->HM [a,b,.v (.int .i64 (i:Int))] [] (gZ 1 [] [])
 |
  0,i,hi=>by
  refine LH _ _ _ ?_
  simp only[Gd,↓zq,zs,ae,ha.len]
  exact⟨ha.1,hb.1,ha.1,fun h=>by omega,fun _=>⟨rfl,rfl,rfl⟩⟩
 |
  m+1,i,hi=>by
  have hlt:i<l.length:=by omega
  refine LH _ _ _ ?_
  simp only[Gd,↓zq,zs,ae,zt,ha.len,hb.len,ha.idx hlt,hb.idx hlt,bH]
  refine⟨ha.1,hb.1,ha.1,fun _=>⟨⟨ha.1,by omega,by omega⟩,by omega,⟨hb.1,by omega,by omega⟩,by omega,fun h=>by simp at h,fun _=>?_⟩,fun h=>by omega⟩
  rw[bx i (by omega)]
  exact JB a b l ha hb hl m (i+1) (by omega)
theorem SB(a b:AV)(l:List (List UInt8))(ha:cm a l)(hb:cm b l)(hl:l.length<=2000000):an Tryz.prog 42 [a,b] [] (bM (.v (.bool true))):=by
 refine QG _ _ ha.1 hb.1 ?_
 simp only[K7,↓zq,zs,ae,ha.len,hb.len]
 refine⟨ha.1,hb.1,fun h=>by simp at h,fun _=>?_⟩
 refine cA (JB a b l ha hb hl l.length 0 (by omega)) ?_
 simp[bM,↓zq,zs,ae]
theorem La(s f:(List UInt8))(x y:AV)(l:List (List UInt8))(hx:cm x l)(hy:cm y l)(hl:l.length<=2000000):an Tryz.prog 16 [.agg [.v (.string (mk s)),x,.v (.string (mk f))],.agg [.v (.string (mk s)),y,.v (.string (mk f))]] [] (bM (.v (.bool true))):=by
 refine Rf _ _ _ _ _ _ hx.1 hy.1 ?_
 simp only[Oi,↓zq,zs,ae,zt,bM]
 refine⟨fun _=>⟨fun _=>?_,fun h=>absurd rfl h⟩,fun h=>absurd rfl h⟩
 refine aj (SB x y l hx hy hl) ?_
 simp only[↓zq,zs,ae,zt]
end Go.Proofs.Trees
namespace Go.Proofs.Trees
open Go Go.VL Go.RowKit
theorem OZ(a b:AV)(l r:List Int)(ha:me a l)(hb:me b r)(he:l.length=r.length)(hl:l.length<=2000000):∀(m i:Nat),i+m=l.length->l.take i=r.take i->G8 [a,b,.v (.int .i64 (i:Int))] [] (nH (if l=r then(1,[],[])else(2,[.v (.bool false)],[])))
 |
  0,i,hi,ht=>by
  refine L7 _ _ _ ?_
  have:l=r:=by rw[List.take_of_length_le (by omega),List.take_of_length_le (by omega)]at ht;exact ht
  simp only[H7,↓zq,zs,ae,ha.len]
  exact⟨ha.1,hb.1,ha.1,fun h=>by omega,fun _=>by simp[nH,this]⟩
 |
  m+1,i,hi,ht=>by
  have hlt:i<l.length:=by omega
  have hlt2:i<r.length:=by omega
  refine L7 _ _ _ ?_
  simp only[H7,↓zq,zs,ae,zt,ha.len,hb.len,ha.idx hlt,hb.idx hlt2,bH]
  refine⟨ha.1,hb.1,ha.1,fun _=>⟨⟨ha.1,by omega,by omega⟩,by omega,⟨hb.1,by omega,by omega⟩,by omega,fun h=>?_,fun h=>?_⟩,fun h=>by omega⟩
  ·have:¬l=r:=fun e=>by subst e;exact h rfl
   simp[nH,this]
  ·rw[bx i (by omega)]
   refine OZ a b l r ha hb he hl m (i+1) (by omega) ?_
   have hg:l[i]=r[i]:=by simpa[aa,hlt,hlt2]using h
   rw[List.take_succ_eq_append_getElem hlt,List.take_succ_eq_append_getElem hlt2,ht,hg]
theorem Sc(a b:AV)(l r:List Int)(ha:me a l)(hb:me b r)(hl:l.length<=2000000):an Tryz.prog 12 [a,b] [] (bM (.v (.bool (decide (l=r))))):=by
 refine PM _ _ ha.1 hb.1 ?_
 simp only[JM,↓zq,zs,ae,ha.len,hb.len]
 refine⟨ha.1,hb.1,fun h=>?_,fun h=>?_⟩
 ·have:¬l=r:=fun e=>by subst e;exact h rfl
  simp[this,bM]
 ·refine fj (OZ a b l r ha hb (by omega) hl l.length 0 (by omega) (by simp)) (fun ys o e=>?_) (fun ys o e=>?_)
  ·split at e
   ·rename_i q;simp[↓zq,zs,ae,bM,q]
   ·cases e
  ·split at e
   ·cases e
   ·rename_i q;cases e;simp[↓zq,zs,ae,bM,q]
end Go.Proofs.Trees
namespace Go.Proofs.Trees
open Go Go.VL Go.RowKit
theorem Pv(a:AV)(ha:xY a):an Tryz.prog 8 [a] [] (bM (.v (.bool true))):=by
 refine P0 _ ha.1 ?_
 simp only[JW,↓zq,zs,ae,zt,bM]
 refine⟨ha.1,fun _=>trivial,fun _=>?_⟩
 refine aP (Qf a ha) Pj.ne ?_
 rintro r o ⟨rfl,s,p,f,k,hp,rfl⟩
 simp only[↓zq,zs,ae,zt,bK]
 have hl:=xb s (o:=mr s p f k) (rL s p f k)
 have EQ:=La (tZ s (mr s p f k)).1 (tZ s (mr s p f k)).2.2 _ _ _ (cm.of (tZ s (mr s p f k)).2.1) (cm.of (tZ s (mr s p f k)).2.1) (by omega)
 refine aV (R0 s _ p (cm.of p) f k) ?_
 simp only[↓zq,zs,ae,zt,aI,Ob.es,aJ]
 refine⟨dJ _,?_⟩
 refine aV (ME s _ p (cm.of p) f k) ?_
 simp only[↓zq,zs,ae,zt,aI,Ob.es,aJ]
 refine⟨dJ _,fun h=>by simp at h,fun _=>?_⟩
 refine aj EQ ?_
 simp only[↓zq,zs,ae]
 cases hr:mr s p f k with
 |
  none =>
  rw[hr]at EQ
  refine⟨fun h=>by simp at h,fun _=>⟨fun _=>⟨fun _=>aj EQ ?_,fun h=>absurd rfl h⟩,fun h=>by simp at h⟩⟩
  simp only[↓zq,zs,ae]
 |
  some r =>
  obtain⟨r0,pl,x,h0,hpp,hff,e1,e2,e3,e4,e5,hlen,hlt⟩:=Lb hr
  have hpl:pl.length=p.length:=by have:=zD e4;omega
  have W1:=Px s (.sl (bE (r.1.map (·.cF)))) _ (cm.of _) r.2.cF
  have W2:=N9 s (.sl (bE p)) p (cm.of p) f
  have W3:=N9 s (.sl (bE (r.1.map (·.cF)))) _ (cm.of _) r.2.cF
  have W4:=I8 s (.sl (bE p)) p (cm.of p) f
  have W5:=I8 s (.sl (bE (r.1.map (·.cF)))) _ (cm.of _) r.2.cF
  rw[e1]at W1
  rw[e2]at W2
  rw[e3]at W3
  rw[e4]at W4
  rw[e5]at W5
  refine⟨fun h=>by simp at h,fun _=>⟨fun h=>by simp at h,fun _=>aV W1 ?_⟩⟩
  simp only[↓zq,zs,ae,zt,aI,Ob.es,aJ,aW]
  refine⟨dJ _,aj W2 ?_⟩
  simp only[oj,↓zq,zs,ae,zt,aI,Ob.es,aJ,aW]
  refine aj W3 ?_
  simp only[oj,↓zq,zs,ae,zt,aI,Ob.es,aJ,aW]
  refine aV W4 ?_
  simp only[oj,↓zq,zs,ae,zt,aI,Ob.es,aJ,aW,QB,cx]
  refine⟨qx _,aV W5 ?_⟩
  simp only[oj,↓zq,zs,ae,zt,aI,Ob.es,aJ,aW,QB,cx]
  refine⟨qx _,?_⟩
  refine⟨fun _=>⟨fun _=>⟨fun _=>⟨fun _=>⟨fun _=>?_,fun h=>by simp at h⟩,fun h=>by simp at h⟩,fun h=>by simp at h⟩,fun h=>by simp at h⟩,fun h=>by simp at h⟩
  have hlen1:(dP pl).length=pl.length:=by simp[dP]
  have hlen2:(dP (pl++[k])).length=pl.length+1:=by simp[dP]
  have hget:(dP (pl++[k])).getD pl.length []=[.v (.int .i64 k)]:=by simp[dP,aa]
  have htake:List.take pl.length (dP (pl++[k]))=dP pl:=by
   simp only[dP,List.map_append]
   rw[List.take_append_of_le_length (by simp),List.take_of_length_le (by simp)]
  have hplp:pl.length<=52:=by omega
  rw[hpp,hff]
  refine aj (La s r0.2.cF _ _ (r0.1.map (·.cF)) (cm.of _) (cm.of _) (by rw[hpp]at hp;omega)) ?_
  simp only[↓zq,zs,ae,zt,hlen1,hlen2,hget,htake,bx pl.length (by omega)]
  refine⟨fun _=>⟨fun _=>⟨fun _=>⟨by omega,?_⟩,fun h=>absurd rfl h⟩,fun h=>absurd rfl h⟩,fun h=>by simp at h⟩
  refine aj (Sc _ _ pl pl (.of _) (.of _) (by omega)) ?_
  simp[↓zq,zs,ae]
  omega
end Go.Proofs.Trees
