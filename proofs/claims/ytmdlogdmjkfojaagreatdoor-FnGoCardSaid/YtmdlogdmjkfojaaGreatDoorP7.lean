/-
  Part of a proof: Go functions read by values, trees of functions, their contracts.
-/
import Derived.Test.YtmdlogdmjkfojaaGreatDoorP6
set_option linter.unusedVariables false
set_option linter.unusedSimpArgs false
open And renaming intro→aI
open Int renaming tmod→dG,toNat_natCast→bx
open List renaming append_assoc→aW,drop_eq_getElem_cons→aP,drop_zero→aZ,eq_nil_of_length_eq_zero→bR,flatMap_cons→cQ,getD_eq_getElem?_getD→aa,getElem_mem→bB,headD_cons→bf,length_append→an,length_cons→au,length_map→cq,length_nil→aG,map_cons→bC,mem_append→aQ,mem_cons→aH,mem_cons_of_mem→al,mem_cons_self→ak,mem_flatMap→dw,mem_map→bK,nil_append→aR
open Nat renaming le_add_right→dc,le_refl→aq,mul_le_mul_right→a8,zero_add→aY,zero_le→dF
open Option renaming bind_some→aV,getD_some→cv,isSome_iff_exists→bF,isSome_none→bn,isSome_some→a6,map_some→cg
open UInt8 renaming ofNat→bh
namespace Go.Proofs.Trees
open Go Go.VL Go.RowKit
theorem D3{a:Ty}:∀(n:Nat) (l:List Vl) (v:Vl),l.length=n->(jw n a l v).isSome=true->∀c l',l=l'++[c]->∃w,rM a l v=some (l',w)/\(jw l'.length a l' w).isSome=true
 |0,l,v,hl,_,c,l',h=>by rw[h]at hl;simp at hl
 |
  n+1,l,v,hl,hs,c,l',h=>by
  rw[jw]at hs
  cases q:rM a l v with
  |none=>rw[q]at hs;cases hs
  |
   some r =>
   obtain⟨l1,w⟩:=r
   rw[q]at hs
   have h2:l1=l':=by
    unfold rM at q
    rw[h,List.getLast?_concat]at q
    simp only at q
    split at q
    ·cases q;simp
    ·cases q
   subst h2
   have hn:l1.length=n:=by rw[h]at hl;simpa using hl
   exact⟨w,rfl,by rw[hn];exact hs⟩
theorem vQ{d:Nm}:∀{l:List Vl},(∀c,c∈l->nA d c.cE 100=some c)->eC d (l.map (·.cE))=some l
 |[],_=>rfl
 |
  c::l,h=>by
  rw[bC,eC,h c ak,vQ fun x hx=>h x (al _ hx)]
theorem EW{s d:Nm}{l:List Vl}{v:Vl}(hs:St s d (zA s) l v)(hd:cK s=some d):iH s (l.map (·.cE)) v.cE=if(qF (zA s) l v).isSome=true then some (l,v)else none:=by
 obtain⟨x,A,B,D,z⟩:=hs.z
 have hlen:=hs.len
 have e1:nA s v.cE 100=some v:=by rw[z.cE hs.i.p5.gp hs.i.p5.ty,if_pos hs.i.p5.nd]
 unfold iH
 rw[vf,hd]
 simp only[aV,z.l,e1,vQ hs.each,cq,if_pos hlen,cg]
theorem vX(l:List Vl)(c:Vl):((l++[c]).getLast?).getD .u=c:=by rw[List.getLast?_concat];rfl
theorem yp{a:Ty}{l l':List Vl}{v w c:Vl}(n:Nat)(hu:rM a l v=some (l',w))(hc:l=l'++[c]):nD (n+1) a l v=nD n a l' w++[yr c.cE (kids a w) 0]:=by
 rw[nD,hu];simp only[hc,vX]
noncomputable def Cj (s:Nm) (p:List Nm) (f:Nm):Option (List Int):=(iH s p f).map fun r=>nD r.1.length (zA s) r.1 r.2
def T2(o:Option (List Int)):List Int:=o.getD []
theorem KS(s d:Nm)(a:Ty):∀(n:Nat) (l:List Vl) (v:Vl) (out:List Int),l.length=n->St s d a l v->(jw n a l v).isSome=true->out.length+n<=1000 ->
 I6 [pJ s a l v] [.vec 1 (eD out)] (gj 1 [] [.vec 1 (eD (out++(nD n a l v).reverse))])
 |
  0,l,v,out,hl,h,_,ho=>by
  have:l=[]:=bR hl
  subst this
  refine Km _ _ ?_
  simp only[IL,pJ,↓zq,zs,ac,gD,aG]
  refine⟨by omega,fun h=>by omega,fun _=>by simp[gj,nD]⟩
 |
  n+1,l,v,out,hl,h,hs,ho=>by
  have hne:l≠[]:=by rintro rfl;simp at hl
  have hlc:l=l.dropLast++[l.getLast hne]:=(List.dropLast_concat_getLast hne).symm
  obtain⟨w,hu,hs'⟩:=D3 (n+1) l v hl hs _ _ hlc
  have hn:l.dropLast.length=n:=by rw[List.length_dropLast];omega
  rw[hn]at hs'
  refine Km _ _ ?_
  have hup:=G7 s a l v h.i h.len
  rw[hu]at hup
  have hix:=Sx h hu hlc
  rw[yp n hu hlc]
  generalize l.dropLast=l' at *
  generalize l.getLast hne=c at *
  simp only[IL,oZ]at hup |-
  simp only[pJ,↓zq,zs,ac,gD,hl]at hup hix |-
  refine⟨by omega,fun _=>?_,fun h=>by omega⟩
  refine ai hup ?_
  simp only[↓zq,zs,ac]
  refine ai hix ?_
  simp only[↓zq,zs,ac,np]
  refine⟨⟨fun x hx=>by simp at hx;rw[hx];rfl,by simp;omega⟩,?_⟩
  have e:eD out++[[.v (.int .i64 (yr c.cE (kids a w) 0))]]=eD (out++[yr c.cE (kids a w) 0]):=by simp[eD]
  rw[e,List.reverse_append,List.reverse_singleton,<-aW]
  exact KS s d a n l' w _ hn (h.up hu) hs' (by simp;omega)
theorem SY(s:Nm)(pa:AV)(p:List Nm)(hp:cB pa p)(f:Nm):ap Tryz.prog 11 [.agg [.v (.string (mk s)),pa,.v (.string (mk f))]] [] (dj (.cA [.vec 0,.v (.bool (Cj s p f).isSome)]) [.vec 1 (eD (T2 (Cj s p f)))]):=by
 refine Qe _ _ _ hp.1 ?_
 unfold JB
 refine ai (LC s pa p hp f) ?_
 simp only[↓zq,zs,ac,kF]
 unfold Cj
 cases q:iH s p f with
 |
  none =>
  simp only[oZ,↓zq,zs,ac,Option.map_none]
  exact⟨fun _=>⟨rfl,rfl⟩,fun h=>(by cases h)⟩
 |
  some r =>
  obtain⟨l,v⟩:=r
  obtain⟨d,hs,_⟩:=zr q
  have hlen:=hs.len
  have hcl:=(gZ q).2
  have hloop:=KS s d (zA s) l.length l v [] rfl hs hcl (by simp;omega)
  have hpl:=vN l.length (zA s) l v
  simp only[oZ,cg]
  have hn:(pJ s (zA s) l v).isNil=false:=rfl
  simp only[hn]
  refine⟨fun h=>(by cases h),fun _=>?_⟩
  refine co hloop ?_
  simp only[↓zq,zs,ac,Ob.es,bf,aR]
  refine ba (QG (nD l.length (zA s) l v).reverse (by rw[List.length_reverse];omega)) ?_
  rw[List.reverse_reverse]
  simp only[↓zq,zs,ac,Ob.es,bf]
  exact⟨rfl,rfl⟩
end Go.Proofs.Trees
namespace Go.Proofs.Trees
open Go Go.VL Go.RowKit
def vx(l:List Hl):Prop:=(l.map (·.1)).Nodup
theorem qX:vx []:=List.nodup_nil
theorem Eg(h:Hl):vx [h]:=by simp[vx]
theorem ng{g:Vl->Vl}(hg:∀x y,g x=g y->x=y){l:List Hl}(h:vx l):vx (jd g l):=by
 unfold vx jd at *
 rw[List.map_map]
 have:((fun x:Hl=>x.1)∘fun h:Hl=>(g h.1,h.2))=g∘(fun x:Hl=>x.1):=rfl
 rw[this,<-List.map_map]
 exact List.Pairwise.map _ (fun a b hab e=>hab (hg _ _ e)) h
theorem uZ{l r:List Hl}(hl:vx l)(hr:vx r)(h:∀x y,x∈l->y∈r->x.1≠y.1):vx (l++r):=by
 unfold vx at *
 rw[List.map_append,List.nodup_append]
 refine⟨hl,hr,?_⟩
 intro a ha b hb e
 obtain⟨x,hx,rfl⟩:=bK.1 ha
 obtain⟨y,hy,rfl⟩:=bK.1 hb
 exact h x y hx hy e
theorem wi{f:Hl->List Hl}:∀{l:List Hl},vx l->(∀h,h∈l->vx (f h))->(∀h k,h∈l->k∈l->h.1≠k.1->∀x y,x∈f h->y∈f k->x.1≠y.1)->vx (l.flatMap f)
 |[],_,_,_=>qX
 |
  h::l,hn,hf,hd=>by
  rw[cQ]
  unfold vx at hn
  rw[bC,List.nodup_cons]at hn
  refine uZ (hf h ak) (wi (l:=l) hn.2 (fun k hk=>hf k (al _ hk)) fun a b ha hb=>hd a b (al _ ha) (al _ hb)) ?_
  intro x y hx hy
  obtain⟨k,hk,hy⟩:=dw.1 hy
  refine hd h k ak (al _ hk) (fun e=>hn.1 ?_) x y hx hy
  rw[e];exact bK.2 ⟨k,hk,rfl⟩
theorem jh:∀(n:Nat) (t:Ty) (tg:Tg) (v:Vl),vx (ek n t tg v)
 |0,t,tg,v=>qX
 |
  n+1,t,tg,v=>by
  unfold ek
  split
  ·exact Eg _
  ·unfold jX
   split
   ·exact ng (fun x y e=>by cases e;rfl) (jh n _ _ _)
   ·exact ng (fun x y e=>by cases e;rfl) (jh n _ _ _)
   ·refine uZ (ng (fun x y e=>by cases e;rfl) (jh n _ _ _)) (ng (fun x y e=>by cases e;rfl) (jh n _ _ _)) fun x y hx hy e=>?_
    obtain⟨k,_,rfl⟩:=cZ hx
    obtain⟨k',_,rfl⟩:=cZ hy
    cases e
   ·refine uZ (ng (fun x y e=>by cases e;rfl) (jh n _ _ _)) (wi (jh n _ _ _) (fun h hh=>ng (fun x y e=>by cases e;rfl) (jh n _ _ _)) fun h k hh hk hne x y hx hy e=>?_) fun x y hx hy e=>?_
    ·obtain⟨a,_,rfl⟩:=cZ hx
     obtain⟨b,_,rfl⟩:=cZ hy
     injection e with e
     injection e with e
     injection e with e1 e2
     exact hne e1
    ·obtain⟨k,_,rfl⟩:=cZ hx
     obtain⟨h,_,hy⟩:=dw.1 hy
     obtain⟨b,_,rfl⟩:=cZ hy
     cases e
   ·exact qX
end Go.Proofs.Trees
namespace Go.Proofs.Trees
open Go Go.VL Go.RowKit
theorem Dq(a:Ty)(v:Vl):vx (kids a v):=by
 cases v<;>first|exact jh _ _ _ _|exact qX
theorem Bi:∀(l:List Hl) (i k:Nat) (q:Hl),vx l->(∀h,h∈l->h.1.gp 100)->l[k]?=some q->yr q.1.cE l i=((i+k:Nat):Int)
 |[],i,k,q,_,_,h=>by simp at h
 |
  h::l,i,0,q,hn,hb,hk=>by
  simp only[List.getElem?_cons_zero,Option.some.injEq]at hk
  subst hk
  simp[yr]
 |
  h::l,i,k+1,q,hn,hb,hk=>by
  rw[List.getElem?_cons_succ]at hk
  have hm:q∈l:=List.mem_of_getElem? hk
  unfold vx at hn
  rw[bC,List.nodup_cons]at hn
  have hne:¬h.1.cE=q.1.cE:=fun e=>hn.1 (by
   have:=uH (hb h ak) (hb q (al _ hm)) e
   rw[this];exact bK.2 ⟨q,hm,rfl⟩)
  rw[yr,if_neg hne,Bi l (i+1) k q hn.2 (fun x hx=>hb x (al _ hx)) hk]
  omega
theorem Io{s d:Nm}{a:Ty}{l l':List Vl}{v w:Vl}{k:Int}(h:St s d a l v)(hu:tJ a l v k=some (l',w)):nD l'.length a l' w=nD l.length a l v++[k]/\qF a l' w=qF a l v:=by
 obtain⟨h1,h2,h3⟩:=h.dn hu
 obtain⟨q,hq,rfl,rfl,hn,h50,h0,hk⟩:=oA hu
 obtain⟨x,A,B,D,z⟩:=h.z
 obtain⟨t1,t2,t3⟩:=z.S7 h.i.p5 hq
 refine⟨?_,(rY t3 h.i.p5.nd).2⟩
 rw[h3,yp l.length h2 rfl,Bi (kids a v) 0 k.toNat q (Dq a v) (fun x hx=>(jV h.i.p5.gp hx).1) hk]
 congr 2
 omega
theorem C9{s d:Nm}{a:Ty}:∀(pl:List Int) (l l':List Vl) (v w:Vl),St s d a l v->zQ a pl (some (l,v))=some (l',w)->St s d a l' w/\nD l'.length a l' w=nD l.length a l v++pl/\qF a l' w=qF a l v
 |[],l,l',v,w,h,hg=>by cases hg;exact⟨h,by simp,rfl⟩
 |
  k::pl,l,l',v,w,h,hg=>by
  rw[ph,aV]at hg
  cases q:tJ a l v k with
  |none=>simp only[q,kY]at hg;cases hg
  |
   some r =>
   obtain⟨l1,v1⟩:=r
   simp only[q]at hg
   obtain⟨e1,e2⟩:=Io h q
   obtain⟨g1,g2,g3⟩:=C9 pl l1 l' v1 w (h.dn q).1 hg
   exact⟨g1,by rw[g2,e1,aW];rfl,by rw[g3,e2]⟩
theorem Bh{s f:Nm}{pl:List Int}{r:List Vl×Vl}(h:Cu s f pl=some r):Cj s (r.1.map (·.cE)) r.2.cE=some pl/\uE s (r.1.map (·.cE)) r.2.cE=some f:=by
 obtain⟨l',w⟩:=r
 unfold Cu at h
 cases q:sO s [] f with
 |none=>rw[q,kY]at h;cases h
 |
  some r0 =>
  obtain⟨l0,v0⟩:=r0
  obtain⟨d,hd,hs,hp,hf⟩:=pM q
  have Fg:l0=[]:=List.map_eq_nil_iff.1 hp.symm
  subst Fg
  rw[q]at h
  obtain⟨g1,g2,g3⟩:=C9 pl [] l' v0 w hs h
  have hc:qF (zA s) l' w=some v0:=by rw[g3];rfl
  have hv:iH s (l'.map (·.cE)) w.cE=some (l',w):=by rw[EW g1 hd,hc];rfl
  refine⟨?_,?_⟩
  ·unfold Cj;rw[hv];simpa[nD]using g2
  ·unfold uE;rw[hv];simp only[aV,hc,cg,hf]
end Go.Proofs.Trees
namespace Go.Proofs.Trees
open Go Go.VL Go.RowKit
theorem wL{s v:Nm}{l:List Pt}(h:fK s v=some l):∃w l',mw s v=some w/\l=(w,[])::l':=by
 unfold fK at h
 split at h
 ·rename_i a w h1 h2
  have hp:∃l',parts a w=(w,[])::l':=by
   unfold parts
   obtain⟨n,hn⟩:∃n,w.nodes=n+1:=⟨w.nodes-1,by have:=da w;omega⟩
   rw[hn,iP]
   exact⟨_,rfl⟩
  obtain⟨l',hl'⟩:=hp
  split at h
  ·cases h;exact⟨w,l',h2,hl'⟩
  ·cases h
 ·cases h
end Go.Proofs.Trees
namespace Go.Proofs.Trees
open Go Go.VL Go.RowKit
def mM(l:List Pt):List (List AV):=l.map fun p=>[.sl (fN p.2),.v (.string (mk p.1.cE)),.v (.string (mk []))]
theorem kO(l:List Pt):(mM l).length=l.length:=by simp[mM]
theorem BW{l:List Pt}{i:Nat}(hi:i<l.length):(mM l).getD i []=[.sl (fN (l[i]).2),.v (.string (mk (l[i]).1.cE)),.v (.string (mk []))]:=by simp[mM,aa,hi]
theorem B5(out:List Pt)(p:Pt):mM out++[[.sl (fN p.2),.v (.string (mk p.1.cE)),.v (.string (mk []))]]=mM (out++[p]):=by simp[mM]
theorem Sc(a b c:AV):cr 3 [[a,b,c]]:=fun x hx=>by simp at hx;rw[hx];rfl
def Ff(x A B:E)(a:Ty)(n:Nat)(q:Pt):Prop:=∀out:List Pt,out.length+q.1.nodes<=600->ap Tryz.prog 66 [.agg [.v (.string (mk [])),(E.list [x,A,B]).sp],.agg [.v (.string (mk q.1.cG.at)),q.1.cG.sp],.sl (fN q.2),.vec 0] [.vec 3 (mM out)] (dj (.vec 1) [.dead,.vec 3 (mM (mq n a out q))])
abbrev zg(n:Nat)(a:Ty):List Pt->Pt->List Pt:=fun o q=>if o.length<=100 then mq n a o q else o
theorem sa(n:Nat)(a:Ty):∀(l:List Pt) (o:List Pt),100<o.length->l.foldl (zg n a) o=o
 |[],_,_=>rfl
 |q::l,o,h=>by rw[List.foldl_cons,zg,if_neg (by omega)];exact sa n a l o h
theorem Jx(x A B:E)(a:Ty)(n:Nat)(pl:List Nat)(hpl:pl.length<=1000)(l:List Hl)(hl:l.length<=1000)(ih:∀q,q∈lS pl l 0->Ff x A B a n q)(hn:∀q,q∈lS pl l 0->q.1.nodes<=n):∀(k i:Nat) (out:List Pt),i+k=l.length->out.length+iY (l.drop i)<=600->(∀q,q∈lS pl (l.drop i) i->q∈lS pl l 0) ->
 HA [.sl (fN pl),.sl (lY l),.v (.int .i64 (i:Int))] [.cells [.v (.string (mk [])),(E.list [x,A,B]).sp],.vec 3 (mM out)] (gj 1 [] [.vec 3 (mM ((lS pl (l.drop i) i).foldl (zg n a) out))])
 |
  0,i,out,hi,ho,hm=>by
  refine Pc _ _ _ _ _ _ ?_
  have:i=l.length:=by omega
  subst this
  simp only[I3,↓zq,zs,ac,eJ,aX]
  exact⟨fun h=>by omega,fun _=>by simp[gj,lS]⟩
 |
  k+1,i,out,hi,ho,hm=>by
  have hlt:i<l.length:=by omega
  have hd:=AP pl l hlt
  rw[hd]at hm |-
  have hq:=hm _ ak
  have hsum:iY (l.drop i)=(l[i]).2.nodes+iY (l.drop (i+1)):=by rw[aP hlt];rfl
  have hw:=(sN n a ((l[i]).2,pl++[i]) (hn _ hq) out).2.2.2
  have hp:=n7 n a ((l[i]).2,pl++[i])
  simp only at hw hp
  refine Pc _ _ _ _ _ _ ?_
  simp only[I3,↓zq,zs,ac,zt,eJ,gf hlt,aK,aX,aR,rV,xk,kO]
  refine⟨fun _=>⟨fun hle=>?_,fun hgt=>?_⟩,fun h=>by omega⟩
  ·repeat refine⟨by omega,?_⟩
   refine⟨⟨wQ _,by omega⟩,⟨yK _,by omega⟩,?_⟩
   have hcall:=ih _ hq out (by show out.length+(l[i]).2.nodes<=600;omega)
   refine ba hcall ?_
   simp only[↓zq,zs,ac]
   rw[bp i (by omega),List.foldl_cons,show zg n a out ((l[i]).2,pl++[i])=mq n a out ((l[i]).2,pl++[i]) from if_pos (by omega)]
   exact Jx x A B a n pl hpl l hl ih hn k (i+1) _ (by omega) (by omega) (fun q hq=>hm q (al _ hq))
  ·rw[sa n a _ _ (by omega)]
   simp[gj]
theorem L8(c:Nat)(x A B:E)(a:Ty)(hA:Ask B [.mk A.at (.list [x,A,B]) []] a)(hx:x.at=[114,101,99]):∀(n:Nat) (q:Pt),q.1.nodes<=n->n<=200->q.2.length+n<=200->q.1.gp 100->eG c q.1 (.list [x,A,B],[])=true->Ff x A B a n q
 |0,q,h,_,_,_,_=>by have:=da q.1;omega
 |
  n+1,q,h,hn,hpl,hb,hv=>by
  intro out ho
  have hk:=kS a q.1
  have hkl:=kW (kids a q.1)
  have htx:=gH q.1 hb
  obtain⟨w,hqw,hw⟩:=pn .nil hx hv
  have hP:=P3.of x A B
  have hW:=P2.of (.atom [102]) w.cG
  have hqe:q.1.cG=.list [.atom [102],w.cG]:=by rw[hqw];rfl
  have htext:=BX q.1.cG (l8 _) (by show q.1.cE.length<=900000;omega)
  rw[cX]at htext
  refine QJ _ _ _ _ _ _ ((aX _).mpr trivial) ((aX _).mpr trivial) ((bT _).mpr trivial) ?_
  unfold Ok
  refine ai htext ?_
  have ol:(out++[q]).length=out.length+1:=by simp
  rw[hqe]
  simp only[↓zq,zs,ac,zt,kO,toNat_one,bg,hP.1,hP.2.1,hP.2.2.1,hP.2.2.2,hW.1,hW.2.1,hW.2.2,aK]
  refine⟨⟨Sc _ _ _,by omega⟩,?_⟩
  repeat refine⟨by omega,?_⟩
  refine ai (PH c q.1 x A B a hA hx w hqw hv (by omega)) ?_
  simp only[↓zq,zs,ac]
  have hl:=Jx x A B a n q.2 (by omega) (kids a q.1) (by omega) (fun r hr=>by
   obtain⟨k,h1,h2⟩:=mA hr
   have:=nw h1
   have hlen:r.2.length=q.2.length+1:=by
    have:∀(l:List Hl) (i:Nat),r∈lS q.2 l i->r.2.length=q.2.length+1:=by
     intro l
     induction l with
     |nil=>intro i hh;cases hh
     |
      cons k l ih =>
      intro i hh
      rcases aH.1 hh with rfl|hh
      ·simp
      ·exact ih _ hh
    exact this _ _ hr
   exact L8 c x A B a hA hx n r (by rw[h2];omega) (by omega) (by omega) (by rw[h2];exact(jV hb h1).2) (by rw[h2];exact Bx hA .nil hx hv h1)) (fun r hr=>by
   obtain⟨k,h1,h2⟩:=mA hr
   have:=nw h1
   rw[h2];omega) (kids a q.1).length 0 (out++[q]) (by omega) (by rw[AO,ol];omega) (fun r hr=>hr)
  rw[aZ]at hl
  rw[show mM out++[[.sl (fN q.2),.v (.string (mk (eU (.list [.atom [102],w.cG])))),.v (.string (mk []))]]=mM (out++[q]) by rw[<-hqe];exact B5 out q]
  refine co hl ?_
  rw[mq];simp[↓zq,zs,ac,dj]
theorem Ra(s v:List UInt8):ap Tryz.prog 41 [.v (.string (mk s)),.v (.string (mk v))] [] (LZ mM s v):=by
 refine S8 _ _ ?_
 unfold KO
 refine aN (DA s) (jv.ne _ _ (fun h=>h)) ?_
 rintro r o ⟨c,d,hd,rfl,hh⟩
 have hhas:bz [.str,.sl] [.v (.string (mk c)),d] 0:=by simp[bz,dM,hd]
 simp only[↓zq,zs,ac,zt]
 refine⟨hhas,?_⟩
 refine aN (BS v) (jv.ne _ _ (fun h=>by cases hq:rL v<;>simp[hq]at h |-)) ?_
 rintro r o ⟨c',d',hd',rfl,hh'⟩
 have hhas':bz [.str,.sl] [.v (.string (mk c')),d'] 0:=by simp[bz,dM,hd']
 simp only[↓zq,zs,ac,zt]
 have none1:fK s v=none->LZ mM s v (.cA [.sl [],.v (.bool false)]) []:=fun hn=>⟨rfl,.sl [],(bT _).mpr trivial,by rw[hn];rfl,fun l hl=>by rw[hn]at hl;cases hl⟩
 refine⟨hhas',fun h=>none1 ?_,fun h=>?_⟩
 ·rw[sj]at h
  have:ju s=none:=by cases hq:ju s<;>simp[hq]at h |-
  unfold fK;rw[this]
 ·refine ai (xe s v 100) ?_
  simp only[↓zq,zs,ac]
  refine⟨fun h2=>none1 ?_,fun h2=>?_⟩
  ·have:nA s v 100=none:=by cases hq:nA s v 100<;>simp[hq]at h2 |-
   have:mw s v=none:=by unfold mw;rw[this];cases ju s<;>rfl
   unfold fK;rw[this];cases ju s<;>rfl
  ·obtain⟨w,hw⟩:=bF.1 h2
   rw[sj]at h
   obtain⟨a0,ha0⟩:=bF.1 h
   have hlv:mw s v=some w:=by unfold mw;rw[ha0];exact hw
   obtain⟨a,x,A,B,L⟩:=jJ hlv
   obtain⟨e,he,hce⟩:=hh (by rw[L.le];rfl)
   rw[L.le]at he;cases he
   obtain⟨e2,he2,hce2⟩:=hh' (by rw[L.v];rfl)
   rw[L.v]at he2;cases he2
   rw[hce,hce2,cX,cX]
   have hnd:=L.nodes
   obtain⟨p1,p2,p3⟩:=xl a w
   have hs:=L8 100 x A B a L.body L.hx w.nodes (w,[]) (aq _) hnd (by simp;omega) L.gp L.eG [] (by simp;omega)
   refine ba hs ?_
   simp only[↓zq,zs,ac,kO]
   refine⟨rfl,.sl (mM (mq w.nodes a [] (w,[]))),(bT _).mpr trivial,?_,fun l hl=>?_⟩
   ·congr 4
    have:fK s v=if(parts a w).length<=100 then some (parts a w)else none:=by unfold fK;rw[L.l,hlv]
    rw[this]
    by_cases hc:(parts a w).length<=100
    ·rw[if_pos hc,p1 hc];simp;omega
    ·rw[if_neg hc];have:=p2 (by omega);simp;omega
   ·unfold fK at hl
    rw[L.l,hlv]at hl
    simp only at hl
    split at hl
    ·rename_i hc
     cases hl
     rw[p1 hc]
    ·cases hl
end Go.Proofs.Trees
namespace Go.Proofs.Trees
open Go Go.VL Go.RowKit
def qk(l:List UInt8):List (List AV):=l.map fun(x:UInt8)=>[.v (.int .u8 (x.toNat:Int))]
structure s7(b:AV)(l:List UInt8):Prop where
 has:LK.sl.has b
 el:b.aJ=qk l
 len:l.length<=2000
theorem s7.ln{b:AV}{l:List UInt8}(h:s7 b l):b.aJ.length=l.length:=by rw[h.el];simp[qk]
theorem s7.get{b:AV}{l:List UInt8}(h:s7 b l){i:Nat}(hi:i<l.length):b.aJ.getD i []=[.v (.int .u8 ((l[i]).toNat:Int))]:=by rw[h.el];simp[qk,aa,hi]
def eS(b:AV)(p c:Nat)(X:AV->Prop):AV->List Ob->Prop:=fun r o=>∃q:Nat,p<=q/\q<=p+c/\X r/\o=[.cells [b,.v (.int .i64 (q:Int))]]
theorem eS.ne{b:AV}{p c:Nat}{X:AV->Prop}{r:AV}(h:X r):∃r o,eS b p c X r o:=⟨r,_,p,aq _,dc _ _,h,rfl⟩
theorem ET{a b:Int}(ha:0<=a)(hb:0<=b)(ha':a<9223372036854775808)(hb':b<9223372036854775808):∃W:Nat,Bb .i64 a b=(W:Int):=by
 obtain⟨x,rfl⟩:∃x:Nat,a=(x:Int):=⟨a.toNat,by omega⟩
 obtain⟨y,rfl⟩:∃y:Nat,b=(y:Int):=⟨b.toNat,by omega⟩
 have e1:(BitVec.ofInt 64 (x:Int)).toNat=x:=by simp;omega
 have e2:(BitVec.ofInt 64 (y:Int)).toNat=y:=by simp;omega
 have hlt:x ^^^ y<2 ^ 63:=Nat.xor_lt_two_pow (by omega) (by omega)
 refine⟨x ^^^ y,?_⟩
 unfold Bb
 have e3:(BitVec.ofInt (IntKind.bits .i64) (x:Int) ^^^ BitVec.ofInt (IntKind.bits .i64) (y:Int)).toNat=x ^^^ y:=by
  show (BitVec.ofInt 64 (x:Int) ^^^ BitVec.ofInt 64 (y:Int)).toNat=_
  rw[BitVec.toNat_xor,e1,e2]
 rw[e3,VL.wrap64]<;>omega
theorem zk(a b:Nat):Int.tdiv (a:Int) (b:Int)=((a/b:Nat):Int):=(Int.ofNat_tdiv a b).symm
theorem ri(a b:Nat):dG (a:Int) (b:Int)=((a%b:Nat):Int):=(Int.ofNat_tmod a b).symm
theorem wb(n:Nat)(h:n<9223372036854775808):IntKind.wrap .i64 (n:Int)=(n:Int):=VL.wrap64 _ (by omega) (by omega)
def zd(n:Nat):AV->Prop:=fun r=>∃k:Nat,r=.v (.int .i64 (k:Int))/\(1<=n->k<n)/\k<=n
abbrev qE:Nat:=1000000000000000
theorem xR(b:AV)(l:List UInt8)(hb:s7 b l)(p n:Nat)(hp:p<2*qE)(hn:n<qE):ap Tryz.prog 29 [.ref 0 0,.v (.int .i64 (n:Int))] [.cells [b,.v (.int .i64 (p:Int))]] (eS b p 1 (zd n)):=by
 refine SR _ _ _ hb.has ?_
 have e1:IntKind.wrap .i64 ((p:Int)+1)=((p+1:Nat):Int):=by rw[VL.wrap64]<;>simp[qE]at hp<;>omega
 have e2:IntKind.wrap .i64 (((p+1:Nat):Int)-1)=(p:Int):=by rw[VL.wrap64]<;>simp[qE]at hp<;>omega
 have fin:∀k:Nat,(1<=n->k<n)->k<=n->eS b p 1 (zd n) (.v (.int .i64 (k:Int))) [.cells [b,.v (.int .i64 ((p+1:Nat):Int))]]:=fun k h h'=>⟨p+1,by omega,aq _,⟨k,rfl,h,h'⟩,rfl⟩
 simp only[Ps,↓zq,zs,ac,e1,e2,hb.ln,zk,ri]
 refine⟨fun h=>fin 0 (fun h'=>by omega) (dF _),fun h=>⟨hb.has,fun h0=>fin 0 (fun h'=>by omega) (dF _),fun h0=>?_⟩⟩
 have hl:0<l.length:=by omega
 have hll:=hb.len
 refine⟨hb.has,fun hlt=>?_,fun hge=>?_⟩
 ·have hlt:p<l.length:=by omega
  have hx:=(l[p]).toNat_lt
  simp only[bx,hb.get hlt,hb.has,↓zq,zs,ac]
  rw[wb _ (by omega),ri]
  have:=fin ((l[p]).toNat%n) (fun h'=>Nat.mod_lt _ (by omega)) (Nat.le_of_lt (Nat.mod_lt _ (by omega)))
  repeat (first|exact this|refine⟨by omega,?_⟩)
 ·have h1:p%l.length<l.length:=Nat.mod_lt _ hl
  have e3:IntKind.wrap .i64 ((p:Int)*7)=((p*7:Nat):Int):=by rw[VL.wrap64]<;>simp[qE]at hp<;>omega
  have e4:IntKind.wrap .i64 (((p*7:Nat):Int)+3)=((p*7+3:Nat):Int):=by rw[VL.wrap64]<;>simp[qE]at hp<;>omega
  have h2:(p*7+3)%l.length<l.length:=Nat.mod_lt _ hl
  have hx:=(l[p%l.length]).toNat_lt
  have hy:=(l[(p*7+3)%l.length]).toNat_lt
  have hq:p/l.length<=p:=Nat.div_le_self _ _
  simp only[e3,e4,ri,bx,hb.get h1,hb.get h2,hb.has,↓zq,zs,ac]
  generalize hxx:(l[p%l.length]).toNat=x at hx |-
  generalize hyy:(l[(p*7+3)%l.length]).toNat=y at hy |-
  generalize hqq:p/l.length=q at hq |-
  have f1:IntKind.wrap .i64 ((x:Int))=(x:Int):=wb _ (by omega)
  have f2:IntKind.wrap .i64 ((y:Int))=(y:Int):=wb _ (by omega)
  have f3:IntKind.wrap .i64 ((x:Int)*131)=((x*131:Nat):Int):=by rw[VL.wrap64]<;>omega
  have f4:IntKind.wrap .i64 ((y:Int)*1117)=((y*1117:Nat):Int):=by rw[VL.wrap64]<;>omega
  have f5:IntKind.wrap .i64 (((x*131:Nat):Int)+((y*1117:Nat):Int))=((x*131+y*1117:Nat):Int):=by rw[VL.wrap64]<;>omega
  have f6:IntKind.wrap .i64 ((p:Int)*29)=((p*29:Nat):Int):=by rw[VL.wrap64]<;>simp[qE]at hp<;>omega
  have f7:IntKind.wrap .i64 (((x*131+y*1117:Nat):Int)+((p*29:Nat):Int))=((x*131+y*1117+p*29:Nat):Int):=by rw[VL.wrap64]<;>simp[qE]at hp<;>omega
  have f8:IntKind.wrap .i64 ((q:Int))=(q:Int):=wb _ (by simp[qE]at hp;omega)
  have f9:IntKind.wrap .i64 ((q:Int)*53)=((q*53:Nat):Int):=by rw[VL.wrap64]<;>simp[qE]at hp<;>omega
  have f10:IntKind.wrap .i64 (((x*131+y*1117+p*29:Nat):Int)+((q*53:Nat):Int))=((x*131+y*1117+p*29+q*53:Nat):Int):=by rw[VL.wrap64]<;>simp[qE]at hp<;>omega
  simp only[f1,f2,f3,f4,f5,f6,f7,f8,f9,f10]
  generalize hV:x*131+y*1117+p*29+q*53=V
  have hVl:V<1000000000000000000:=by simp[qE]at hp;omega
  have f11:IntKind.wrap .i64 (Int.tdiv (V:Int) 64)=((V/64:Nat):Int):=by
   have:Int.tdiv (V:Int) 64=((V/64:Nat):Int):=zk V 64
   rw[this,wb _ (by omega)]
  rw[f11]
  obtain⟨W,hW⟩:=ET (a:=(V:Int)) (b:=((V/64:Nat):Int)) (by omega) (by omega) (by omega) (by omega)
  rw[hW,ri]
  have:=fin (W%n) (fun h'=>Nat.mod_lt _ (by omega)) (Nat.le_of_lt (Nat.mod_lt _ (by omega)))
  repeat (first|exact this|refine⟨by omega,?_⟩)
def lg(L:List (List UInt8)):AV->Prop:=fun r=>∃s,s∈L/\r=.v (.string (mk s))
theorem Eo(b:AV)(l:List UInt8)(hb:s7 b l)(p:Nat)(hp:p<2*qE)(L:List (List UInt8))(a:AV)(ha:cB a L)(hL:0<L.length)(hLl:L.length<1000000):ap Tryz.prog 80 [.ref 0 0,a] [.cells [b,.v (.int .i64 (p:Int))]] (eS b p 1 (lg L)):=by
 refine Tv _ _ _ ha.1 hb.has ?_
 unfold JE
 simp only[↓zq,zs,ac,ha.len]
 refine⟨ha.1,?_⟩
 have hpk:=xR b l hb p L.length hp (by simp[qE];omega)
 refine aN hpk (eS.ne ⟨0,rfl,fun h=>h,dF _⟩) ?_
 rintro r o ⟨q,h1,h2,⟨k,rfl,h3,h4⟩,rfl⟩
 have hk:=h3 hL
 simp only[↓zq,zs,ac,zt,aM,hb.has,ha.idx hk,bx]
 refine⟨⟨ha.1,by omega⟩,?_⟩
 have:eS b p 1 (lg L) (.v (.string (mk (L.getD k [])))) [.cells [b,.v (.int .i64 (q:Int))]]:=⟨q,h1,h2,⟨_,by simp[aa,hk],rfl⟩,rfl⟩
 repeat (first|exact this|refine⟨by omega,?_⟩)
def gr(n:Nat):AV->Prop:=fun r=>∃s:List UInt8,r=.v (.string (mk s))/\s.length<=n
theorem lg.cE{L:List (List UInt8)}{n:Nat}(h:∀s,s∈L->s.length<=n){r:AV}(hr:lg L r):gr n r:=by
 obtain⟨s,h1,h2⟩:=hr;exact⟨s,h2,h s h1⟩
end Go.Proofs.Trees
namespace Go.Proofs.Trees
open Go Go.VL Go.RowKit
def j2:AV->List Ob->Prop:=fun r o=>o=[]/\∃b:Bool,r=.v (.bool b)
theorem j2.ne:∃r o,j2 r o:=⟨_,_,rfl,true,rfl⟩
theorem j2.mk(b:Bool):j2 (.v (.bool b)) []:=⟨rfl,b,rfl⟩
theorem j2.call{n:Nat}{f:Nat}{xs:List AV}{k:AV->List Ob->Tree}{Q:Nat->List AV->List Ob->Prop}(h:ap Tryz.prog f xs [] j2)(hk:∀b:Bool,eN Tryz.prog n (k (.v (.bool b)) []) Q):eN Tryz.prog n (.call f xs [] k) Q :=
 aN h j2.ne (by rintro r o ⟨rfl,b,rfl⟩;exact hk b)
theorem P0{e:E}(h:Wf e):∀(l:List Nm) (a:AV),cB a l->l.length+e.sz<100000->ap Tryz.prog 108 [.agg [.v (.string (mk e.at)),e.sp],a] [] j2:=by
 induction h with
 |
  @atom s hs =>
  intro l a ha hl
  simp only[E.sz]at hl
  refine EJ _ _ _ ((aX _).mpr trivial) ha.1 ?_
  simp only[Da,dU,↓zq,zs,ac]
  refine ai (AB s _ ((aX (.atom s)).mpr trivial) hs) ?_
  simp only[↓zq,zs,ac,zt,ha.1]
  refine⟨fun h=>(by cases h),fun _=>⟨fun h=>(by cases h),fun _=>⟨fun h=>(by cases h),fun _=>⟨fun _=>.mk true,fun _=>?_⟩⟩⟩⟩
  refine ai (xU l a ha s (by omega)) ?_
  simp only[↓zq,zs,ac]
  exact .mk _
 |
  @plus x y hx hy i1 i2 =>
  intro l a ha hl
  simp only[E.sz,E.jp]at hl
  refine EJ _ _ _ ((aX _).mpr trivial) ha.1 ?_
  have hP:=P3.of (.atom [43]) x y
  simp only[Da,bN,toNat_one,bg,↓zq,zs,ac,zt,hP.1,hP.2.1,hP.2.2.1,hP.2.2.2,aK]
  refine ai (om [43] x y) ?_
  simp only[↓zq,zs,ac,zt,ha.1,aK]
  refine⟨fun _=>⟨by omega,by omega,j2.call (i1 l a ha (by omega)) fun b=>?_⟩,fun h=>absurd rfl h⟩
  simp only[↓zq,zs,ac]
  refine⟨fun _=>⟨by omega,by omega,j2.call (i2 l a ha (by omega)) fun b=>?_⟩,fun _=>.mk _⟩
  simp only[↓zq,zs,ac]
  exact .mk _
 |
  @times x y hx hy i1 i2 =>
  intro l a ha hl
  simp only[E.sz,E.jp]at hl
  refine EJ _ _ _ ((aX _).mpr trivial) ha.1 ?_
  have hP:=P3.of (.atom [42]) x y
  simp only[Da,bN,toNat_one,bg,↓zq,zs,ac,zt,hP.1,hP.2.1,hP.2.2.1,hP.2.2.2,aK]
  refine ai (om [42] x y) ?_
  simp only[↓zq,zs,ac,zt,ha.1,aK]
  refine⟨fun h=>(by cases h),fun _=>⟨fun _=>⟨by omega,by omega,j2.call (i1 l a ha (by omega)) fun b=>?_⟩,fun h=>absurd rfl h⟩⟩
  simp only[↓zq,zs,ac]
  refine⟨fun _=>.mk _,fun _=>⟨by omega,by omega,j2.call (i2 l a ha (by omega)) fun b=>?_⟩⟩
  simp only[↓zq,zs,ac]
  exact .mk _
 |
  @rc n b hn hb i =>
  intro l a ha hl
  simp only[E.sz,E.jp]at hl
  refine EJ _ _ _ ((aX _).mpr trivial) ha.1 ?_
  have hP:=P3.of (.atom dE) (.atom n) b
  simp only[Da,bN,toNat_one,bg,↓zq,zs,ac,zt,hP.1,hP.2.1,hP.2.2.1,hP.2.2.2,aK]
  refine ai (om dE (.atom n) b) ?_
  simp only[↓zq,zs,ac,zt,ha.1,aK]
  refine⟨fun h=>(by cases h),fun _=>⟨fun h=>(by cases h),fun _=>⟨fun _=>⟨by omega,by omega,by omega,by omega,?_⟩,fun h=>absurd rfl h⟩⟩⟩
  refine ai (zV l a ha n (by omega)) ?_
  simp only[↓zq,zs,ac,zt]
  refine j2.call (i (l++[n]) _ (.of _) (by simp;omega)) fun b=>?_
  simp only[↓zq,zs,ac]
  exact .mk _
def Qu:AV->List Ob->Prop:=fun r o=>o=[]/\∃(g:E) (b:Bool),r=.cA [.agg [.v (.string (mk g.at)),g.sp],.v (.bool b)]/\Wf g/\g.df<=400
theorem RQ{n:Nm}{b:E}(hn:rk n)(hb:Wf b)(hl:(E.list [.atom dE,.atom n,b]).df<=400):ap Tryz.prog 110 [.agg [.v (.string (mk [])),(E.list [.atom dE,.atom n,b]).sp]] [] Qu:=by
 have hw:Wf (.list [.atom dE,.atom n,b]):=.rc hn hb
 refine Se _ _ ((aX _).mpr trivial) ?_
 have hP:=P3.of (.atom dE) (.atom n) b
 have hbl:b.df<=400:=by simp only[E.df,E.eT]at hl;omega
 simp only[JS,toNat_one,bg,↓zq,zs,ac,zt,hP.1,hP.2.1,hP.2.2.1,hP.2.2.2,aK]
 refine⟨by omega,by omega,by omega,by omega,?_⟩
 have hf:=NK hn hb hw (by omega) (by omega)
 obtain⟨g,g1,g2,g3⟩:=Pv hn hb hw hbl hl
 simp only[bN]at hf g3
 refine ai hf ?_
 simp only[↓zq,zs,ac,zt,aK]
 refine⟨fun h=>⟨rfl,_,false,rfl,hw,hl⟩,fun h=>?_⟩
 repeat refine⟨by omega,?_⟩
 refine ai g3 ?_
 simp only[↓zq,zs,ac,zt,aK]
 refine⟨rfl,g,true,rfl,g1,?_⟩
 rw[g1.df [],g2]
 simpa using h
end Go.Proofs.Trees
namespace Go.Proofs.Trees
open Go Go.VL Go.RowKit
def jY(n:Nat):AV->Prop:=fun r=>∃e:E,r=.agg [.v (.string (mk e.at)),e.sp]/\e.ok/\(eU e).length<=n
theorem jY.u(n:Nat)(h:1<=n):jY n (.agg [.v (.string (mk [117])),.v (.slice none 0 0)]):=⟨.atom [117],rfl,by simp[E.ok],by simpa[eU]using h⟩
def j7(b:AV)(d:Int)(e:E)(B C:Nat):Prop:=∀p:Nat,p+C<qE->ap Tryz.prog 82 [.ref 0 0,.agg [.v (.string (mk e.at)),e.sp],.v (.int .i64 d)] [.cells [b,.v (.int .i64 (p:Int))]] (eS b p C (jY B))
theorem j7.mono{b:AV}{d:Int}{e:E}{B C B' C':Nat}(h:j7 b d e B C)(hB:B<=B')(hC:C<=C'):j7 b d e B' C':=fun p hp=>ap.mono (h p (by omega)) fun r o ⟨q,h1,h2,⟨g,h3,h4,h5⟩,h6⟩=>⟨q,h1,by omega,⟨g,h3,h4,by omega⟩,h6⟩
theorem pB(b:AV)(p C B:Nat)(h:1<=B):∃r o,eS b p C (jY B) r o:=eS.ne (jY.u B h)
theorem Un(w:Nm)(e:E)(h:w.length=1):(eU (.list [.atom w,e])).length=(eU e).length+4:=by
 simp[eU,eg];omega
theorem Um(w:Nm)(e f:E)(h:w.length=1):(eU (.list [.atom w,e,f])).length=(eU e).length+(eU f).length+5:=by
 simp[eU,eg];omega
theorem NR{b:AV}{p q q' C B:Nat}{w:Nm}{e:E}(hw:w.length=1)(h1:p<=q)(h2:q<=p+1)(h3:q<=q')(h4:q'<=q+C)(ho:e.ok)(hl:(eU e).length<=B) :
 eS b p (C+1) (jY (B+5)) (.agg [.v (.string (mk [])),(E.list [.atom w,e]).sp]) [.cells [b,.v (.int .i64 (q':Int))]] :=
 ⟨q',by omega,by omega,⟨.list [.atom w,e],rfl,⟨by intro h;rw[h]at hw;simp at hw,ho,trivial⟩,by rw[Un w e hw];omega⟩,rfl⟩
theorem Lg(b:AV)(l:List UInt8)(hb:s7 b l)(d:Int){s:Nm}(hs:s≠[]):j7 b d (.atom s) 5 1:=by
 intro p hp
 refine EK _ _ _ _ _ ((aX (.atom s)).mpr trivial) hb.has ?_
 simp only[BU,dU,↓zq,zs,ac]
 refine ai (AB s _ ((aX (.atom s)).mpr trivial) hs) ?_
 simp only[↓zq,zs,ac,zt]
 refine⟨fun h=>(by cases h),fun _=>⟨fun h=>(by cases h),fun _=>⟨fun h=>(by cases h),fun _=>⟨fun _=>?_,fun _=>?_⟩⟩⟩⟩
 ·exact⟨p,aq _,by omega,jY.u 5 (by omega),rfl⟩
 ·refine aN (xR b l hb p 3 (by omega) (by decide)) (eS.ne ⟨0,rfl,fun h=>by omega,by omega⟩) ?_
  rintro r o ⟨q,h1,h2,⟨k,rfl,h3,h4⟩,rfl⟩
  have hk:k<3:=h3 (by omega)
  simp only[↓zq,zs,ac,aM,hb.has]
  refine ai (zU (k+1) k (by omega) (by omega)) ?_
  have hd:dd k=[bh (48+k)]:=eF (by omega)
  simp only[↓zq,zs,ac,zt,hd]
  refine⟨by simp,q,h1,h2,⟨.atom ([101]++[bh (48+k)]),rfl,by simp[E.ok],by simp[eU]⟩,rfl⟩
theorem KJ(b:AV)(l:List UInt8)(hb:s7 b l)(d:Int)(hd:-100000<=d/\d<=100000){n:Nm}{e:E}(hn:rk n)(he:Wf e)(hl:(E.list [.atom dE,.atom n,e]).df<=400)(B C:Nat)(ih:-12<=d->∀g,Wf g->g.df<=400->j7 b (d-1) g B C)(hB:1<=B):j7 b d (.list [.atom dE,.atom n,e]) (B+5) (C+1):=by
 intro p hp
 refine EK _ _ _ _ _ ((aX _).mpr trivial) hb.has ?_
 have ed:IntKind.wrap .i64 (d-1)=d-1:=VL.wrap64 _ (by omega) (by omega)
 simp only[BU,bN,↓zq,zs,ac,ed]
 refine ai (om dE (.atom n) e) ?_
 simp only[↓zq,zs,ac,zt]
 have hu:=RQ hn he hl
 refine⟨fun h=>(by cases h),fun _=>⟨fun h=>(by cases h),fun _=>⟨fun _=>?_,fun h=>absurd rfl h⟩⟩⟩
 refine aN hu ⟨_,_,rfl,.atom [117],true,rfl,.atom (by simp),by simp[E.df]⟩ ?_
 rintro r o ⟨rfl,g,c,rfl,g1,g2⟩
 have u:eS b p (C+1) (jY (B+5)) (.agg [.v (.string (mk [117])),.v (.slice none 0 0)]) [.cells [b,.v (.int .i64 (p:Int))]]:=⟨p,aq _,by omega,jY.u _ (by omega),rfl⟩
 simp only[↓zq,zs,ac,zt,aK]
 refine⟨fun _=>u,fun _=>⟨fun _=>u,fun hd2=>?_⟩⟩
 refine aN (ih (by omega) g g1 g2 p (by omega)) (pB b p C B hB) ?_
 rintro r o ⟨q,h1,h2,⟨f,rfl,h4,h5⟩,rfl⟩
 simp only[↓zq,zs,ac,zt,aM,hb.has,aK]
 repeat refine⟨by omega,?_⟩
 refine ai (xf [102] f) ?_
 simp only[↓zq,zs,ac,zt,aM,hb.has,aK]
 have fin:=NR (b:=b) (w:=[102]) rfl (aq p) (by omega) h1 h2 h4 h5
 first|exact fin|exact⟨by omega,fin⟩
theorem Ov(b:AV)(l:List UInt8)(hb:s7 b l)(d:Int)(hd:-100000<=d/\d<=100000){x y:E}(hx:Wf x)(hy:Wf y)(B1 C1 B2 C2:Nat)(ix:j7 b (d-1) x B1 C1)(iy:j7 b (d-1) y B2 C2)(hB:1<=B1)(hB2:1<=B2):j7 b d (.list [.atom [42],x,y]) (B1+B2+5) (C1+C2+1):=by
 intro p hp
 refine EK _ _ _ _ _ ((aX _).mpr trivial) hb.has ?_
 have ed:IntKind.wrap .i64 (d-1)=d-1:=VL.wrap64 _ (by omega) (by omega)
 have hP:=P3.of (.atom [42]) x y
 simp only[BU,bN,toNat_one,bg,↓zq,zs,ac,zt,hP.1,hP.2.1,hP.2.2.1,hP.2.2.2,aK,ed]
 refine ai (om [42] x y) ?_
 simp only[↓zq,zs,ac,zt]
 refine⟨fun h=>(by cases h),fun _=>⟨fun _=>?_,fun h=>absurd rfl h⟩⟩
 refine⟨by omega,by omega,aN (ix p (by omega)) (pB b p C1 B1 hB) ?_⟩
 rintro r o ⟨q,h1,h2,⟨f,rfl,h4,h5⟩,rfl⟩
 simp only[↓zq,zs,ac,zt,aM,hb.has,aK]
 repeat refine⟨by omega,?_⟩
 refine aN (iy q (by omega)) (pB b q C2 B2 hB2) ?_
 rintro r o ⟨q',g1,g2,⟨g,rfl,g4,g5⟩,rfl⟩
 simp only[↓zq,zs,ac,zt,aM,hb.has,aK]
 repeat refine⟨by omega,?_⟩
 refine ai (w6 [112] f g) ?_
 simp only[↓zq,zs,ac,zt,aM,hb.has,aK]
 have fin:eS b p (C1+C2+1) (jY (B1+B2+5)) (.agg [.v (.string (mk [])),(E.list [.atom [112],f,g]).sp]) [.cells [b,.v (.int .i64 (q':Int))]]:=⟨q',by omega,by omega,⟨.list [.atom [112],f,g],rfl,⟨by simp[E.ok],h4,g4,trivial⟩,by rw[Um [112] f g rfl];omega⟩,rfl⟩
 first|exact fin|exact⟨by omega,fin⟩
theorem NQ(b:AV)(l:List UInt8)(hb:s7 b l)(d:Int)(hd:-100000<=d/\d<=100000){x y:E}(hx:Wf x)(hy:Wf y)(hl:(E.list [.atom [43],x,y]).df<=400)(B C:Nat)(ix:j7 b (d-1) x B C)(iy:j7 b (d-1) y B C)(hB:1<=B):j7 b d (.list [.atom [43],x,y]) (B+5) (C+1):=by
 intro p hp
 refine EK _ _ _ _ _ ((aX _).mpr trivial) hb.has ?_
 have ed:IntKind.wrap .i64 (d-1)=d-1:=VL.wrap64 _ (by omega) (by omega)
 have hP:=P3.of (.atom [43]) x y
 simp only[E.df,E.eT]at hl
 have s1:=hx.sz
 have s2:=hy.sz
 simp only[BU,bN,toNat_one,bg,↓zq,zs,ac,zt,hP.1,hP.2.1,hP.2.2.1,hP.2.2.2,aK,ed]
 refine ai (om [43] x y) ?_
 simp only[↓zq,zs,ac,zt]
 refine⟨fun _=>?_,fun h=>absurd rfl h⟩
 refine aN (xR b l hb p 2 (by omega) (by decide)) (eS.ne ⟨0,rfl,fun h=>by omega,by omega⟩) ?_
 rintro r o ⟨q,h1,h2,⟨k,rfl,_,_⟩,rfl⟩
 simp only[↓zq,zs,ac,zt,aM,hb.has,aK]
 have ex:=P0 hx [] (.sl []) (.of []) (by simp;omega)
 have ey:=P0 hy [] (.sl []) (.of []) (by simp;omega)
 have ax:=Ey x hx.ok (by omega)
 have ay:=Ey y hy.ok (by omega)
 rw[cX]at ax ay
 have lx:=ix q (by omega)
 have ly:=iy q (by omega)
 have t:=pB b q C B hB
 have leaf:∀(w:Nm) (q':Nat) (f:E),w.length=1->q<=q'->q'<=q+C->f.ok->(eU f).length<=B->eS b p (C+1) (jY (B+5)) (.agg [.v (.string (mk [])),(E.list [.atom w,f]).sp]) [.cells [b,.v (.int .i64 (q':Int))]]:=fun w q' f hw g1 g2 h4 h5=>NR hw h1 h2 g1 g2 h4 h5
 repeat' first
  |intro _
  |refine⟨by omega,?_⟩
  |(
   with_reducible refine aN lx t ?_
   rintro r o ⟨q',g1,g2,⟨f,rfl,h4,h5⟩,rfl⟩
   simp only[↓zq,zs,ac,zt,aM,hb.has,aK]
   repeat refine⟨by omega,?_⟩
   refine ai (xf _ f) ?_
   simp only[↓zq,zs,ac,zt,aM,hb.has,aK]
   have fin:=leaf [108] q' f rfl g1 g2 h4 h5
   first|exact fin|exact⟨by omega,fin⟩)
  |(
   with_reducible refine aN ly t ?_
   rintro r o ⟨q',g1,g2,⟨f,rfl,h4,h5⟩,rfl⟩
   simp only[↓zq,zs,ac,zt,aM,hb.has,aK]
   repeat refine⟨by omega,?_⟩
   refine ai (xf _ f) ?_
   simp only[↓zq,zs,ac,zt,aM,hb.has,aK]
   have fin:=leaf [114] q' f rfl g1 g2 h4 h5
   first|exact fin|exact⟨by omega,fin⟩)
  |(with_reducible refine j2.call ex fun _=>?_;simp only[↓zq,zs,ac,zt,aK])
  |(with_reducible refine j2.call ey fun _=>?_;simp only[↓zq,zs,ac,zt,aK])
  |(with_reducible refine ai ax ?_;simp only[↓zq,zs,ac,zt,aK])
  |(with_reducible refine ai ay ?_;simp only[↓zq,zs,ac,zt,aK])
  |with_reducible refine aI ?_ ?_
  |(exfalso;omega)
end Go.Proofs.Trees
namespace Go.Proofs.Trees
open Go Go.VL Go.RowKit
def nF:Nat->Nat
 |0=>2
 |d+1=>2*nF d+15
def nG:Nat->Nat
 |0=>3
 |d+1=>2*nG d+8
theorem Tz(d:Nat):2<=nF d:=by cases d<;>simp only[nF]<;>omega
theorem Rw(d:Nat):3<=nG d:=by cases d<;>simp only[nG]<;>omega
theorem IN:∀d:Nat,d<=10->nF d<=100000000
 |0,_=>by decide
 |1,_=>by decide
 |2,_=>by decide
 |3,_=>by decide
 |4,_=>by decide
 |5,_=>by decide
 |6,_=>by decide
 |7,_=>by decide
 |8,_=>by decide
 |9,_=>by decide
 |10,_=>by decide
 |d+11,h=>by omega
theorem Bz(b:AV)(l:List UInt8)(hb:s7 b l)(p:Nat)(hp:p<2*qE):ap Tryz.prog 50 [.ref 0 0] [.cells [b,.v (.int .i64 (p:Int))]] (eS b p 1 (gr 60)):=by
 refine Sb _ _ hb.has ?_
 unfold OP
 refine aN (Eo b l hb p hp _ _ (.of [_,_,_,_,_,_,_]) (by simp) (by simp)) (eS.ne ⟨_,ak,rfl⟩) ?_
 rintro r o ⟨q,h1,h2,hr,rfl⟩
 obtain⟨s,rfl,hs⟩:=lg.cE (n:=60) (by decide) hr
 simp only[↓zq,zs,ac,aM,hb.has]
 exact⟨q,h1,h2,⟨s,rfl,hs⟩,rfl⟩
theorem Hu(b:AV)(l:List UInt8)(hb:s7 b l):∀(d:Nat),d<=10->∀(p:Nat) (ls:List (List UInt8)) (a:AV),cB a ls->(∀s,s∈ls->s.length<=2)->ls.length+d<=100->p+nG d<2*qE ->
 ap Tryz.prog 107 [.ref 0 0,a,.v (.int .i64 (d:Int))] [.cells [b,.v (.int .i64 (p:Int))]] (eS b p (nG d) (gr (nF d))):=by
 intro d
 induction d with
 |
  zero =>
  intro hd p ls a ha hls hll hp
  simp only[nG]at hp
  refine MX _ _ _ _ ha.1 hb.has ?_
  simp only[GR,↓zq,zs,ac,ha.len]
  refine⟨fun _=>⟨ha.1,fun hpos=>?_,fun _=>?_⟩,fun h=>by omega⟩
  ·refine aN (xR b l hb p 3 (by omega) (by decide)) (eS.ne ⟨0,rfl,fun h=>by omega,by omega⟩) ?_
   rintro r o ⟨q1,h1,h2,⟨k,rfl,h3,h4⟩,rfl⟩
   simp only[↓zq,zs,ac,aM,hb.has]
   refine⟨fun _=>⟨ha.1,?_⟩,fun _=>?_⟩
   ·refine aN (xR b l hb q1 ls.length (by omega) (by simp[qE];omega)) (eS.ne ⟨0,rfl,fun h=>by omega,by omega⟩) ?_
    rintro r o ⟨q2,g1,g2,⟨k2,rfl,g3,g4⟩,rfl⟩
    have hk:=g3 (by omega)
    simp only[↓zq,zs,ac,aM,hb.has,bx,ha.idx hk]
    have:eS b p (nG 0) (gr (nF 0)) (.v (.string (mk (ls.getD k2 [])))) [.cells [b,.v (.int .i64 (q2:Int))]]:=⟨q2,by omega,by simp only[nG];omega,⟨_,rfl,by
     have:=hls (ls.getD k2 []) (by simp[aa,hk]);simp only[nF];omega⟩,rfl⟩
    refine⟨⟨ha.1,by omega⟩,?_⟩
    repeat (first|exact this|refine⟨by omega,?_⟩)
   ·refine aN (Eo b l hb q1 (by omega) _ _ (.of [_,_,_,_,_,_]) (by simp) (by simp)) (eS.ne ⟨_,ak,rfl⟩) ?_
    rintro r o ⟨q2,g1,g2,hr,rfl⟩
    obtain⟨s,rfl,hs⟩:=lg.cE (n:=2) (by decide) hr
    simp only[↓zq,zs,ac,aM,hb.has]
    exact⟨q2,by omega,by simp only[nG];omega,⟨s,rfl,by simp only[nF];omega⟩,rfl⟩
  ·refine aN (Eo b l hb p (by omega) _ _ (.of [_,_,_,_,_,_]) (by simp) (by simp)) (eS.ne ⟨_,ak,rfl⟩) ?_
   rintro r o ⟨q2,g1,g2,hr,rfl⟩
   obtain⟨s,rfl,hs⟩:=lg.cE (n:=2) (by decide) hr
   simp only[↓zq,zs,ac,aM,hb.has]
   exact⟨q2,by omega,by simp only[nG];omega,⟨s,rfl,by simp only[nF];omega⟩,rfl⟩
 |
  succ d ih =>
  intro hd p ls a ha hls hll hp
  simp only[nG]at hp
  have hL:=Tz d
  have hC:=Rw d
  have ih:=ih (by omega)
  have hL8:=IN d (by omega)
  have ed:IntKind.wrap .i64 (((d+1:Nat):Int)-1)=(d:Int):=by rw[VL.wrap64]<;>omega
  refine MX _ _ _ _ ha.1 hb.has ?_
  simp only[GR,↓zq,zs,ac,ha.len,ed]
  refine⟨fun h=>by omega,fun _=>?_⟩
  refine aN (xR b l hb p 4 (by omega) (by decide)) (eS.ne ⟨0,rfl,fun h=>by omega,by omega⟩) ?_
  rintro r o ⟨q0,a1,a2,⟨k0,rfl,_,_⟩,rfl⟩
  simp only[↓zq,zs,ac,aM,hb.has]
  refine⟨fun _=>⟨ha.1,fun hpos=>?_,fun _=>?_⟩,fun _=>?_⟩
  ·refine aN (xR b l hb q0 3 (by omega) (by decide)) (eS.ne ⟨0,rfl,fun h=>by omega,by omega⟩) ?_
   rintro r o ⟨q1,h1,h2,⟨k,rfl,h3,h4⟩,rfl⟩
   simp only[↓zq,zs,ac,aM,hb.has]
   refine⟨fun _=>⟨ha.1,?_⟩,fun _=>?_⟩
   ·refine aN (xR b l hb q1 ls.length (by omega) (by simp[qE];omega)) (eS.ne ⟨0,rfl,fun h=>by omega,by omega⟩) ?_
    rintro r o ⟨q2,g1,g2,⟨k2,rfl,g3,g4⟩,rfl⟩
    have hk:=g3 (by omega)
    simp only[↓zq,zs,ac,aM,hb.has,bx,ha.idx hk]
    have:eS b p (nG (d+1)) (gr (nF (d+1))) (.v (.string (mk (ls.getD k2 [])))) [.cells [b,.v (.int .i64 (q2:Int))]]:=⟨q2,by omega,by simp only[nG];omega,⟨_,rfl,by
     have:=hls (ls.getD k2 []) (by simp[aa,hk]);simp only[nF];omega⟩,rfl⟩
    refine⟨⟨ha.1,by omega⟩,?_⟩
    repeat (first|exact this|refine⟨by omega,?_⟩)
   ·refine aN (Eo b l hb q1 (by omega) _ _ (.of [_,_,_,_,_,_]) (by simp) (by simp)) (eS.ne ⟨_,ak,rfl⟩) ?_
    rintro r o ⟨q2,g1,g2,hr,rfl⟩
    obtain⟨s,rfl,hs⟩:=lg.cE (n:=2) (by decide) hr
    simp only[↓zq,zs,ac,aM,hb.has]
    exact⟨q2,by omega,by simp only[nG];omega,⟨s,rfl,by simp only[nF];omega⟩,rfl⟩
  ·refine aN (Eo b l hb q0 (by omega) _ _ (.of [_,_,_,_,_,_]) (by simp) (by simp)) (eS.ne ⟨_,ak,rfl⟩) ?_
   rintro r o ⟨q2,g1,g2,hr,rfl⟩
   obtain⟨s,rfl,hs⟩:=lg.cE (n:=2) (by decide) hr
   simp only[↓zq,zs,ac,aM,hb.has]
   exact⟨q2,by omega,by simp only[nG];omega,⟨s,rfl,by simp only[nF];omega⟩,rfl⟩
  ·refine aN (xR b l hb q0 5 (by omega) (by decide)) (eS.ne ⟨0,rfl,fun h=>by omega,by omega⟩) ?_
   rintro r o ⟨q1,b1,b2,⟨k1,rfl,c3,_⟩,rfl⟩
   have hk1:=c3 (by omega)
   obtain rfl|rfl|rfl|rfl|rfl:k1=0\/k1=1\/k1=2\/k1=3\/k1=4:=by omega
   ·simp only[↓zq,zs,ac,aM,hb.has]
    refine⟨fun _=>?_,fun h=>absurd rfl h⟩
    refine aN (ih q1 ls a ha hls (by omega) (by omega)) (eS.ne ⟨[],rfl,by simp⟩) ?_
    rintro r o ⟨q2,d1,d2,⟨s1,rfl,d3⟩,rfl⟩
    simp only[↓zq,zs,ac,zt,aM,hb.has,an]
    repeat refine⟨by first|omega|(simp only[an,au,aG];omega),?_⟩
    refine aN (ih q2 ls a ha hls (by omega) (by omega)) (eS.ne ⟨[],rfl,by simp⟩) ?_
    rintro r o ⟨q3,e1,e2,⟨s2,rfl,e3⟩,rfl⟩
    simp only[↓zq,zs,ac,zt,aM,hb.has,an]
    have fin:∀s:List UInt8,s.length<=nF (d+1)->eS b p (nG (d+1)) (gr (nF (d+1))) (.v (.string (mk s))) [.cells [b,.v (.int .i64 (q3:Int))]]:=fun s hs=>⟨q3,by omega,by simp only[nG];omega,⟨s,rfl,hs⟩,rfl⟩
    repeat (first|exact fin _ (by simp only[an,au,aG,nF];omega)|refine⟨by first|omega|(simp only[an,au,aG];omega),?_⟩)
   ·simp only[↓zq,zs,ac,aM,hb.has]
    refine⟨fun h=>by omega,fun _=>⟨fun _=>?_,fun h=>absurd rfl h⟩⟩
    refine aN (ih q1 ls a ha hls (by omega) (by omega)) (eS.ne ⟨[],rfl,by simp⟩) ?_
    rintro r o ⟨q2,d1,d2,⟨s1,rfl,d3⟩,rfl⟩
    simp only[↓zq,zs,ac,zt,aM,hb.has,an]
    repeat refine⟨by first|omega|(simp only[an,au,aG];omega),?_⟩
    refine aN (ih q2 ls a ha hls (by omega) (by omega)) (eS.ne ⟨[],rfl,by simp⟩) ?_
    rintro r o ⟨q3,e1,e2,⟨s2,rfl,e3⟩,rfl⟩
    simp only[↓zq,zs,ac,zt,aM,hb.has,an]
    have fin:∀s:List UInt8,s.length<=nF (d+1)->eS b p (nG (d+1)) (gr (nF (d+1))) (.v (.string (mk s))) [.cells [b,.v (.int .i64 (q3:Int))]]:=fun s hs=>⟨q3,by omega,by simp only[nG];omega,⟨s,rfl,hs⟩,rfl⟩
    repeat (first|exact fin _ (by simp only[an,au,aG,nF];omega)|refine⟨by first|omega|(simp only[an,au,aG];omega),?_⟩)
   ·simp only[↓zq,zs,ac,aM,hb.has]
    refine⟨fun h=>by omega,fun _=>⟨fun h=>by omega,fun _=>⟨fun _=>?_,fun h=>absurd rfl h⟩⟩⟩
    refine aN (ih q1 ls a ha hls (by omega) (by omega)) (eS.ne ⟨[],rfl,by simp⟩) ?_
    rintro r o ⟨q2,d1,d2,⟨s1,rfl,d3⟩,rfl⟩
    simp only[↓zq,zs,ac,zt,aM,hb.has,an]
    repeat refine⟨by first|omega|(simp only[an,au,aG];omega),?_⟩
    refine aN (ih q2 ls a ha hls (by omega) (by omega)) (eS.ne ⟨[],rfl,by simp⟩) ?_
    rintro r o ⟨q3,e1,e2,⟨s2,rfl,e3⟩,rfl⟩
    simp only[↓zq,zs,ac,zt,aM,hb.has,an]
    have fin:∀s:List UInt8,s.length<=nF (d+1)->eS b p (nG (d+1)) (gr (nF (d+1))) (.v (.string (mk s))) [.cells [b,.v (.int .i64 (q3:Int))]]:=fun s hs=>⟨q3,by omega,by simp only[nG];omega,⟨s,rfl,hs⟩,rfl⟩
    repeat (first|exact fin _ (by simp only[an,au,aG,nF];omega)|refine⟨by first|omega|(simp only[an,au,aG];omega),?_⟩)
   ·simp only[↓zq,zs,ac,aM,hb.has]
    refine⟨fun h=>by omega,fun _=>⟨fun h=>by omega,fun _=>⟨fun h=>by omega,fun _=>⟨fun _=>?_,fun h=>absurd rfl h⟩⟩⟩⟩
    refine aN (ih q1 ls a ha hls (by omega) (by omega)) (eS.ne ⟨[],rfl,by simp⟩) ?_
    rintro r o ⟨q2,d1,d2,⟨s1,rfl,d3⟩,rfl⟩
    simp only[↓zq,zs,ac,zt,aM,hb.has,an]
    repeat refine⟨by first|omega|(simp only[an,au,aG];omega),?_⟩
    refine aN (ih q2 ls a ha hls (by omega) (by omega)) (eS.ne ⟨[],rfl,by simp⟩) ?_
    rintro r o ⟨q3,e1,e2,⟨s2,rfl,e3⟩,rfl⟩
    simp only[↓zq,zs,ac,zt,aM,hb.has,an]
    have fin:∀s:List UInt8,s.length<=nF (d+1)->eS b p (nG (d+1)) (gr (nF (d+1))) (.v (.string (mk s))) [.cells [b,.v (.int .i64 (q3:Int))]]:=fun s hs=>⟨q3,by omega,by simp only[nG];omega,⟨s,rfl,hs⟩,rfl⟩
    repeat (first|exact fin _ (by simp only[an,au,aG,nF];omega)|refine⟨by first|omega|(simp only[an,au,aG];omega),?_⟩)
   ·simp only[↓zq,zs,ac,aM,hb.has]
    refine⟨fun h=>by omega,fun _=>⟨fun h=>by omega,fun _=>⟨fun h=>by omega,fun _=>⟨fun h=>by omega,fun _=>?_⟩⟩⟩⟩
    refine aN (Eo b l hb q1 (by omega) _ _ (.of [_,_,_]) (by simp) (by simp)) (eS.ne ⟨_,ak,rfl⟩) ?_
    rintro r o ⟨q2,g1,g2,hr,rfl⟩
    obtain⟨s,rfl,hs⟩:=lg.cE (n:=2) (by decide) hr
    simp only[↓zq,zs,ac,zt,aM,hb.has]
    repeat refine⟨by first|omega|(simp only[an,au,aG];omega),?_⟩
    refine ai (zV ls a ha s (by omega)) ?_
    simp only[↓zq,zs,ac]
    refine aN (ih q2 (ls++[s]) _ (.of _) (fun w hw=>by
     rcases aQ.1 hw with hw|hw
     ·exact hls w hw
     ·simp at hw;rw[hw];exact hs) (by simp;omega) (by omega)) (eS.ne ⟨[],rfl,by simp⟩) ?_
    rintro r o ⟨q3,e1,e2,⟨s2,rfl,e3⟩,rfl⟩
    simp only[↓zq,zs,ac,zt,aM,hb.has,an]
    have fin:∀s:List UInt8,s.length<=nF (d+1)->eS b p (nG (d+1)) (gr (nF (d+1))) (.v (.string (mk s))) [.cells [b,.v (.int .i64 (q3:Int))]]:=fun s hs=>⟨q3,by omega,by simp only[nG];omega,⟨s,rfl,hs⟩,rfl⟩
    repeat (first|exact fin _ (by simp only[an,au,aG,nF];omega)|refine⟨by first|omega|(simp only[an,au,aG];omega),?_⟩)
end Go.Proofs.Trees
namespace Go.Proofs.Trees
open Go Go.VL Go.RowKit
theorem eS.mono{b:AV}{p c c':Nat}{X Y:AV->Prop}(hc:c<=c')(h:∀r,X r->Y r){r:AV}{o:List Ob}(hr:eS b p c X r o):eS b p c' Y r o:=by
 obtain⟨q,h1,h2,h3,h4⟩:=hr;exact⟨q,h1,by omega,h r h3,h4⟩
theorem gr.le{n m:Nat}(h:n<=m){r:AV}(hr:gr n r):gr m r:=by obtain⟨s,h1,h2⟩:=hr;exact⟨s,h1,by omega⟩
theorem RU(b:AV)(l:List UInt8)(hb:s7 b l)(p:Nat)(hp:p<qE):ap Tryz.prog 106 [.ref 0 0] [.cells [b,.v (.int .i64 (p:Int))]] (eS b p 100 (gr 200)):=by
 refine R7 _ _ hb.has ?_
 unfold Lb
 have hfar:qE=1000000000000000:=rfl
 refine aN (xR b l hb p 12 (by omega) (by decide)) (eS.ne ⟨0,rfl,fun h=>by omega,by omega⟩) ?_
 rintro r o ⟨q,h1,h2,⟨k,rfl,_,_⟩,rfl⟩
 have kn:∀(c m:Nat) (r:AV) (o:List Ob),c<=90->m<=200->eS b q c (gr m) r o->∃q':Nat,∃s:List UInt8,r=.v (.string (mk s))/\o=[.cells [b,.v (.int .i64 (q':Int))]]/\eS b p 100 (gr 200) (.v (.string (mk s))) [.cells [b,.v (.int .i64 (q':Int))]]:=by
  rintro c m r o hc hm ⟨q',g1,g2,⟨s,rfl,hs⟩,rfl⟩
  exact⟨q',s,rfl,rfl,q',by omega,by omega,⟨s,rfl,by omega⟩,rfl⟩
 simp only[↓zq,zs,ac,aM,hb.has]
 refine⟨fun _=>?_,fun _=>⟨fun _=>?_,fun _=>⟨fun _=>?_,fun _=>⟨fun _=>?_,fun _=>⟨fun _=>?_,fun _=>?_⟩⟩⟩⟩⟩
 ·refine aN (Eo b l hb q (by omega) _ _ (.of [_,_,_,_,_,_,_,_,_]) (by simp) (by simp)) (eS.ne ⟨_,ak,rfl⟩) ?_
  intro r o hr
  obtain⟨q',s,rfl,rfl,hd⟩:=kn 1 20 r o (by omega) (by omega) (hr.mono (aq _) fun r h=>lg.cE (n:=20) (by decide) h)
  simp only[↓zq,zs,ac,aM,hb.has];exact hd
 ·refine aN (Bz b l hb q (by omega)) (eS.ne ⟨[],rfl,by simp⟩) ?_
  intro r o hr
  obtain⟨q',s,rfl,rfl,hd⟩:=kn _ _ r o (by omega) (by omega) hr
  simp only[↓zq,zs,ac,aM,hb.has];exact hd
 ·refine aN (Bz b l hb q (by omega)) (eS.ne ⟨[],rfl,by simp⟩) ?_
  intro r o hr
  obtain⟨q',s,rfl,rfl,hd⟩:=kn _ _ r o (by omega) (by omega) hr
  simp only[↓zq,zs,ac,aM,hb.has];exact hd
 ·refine aN (Bz b l hb q (by omega)) (eS.ne ⟨[],rfl,by simp⟩) ?_
  intro r o hr
  obtain⟨q',s,rfl,rfl,hd⟩:=kn _ _ r o (by omega) (by omega) hr
  simp only[↓zq,zs,ac,aM,hb.has];exact hd
 ·refine aN (Hu b l hb 2 (by omega) q [[116],[116,49]] _ (cB.of [[116],[116,49]]) (by decide) (by simp) (by simp[nG];omega)) (eS.ne ⟨[],rfl,by simp⟩) ?_
  intro r o hr
  obtain⟨q',s,rfl,rfl,hd⟩:=kn _ _ r o (by simp[nG]) (by simp[nF]) hr
  simp only[↓zq,zs,ac,aM,hb.has];exact hd
 ·refine aN (Hu b l hb 3 (by omega) q [] _ (cB.of []) (by simp) (by simp) (by simp[nG];omega)) (eS.ne ⟨[],rfl,by simp⟩) ?_
  intro r o hr
  obtain⟨q',s,rfl,rfl,hd⟩:=kn _ _ r o (by simp[nG]) (by simp[nF]) hr
  simp only[↓zq,zs,ac,aM,hb.has];exact hd
def yG(a:AV):Prop:=LK.sl.has a/\∃l:List UInt8,a.aJ=qk l
def P9(r:AV)(o:List Ob):Prop:=∃(b:AV) (l:List UInt8),s7 b l/\r=.ref 0 0/\o=[.cells [b,.v (.int .i64 0)]]
theorem P9.ne:∃r o,P9 r o:=⟨_,_,.v (.slice none 0 0),[],⟨(bc).mpr trivial,rfl,by simp⟩,rfl,rfl⟩
theorem RA(a:AV)(ha:yG a):ap Tryz.prog 27 [a] [] P9:=by
 obtain⟨hs,l,hl⟩:=ha
 have hln:a.aJ.length=l.length:=by rw[hl];simp[qk]
 refine Sp _ hs ?_
 simp only[M5,↓zq,zs,ac,hln]
 refine⟨hs,fun h=>⟨⟨hs,by omega⟩,?_⟩,fun h=>?_⟩
 ·refine⟨_,l.take 2000,⟨(bT _).mpr trivial,?_,?_⟩,rfl,rfl⟩
  ·rw[fj,hl];simp[qk]
  ·simp;omega
 ·exact⟨a,l,⟨hs,hl,by omega⟩,rfl,rfl⟩
end Go.Proofs.Trees
namespace Go.Proofs.Trees
open Go Go.VL Go.RowKit
theorem C5(b:AV)(l:List UInt8)(hb:s7 b l){e:E}(h:Wf e):∀d:Int,d<=-13->-50000+(e.sz:Int)<=d->e.df<=400->j7 b d e (5*e.sz) e.sz:=by
 induction h with
 |
  @atom s hs =>
  intro d h1 h2 h3
  exact(Lg b l hb d hs).mono (by simp[E.sz]) (by simp[E.sz])
 |
  @plus x y hx hy i1 i2 =>
  intro d h1 h2 h3
  have h4:=h3
  simp only[E.sz,E.jp,E.df,E.eT]at h2 h4 |-
  exact(NQ b l hb d (by omega) hx hy h3 (5*(x.sz+y.sz)+1) (x.sz+y.sz) ((i1 (d-1) (by omega) (by omega) (by omega)).mono (by omega) (by omega)) ((i2 (d-1) (by omega) (by omega) (by omega)).mono (by omega) (by omega)) (by omega)).mono (by omega) (by omega)
 |
  @times x y hx hy i1 i2 =>
  intro d h1 h2 h3
  have h4:=h3
  simp only[E.sz,E.jp,E.df,E.eT]at h2 h4 |-
  exact(Ov b l hb d (by omega) hx hy (5*x.sz+1) x.sz (5*y.sz+1) y.sz ((i1 (d-1) (by omega) (by omega) (by omega)).mono (by omega) (by omega)) ((i2 (d-1) (by omega) (by omega) (by omega)).mono (by omega) (by omega)) (by omega) (by omega)).mono (by omega) (by omega)
 |
  @rc n x hn hx i =>
  intro d h1 h2 h3
  simp only[E.sz,E.jp]at h2 |-
  exact(KJ b l hb d (by omega) hn hx h3 1 0 (fun h=>absurd h (by omega)) (by omega)).mono (by omega) (by omega)
def pI:Nat->Nat
 |0=>6100
 |n+1=>2*pI n+5
theorem IW:∀n,6100<=pI n
 |0=>aq _
 |n+1=>by have:=IW n;simp only[pI];omega
theorem xH:∀n k:Nat,pI (n+k)+5=2 ^ k*(pI n+5)
 |n,0=>by simp
 |
  n,k+1=>by
  have:=xH n k
  rw[show n+(k+1)=n+k+1 from rfl,pI,Nat.pow_succ,Nat.mul_comm (2 ^ k) 2,Nat.mul_assoc,<-this];omega
theorem A3{n m:Nat}(h:n<=m):pI n<=pI m:=by
 obtain⟨k,rfl⟩:=Nat.exists_eq_add_of_le h
 have:=xH n k
 have h2:1*(pI n+5)<=2 ^ k*(pI n+5):=a8 _ Nat.one_le_two_pow
 omega
theorem K2:pI 22<=30000000000:=by
 have:=xH 0 22
 simp only[aY]at this
 have h0:pI 0=6100:=rfl
 rw[h0]at this
 omega
theorem zu(b:AV)(l:List UInt8)(hb:s7 b l):∀n:Nat,n<=40->∀e,Wf e->e.df<=400->j7 b ((n:Int)-13) e (pI n) (pI n)
 |
  0,hn,e,h,hl=>by
  have:=h.sz
  exact(C5 b l hb h _ (by simp) (by simp;omega) hl).mono (by simp only[pI];omega) (by simp only[pI];omega)
 |
  n+1,hn,e,h,hl=>by
  have hb1:=IW n
  have ih:∀g,Wf g->g.df<=400->j7 b (((n+1:Nat):Int)-13-1) g (pI n) (pI n):=by
   rw[show ((n+1:Nat):Int)-13-1=(n:Int)-13 by omega];exact zu b l hb n (by omega)
  cases h with
  |@atom s hs=>exact(Lg b l hb _ hs).mono (by simp only[pI];omega) (by simp only[pI];omega)
  |
   @plus x y hx hy =>
   have h4:=hl
   simp only[E.df,E.eT]at h4
   exact(NQ b l hb _ (by omega) hx hy hl _ _ (ih x hx (by omega)) (ih y hy (by omega)) (by omega)).mono (by simp only[pI];omega) (by simp only[pI];omega)
  |
   @times x y hx hy =>
   simp only[E.df,E.eT]at hl
   exact(Ov b l hb _ (by omega) hx hy _ _ _ _ (ih x hx (by omega)) (ih y hy (by omega)) (by omega) (by omega)).mono (by simp only[pI];omega) (by simp only[pI];omega)
  |@rc m x hm hx=>exact(KJ b l hb _ (by omega) hm hx hl _ _ (fun _=>ih) (by omega)).mono (by simp only[pI];omega) (by simp only[pI];omega)
theorem JN(b:AV)(l:List UInt8)(hb:s7 b l)(p:Nat)(hp:p<100000000000000)(s:Nm):ap Tryz.prog 52 [.ref 0 0,.v (.string (mk s))] [.cells [b,.v (.int .i64 (p:Int))]] (eS b p 40000000000 (gr 40000000000)):=by
 refine RV _ _ _ hb.has ?_
 have hfar:qE=1000000000000000:=rfl
 have oneL:∀(q:Nat) (r:AV) (o:List Ob),p<=q->q<=p+1->eS b q 1 (lg [[],[117],[101,48],[101,48,48],[101,49,48,48],[40,108,32,117,41],[40,112,32,117,41],[40,102,32,40,108,32,117,41,41],[40,120,32,117,41],[40,108,32,32,117,41]]) r o->∃q':Nat,∃t:List UInt8,r=.v (.string (mk t))/\o=[.cells [b,.v (.int .i64 (q':Int))]]/\eS b p 40000000000 (gr 40000000000) (.v (.string (mk t))) [.cells [b,.v (.int .i64 (q':Int))]]:=by
  rintro q r o h1 h2 ⟨q',g1,g2,hr,rfl⟩
  obtain⟨t,rfl,ht⟩:=lg.cE (n:=20) (by decide) hr
  exact⟨q',t,rfl,rfl,q',by omega,by omega,⟨t,rfl,by omega⟩,rfl⟩
 unfold Nv
 refine aN (Ia s) (jv.ne _ _ (fun h=>h)) ?_
 rintro r o ⟨c,d,hd,rfl,hh⟩
 have hhas:bz [.str,.sl] [.v (.string (mk c)),d] 0:=by simp[bz,dM,hd]
 simp only[↓zq,zs,ac,zt]
 refine⟨hhas,fun h=>?_,fun h=>?_⟩
 ·refine aN (Eo b l hb p (by omega) _ _ (.of [_,_,_,_,_,_,_,_,_,_]) (by simp) (by simp)) (eS.ne ⟨_,ak,rfl⟩) ?_
  intro r o hr
  obtain⟨q',t,rfl,rfl,hd⟩:=oneL p r o (aq _) (by omega) hr
  simp only[↓zq,zs,ac,aM,hb.has];exact hd
 ·obtain⟨e,he,hce⟩:=hh (by simpa using h)
  obtain⟨t,h1,hA,h3,h4,h5,_⟩:=gT he
  rw[cX]at hce
  simp only[AV.agg.injEq,List.cons.injEq,AV.v.injEq,Value.string.injEq,and_true]at hce
  obtain⟨hc1,rfl⟩:=hce
  have hc2:=xw hc1
  subst hc2
  obtain⟨hw,hwt⟩:=kf e [] t hA.ok (by simp) hA.ty
  have hats:e.df<=400:=by rw[hw.df [],hwt];exact h5
  have hsz:=hw.sz
  refine aN (xR b l hb p 16 (by omega) (by decide)) (eS.ne ⟨0,rfl,fun h=>by omega,by omega⟩) ?_
  rintro r o ⟨q,h1,h2,⟨k,rfl,_,_⟩,rfl⟩
  simp only[↓zq,zs,ac,aM,hb.has]
  refine⟨fun _=>?_,fun _=>?_⟩
  ·refine aN (Eo b l hb q (by omega) _ _ (.of [_,_,_,_,_,_,_,_,_,_]) (by simp) (by simp)) (eS.ne ⟨_,ak,rfl⟩) ?_
   intro r o hr
   obtain⟨q',t,rfl,rfl,hd⟩:=oneL q r o h1 h2 hr
   simp only[↓zq,zs,ac,aM,hb.has];exact hd
  ·obtain⟨w1,w2,_⟩:=wX (os:=[]) hw
   have hap:=DQ hw (.v (.slice none 0 0)) [] ⟨(bc).mpr trivial,rfl⟩ (by omega) (by simp) (by simp)
   refine ai hap ?_
   simp only[↓zq,zs,ac,zt,aK]
   repeat refine⟨by omega,?_⟩
   have hats2:(zP e []).df<=400:=by rw[w1.df [],w2,<-hw.df []];exact hats
   refine aN (xR b l hb q 5 (by omega) (by decide)) (eS.ne ⟨0,rfl,fun h=>by omega,by omega⟩) ?_
   rintro r o ⟨q1,g1,g2,⟨k1,rfl,c3,_⟩,rfl⟩
   have hk1:=c3 (by omega)
   simp only[↓zq,zs,ac,zt,aM,hb.has,aK]
   have ed:IntKind.wrap .i64 (5+(k1:Int))=((18+k1:Nat):Int)-13:=by rw[VL.wrap64 _ (by omega) (by omega)];omega
   have hB:=K2
   have hB2:pI (18+k1)<=pI 22:=A3 (by omega)
   have hB3:=IW (18+k1)
   rw[ed]
   refine aN (zu b l hb (18+k1) (by omega) (zP e []) w1 hats2 q1 (by omega)) (pB b q1 _ _ (by omega)) ?_
   rintro r o ⟨q2,d1,d2,⟨f,rfl,f1,f2⟩,rfl⟩
   simp only[↓zq,zs,ac,zt,aM,hb.has,aK]
   repeat refine⟨by omega,?_⟩
   have ht:=Dx (f.sz+1) f (by omega) f1 (by omega)
   rw[cX]at ht
   refine ai ht ?_
   simp only[↓zq,zs,ac,zt,aM,hb.has,aK]
   exact⟨q2,by omega,by omega,⟨eU f,rfl,by omega⟩,rfl⟩
theorem SW(b:AV)(l:List UInt8)(hb:s7 b l)(p:Nat)(hp:p<100000000000000):ap Tryz.prog 81 [.ref 0 0] [.cells [b,.v (.int .i64 (p:Int))]] (eS b p 200 (gr 200)):=by
 refine Sy _ _ hb.has ?_
 unfold La
 have hfar:qE=1000000000000000:=rfl
 refine aN (xR b l hb p 8 (by omega) (by decide)) (eS.ne ⟨0,rfl,fun h=>by omega,by omega⟩) ?_
 rintro r o ⟨q,h1,h2,⟨k,rfl,_,_⟩,rfl⟩
 have kn:∀(c m:Nat) (r:AV) (o:List Ob),c<=190->m<=200->eS b q c (gr m) r o->∃q':Nat,∃s:List UInt8,r=.v (.string (mk s))/\o=[.cells [b,.v (.int .i64 (q':Int))]]/\eS b p 200 (gr 200) (.v (.string (mk s))) [.cells [b,.v (.int .i64 (q':Int))]]:=by
  rintro c m r o hc hm ⟨q',g1,g2,⟨s,rfl,hs⟩,rfl⟩
  exact⟨q',s,rfl,rfl,q',by omega,by omega,⟨s,rfl,by omega⟩,rfl⟩
 have sh:=Hu b l hb 3 (by omega) q [] _ (cB.of []) (by simp) (by simp) (by simp[nG];omega)
 have ty:=RU b l hb q (by omega)
 have kw:=Bz b l hb q (by omega)
 simp only[↓zq,zs,ac,aM,hb.has]
 refine⟨fun _=>?_,fun _=>⟨fun _=>?_,fun _=>⟨fun _=>?_,fun _=>⟨fun _=>?_,fun _=>?_⟩⟩⟩⟩
 ·refine aN ty (eS.ne ⟨[],rfl,by simp⟩) ?_
  intro r o hr
  obtain⟨q',s,rfl,rfl,hd⟩:=kn _ _ r o (by omega) (by omega) hr
  simp only[↓zq,zs,ac,aM,hb.has];exact hd
 ·refine aN sh (eS.ne ⟨[],rfl,by simp⟩) ?_
  intro r o hr
  obtain⟨q',s,rfl,rfl,hd⟩:=kn _ _ r o (by simp[nG]) (by simp[nF]) hr
  simp only[↓zq,zs,ac,aM,hb.has];exact hd
 ·refine aN sh (eS.ne ⟨[],rfl,by simp⟩) ?_
  intro r o hr
  obtain⟨q',s,rfl,rfl,hd⟩:=kn _ _ r o (by simp[nG]) (by simp[nF]) hr
  simp only[↓zq,zs,ac,aM,hb.has];exact hd
 ·refine aN sh (eS.ne ⟨[],rfl,by simp⟩) ?_
  intro r o hr
  obtain⟨q',s,rfl,rfl,hd⟩:=kn _ _ r o (by simp[nG]) (by simp[nF]) hr
  simp only[↓zq,zs,ac,aM,hb.has];exact hd
 ·refine aN kw (eS.ne ⟨[],rfl,by simp⟩) ?_
  intro r o hr
  obtain⟨q',s,rfl,rfl,hd⟩:=kn _ _ r o (by omega) (by omega) hr
  simp only[↓zq,zs,ac,aM,hb.has];exact hd
def Me:AV->Prop:=fun r=>∃s t:Nm,r=.cA [.v (.string (mk s)),.v (.string (mk t))]
theorem TO(b:AV)(l:List UInt8)(hb:s7 b l)(p:Nat)(hp:p<10000000000000):ap Tryz.prog 51 [.ref 0 0] [.cells [b,.v (.int .i64 (p:Int))]] (eS b p 50000000000 Me):=by
 refine Tt _ _ hb.has ?_
 unfold ND
 refine aN (SW b l hb p (by omega)) (eS.ne ⟨[],rfl,by simp⟩) ?_
 rintro r o ⟨q,h1,h2,⟨s,rfl,_⟩,rfl⟩
 simp only[↓zq,zs,ac,aM,hb.has]
 refine aN (JN b l hb q (by omega) s) (eS.ne ⟨[],rfl,by simp⟩) ?_
 rintro r o ⟨q1,g1,g2,⟨t,rfl,_⟩,rfl⟩
 simp only[↓zq,zs,ac,aM,hb.has]
 exact⟨q1,by omega,by omega,⟨s,t,rfl⟩,rfl⟩
theorem QC(b:AV)(l:List UInt8)(hb:s7 b l)(p:Nat)(hp:p<1000000000000):ap Tryz.prog 28 [.ref 0 0] [.cells [b,.v (.int .i64 (p:Int))]] (eS b p 60000000000 Me):=by
 refine QT _ _ hb.has ?_
 unfold JL
 have hfar:qE=1000000000000000:=rfl
 refine aN (Bz b l hb p (by omega)) (eS.ne ⟨[],rfl,by simp⟩) ?_
 rintro r o ⟨q,h1,h2,⟨s,rfl,_⟩,rfl⟩
 simp only[↓zq,zs,ac,aM,hb.has]
 refine aN (xR b l hb q 12 (by omega) (by decide)) (eS.ne ⟨0,rfl,fun h=>by omega,by omega⟩) ?_
 rintro r o ⟨q1,g1,g2,⟨k,rfl,_,_⟩,rfl⟩
 simp only[↓zq,zs,ac,aM,hb.has]
 refine⟨fun _=>?_,fun _=>?_⟩
 ·refine aN (TO b l hb q1 (by omega)) (eS.ne ⟨[],[],rfl⟩) ?_
  rintro r o ⟨q2,e1,e2,⟨x,y,rfl⟩,rfl⟩
  simp only[↓zq,zs,ac,zt,aM,hb.has]
  exact⟨q2,by omega,by omega,⟨x,y,rfl⟩,rfl⟩
 ·refine aN (JN b l hb q1 (by omega) s) (eS.ne ⟨[],rfl,by simp⟩) ?_
  rintro r o ⟨q2,e1,e2,⟨t,rfl,_⟩,rfl⟩
  simp only[↓zq,zs,ac,aM,hb.has]
  exact⟨q2,by omega,by omega,⟨s,t,rfl⟩,rfl⟩
end Go.Proofs.Trees
namespace Go.Proofs.Trees
open Go Go.VL Go.RowKit
theorem LG(a b:AV)(l r:List Int)(ha:im a l)(hb:im b r)(he:l.length=r.length)(hl:l.length<=2000000):∀(m i:Nat),i+m=l.length->l.take i=r.take i->HZ [a,b,.v (.int .i64 (i:Int))] [] (nL (if l=r then(1,[],[])else(2,[.v (.bool false)],[])))
 |
  0,i,hi,ht=>by
  refine Mr _ _ _ ?_
  have:l=r:=by rw[List.take_of_length_le (by omega),List.take_of_length_le (by omega)]at ht;exact ht
  simp only[Ih,↓zq,zs,ac,ha.len]
  exact⟨ha.1,hb.1,ha.1,fun h=>by omega,fun _=>by simp[nL,this]⟩
 |
  m+1,i,hi,ht=>by
  have hlt:i<l.length:=by omega
  have hlt2:i<r.length:=by omega
  refine Mr _ _ _ ?_
  simp only[Ih,↓zq,zs,ac,zt,ha.len,hb.len,ha.idx hlt,hb.idx hlt2,bx]
  refine⟨ha.1,hb.1,ha.1,fun _=>⟨⟨ha.1,by omega,by omega⟩,by omega,⟨hb.1,by omega,by omega⟩,by omega,fun h=>?_,fun h=>?_⟩,fun h=>by omega⟩
  ·have:¬l=r:=fun e=>by subst e;exact h rfl
   simp[nL,this]
  ·rw[bp i (by omega)]
   refine LG a b l r ha hb he hl m (i+1) (by omega) ?_
   have hg:l[i]=r[i]:=by simpa[aa,hlt,hlt2]using h
   rw[List.take_succ_eq_append_getElem hlt,List.take_succ_eq_append_getElem hlt2,ht,hg]
theorem Tn(a b:AV)(l r:List Int)(ha:im a l)(hb:im b r)(hl:l.length<=2000000):ap Tryz.prog 13 [a,b] [] (bG (.v (.bool (decide (l=r))))):=by
 refine TX _ _ ha.1 hb.1 ?_
 simp only[Lk,↓zq,zs,ac,ha.len,hb.len]
 refine⟨ha.1,hb.1,fun h=>?_,fun h=>?_⟩
 ·have:¬l=r:=fun e=>by subst e;exact h rfl
  simp[this,bG]
 ·refine fg (LG a b l r ha hb (by omega) hl l.length 0 (by omega) (by simp)) (fun ys o e=>?_) (fun ys o e=>?_)
  ·split at e
   ·rename_i q;simp[↓zq,zs,ac,bG,q]
   ·cases e
  ·split at e
   ·cases e
   ·rename_i q;cases e;simp[↓zq,zs,ac,bG,q]
abbrev pZ(p:List Nat):List Int:=p.map Int.ofNat
abbrev K9(p:List Nat):AV:=.sl (fN p)
theorem Fh(p:List Nat):im (K9 p) (pZ p):=⟨(bT _).mpr trivial,by rw[fj,xm]⟩
theorem DB(f:List Nat->AV){l:List Pt}{i:Nat}(hi:i<l.length):(fY f l).getD i []=[f (l[i]).2]:=by simp[fY,aa,hi]
theorem O1(l:List Pt)(hl:l.length<=1000):∀(k i:Nat) (out:List Pt),i+k=l.length->out.length+k<=1000 ->
 I5 [.sl (mM l),.v (.bool true),.v (.int .i64 (i:Int))] [.vec 1 (fY K9 out)] (gj 1 [.v (.bool true)] [.vec 1 (fY K9 (out++l.drop i))])
 |
  0,i,out,hi,ho=>by
  refine IX _ _ _ _ ?_
  have:i=l.length:=by omega
  subst this
  simp only[D5,↓zq,zs,ac,kO]
  exact⟨fun h=>by omega,fun _=>by simp[gj]⟩
 |
  k+1,i,out,hi,ho=>by
  have hlt:i<l.length:=by omega
  refine IX _ _ _ _ ?_
  simp only[D5,↓zq,zs,ac,zt,kO,BW hlt,jC]
  refine⟨fun _=>⟨fun _=>?_,fun h=>(by cases h)⟩,fun h=>by omega⟩
  repeat refine⟨by omega,?_⟩
  refine⟨⟨yK _,by omega⟩,?_⟩
  have:=O1 l hl k (i+1) (out++[l[i]]) (by omega) (by simp;omega)
  rw[bp i (by omega),aP hlt]
  rw[aW,<-uV K9 out]at this
  exact this
theorem Rd(s v:Nm):ap Tryz.prog 20 [.v (.string (mk s)),.v (.string (mk v))] [] (bG (.cA [.sl (fY K9 ((fK s v).getD [])),.v (.bool (fK s v).isSome)])):=by
 refine Ta _ _ ?_
 unfold Jz
 refine aN (Ra s v) (LZ.ne _ s v) ?_
 rintro r o ⟨rfl,x,hx,rfl,hl⟩
 cases h:fK s v with
 |
  none =>
  simp only[↓zq,zs,ac,hx,bn]
  refine co (ys:=[.v (.bool false)]) (o:=[.vec 1 []]) ?_ ?_
  ·refine IX _ _ _ _ ?_
   simp only[D5,↓zq,zs,ac,hx]
   exact⟨fun _=>⟨fun h=>(by cases h),fun _=>⟨rfl,rfl,rfl⟩⟩,fun _=>⟨rfl,rfl,rfl⟩⟩
  ·simp[↓zq,zs,ac,bG,h,fY,Ob.es]
 |
  some l =>
  rw[hl l h]
  have:=(sf h).1
  simp only[↓zq,zs,ac,a6,kO]
  have:=O1 l (by omega) l.length 0 [] (by omega) (by simp;omega)
  rw[aZ,aR]at this
  refine co this ?_
  simp[↓zq,zs,ac,bG,h,Ob.es]
end Go.Proofs.Trees
namespace Go.Proofs.Trees
open Go Go.VL Go.RowKit
def Th:AV->List Ob->Prop:=fun r o=>o=[]/\∃(s v:Nm) (a:AV) (pl:List Int),im a pl/\pl.length<=2000/\r=.cA [.v (.string (mk s)),.v (.string (mk v)),a]
theorem Fx(x y:Int):im (.sl [[.v (.int .i64 x)],[.v (.int .i64 y)]]) [x,y]:=⟨(bT _).mpr trivial,rfl⟩
theorem Sn(a:AV)(ha:yG a):ap Tryz.prog 7 [a] [] Th:=by
 refine QN _ ha.1 ?_
 unfold OT
 have hfar:qE=1000000000000000:=rfl
 refine aN (RA a ha) P9.ne ?_
 rintro r o ⟨b,l,hb,rfl,rfl⟩
 simp only[↓zq,zs,ac,zt,hb.has]
 refine⟨by simp[bz,hb.has,l6],aN (QC b l hb 0 (by omega)) (eS.ne ⟨[],[],rfl⟩) ?_⟩
 rintro r o ⟨q,a1,a2,⟨s,t,rfl⟩,rfl⟩
 simp only[↓zq,zs,ac,zt,aM,hb.has]
 refine ai (Rd s t) ?_
 simp only[↓zq,zs,ac,zt,aM,hb.has,jC]
 have pk:∀(q n:Nat),q<=100000000000->n<=2000->ap Tryz.prog 29 [.ref 0 0,.v (.int .i64 (n:Int))] [.cells [b,.v (.int .i64 (q:Int))]] (eS b q 1 (zd n)):=fun q n h1 h2=>xR b l hb q n (by omega) (by omega)
 have ne:∀(q n:Nat),∃r o,eS b q 1 (zd n) r o:=fun q n=>eS.ne ⟨0,rfl,fun h=>by omega,by omega⟩
 refine⟨fun hs=>?_,fun hs=>?_⟩
 ·obtain⟨ps,hp⟩:=bF.1 hs
  obtain⟨w,l',_,hl'⟩:=wL hp
  have hpl:=(sf hp).1
  have hpd:=ug hp
  refine aN (pk q 6 (by omega) (by omega)) (ne q 6) ?_
  rintro r o ⟨q1,b1,b2,⟨k,rfl,_,_⟩,rfl⟩
  simp only[↓zq,zs,ac,zt,aM,hb.has,hp,cv,jC]
  refine⟨fun _=>?_,fun _=>?_⟩
  ·refine aN (pk q1 ps.length (by omega) (by omega)) (ne q1 _) ?_
   rintro r o ⟨q2,c1,c2,⟨k2,rfl,hk,_⟩,rfl⟩
   have hk:=hk (by rw[hl'];simp)
   simp only[↓zq,zs,ac,zt,aM,hb.has,jC,bx,DB _ hk,eq_true (Fh (ps[k2]).2).1]
   repeat refine⟨by omega,?_⟩
   exact⟨rfl,s,t,_,_,Fh _,by have:=hpd _ (bB hk);simp;omega,rfl⟩
  ·refine aN (pk q1 3 (by omega) (by omega)) (ne q1 _) ?_
   rintro r o ⟨q2,c1,c2,⟨k2,rfl,_,_⟩,rfl⟩
   simp only[↓zq,zs,ac,zt,aM,hb.has]
   refine aN (pk q2 3 (by omega) (by omega)) (ne q2 _) ?_
   rintro r o ⟨q3,d1,d2,⟨k3,rfl,_,_⟩,rfl⟩
   simp only[↓zq,zs,ac,zt,aM,hb.has]
   refine aN (pk q3 8 (by omega) (by omega)) (ne q3 _) ?_
   rintro r o ⟨q4,e1,e2,⟨k4,rfl,_,_⟩,rfl⟩
   simp only[↓zq,zs,ac,zt,aM,hb.has]
   repeat refine⟨by omega,?_⟩
   exact⟨rfl,s,t,_,_,Fx _ _,by simp,rfl⟩
 ·refine aN (pk q 3 (by omega) (by omega)) (ne q _) ?_
  rintro r o ⟨q2,c1,c2,⟨k2,rfl,_,_⟩,rfl⟩
  simp only[↓zq,zs,ac,zt,aM,hb.has]
  refine aN (pk q2 3 (by omega) (by omega)) (ne q2 _) ?_
  rintro r o ⟨q3,d1,d2,⟨k3,rfl,_,_⟩,rfl⟩
  simp only[↓zq,zs,ac,zt,aM,hb.has]
  refine aN (pk q3 8 (by omega) (by omega)) (ne q3 _) ?_
  rintro r o ⟨q4,e1,e2,⟨k4,rfl,_,_⟩,rfl⟩
  simp only[↓zq,zs,ac,zt,aM,hb.has]
  repeat refine⟨by omega,?_⟩
  exact⟨rfl,s,t,_,_,Fx _ _,by simp,rfl⟩
theorem S2(a:AV)(ha:yG a):ap Tryz.prog 3 [a] [] (bG (.v (.bool true))):=by
 refine Rh _ ha.1 ?_
 simp only[M4,↓zq,zs,ac,zt,bG]
 refine⟨ha.1,fun _=>trivial,fun _=>?_⟩
 refine aN (Sn a ha) ⟨_,_,rfl,[],[],_,[],.nil,by simp,rfl⟩ ?_
 rintro r o ⟨rfl,s,f,pa,pl,hz,hzl,rfl⟩
 simp only[↓zq,zs,ac,zt,eq_true hz.1]
 have hgz:=Gr s (o:=Cu s f pl) (A5 s f pl).gz
 have EQ:=fun(w:AV) hw=>Su (tZ s (Cu s f pl)).1 (tZ s (Cu s f pl)).2.2 _ w _ (cB.of (tZ s (Cu s f pl)).2.1) hw (by omega)
 refine ba (RM s f pa pl hz (by omega)) ?_
 simp only[↓zq,zs,ac,zt,aM,Ob.es,bf]
 refine⟨sn _,?_⟩
 refine aN (Tu s f pa pl hz) (u6.ne _ _) ?_
 rintro r o ⟨rfl,w,hw,rfl⟩
 simp only[↓zq,zs,ac,zt,bz]
 refine⟨hw.1,fun h=>by simp at h,fun _=>?_⟩
 refine ai (EQ w hw) ?_
 simp only[↓zq,zs,ac]
 cases hr:Cu s f pl with
 |
  none =>
  rw[hr]at EQ hw
  refine⟨fun h=>by simp at h,fun _=>⟨fun _=>⟨fun _=>ai (EQ w hw) ?_,fun h=>absurd rfl h⟩,fun h=>by simp at h⟩⟩
  simp only[↓zq,zs,ac]
 |
  some r =>
  obtain⟨e1,e2⟩:=Bh hr
  have WC:=TC s (.sl (bY (r.1.map (·.cE)))) _ (cB.of _) r.2.cE
  have WP:=SY s (.sl (bY (r.1.map (·.cE)))) _ (cB.of _) r.2.cE
  rw[e2]at WC
  rw[e1]at WP
  refine⟨fun h=>by simp at h,fun _=>⟨fun h=>by simp at h,fun _=>ba WP ?_⟩⟩
  simp only[↓zq,zs,ac,zt,Ob.es,bf,T2]
  refine⟨vB _,ai WC ?_⟩
  simp only[su,↓zq,zs,ac,zt,a6,cv]
  refine⟨fun _=>⟨fun _=>ai (Tn _ _ pl pl (.of _) hz (by omega)) ?_,fun h=>by simp at h⟩,fun h=>by simp at h⟩
  simp[↓zq,zs,ac]
end Go.Proofs.Trees
