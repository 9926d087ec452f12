/-
  Part of a proof: Go functions read by values, trees of functions, their contracts.
-/
import Derived.Test.YtfdpbglppfohhaaGreatDoorP5
set_option linter.unusedVariables false
set_option linter.unusedSimpArgs false
open Bool renaming and_eq_true→ap,eq_iff_iff→cq,or_eq_false_iff→cv,or_eq_true→bw,true_and→bP
open ByteArray renaming toList→ae
open Int renaming toNat_natCast→bJ
open List renaming all_cons→cW,all_eq_true→bR,append_assoc→aW,append_nil→cE,cons_append→a7,drop_eq_getElem_cons→aK,drop_zero→aZ,eq_nil_of_length_eq_zero→bU,getD_cons_zero→bo,getD_eq_getElem?_getD→aa,getElem?_eq_getElem→bf,getElem_mem→bx,headD_cons→aS,length_append→ax,length_cons→aB,length_map→bZ,length_nil→aJ,map_append→dO,map_cons→bE,mem_append→aI,mem_append_left→ay,mem_append_right→aw,mem_cons→aF,mem_cons_of_mem→ak,mem_cons_self→aj,mem_map→cf,mem_singleton→aP,nil_append→aM,tail_cons→bG
open Nat renaming le_add_right→dk,le_refl→aq,lt_of_lt_of_le→df,mul_add→cS,mul_one→dE,zero_add→aU
open Option renaming bind_eq_some_iff→bc,bind_none→bC,bind_some→aR,getD_some→cD,isSome_iff_exists→ck,isSome_none→bq,isSome_some→a8,map_some→cy
open UInt8 renaming ofNat→ba
namespace Go.Proofs.Trees
open Go Go.VL Go.RowKit
theorem HZ(a:AV)(os:List E)(ha:LK.sl.has a/\a.aN=E.bm os)(ho:∀o,o∈os->Wf o/\o.sz<5000)(hl:os.length<100)(t:ByteArray)(p:AV)(hp:LK.sl.has p):∀(k i:Nat) (F:List Nm),i+k=os.length->F.length<=5000+5000*i ->
 Gp [a,.v (.int .i64 (i:Int))] [.cells [.v (.string t),p],zE,.vec 1 (bj F)] (gD 1 [] [.cells [.v (.string t),p],zE,.vec 1 (bj (F++rh (os.drop i)))])
 |
  0,i,F,hi,hF=>by
  refine JR _ _ _ _ _ _ _ ?_
  have:i=os.length:=by omega
  subst this
  simp only[Ee,↓zq,zs,ac,zt,ac,hp,bp,ha.1,ha.2,dW,List.drop_length]
  exact⟨fun h=>by omega,fun _=>by simp[gD,rh]⟩
 |
  k+1,i,F,hi,hF=>by
  have hlt:i<os.length:=by omega
  obtain⟨hw,hsz⟩:=ho _ (bx hlt)
  have hfl:=fZ (os[i]) [] []
  refine JR _ _ _ _ _ _ _ ?_
  simp only[Ee,↓zq,zs,ac,zt,ac,hp,bp,ha.1,ha.2,dW,vC hlt,aQ,bJ]
  refine⟨fun _=>?_,fun h=>by omega⟩
  repeat refine⟨by omega,?_⟩
  have hfre:=Dp hw [] [] (.sl []) (.of []) (by simp;omega)
  refine aT hfre ?_
  simp only[↓zq,zs,ac,zt,aS,bG,Ob.es,j6,<-wE]
  rw[bg i (by omega),zr os hlt,<-aW]
  simp only[aJ,aU]at hfl
  refine⟨⟨j0 _,by omega⟩,?_⟩
  exact HZ a os ha ho hl t p hp k (i+1) _ (by omega) (by simp;omega)
def zD(e:E)(os:List E):List Nm:=kb e [] []++rh os
def Ae(e:E)(os:List E):E:=(gT (zD e os) (cP e []) [] 0).1
theorem CT{e:E}{os:List E}(h:e.sz<=2000)(ho:∀o,o∈os->Wf o/\o.sz<=2000)(hl:os.length<=2):(zD e os).length<=6000:=by
 have h1:=fZ e [] []
 have h2:∀(l:List E),(∀o,o∈l->o.sz<=2000)->(rh l).length<=2000*l.length:=by
  intro l
  induction l with
  |nil=>intro _;simp[rh]
  |
   cons o l ih =>
   intro hl
   have:=ih fun q hq=>hl q (ak _ hq)
   have:=hl o aj
   have:=fZ o [] []
   simp only[rh,List.flatMap_cons,ax,aB,aJ]at *
   omega
 have:=h2 os fun o ho'=>(ho o ho').2
 simp only[zD,ax,aJ]at *
 omega
theorem D9{e:E}(h:Wf e)(a:AV)(os:List E)(ha:LK.sl.has a/\a.aN=E.bm os)(he:e.sz<=2000)(ho:∀o,o∈os->Wf o/\o.sz<=2000)(hl:os.length<=2) :
 an Tryz.prog 106 [.agg [.v (.string (mk e.at)),e.sp],a] [] (bA (.agg [.v (.string (mk (Ae e os).at)),(Ae e os).sp])):=by
 refine P8 _ _ _ ((a6 _).mpr trivial) ha.1 ?_
 unfold Mf
 have hfl:=fZ e [] []
 simp only[aJ,aU]at hfl
 have hap:=CT he ho hl
 have hats:(cP e []).az<=2000:=by
  rw[<-h.dA []]
  have:e.dA<=e.sz:=by
   clear hap hfl ha he ho hl
   induction h with
   |atom _=>simp[E.dA,E.sz]
   |plus _ _ i1 i2=>simp only[E.dA,E.fJ,E.sz,E.jH];omega
   |times _ _ i1 i2=>simp only[E.dA,E.fJ,E.sz,E.jH];omega
   |rc _ _ i=>simp only[E.dA,E.fJ,E.sz,E.jH];omega
  omega
 have hfre:=Dp h [] [] (.sl []) (.of []) (by simp;omega)
 simp only[↓zq,zs,ac,zt]
 refine aT hfre ?_
 simp only[↓zq,zs,ac,zt,aS,bG,Ob.es]
 have hlp:=HZ a os ha (fun o hq=>⟨(ho o hq).1,by have:=(ho o hq).2;omega⟩) (by omega) (mk e.at) e.sp ((a6 _).mpr trivial) os.length 0 (kb e [] []) (by omega) (by omega)
 rw[aZ]at hlp
 refine cr hlp ?_
 simp only[↓zq,zs,ac,zt,ac,bn,bp,a6,aS,bG,Ob.es]
 have hmul:((zD e os).length+1)*(cP e []).az<=6001*2000:=Nat.mul_le_mul (by omega) hats
 have hren:=Q6 (zD e os) (by omega) h [] [] (.sl []) (.sl []) 0 (.of []) (.of []) rfl (fun w hw=>by cases hw) (by simp;omega) (by omega)
 refine aT hren ?_
 simp only[↓zq,zs,ac,zt,bn,aQ]
 repeat refine⟨by omega,?_⟩
 exact⟨rfl,rfl⟩
end Go.Proofs.Trees
namespace Go.Proofs.Trees
open Go Go.VL Go.RowKit
def fV(t:Ty):Prop:=jX t 0/\∀y,bh y t=true->rO y
theorem gA:∀(t:Ty) {i j:Nat},jX t i->i<=j->jX t j
 | .bN u,i,j,h,hj=>df h hj
 | .plus a b,i,j,h,hj=>⟨gA a h.1 hj,gA b h.2 hj⟩
 | .times a b,i,j,h,hj=>⟨gA a h.1 hj,gA b h.2 hj⟩
 | .rc a,i,j,h,hj=>gA (i:=i+1) (j:=j+1) a h (by omega)
 | .zero,_,_,_,_=>trivial
 | .one,_,_,_,_=>trivial
 | .name _,_,_,_,_=>trivial
theorem iJ(x:Nm):∀(t:Ty) {i:Nat},jX t (i+1)->jX (dK (.name x) t i) i
 |
  .bN u,i,h=>by
  simp only[dK]
  split
  ·trivial
  ·have:u<i+1:=h
   show u<i;omega
 | .plus a b,i,h=>⟨iJ x a h.1,iJ x b h.2⟩
 | .times a b,i,h=>⟨iJ x a h.1,iJ x b h.2⟩
 | .rc a,i,h=>iJ x (i:=i+1) a h
 | .zero,_,_=>trivial
 | .one,_,_=>trivial
 | .name _,_,_=>trivial
theorem kw{x:Nm}{u:Ty}(hu:jX u 0):∀(t:Ty) {i:Nat},jX t i->jX (sub x u t) i
 | .name s,i,_=>by simp only[sub];split;exact gA u hu (Nat.zero_le _);trivial
 | .plus a b,i,h=>⟨kw hu a h.1,kw hu b h.2⟩
 | .times a b,i,h=>⟨kw hu a h.1,kw hu b h.2⟩
 | .rc a,i,h=>kw hu (i:=i+1) a h
 | .zero,_,_=>trivial
 | .one,_,_=>trivial
 | .bN _,_,h=>h
theorem Dv.lc{t d:Ty}{s:Nm}(h:Dv t s d):jX t 0->jX d 0:=by
 induction h with
 |zero s=>exact fun _=>trivial
 |one s=>exact fun _=>trivial
 |bN k s=>exact fun _=>trivial
 |hit s=>exact fun _=>trivial
 |qt h=>exact fun _=>trivial
 |plus h1 h2 hl i1 i2=>exact fun h=>⟨i1 h.1,i2 h.2⟩
 |times h1 h2 hl i1 i2=>exact fun h=>⟨⟨i1 h.1,h.2⟩,h.1,i2 h.2⟩
 |
  rc x hx hs h1 h2 hl i1 i2 =>
  intro h
  have g1:=kw (x:=x) h _ (i1 (iJ x _ h))
  have g2:=kw (x:=x) h _ (i2 (iJ x _ h))
  exact⟨gA _ g1 (by omega),gA _ g2 (by omega),Nat.zero_lt_one⟩
theorem Wf.qL{e:E}(h:Wf e):fV (cP e []):=⟨tY h [],fun y hy=>(mO h [] y hy).1⟩
theorem fV.dv{t d:Ty}{s:Nm}(g:fV t)(h:Dv t s d):fV d:=⟨h.lc g.1,fun y hy=>g.2 y (h.names y hy)⟩
theorem fV.tree{t:Ty}(g:fV t):∃e,Wf e/\cP e []=t:=by
 obtain⟨h1,h2,_⟩:=kq (bH t []) t [] 0 (.nil _ _) g.1 fun y hy=>⟨(eF t [] y).2 (.inr hy),g.2 y hy⟩
 exact⟨_,h1,h2⟩
theorem fV.sub{x:Nm}{u t:Ty}(hu:fV u)(ht:fV t):fV (sub x u t):=⟨kw hu.1 t ht.1,fun y hy=>by
 rcases iV t hy with h|h
 ·exact hu.2 y h
 ·exact ht.2 y h.2⟩
def kO(o:Option Ty):AV->List Ob->Prop:=fun r ob=>ob=[]/\∃(c:Nm) (d:AV),LK.sl.has d/\r=.cI [.agg [.v (.string (mk c)),d],.v (.bool o.isSome)]/\∀t,o=some t->∃e,Wf e/\cP e []=t/\c=e.at/\d=e.sp
theorem kO.ne{o:Option Ty}(h:∀t,o=some t->fV t):∃r ob,kO o r ob:=by
 cases o with
 |none=>exact⟨_,_,rfl,[],xl,(bp).mpr trivial,rfl,fun t h=>by cases h⟩
 |
  some t =>
  obtain⟨e,h1,h2⟩:=(h t rfl).tree
  exact⟨_,_,rfl,e.at,e.sp,(a6 _).mpr trivial,rfl,fun t' h'=>by cases h';exact⟨e,h1,h2,rfl,rfl⟩⟩
theorem kO.of{e:E}(h:Wf e):kO (some (cP e [])) (.cI [.agg [.v (.string (mk e.at)),e.sp],.v (.bool true)]) [] :=
 ⟨rfl,e.at,e.sp,(a6 _).mpr trivial,rfl,fun t h'=>by cases h';exact⟨e,h,rfl,rfl,rfl⟩⟩
theorem kO.no(c:Nm)(d:AV)(hd:LK.sl.has d):kO none (.cI [.agg [.v (.string (mk c)),d],.v (.bool false)]) [] :=
 ⟨rfl,c,d,hd,rfl,fun t h'=>by cases h'⟩
theorem gu{c:ByteArray}{d:AV}(h:LK.sl.has d):bB [.str,.sl] [.v (.string c),d] 0=True:=by simp[bB,eg,h]
theorem AU{e:E}{os:List E}(h:Wf e):Wf (Ae e os)/\cP (Ae e os) []=cP e []/\th (·∉zD e os) (Ae e os):=by
 obtain⟨h1,h2,_,_,h5⟩:=kq (zD e os) (cP e []) [] 0 (.nil _ _) (tY h []) fun y hy=>⟨ay _ ((lB h [] [] y).2 (.inr hy)),(mO h [] y hy).1⟩
 exact⟨h1,h2,h5⟩
theorem rG{os:List E}{o:E}(ho:o∈os)(hw:Wf o){y:Nm}(hy:bh y (cP o [])=true):y∈rh os :=
 List.mem_flatMap.2 ⟨o,ho,(lB hw [] [] y).2 (.inr hy)⟩
theorem qV{s:Nm}(hs:rO s):cP (.atom s) []=.name s:=iQ hs (by simp)
theorem Q1{x:Nm}(hx:rO x){e u:E}(h:Wf e)(hu:Wf u)(hl:e.dA<=400)(hlu:u.dA<=400):∃g,Wf g/\cP g []=sub x (cP u []) (cP e [])/\an Tryz.prog 172 [.agg [.v (.string (mk e.at)),e.sp],.v (.string (mk x)),.agg [.v (.string (mk u.at)),u.sp]] [] (bA (.agg [.v (.string (mk g.at)),g.sp])):=by
 obtain⟨w1,w2,w3⟩:=AU (os:=[u,.atom x]) h
 have hap:th (fun n=>n≠x/\bh n (cP u [])=false) (Ae e [u,.atom x]):=Az (fun n hn=>⟨fun e1=>hn (by
  subst e1
  exact aw _ (rG (o:=.atom n) (by simp) (.atom hx.1) (by rw[qV hx];simp[bh]))),by
  cases q:bh n (cP u [])with
  |false=>rfl
  |true=>exact absurd (aw _ (rG (o:=u) (by simp) hu q)) hn⟩) w1 w3
 obtain⟨p1,p2⟩:=Cd hx hu w1 hap [] (by simp) (fun y hy=>by cases hy)
 refine⟨_,p1,by rw[p2,w2],?_⟩
 refine Oq _ _ _ _ _ ((a6 _).mpr trivial) ((a6 _).mpr trivial) ?_
 unfold I0
 have s1:=h.sz
 have s2:=hu.sz
 have hA:=D9 h (.sl [[.v (.string (mk u.at)),u.sp],[.v (.string (mk x)),xl]]) [u,.atom x] ⟨(ca _).mpr trivial,by simp only[fS,E.bm,fB];rfl⟩ (by omega) (fun o ho=>by
  simp only[aF,List.not_mem_nil,or_false]at ho
  rcases ho with rfl|rfl
  ·exact⟨hu,by omega⟩
  ·exact⟨.atom hx.1,by simp[E.sz]⟩) (by simp)
 refine ah hA ?_
 simp only[↓zq,zs,ac,zt,aQ]
 repeat refine⟨by omega,?_⟩
 refine ah (Of x u w1) ?_
 simp only[↓zq,zs,ac,zt,aQ]
 repeat refine⟨by omega,?_⟩
 exact⟨rfl,rfl⟩
theorem FL{x:Nm}(hx:rO x){e u:E}(h:Wf e)(hu:Wf u)(hl:e.dA<=400)(hlu:u.dA<=400):an Tryz.prog 167 [.agg [.v (.string (mk e.at)),e.sp],.v (.string (mk x)),.agg [.v (.string (mk u.at)),u.sp]] [] (kO (nh (sub x (cP u []) (cP e [])))):=by
 refine N3 _ _ _ _ _ ((a6 _).mpr trivial) ((a6 _).mpr trivial) ?_
 unfold Kq
 refine ah (OT hx h hu (by omega) (by omega)) ?_
 simp only[↓zq,zs,ac,zt]
 refine⟨fun hn=>?_,fun hy=>?_⟩
 ·rw[show nh (sub x (cP u []) (cP e []))=none by unfold nh;rw[if_neg hn]]
  exact kO.no _ _ ((a6 _).mpr trivial)
 ·rw[show nh (sub x (cP u []) (cP e []))=some (sub x (cP u []) (cP e [])) by unfold nh;rw[if_pos hy]]
  obtain⟨g,g1,g2,g3⟩:=Q1 hx h hu hl hlu
  refine ah g3 ?_
  simp only[↓zq,zs,ac,zt,aQ]
  repeat refine⟨by omega,?_⟩
  rw[<-g2]
  exact kO.of g1
end Go.Proofs.Trees
namespace Go.Proofs.Trees
open Go Go.VL Go.RowKit
theorem AN(w:Nm)(c1 c2:Nm)(d1 d2:AV):an Tryz.prog 98 [.v (.string (mk w)),.sl [[.v (.string (mk c1)),d1],[.v (.string (mk c2)),d2]]] [] (bA (.agg [.v (.string (mk [])),.sl [[.v (.string (mk w)),xl],[.v (.string (mk c1)),d1],[.v (.string (mk c2)),d2]]])):=by
 refine JD _ _ ((ca _).mpr trivial) ?_
 simp only[Es,↓zq,zs,ac,bA]
 exact⟨⟨fun c hc=>by
  simp only[aF,List.not_mem_nil,or_false]at hc
  rcases hc with rfl|rfl<;>rfl,by omega⟩,rfl⟩
theorem JF(F:List Nm)(hF:F.length<100000)(c1 c2:Nm)(d1 d2:AV)(h1:LK.sl.has d1)(h2:LK.sl.has d2):∀(n j:Nat),pL F n j<j+n->j+n<100000000 ->
 Hh [.v (.int .i64 (j:Int))] [zE,.cells [.v (.string (mk c1)),d1],.cells [.v (.string (mk c2)),d2],.vec 1 (bj F)] (gD 1 [.v (.int .i64 (pL F n j:Int))] [zE,.cells [.v (.string (mk c1)),d1],.cells [.v (.string (mk c2)),d2]])
 |0,j,h,_=>by simp only[pL]at h;omega
 |
  n+1,j,h,hj=>by
  refine QR _ _ _ _ _ _ _ _ ?_
  simp only[Kl,↓zq,zs,ac,zt,ac,bp,h1,h2]
  refine ah (BC (j+1) j (by omega) (by omega)) ?_
  have hd:=lz (j+1) j (by omega)
  simp only[↓zq,zs,ac,zt,a7,aM]
  refine⟨by simp[cw];omega,?_⟩
  refine ah (zy F _ (.of F) (tN j) (by omega)) ?_
  simp only[↓zq,zs,ac,zt]
  rw[pL]at h |-
  refine⟨fun hm=>?_,fun hm=>?_⟩
  ·rw[if_pos hm]at h |-
   rw[bg j (by omega)]
   exact JF F hF c1 c2 d1 d2 h1 h2 n (j+1) (by omega) (by omega)
  ·rw[if_neg hm]
   exact⟨rfl,rfl,rfl⟩
theorem tX{x:Nm}{a c d:Ty}(h:(oR a x c d).az<=400):(sub x (.rc a) c).az<=400/\(sub x (.rc a) d).az<=400:=by
 simp only[oR,Ty.az]at h;omega
theorem Wf.iG{e:E}(h:Wf e){t:Ty}(ht:cP e []=t)(hl:t.az<=400):e.dA<=400:=by rw[h.dA [],ht];exact hl
def Rt(n:Nat):Prop:=∀(e:E) (s:Nm),Wf e->e.dA<=n->e.dA<=400->rO s->an Tryz.prog 166 [.agg [.v (.string (mk e.at)),e.sp],.v (.string (mk s))] [] (kO (lm (cP e []) s))
theorem j8{e:E}{s:Nm}(h:Wf e):∀t,lm (cP e []) s=some t->fV t:=fun t ht=>h.qL.dv (cU.1 ht)
theorem qN{t:Ty}(h:fV t):∀d,nh t=some d->fV d:=fun d hd=>by obtain⟨_,rfl⟩:=eT.1 hd;exact h
theorem Qi(n:Nat)(ih:Rt n)(m:Nm)(B:E)(hm:rO m)(hB:Wf B)(hl:(E.list [.atom dX,.atom m,B]).dA<=n+1)(hl4:(E.list [.atom dX,.atom m,B]).dA<=400)(s:Nm)(hs:rO s) :
 an Tryz.prog 190 [.agg [.v (.string (mk [])),(E.list [.atom dX,.atom m,B]).sp],.v (.string (mk s))] [] (kO (lm (cP (.list [.atom dX,.atom m,B]) []) s)):=by
 have hw:Wf (.list [.atom dX,.atom m,B]):=.rc hm hB
 have hsz:=hw.sz
 have hA:=D9 hw (.sl [[.v (.string (mk s)),xl]]) [.atom s] ⟨(ca _).mpr trivial,by simp only[fS,E.bm,fB];rfl⟩ (by omega) (fun o ho=>by
  simp only[aF,List.not_mem_nil,or_false]at ho
  subst ho
  exact⟨.atom hs.1,by simp[E.sz]⟩) (by simp)
 have hatsB:B.dA+2=(E.list [.atom dX,.atom m,B]).dA:=by simp only[E.dA,E.fJ];omega
 have hT:cP (.list [.atom dX,.atom m,B]) []=.rc (cP B [m]):=eS _ _ _
 obtain⟨w1,w2,_,_,w5⟩:=kq (zD (.list [.atom dX,.atom m,B]) [.atom s]) (cP (.list [.atom dX,.atom m,B]) []) [] 0 (.nil _ _) (tY hw []) fun y hy=>⟨ay _ ((lB hw [] [] y).2 (.inr hy)),(mO hw [] y hy).1⟩
 have hsF:s∈zD (.list [.atom dX,.atom m,B]) [.atom s]:=aw _ (rG (o:=.atom s) (by simp) (.atom hs.1) (by rw[qV hs];simp[bh]))
 have haF:∀y,bh y (cP B [m])=true->y∈zD (.list [.atom dX,.atom m,B]) [.atom s]:=fun y hy=>ay _ ((lB hw [] [] y).2 (.inr (by rw[hT];exact hy)))
 unfold Ae at hA
 rw[hT]at hA w1 w2 w5
 rw[hT]
 generalize zD (.list [.atom dX,.atom m,B]) [.atom s]=F at *
 obtain⟨_,_,_,hxF⟩:=gx F 0
 simp only[gT,aM]at hA w1 w2 w5
 generalize hxd:tN (nx F 0)=x at *
 have hx:rO x:=by rw[<-hxd];exact xn _
 generalize (gT F (cP B [m]) [x] (nx F 0+1)).1=b at *
 have hb:Wf b:=by cases w1;assumption
 rw[eS]at w2
 have hbt:cP b [x]=cP B [m]:=by injection w2
 have hxa:bh x (cP B [m])=false:=by
  cases q:bh x (cP B [m])with
  |false=>rfl
  |true=>exact absurd (haF x q) hxF
 have hxs:x≠s:=fun e=>hxF (by rw[e];exact hsF)
 generalize cP B [m]=a at *
 have hbo:cP b []=dK (.name x) a 0:=by
  have:=xq x hb []
  rw[cE,hbt]at this;exact this
 have hba:b.dA+2=(E.list [.atom dX,.atom m,B]).dA:=by
  rw[hw.dA [],hT,hb.dA [],hbo,fE];simp only[Ty.az];omega
 have i1:=ih b s hb (by omega) (by omega) hs
 have i2:=ih b x hb (by omega) (by omega) hx
 have n1:=j8 (s:=s) hb
 have n2:=j8 (s:=x) hb
 rw[hbo]at i1 i2 n1 n2
 have hP:=P3.of (.atom dX) (.atom x) b
 rw[BB hxa hxs]
 have hE1:Wf (.list [.atom dX,.atom x,b]):=w1
 have hE1t:cP (.list [.atom dX,.atom x,b]) []=.rc a:=by rw[eS];exact w2
 have hE1l:(E.list [.atom dX,.atom x,b]).dA<=400:=by
  have:(E.list [.atom dX,.atom x,b]).dA=b.dA+2:=by simp only[E.dA,E.fJ];omega
  omega
 refine OV _ _ _ ((a6 _).mpr trivial) ?_
 unfold Ih
 refine ah hA ?_
 simp only[↓zq,zs,ac,zt,aQ,bS,toNat_one,bi,hP.1,hP.2.1,hP.2.2.1,hP.2.2.2,ep]
 repeat refine⟨by omega,?_⟩
 refine bO i1 (kO.ne n1) ?_
 rintro r o ⟨rfl,c1,d1,hd1,rfl,hc1⟩
 simp only[↓zq,zs,ac,zt,gu hd1]
 repeat refine⟨by omega,?_⟩
 refine bO i2 (kO.ne n2) ?_
 rintro r o ⟨rfl,c2,d2,hd2,rfl,hc2⟩
 simp only[↓zq,zs,ac,zt,gu hd2]
 cases q1:lm (dK (.name x) a 0) s with
 |
  none =>
  simp only[bq,bC]
  exact⟨fun _=>kO.no _ _ ((a6 _).mpr trivial),fun h=>(by cases h)⟩
 |some c =>
 cases q2:lm (dK (.name x) a 0) x with
 |
  none =>
  simp only[bq,a8,bC,aR]
  exact⟨fun h=>(by cases h),fun _=>⟨fun _=>kO.no _ _ ((a6 _).mpr trivial),fun h=>(by cases h)⟩⟩
 |some d =>
 simp only[a8,aR]
 refine⟨fun h=>(by cases h),fun _=>⟨fun h=>(by cases h),fun _=>?_⟩⟩
 obtain⟨ec,wc,tc,rfl,rfl⟩:=hc1 c q1
 obtain⟨ed,wd,td,rfl,rfl⟩:=hc2 d q2
 have lc:=(cU.1 q1).small
 have ld:=(cU.1 q2).small
 have p1:=FL hx wc hE1 (wc.iG tc lc) hE1l
 have p2:=FL hx wd hE1 (wd.iG td ld) hE1l
 have g1:=qN (hE1.qL.sub (x:=x) wc.qL)
 have g2:=qN (hE1.qL.sub (x:=x) wd.qL)
 rw[hE1t,tc]at p1 g1
 rw[hE1t,td]at p2 g2
 simp only[bS]at p1 p2
 repeat refine⟨by omega,?_⟩
 refine bO p1 (kO.ne g1) ?_
 rintro r o ⟨rfl,c3,d3,hd3,rfl,hc3⟩
 simp only[↓zq,zs,ac,zt,gu hd3]
 repeat refine⟨by omega,?_⟩
 refine bO p2 (kO.ne g2) ?_
 rintro r o ⟨rfl,c4,d4,hd4,rfl,hc4⟩
 simp only[↓zq,zs,ac,zt,gu hd4]
 have big:∀t:Ty,nh t=none->¬t.az<=400:=fun t ht hle=>by unfold nh at ht;rw[if_pos hle]at ht;cases ht
 have out0:(nh (sub x (.rc a) c)=none\/nh (sub x (.rc a) d)=none)->nh (oR a x c d)=none:=fun h=>by
  unfold nh
  rw[if_neg fun hle=>?_]
  have:=tX hle
  rcases h with h|h
  ·exact big _ h this.1
  ·exact big _ h this.2
 cases q3:nh (sub x (.rc a) c)with
 |
  none =>
  rw[out0 (.inl q3)]
  simp only[bq]
  exact⟨fun _=>kO.no _ _ ((a6 _).mpr trivial),fun h=>(by cases h)⟩
 |some c' =>
 cases q4:nh (sub x (.rc a) d)with
 |
  none =>
  rw[out0 (.inr q4)]
  simp only[bq,a8]
  exact⟨fun h=>(by cases h),fun _=>⟨fun _=>kO.no _ _ ((a6 _).mpr trivial),fun h=>(by cases h)⟩⟩
 |some d' =>
 simp only[a8]
 refine⟨fun h=>(by cases h),fun _=>⟨fun h=>(by cases h),fun _=>?_⟩⟩
 obtain⟨ec',wc',tc',rfl,rfl⟩:=hc3 c' q3
 obtain⟨ed',wd',td',rfl,rfl⟩:=hc4 d' q4
 obtain⟨lc',e3⟩:=eT.1 q3
 obtain⟨ld',e4⟩:=eT.1 q4
 rw[e3]at lc';rw[e4]at ld'
 have z1:=wc'.sz
 have z2:=wd'.sz
 have k1:=wc'.iG tc' lc'
 have k2:=wd'.iG td' ld'
 have f1:=Dp wd' [] [] (.sl []) (.of []) (by simp;omega)
 have fl1:=fZ ed' [] []
 have fl2:=fZ ec' [] (kb ed' [] [])
 simp only[aJ,aU]at fl1
 have f2:=Dp wc' [] (kb ed' [] []) (.sl []) (.of []) (by simp;omega)
 refine aT f1 ?_
 simp only[↓zq,zs,ac,zt,aS,bG,Ob.es]
 refine aT f2 ?_
 simp only[↓zq,zs,ac,zt,aS,bG,Ob.es]
 have hF3:∀y,(bh y c'=true\/bh y d'=true)->y∈kb ec' [] (kb ed' [] []):=fun y hy=>by
  rw[lB wc',lB wd']
  rcases hy with hy|hy
  ·exact .inr (by rw[tc'];exact hy)
  ·exact .inl (.inr (by rw[td'];exact hy))
 generalize kb ec' [] (kb ed' [] [])=F3 at *
 obtain⟨_,y2,_,hyF⟩:=gx F3 0
 refine cr (JF F3 (by omega) _ _ _ _ ((a6 _).mpr trivial) ((a6 _).mpr trivial) (F3.length+1) 0 (by show nx F3 0<_;omega) (by omega)) ?_
 have hnx:pL F3 (F3.length+1) 0=nx F3 0:=rfl
 rw[hnx]
 simp only[↓zq,zs,ac,zt,ac,bn,bp,a6]
 refine ah (BC (nx F3 0+1) (nx F3 0) (by omega) (by omega)) ?_
 have hdl:=lz (nx F3 0+1) (nx F3 0) (by omega)
 simp only[↓zq,zs,ac,zt,a7,aM]
 refine⟨by omega,?_⟩
 obtain⟨y,hyd⟩:∃y:Nm,(116::dd (nx F3 0):Nm)=y:=⟨_,rfl⟩
 rw[hyd]
 rw[show tN (nx F3 0)=y from hyd]at hyF
 have hy:rO y:=by rw[<-hyd];exact xn _
 have hcy:cP ec' [y]=c':=by
  have:=tb [y] wc' [] (fun z hz hm=>hyF (by
   simp only[aP]at hm
   rw[<-hm];exact hF3 z (.inl (by rw[<-tc'];exact hz))))
  rw[cE,tc']at this;exact this
 have hdy:cP ed' [y]=d':=by
  have:=tb [y] wd' [] (fun z hz hm=>hyF (by
   simp only[aP]at hm
   rw[<-hm];exact hF3 z (.inr (by rw[<-td'];exact hz))))
  rw[cE,td']at this;exact this
 have hyb:cP (.atom y) [y]=.bN 0:=by
  simp only[cP];rw[if_neg hy.2.1,if_neg hy.2.2,show bI y [y] [y].length=some 0 from e9 y []]
 let o1:E:=.list [.atom [42],ed',.atom y]
 let o2:E:=.list [.atom [43],ec',o1]
 let o3:E:=.list [.atom dX,.atom y,o2]
 have hw3:Wf o3:=.rc hy (.plus wc' (.times wd' (.atom hy.1)))
 have ht3:cP o3 []=oR a x c d:=by
  show cP (.list [.atom dX,.atom y,o2]) []=_
  rw[eS]
  show Ty.rc (cP (.list [.atom [43],ec',o1]) [y])=_
  rw[dI]
  show Ty.rc (.plus (cP ec' [y]) (cP (.list [.atom [42],ed',.atom y]) [y]))=_
  rw[dj,hcy,hdy,hyb,oR,e3,e4]
 have m1:=w8 [42] ed' (.atom y)
 have m2:=w8 [43] ec' o1
 have m3:=w8 dX (.atom y) o2
 simp only[o1,bS,ep]at m1 m2 m3
 refine ah m1 ?_
 simp only[↓zq,zs,ac,zt,aQ]
 repeat refine⟨by omega,?_⟩
 refine ah m2 ?_
 simp only[↓zq,zs,ac,zt,aQ]
 repeat refine⟨by omega,?_⟩
 refine ah m3 ?_
 simp only[↓zq,zs,ac,zt,aQ]
 repeat refine⟨by omega,?_⟩
 have z3:=hw3.sz
 have hats3:o3.dA=ec'.dA+ed'.dA+5:=by simp only[o3,o2,o1,E.dA,E.fJ];omega
 have ma:=FA o3 hw3.ok (by omega)
 rw[dr]at ma
 simp only[o3,o2,o1,bS]at ma
 refine ah ma ?_
 simp only[↓zq,zs,ac,zt]
 have hd3:(oR a x c d).az=o3.dA:=by rw[<-ht3,<-hw3.dA []]
 unfold nh
 by_cases hle:(oR a x c d).az<=400
 ·rw[if_pos hle]
  have:=kO.of hw3
  rw[ht3]at this
  rw[show decide ((((E.list [.atom dX,.atom y,.list [.atom [43],ec',.list [.atom [42],ed',.atom y]]]).dA:Nat):Int)<=400)=true from decide_eq_true (by show ((o3.dA:Nat):Int)<=400;omega)]
  exact this
 ·rw[if_neg hle]
  rw[show decide ((((E.list [.atom dX,.atom y,.list [.atom [43],ec',.list [.atom [42],ed',.atom y]]]).dA:Nat):Int)<=400)=false from decide_eq_false (by show ¬((o3.dA:Nat):Int)<=400;omega)]
  exact kO.no _ _ ((a6 o3).mpr trivial)
theorem yC:∀n,Rt n
 |0=>fun e s h hl=>by have:=ef (cP e []);rw[<-h.dA []]at this;omega
 |
  n+1=>by
  intro e s h hl h4 hs
  cases h with
  |
   @atom c hc =>
   refine BY _ _ _ ((a6 _).mpr trivial) ?_
   simp only[Aq,ep,↓zq,zs,ac,zt]
   refine⟨fun _=>⟨fun he=>?_,fun hne=>?_⟩,fun h=>absurd h hc⟩
   ·have he:c=s:=he
    subst he
    rw[qV hs,oG,if_pos rfl]
    exact kO.of (e:=.atom [49]) (.atom (by simp))
   ·have hne:¬c=s:=hne
    have:lm (cP (.atom c) []) s=some .zero:=by
     simp only[cP]
     split
     ·exact uT _
     ·split
      ·exact wX _
      ·rw[show bI c [] ([]:List Nm).length=none from rfl,oG,if_neg hne]
    rw[this]
    exact kO.of (e:=.atom [48]) (.atom (by simp))
  |
   @plus x y hx hy =>
   have hxy:(E.list [.atom [43],x,y]).dA=x.dA+y.dA+1:=by simp only[E.dA,E.fJ];omega
   have p1:1<=x.dA:=by rw[hx.dA []];exact ef _
   have p2:1<=y.dA:=by rw[hy.dA []];exact ef _
   refine BY _ _ _ ((a6 _).mpr trivial) ?_
   have hP:=P3.of (.atom [43]) x y
   simp only[Aq,bS,toNat_one,bi,↓zq,zs,ac,zt,hP.1,hP.2.1,hP.2.2.1,hP.2.2.2,aQ]
   refine⟨fun h=>absurd rfl h,fun _=>?_⟩
   refine ah (qg [43] x y) ?_
   simp only[↓zq,zs,ac,zt]
   refine⟨fun h=>by simp at h,fun _=>?_⟩
   repeat refine⟨by omega,?_⟩
   rw[dI,vy]
   refine bO (yC n x s hx (by omega) (by omega) hs) (kO.ne (j8 hx)) ?_
   rintro r o ⟨rfl,c1,d1,hd1,rfl,hc1⟩
   simp only[↓zq,zs,ac,zt,gu hd1]
   repeat refine⟨by omega,?_⟩
   refine bO (yC n y s hy (by omega) (by omega) hs) (kO.ne (j8 hy)) ?_
   rintro r o ⟨rfl,c2,d2,hd2,rfl,hc2⟩
   simp only[↓zq,zs,ac,zt,gu hd2]
   refine ah (AN [43] c1 c2 d1 d2) ?_
   simp only[↓zq,zs,ac,zt,bB,eg,ca]
   repeat refine⟨by omega,?_⟩
   refine ah (qg [43] x y) ?_
   simp only[↓zq,zs,ac,zt]
   refine⟨fun h=>by simp at h,fun _=>?_⟩
   cases q1:lm (cP x []) s with
   |
    none =>
    simp only[bq,bC]
    exact⟨fun h=>(by cases h),fun _=>kO.no _ _ ((ca _).mpr trivial)⟩
   |some tx =>
   cases q2:lm (cP y []) s with
   |
    none =>
    simp only[bq,a8,bC,aR]
    exact⟨fun _=>⟨fun h=>(by cases h),fun _=>kO.no _ _ ((ca _).mpr trivial)⟩,fun h=>(by cases h)⟩
   |some t2 =>
   simp only[a8,aR]
   refine⟨fun _=>⟨fun _=>?_,fun h=>(by cases h)⟩,fun h=>(by cases h)⟩
   obtain⟨e1,w1,te1,rfl,rfl⟩:=hc1 tx q1
   obtain⟨e2,w2,te2,rfl,rfl⟩:=hc2 t2 q2
   have l1:=w1.iG te1 (cU.1 q1).small
   have l2:=w2.iG te2 (cU.1 q2).small
   have z1:=w1.sz
   have z2:=w2.sz
   have hw3:Wf (.list [.atom [43],e1,e2]):=.plus w1 w2
   have ht3:cP (.list [.atom [43],e1,e2]) []=.plus tx t2:=by rw[dI,te1,te2]
   have ma:=FA _ hw3.ok (by simp only[E.sz,E.jH];omega)
   rw[dr]at ma
   simp only[bS]at ma
   have e3:AV.sl [[.v (.string (mk [43])),xl],[.v (.string (mk e1.at)),e1.sp],[.v (.string (mk e2.at)),e2.sp]]=(E.list [.atom [43],e1,e2]).sp:=by simp only[E.sp,E.bm,fB];rfl
   rw[e3]
   refine ah ma ?_
   simp only[↓zq,zs,ac,zt]
   have hd3:(Ty.plus tx t2).az=(E.list [.atom [43],e1,e2]).dA:=by rw[<-ht3,<-hw3.dA []]
   unfold nh
   by_cases hle:(Ty.plus tx t2).az<=400
   ·rw[if_pos hle,show decide ((((E.list [.atom [43],e1,e2]).dA:Nat):Int)<=400)=true from decide_eq_true (by omega)]
    have:=kO.of hw3
    rw[ht3]at this
    exact this
   ·rw[if_neg hle,show decide ((((E.list [.atom [43],e1,e2]).dA:Nat):Int)<=400)=false from decide_eq_false (by omega)]
    exact kO.no _ _ ((a6 _).mpr trivial)
  |
   @times x y hx hy =>
   have hxy:(E.list [.atom [42],x,y]).dA=x.dA+y.dA+1:=by simp only[E.dA,E.fJ];omega
   have p1:1<=x.dA:=by rw[hx.dA []];exact ef _
   have p2:1<=y.dA:=by rw[hy.dA []];exact ef _
   refine BY _ _ _ ((a6 _).mpr trivial) ?_
   have hP:=P3.of (.atom [42]) x y
   simp only[Aq,bS,toNat_one,bi,↓zq,zs,ac,zt,hP.1,hP.2.1,hP.2.2.1,hP.2.2.2,aQ]
   refine⟨fun h=>absurd rfl h,fun _=>?_⟩
   refine ah (qg [42] x y) ?_
   simp only[↓zq,zs,ac,zt]
   refine⟨fun h=>by simp at h,fun _=>?_⟩
   repeat refine⟨by omega,?_⟩
   rw[dj,sd]
   refine bO (yC n x s hx (by omega) (by omega) hs) (kO.ne (j8 hx)) ?_
   rintro r o ⟨rfl,c1,d1,hd1,rfl,hc1⟩
   simp only[↓zq,zs,ac,zt,gu hd1]
   repeat refine⟨by omega,?_⟩
   refine bO (yC n y s hy (by omega) (by omega) hs) (kO.ne (j8 hy)) ?_
   rintro r o ⟨rfl,c2,d2,hd2,rfl,hc2⟩
   simp only[↓zq,zs,ac,zt,gu hd2]
   refine ah (AN [43] c1 c2 d1 d2) ?_
   simp only[↓zq,zs,ac,zt,bB,eg,ca]
   repeat refine⟨by omega,?_⟩
   refine ah (qg [42] x y) ?_
   simp only[↓zq,zs,ac,zt]
   refine⟨fun _=>?_,fun h=>by simp at h⟩
   repeat refine⟨by omega,?_⟩
   refine ah (AN [42] c1 y.at d1 y.sp) ?_
   simp only[↓zq,zs,ac,zt,bB,eg,ca,a6]
   repeat refine⟨by omega,?_⟩
   refine ah (AN [42] x.at c2 x.sp d2) ?_
   simp only[↓zq,zs,ac,zt,bB,eg,ca,a6]
   repeat refine⟨by omega,?_⟩
   refine ah (AN [43] [] [] _ _) ?_
   simp only[↓zq,zs,ac,zt,bB,eg,ca]
   repeat refine⟨by omega,?_⟩
   cases q1:lm (cP x []) s with
   |
    none =>
    simp only[bq,bC]
    exact⟨fun h=>(by cases h),fun _=>kO.no _ _ ((ca _).mpr trivial)⟩
   |some tx =>
   cases q2:lm (cP y []) s with
   |
    none =>
    simp only[bq,a8,bC,aR]
    exact⟨fun _=>⟨fun h=>(by cases h),fun _=>kO.no _ _ ((ca _).mpr trivial)⟩,fun h=>(by cases h)⟩
   |some t2 =>
   simp only[a8,aR]
   refine⟨fun _=>⟨fun _=>?_,fun h=>(by cases h)⟩,fun h=>(by cases h)⟩
   obtain⟨e1,w1,te1,rfl,rfl⟩:=hc1 tx q1
   obtain⟨e2,w2,te2,rfl,rfl⟩:=hc2 t2 q2
   have l1:=w1.iG te1 (cU.1 q1).small
   have l2:=w2.iG te2 (cU.1 q2).small
   have z1:=w1.sz
   have z2:=w2.sz
   have z3:=hx.sz
   have z4:=hy.sz
   have hw3:Wf (.list [.atom [43],.list [.atom [42],e1,y],.list [.atom [42],x,e2]]):=.plus (.times w1 hy) (.times hx w2)
   have ht3:cP (.list [.atom [43],.list [.atom [42],e1,y],.list [.atom [42],x,e2]]) []=.plus (.times tx (cP y [])) (.times (cP x []) t2):=by rw[dI,dj,dj,te1,te2]
   have ma:=FA _ hw3.ok (by simp only[E.sz,E.jH];omega)
   rw[dr]at ma
   simp only[bS]at ma
   have e3:AV.sl [[.v (.string (mk [43])),xl],[.v (.string (mk [])),.sl [[.v (.string (mk [42])),xl],[.v (.string (mk e1.at)),e1.sp],[.v (.string (mk y.at)),y.sp]]],[.v (.string (mk [])),.sl [[.v (.string (mk [42])),xl],[.v (.string (mk x.at)),x.sp],[.v (.string (mk e2.at)),e2.sp]]]]=(E.list [.atom [43],.list [.atom [42],e1,y],.list [.atom [42],x,e2]]).sp:=by simp only[E.sp,E.bm,fB];rfl
   rw[e3]
   refine ah ma ?_
   simp only[↓zq,zs,ac,zt]
   have hd3:(Ty.plus (.times tx (cP y [])) (.times (cP x []) t2)).az=(E.list [.atom [43],.list [.atom [42],e1,y],.list [.atom [42],x,e2]]).dA:=by rw[<-ht3,<-hw3.dA []]
   unfold nh
   by_cases hle:(Ty.plus (.times tx (cP y [])) (.times (cP x []) t2)).az<=400
   ·rw[if_pos hle,show decide ((((E.list [.atom [43],.list [.atom [42],e1,y],.list [.atom [42],x,e2]]).dA:Nat):Int)<=400)=true from decide_eq_true (by omega)]
    have:=kO.of hw3
    rw[ht3]at this
    exact this
   ·rw[if_neg hle,show decide ((((E.list [.atom [43],.list [.atom [42],e1,y],.list [.atom [42],x,e2]]).dA:Nat):Int)<=400)=false from decide_eq_false (by omega)]
    exact kO.no _ _ ((a6 _).mpr trivial)
  |
   @rc m B hm hB =>
   have hlp:=Qi n (yC n) m B hm hB hl h4 s hs
   have hg:=j8 (s:=s) (Wf.rc hm hB)
   refine BY _ _ _ ((a6 _).mpr trivial) ?_
   have hP:=P3.of (.atom dX) (.atom m) B
   simp only[Aq,bS,toNat_one,bi,↓zq,zs,ac,zt,hP.1,hP.2.1,hP.2.2.1,hP.2.2.2,aQ]
   refine⟨fun h=>absurd rfl h,fun _=>?_⟩
   refine ah (qg dX (.atom m) B) ?_
   simp only[↓zq,zs,ac,zt]
   refine⟨fun _=>?_,fun h=>absurd rfl h⟩
   refine bO hlp (kO.ne hg) ?_
   rintro r o ⟨rfl,c1,d1,hd1,rfl,hc1⟩
   simp only[↓zq,zs,ac,zt,gu hd1]
   exact⟨rfl,c1,d1,hd1,rfl,hc1⟩
end Go.Proofs.Trees
namespace Go.Proofs.Trees
open Go Go.VL Go.RowKit
theorem oj:∀(n k:Nat),k<10 ^ (n+1)->(dd k).length<=n+1
 |0,k,h=>by rw[eD (by omega)];simp
 |
  n+1,k,h=>by
  by_cases h1:k<10
  ·rw[eD h1];simp
  ·rw[fh h1]
   have:=oj n (k/10) (by
    have:10 ^ (n+1+1)=10*10 ^ (n+1):=by rw[Nat.pow_succ,Nat.mul_comm]
    omega)
   simp;omega
inductive Sh:E->Prop
 |atom {s:Nm} (h:s.length<=20):Sh (.atom s)
 |l3 {h:Nm} {a b:E} (hh:h.length<=20) (ha:Sh a) (hb:Sh b):Sh (.list [.atom h,a,b])
theorem Sh.cK{e:E}(hw:Wf e)(h:Sh e):(fQ e).length<=50*e.dA:=by
 induction hw with
 |atom _=>cases h with|atom h=>simp only[fQ,E.dA];omega
 |
  plus _ _ i1 i2 =>
  cases h with|l3 hh ha hb =>
  have:=i1 ha
  have:=i2 hb
  simp only[fQ,en,aB,ax,aJ,E.dA,E.fJ];omega
 |
  times _ _ i1 i2 =>
  cases h with|l3 hh ha hb =>
  have:=i1 ha
  have:=i2 hb
  simp only[fQ,en,aB,ax,aJ,E.dA,E.fJ];omega
 |
  rc _ _ i =>
  cases h with|l3 hh ha hb =>
  cases ha with|atom ha =>
  have:=i hb
  simp only[fQ,en,aB,ax,aJ,E.dA,E.fJ];omega
def ux(t:Ty):Prop:=∀y,bh y t=true->y.length<=20
theorem wM{k:Nat}(h:k<100000000):(tN k).length<=20:=by
 have:=oj 7 k (by omega)
 simp;omega
theorem o0(F:List Nm)(hF:F.length<=10000):∀(t:Ty) (to:List Nm) (k:Nat),ux t->(∀w,w∈to->w.length<=20)->k+(F.length+1)*t.az<90000000->Sh (gT F t to k).1
 | .zero,_,_,_,_,_=>.atom (by simp)
 | .one,_,_,_,_,_=>.atom (by simp)
 | .name s,_,_,hn,_,_=>.atom (hn s (by simp[bh]))
 |
  .bN u,to,_,_,ht,_=>by
  refine .atom ?_
  show (gb to u).length<=20
  unfold gb
  by_cases h:to.length-1-u<to.length
  ·rw[aa,bf h];exact ht _ (bx h)
  ·rw[aa,List.getElem?_eq_none (by omega)];simp
 |
  .plus a b,to,k,hn,ht,hk=>by
  have h1:=ij F a to k
  have:(F.length+1)*(1+a.az+b.az)=(F.length+1)+(F.length+1)*a.az+(F.length+1)*b.az:=by simp only[cS,dE]
  simp only[Ty.az]at hk
  exact .l3 (by simp) (o0 F hF a to k (fun y hy=>hn y (by simp[bh,hy])) ht (by omega)) (o0 F hF b to _ (fun y hy=>hn y (by simp[bh,hy])) ht (by omega))
 |
  .times a b,to,k,hn,ht,hk=>by
  have h1:=ij F a to k
  have:(F.length+1)*(1+a.az+b.az)=(F.length+1)+(F.length+1)*a.az+(F.length+1)*b.az:=by simp only[cS,dE]
  simp only[Ty.az]at hk
  exact .l3 (by simp) (o0 F hF a to k (fun y hy=>hn y (by simp[bh,hy])) ht (by omega)) (o0 F hF b to _ (fun y hy=>hn y (by simp[bh,hy])) ht (by omega))
 |
  .rc a,to,k,hn,ht,hk=>by
  obtain⟨g1,g2,_,_⟩:=gx F k
  have:(F.length+1)*(2+a.az)=(F.length+1)*2+(F.length+1)*a.az:=by simp only[cS]
  simp only[Ty.az]at hk
  have hl:=wM (k:=nx F k) (by omega)
  exact .l3 (by simp) (.atom hl) (o0 F hF a _ _ hn (fun w hw=>by
   rcases aI.1 hw with hw|hw
   ·exact ht w hw
   ·simp only[aP]at hw;rw[hw];exact hl) (by omega))
def DH(t:Ty):Nm:=fQ (gT (bH t []) t [] 0).1
def told(t:Ty):Option Nm:=if t.az<=400/\(qe (DH t)).isSome=true then some (DH t)else none
theorem C4{t:Ty}(g:fV t)(hs:ux t)(ha:t.az<=400):(DH t).length<=20000:=by
 obtain⟨h1,h2,_⟩:=kq (bH t []) t [] 0 (.nil _ _) g.1 fun y hy=>⟨(eF t [] y).2 (.inr hy),g.2 y hy⟩
 have hn:=ew t []
 simp only[aJ,aU]at hn
 have hm:((bH t []).length+1)*t.az<=401*400:=Nat.mul_le_mul (by omega) ha
 have:=(o0 (bH t []) (by omega) t [] 0 hs (fun w hw=>by cases hw) (by omega)).cK h1
 have:=h1.iG h2 ha
 unfold DH;omega
theorem tu(s:Nm):(vL s).isSome=(qe s).isSome:=by
 rw[s8]
 cases he:vL s with
 |none=>rfl
 |
  some e =>
  obtain⟨h1,h2,h3⟩:=pq he
  simp only[iP e [],h2];rfl
theorem Oh(s:Nm):an Tryz.prog 168 [.v (.string (mk s))] [] (bA (.v (.bool (qe s).isSome))):=by
 refine Qp _ ?_
 unfold IW
 refine bO (Gv s) (jP.ne _ _ (fun h=>h)) ?_
 rintro r o ⟨c,d,hd,rfl,hh⟩
 have hhas:bB [.str,.sl] [.v (.string (mk c)),d] 0:=by simp[bB,eg,hd]
 simp only[↓zq,zs,ac,zt,tu]
 exact⟨hhas,rfl,rfl⟩
theorem Qm{e:E}(h:Wf e)(hl:e.dA<=400)(hs:ux (cP e [])):an Tryz.prog 134 [.agg [.v (.string (mk e.at)),e.sp]] [] (bA (s6 (told (cP e [])))):=by
 refine PB _ _ ((a6 _).mpr trivial) ?_
 unfold L3
 have z:=h.sz
 have ma:=FA e h.ok (by omega)
 rw[dr]at ma
 have hA:=D9 h xl [] ⟨(bp).mpr trivial,rfl⟩ (by omega) (fun o ho=>by cases ho) (by simp)
 have ha:(cP e []).az<=400:=by rw[<-h.dA []];exact hl
 have hc:Ae e []=(gT (bH (cP e []) []) (cP e []) [] 0).1:=by
  unfold Ae zD rh
  rw[List.flatMap_nil,cE,jy (F':=bH (cP e []) []) fun y=>by rw[lB h,eF]]
 have hx:fQ (Ae e [])=DH (cP e []):=by rw[hc];rfl
 have hlen:=C4 h.qL hs ha
 have hT:=Cz (Ae e []) (AU h).1.ok (by rw[hx];omega)
 rw[dr,hx]at hT
 refine ah ma ?_
 simp only[↓zq,zs,ac,zt]
 refine⟨fun h=>by omega,fun _=>?_⟩
 refine ah hA ?_
 simp only[↓zq,zs,ac,zt,aQ]
 refine ah hT ?_
 simp only[↓zq,zs,ac,zt]
 refine ah (Oh _) ?_
 simp only[↓zq,zs,ac,zt]
 unfold told
 refine⟨fun hn=>?_,fun hy=>?_⟩
 ·rw[if_neg (by rw[hn];simp)];exact⟨rfl,rfl⟩
 ·rw[if_pos ⟨ha,hy⟩];exact⟨rfl,rfl⟩
abbrev lQ:Nm:=[35,49]
noncomputable def cF (s:Nm):Option Nm:=match qe s with
 |some (.rc a)=>(oN a lQ).bind told
 |_=>none
theorem pz{s:Nm}{t:Ty}(h:qe s=some t):∃e,vL s=some e/\Wf e/\cP e []=t/\e.dA<=400/\e.ok:=by
 rw[s8]at h
 cases he:vL s with
 |none=>rw[he]at h;cases h
 |
  some e =>
  rw[he]at h
  obtain⟨h1,h2,h3⟩:=pq he
  obtain⟨hok,_⟩:=nt h1
  obtain⟨w1,w2⟩:=kZ e [] t hok (fun w hw=>by cases hw) h
  exact⟨e,rfl,w1,w2,h3,hok⟩
theorem rr{e:E}{x:Nm}{a d:Ty}(hw:Wf e)(ht:cP e []=.rc a)(hx:rO x)(hd:oN a x=some d):fV d/\(ux (.rc a)->ux d):=by
 simp only[oN,bc,cU,eT]at hd
 obtain⟨d',h1,_,rfl⟩:=hd
 have g:fV (.rc a):=ht ▸ hw.qL
 have go:fV (dK (.name x) a 0):=⟨iJ x a g.1,fun y hy=>by
  rcases gr a 0 hy with rfl|h
  ·exact hx
  ·exact g.2 y h⟩
 refine⟨g.sub (go.dv h1),fun hs y hy=>?_⟩
 rcases iV _ hy with h|⟨h,h'⟩
 ·exact hs y h
 ·rcases gr a 0 (h1.names y h')with e|e
  ·exact absurd e h
  ·exact hs y e
def Ln(y:Nm):Prop:=gV y=true\/db y=true
theorem iD:∀(e:E) (ar:List Nm) (t:Ty),cQ e ar=some t->∀y,bh y t=true->Ln y
 |
  .atom s,ar,t,ht,y,hy=>by
  simp only[cQ]at ht
  split at ht
  ·cases ht;cases hy
  ·split at ht
   ·cases ht;cases hy
   ·split at ht
    ·rename_i hp
     cases ht
     simp only[bh,decide_eq_true_eq]at hy
     subst hy;exact .inl hp
    ·split at ht
     ·rename_i hq
      split at ht
      ·cases ht;cases hy
      ·cases ht
       simp only[bh,decide_eq_true_eq]at hy
       subst hy;exact .inr hq
     ·cases ht
 |
  .list [x,a,b],ar,t,ht,y,hy=>by
  by_cases h0:x.at=[43]
  ·obtain⟨t1,t2,h1,h2,rfl⟩:=fF h0 ht
   simp only[bh,bw]at hy
   rcases hy with hy|hy
   ·exact iD a ar t1 h1 y hy
   ·exact iD b ar t2 h2 y hy
  ·by_cases h1:x.at=[42]
   ·obtain⟨t1,t2,h2,h3,rfl⟩:=eU h1 ht
    simp only[bh,bw]at hy
    rcases hy with hy|hy
    ·exact iD a ar t1 h2 y hy
    ·exact iD b ar t2 h3 y hy
   ·by_cases h2:x.at=[114,101,99]
    ·obtain⟨t1,hla,h3,rfl⟩:=dy h2 ht
     exact iD b _ t1 h3 y hy
    ·rw[iR _ h0 h1 h2]at ht;cases ht
 | .list [],ar,t,ht,_,_=>by cases ht
 | .list [_],ar,t,ht,_,_=>by cases ht
 | .list [_,_],ar,t,ht,_,_=>by cases ht
 | .list (_::_::_::_::_),ar,t,ht,_,_=>by cases ht
theorem wB{y:Nm}(h:Ln y):y.length<=3/\∀r,y≠35::r:=by
 have key:∀lo hi,116<=lo->named lo hi y=true->y.length<=3/\∀r,y≠35::r:=fun lo hi hlo h=>by
  cases y with
  |nil=>cases h
  |
   cons c r =>
   simp only[named,ap,decide_eq_true_eq]at h
   refine⟨by simp;omega,fun r' e=>?_⟩
   have:c=35:=by injection e
   subst this
   have:=h.1.2.1
   have e35:(35:UInt8).toNat=35:=rfl
   omega
 rcases h with h|h
 ·exact key 120 122 (by omega) h
 ·exact key 116 116 (by omega) h
theorem mK{s:Nm}{t:Ty}(h:qe s=some t):∀y,bh y t=true->Ln y:=by
 rw[s8]at h
 cases he:vL s with
 |none=>rw[he]at h;cases h
 |some e=>rw[he]at h;exact iD e [] t h
theorem wQ{s:Nm}{a:Ty}(h:qe s=some (.rc a)):bh lQ a=false:=by
 cases q:bh lQ a with
 |false=>rfl
 |true=>exact absurd rfl ((wB (mK h lQ q)).2 [49])
theorem A2{s:Nm}{t:Ty}(h:qe s=some t):ux t:=fun y hy=>by have:=(wB (mK h y hy)).1;omega
theorem O1{m:Nm}{B:E}(hm:rO m)(hB:Wf B)(hl:(E.list [.atom dX,.atom m,B]).dA<=400):an Tryz.prog 133 [.agg [.v (.string (mk [])),(E.list [.atom dX,.atom m,B]).sp]] [] (kO (oN (cP B [m]) m)):=by
 have hw:Wf (.list [.atom dX,.atom m,B]):=.rc hm hB
 have hT:cP (.list [.atom dX,.atom m,B]) []=.rc (cP B [m]):=eS _ _ _
 have hP:=P3.of (.atom dX) (.atom m) B
 have hbo:cP B []=dK (.name m) (cP B [m]) 0:=by
  have:=xq m hB []
  rw[cE]at this;exact this
 have hba:B.dA+2=(E.list [.atom dX,.atom m,B]).dA:=by simp only[E.dA,E.fJ];omega
 have i1:=yC 400 B m hB (by omega) (by omega) hm
 have n1:=j8 (s:=m) hB
 rw[hbo]at i1 n1
 refine QD _ _ ((a6 _).mpr trivial) ?_
 simp only[KQ,bS,toNat_one,bi,↓zq,zs,ac,zt,hP.1,hP.2.1,hP.2.2.1,hP.2.2.2,aQ,ep]
 repeat refine⟨by omega,?_⟩
 refine bO i1 (kO.ne n1) ?_
 rintro r o ⟨rfl,c1,d1,hd1,rfl,hc1⟩
 simp only[↓zq,zs,ac,zt,gu hd1,oN]
 cases q1:lm (dK (.name m) (cP B [m]) 0) m with
 |
  none =>
  simp only[bq,bC]
  exact⟨fun _=>kO.no _ _ ((a6 _).mpr trivial),fun h=>(by cases h)⟩
 |
  some d =>
  simp only[a8,aR]
  refine⟨fun h=>(by cases h),fun _=>?_⟩
  obtain⟨ed,wd,td,rfl,rfl⟩:=hc1 d q1
  have p1:=FL hm wd hw (wd.iG td (cU.1 q1).small) hl
  have g1:=qN (hw.qL.sub (x:=m) wd.qL)
  rw[hT,td]at p1 g1
  simp only[bS]at p1
  repeat refine⟨by omega,?_⟩
  refine bO p1 (kO.ne g1) ?_
  rintro r o ⟨rfl,c2,d2,hd2,rfl,hc2⟩
  simp only[↓zq,zs,ac,zt,gu hd2]
  exact⟨rfl,c2,d2,hd2,rfl,hc2⟩
theorem I7(s:Nm):an Tryz.prog 96 [.v (.string (mk s))] [] (bA (s6 (cF s))):=by
 refine OX _ ?_
 unfold Im
 refine bO (Gv s) (jP.ne _ _ (fun h=>h)) ?_
 rintro r o ⟨c,d,hd,rfl,hh⟩
 have hhas:bB [.str,.sl] [.v (.string (mk c)),d] 0:=by simp[bB,eg,hd]
 simp only[↓zq,zs,ac,zt]
 refine⟨hhas,fun h=>?_,fun h=>?_⟩
 ·rw[tu]at h
  have:qe s=none:=by cases hq:qe s<;>simp[hq]at h |-
  unfold cF;rw[this];exact⟨rfl,rfl⟩
 ·rw[tu]at h
  obtain⟨t,ht⟩:=ck.1 h
  obtain⟨e,he,hw,hte,hats,hok⟩:=pz ht
  obtain⟨e',he',hce⟩:=hh (by rw[he];rfl)
  rw[he]at he';cases he'
  have notRec:(∀a,t≠.rc a)->cF s=none:=fun hn=>by
   unfold cF;rw[ht]
   cases t<;>first|rfl|exact absurd rfl (hn _)
  rw[hce,dr]
  cases hw with
  |
   @atom c hc =>
   have hn:cF s=none:=notRec fun a q=>by
    rw[<-hte]at q
    simp only[cP]at q
    split at q
    ·cases q
    ·split at q
     ·cases q
     ·split at q<;>cases q
   rw[hn]
   refine ah (Cc c _ ((a6 _).mpr trivial) hc) ?_
   simp only[↓zq,zs,ac,zt]
   exact⟨fun _=>⟨rfl,rfl⟩,fun h=>by simp at h⟩
  |
   @plus x y hx hy =>
   have hn:cF s=none:=notRec fun a q=>by rw[<-hte,dI]at q;cases q
   rw[hn]
   simp only[bS]
   refine ah (qg [43] x y) ?_
   simp only[↓zq,zs,ac,zt]
   exact⟨fun _=>⟨rfl,rfl⟩,fun h=>by simp at h⟩
  |
   @times x y hx hy =>
   have hn:cF s=none:=notRec fun a q=>by rw[<-hte,dj]at q;cases q
   rw[hn]
   simp only[bS]
   refine ah (qg [42] x y) ?_
   simp only[↓zq,zs,ac,zt]
   exact⟨fun _=>⟨rfl,rfl⟩,fun h=>by simp at h⟩
  |
   @rc m B hm hB =>
   have hrt:cP (.list [.atom dX,.atom m,B]) []=.rc (cP B [m]):=eS _ _ _
   rw[hrt]at hte
   have hq:cF s=(oN (cP B [m]) m).bind told:=by
    unfold cF;rw[ht,<-hte]
    show (oN (cP B [m]) lQ).bind told=_
    rw[EO (wQ (by rw[ht,<-hte])) (by
     cases q:bh m (cP B [m])with
     |false=>rfl
     |true=>exact absurd (by simp) (mO hB [m] m q).2)]
   rw[hq]
   simp only[bS]
   refine ah (qg dX (.atom m) B) ?_
   simp only[↓zq,zs,ac,zt]
   refine⟨fun h=>by simp at h,fun _=>?_⟩
   have hgood:∀d,oN (cP B [m]) m=some d->fV d/\(ux (.rc (cP B [m]))->ux d):=fun d hd=>rr (Wf.rc hm hB) hrt hm hd
   refine bO (O1 hm hB hats) (kO.ne fun t h=>(hgood t h).1) ?_
   rintro r o ⟨rfl,c1,d1,hd1,rfl,hc1⟩
   simp only[↓zq,zs,ac,zt,gu hd1]
   cases q1:oN (cP B [m]) m with
   |
    none =>
    simp only[bq,bC]
    exact⟨fun _=>⟨rfl,rfl⟩,fun h=>(by cases h)⟩
   |
    some d =>
    simp only[a8,aR]
    refine⟨fun h=>(by cases h),fun _=>?_⟩
    obtain⟨ed,wd,td,rfl,rfl⟩:=hc1 d q1
    have hl:d.az<=400:=by
     simp only[oN,bc,eT]at q1
     obtain⟨_,_,h1,h2⟩:=q1
     rw[<-h2];exact h1
    have hcn:=Qm wd (wd.iG td hl) (by rw[td];exact(hgood d q1).2 (hte ▸ A2 ht))
    rw[td]at hcn
    refine ah hcn ?_
    cases told d<;>simp only[s6,↓zq,zs,ac,zt]<;>exact⟨rfl,rfl⟩
end Go.Proofs.Trees
namespace Go.Proofs.Trees
open Go Go.VL Go.RowKit
def vT(n:Nat):Vl->Ty->Bool
 | .u,.one=>true
 | .el k,.name _=>decide (k<n)
 | .l w,.plus a _=>vT n w a
 | .r w,.plus _ b=>vT n w b
 | .p x y,.times a b=>vT n x a&&vT n y b
 | .f w,.rc a=>vT n w (dK (.rc a) a 0)
 |_,_=>false
def lP(us:List Ty):Ty->Nat->Ty
 | .bN k,i=>if k<i then .bN k else us.getD (k-i) .zero
 | .plus a b,i=>.plus (lP us a i) (lP us b i)
 | .times a b,i=>.times (lP us a i) (lP us b i)
 | .rc a,i=>.rc (lP us a (i+1))
 |t,_=>t
def xx:List Fr->List Ty
 |[]=>[]
 |f::r=>lP (xx r) (xO f.ex r) 0::xx r
theorem lg(u:Ty):∀(t:Ty) {i:Nat},jX t i->dK u t i=t
 | .bN k,i,h=>by simp only[dK];rw[if_neg (by have:k<i:=h;omega)]
 | .plus a b,i,h=>by simp only[dK];rw[lg u a h.1,lg u b h.2]
 | .times a b,i,h=>by simp only[dK];rw[lg u a h.1,lg u b h.2]
 | .rc a,i,h=>by simp only[dK];rw[lg u a (i:=i+1) h]
 | .zero,_,_=>rfl
 | .one,_,_=>rfl
 | .name _,_,_=>rfl
theorem py(us:List Ty):∀(t:Ty) {i:Nat},jX t i->lP us t i=t
 | .bN k,i,h=>by simp only[lP];rw[if_pos (by have:k<i:=h;omega)]
 | .plus a b,i,h=>by simp only[lP];rw[py us a h.1,py us b h.2]
 | .times a b,i,h=>by simp only[lP];rw[py us a h.1,py us b h.2]
 | .rc a,i,h=>by simp only[lP];rw[py us a (i:=i+1) h]
 | .zero,_,_=>rfl
 | .one,_,_=>rfl
 | .name _,_,_=>rfl
theorem w9{us:List Ty}(hu:∀u,u∈us->jX u 0)(k:Nat):jX (us.getD k .zero) 0:=by
 by_cases h:k<us.length
 ·rw[aa,bf h];exact hu _ (bx h)
 ·rw[aa,List.getElem?_eq_none (by omega)];trivial
theorem oP{us:List Ty}(hu:∀u,u∈us->jX u 0):∀(t:Ty) (i:Nat),jX (lP us t i) i
 |
  .bN k,i=>by
  simp only[lP]
  split
  ·rename_i h;exact h
  ·exact gA _ (w9 hu _) (Nat.zero_le _)
 | .plus a b,i=>⟨oP hu a i,oP hu b i⟩
 | .times a b,i=>⟨oP hu a i,oP hu b i⟩
 | .rc a,i=>oP hu a (i+1)
 | .zero,_=>trivial
 | .one,_=>trivial
 | .name _,_=>trivial
theorem mU{us:List Ty}(hu:∀u,u∈us->jX u 0)(U:Ty):∀(t:Ty) (i:Nat),dK U (lP us t (i+1)) i=lP (U::us) t i
 |
  .bN k,i=>by
  simp only[lP]
  by_cases h1:k<i
  ·rw[if_pos (by omega),if_pos h1];simp only[dK];rw[if_neg (by omega)]
  ·rw[if_neg h1]
   by_cases h2:k=i
   ·subst h2;rw[if_pos (by omega)];simp[dK]
   ·rw[if_neg (by omega),lg U _ (gA _ (w9 hu _) (Nat.zero_le _)),show k-i=(k-(i+1))+1 by omega,List.getD_cons_succ]
 | .plus a b,i=>by simp only[lP,dK];rw[mU hu U a i,mU hu U b i]
 | .times a b,i=>by simp only[lP,dK];rw[mU hu U a i,mU hu U b i]
 | .rc a,i=>by simp only[lP,dK];rw[mU hu U a (i+1)]
 | .zero,_=>rfl
 | .one,_=>rfl
 | .name _,_=>rfl
theorem v7:∀env:List Fr,∀u,u∈xx env->jX u 0
 |[],u,h=>by cases h
 |
  f::r,u,h=>by
  rcases aF.1 h with rfl|h
  ·exact oP (v7 r) _ 0
  ·exact v7 r u h
theorem CS{env:List Fr}(h:WF env):∀{u:Nat} {g:Fr},env[u]?=some g->(xx env).getD u .zero=lP (xx g.out) (xO g.ex g.out) 0:=by
 induction h with
 |nil=>intro u g hg;simp at hg
 |
  cons hs hok hx ht hf hr ih =>
  intro u g hg
  cases u with
  |zero=>simp at hg;subst hg;rfl
  |
   succ u =>
   have:=ih (u:=u) (g:=g) (by simpa using hg)
   simpa[xx]using this
theorem oX(n:Nat):∀(m:Nat) (v:Vl),v.nodes<=m->∀(e:E) (env:List Fr) (t:Ty),Ask e env t->eK n v (e,env)=vT n v (lP (xx env) t 0)
 |0,v,hm=>by have:=dD v;omega
 |
  m+1,v,hm=>by
  intro e env t A
  have recCase:∀(x a b:E) (env:List Fr) (t1:Ty),Ask (.list [x,a,b]) env (.rc t1)->x.at=[114,101,99]->eK n v (.list [x,a,b],env)=vT n v (lP (xx env) (.rc t1) 0):=by
   intro x a b env t1 A hx
   have hhd:hd (.list [x,a,b]) env=(.list [x,a,b],env):=pe A.wf
   obtain⟨t1',he1,h1,f1,hw1⟩:=i6 A.wf A.ok hx A.ty A.cl
   cases he1
   obtain⟨ok1,ok2,ok3,_⟩:=A.ok
   have A':Ask b (.mk a.at (.list [x,a,b]) env::env) t1:=⟨ok3,hw1,h1,f1⟩
   cases v with
   |
    f w =>
    simp only[Vl.nodes]at hm
    simp only[eK,hhd,hx,beq_self_eq_true,bP]
    rw[oX n m w (by omega) b _ t1 A']
    have hty:xO (.list [x,a,b]) env=.rc t1:=by unfold xO;rw[A.ty];rfl
    show vT n w (lP (lP (xx env) (xO (.list [x,a,b]) env) 0::xx env) t1 0)=vT n w (dK (.rc (lP (xx env) t1 1)) (lP (xx env) t1 1) 0)
    rw[hty,mU (v7 env)]
    rfl
   |_=>simp[eK,hhd,hx,lP,vT]
  rcases gl A.wf A.ty with⟨hb,hq⟩|⟨u,g,rfl,hq,hu⟩
  ·have hhd:hd e env=(e,env):=j9 hq
   rcases fC A.ty hb A.cl with⟨rfl,rfl⟩|⟨rfl,rfl⟩|⟨s,rfl,rfl,hp,h0,h1⟩|⟨x,a,b,t1,t2,rfl,hx,rfl,ha,hbb⟩|⟨x,a,b,t1,t2,rfl,hx,rfl,ha,hbb⟩|⟨x,a,b,t1,rfl,hx,rfl⟩
   ·have hp0:gV [48]=false:=rfl
    cases v<;>simp[eK,hhd,lP,vT,hp0]
   ·cases v<;>simp[eK,hhd,lP,vT]
   ·cases v<;>simp[eK,hhd,lP,vT,hp,h1]
   ·obtain⟨ok1,ok2,ok3,_⟩:=A.ok
    obtain⟨f1,f2⟩:=fp A.cl
    cases v with
    |
     l w =>
     simp only[Vl.nodes]at hm
     simp only[eK,hhd,hx,beq_self_eq_true,bP,lP,vT]
     exact oX n m w (by omega) a env t1 ⟨ok2,A.wf,ha,f1⟩
    |
     r w =>
     simp only[Vl.nodes]at hm
     simp only[eK,hhd,hx,beq_self_eq_true,bP,lP,vT]
     exact oX n m w (by omega) b env t2 ⟨ok3,A.wf,hbb,f2⟩
    |_=>simp[eK,hhd,hx,lP,vT]
   ·obtain⟨ok1,ok2,ok3,_⟩:=A.ok
    obtain⟨f1,f2⟩:=eJ A.cl
    cases v with
    |
     p w w' =>
     simp only[Vl.nodes]at hm
     simp only[eK,hhd,hx,beq_self_eq_true,bP,lP,vT]
     rw[oX n m w (by omega) a env t1 ⟨ok2,A.wf,ha,f1⟩,oX n m w' (by omega) b env t2 ⟨ok3,A.wf,hbb,f2⟩]
    |_=>simp[eK,hhd,hx,lP,vT]
   ·exact recCase x a b env t1 A hx
  ·obtain⟨x,a,b,t',hfe,hok,hx,ht',hf',hwf,hlt⟩:=nK A.wf hq
   have hrec:hd g.ex g.out=(g.ex,g.out):=by rw[hfe];exact pe hwf
   rw[tP n v (qn hq) hrec]
   have hcl:lP (xx env) (.bN u) 0=lP (xx g.out) (xO g.ex g.out) 0:=by
    simp only[lP];rw[if_neg (by omega),Nat.sub_zero];exact CS A.wf hu
   rw[hcl]
   have hty:xO g.ex g.out=t':=by unfold xO;rw[ht'];rfl
   rw[hty,hfe]
   rw[hfe]at ht'
   obtain⟨t1,_,_,rfl⟩:=dy hx ht'
   exact recCase x a b g.out t1 ⟨hok,hwf,ht',hf'⟩ hx
theorem ot{n:Nat}{v:Vl}{e:E}{t:Ty}(A:Ask e [] t):eK n v (e,[])=vT n v t:=by
 have:=oX n v.nodes v (aq _) e [] t A
 rw[this]
 obtain⟨w,ht⟩:=kZ e [] t A.ok (fun w hw=>by cases hw) A.ty
 have hl:=tY w []
 rw[ht]at hl
 exact congrArg (vT n v) (py _ t hl)
def eZ(σ:Nm->Option Ty):Ty->Ty
 | .name s=>(σ s).getD (.name s)
 | .plus a b=>.plus (eZ σ a) (eZ σ b)
 | .times a b=>.times (eZ σ a) (eZ σ b)
 | .rc a=>.rc (eZ σ a)
 |t=>t
def jf(σ:Nm->Option Ty)(x:Nm)(u:Ty):Nm->Option Ty:=fun s=>if s=x then some u else σ s
theorem iW(σ:Nm->Option Ty)(x:Nm)(u:Ty):∀t:Ty,eZ σ (sub x u t)=eZ (jf σ x (eZ σ u)) t
 |
  .name s=>by
  by_cases h:s=x
  ·simp[sub,eZ,jf,h]
  ·simp[sub,eZ,jf,h]
 | .plus a b=>by simp only[sub,eZ,iW σ x u a,iW σ x u b]
 | .times a b=>by simp only[sub,eZ,iW σ x u a,iW σ x u b]
 | .rc a=>by simp only[sub,eZ,iW σ x u a]
 | .zero=>rfl
 | .one=>rfl
 | .bN k=>rfl
def B3(σ:Nm->Option Ty):Prop:=∀s u,σ s=some u->jX u 0
theorem kz{σ:Nm->Option Ty}(hσ:B3 σ):∀(t:Ty) {i:Nat},jX t i->jX (eZ σ t) i
 |
  .name s,i,_=>by
  simp only[eZ]
  cases q:σ s with
  |none=>trivial
  |some u=>exact gA u (hσ s u q) (Nat.zero_le _)
 | .plus a b,i,h=>⟨kz hσ a h.1,kz hσ b h.2⟩
 | .times a b,i,h=>⟨kz hσ a h.1,kz hσ b h.2⟩
 | .rc a,i,h=>kz hσ a (i:=i+1) h
 | .zero,_,_=>trivial
 | .one,_,_=>trivial
 | .bN k,_,h=>h
theorem ju{σ:Nm->Option Ty}(hσ:B3 σ)(x:Nm)(U:Ty):∀(t:Ty) (i:Nat),bh x t=false->eZ (jf σ x U) (dK (.name x) t i)=dK U (eZ σ t) i
 |
  .name s,i,h=>by
  have hs:s≠x:=by simpa[bh]using h
  simp only[dK,eZ,jf,if_neg hs]
  cases q:σ s with
  |none=>rfl
  |some u=>exact(lg U u (gA u (hσ s u q) (Nat.zero_le _))).symm
 |
  .bN k,i,h=>by
  simp only[dK,eZ]
  split
  ·simp[eZ,jf]
  ·rfl
 |
  .plus a b,i,h=>by
  simp only[bh,cv]at h
  simp only[dK,eZ,ju hσ x U a i h.1,ju hσ x U b i h.2]
 |
  .times a b,i,h=>by
  simp only[bh,cv]at h
  simp only[dK,eZ,ju hσ x U a i h.1,ju hσ x U b i h.2]
 | .rc a,i,h=>by simp only[dK,eZ,ju hσ x U a (i+1) h]
 | .zero,_,_=>rfl
 | .one,_,_=>rfl
theorem nO{σ:Nm->Option Ty}(hσ:B3 σ)(x:Nm){u:Ty}(hu:jX u 0):B3 (jf σ x u):=fun s v h=>by
 unfold jf at h
 split at h
 ·cases h;exact hu
 ·exact hσ s v h
theorem iY(x:Nm):∀(n:Nat) (c:Vl) (t:Ty) (i:Nat),c.nodes<=n->dM (dK (.name x) t i) c=dM t c
 |0,c,_,_,h=>by have:=dD c;omega
 |
  n+1,c,t,i,hn=>by
  cases t with
  |bN k=>simp only[dK];split<;>(cases c<;>rfl)
  |
   plus a b =>
   cases c with
   |l c=>simp only[Vl.nodes]at hn;exact iY x n c a i (by omega)
   |r c=>simp only[Vl.nodes]at hn;exact iY x n c b i (by omega)
   |_=>rfl
  |
   times a b =>
   cases c with
   |
    l c =>
    cases c with
    |p y z=>simp only[Vl.nodes]at hn;exact iY x n y a i (by omega)
    |_=>rfl
   |
    r c =>
    cases c with
    |p y z=>simp only[Vl.nodes]at hn;exact iY x n z b i (by omega)
    |_=>rfl
   |_=>rfl
  |
   rc a =>
   cases c with
   |
    f c =>
    cases c with
    |l y=>simp only[Vl.nodes]at hn;exact iY x n y a (i+1) (by omega)
    |
     r c =>
     cases c with
     |
      p y z =>
      simp only[Vl.nodes]at hn
      have h1:=iY x n y a (i+1) (by omega)
      have h2:=iY x n z (.rc a) i (by omega)
      show (dM (dK (.name x) a (i+1)) y&&dM (.rc (dK (.name x) a (i+1))) z)=(dM a y&&dM (.rc a) z)
      rw[h1]
      exact congrArg _ h2
     |_=>rfl
    |_=>rfl
   |_=>rfl
  |_=>rfl
end Go.Proofs.Trees
namespace Go.Proofs.Trees
open Go Go.VL Go.RowKit
theorem eV(x:Nm):∀(n:Nat) (c:Vl) (t:Ty) (i:Nat) (v:Vl),c.nodes<=n->dB (dK (.name x) t i) c v=dB t c v
 |0,c,_,_,_,h=>by have:=dD c;omega
 |
  n+1,c,t,i,v,hn=>by
  cases t with
  |bN k=>simp only[dK];split<;>(cases c<;>rfl)
  |
   plus a b =>
   cases c with
   |l c=>simp only[Vl.nodes]at hn;exact congrArg Vl.l (eV x n c a i v (by omega))
   |r c=>simp only[Vl.nodes]at hn;exact congrArg Vl.r (eV x n c b i v (by omega))
   |_=>rfl
  |
   times a b =>
   cases c with
   |
    l c =>
    cases c with
    |p y z=>simp only[Vl.nodes]at hn;exact congrArg (fun q=>Vl.p q z) (eV x n y a i v (by omega))
    |_=>rfl
   |
    r c =>
    cases c with
    |p y z=>simp only[Vl.nodes]at hn;exact congrArg (Vl.p y) (eV x n z b i v (by omega))
    |_=>rfl
   |_=>rfl
  |
   rc a =>
   cases c with
   |
    f c =>
    cases c with
    |l y=>simp only[Vl.nodes]at hn;exact congrArg Vl.f (eV x n y a (i+1) v (by omega))
    |
     r c =>
     cases c with
     |
      p y z =>
      simp only[Vl.nodes]at hn
      have h2:=eV x n z (.rc a) i v (by omega)
      have h1:=eV x n y a (i+1) (dB (.rc a) z v) (by omega)
      show Vl.f (dB (dK (.name x) a (i+1)) y (dB (.rc (dK (.name x) a (i+1))) z v))=Vl.f (dB a y (dB (.rc a) z v))
      have h3:dB (.rc (dK (.name x) a (i+1))) z v=dB (.rc a) z v:=h2
      rw[h3,h1]
     |_=>rfl
    |_=>rfl
   |_=>rfl
  |_=>rfl
theorem CG{n:Nat}{c:Vl}{a:Ty}(h:vT n c (.rc a)=true):∃w,c=.f w/\vT n w (dK (.rc a) a 0)=true:=by
 cases c with
 |f w=>exact⟨w,rfl,h⟩
 |_=>simp[vT]at h
theorem lF{n:Nat}{c:Vl}{a b:Ty}(h:vT n c (.plus a b)=true):(∃w,c=.l w/\vT n w a=true)\/∃w,c=.r w/\vT n w b=true:=by
 cases c with
 |l w=>exact .inl ⟨w,rfl,h⟩
 |r w=>exact .inr ⟨w,rfl,h⟩
 |_=>simp[vT]at h
theorem jQ{n:Nat}{c:Vl}{a b:Ty}(h:vT n c (.times a b)=true):∃x y,c=.p x y/\vT n x a=true/\vT n y b=true:=by
 cases c with
 |p x y=>simp only[vT,ap]at h;exact⟨x,y,rfl,h.1,h.2⟩
 |_=>simp[vT]at h
theorem qx{σ:Nm->Option Ty}(hσ:B3 σ){a c d:Ty}{x:Nm}(ha:jX (.rc a) 0)(hc:jX c 0)(hd:jX d 0):∃X,eZ σ (oR a x c d)=.rc X/\dK (.rc X) X 0=.plus (eZ (jf σ x (eZ σ (.rc a))) c) (.times (eZ (jf σ x (eZ σ (.rc a))) d) (eZ σ (oR a x c d))):=by
 refine⟨.plus (eZ σ (sub x (.rc a) c)) (.times (eZ σ (sub x (.rc a) d)) (.bN 0)),rfl,?_⟩
 have h1:=kz hσ (sub x (.rc a) c) (kw ha c hc)
 have h2:=kz hσ (sub x (.rc a) d) (kw ha d hd)
 simp only[dK,lg _ _ h1,lg _ _ h2,if_true]
 rw[iW,iW]
 simp only[oR,eZ,iW]
theorem uO(n:Nat):∀(m:Nat) (c:Vl),c.nodes<=m->∀(t:Ty) (s:Nm) (d:Ty) (σ:Nm->Option Ty),Dv t s d->B3 σ->jX t 0->vT n c (eZ σ d)=true->dM t c=true
 |0,c,h=>by have:=dD c;omega
 |
  m+1,c,hm=>by
  intro t s d σ hd hσ hl hv
  cases hd with
  |zero=>cases c<;>rfl
  |one=>cases c<;>rfl
  |bN=>cases c<;>rfl
  |hit=>cases c<;>rfl
  |qt=>cases c<;>rfl
  |
   plus h1 h2 _ =>
   rcases lF hv with⟨w,rfl,hw⟩|⟨w,rfl,hw⟩
   ·simp only[Vl.nodes]at hm;exact uO n m w (by omega) _ s _ σ h1 hσ hl.1 hw
   ·simp only[Vl.nodes]at hm;exact uO n m w (by omega) _ s _ σ h2 hσ hl.2 hw
  |
   times h1 h2 _ =>
   rcases lF hv with⟨w,rfl,hw⟩|⟨w,rfl,hw⟩
   ·obtain⟨x,y,rfl,hx,hy⟩:=jQ hw
    simp only[Vl.nodes]at hm;exact uO n m x (by omega) _ s _ σ h1 hσ hl.1 hx
   ·obtain⟨x,y,rfl,hx,hy⟩:=jQ hw
    simp only[Vl.nodes]at hm;exact uO n m y (by omega) _ s _ σ h2 hσ hl.2 hy
  |
   @rc a _ c0 d0 x hx hs h1 h2 hsz =>
   have lo:jX (dK (.name x) a 0) 0:=iJ x a hl
   obtain⟨X,e1,e2⟩:=qx (x:=x) hσ hl (h1.lc lo) (h2.lc lo)
   have hv':=hv
   rw[e1]at hv'
   obtain⟨w,rfl,hw⟩:=CG hv'
   rw[e2]at hw
   have hcl:=nO hσ x (kz hσ (.rc a) hl)
   rcases lF hw with⟨y,rfl,hy⟩|⟨y,rfl,hy⟩
   ·simp only[Vl.nodes]at hm
    have:=uO n m y (by omega) _ s _ _ h1 hcl lo hy
    rw[iY x y.nodes y a 0 (aq _)]at this
    exact this
   ·obtain⟨y,z,rfl,hy,hz⟩:=jQ hy
    simp only[Vl.nodes]at hm
    have q1:=uO n m y (by omega) _ x _ _ h2 hcl lo hy
    rw[iY x y.nodes y a 0 (aq _)]at q1
    have q2:=uO n m z (by omega) (.rc a) s _ σ (.rc x hx hs h1 h2 hsz) hσ hl hz
    show (dM a y&&dM (.rc a) z)=true
    rw[q1,q2];rfl
theorem pA(n:Nat):∀(m:Nat) (c:Vl),c.nodes<=m->∀(t:Ty) (s:Nm) (d:Ty) (σ:Nm->Option Ty),Dv t s d->B3 σ->jX t 0->vT n c (eZ σ d)=true->∀v,vT n v (eZ σ (.name s))=true->vT n (dB t c v) (eZ σ t)=true
 |0,c,h=>by have:=dD c;omega
 |
  m+1,c,hm=>by
  intro t s d σ hd hσ hl hv v hvv
  have no:∀c,vT n c .zero=false:=fun c=>by cases c<;>rfl
  cases hd with
  |zero=>rw[show eZ σ .zero=.zero from rfl,no]at hv;cases hv
  |one=>rw[show eZ σ .zero=.zero from rfl,no]at hv;cases hv
  |bN=>rw[show eZ σ .zero=.zero from rfl,no]at hv;cases hv
  |qt=>rw[show eZ σ .zero=.zero from rfl,no]at hv;cases hv
  |hit=>rw[mQ];exact hvv
  |
   plus h1 h2 _ =>
   rcases lF hv with⟨w,rfl,hw⟩|⟨w,rfl,hw⟩
   ·simp only[Vl.nodes]at hm;exact pA n m w (by omega) _ s _ σ h1 hσ hl.1 hw v hvv
   ·simp only[Vl.nodes]at hm;exact pA n m w (by omega) _ s _ σ h2 hσ hl.2 hw v hvv
  |
   times h1 h2 _ =>
   rcases lF hv with⟨w,rfl,hw⟩|⟨w,rfl,hw⟩
   ·obtain⟨x,y,rfl,hx,hy⟩:=jQ hw
    simp only[Vl.nodes]at hm
    have:=pA n m x (by omega) _ s _ σ h1 hσ hl.1 hx v hvv
    show (vT n _ _&&vT n _ _)=true
    rw[this,hy];rfl
   ·obtain⟨x,y,rfl,hx,hy⟩:=jQ hw
    simp only[Vl.nodes]at hm
    have:=pA n m y (by omega) _ s _ σ h2 hσ hl.2 hy v hvv
    show (vT n _ _&&vT n _ _)=true
    rw[this,hx];rfl
  |
   @rc a _ c0 d0 x hx hs h1 h2 hsz =>
   have lo:jX (dK (.name x) a 0) 0:=iJ x a hl
   obtain⟨X,e1,e2⟩:=qx (x:=x) hσ hl (h1.lc lo) (h2.lc lo)
   have hv':=hv
   rw[e1]at hv'
   obtain⟨w,rfl,hw⟩:=CG hv'
   rw[e2]at hw
   have hcl:=nO hσ x (kz hσ (.rc a) hl)
   have hop:eZ (jf σ x (eZ σ (.rc a))) (dK (.name x) a 0)=dK (eZ σ (.rc a)) (eZ σ a) 0:=ju hσ x _ a 0 hx
   have hns:eZ (jf σ x (eZ σ (.rc a))) (.name s)=eZ σ (.name s):=by simp only[eZ,jf,if_neg (Ne.symm hs)]
   have hnx:eZ (jf σ x (eZ σ (.rc a))) (.name x)=eZ σ (.rc a):=by simp[eZ,jf]
   rcases lF hw with⟨y,rfl,hy⟩|⟨y,rfl,hy⟩
   ·simp only[Vl.nodes]at hm
    have:=pA n m y (by omega) _ s _ _ h1 hcl lo hy v (by rw[hns];exact hvv)
    rw[hop,eV x y.nodes y a 0 v (aq _)]at this
    exact this
   ·obtain⟨y,z,rfl,hy,hz⟩:=jQ hy
    simp only[Vl.nodes]at hm
    have q2:=pA n m z (by omega) (.rc a) s _ σ (.rc x hx hs h1 h2 hsz) hσ hl hz v hvv
    have q1:=pA n m y (by omega) _ x _ _ h2 hcl lo hy (dB (.rc a) z v) (by rw[hnx];exact q2)
    rw[hop,eV x y.nodes y a 0 _ (aq _)]at q1
    exact q1
def Fv:Nm->Option Ty:=fun _=>none
theorem s5:B3 Fv:=fun _ _ h=>by cases h
theorem jU:∀t:Ty,eZ Fv t=t
 | .name s=>rfl
 | .plus a b=>by simp only[eZ,jU a,jU b]
 | .times a b=>by simp only[eZ,jU a,jU b]
 | .rc a=>by simp only[eZ,jU a]
 | .zero=>rfl
 | .one=>rfl
 | .bN k=>rfl
theorem GB{n:Nat}{a D:Ty}{x:Nm}(hx:bh x a=false)(hl:jX (.rc a) 0)(h:oN a x=some D){c:Vl}(hc:vT n c D=true) :
 dM a c=true/\∀v,vT n v (.rc a)=true->vT n (.f (dB a c v)) (.rc a)=true:=by
 simp only[oN,bc,cU,eT]at h
 obtain⟨d,hd,_,rfl⟩:=h
 have lo:jX (dK (.name x) a 0) 0:=iJ x a hl
 have hcl:=nO s5 x hl
 have e1:sub x (.rc a) d=eZ (jf Fv x (.rc a)) d:=by
  have:=iW Fv x (.rc a) d
  rw[jU,jU]at this;exact this
 rw[e1]at hc
 have h1:=uO n c.nodes c (aq _) _ x _ _ hd hcl lo hc
 rw[iY x c.nodes c a 0 (aq _)]at h1
 refine⟨h1,fun v hv=>?_⟩
 have h2:=pA n c.nodes c (aq _) _ x _ _ hd hcl lo hc v (by simpa[eZ,jf]using hv)
 rw[eV x c.nodes c a 0 v (aq _),ju s5 x _ a 0 hx,jU]at h2
 exact h2
end Go.Proofs.Trees
namespace Go.Proofs.Trees
open Go Go.VL Go.RowKit
theorem yJ{env:List Fr}(h:WF env):∀w,w∈names env->db w=true:=by
 induction h with
 |nil=>intro w hw;cases hw
 |
  cons hs _ _ _ _ _ ih =>
  intro w hw
  simp only[names,aI,aP]at hw
  rcases hw with hw|rfl
  ·exact ih w hw
  ·exact hs
theorem z6{ar:List (List UInt8)}{k:Nat}(h:k<ar.length):gb ar k∈ar:=by
 unfold gb
 have:ar.length-1-k<ar.length:=by omega
 simp[aa,this]
def As(s:List UInt8)(ar:List (List UInt8)):Prop:=gV s=true\/(bI s ar ar.length).isSome=true
theorem u5{s:List UInt8}{ar:List (List UInt8)}{u:Nat}(hl:∀w,w∈ar->db w=true)(h:bI s ar ar.length=some u):db s=true:=by
 obtain⟨h1,h2⟩:=fA _ _ (aq _) h
 rw[<-h2];exact hl _ (z6 h1)
theorem HA{s0 s:List UInt8}{ar:List (List UInt8)}{t:Ty}(ht:cQ (.atom s0) ar=some t)(hl:∀w,w∈ar->db w=true)(hs:As s ar):fI t (n9 s ar)=decide (s0=s):=by
 have h48:∀b:UInt8,gV [b]=false->db [b]=false->s≠[b]:=fun b h1 h2 e=>by
  subst e
  rcases hs with h|h
  ·rw[h1]at h;cases h
  ·obtain⟨u,hu⟩:=ck.1 h
   rw[u5 hl hu]at h2;cases h2
 simp only[cQ]at ht
 split at ht
 ·rename_i e;cases ht;subst e
  have:=h48 48 rfl rfl
  rw[decide_eq_false (fun h=>this h.symm)];cases n9 s ar<;>rfl
 ·split at ht
  ·rename_i e;cases ht;subst e
   have:=h48 49 rfl rfl
   rw[decide_eq_false (fun h=>this h.symm)];cases n9 s ar<;>rfl
  ·split at ht
   ·rename_i hp
    cases ht
    unfold n9
    cases e:bI s ar ar.length with
    |none=>rfl
    |
     some u =>
     have hloo:=u5 hl e
     show false=_
     rw[decide_eq_false]
     rintro rfl
     rw[ka hp]at hloo;cases hloo
   ·rename_i hnp
    split at ht
    ·split at ht
     ·rename_i u hu
      cases ht
      unfold n9
      cases e:bI s ar ar.length with
      |
       none =>
       show false=_
       rw[decide_eq_false]
       rintro rfl
       rw[hu]at e;cases e
      |
       some u' =>
       show decide (u=u')=_
       rw[cq,decide_eq_true_eq,decide_eq_true_eq]
       constructor
       ·rintro rfl
        rw[<-(fA _ _ (aq _) hu).2,<-(fA _ _ (aq _) e).2]
       ·rintro rfl
        rw[hu]at e;cases e;rfl
     ·rename_i hn
      cases ht
      unfold n9
      cases e:bI s ar ar.length with
      |none=>rfl
      |
       some u =>
       show false=_
       rw[decide_eq_false]
       rintro rfl
       rw[hn]at e;cases e
    ·cases ht
theorem Dj{b:E}{ar:List (List UInt8)}{w:List UInt8}{t:Ty}(hb:cQ b (ar++[w])=some t)(hw:db w=true)(hs:As w ar):uy t (n9 w ar).up=false:=by
 rcases hs with h|h
 ·rw[ka h]at hw;cases hw
 ·obtain⟨u,hu⟩:=ck.1 h
  rw[n9,hu];exact GY hb hu
theorem zi{s w:List UInt8}{ar:List (List UInt8)}(h:w≠s)(hs:As s ar):As s (ar++[w]):=by
 rcases hs with h1|h1
 ·exact .inl h1
 ·right;rw[jp ar h];obtain⟨u,hu⟩:=ck.1 h1;rw[hu];rfl
def Oi(e:E)(s:List UInt8)(t:Ty)(tg:Tg)(v:Vl):Prop:=an Tryz.prog 92 [.agg [.v (.string (mk e.at)),e.sp],.v (.string (mk s)),.agg [.v (.string (mk v.cH.at)),v.cH.sp]] [] (bA (.sl (lS (cg t tg v))))
theorem DS(n:Nat):∀(m:Nat) (v:Vl),v.nodes<=m->∀(e:E) (env:List Fr) (t:Ty),Ask e env t->eK n v (e,env)=true->env.length+v.nodes<100000->∀(s:List UInt8),As s (names env)->Oi e s t (n9 s (names env)) v
 |0,v,hm=>by have:=dD v;omega
 |
  m+1,v,hm=>by
  intro e env t A hv hl s hs
  have hloo:=yJ A.wf
  unfold Oi
  refine QB _ _ _ _ _ ((a6 _).mpr trivial) ((a6 _).mpr trivial) ?_
  have hlen:=mL t (n9 s (names env)) v
  have atomCase:∀s0,e=.atom s0->stuck t v=true->eM Tryz.prog 244 (vO (mk e.at) e.sp (mk s) (mk v.cH.at) v.cH.sp) fun _ xs obs=>bA (.sl (lS (cg t (n9 s (names env)) v))) (xs.headD .any) obs:=by
   rintro s0 rfl hst
   have hat:=HA A.ty hloo hs
   have hne:s0≠[]:=A.ok
   simp only[vO,E.at,↓zq,zs,ac,zt]
   refine⟨fun _=>⟨fun h=>?_,fun h=>?_⟩,fun h=>absurd h hne⟩
   ·rw[decide_eq_true h]at hat
    rw[ml v hat]
    refine⟨⟨yy _ _ _ _,by omega⟩,?_⟩
    simp[bA,lS,Vl.cH,E.at,E.sp]
   ·rw[decide_eq_false h]at hat
    rw[dS hat hst]
    simp[bA,lS]
  have hvh:=Ah v
  rw[dr]at hvh
  rcases gl A.wf A.ty with⟨hb,hq⟩|⟨u,g,rfl,hq,hu⟩
  ·have hhd:hd e env=(e,env):=j9 hq
   rcases fC A.ty hb A.cl with⟨rfl,rfl⟩|⟨rfl,rfl⟩|⟨s0,rfl,rfl,hp,h0,h1⟩|⟨x,a,b,t1,t2,rfl,hx,rfl,ha,hbb⟩|⟨x,a,b,t1,t2,rfl,hx,rfl,ha,hbb⟩|⟨x,a,b,t1,rfl,hx,rfl⟩
   ·exact atomCase _ rfl (by cases v<;>rfl)
   ·exact atomCase _ rfl (by cases v<;>rfl)
   ·exact atomCase _ rfl (by cases v<;>rfl)
   ·obtain⟨ok1,ok2,ok3,_⟩:=A.ok
    obtain⟨f1,f2⟩:=fp A.cl
    have hP:=P3.of x a b
    cases v with
    |
     l w =>
     simp only[eK,hhd,hx,beq_self_eq_true,bP]at hv
     simp only[Vl.nodes]at hm hl hlen
     rw[mF]at hlen |-
     rw[fM]at hlen
     have hW:=P2.of (.atom [108]) w.cH
     simp only[vO,E.at,↓zq,zs,ac,zt]
     refine⟨fun h=>absurd rfl h,fun _=>ah hvh ?_⟩
     simp only[vh,Vl.cH,toNat_one,bi,↓zq,zs,ac,zt,hP.1,hP.2.1,hP.2.2.1,hP.2.2.2,hW.1,hW.2.1,hW.2.2,aQ]
     refine⟨fun _=>?_,fun h=>absurd rfl h⟩
     repeat refine⟨by omega,?_⟩
     refine ah (DS n m w (by omega) a env t1 ⟨ok2,A.wf,ha,f1⟩ hv (by omega) s hs) ?_
     simp only[↓zq,zs,ac]
     refine aT (Ic [108] Vl.l (fun c=>rfl) (cg t1 (n9 s (names env)) w) [] (by simp;omega)) ?_
     simp[↓zq,zs,ac,bA,aS,bG]
    |
     r w =>
     simp only[eK,hhd,hx,beq_self_eq_true,bP]at hv
     simp only[Vl.nodes]at hm hl hlen
     rw[mM]at hlen |-
     rw[fM]at hlen
     have hW:=P2.of (.atom [114]) w.cH
     simp only[vO,E.at,↓zq,zs,ac,zt]
     refine⟨fun h=>absurd rfl h,fun _=>ah hvh ?_⟩
     simp only[vh,Vl.cH,toNat_one,bi,↓zq,zs,ac,zt,hP.1,hP.2.1,hP.2.2.1,hP.2.2.2,hW.1,hW.2.1,hW.2.2,aQ]
     refine⟨fun h=>by simp at h,fun _=>⟨fun _=>?_,fun h=>absurd rfl h⟩⟩
     repeat refine⟨by omega,?_⟩
     refine ah (DS n m w (by omega) b env t2 ⟨ok3,A.wf,hbb,f2⟩ hv (by omega) s hs) ?_
     simp only[↓zq,zs,ac]
     refine aT (Ic [114] Vl.r (fun c=>rfl) (cg t2 (n9 s (names env)) w) [] (by simp;omega)) ?_
     simp[↓zq,zs,ac,bA,aS,bG]
    |_=>simp[eK,hhd,hx]at hv
   ·obtain⟨ok1,ok2,ok3,_⟩:=A.ok
    obtain⟨f1,f2⟩:=eJ A.cl
    have hP:=P3.of x a b
    cases v with
    |
     p w w' =>
     simp only[eK,hhd,hx,beq_self_eq_true,bP,ap]at hv
     simp only[Vl.nodes]at hm hl hlen
     rw[mG]at hlen |-
     simp only[ax,fM]at hlen
     have hW:=P3.of (.atom [112]) w.cH w'.cH
     simp only[vO,E.at,↓zq,zs,ac,zt]
     refine⟨fun h=>absurd rfl h,fun _=>ah hvh ?_⟩
     simp only[vh,Vl.cH,toNat_one,bi,↓zq,zs,ac,zt,hP.1,hP.2.1,hP.2.2.1,hP.2.2.2,hW.1,hW.2.1,hW.2.2.1,hW.2.2.2,aQ]
     refine⟨fun h=>by simp at h,fun _=>⟨fun h=>by simp at h,fun _=>⟨fun _=>?_,fun h=>absurd rfl h⟩⟩⟩
     repeat refine⟨by omega,?_⟩
     refine ah (DS n m w (by omega) a env t1 ⟨ok2,A.wf,ha,f1⟩ hv.1 (by omega) s hs) ?_
     simp only[↓zq,zs,ac]
     have h1:=Np s (mk []) (E.list [x,a,b]).sp ((a6 _).mpr trivial) (mk []) (E.list [.atom [112],w.cH,w'.cH]).sp w w' (P3.of _ _ _) (cg t1 (n9 s (names env)) w) (by omega) _ 0 [] (aU _) (by simp;omega)
     rw[aZ,aM]at h1
     refine cr h1 ?_
     simp only[↓zq,zs,ac,a6,ac,bi,hP.1,hP.2.1,hP.2.2.2,hW.1,hW.2.1,hW.2.2.2,aQ]
     repeat refine⟨by omega,?_⟩
     refine ah (DS n m w' (by omega) b env t2 ⟨ok3,A.wf,hbb,f2⟩ hv.2 (by omega) s hs) ?_
     simp only[↓zq,zs,ac]
     have h2:=HN (mk []) (E.list [.atom [112],w.cH,w'.cH]).sp w w' (P3.of _ _ _) (cg t2 (n9 s (names env)) w') (by omega) _ 0 (ji (fun c=>Vl.l (.p c w')) (cg t1 (n9 s (names env)) w)) (aU _) (by rw[fM];omega)
     rw[aZ]at h2
     refine cr h2 ?_
     simp[↓zq,zs,ac,bA]
    |_=>simp[eK,hhd,hx]at hv
   ·obtain⟨t1',he1,h1,f1,hw1⟩:=i6 A.wf A.ok hx A.ty A.cl
    cases he1
    obtain⟨ok1,ok2,ok3,_⟩:=A.ok
    obtain⟨_,hla,_,_⟩:=dy hx A.ty
    have A':Ask b (.mk a.at (.list [x,a,b]) env::env) t1:=⟨ok3,hw1,h1,f1⟩
    have hnm:names (.mk a.at (.list [x,a,b]) env::env)=names env++[a.at]:=rfl
    have hP:=P3.of x a b
    cases v with
    |
     f w =>
     simp only[eK,hhd,hx,beq_self_eq_true,bP]at hv
     simp only[Vl.nodes]at hm hl hlen
     have hW:=P2.of (.atom [102]) w.cH
     simp only[vO,E.at,↓zq,zs,ac,zt]
     refine⟨fun h=>absurd rfl h,fun _=>ah hvh ?_⟩
     simp only[vh,Vl.cH,toNat_one,bi,↓zq,zs,ac,zt,hP.1,hP.2.1,hP.2.2.1,hP.2.2.2,hW.1,hW.2.1,hW.2.2,aQ]
     refine⟨fun h=>by simp at h,fun _=>⟨fun h=>by simp at h,fun _=>⟨fun h=>by simp at h,fun _=>?_⟩⟩⟩
     repeat refine⟨by omega,?_⟩
     refine⟨fun h=>?_,fun h=>?_⟩
     ·
      have hh:a.at=s:=h
      subst hh
      have:uy (.rc t1) (n9 a.at (names env))=false:=Dj h1 hla hs
      rw[iN _ _ (aq _) _ _ this]
      simp[bA,lS]
     ·have hh:a.at≠s:=h
      rw[mE]at hlen |-
      simp only[ax,fM]at hlen
      repeat refine⟨by omega,?_⟩
      have i1:=DS n m w (by omega) b _ t1 A' hv (by simp;omega) s (by rw[hnm];exact zi hh hs)
      rw[hnm,zc _ hh]at i1
      refine ah i1 ?_
      simp only[↓zq,zs,ac]
      have h3:=MZ s a.at (mk []) (E.list [x,a,b]).sp ((a6 _).mpr trivial) (mk []) (E.list [.atom [102],w.cH]).sp ((a6 _).mpr trivial) (cg t1 (n9 s (names env)).up w) (by omega) _ 0 [] (aU _) (by simp;omega)
      rw[aZ,aM]at h3
      refine cr h3 ?_
      simp only[↓zq,zs,ac,a6,ac,toNat_one,bi,hP.1,hP.2.1,hP.2.2.2,hW.1,hW.2.1,hW.2.2,aQ]
      repeat refine⟨by omega,?_⟩
      have i2:=DS n m w (by omega) b _ t1 A' hv (by simp;omega) a.at (by rw[hnm];right;rw[e9];rfl)
      rw[hnm,vG]at i2
      refine ah i2 ?_
      simp only[↓zq,zs,ac]
      have hl2:=mL t1 (.bd 0) w
      have ih3:∀h,h∈cg t1 (.bd 0) w->Oi (.list [x,a,b]) s (.rc t1) (n9 s (names env)) h.2:=fun h hh=>by
       have h3:=(ir hh).1
       have h4:=iq n m w (by omega) b _ t1 A' hv 0 _ rfl h hh
       exact DS n m h.2 (by omega) (.list [x,a,b]) env (.rc t1) A h4 (by omega) s hs
      have h4:=Ku s (.list [x,a,b]) t1 (n9 s (names env)) (cg t1 (.bd 0) w) (by omega) ih3 _ 0 (ji (fun c=>.f (.l c)) (cg t1 (n9 s (names env)).up w)) (aU _) (by
       simp only[aZ,ax,fM]
       have hlen2:(cg t1 (n9 s (names env)).up w).length+((cg t1 (.bd 0) w).flatMap (zF t1 (n9 s (names env)))).length<=1+w.nodes:=hlen
       omega)
      rw[aZ]at h4
      simp only[E.at]at h4
      refine cr h4 ?_
      simp[↓zq,zs,ac,bA]
    |_=>simp[eK,hhd,hx]at hv
  ·cases e with
   |atom s0=>exact atomCase _ rfl (by cases v<;>rfl)
   |list l=>exact absurd hq (by rw[show (E.list l).at=[] from rfl,kS A.wf];simp)
end Go.Proofs.Trees
namespace Go.Proofs.Trees
open Go Go.VL Go.RowKit
def kl(s:List UInt8):Option Ty:=match wb s with
 |some (.rc a)=>some a
 |_=>none
def Bh:Option Ty->AV
 |some a=>(Ty.rc a).av
 |none=>gp
theorem N2(s:List UInt8):an Tryz.prog 107 [.v (.string (mk s))] [] (bA (Bh (kl s))):=by
 refine OP _ ?_
 unfold H0
 refine ah (LN s) ?_
 cases h:wb s with
 |none=>simp[↓zq,zs,ac,hG,Bh,kl,h,bA]
 |some t=>cases t<;>simp[↓zq,zs,ac,hG,Bh,kl,h,bA,Ty.av]
def pT(s v:List UInt8):Option Vl:=match kl s with
 |some _=>ni s v 100
 |none=>none
def E7(s:List UInt8):AV:=match kl s with
 |some a=>(Ty.rc a).av
 |none=>gp
theorem tS{s:List UInt8}{a:Ty}(h:kl s=some a):wb s=some (.rc a):=by
 unfold kl at h
 split at h
 ·rename_i e;cases h;exact e
 ·cases h
theorem Rj(s v:List UInt8):an Tryz.prog 84 [.v (.string (mk s)),.v (.string (mk v))] [] (bA (.cI [E7 s,je (pT s v)])):=by
 refine PH _ _ ?_
 unfold J3
 refine ah (N2 s) ?_
 cases h:kl s with
 |none=>simp[↓zq,zs,ac,Bh,E7,pT,h,bA,je]
 |
  some a =>
  simp only[↓zq,zs,ac,Bh,aC,fG]
  refine⟨fun h=>(by cases h),fun _=>?_⟩
  refine ah (M9 s v 100) ?_
  rw[tS h]
  simp[↓zq,zs,ac,hG,gn,E7,pT,h,bA,aC]
structure LV(s v:List UInt8)(w:Vl)(a:Ty)(x A B:E):Prop where
 l:kl s=some a
 ce:jt s=some (.list [x,A,B])
 v:rM v=some w
 ask:Ask (.list [x,A,B]) [] (.rc a)
 hx:x.at=[114,101,99]
 RY:db A.at=true
 body:Ask B [.mk A.at (.list [x,A,B]) []] a
 eK:eK 100 w (.list [x,A,B],[])=true
theorem sA{e:E}{env:List Fr}{a:Ty}(A:Ask e env (.rc a)):∃x y z,e=.list [x,y,z]/\x.at=[114,101,99]/\db y.at=true/\Ask z (.mk y.at (.list [x,y,z]) env::env) a:=by
 rcases fC A.ty rfl A.cl with⟨_,h⟩|⟨_,h⟩|⟨s,_,h,_⟩|⟨x,y,z,t1,t2,_,_,h,_⟩|⟨x,y,z,t1,t2,_,_,h,_⟩|⟨x,y,z,t1,rfl,hx,h⟩
 ·cases h
 ·cases h
 ·cases h
 ·cases h
 ·cases h
 ·cases h
  obtain⟨t1',he1,h1,f1,hw1⟩:=i6 A.wf A.ok hx A.ty A.cl
  cases he1
  obtain⟨_,_,ok3,_⟩:=A.ok
  obtain⟨_,hla,_,_⟩:=dy hx A.ty
  exact⟨x,y,z,rfl,hx,hla,ok3,hw1,h1,f1⟩
theorem oT{s v:List UInt8}{w:Vl}(h:pT s v=some w):∃a x A B,LV s v w a x A B:=by
 unfold pT at h
 split at h
 ·rename_i a hl
  obtain⟨e,t,m,h1,h2,h3,h4,h5,h6,h7⟩:=rb h
  rw[tS hl]at h3
  cases h3
  obtain⟨x,A,B,rfl,hx,hA,hB⟩:=sA h4
  have:m=100:=by omega
  subst this
  exact⟨a,x,A,B,hl,h1,h2,h4,hx,hA,hB,h7⟩
 ·cases h
theorem LV.iu{s v:List UInt8}{w:Vl}{a:Ty}{x A B:E}(h:LV s v w a x A B):w.iu 100:=(lG h.v).2.1
theorem LV.nodes{s v:List UInt8}{w:Vl}{a:Ty}{x A B:E}(h:LV s v w a x A B):w.nodes<=200:=(lG h.v).2.2
theorem tU{n:Nat}{v:Vl}{x A B:E}{env:List Fr}(hw:WF env)(hx:x.at=[114,101,99])(h:eK n v (.list [x,A,B],env)=true):∃w,v=.f w/\eK n w (B,.mk A.at (.list [x,A,B]) env::env)=true:=by
 have hd:=pe (x:=x) (a:=A) (b:=B) hw
 cases v<;>simp[eK,hd,hx]at h |-
 exact h
theorem Ke(n:Nat)(v:Vl)(x A B:E)(a:Ty)(hA:Ask B [.mk A.at (.list [x,A,B]) []] a)(hx:x.at=[114,101,99])(hv:eK n v (.list [x,A,B],[])=true)(hl:v.nodes<90000):an Tryz.prog 68 [(Ty.rc a).av,v.cx] [] (bA (.sl (gJ (kids a v)))):=by
 obtain⟨w,rfl,hw⟩:=tU .nil hx hv
 refine QT _ _ ((aC _).mpr trivial) ((aH _).mpr trivial) ?_
 unfold JU
 refine bO (B2 a gp [] .nil) (Bv.ne a gp []) ?_
 rintro r o ⟨⟨m,hm,rfl⟩,rfl⟩
 have he2:kk (.ptr [.pid m [(Ty.rc a).av,gp],gp]) [m]:=.cons hm .nil
 have hfr:LK.ptr.has (.pid m [(Ty.rc a).av,gp]):=.inr (.inr ⟨_,_,rfl⟩)
 simp only[Ty.av]at he2 hfr
 simp only[↓zq,zs,ac,bB,aC,he2.has,hfr,Vl.cx,aH,Ty.av]
 repeat refine⟨by omega,?_⟩
 simp only[Vl.nodes]at hl
 have i2:=DT n w.nodes w (aq _) B _ a hA hw (by simp;omega) _ _ he2 (by simp) (.bd 0) [] _ (by have:=zJ.bd (k:=0) (ids:=[m]) (by simp) [(Ty.rc a).av,gp] [];simpa only[bo,Ty.av]using this)
 unfold Fi at i2
 refine ah i2 ?_
 simp[↓zq,zs,ac,bA,kids]
def rD(l:List Nat):List (List AV):=l.map fun(k:Nat)=>[.v (.int .i64 (k:Int))]
theorem wC(l:List Nat):(rD l).length=l.length:=by simp[rD]
end Go.Proofs.Trees
namespace Go.Proofs.Trees
open Go Go.VL Go.RowKit
theorem G8{b:UInt8}(h:hJ b=true):eN b=true:=by
 simp only[hJ,eN,decide_eq_true_eq]at h |-;omega
theorem C6{y:Nm}(h:Ln y):y≠[]/\y.all eN=true:=by
 have key:∀lo hi,97<=lo->hi<=122->named lo hi y=true->y≠[]/\y.all eN=true:=fun lo hi h1 h2 h=>by
  cases y with
  |nil=>cases h
  |
   cons c r =>
   simp only[named,ap,decide_eq_true_eq]at h
   refine⟨by simp,?_⟩
   rw[cW,ap]
   refine⟨?_,?_⟩
   ·simp only[eN,decide_eq_true_eq];omega
   ·rw[bR]
    intro b hb
    exact G8 (bR.1 h.2 b hb)
 rcases h with h|h
 ·exact key 120 122 (by omega) (by omega) h
 ·exact key 116 116 (by omega) (by omega) h
theorem Ac(m:Nat):(tN m).all eN=true:=by
 rw[cW,vN (m+1) m (by omega)];rfl
theorem po(F:List Nm):∀(t:Ty) (to:List Nm) (k:Nat),(∀y,bh y t=true->y≠[]/\y.all eN=true)->(∀w,w∈to->w≠[]/\w.all eN=true)->jX t to.length->(gT F t to k).1.pr
 | .zero,_,_,_,_,_=>⟨by simp,by decide⟩
 | .one,_,_,_,_,_=>⟨by simp,by decide⟩
 | .name s,_,_,hn,_,_=>hn s (by simp[bh])
 |
  .bN u,to,_,_,ht,hl=>by
  have:to.length-1-u<to.length:=by have:u<to.length:=hl;omega
  show (E.atom (gb to u)).pr
  unfold gb
  rw[aa,bf this]
  exact ht _ (bx this)
 | .plus a b,to,k,hn,ht,hl=>⟨by simp,⟨by simp,by decide⟩,po F a to k (fun y hy=>hn y (by simp[bh,hy])) ht hl.1,po F b to _ (fun y hy=>hn y (by simp[bh,hy])) ht hl.2,trivial⟩
 | .times a b,to,k,hn,ht,hl=>⟨by simp,⟨by simp,by decide⟩,po F a to k (fun y hy=>hn y (by simp[bh,hy])) ht hl.1,po F b to _ (fun y hy=>hn y (by simp[bh,hy])) ht hl.2,trivial⟩
 |
  .rc a,to,k,hn,ht,hl=>by
  refine⟨by simp,⟨by simp,by decide⟩,⟨by simp,Ac _⟩,po F a (to++[tN (nx F k)]) _ hn (fun w hw=>?_) (by rw[ax];exact hl),trivial⟩
  rcases aI.1 hw with hw|hw
  ·exact ht w hw
  ·simp only[aP]at hw;rw[hw];exact⟨by simp,Ac _⟩
theorem yG{D:Ty}{dt:Nm}(g:fV D)(hn:∀y,bh y D=true->Ln y)(h:told D=some dt):qe dt=some D:=by
 unfold told at h
 split at h
 ·rename_i hh
  cases h
  obtain⟨t,ht⟩:=ck.1 hh.2
  obtain⟨e,he,hw,hte,_,_⟩:=pz ht
  obtain⟨h1,_,_⟩:=pq he
  obtain⟨hx,hpr,_⟩:=xT h1
  obtain⟨w1,w2,_⟩:=kq (bH D []) D [] 0 (.nil _ _) g.1 fun y hy=>⟨(eF D [] y).2 (.inr hy),g.2 y hy⟩
  have hp:=po (bH D []) D [] 0 (fun y hy=>C6 (hn y hy)) (fun w hw=>by cases hw) g.1
  have:=BL hp hpr hx
  rw[ht,<-hte,<-this,w2]
 ·cases h
theorem sg{a d:Ty}{x:Nm}(h:oN a x=some d):∀y,bh y d=true->bh y a=true:=by
 simp only[oN,bc,cU,eT]at h
 obtain⟨d',h1,_,rfl⟩:=h
 intro y hy
 rcases iV _ hy with h|⟨h,h'⟩
 ·exact h
 ·rcases gr a 0 (h1.names y h')with e|e
  ·exact absurd e h
  ·exact e
structure ZT(s d:Nm)(a:Ty)(x A B:E)(D:Ty):Prop where
 l:kl s=some a
 ce:jt s=some (.list [x,A,B])
 ask:Ask (.list [x,A,B]) [] (.rc a)
 hx:x.at=[114,101,99]
 body:Ask B [.mk A.at (.list [x,A,B]) []] a
 dl:cF s=some d
 y:qe s=some (.rc a)
 lp:oN a lQ=some D
 bk:qe d=some D
theorem xP{s:Nm}{t:Ty}(h:wb s=some t):qe s=some t:=by
 unfold wb at h
 split at h
 ·cases h
 ·rename_i u hu
  split at h
  ·cases h;exact hu
  ·cases h
theorem ZT.of{s d:Nm}{a:Ty}(hl:kl s=some a)(hd:cF s=some d):∃x A B D,ZT s d a x A B D:=by
 have hc:=tS hl
 cases hce:jt s with
 |none=>rw[mH hce]at hc;cases hc
 |
  some e =>
  obtain⟨t,h1,hA,_⟩:=iE hce
  rw[hc]at h1;cases h1
  obtain⟨x,A,B,rfl,hx,hA',hB⟩:=sA hA
  have hy:=xP hc
  have hd':=hd
  unfold cF at hd'
  rw[hy]at hd'
  obtain⟨D,h2,h3⟩:=bc.1 hd'
  obtain⟨e2,he2,hw2,hte2,_,_⟩:=pz hy
  have hg:=rr hw2 hte2 (x:=lQ) ⟨by simp,by simp,by simp⟩ h2
  exact⟨x,A,B,D,hl,hce,hA,hx,hB,hd,hy,h2,yG hg.1 (fun y hy'=>mK hy y (sg h2 y hy')) h3⟩
structure Cx(a:Ty)(w:Vl):Prop where
 ok:dM a w=true
 ty:∀v,vT 100 v (.rc a)=true->vT 100 (.f (dB a w v)) (.rc a)=true
 iu:w.iu 100
 nd:w.nodes<=200
structure Fo(a:Ty)(v:Vl):Prop where
 ty:vT 100 v (.rc a)=true
 iu:v.iu 100
 nd:v.nodes<=200
theorem ZT.BO{s d:Nm}{a:Ty}{x A B:E}{D:Ty}(z:ZT s d a x A B D){c:Nm}{w:Vl}(h:ni d c 100=some w):Cx a w:=by
 obtain⟨e,t,m,h1,h2,h3,h4,h5,h6,h7⟩:=rb h
 have hm:m=100:=by omega
 subst hm
 have:=xP h3
 rw[z.bk]at this;cases this
 rw[ot h4]at h7
 obtain⟨e2,he2,hw2,hte2,_,_⟩:=pz z.y
 have hlc:jX (.rc a) 0:=hte2 ▸ hw2.qL.1
 obtain⟨q1,q2⟩:=GB (wQ z.y) hlc z.lp h7
 exact⟨q1,q2,(lG h2).2.1,(lG h2).2.2⟩
theorem ZT.nM{s d:Nm}{a:Ty}{x A B:E}{D:Ty}(z:ZT s d a x A B D){f:Nm}{v:Vl}(h:pT s f=some v):Fo a v/\f=v.cK:=by
 obtain⟨a',x',A',B',L⟩:=oT h
 have:=L.l
 rw[z.l]at this;cases this
 exact⟨⟨by rw[<-ot L.ask];exact L.eK,L.iu,L.nodes⟩,qk L.v⟩
theorem Fo.eK{s d:Nm}{a:Ty}{x A B:E}{D:Ty}(z:ZT s d a x A B D){v:Vl}(h:Fo a v):eK 100 v (.list [x,A,B],[])=true:=by rw[ot z.ask];exact h.ty
theorem ZT.cK{s d:Nm}{a:Ty}{x A B:E}{D:Ty}(z:ZT s d a x A B D){w:Vl}(hb:w.iu 100)(hv:vT 100 w (.rc a)=true):ni s w.cK 100=if w.nodes<=200 then some w else none:=by
 unfold ni
 rw[z.ce]
 by_cases hn:w.nodes<=200
 ·rw[ql hb hn,if_pos hn]
  simp only
  rw[if_pos ⟨by omega,by rw[show (100:Int).toNat=100 from rfl,ot z.ask];exact hv⟩]
 ·rw[if_neg hn]
  cases q:rM w.cK with
  |none=>rfl
  |
   some w' =>
   exfalso
   obtain⟨_,h2,h3⟩:=lG q
   have:=xD hb h2 (qk q)
   rw[this]at hn;exact hn h3
theorem ZT.lv{s d:Nm}{a:Ty}{x A B:E}{D:Ty}(z:ZT s d a x A B D)(f:Nm):pT s f=ni s f 100:=by
 unfold pT;rw[z.l]
def eB(d:Nm):List Nm->Option (List Vl)
 |[]=>some []
 |
  c::r=>match ni d c 100,eB d r with
  |some w,some l=>some (w::l)
  |_,_=>none
theorem ri{s d:Nm}{a:Ty}{x A B:E}{D:Ty}(z:ZT s d a x A B D):∀(p:List Nm) (l:List Vl),eB d p=some l->p=l.map (·.cK)/\∀c,c∈l->Cx a c
 |[],l,h=>by cases h;exact⟨rfl,fun c hc=>by cases hc⟩
 |
  c::r,l,h=>by
  simp only[eB]at h
  split at h
  ·rename_i w l' h1 h2
   cases h
   obtain⟨q1,q2⟩:=ri z r l' h2
   obtain⟨_,_,_,_,hv,_⟩:=rb h1
   refine⟨by rw[bE,<-q1,<-qk hv],fun c' hc'=>?_⟩
   rcases aF.1 hc' with rfl|hc'
   ·exact z.BO h1
   ·exact q2 c' hc'
  ·cases h
theorem so(d:Nm):∀(p q:List Nm),eB d (p++q)=(eB d p).bind fun l=>(eB d q).map (l++·)
 |[],q=>by cases h:eB d q<;>simp[eB,h]
 |
  c::p,q=>by
  simp only[a7,eB,so d p q]
  cases ni d c 100 with
  |none=>rfl
  |
   some w =>
   cases eB d p with
   |none=>rfl
   |some l=>cases eB d q<;>rfl
noncomputable def yp (s:Nm) (p:List Nm) (f:Nm):Option (List Vl×Vl):=match pT s f,cF s with
 |some v,some d=>if p.length<=50 then(eB d p).map fun l=>(l,v)else none
 |_,_=>none
def zA(s:Nm):Ty:=(kl s).getD .zero
def pR(a:Ty)(l:List Vl)(v:Vl):Option (List Vl×Vl):=match l.getLast? with
 |none=>none
 |some c=>if(Vl.f (dB a c v)).nodes<=200 then some (l.dropLast,.f (dB a c v))else none
def jV:Nat->Ty->List Vl->Vl->Option Vl
 |0,_,_,v=>some v
 |n+1,a,l,v=>(pR a l v).bind fun r=>jV n a r.1 r.2
def tG(a:Ty)(l:List Vl)(v:Vl):Option Vl:=jV l.length a l v
noncomputable def jl (s:Nm) (p:List Nm) (f:Nm):Option (List Vl×Vl):=(yp s p f).bind fun r=>if(tG (zA s) r.1 r.2).isSome=true then some r else none
structure ZI(a:Ty)(l:List Vl)(v:Vl):Prop where
 BO:∀c,c∈l->Cx a c
 nM:Fo a v
theorem qP{a:Ty}{l l':List Vl}{v w:Vl}(h:ZI a l v)(hu:pR a l v=some (l',w)):ZI a l' w/\l'.length+1=l.length/\∃c,l=l'++[c]/\w=.f (dB a c v):=by
 unfold pR at hu
 cases q:l.getLast? with
 |none=>rw[q]at hu;cases hu
 |
  some c =>
  rw[q]at hu
  simp only at hu
  split at hu
  ·rename_i hn
   cases hu
   have hne:l≠[]:=by rintro rfl;cases q
   have hl:l.dropLast++[c]=l:=by
    have:=List.dropLast_concat_getLast hne
    rw[List.getLast?_eq_some_getLast hne]at q
    cases q;exact this
   have hc:c∈l:=by rw[<-hl];simp
   have hC:=h.BO c hc
   refine⟨⟨fun c' hc'=>h.BO c' (by rw[<-hl];exact ay _ hc'),hC.ty v h.nM.ty,rz 100 a c v hC.iu h.nM.iu,hn⟩,?_,c,hl.symm,rfl⟩
   have:=congrArg List.length hl
   simpa using this
  ·cases hu
end Go.Proofs.Trees
namespace Go.Proofs.Trees
open Go Go.VL Go.RowKit
theorem wK(w:World)(k:Nat)(os:Array Obj):Below w.heap.size w (Go.«Sort».grow (w.drewN k) os):=by
 refine⟨rfl,rfl,rfl,?_,fun b hb=>?_⟩
 ·simp[Go.«Sort».grow,World.drewN]
 ·simp only[Go.«Sort».grow,World.drewN]
  rw[Array.getElem?_append_left hb]
theorem HB(k:Nat)(hk:k<1000000000):an Tryz.prog 174 [.v (.int .i64 (k:Int))] [] (bA (.v (.string (mk (dd k))))):=by
 refine an.PU (xs:=[.int .i64 (k:Int)]) ⟨pV,by kernel_rfl,by kernel_rfl,by kernel_rfl⟩ fun w ht=>?_
 have:=Any.strconv_Itoa Tryz.AP (k:Int) (by omega) (by omega) w ht
 refine Calls.mono this fun e w' ⟨h1,n,os,h2⟩=>⟨?_,?_⟩
 ·rw[h1,Lib.itoa_nonneg];rfl
 ·rw[h2];exact wK w n os
abbrev hN(k:Nat):Nm:=35::dd k
theorem ue{j k:Nat}(h:hN j=hN k):j=k:=wu (j+1) j k (by omega) (List.cons.inj h).2
theorem FH(u:Ty):∀(t:Ty) (i:Nat),i+t.az<1000000->an Tryz.prog 149 [t.av,u.av,.v (.int .i64 (i:Int))] [] (bA (dK u t i).av)
 |
  .zero,i,_=>by
  refine Ea _ _ _ ((aC _).mpr trivial) ((aC _).mpr trivial) ?_
  simp[DO,Ty.av,dK,↓zq,zs,ac,bA]
 |
  .one,i,_=>by
  refine Ea _ _ _ ((aC _).mpr trivial) ((aC _).mpr trivial) ?_
  simp[DO,Ty.av,dK,↓zq,zs,ac,bA]
 |
  .name s,i,_=>by
  refine Ea _ _ _ ((aC _).mpr trivial) ((aC _).mpr trivial) ?_
  simp[DO,Ty.av,dK,↓zq,zs,ac,bA]
 |
  .bN k,i,_=>by
  refine Ea _ _ _ ((aC _).mpr trivial) ((aC _).mpr trivial) ?_
  simp only[DO,Ty.av,dK,↓zq,zs,ac,bA]
  refine⟨by omega,fun _=>⟨by omega,fun h=>?_,fun h=>?_⟩,fun h=>absurd rfl h⟩
  ·rw[if_pos (by omega)]
  ·rw[if_neg (by omega)];rfl
 |
  .plus a b,i,hl=>by
  simp only[Ty.az]at hl
  refine Ea _ _ _ ((aC _).mpr trivial) ((aC _).mpr trivial) ?_
  simp only[DO,Ty.av,dK,↓zq,zs,ac,aC]
  refine⟨by omega,fun h=>by omega,fun _=>⟨fun _=>?_,fun h=>absurd rfl h⟩⟩
  repeat refine⟨by omega,?_⟩
  refine ah (FH u a i (by omega)) ?_
  simp only[↓zq,zs,ac,aC]
  repeat refine⟨by omega,?_⟩
  refine ah (FH u b i (by omega)) ?_
  simp only[↓zq,zs,ac,aC]
  exact⟨rfl,rfl⟩
 |
  .times a b,i,hl=>by
  simp only[Ty.az]at hl
  refine Ea _ _ _ ((aC _).mpr trivial) ((aC _).mpr trivial) ?_
  simp only[DO,Ty.av,dK,↓zq,zs,ac,aC]
  refine⟨by omega,fun h=>by omega,fun _=>⟨fun h=>by omega,fun _=>⟨fun _=>?_,fun h=>absurd rfl h⟩⟩⟩
  repeat refine⟨by omega,?_⟩
  refine ah (FH u a i (by omega)) ?_
  simp only[↓zq,zs,ac,aC]
  repeat refine⟨by omega,?_⟩
  refine ah (FH u b i (by omega)) ?_
  simp only[↓zq,zs,ac,aC]
  exact⟨rfl,rfl⟩
 |
  .rc a,i,hl=>by
  simp only[Ty.az]at hl
  refine Ea _ _ _ ((aC _).mpr trivial) ((aC _).mpr trivial) ?_
  simp only[DO,Ty.av,dK,↓zq,zs,ac,aC]
  refine⟨by omega,fun h=>by omega,fun _=>⟨fun h=>by omega,fun _=>⟨fun h=>by omega,fun _=>⟨fun _=>?_,fun h=>absurd rfl h⟩⟩⟩⟩
  repeat refine⟨by omega,?_⟩
  rw[bg i (by omega)]
  refine ah (FH u a (i+1) (by omega)) ?_
  simp only[↓zq,zs,ac,aC]
  exact⟨rfl,rfl⟩
theorem zV(x:Nm)(u:Ty):∀(t:Ty),an Tryz.prog 150 [t.av,.v (.string (mk x)),u.av] [] (bA (sub x u t).av)
 |
  .zero=>by
  refine vZ _ _ _ ((aC _).mpr trivial) ((aC _).mpr trivial) ?_
  simp[D3,Ty.av,sub,↓zq,zs,ac,bA]
 |
  .one=>by
  refine vZ _ _ _ ((aC _).mpr trivial) ((aC _).mpr trivial) ?_
  simp[D3,Ty.av,sub,↓zq,zs,ac,bA]
 |
  .bN k=>by
  refine vZ _ _ _ ((aC _).mpr trivial) ((aC _).mpr trivial) ?_
  simp[D3,Ty.av,sub,↓zq,zs,ac,bA]
 |
  .name s=>by
  refine vZ _ _ _ ((aC _).mpr trivial) ((aC _).mpr trivial) ?_
  simp only[D3,Ty.av,sub,↓zq,zs,ac,zt,bA]
  refine⟨by omega,fun _=>⟨by omega,fun h=>?_,fun h=>?_⟩,fun h=>absurd rfl h⟩
  ·rw[if_pos h]
  ·rw[if_neg h];rfl
 |
  .plus a b=>by
  refine vZ _ _ _ ((aC _).mpr trivial) ((aC _).mpr trivial) ?_
  simp only[D3,Ty.av,sub,↓zq,zs,ac,aC]
  refine⟨by omega,fun h=>by omega,fun _=>⟨fun _=>?_,fun h=>absurd rfl h⟩⟩
  repeat refine⟨by omega,?_⟩
  refine ah (zV x u a) ?_
  simp only[↓zq,zs,ac,aC]
  repeat refine⟨by omega,?_⟩
  refine ah (zV x u b) ?_
  simp only[↓zq,zs,ac,aC]
  exact⟨rfl,rfl⟩
 |
  .times a b=>by
  refine vZ _ _ _ ((aC _).mpr trivial) ((aC _).mpr trivial) ?_
  simp only[D3,Ty.av,sub,↓zq,zs,ac,aC]
  refine⟨by omega,fun h=>by omega,fun _=>⟨fun h=>by omega,fun _=>⟨fun _=>?_,fun h=>absurd rfl h⟩⟩⟩
  repeat refine⟨by omega,?_⟩
  refine ah (zV x u a) ?_
  simp only[↓zq,zs,ac,aC]
  repeat refine⟨by omega,?_⟩
  refine ah (zV x u b) ?_
  simp only[↓zq,zs,ac,aC]
  exact⟨rfl,rfl⟩
 |
  .rc a=>by
  refine vZ _ _ _ ((aC _).mpr trivial) ((aC _).mpr trivial) ?_
  simp only[D3,Ty.av,sub,↓zq,zs,ac,aC]
  refine⟨by omega,fun h=>by omega,fun _=>⟨fun h=>by omega,fun _=>⟨fun h=>by omega,fun _=>⟨fun _=>?_,fun h=>absurd rfl h⟩⟩⟩⟩
  repeat refine⟨by omega,?_⟩
  refine ah (zV x u a) ?_
  simp only[↓zq,zs,ac,aC]
  exact⟨rfl,rfl⟩
theorem xY(c:Int)(a b:Ty):an Tryz.prog 175 [.v (.int .u8 c),a.av,b.av] [] (bA (.ptr [.v (.int .u8 c),.v (.string (mk [])),.v (.int .i64 0),a.av,b.av])):=by
 refine Po _ _ _ ((aC _).mpr trivial) ((aC _).mpr trivial) ?_
 simp[Nt,↓zq,zs,ac,bA]
abbrev CA(f:Nat)(g:Bool):Ob:=.cells [.v (.int .i64 (f:Int)),.v (.bool g)]
theorem KD(f:Nat)(g:Bool)(hf:f<100000000):an Tryz.prog 146 [.ref 0 0] [CA f g] (cX (.v (.string (mk (hN (f+1))))) [CA (f+1) g]):=by
 refine Qc _ _ ?_
 simp only[JE,↓zq,zs,ac,zt]
 rw[bg f (by omega)]
 refine ah (HB (f+1) (by omega)) ?_
 have hd:=oj 8 (f+1) (by omega)
 simp only[↓zq,zs,ac,zt,a7,aM]
 exact⟨by simp[cw];omega,rfl,rfl⟩
def um(g:Bool)(t:Ty):Ty:=if g=true\/400<t.az then .zero else t
def zI(g:Bool)(t:Ty):Bool:=g||decide (400<t.az)
theorem xt(t:Ty):um true t=.zero:=by simp[um]
theorem vA(t:Ty):zI true t=true:=rfl
theorem uJ{t:Ty}(h:t.az<=400):um false t=t:=by simp[um,show ¬400<t.az by omega]
theorem vk{t:Ty}(h:t.az<=400):zI false t=false:=by simp[zI,show ¬400<t.az by omega]
theorem DL{t:Ty}(h:¬t.az<=400):zI false t=true:=by simp[zI,show 400<t.az by omega]
theorem DW{t:Ty}(h:¬t.az<=400):um false t=.zero:=by simp[um,show 400<t.az by omega]
theorem uV(f:Nat)(g:Bool)(t:Ty)(hl:t.az<1000000):an Tryz.prog 147 [.ref 0 0,t.av] [CA f g] (cX (um g t).av [CA f (zI g t)]):=by
 refine Om _ _ _ ((aC _).mpr trivial) ?_
 simp only[IV,↓zq,zs,ac,zt]
 cases g with
 |true=>exact⟨fun _=>⟨rfl,rfl⟩,fun h=>(by cases h)⟩
 |
  false =>
  refine⟨fun h=>(by cases h),fun _=>?_⟩
  refine ah (DE t hl) ?_
  simp only[↓zq,zs,ac,zt]
  refine⟨fun h=>?_,fun h=>?_⟩
  ·have h:400<t.az:=by omega
   simp[um,zI,h,cX,Ty.av]
  ·have h:¬400<t.az:=by omega
   simp[um,zI,h,cX]
theorem Eu(t:Ty)(s:Nm)(f:Nat):an Tryz.prog 148 [.ref 0 0,t.av,.v (.string (mk s))] [CA f true] (cX Ty.zero.av [CA f true]):=by
 refine Li _ _ _ _ ((aC _).mpr trivial) ?_
 simp only[Dq,↓zq,zs,ac]
 exact⟨fun _=>⟨rfl,rfl⟩,fun h=>(by cases h)⟩
def BQ(f:Nat)(t:Ty):Prop:=∀j,f<j->bh (hN j) t=false
def pJ(o:Option Ty)(t:Ty):Nat:=match o with|some d=>d.az|none=>1000*t.az
def zO(o:Option Ty)(f B:Nat):AV->List Ob->Prop:=fun r ob=>∃f':Nat,f<=f'/\f'<=f+B/\r=(o.getD .zero).av/\ob=[CA f' o.isNone]
theorem zO.ne(o:Option Ty)(f B:Nat):∃r ob,zO o f B r ob:=⟨_,_,f,aq _,dk _ _,rfl,rfl⟩
theorem qM{f f':Nat}{t:Ty}(h:BQ f t)(hf:f<=f'):BQ f' t:=fun j hj=>h j (by omega)
theorem ET:∀(n:Nat) (t:Ty),t.az<=n->t.az<=400->∀(s:Nm) (f:Nat),BQ f t->(∀j,f<j->s≠hN j)->f+1000*t.az<50000000->an Tryz.prog 148 [.ref 0 0,t.av,.v (.string (mk s))] [CA f false] (zO (lm t s) f (pJ (lm t s) t))
 |0,t,h=>by have:=ef t;omega
 |
  n+1,t,hn=>by
  intro h4 s f hf hs hb
  refine Li _ _ _ _ ((aC _).mpr trivial) ?_
  have fin0:∀u:Ty,lm t s=some u->zO (lm t s) f (pJ (lm t s) t) u.av [CA f false]:=fun u hu=>by
   rw[hu];exact⟨f,aq _,dk _ _,rfl,rfl⟩
  cases t with
  |
   zero =>
   have:=fin0 .zero (uT s)
   simpa[Dq,Ty.av,↓zq,zs,ac]using this
  |
   one =>
   have:=fin0 .zero (wX s)
   simpa[Dq,Ty.av,↓zq,zs,ac]using this
  |
   bN k =>
   have:=fin0 .zero (yX k s)
   simpa[Dq,Ty.av,↓zq,zs,ac]using this
  |
   name c =>
   simp only[Dq,Ty.av,↓zq,zs,ac,zt]
   refine⟨fun h=>(by cases h),fun _=>⟨by omega,fun _=>⟨by omega,fun h=>?_,fun h=>?_⟩,fun h=>absurd rfl h⟩⟩
   ·exact fin0 .one (by rw[oG,if_pos h])
   ·exact fin0 .zero (by rw[oG,if_neg h])
  |
   plus a b =>
   simp only[Ty.az]at hn h4 hb
   have pa:=ef a
   have pb:=ef b
   have fa:BQ f a:=fun j hj=>by have:=hf j hj;simp only[bh,cv]at this;exact this.1
   have fb:BQ f b:=fun j hj=>by have:=hf j hj;simp only[bh,cv]at this;exact this.2
   simp only[Dq,Ty.av,↓zq,zs,ac,zt,aC]
   refine⟨fun h=>(by cases h),fun _=>⟨by omega,fun h=>by omega,fun _=>⟨fun _=>?_,fun h=>absurd rfl h⟩⟩⟩
   repeat refine⟨by omega,?_⟩
   rw[vy]
   refine bO (ET n a (by omega) (by omega) s f fa hs (by omega)) (zO.ne _ _ _) ?_
   rintro r ob ⟨f1,g1,g2,rfl,rfl⟩
   simp only[↓zq,zs,ac,zt,bn,aC]
   repeat refine⟨by omega,?_⟩
   cases q1:lm a s with
   |
    none =>
    rw[q1]at g2
    simp only[pJ]at g2
    simp only[Option.isNone_none,Option.getD_none,bC]
    refine aT (Eu b s f1) ?_
    simp only[↓zq,zs,ac,zt,bn,aC]
    repeat refine⟨by omega,?_⟩
    refine ah (xY 43 _ _) ?_
    simp only[↓zq,zs,ac,zt,bV]
    refine aT (uV f1 true (.plus .zero .zero) (by simp[Ty.az])) ?_
    simp only[↓zq,zs,ac,zt,bn,aC]
    exact⟨f1,g1,by simp only[pJ,Ty.az];omega,rfl,rfl⟩
   |
    some a' =>
    rw[q1]at g2
    simp only[pJ]at g2
    have la:=(cU.1 q1).small
    simp only[Option.isNone_some,cD,aR]
    refine bO (ET n b (by omega) (by omega) s f1 (qM fb g1) (fun j hj=>hs j (by omega)) (by omega)) (zO.ne _ _ _) ?_
    rintro r ob ⟨f2,k1,k2,rfl,rfl⟩
    simp only[↓zq,zs,ac,zt,bn,aC]
    repeat refine⟨by omega,?_⟩
    refine ah (xY 43 _ _) ?_
    simp only[↓zq,zs,ac,zt,bV]
    cases q2:lm b s with
    |
     none =>
     rw[q2]at k2
     simp only[pJ]at k2
     simp only[Option.isNone_none,Option.getD_none,bC]
     refine aT (uV f2 true (.plus a' .zero) (by simp[Ty.az];omega)) ?_
     simp only[↓zq,zs,ac,zt,bn,aC]
     exact⟨f2,by omega,by simp only[pJ,Ty.az];omega,rfl,rfl⟩
    |
     some b' =>
     rw[q2]at k2
     simp only[pJ]at k2
     have lb:=(cU.1 q2).small
     simp only[Option.isNone_some,cD,aR]
     refine aT (uV f2 false (.plus a' b') (by simp only[Ty.az];omega)) ?_
     simp only[↓zq,zs,ac,zt,bn,aC]
     unfold nh
     by_cases hle:(Ty.plus a' b').az<=400
     ·rw[if_pos hle]
      refine⟨f2,by omega,by simp only[pJ,Ty.az];omega,?_,?_⟩
      ·simp[um,show ¬400<(Ty.plus a' b').az by omega]
      ·simp[zI,show ¬400<(Ty.plus a' b').az by omega]
     ·rw[if_neg hle]
      refine⟨f2,by omega,by simp only[pJ,Ty.az];omega,?_,?_⟩
      ·simp[um,show 400<(Ty.plus a' b').az by omega]
      ·simp[zI,show 400<(Ty.plus a' b').az by omega]
  |
   times a b =>
   simp only[Ty.az]at hn h4 hb
   have pa:=ef a
   have pb:=ef b
   have fa:BQ f a:=fun j hj=>by have:=hf j hj;simp only[bh,cv]at this;exact this.1
   have fb:BQ f b:=fun j hj=>by have:=hf j hj;simp only[bh,cv]at this;exact this.2
   simp only[Dq,Ty.av,↓zq,zs,ac,zt,aC]
   refine⟨fun h=>(by cases h),fun _=>⟨by omega,fun h=>by omega,fun _=>⟨fun h=>by omega,fun _=>⟨fun _=>?_,fun h=>absurd rfl h⟩⟩⟩⟩
   repeat refine⟨by omega,?_⟩
   rw[sd]
   refine bO (ET n a (by omega) (by omega) s f fa hs (by omega)) (zO.ne _ _ _) ?_
   rintro r ob ⟨f1,g1,g2,rfl,rfl⟩
   simp only[↓zq,zs,ac,zt,bn,aC]
   repeat refine⟨by omega,?_⟩
   refine ah (xY 42 _ _) ?_
   simp only[↓zq,zs,ac,zt,bV]
   repeat refine⟨by omega,?_⟩
   cases q1:lm a s with
   |
    none =>
    rw[q1]at g2
    simp only[pJ]at g2
    simp only[Option.isNone_none,Option.getD_none,bC]
    refine aT (Eu b s f1) ?_
    simp only[↓zq,zs,ac,zt,bn,aC]
    repeat refine⟨by omega,?_⟩
    refine ah (xY 42 _ _) ?_
    simp only[↓zq,zs,ac,zt,bV]
    refine ah (xY 43 (.times .zero b) (.times a .zero)) ?_
    simp only[↓zq,zs,ac,zt,bV]
    refine aT (uV f1 true (.plus (.times .zero b) (.times a .zero)) (by simp only[Ty.az];omega)) ?_
    simp only[↓zq,zs,ac,zt,bn,aC]
    exact⟨f1,g1,by simp only[pJ,Ty.az];omega,rfl,rfl⟩
   |
    some a' =>
    rw[q1]at g2
    simp only[pJ]at g2
    have la:=(cU.1 q1).small
    simp only[Option.isNone_some,cD,aR]
    refine bO (ET n b (by omega) (by omega) s f1 (qM fb g1) (fun j hj=>hs j (by omega)) (by omega)) (zO.ne _ _ _) ?_
    rintro r ob ⟨f2,k1,k2,rfl,rfl⟩
    simp only[↓zq,zs,ac,zt,bn,aC]
    repeat refine⟨by omega,?_⟩
    refine ah (xY 42 _ _) ?_
    simp only[↓zq,zs,ac,zt,bV]
    cases q2:lm b s with
    |
     none =>
     rw[q2]at k2
     simp only[pJ]at k2
     simp only[Option.isNone_none,Option.getD_none,bC]
     refine ah (xY 43 (.times a' b) (.times a .zero)) ?_
     simp only[↓zq,zs,ac,zt,bV]
     refine aT (uV f2 true (.plus (.times a' b) (.times a .zero)) (by simp only[Ty.az];omega)) ?_
     simp only[↓zq,zs,ac,zt,bn,aC]
     exact⟨f2,by omega,by simp only[pJ,Ty.az];omega,rfl,rfl⟩
    |
     some b' =>
     rw[q2]at k2
     simp only[pJ]at k2
     have lb:=(cU.1 q2).small
     simp only[Option.isNone_some,cD,aR]
     refine ah (xY 43 (.times a' b) (.times a b')) ?_
     simp only[↓zq,zs,ac,zt,bV]
     refine aT (uV f2 false (.plus (.times a' b) (.times a b')) (by simp only[Ty.az];omega)) ?_
     simp only[↓zq,zs,ac,zt,bn,aC]
     unfold nh
     by_cases hle:(Ty.plus (.times a' b) (.times a b')).az<=400
     ·rw[if_pos hle]
      refine⟨f2,by omega,by simp only[pJ,Ty.az];omega,?_,?_⟩
      ·simp[um,show ¬400<(Ty.plus (.times a' b) (.times a b')).az by omega]
      ·simp[zI,show ¬400<(Ty.plus (.times a' b) (.times a b')).az by omega]
     ·rw[if_neg hle]
      refine⟨f2,by omega,by simp only[pJ,Ty.az];omega,?_,?_⟩
      ·simp[um,show 400<(Ty.plus (.times a' b) (.times a b')).az by omega]
      ·simp[zI,show 400<(Ty.plus (.times a' b) (.times a b')).az by omega]
  |
   rc a =>
   simp only[Ty.az]at hn h4 hb
   have pa:=ef a
   have fa:BQ f a:=fun j hj=>hf j hj
   have hxa:bh (hN (f+1)) a=false:=fa _ (by omega)
   have hxs:hN (f+1)≠s:=fun e=>hs _ (by omega) e.symm
   have fo:BQ (f+1) (dK (.name (hN (f+1))) a 0):=fun j hj=>by
    cases q:bh (hN j) (dK (.name (hN (f+1))) a 0)with
    |false=>rfl
    |
     true =>
     rcases gr a 0 q with e|e
     ·have:=ue e;omega
     ·rw[fa j (by omega)]at e;cases e
   have hoa:(dK (.name (hN (f+1))) a 0).az=a.az:=fE _ _ _
   have hop:=FH (.name (hN (f+1))) a 0 (by omega)
   rw[BB hxa hxs]
   simp only[Dq,Ty.av,↓zq,zs,ac,zt,aC]
   refine⟨fun h=>(by cases h),fun _=>⟨by omega,fun h=>by omega,fun _=>⟨fun h=>by omega,fun _=>⟨fun h=>by omega,fun _=>⟨fun _=>?_,fun h=>absurd rfl h⟩⟩⟩⟩⟩
   refine aT (KD f false (by omega)) ?_
   simp only[↓zq,zs,ac,zt,bn,aC]
   repeat refine⟨by omega,?_⟩
   simp only[Ty.av]at hop
   refine ah hop ?_
   simp only[↓zq,zs,ac,zt,bn,aC]
   refine bO (ET n (dK (.name (hN (f+1))) a 0) (by omega) (by omega) s (f+1) fo (fun j hj=>hs j (by omega)) (by omega)) (zO.ne _ _ _) ?_
   rintro r ob ⟨f1,g1,g2,rfl,rfl⟩
   simp only[↓zq,zs,ac,zt,bn,aC]
   generalize hx:hN (f+1)=x at *
   generalize hin:dK (.name x) a 0=i at *
   have hrc:(Ty.rc a).av=.ptr [.v (.int .u8 114),.v (.string (mk [])),.v (.int .i64 0),a.av,.v (.pointer none)]:=rfl
   cases q1:lm i s with
   |
    none =>
    rw[q1]at g2
    simp only[pJ]at g2
    simp only[Option.isNone_none,Option.getD_none,bC]
    refine aT (uV f1 true .zero (by simp[Ty.az])) ?_
    simp only[↓zq,zs,ac,zt,bn,aC]
    rw[<-hrc]
    refine ah (zV x (.rc a) _) ?_
    simp only[↓zq,zs,ac,zt,aC]
    refine aT (Eu i x f1) ?_
    simp only[↓zq,zs,ac,zt,bn,aC]
    refine aT (uV f1 true .zero (by simp[Ty.az])) ?_
    simp only[↓zq,zs,ac,zt,bn,aC]
    refine ah (zV x (.rc a) _) ?_
    simp only[↓zq,zs,ac,zt,aC]
    refine ah (xY 42 _ (.bN 0)) ?_
    simp only[↓zq,zs,ac,zt,bV]
    refine ah (xY 43 (sub x (.rc a) (um true .zero)) (.times (sub x (.rc a) (um true .zero)) (.bN 0))) ?_
    simp only[↓zq,zs,ac,zt,bV,vA]
    have hz:sub x (.rc a) (um true .zero)=.zero:=by rw[xt];rfl
    refine aT (uV f1 true (.rc (.plus (sub x (.rc a) (um true .zero)) (.times (sub x (.rc a) (um true .zero)) (.bN 0)))) (by rw[hz];simp only[Ty.az];omega)) ?_
    simp only[↓zq,zs,ac,zt,bn,aC]
    rw[xt,vA]
    exact⟨f1,by omega,by simp only[pJ,Ty.az];omega,rfl,rfl⟩
   |
    some c =>
    rw[q1]at g2
    simp only[pJ]at g2
    have lc:=(cU.1 q1).small
    simp only[Option.isNone_some,cD,aR]
    refine aT (uV f1 false c (by omega)) ?_
    simp only[↓zq,zs,ac,zt,bn,aC]
    rw[uJ lc,vk lc,<-hrc]
    refine ah (zV x (.rc a) c) ?_
    simp only[↓zq,zs,ac,zt,aC]
    refine bO (ET n i (by omega) (by omega) x f1 (qM fo g1) (fun j hj=>by rw[<-hx];exact fun e=>by have:=ue e;omega) (by omega)) (zO.ne _ _ _) ?_
    rintro r ob ⟨f2,k1,k2,rfl,rfl⟩
    simp only[↓zq,zs,ac,zt,bn,aC]
    have hsc:(sub x (.rc a) c).az+fk x c=c.az+fk x c*(Ty.rc a).az:=dU x (.rc a) c
    have hcc:∀t:Ty,fk x t<=t.az:=fun t=>by
     have h1:=dU x .zero t
     have h2:=gR x .zero t
     simp only[Ty.az,dE]at h1
     have h3:∀t:Ty,fk x t<=t.az:=by
      intro t
      induction t with
      |name s=>simp only[fk,Ty.az];split<;>omega
      |plus a b i1 i2=>simp only[fk,Ty.az];omega
      |times a b i1 i2=>simp only[fk,Ty.az];omega
      |rc a i=>simp only[fk,Ty.az];omega
      |_=>simp[fk,Ty.az]
     exact h3 t
    have hbig:∀t:Ty,t.az<=400->(sub x (.rc a) t).az<=400+400*402:=fun t ht=>by
     have h1:=dU x (.rc a) t
     have h2:=hcc t
     have h3:fk x t*(Ty.rc a).az<=400*402:=Nat.mul_le_mul (by omega) (by simp only[Ty.az];omega)
     omega
    have b1:=hbig c lc
    cases q2:lm i x with
    |
     none =>
     rw[q2]at k2
     simp only[pJ]at k2
     simp only[Option.isNone_none,Option.getD_none,bC]
     refine aT (uV f2 true .zero (by simp[Ty.az])) ?_
     simp only[↓zq,zs,ac,zt,bn,aC]
     rw[xt,vA]
     refine ah (zV x (.rc a) .zero) ?_
     simp only[↓zq,zs,ac,zt,aC]
     refine ah (xY 42 _ (.bN 0)) ?_
     simp only[↓zq,zs,ac,zt,bV]
     refine ah (xY 43 (sub x (.rc a) c) (.times (sub x (.rc a) .zero) (.bN 0))) ?_
     simp only[↓zq,zs,ac,zt,bV]
     refine aT (uV f2 true (.rc (.plus (sub x (.rc a) c) (.times (sub x (.rc a) .zero) (.bN 0)))) (by simp only[sub,Ty.az];omega)) ?_
     simp only[↓zq,zs,ac,zt,bn,aC]
     rw[xt,vA]
     exact⟨f2,by omega,by simp only[pJ,Ty.az];omega,rfl,rfl⟩
    |
     some d =>
     rw[q2]at k2
     simp only[pJ]at k2
     have ld:=(cU.1 q2).small
     have b2:=hbig d ld
     simp only[Option.isNone_some,cD,aR]
     refine aT (uV f2 false d (by omega)) ?_
     simp only[↓zq,zs,ac,zt,bn,aC]
     rw[uJ ld,vk ld]
     refine ah (zV x (.rc a) d) ?_
     simp only[↓zq,zs,ac,zt,aC]
     refine ah (xY 42 _ (.bN 0)) ?_
     simp only[↓zq,zs,ac,zt,bV]
     refine ah (xY 43 (sub x (.rc a) c) (.times (sub x (.rc a) d) (.bN 0))) ?_
     simp only[↓zq,zs,ac,zt,bV]
     have hdrc:oR a x c d=.rc (.plus (sub x (.rc a) c) (.times (sub x (.rc a) d) (.bN 0))):=rfl
     refine aT (uV f2 false (oR a x c d) (by rw[hdrc];simp only[Ty.az];omega)) ?_
     simp only[↓zq,zs,ac,zt,bn,aC]
     have s1:=gR x (.rc a) c
     have s2:=gR x (.rc a) d
     unfold nh
     by_cases hle:(oR a x c d).az<=400
     ·rw[if_pos hle,uJ hle,vk hle]
      exact⟨f2,by omega,by simp only[pJ,hdrc,Ty.az];omega,rfl,rfl⟩
     ·rw[if_neg hle,DW hle,DL hle]
      exact⟨f2,by omega,by simp only[pJ,Ty.az];omega,rfl,rfl⟩
def NR(o:Option Ty):AV->List Ob->Prop:=fun r ob=>ob=[]/\∃p,LK.ptr.has p/\r=.cI [p,.v (.bool o.isSome)]/\∀d,o=some d->p=d.av
theorem NR.ne(o:Option Ty):∃r ob,NR o r ob:=by
 cases o with
 |none=>exact⟨_,_,rfl,gp,(hZ).mpr trivial,rfl,fun d h=>by cases h⟩
 |some d=>exact⟨_,_,rfl,d.av,(aC _).mpr trivial,rfl,fun d' h=>by cases h;rfl⟩
theorem GN:hN 1=lQ:=by show (35::dd 1:Nm)=_;rw[eD (by omega)];rfl
theorem QH(a:Ty)(h4:a.az+2<=400)(hf:∀j,bh (hN j) a=false):an Tryz.prog 109 [(Ty.rc a).av] [] (NR (oN a lQ)):=by
 have hxa:bh (hN 1) a=false:=hf 1
 have fo:BQ 1 (dK (.name (hN 1)) a 0):=fun j hj=>by
  cases q:bh (hN j) (dK (.name (hN 1)) a 0)with
  |false=>rfl
  |
   true =>
   rcases gr a 0 q with e|e
   ·have:=ue e;omega
   ·rw[hf j]at e;cases e
 have hoa:(dK (.name (hN 1)) a 0).az=a.az:=fE _ _ _
 have hop:=FH (.name (hN 1)) a 0 (by omega)
 rw[<-GN]
 have hrc:(Ty.rc a).av=.ptr [.v (.int .u8 114),.v (.string (mk [])),.v (.int .i64 0),a.av,.v (.pointer none)]:=rfl
 refine Qg _ ((aC _).mpr trivial) ?_
 unfold K9
 refine aT (KD 0 false (by omega)) ?_
 simp only[Ty.av,↓zq,zs,ac,zt,bn,aC]
 repeat refine⟨by omega,?_⟩
 simp only[Ty.av]at hop
 refine ah hop ?_
 simp only[↓zq,zs,ac,zt,bn,aC]
 refine bO (ET 400 (dK (.name (hN 1)) a 0) (by omega) (by omega) (hN 1) 1 fo (fun j hj e=>by have:=ue e;omega) (by omega)) (zO.ne _ _ _) ?_
 rintro r ob ⟨f1,g1,g2,rfl,rfl⟩
 simp only[↓zq,zs,ac,zt,bn,aC]
 unfold oN
 cases q1:lm (dK (.name (hN 1)) a 0) (hN 1)with
 |
  none =>
  simp only[Option.isNone_none,Option.getD_none,bC]
  refine aT (uV f1 true .zero (by simp[Ty.az])) ?_
  simp only[↓zq,zs,ac,zt,bn,aC,vA]
  exact⟨fun _=>⟨rfl,gp,(hZ).mpr trivial,rfl,fun d h=>(by cases h)⟩,fun h=>(by cases h)⟩
 |
  some d =>
  have ld:=(cU.1 q1).small
  simp only[Option.isNone_some,cD,aR]
  refine aT (uV f1 false d (by omega)) ?_
  simp only[↓zq,zs,ac,zt,bn,aC]
  rw[uJ ld,vk ld]
  refine⟨fun h=>(by cases h),fun _=>?_⟩
  rw[<-hrc]
  refine ah (zV (hN 1) (.rc a) d) ?_
  simp only[↓zq,zs,ac,zt,aC]
  have h1:=dU (hN 1) (.rc a) d
  have hcn:fk (hN 1) d<=d.az:=by
   have h3:∀t:Ty,fk (hN 1) t<=t.az:=by
    intro t
    induction t with
    |name s=>simp only[fk,Ty.az];split<;>omega
    |plus a b i1 i2=>simp only[fk,Ty.az];omega
    |times a b i1 i2=>simp only[fk,Ty.az];omega
    |rc a i=>simp only[fk,Ty.az];omega
    |_=>simp[fk,Ty.az]
   exact h3 d
  have h3:fk (hN 1) d*(Ty.rc a).az<=400*402:=Nat.mul_le_mul (by omega) (by simp only[Ty.az];omega)
  refine aT (uV f1 false (sub (hN 1) (.rc a) d) (by omega)) ?_
  simp only[↓zq,zs,ac,zt,bn,aC]
  unfold nh
  by_cases hle:(sub (hN 1) (.rc a) d).az<=400
  ·rw[if_pos hle,uJ hle,vk hle]
   exact⟨rfl,_,(aC _).mpr trivial,rfl,fun d' h=>by cases h;rfl⟩
  ·rw[if_neg hle,DW hle,DL hle]
   exact⟨rfl,_,(aC _).mpr trivial,rfl,fun d' h=>(by cases h)⟩
end Go.Proofs.Trees
namespace Go.Proofs.Trees
open Go Go.VL Go.RowKit
theorem qy(h:Nm)(a b:E):(fQ (.list [.atom h,a,b])).length=h.length+(fQ a).length+(fQ b).length+4:=by
 simp only[fQ,en,aB,ax,aJ];omega
theorem iX(F:List Nm)(hF:F.length<=10000):∀(t:Ty) (to:List Nm) (k:Nat),ux t->(∀w,w∈to->w.length<=20)->k+(F.length+1)*t.az<90000000->(fQ (gT F t to k).1).length<=50*t.az
 | .zero,_,_,_,_,_=>by simp[gT,fQ,Ty.az]
 | .one,_,_,_,_,_=>by simp[gT,fQ,Ty.az]
 | .name s,_,_,hn,_,_=>by have:=hn s (by simp[bh]);simp only[gT,fQ,Ty.az];omega
 |
  .bN u,to,_,_,ht,_=>by
  show (gb to u).length<=50*1
  unfold gb
  by_cases h:to.length-1-u<to.length
  ·rw[aa,bf h];have:=ht _ (bx h);simp only[cD];omega
  ·rw[aa,List.getElem?_eq_none (by omega)];simp
 |
  .plus a b,to,k,hn,ht,hk=>by
  have h1:=ij F a to k
  have:(F.length+1)*(1+a.az+b.az)=(F.length+1)+(F.length+1)*a.az+(F.length+1)*b.az:=by simp only[cS,dE]
  simp only[Ty.az]at hk
  have i1:=iX F hF a to k (fun y hy=>hn y (by simp[bh,hy])) ht (by omega)
  have i2:=iX F hF b to _ (fun y hy=>hn y (by simp[bh,hy])) ht (show (gT F a to k).2+_<_ by omega)
  simp only[gT,qy,Ty.az,aB,aJ];omega
 |
  .times a b,to,k,hn,ht,hk=>by
  have h1:=ij F a to k
  have:(F.length+1)*(1+a.az+b.az)=(F.length+1)+(F.length+1)*a.az+(F.length+1)*b.az:=by simp only[cS,dE]
  simp only[Ty.az]at hk
  have i1:=iX F hF a to k (fun y hy=>hn y (by simp[bh,hy])) ht (by omega)
  have i2:=iX F hF b to _ (fun y hy=>hn y (by simp[bh,hy])) ht (show (gT F a to k).2+_<_ by omega)
  simp only[gT,qy,Ty.az,aB,aJ];omega
 |
  .rc a,to,k,hn,ht,hk=>by
  obtain⟨g1,g2,_,_⟩:=gx F k
  have:(F.length+1)*(2+a.az)=(F.length+1)*2+(F.length+1)*a.az:=by simp only[cS]
  simp only[Ty.az]at hk
  have hl:=wM (k:=nx F k) (by omega)
  have i1:=iX F hF a (to++[tN (nx F k)]) (nx F k+1) hn (fun w hw=>by
   rcases aI.1 hw with hw|hw
   ·exact ht w hw
   ·simp only[aP]at hw;rw[hw];exact hl) (by omega)
  simp only[gT,qy,Ty.az,aB,aJ]
  simp only[fQ]
  simp only[aB]at hl |-
  omega
theorem H4(x0 a fv:AV)(F:List Nm)(h0:LK.ptr.has x0)(ha:LK.sl.has a)(hfv:cc fv F)(hF:F.length<100000):∀(n j:Nat),pL F n j<j+n->j+n<100000000 ->
 Dz [x0,a,.v (.string (mk (tN j)))] [.cells [fv],.cells [.v (.int .i64 ((j+1:Nat):Int))]] (gD 1 [x0,a,.v (.string (mk (tN (pL F n j))))] [.cells [fv],.cells [.v (.int .i64 ((pL F n j+1:Nat):Int))]])
 |0,j,h,_=>by simp only[pL]at h;omega
 |
  n+1,j,h,hj=>by
  refine Ka _ _ _ _ _ ?_
  simp only[ER,↓zq,zs,ac,zt,ac,hfv.1,h0,ha]
  refine⟨fun h=>(by simp at h),fun _=>?_⟩
  refine ah (MJ F fv hfv (tN j) (by omega)) ?_
  simp only[↓zq,zs,ac,zt]
  rw[pL]at h |-
  refine⟨fun hm=>?_,fun hm=>?_⟩
  ·rw[if_pos hm]at h |-
   refine ah (HB (j+1) (by omega)) ?_
   have hd:=oj 8 (j+1) (by omega)
   simp only[↓zq,zs,ac,zt,a7,aM]
   rw[bg (j+1) (by omega)]
   exact⟨by simp[cw];omega,H4 x0 a fv F h0 ha hfv hF n (j+1) (by omega) (by omega)⟩
  ·rw[if_neg hm]
   exact⟨rfl,rfl,rfl⟩
theorem NX(x0 a fv:AV)(F:List Nm)(h0:LK.ptr.has x0)(ha:LK.sl.has a)(hfv:cc fv F)(hF:F.length<10000)(k:Nat)(hk:k<90000000) :
 Dz [x0,a,.v (.string (mk []))] [.cells [fv],.cells [.v (.int .i64 (k:Int))]] (gD 1 [x0,a,.v (.string (mk (tN (nx F k))))] [.cells [fv],.cells [.v (.int .i64 ((nx F k+1:Nat):Int))]]):=by
 obtain⟨g1,g2,_,_⟩:=gx F k
 refine Ka _ _ _ _ _ ?_
 simp only[ER,↓zq,zs,ac,zt,ac,hfv.1,h0,ha]
 refine⟨fun _=>?_,fun h=>(by simp at h)⟩
 refine ah (HB k (by omega)) ?_
 have hd:=oj 8 k (by omega)
 simp only[↓zq,zs,ac,zt,a7,aM]
 rw[bg k (by omega)]
 exact⟨by simp[cw];omega,H4 x0 a fv F h0 ha hfv (by omega) (F.length+1) k (by show nx F k<_;omega) (by omega)⟩
theorem yq(F:List Nm)(fv:AV)(hfv:cc fv F)(hF:F.length<=1000):∀(t:Ty) (to:List Nm) (a:AV) (k:Nat),cc a to->to.length+t.az<10000->jX t to.length->ux t->(∀w,w∈to->w.length<=20)->k+(F.length+1)*t.az<80000000 ->
 an Tryz.prog 176 [t.av,a,.gC 176 [none,some 0,some 1],.ref 0 0,.ref 1 0] [.cells [fv],.cells [.v (.int .i64 (k:Int))]] (cX (.v (.string (mk (fQ (gT F t to k).1)))) [.cells [fv],.cells [.v (.int .i64 ((gT F t to k).2:Int))]])
 |
  .zero,to,a,k,ha,hl,hlc,hs,ht,hk=>by
  refine vU _ _ _ _ ((aC _).mpr trivial) ha.1 hfv.1 ?_
  simp only[D2,Ty.av,↓zq,zs,ac,zt,aC]
  refine⟨by omega,fun h=>by omega,fun _=>⟨fun h=>by omega,fun _=>⟨fun h=>by omega,fun _=>⟨fun h=>by omega,fun _=>⟨fun h=>by omega,fun _=>?_⟩⟩⟩⟩⟩
  repeat refine⟨by omega,?_⟩
  exact⟨⟨rfl,(mP _ _).mpr trivial,trivial⟩,rfl,rfl⟩
 |
  .one,to,a,k,ha,hl,hlc,hs,ht,hk=>by
  refine vU _ _ _ _ ((aC _).mpr trivial) ha.1 hfv.1 ?_
  simp only[D2,Ty.av,↓zq,zs,ac,zt,aC]
  refine⟨by omega,fun h=>by omega,fun _=>⟨fun h=>by omega,fun _=>⟨fun h=>by omega,fun _=>⟨fun h=>by omega,fun _=>⟨fun h=>by omega,fun _=>?_⟩⟩⟩⟩⟩
  repeat refine⟨by omega,?_⟩
  exact⟨⟨rfl,(mP _ _).mpr trivial,trivial⟩,rfl,rfl⟩
 |
  .name s,to,a,k,ha,hl,hlc,hs,ht,hk=>by
  refine vU _ _ _ _ ((aC _).mpr trivial) ha.1 hfv.1 ?_
  simp[D2,Ty.av,↓zq,zs,ac,cX,gT,fQ]
 |
  .bN u,to,a,k,ha,hl,hlc,hs,ht,hk=>by
  have hu:u<to.length:=hlc
  refine vU _ _ _ _ ((aC _).mpr trivial) ha.1 hfv.1 ?_
  simp only[D2,Ty.av,↓zq,zs,ac,zt,ha.len]
  rw[wrap64 ((to.length:Int)-1) (by omega) (by omega),wrap64 _ (by omega) (by omega)]
  have e1:(to.length:Int)-1-(u:Int)=((to.length-1-u:Nat):Int):=by omega
  rw[e1]
  simp only[bJ,ha.idx (show to.length-1-u<to.length by omega),↓zq,zs,ac,zt]
  refine⟨by omega,fun h=>by omega,fun _=>⟨fun _=>⟨ha.1,by omega,⟨ha.1,by omega,by omega⟩,by omega,rfl,rfl⟩,fun h=>absurd rfl h⟩⟩
 |
  .plus x y,to,a,k,ha,hl,hlc,hs,ht,hk=>by
  simp only[Ty.az]at hl hk
  have h1:=ij F x to k
  have hm:(F.length+1)*(1+x.az+y.az)=(F.length+1)+(F.length+1)*x.az+(F.length+1)*y.az:=by simp only[cS,dE]
  have sx:ux x:=fun z hz=>hs z (by simp[bh,hz])
  have sy:ux y:=fun z hz=>hs z (by simp[bh,hz])
  have t1:=iX F (by omega) x to k sx ht (by omega)
  have t2:=iX F (by omega) y to (gT F x to k).2 sy ht (by omega)
  have hb:(⟨(bytesOf [[.v (.int .u8 43)]]).toArray⟩:ByteArray)=mk [43]:=rfl
  have h8:ja [[AV.v (.int .u8 43)]]:=⟨rfl,(mP _ _).mpr trivial,trivial⟩
  refine vU _ _ _ _ ((aC _).mpr trivial) ha.1 hfv.1 ?_
  simp only[D2,Ty.av,↓zq,zs,ac,zt,aC,hb]
  refine⟨by omega,fun h=>by omega,fun _=>⟨fun h=>by omega,fun _=>⟨fun _=>?_,fun h=>absurd rfl h⟩⟩⟩
  repeat refine⟨by omega,?_⟩
  refine aT (yq F fv hfv hF x to a k ha (by omega) hlc.1 sx ht (by omega)) ?_
  simp only[↓zq,zs,ac,zt,bn,hfv.1,hb,a7,aM]
  repeat (first|refine⟨by omega,?_⟩|refine⟨h8,?_⟩|refine⟨by simp[cw];omega,?_⟩)
  refine aT (yq F fv hfv hF y to a _ ha (by omega) hlc.2 sy ht (by omega)) ?_
  simp only[↓zq,zs,ac,zt,bn,hfv.1,hb,a7,aM]
  repeat (first|refine⟨by omega,?_⟩|refine⟨h8,?_⟩|refine⟨by simp[cw];omega,?_⟩)
  refine⟨?_,rfl⟩
  simp[gT,fQ,en]
 |
  .times x y,to,a,k,ha,hl,hlc,hs,ht,hk=>by
  simp only[Ty.az]at hl hk
  have h1:=ij F x to k
  have hm:(F.length+1)*(1+x.az+y.az)=(F.length+1)+(F.length+1)*x.az+(F.length+1)*y.az:=by simp only[cS,dE]
  have sx:ux x:=fun z hz=>hs z (by simp[bh,hz])
  have sy:ux y:=fun z hz=>hs z (by simp[bh,hz])
  have t1:=iX F (by omega) x to k sx ht (by omega)
  have t2:=iX F (by omega) y to (gT F x to k).2 sy ht (by omega)
  have hb:(⟨(bytesOf [[.v (.int .u8 42)]]).toArray⟩:ByteArray)=mk [42]:=rfl
  have h8:ja [[AV.v (.int .u8 42)]]:=⟨rfl,(mP _ _).mpr trivial,trivial⟩
  refine vU _ _ _ _ ((aC _).mpr trivial) ha.1 hfv.1 ?_
  simp only[D2,Ty.av,↓zq,zs,ac,zt,aC,hb]
  refine⟨by omega,fun h=>by omega,fun _=>⟨fun h=>by omega,fun _=>⟨fun h=>by omega,fun _=>⟨fun _=>?_,fun h=>absurd rfl h⟩⟩⟩⟩
  repeat refine⟨by omega,?_⟩
  refine aT (yq F fv hfv hF x to a k ha (by omega) hlc.1 sx ht (by omega)) ?_
  simp only[↓zq,zs,ac,zt,bn,hfv.1,hb,a7,aM]
  repeat (first|refine⟨by omega,?_⟩|refine⟨h8,?_⟩|refine⟨by simp[cw];omega,?_⟩)
  refine aT (yq F fv hfv hF y to a _ ha (by omega) hlc.2 sy ht (by omega)) ?_
  simp only[↓zq,zs,ac,zt,bn,hfv.1,hb,a7,aM]
  repeat (first|refine⟨by omega,?_⟩|refine⟨h8,?_⟩|refine⟨by simp[cw];omega,?_⟩)
  refine⟨?_,rfl⟩
  simp[gT,fQ,en]
 |
  .rc x,to,a,k,ha,hl,hlc,hs,ht,hk=>by
  simp only[Ty.az]at hl hk
  obtain⟨g1,g2,_,_⟩:=gx F k
  have hm:(F.length+1)*(2+x.az)=(F.length+1)*2+(F.length+1)*x.az:=by simp only[cS]
  have hln:=wM (k:=nx F k) (by omega)
  have ht':∀w,w∈to++[tN (nx F k)]->w.length<=20:=fun w hw=>by
   rcases aI.1 hw with hw|hw
   ·exact ht w hw
   ·simp only[aP]at hw;rw[hw];exact hln
  have t1:=iX F (by omega) x (to++[tN (nx F k)]) (nx F k+1) hs ht' (by omega)
  have hrc:(Ty.rc x).av=.ptr [.v (.int .u8 114),.v (.string (mk [])),.v (.int .i64 0),x.av,.v (.pointer none)]:=rfl
  refine vU _ _ _ _ ((aC _).mpr trivial) ha.1 hfv.1 ?_
  simp only[D2,Ty.av,↓zq,zs,ac,zt,aC]
  refine⟨by omega,fun h=>by omega,fun _=>⟨fun h=>by omega,fun _=>⟨fun h=>by omega,fun _=>⟨fun h=>by omega,fun _=>⟨fun _=>?_,fun h=>absurd rfl h⟩⟩⟩⟩⟩
  rw[<-hrc]
  repeat refine⟨by omega,?_⟩
  refine cr (NX (Ty.rc x).av a fv F ((aC _).mpr trivial) ha.1 hfv (by omega) k (by omega)) ?_
  simp only[Ty.av,↓zq,zs,ac,zt,ac,bn,hfv.1,ha.1,aC,ha.2,Ek,aM,j6,j0]
  have hl2:(dd (nx F k)).length+1<=20:=hln
  have hl3:(tN (nx F k)).length=(dd (nx F k)).length+1:=rfl
  refine⟨by omega,by simp only[ax,aB,aJ,hl3];omega,by omega,by omega,⟨fun c hc=>by simp at hc;rw[hc];rfl,by omega⟩,?_⟩
  refine aT (yq F fv hfv hF x (to++[tN (nx F k)]) _ (nx F k+1) (.of _) (by simp;omega) (by rw[ax];exact hlc) hs ht' (by omega)) ?_
  simp only[↓zq,zs,ac,zt,bn,hfv.1]
  repeat refine⟨by omega,?_⟩
  refine⟨by simp only[ax,aB,aJ,hl3];omega,by simp only[ax,aB,aJ,hl3];omega,?_,rfl⟩
  simp[gT,fQ,en]
theorem Q7(t:Ty)(g:fV t)(hs:ux t)(h4:t.az<=400):an Tryz.prog 151 [t.av] [] (bA (.v (.string (mk (DH t))))):=by
 refine Q3 _ ((aC _).mpr trivial) ?_
 unfold MX
 have hn:=ew t []
 simp only[aJ,aU]at hn
 have hm:((bH t []).length+1)*t.az<=401*400:=Nat.mul_le_mul (by omega) h4
 refine ah (HS t (by omega)) ?_
 simp only[↓zq,zs,ac,zt,ca]
 refine aT (yq (bH t []) _ (.of _) (by omega) t [] xl 0 .nil (by simp;omega) g.1 hs (fun w hw=>by cases hw) (by omega)) ?_
 simp only[↓zq,zs,ac,zt,bn,ca]
 exact⟨rfl,rfl⟩
theorem N0(t:Ty)(g:fV t)(hs:ux t)(hl:t.az<1000000):an Tryz.prog 110 [t.av] [] (bA (s6 (told t))):=by
 refine Og _ ((aC _).mpr trivial) ?_
 unfold MY
 refine ah (DE t hl) ?_
 simp only[↓zq,zs,ac,zt]
 refine⟨fun h=>?_,fun h=>?_⟩
 ·have:told t=none:=by unfold told;rw[if_neg fun h'=>by have:=h'.1;omega]
  rw[this];exact⟨rfl,rfl⟩
 ·have h4:t.az<=400:=by omega
  refine ah (Q7 t g hs h4) ?_
  simp only[↓zq,zs,ac,zt]
  refine ah (D5 (DH t)) ?_
  simp only[↓zq,zs,ac,zt,il]
  unfold told
  cases q:qe (DH t)with
  |
   none =>
   simp only[hG,↓zq,zs,ac]
   rw[if_neg (by simp)]
   exact⟨fun _=>⟨rfl,rfl⟩,fun h=>(by cases h)⟩
  |
   some u =>
   simp only[hG,↓zq,zs,ac,fG]
   rw[if_pos ⟨h4,rfl⟩]
   exact⟨fun h=>(by cases h),fun _=>⟨rfl,rfl⟩⟩
theorem Ot(s:Nm):an Tryz.prog 85 [.v (.string (mk s))] [] (bA (s6 (cF s))):=by
 refine P0 _ ?_
 unfold JH
 refine ah (D5 s) ?_
 simp only[↓zq,zs,ac,zt,il]
 cases q:qe s with
 |
  none =>
  have:cF s=none:=by unfold cF;rw[q]
  rw[this]
  simp only[hG,↓zq,zs,ac]
  exact⟨fun _=>⟨rfl,rfl⟩,fun h=>(by cases h)⟩
 |
  some t =>
  simp only[hG,↓zq,zs,ac,fG]
  have notRec:(∀a,t≠.rc a)->cF s=none:=fun hn=>by
   unfold cF;rw[q]
   cases t<;>first|rfl|exact absurd rfl (hn _)
  refine⟨fun h=>(by cases h),fun _=>?_⟩
  cases t with
  |
   rc a =>
   have h4:=rX q
   simp only[Ty.az]at h4
   have hq:cF s=(oN a lQ).bind told:=by unfold cF;rw[q]
   obtain⟨e,he,hw,hte,hats,hok⟩:=pz q
   have hgood:∀d,oN a lQ=some d->fV d/\(ux (.rc a)->ux d):=fun d hd=>rr hw hte ⟨by simp,by simp,by simp⟩ hd
   rw[hq]
   simp only[Ty.av,↓zq,zs,ac]
   refine⟨by omega,fun h=>by omega,fun _=>?_⟩
   have hld:=QH a (by omega) (fun j=>by
    cases q2:bh (hN j) a with
    |false=>rfl
    |true=>exact absurd rfl ((wB (mK q (hN j) q2)).2 (dd j)))
   simp only[Ty.av]at hld
   refine bO hld (NR.ne _) ?_
   rintro r ob ⟨rfl,p,hp,rfl,hpe⟩
   simp only[↓zq,zs,ac,zt,eq_true hp]
   cases q1:oN a lQ with
   |
    none =>
    simp only[bq,bC]
    exact⟨fun _=>⟨rfl,rfl⟩,fun h=>(by cases h)⟩
   |
    some d =>
    simp only[a8,aR]
    refine⟨fun h=>(by cases h),fun _=>?_⟩
    rw[hpe d q1]
    have hl:d.az<=400:=by
     simp only[oN,bc,eT]at q1
     obtain⟨_,_,h1,h2⟩:=q1
     rw[<-h2];exact h1
    refine ah (N0 d (hgood d q1).1 ((hgood d q1).2 (A2 q)) (by omega)) ?_
    cases told d<;>simp only[s6,↓zq,zs,ac,zt]<;>exact⟨rfl,rfl⟩
  |
   _ =>
   rw[notRec fun a h=>by cases h]
   simp only[Ty.av,↓zq,zs,ac]
   exact⟨by omega,fun _=>⟨rfl,rfl⟩,fun h=>by omega⟩
end Go.Proofs.Trees
namespace Go.Proofs.Trees
open Go Go.VL Go.RowKit
theorem DU:∀(m:Nat) (c:Vl),c.nodes<=m->∀(t:Ty) (v:Vl),dM t c=true->∀(ea:AV) (ids:List Nat),kk ea ids->∀(s:List UInt8) (fr:AV),LK.has .ptr fr->an Tryz.prog 101 [.agg [t.av,ea],c.cx,.agg [.v (.string (mk s)),fr],v.cx] [] (bA (dB t c v).cx)
 |0,c,hm=>by have:=dD c;omega
 |
  m+1,c,hm=>by
  intro t v hc ea ids he s fr hf
  refine Qn _ _ _ _ _ _ ((aC _).mpr trivial) he.has ((aH _).mpr trivial) hf ((aH _).mpr trivial) ?_
  have fin:∀x:AV,LK.has .ptr x->LK.has .ptr x=True:=fun x h=>eq_true h
  cases t with
  |zero=>rw[rV];simp[BI,Ty.av,↓zq,zs,ac,bA]
  |one=>rw[u6];simp[BI,Ty.av,↓zq,zs,ac,bA]
  |name n=>rw[mQ];simp[BI,Ty.av,↓zq,zs,ac,bA]
  |bN u=>rw[rI];simp[BI,Ty.av,↓zq,zs,ac,bA]
  |
   plus a b =>
   have hL:=zl a.av b.av ea 43 (mk []) 0 ((aC _).mpr trivial) he.has
   have hR:=yR a.av b.av ea 43 (mk []) 0 ((aC _).mpr trivial) he.has
   rcases vD hc with⟨x,rfl,hx⟩|⟨x,rfl,hx⟩
   ·simp only[Vl.nodes]at hm
    simp only[BI,Ty.av,↓zq,zs,ac]
    refine⟨by omega,fun _=>?_,fun h=>absurd rfl h⟩
    refine ah hL ?_
    simp only[↓zq,zs,ac,bB,aC,he.has,Vl.cx,aH]
    refine⟨by omega,fun h=>by omega,fun _=>⟨by omega,by omega,?_⟩⟩
    refine ah (DU m x (by omega) a v hx ea ids he s fr hf) ?_
    simp only[↓zq,zs,ac,aH]
    refine ah (zn 108 _ ((aH _).mpr trivial)) ?_
    simp[↓zq,zs,ac,bA,dB,Vl.cx,bV]
   ·simp only[Vl.nodes]at hm
    simp only[BI,Ty.av,↓zq,zs,ac]
    refine⟨by omega,fun _=>?_,fun h=>absurd rfl h⟩
    refine ah hL ?_
    simp only[↓zq,zs,ac,bB,aC,he.has,Vl.cx,aH]
    refine⟨by omega,fun _=>?_,fun h=>absurd rfl h⟩
    refine ah hR ?_
    simp only[↓zq,zs,ac,bB,aC,he.has,Vl.cx,aH]
    refine⟨by omega,by omega,?_⟩
    refine ah (DU m x (by omega) b v hx ea ids he s fr hf) ?_
    simp only[↓zq,zs,ac,aH]
    refine ah (zn 114 _ ((aH _).mpr trivial)) ?_
    simp[↓zq,zs,ac,bA,dB,Vl.cx,bV]
  |
   times a b =>
   have hL:=zl a.av b.av ea 42 (mk []) 0 ((aC _).mpr trivial) he.has
   have hR:=yR a.av b.av ea 42 (mk []) 0 ((aC _).mpr trivial) he.has
   rcases sK hc with⟨x,y,rfl,hx⟩|⟨x,y,rfl,hx⟩
   ·simp only[Vl.nodes]at hm
    simp only[BI,Ty.av,↓zq,zs,ac,Vl.cx]
    refine⟨by omega,fun h=>by omega,fun _=>⟨fun _=>⟨by omega,fun _=>?_,fun h=>absurd rfl h⟩,fun h=>absurd rfl h⟩⟩
    refine ah hL ?_
    simp only[↓zq,zs,ac,bB,aC,he.has,Vl.cx,aH]
    repeat refine⟨by omega,?_⟩
    refine ah (DU m x (by omega) a v hx ea ids he s fr hf) ?_
    simp only[↓zq,zs,ac,aH]
    repeat refine⟨by omega,?_⟩
    refine ah (yK _ _ ((aH _).mpr trivial) ((aH _).mpr trivial)) ?_
    simp[↓zq,zs,ac,bA,dB,Vl.cx,bV]
   ·simp only[Vl.nodes]at hm
    simp only[BI,Ty.av,↓zq,zs,ac,Vl.cx,aH]
    refine⟨by omega,fun h=>by omega,fun _=>⟨fun _=>⟨by omega,fun h=>by omega,fun _=>?_⟩,fun h=>absurd rfl h⟩⟩
    repeat refine⟨by omega,?_⟩
    refine ah hR ?_
    simp only[↓zq,zs,ac,bB,aC,he.has,Vl.cx,aH]
    repeat refine⟨by omega,?_⟩
    refine ah (DU m y (by omega) b v hx ea ids he s fr hf) ?_
    simp only[↓zq,zs,ac,aH]
    refine ah (yK _ _ ((aH _).mpr trivial) ((aH _).mpr trivial)) ?_
    simp[↓zq,zs,ac,bA,dB,Vl.cx,bV]
  |
   rc a =>
   have hin:=B2 a ea ids he
   simp only[Ty.av]at hin
   rcases Bi hc with⟨x,rfl,hx⟩|⟨x,y,rfl,hx,hy⟩
   ·simp only[Vl.nodes]at hm
    simp only[BI,Ty.av,↓zq,zs,ac,Vl.cx,aH]
    refine⟨by omega,fun h=>by omega,fun _=>⟨fun h=>by omega,fun _=>⟨fun _=>?_,fun h=>absurd rfl h⟩⟩⟩
    refine bO hin (by have:=Bv.ne a ea ids;simpa only[Bv,Ty.av]using this) ?_
    intro r o hr
    obtain⟨⟨q,hq,rfl⟩,rfl⟩:=hr
    have he2:kk (.ptr [.pid q [(Ty.rc a).av,ea],ea]) (q::ids):=.cons hq he
    have hfr:LK.ptr.has (.pid q [(Ty.rc a).av,ea]):=.inr (.inr ⟨_,_,rfl⟩)
    simp only[Ty.av]at he2 hfr
    simp only[↓zq,zs,ac,bB,aC,he2.has,hfr,Vl.cx,aH,Ty.av]
    repeat refine⟨by omega,?_⟩
    refine⟨fun _=>?_,fun h=>absurd rfl h⟩
    repeat refine⟨by omega,?_⟩
    refine ah (DU m x (by omega) a v hx _ _ he2 s fr hf) ?_
    simp only[↓zq,zs,ac,aH]
    refine ah (zn 102 _ ((aH _).mpr trivial)) ?_
    simp[↓zq,zs,ac,bA,dB,Vl.cx,bV]
   ·simp only[Vl.nodes]at hm
    simp only[BI,Ty.av,↓zq,zs,ac,Vl.cx,aH]
    refine⟨by omega,fun h=>by omega,fun _=>⟨fun h=>by omega,fun _=>⟨fun _=>?_,fun h=>absurd rfl h⟩⟩⟩
    refine bO hin (by have:=Bv.ne a ea ids;simpa only[Bv,Ty.av]using this) ?_
    intro r o hr
    obtain⟨⟨q,hq,rfl⟩,rfl⟩:=hr
    have he2:kk (.ptr [.pid q [(Ty.rc a).av,ea],ea]) (q::ids):=.cons hq he
    have hfr:LK.ptr.has (.pid q [(Ty.rc a).av,ea]):=.inr (.inr ⟨_,_,rfl⟩)
    simp only[Ty.av]at he2 hfr
    simp only[↓zq,zs,ac,bB,aC,he2.has,hfr,Vl.cx,aH,Ty.av]
    repeat refine⟨by omega,?_⟩
    refine fun _=>?_
    repeat refine⟨by omega,?_⟩
    have i1:=DU m y (by omega) (.rc a) v hy ea ids he s fr hf
    simp only[Ty.av]at i1
    refine ah i1 ?_
    simp only[↓zq,zs,ac,aH]
    repeat refine⟨by omega,?_⟩
    refine ah (DU m x (by omega) a (dB (.rc a) y v) hx _ _ he2 [] _ hfr) ?_
    simp only[↓zq,zs,ac,aH]
    refine ah (zn 102 _ ((aH _).mpr trivial)) ?_
    simp[↓zq,zs,ac,bA,dB,Vl.cx,bV]
theorem Pe(a:Ty)(c v:Vl)(hc:dM a c=true):an Tryz.prog 74 [(Ty.rc a).av,c.cx,v.cx] [] (bA (Vl.f (dB a c v)).cx):=by
 refine QQ _ _ _ ((aC _).mpr trivial) ((aH _).mpr trivial) ((aH _).mpr trivial) ?_
 unfold JN
 refine bO (B2 a gp [] .nil) (Bv.ne a gp []) ?_
 rintro r o ⟨⟨m,hm,rfl⟩,rfl⟩
 have he2:kk (.ptr [.pid m [(Ty.rc a).av,gp],gp]) [m]:=.cons hm .nil
 have hfr:LK.ptr.has (.pid m [(Ty.rc a).av,gp]):=.inr (.inr ⟨_,_,rfl⟩)
 simp only[Ty.av]at he2 hfr
 simp only[↓zq,zs,ac,bB,aC,he2.has,hfr,Ty.av]
 repeat refine⟨by omega,?_⟩
 refine ah (DU c.nodes c (aq _) a v hc _ _ he2 [] _ hfr) ?_
 simp only[↓zq,zs,ac,aH]
 refine ah (zn 102 _ ((aH _).mpr trivial)) ?_
 simp[↓zq,zs,ac,bA,Vl.cx,bV]
end Go.Proofs.Trees
namespace Go.Proofs.Trees
open Go Go.VL Go.RowKit
def uq(l:List Vl):List (List AV):=l.map fun c=>[c.cx]
theorem j3(l:List Vl):(uq l).length=l.length:=by simp[uq]
theorem tK{l:List Vl}{i:Nat}(h:i<l.length):(uq l).getD i []=[(l[i]).cx]:=by simp[uq,aa,h]
theorem xg(l:List Vl)(c:Vl):uq l++[[c.cx]]=uq (l++[c]):=by simp[uq]
def uv(s:Nm)(a:Ty)(l:List Vl)(v:Vl):AV:=.ptr [.v (.string (mk s)),(Ty.rc a).av,.sl (uq l),v.cx]
def oZ(s:Nm)(a:Ty):Option (List Vl×Vl)->AV
 |some r=>uv s a r.1 r.2
 |none=>gp
theorem oY(s:Nm)(a:Ty)(o:Option (List Vl×Vl)):LK.has .ptr (oZ s a o)=True:=by cases o<;>simp[oZ,uv,hZ,bV]
theorem OZ:an Tryz.prog 46 [gp] [] (bA gp):=by
 refine KS _ ((hZ).mpr trivial) ?_
 simp only[Er,↓zq,zs,ac]
 exact⟨fun _=>⟨rfl,rfl⟩,fun h=>(by cases h)⟩
theorem Dy(v:Vl):(Vl.f v).nodes=v.nodes+1:=by simp only[Vl.nodes];omega
theorem Mc(s:Nm)(a:Ty)(l:List Vl)(v:Vl)(h:ZI a l v)(hl:l.length<=50):an Tryz.prog 46 [uv s a l v] [] (bA (oZ s a (pR a l v))):=by
 refine KS _ ((bV _).mpr trivial) ?_
 simp only[Er,uv,↓zq,zs,ac,j3]
 refine⟨fun h=>(by cases h),fun _=>?_⟩
 repeat refine⟨by omega,?_⟩
 unfold pR
 refine⟨fun h0=>?_,fun h0=>?_⟩
 ·have:l=[]:=bU (by omega)
  subst this
  exact⟨rfl,rfl⟩
 ·have hpos:0<l.length:=by omega
  have hne:l≠[]:=by rintro rfl;simp at hpos
  rw[wrap64 ((l.length:Int)-1) (by omega) (by omega)]
  have e1:((l.length:Int)-1).toNat=l.length-1:=by omega
  have hlt:l.length-1<l.length:=by omega
  have hlast:l.getLast?=some (l[l.length-1]):=by rw[List.getLast?_eq_some_getLast hne,List.getLast_eq_getElem]
  rw[hlast]
  have hC:=h.BO _ (bx hlt)
  generalize hc:l[l.length-1]=c at *
  simp only[e1,tK hlt,hc,↓zq,zs,ac,aH,aC]
  repeat refine⟨by omega,?_⟩
  refine ah (Pe a c v hC.ok) ?_
  simp only[↓zq,zs,ac,aH]
  have hn:=rj a c v
  have h1:=hC.nd
  have h2:=h.nM.nd
  refine ah (D1 (.f (dB a c v)) (by rw[Dy];omega)) ?_
  simp only[↓zq,zs,ac,aH,aC]
  refine⟨fun hb=>?_,fun hb=>?_⟩
  ·rw[if_neg (by omega)];exact⟨rfl,rfl⟩
  ·rw[if_pos (by omega)]
   repeat refine⟨by omega,?_⟩
   refine⟨?_,rfl⟩
   have:(uq l).take (l.length-1)=uq l.dropLast:=by rw[List.dropLast_eq_take];simp[uq]
   simp only[oZ,uv,Int.toNat_zero,aZ,this]
theorem M8{s d:Nm}{a:Ty}{x A B:E}{D:Ty}(z:ZT s d a x A B D)(pa:AV)(p:List Nm)(hp:cc pa p)(hl:p.length<=50)(v:Vl):∀(k i:Nat) (l0:List Vl),i+k=p.length->l0.length<=i ->
 Ej [.v (.string (mk d)),pa,.v (.int .i64 (p.length:Int)),.v (.int .i64 (i:Int))] [.cells [.v (.string (mk s)),(Ty.rc a).av,.any,v.cx],.vec 1 (uq l0)]
  (nv (match eB d (p.drop i)with|some l=>(1,[],[.cells [.v (.string (mk s)),(Ty.rc a).av,.any,v.cx],.vec 1 (uq (l0++l))])|none=>(2,[gp],[])))
 |
  0,i,l0,hi,HL=>by
  refine Jt _ _ _ _ _ _ _ _ ?_
  have:i=p.length:=by omega
  subst this
  simp only[FP,↓zq,zs,ac,ac,aC,aH,List.drop_length]
  exact⟨hp.1,fun h=>by omega,fun _=>by simp[nv,eB]⟩
 |
  k+1,i,l0,hi,HL=>by
  have hlt:i<p.length:=by omega
  have hd:p.drop i=p.getD i []::p.drop (i+1):=by rw[aK hlt];simp[aa,hlt]
  refine Jt _ _ _ _ _ _ _ _ ?_
  simp only[FP,↓zq,zs,ac,zt,ac,aC,aH,hp.len,hp.idx hlt,bJ]
  refine⟨hp.1,fun _=>⟨⟨hp.1,by omega,by omega⟩,by omega,?_⟩,fun h=>by omega⟩
  refine ah (M9 d (p.getD i []) 100) ?_
  rw[hd,eB]
  simp only[↓zq,zs,ac,zt,il,gn]
  cases q:ni d (p.getD i []) 100 with
  |
   none =>
   simp only[je,↓zq,zs,ac]
   exact⟨fun _=>by first|trivial|rfl,fun h=>(by cases h)⟩
  |
   some w =>
   simp only[je,↓zq,zs,ac,fm,xg]
   refine⟨fun h=>(by cases h),fun _=>?_⟩
   rw[bg i (by omega)]
   have ih:=M8 z pa p hp hl v k (i+1) (l0++[w]) (by omega) (by simp;omega)
   refine⟨⟨fun c hc=>by simp at hc;rw[hc];rfl,by rw[j3];omega⟩,?_⟩
   cases q2:eB d (p.drop (i+1))with
   |none=>rw[q2]at ih;exact ih
   |some l=>rw[q2]at ih;simp only[aW,a7,aM]at ih;exact ih
theorem qu{s:Nm}{p:List Nm}{f:Nm}{l:List Vl}{v:Vl}(h:yp s p f=some (l,v)):∃d a x A B D,ZT s d a x A B D/\ZI a l v/\p=l.map (·.cK)/\f=v.cK/\p.length<=50/\zA s=a/\pT s f=some v/\eB d p=some l:=by
 unfold yp at h
 split at h
 ·rename_i v' d h1 h2
  split at h
  ·rename_i hl
   obtain⟨l',h3,h4⟩:=Option.map_eq_some_iff.1 h
   cases h4
   obtain⟨a,_,_,_,L⟩:=oT h1
   obtain⟨x,A,B,D,z⟩:=ZT.of L.l h2
   obtain⟨q1,q2⟩:=ri z p l h3
   obtain⟨q3,q4⟩:=z.nM h1
   exact⟨d,a,x,A,B,D,z,⟨q2,q3⟩,q1,q4,hl,by unfold zA;rw[L.l];rfl,h1,h3⟩
  ·cases h
 ·cases h
theorem OQ(s:Nm)(pa:AV)(p:List Nm)(hp:cc pa p)(f:Nm):an Tryz.prog 63 [.agg [.v (.string (mk s)),pa,.v (.string (mk f))]] [] (bA (oZ s (zA s) (yp s p f))):=by
 refine Pr _ _ _ hp.1 ?_
 unfold Mt
 refine ah (Rj s f) ?_
 have hlt:LK.has .ptr (E7 s)=True:=by unfold E7;split<;>simp[aC,hZ]
 simp only[↓zq,zs,ac,zt,hlt,gn]
 refine ah (Ot s) ?_
 have ho:∀o:Option Nm,s6 o=.cI [.v (.string (mk (o.getD []))),.v (.bool o.isSome)]:=fun o=>by cases o<;>rfl
 rw[ho]
 simp only[↓zq,zs,ac,zt]
 unfold yp
 cases h1:pT s f with
 |
  none =>
  simp only[je,↓zq,zs,ac]
  exact⟨fun _=>⟨rfl,rfl⟩,fun h=>(by cases h)⟩
 |
  some v =>
  simp only[je,↓zq,zs,ac,fm]
  refine⟨fun h=>(by cases h),fun _=>?_⟩
  cases h2:cF s with
  |
   none =>
   simp only[bq]
   exact⟨fun _=>⟨rfl,rfl⟩,fun h=>(by cases h)⟩
  |
   some d =>
   simp only[a8,cD,hp.len]
   refine⟨fun h=>(by cases h),fun _=>⟨hp.1,fun h=>?_,fun h=>?_⟩⟩
   ·rw[if_neg (by omega)];exact⟨rfl,rfl⟩
   ·have hl:p.length<=50:=by omega
    rw[if_pos hl]
    obtain⟨a,_,_,_,L⟩:=oT h1
    obtain⟨x,A,B,D,z⟩:=ZT.of L.l h2
    have ht:E7 s=(Ty.rc a).av:=by unfold E7;rw[L.l]
    have hza:zA s=a:=by unfold zA;rw[L.l];rfl
    rw[ht,hza]
    refine⟨hp.1,?_⟩
    have hloop:=M8 z pa p hp hl v p.length 0 [] (by omega) (by simp)
    rw[aZ]at hloop
    refine eX hloop (fun ys o e=>?_) (fun ys o e=>?_)
    ·cases q:eB d p with
     |none=>rw[q]at e;cases e
     |
      some l =>
      rw[q]at e
      cases e
      simp only[↓zq,zs,ac,zt,ac,bn,aC,aH,cy]
      exact⟨rfl,rfl⟩
    ·cases q:eB d p with
     |
      none =>
      rw[q]at e
      cases e
      simp only[↓zq,zs,ac,zt,ac,bn,Option.map_none]
      exact⟨rfl,rfl⟩
     |some l=>rw[q]at e;cases e
theorem Jo(s:Nm)(a:Ty)(x3:AV)(h3:LK.ptr.has x3):∀(n:Nat) (l:List Vl) (v:Vl),l.length=n->ZI a l v->n<=50 ->
 Ho [x3,uv s a l v] [] (nv (if(jV n a l v).isSome=true then(1,[x3],[])else(2,[gp],[])))
 |
  0,l,v,hl,h,hn=>by
  refine HX _ _ ?_
  simp only[Fg,uv,↓zq,zs,ac,h3,j3,hl,jV]
  repeat refine⟨by omega,?_⟩
  exact fun _=>by simp[nv]
 |
  n+1,l,v,hl,h,hn=>by
  refine HX _ _ ?_
  have hup:=Mc s a l v h (by omega)
  simp only[Fg,↓zq,zs,ac,h3]
  simp only[uv,↓zq,zs,ac,j3,hl]at hup |-
  repeat refine⟨by omega,?_⟩
  refine⟨fun _=>?_,fun h=>by omega⟩
  refine ah hup ?_
  simp only[↓zq,zs,ac,oY]
  rw[jV]
  cases q:pR a l v with
  |
   none =>
   simp only[oZ,↓zq,zs,ac,bC]
   exact⟨fun _=>by simp[nv],fun h=>(by cases h)⟩
  |
   some r =>
   obtain⟨hz,hlen,_⟩:=qP h q
   have ih:=Jo s a x3 h3 n r.1 r.2 (by omega) hz (by omega)
   simp only[oZ,uv,↓zq,zs,ac,aR]at ih |-
   exact⟨fun h=>(by cases h),fun _=>ih⟩
theorem RD(s:Nm)(pa:AV)(p:List Nm)(hp:cc pa p)(f:Nm):an Tryz.prog 45 [.agg [.v (.string (mk s)),pa,.v (.string (mk f))]] [] (bA (oZ s (zA s) (jl s p f))):=by
 refine QW _ _ _ hp.1 ?_
 unfold Ko
 refine ah (OQ s pa p hp f) ?_
 simp only[↓zq,zs,ac,zt,oY]
 unfold jl
 cases q:yp s p f with
 |
  none =>
  simp only[oZ,↓zq,zs,ac,bC]
  exact⟨fun _=>⟨rfl,rfl⟩,fun h=>(by cases h)⟩
 |
  some r =>
  obtain⟨l,v⟩:=r
  obtain⟨d,a,x,A,B,D,z,hz,hpt,hft,hl,hza,_,_⟩:=qu q
  rw[hza]
  have hll:l.length<=50:=by rw[hpt]at hl;simpa using hl
  have hloop:=Jo s a (uv s a l v) ((bV _).mpr trivial) l.length l v rfl hz hll
  simp only[oZ,aR]
  refine⟨fun h=>(by cases h),fun _=>?_⟩
  unfold tG
  refine eX hloop (fun ys o e=>?_) (fun ys o e=>?_)
  ·split at e
   ·rename_i hc
    cases e
    rw[if_pos hc]
    simp only[↓zq,zs,ac,uv,bV]
    exact⟨rfl,rfl⟩
   ·cases e
  ·split at e
   ·cases e
   ·rename_i hc
    cases e
    rw[if_neg hc]
    simp only[↓zq,zs,ac]
    exact⟨rfl,rfl⟩
end Go.Proofs.Trees
namespace Go.Proofs.Trees
open Go Go.VL
theorem fU(l:List (List UInt8)):∀x,x∈[Ob.vec 1 (bj l)]->gv x:=by
 intro x hx
 simp only[aP]at hx
 subst hx
 intro e he c hc
 simp only[bj,cf]at he
 obtain⟨k,_,rfl⟩:=he
 simp only[aP]at hc
 exact⟨_,hc⟩
def dz(k:Nat):List UInt8:=if k=0 then []else dd k
theorem B9{k:Nat}(h:0<k)(s:List UInt8):dz (k/10)++([ba (48+k%10)]++s)=dz k++s:=by
 have e:dz k=dd k:=if_neg (by omega)
 rw[e]
 by_cases hk:k<10
 ·have e2:dz (k/10)=[]:=if_pos (by omega)
  rw[e2,eD hk,show k%10=k by omega];rfl
 ·have e2:dz (k/10)=dd (k/10):=if_neg (by omega)
  rw[e2,fh hk,aW]
def G9(k:Nat):List UInt8:=109::(if k=0 then [48]else dd k)
theorem JS:∀(n k:Nat) (s:List UInt8),k<n->k<1000000000->s.length+k<=2000000000->Cu [.v (.int .i64 (k:Int)),.v (.string (mk s))] [] (gD 1 [.v (.string (mk (dz k++s)))] [])
 |0,k,s,h,_,_=>by omega
 |
  n+1,k,s,h,hk,hs=>by
  refine OI _ _ ?_
  simp only[LU,↓zq,zs,ac]
  have e1:IntKind.wrap .i64 (Int.tdiv (k:Int) 10)=((k/10:Nat):Int):=by
   rw[show Int.tdiv (k:Int) 10=((k/10:Nat):Int) from (Int.ofNat_tdiv k 10).symm,wrap64 _ (by omega) (by omega)]
  have e2:Int.tmod (k:Int) 10=((k%10:Nat):Int):=(Int.ofNat_tmod k 10).symm
  rw[e1,e2,uk (k%10) (by omega)]
  refine⟨fun hp=>⟨by omega,jA _,?_,by omega,?_⟩,fun hp=>?_⟩
  ·rw[j5]
   show (mk [_]).size+(mk s).size<=_
   rw[cw,cw];simp;omega
  ·rw[j5]
   have:=JS n (k/10) ([ba (48+k%10)]++s) (by omega) (by omega) (by simp;omega)
   rw[B9 (by omega)]at this
   show Cu [_,.v (.string (mk [_]++mk s))] [] _
   rw[jB];exact this
  ·have:k=0:=by omega
   subst this
   simp[gD,dz]
theorem BV(k:Nat):(dd k).length<=k+1:=lz (k+1) k (by omega)
theorem JX(k:Nat)(hk:k<1000000000):an Tryz.prog 78 [.v (.int .i64 (k:Int))] [] (bA (.v (.string (mk (G9 k))))):=by
 refine Qq _ ?_
 simp only[IK,↓zq,zs,ac,bA]
 refine⟨fun h=>?_,fun h=>?_⟩
 ·have:k=0:=by omega
  subst this;rfl
 ·refine cr (JS (k+1) k [] (by omega) hk (by simp;omega)) ?_
  have hl:=BV k
  simp only[cE,dz,↓zq,zs,ac,zt,if_neg (show ¬k=0 by omega)]
  refine⟨?_,?_⟩
  ·simp[cw];omega
  ·rw[G9,if_neg (by omega)];rfl
def u7(k n:Nat):List (List UInt8):=(List.range' k n).map G9
theorem ub(k n:Nat):(u7 k n).length=n:=by simp[u7]
theorem Au(k n:Nat):u7 k (n+1)=G9 k::u7 (k+1) n:=by simp[u7,List.range'_succ]
theorem Dd{k n i:Nat}(h:i<n):(u7 k n).getD i []=G9 (k+i):=by simp[u7,aa,h]
theorem nA(l:List (List UInt8)):(bj l).length=l.length:=by simp[bj]
theorem ry{l:List (List UInt8)}{i:Nat}(hi:i<l.length)(s:List UInt8):(bj l).set i (((bj l).getD i []).set 0 (.v (.string (mk s))))=bj (l.set i s):=by
 have:(bj l).getD i []=[.v (.string (mk (l[i])))]:=by simp[bj,aa,hi]
 rw[this];simp[bj,List.map_set]
theorem IS:∀(m i k:Nat) (l:List (List UInt8)),i+m=l.length->l.length<=2000000->k+m<=4000000->FZ [.v (.int .i64 (k:Int)),.v (.int .i64 (i:Int))] [.vec 1 (bj l)] (gD 1 [.v (.int .i64 ((k+m:Nat):Int))] [.vec 1 (bj (l.take i++u7 k m))])
 |
  0,i,k,l,hi,hl,hk=>by
  refine Kv _ _ _ ?_
  simp only[GM,↓zq,zs,ac,nA]
  refine⟨fun h=>by omega,fun _=>?_⟩
  have:l.take i=l:=List.take_of_length_le (by omega)
  simp[gD,this,u7]
 |
  m+1,i,k,l,hi,hl,hk=>by
  have hlt:i<l.length:=by omega
  refine Kv _ _ _ ?_
  simp only[GM,↓zq,zs,ac,nA]
  refine⟨fun _=>?_,fun h=>by omega⟩
  refine ah (JX k (by omega)) ?_
  simp only[↓zq,zs,ac,zt,bJ,ry hlt]
  refine⟨⟨by omega,by omega⟩,⟨hlt,by omega⟩,?_⟩
  have:=IS m (i+1) (k+1) (l.set i (G9 k)) (by simp;omega) (by simpa using hl) (by omega)
  rw[bg i (by omega),bg k (by omega)]
  have e:(l.set i (G9 k)).take (i+1)++u7 (k+1) m=l.take i++u7 k (m+1):=by
   rw[Au,List.take_succ_eq_append_getElem (by simpa using hlt),List.take_set_of_le (aq _)];simp
  rw[e,show k+1+m=k+(m+1) by omega]at this
  exact this
theorem Ph(k:Nat)(l:List (List UInt8))(hl:l.length<=2000000)(hk:k<=1000000):an Tryz.prog 50 [.vec 0,.v (.int .i64 (k:Int))] [.vec 1 (bj l)] (cX (.v (.int .i64 ((k+l.length:Nat):Int))) [.jk 1 (bj (u7 k l.length))]):=by
 refine OF _ _ ?_
 unfold Iq
 have:=IS l.length 0 k l (by omega) hl (by omega)
 rw[List.take_zero,aM]at this
 refine cr this ?_
 simp[↓zq,zs,ac,cX,Ob.es]
theorem Jb(a:AV)(k n:Nat)(ha:cc a (u7 k n))(hn:n<=2000000)(hk:k<=1000000):∀(m i:Nat),i+m=n->Gh [a,.v (.int .i64 ((k+i:Nat):Int)),.v (.int .i64 (i:Int))] [] (gD 1 [.v (.int .i64 ((k+n:Nat):Int))] [])
 |
  0,i,hi=>by
  refine MO _ _ _ ?_
  simp only[Ga,↓zq,zs,ac,ha.len,ub]
  refine⟨ha.1,ha.1,fun h=>by omega,fun _=>?_⟩
  rw[show i=n by omega];exact⟨rfl,rfl,rfl⟩
 |
  m+1,i,hi=>by
  have hlt:i<n:=by omega
  refine MO _ _ _ ?_
  simp only[Ga,↓zq,zs,ac,zt,ha.len,ub,ha.idx (show i<(u7 k n).length by rw[ub];exact hlt),Dd hlt,bJ]
  refine⟨ha.1,ha.1,fun _=>⟨⟨ha.1,by omega,by omega⟩,by omega,?_⟩,fun h=>by omega⟩
  refine ah (JX (k+i) (by omega)) ?_
  simp only[↓zq,zs,ac,zt]
  refine⟨fun h=>by simp at h,fun _=>?_⟩
  rw[bg i (by omega),bg (k+i) (by omega)]
  exact Jb a k n ha hn hk m (i+1) (by omega)
theorem Qy(a:AV)(k n:Nat)(ha:cc a (u7 k n))(hn:n<=2000000)(hk:k<=1000000):an Tryz.prog 60 [a,.v (.int .i64 (k:Int))] [] (bA (.v (.int .i64 ((k+n:Nat):Int)))):=by
 refine PQ _ _ ha.1 ?_
 unfold HV
 have:=Jb a k n ha hn hk n 0 (by omega)
 refine cr this ?_
 simp[↓zq,zs,ac,bA]
theorem LO(a b:AV)(l:List (List UInt8))(ha:cc a l)(hb:cc b l)(hl:l.length<=2000000):∀(m i:Nat),i+m=l.length->Eg [a,b,.v (.int .i64 (i:Int))] [] (gD 1 [] [])
 |
  0,i,hi=>by
  refine Ma _ _ _ ?_
  simp only[He,↓zq,zs,ac,ha.len]
  exact⟨ha.1,hb.1,ha.1,fun h=>by omega,fun _=>⟨rfl,rfl,rfl⟩⟩
 |
  m+1,i,hi=>by
  have hlt:i<l.length:=by omega
  refine Ma _ _ _ ?_
  simp only[He,↓zq,zs,ac,zt,ha.len,hb.len,ha.idx hlt,hb.idx hlt,bJ]
  refine⟨ha.1,hb.1,ha.1,fun _=>⟨⟨ha.1,by omega,by omega⟩,by omega,⟨hb.1,by omega,by omega⟩,by omega,fun h=>by simp at h,fun _=>?_⟩,fun h=>by omega⟩
  rw[bg i (by omega)]
  exact LO a b l ha hb hl m (i+1) (by omega)
theorem OJ(a b:AV)(l:List (List UInt8))(ha:cc a l)(hb:cc b l)(hl:l.length<=2000000):an Tryz.prog 49 [a,b] [] (bA (.v (.bool true))):=by
 refine Py _ _ ha.1 hb.1 ?_
 simp only[MH,↓zq,zs,ac,ha.len,hb.len]
 refine⟨ha.1,hb.1,fun h=>by simp at h,fun _=>?_⟩
 refine cr (LO a b l ha hb hl l.length 0 (by omega)) ?_
 simp[bA,↓zq,zs,ac]
end Go.Proofs.Trees
namespace Go.Proofs.Trees
open Go Go.VL Go.RowKit
abbrev tZ(s:Nm):Option (List Vl×Vl)->Nm×List Nm×Nm
 |some r=>(s,r.1.map (·.cK),r.2.cK)
 |none=>([],[],[])
def GZ(o:Option (List Vl×Vl)):Prop:=∀r,o=some r->(∀c,c∈r.1->c.cK.length<=900000)/\r.2.cK.length<=900000/\r.1.length<=51
theorem Cx.cK{a:Ty}{c:Vl}(h:Cx a c):c.cK.length<=900000:=by have:=iT c h.iu;have:=h.nd;omega
theorem Fo.cK{a:Ty}{c:Vl}(h:Fo a c):c.cK.length<=900000:=by have:=iT c h.iu;have:=h.nd;omega
theorem ZI.gz{a:Ty}{l:List Vl}{v:Vl}(h:ZI a l v)(hl:l.length<=51):GZ (some (l,v)):=fun r hr=>by
 cases hr;exact⟨fun c hc=>(h.BO c hc).cK,h.nM.cK,hl⟩
theorem GZ.none:GZ none:=fun r hr=>by cases hr
theorem LH(l:List Vl)(hl:l.length<=51)(ht:∀c,c∈l->c.cK.length<=900000)(s f:Nm):∀(k i:Nat) (out:List Nm),i+k=l.length->out.length<=i ->
 Ev [.sl (uq l),.v (.int .i64 (l.length:Int)),.v (.int .i64 (i:Int))] [.cells [.v (.string (mk [])),xl,.v (.string (mk []))],.cells [.v (.string (mk s)),.any,.v (.string (mk f))],.vec 1 (bj out)]
  (gD 1 [] [.cells [.v (.string (mk [])),xl,.v (.string (mk []))],.cells [.v (.string (mk s)),.any,.v (.string (mk f))],.vec 1 (bj (out++(l.drop i).map (·.cK)))])
 |
  0,i,out,hi,ho=>by
  refine KN _ _ _ _ _ _ _ _ _ ?_
  have:i=l.length:=by omega
  subst this
  simp only[Fm,↓zq,zs,ac,zt,ac,bp,List.drop_length]
  exact⟨fun h=>by omega,fun _=>by simp[gD]⟩
 |
  k+1,i,out,hi,ho=>by
  have hlt:i<l.length:=by omega
  refine KN _ _ _ _ _ _ _ _ _ ?_
  simp only[Fm,↓zq,zs,ac,zt,ac,bp,j3,tK hlt,aH,bJ]
  refine⟨fun _=>?_,fun h=>by omega⟩
  repeat refine⟨by omega,?_⟩
  refine ah (Du (l[i]) (ht _ (bx hlt))) ?_
  simp only[↓zq,zs,ac,zt,Ek,j6]
  refine⟨⟨fun c hc=>by simp at hc;rw[hc];rfl,by omega⟩,?_⟩
  rw[bg i (by omega),aK hlt,bE]
  have:=LH l hl ht s f k (i+1) (out++[(l[i]).cK]) (by omega) (by simp;omega)
  rw[aW]at this
  exact this
theorem On(s:Nm)(a:Ty)(o:Option (List Vl×Vl))(h:GZ o):an Tryz.prog 58 [oZ s a o] [] (cX (.cI [.agg [.v (.string (mk (tZ s o).1)),.vec 0,.v (.string (mk (tZ s o).2.2))],.v (.bool o.isSome)]) [.vec 1 (bj (tZ s o).2.1)]):=by
 refine Q0 _ (by rw[oY];trivial) ?_
 unfold Lf
 cases o with
 |
  none =>
  simp only[oZ,↓zq,zs,ac]
  exact⟨fun _=>⟨rfl,rfl⟩,fun h=>(by cases h)⟩
 |
  some r =>
  obtain⟨h1,h2,h3⟩:=h r rfl
  simp only[oZ,uv,↓zq,zs,ac,zt,aC,aH]
  refine⟨fun h=>(by cases h),fun _=>?_⟩
  repeat refine⟨by omega,?_⟩
  refine ah (Du r.2 h2) ?_
  simp only[↓zq,zs,ac,zt,aC,aH,j3]
  repeat refine⟨by omega,?_⟩
  have hlp:=LH r.1 h3 h1 s r.2.cK r.1.length 0 [] (by omega) (by simp)
  rw[aZ,aM]at hlp
  refine cr hlp ?_
  simp only[↓zq,zs,ac,zt,ac,bn,bp]
  exact⟨rfl,rfl⟩
theorem gM{s:Nm}{p:List Nm}{f:Nm}{l:List Vl}{v:Vl}(h:jl s p f=some (l,v)):yp s p f=some (l,v)/\(tG (zA s) l v).isSome=true:=by
 unfold jl at h
 obtain⟨r,h1,h2⟩:=bc.1 h
 split at h2
 ·rename_i hc
  cases h2
  exact⟨h1,hc⟩
 ·cases h2
abbrev ON(s:Nm)(o:Option (List Vl×Vl)):AV->List Ob->Prop:=cX (.cI [.agg [.v (.string (mk (tZ s o).1)),.vec 0,.v (.string (mk (tZ s o).2.2))],.v (.bool o.isSome)]) [.vec 1 (bj (tZ s o).2.1)]
end Go.Proofs.Trees
namespace Go.Proofs.Trees
open Go Go.VL Go.RowKit
def lA:E->Option E
 | .list [x,a,b]=>if x.at=[114,101,99]then some (.list [x,a,b])else none
 |_=>none
def nY(s:List UInt8):Option E:=match jt s with
 |some e=>lA e
 |none=>none
theorem EF(s:List UInt8):an Tryz.prog 88 [.v (.string (mk s))] [] (jP (nY s) (nY s).isSome):=by
 refine Pn _ ?_
 unfold NH
 refine bO (Jj s) (jP.ne _ _ (fun h=>h)) ?_
 rintro r o ⟨c,d,hd,rfl,hh⟩
 have hhas:bB [.str,.sl] [.v (.string (mk c)),d] 0:=by simp[bB,eg,hd]
 simp only[↓zq,zs,ac,zt]
 refine⟨hhas,fun h=>?_,fun h=>?_⟩
 ·obtain⟨e,he,hce⟩:=hh h
  obtain⟨t,h1,hA,h3,h4,h5,_⟩:=iE he
  have hce':=hce
  rw[dr]at hce'
  simp only[AV.agg.injEq,List.cons.injEq,AV.v.injEq,Value.string.injEq,and_true]at hce'
  obtain⟨hc1,rfl⟩:=hce'
  have hc2:=Ay hc1
  subst hc2
  have head:∀w:List UInt8,an Tryz.prog 121 [.agg [.v (.string (mk e.at)),e.sp]] [] (bA (.v (.string (mk w))))->(w=[114,101,99]↔(lA e).isSome=true)->((lA e).isSome=true->lA e=some e) ->
   eM Tryz.prog 18 (Tree.call 121 [.agg [.v (.string (mk e.at)),e.sp]] [] fun r2 o2=>Tree.al (LK.str.has r2) (Tree.done 0 [.cI [.agg [.v (.string (mk e.at)),e.sp],.v (.bool (ae r2.ai==[114,101,99]))]] [])) fun _ xs obs=>jP (nY s) (nY s).isSome (xs.headD .any) obs:=by
   intro w hw h1 h2
   refine ah hw ?_
   simp only[↓zq,zs,ac,zt]
   refine⟨e.at,e.sp,hd,?_,fun hs=>⟨e,?_,(dr e).symm⟩⟩
   ·congr 3
    simp only[nY,he,AV.v.injEq,Value.bool.injEq,List.cons.injEq,and_true]
    rw[cq];simpa using h1
   ·simp only[nY,he]at hs |-;exact h2 hs
  have hl:∀x l,e=.list (x::l)->an Tryz.prog 121 [.agg [.v (.string (mk e.at)),e.sp]] [] (bA (.v (.string (mk x.at)))):=by
   rintro x l rfl;exact uu x l
  have ha:∀s0,e=.atom s0->an Tryz.prog 121 [.agg [.v (.string (mk e.at)),e.sp]] [] (bA (.v (.string (mk [])))):=by
   rintro s0 rfl;exact Cc s0 _ ((bp).mpr trivial) hA.ok
  rcases gl hA.wf hA.ty with⟨hb,_⟩|⟨u,g,rfl,_,hg⟩
  ·rcases fC hA.ty hb hA.cl with⟨rfl,rfl⟩|⟨rfl,rfl⟩|⟨s0,rfl,rfl,hp,h0,h1⟩|⟨x,a,b,t1,t2,rfl,hx,rfl,ha',hbb⟩|⟨x,a,b,t1,t2,rfl,hx,rfl,ha',hbb⟩|⟨x,a,b,t1,rfl,hx,rfl⟩
   ·exact head _ (ha _ rfl) (by simp[lA]) (by simp[lA])
   ·exact head _ (ha _ rfl) (by simp[lA]) (by simp[lA])
   ·exact head _ (ha _ rfl) (by simp[lA]) (by simp[lA])
   ·exact head _ (hl _ _ rfl) (by simp[lA,hx]) (by simp[lA,hx])
   ·exact head _ (hl _ _ rfl) (by simp[lA,hx]) (by simp[lA,hx])
   ·exact head _ (hl _ _ rfl) (by simp[lA,hx]) (by simp[lA,hx])
  ·simp at hg
 ·have hn:jt s=none:=by cases hq:jt s<;>simp[hq]at h |-
  refine⟨c,d,hd,?_,fun h=>?_⟩
  ·simp[nY,hn]
  ·simp[nY,hn]at h
theorem AS(s:List UInt8):(nY s).isSome=(kl s).isSome:=by
 unfold nY kl
 cases h:jt s with
 |none=>rw[mH h];rfl
 |
  some e =>
  obtain⟨t,h1,hA,h3,h4,h5,_⟩:=iE h
  rw[h1]
  simp only
  rcases gl hA.wf hA.ty with⟨hb,_⟩|⟨u,g,rfl,_,hg⟩
  ·rcases fC hA.ty hb hA.cl with⟨rfl,rfl⟩|⟨rfl,rfl⟩|⟨s0,rfl,rfl,hp,h0,h1⟩|⟨x,a,b,t1,t2,rfl,hx,rfl,ha',hbb⟩|⟨x,a,b,t1,t2,rfl,hx,rfl,ha',hbb⟩|⟨x,a,b,t1,rfl,hx,rfl⟩<;>simp_all[lA]
  ·simp at hg
theorem LV.le{s v:List UInt8}{w:Vl}{a:Ty}{x A B:E}(h:LV s v w a x A B):nY s=some (.list [x,A,B]):=by
 unfold nY;rw[h.ce];simp[lA,h.hx]
theorem QL(n:Nat)(v:Vl)(x A B:E)(a:Ty)(hA:Ask B [.mk A.at (.list [x,A,B]) []] a)(hx:x.at=[114,101,99])(w:Vl)(hw:v=.f w)(hv:eK n v (.list [x,A,B],[])=true)(hl:v.nodes<90000) :
 an Tryz.prog 92 [.agg [.v (.string (mk B.at)),B.sp],.v (.string (mk A.at)),.agg [.v (.string (mk w.cH.at)),w.cH.sp]] [] (bA (.sl (lS (kids a v)))):=by
 subst hw
 obtain⟨w',e,hw'⟩:=tU .nil hx hv
 cases e
 simp only[Vl.nodes]at hl
 have hnm:names [Fr.mk A.at (.list [x,A,B]) []]=[]++[A.at]:=rfl
 have h:=DS n w.nodes w (aq _) B _ a hA hw' (by simp;omega) A.at (by rw[hnm];right;rw[e9];rfl)
 rw[hnm,vG]at h
 exact h
end Go.Proofs.Trees
namespace Go.Proofs.Trees
open Go Go.VL Go.RowKit
def OE(e:E)(s:List UInt8)(t:Ty)(c v:Vl):Prop:=an Tryz.prog 99 [.agg [.v (.string (mk e.at)),e.sp],.v (.string (mk s)),.agg [.v (.string (mk c.cH.at)),c.cH.sp],.agg [.v (.string (mk v.cH.at)),v.cH.sp]] [] (bA (.agg [.v (.string (mk (dB t c v).cH.at)),(dB t c v).cH.sp]))
theorem DJ:∀(m:Nat) (c:Vl),c.nodes<=m->∀(e:E) (env:List Fr) (t:Ty),Ask e env t->dM t c=true->∀(s:List UInt8) (v:Vl),OE e s t c v
 |0,c,hm=>by have:=dD c;omega
 |
  m+1,c,hm=>by
  intro e env t A hc s v
  unfold OE
  refine PF _ _ _ _ _ _ _ ((a6 _).mpr trivial) ((a6 _).mpr trivial) ((a6 _).mpr trivial) ?_
  have atomCase:∀s0,e=.atom s0->dB t c v=v->eM Tryz.prog 244 (Dg (mk e.at) e.sp (mk s) (mk c.cH.at) c.cH.sp (mk v.cH.at) v.cH.sp) fun _ xs obs=>bA (.agg [.v (.string (mk (dB t c v).cH.at)),(dB t c v).cH.sp]) (xs.headD .any) obs:=by
   rintro s0 rfl hp
   have hne:s0≠[]:=A.ok
   rw[hp]
   simp only[Dg,E.at,↓zq,zs,ac,zt,bA]
   exact⟨fun _=>trivial,fun h=>absurd h hne⟩
  have hvh:=Ah c
  rw[dr]at hvh
  rcases gl A.wf A.ty with⟨hb,hq⟩|⟨u,g,rfl,hq,hu⟩
  ·rcases fC A.ty hb A.cl with⟨rfl,rfl⟩|⟨rfl,rfl⟩|⟨s0,rfl,rfl,hp,h0,h1⟩|⟨x,a,b,t1,t2,rfl,hx,rfl,ha,hbb⟩|⟨x,a,b,t1,t2,rfl,hx,rfl,ha,hbb⟩|⟨x,a,b,t1,rfl,hx,rfl⟩
   ·exact atomCase _ rfl (rV _ _)
   ·exact atomCase _ rfl (u6 _ _)
   ·exact atomCase _ rfl (mQ _ _ _)
   ·obtain⟨ok1,ok2,ok3,_⟩:=A.ok
    obtain⟨f1,f2⟩:=fp A.cl
    have hP:=P3.of x a b
    have hH:an Tryz.prog 121 [.agg [.v (.string (mk [])),(E.list [x,a,b]).sp]] [] (bA (.v (.string (mk [43])))):=by rw[<-hx];exact uu x [a,b]
    rcases vD hc with⟨y,rfl,hy⟩|⟨y,rfl,hy⟩
    ·simp only[Vl.nodes]at hm
     have hW:=P2.of (.atom [108]) y.cH
     simp only[Vl.cH,bS]at hvh
     simp only[Dg,bS,Vl.cH,toNat_one,bi,↓zq,zs,ac,zt,hP.1,hP.2.1,hP.2.2.1,hP.2.2.2,hW.1,hW.2.1,hW.2.2,aQ]
     refine⟨fun h=>absurd rfl h,fun _=>?_⟩
     repeat refine⟨by omega,?_⟩
     refine ah hH ?_
     simp only[↓zq,zs,ac,zt]
     refine ah hvh ?_
     simp only[vh,↓zq,zs,ac,zt,a7,aM]
     refine⟨by simp[cw],fun _=>?_,fun h=>absurd rfl h⟩
     repeat refine⟨by omega,?_⟩
     refine ah (DJ m y (by omega) a env t1 ⟨ok2,A.wf,ha,f1⟩ hy s v) ?_
     simp only[↓zq,zs,ac,zt,aQ]
     repeat refine⟨by omega,?_⟩
     refine ah (zH _ _) ?_
     simp only[↓zq,zs,ac,zt,aQ]
     repeat refine⟨by omega,?_⟩
     exact⟨rfl,rfl⟩
    ·simp only[Vl.nodes]at hm
     have hW:=P2.of (.atom [114]) y.cH
     simp only[Vl.cH,bS]at hvh
     simp only[Dg,bS,Vl.cH,toNat_one,bi,↓zq,zs,ac,zt,hP.1,hP.2.1,hP.2.2.1,hP.2.2.2,hW.1,hW.2.1,hW.2.2,aQ]
     refine⟨fun h=>absurd rfl h,fun _=>?_⟩
     repeat refine⟨by omega,?_⟩
     refine ah hH ?_
     simp only[↓zq,zs,ac,zt]
     refine ah hvh ?_
     simp only[vh,↓zq,zs,ac,zt,a7,aM]
     refine⟨by simp[cw],fun h=>by simp at h,fun _=>⟨fun _=>?_,fun h=>absurd rfl h⟩⟩
     repeat refine⟨by omega,?_⟩
     refine ah (DJ m y (by omega) b env t2 ⟨ok3,A.wf,hbb,f2⟩ hy s v) ?_
     simp only[↓zq,zs,ac,zt,aQ]
     repeat refine⟨by omega,?_⟩
     refine ah (zH _ _) ?_
     simp only[↓zq,zs,ac,zt,aQ]
     repeat refine⟨by omega,?_⟩
     exact⟨rfl,rfl⟩
   ·obtain⟨ok1,ok2,ok3,_⟩:=A.ok
    obtain⟨f1,f2⟩:=eJ A.cl
    have hP:=P3.of x a b
    have hH:an Tryz.prog 121 [.agg [.v (.string (mk [])),(E.list [x,a,b]).sp]] [] (bA (.v (.string (mk [42])))):=by rw[<-hx];exact uu x [a,b]
    rcases sK hc with⟨y,z,rfl,hy⟩|⟨y,z,rfl,hy⟩
    ·simp only[Vl.nodes]at hm
     have hW:=P2.of (.atom [108]) (E.list [.atom [112],y.cH,z.cH])
     have hQ:=P3.of (.atom [112]) y.cH z.cH
     simp only[Vl.cH,bS]at hvh
     simp only[Dg,bS,Vl.cH,toNat_one,bi,↓zq,zs,ac,zt,hP.1,hP.2.1,hP.2.2.1,hP.2.2.2,hW.1,hW.2.1,hW.2.2,hQ.1,hQ.2.1,hQ.2.2.1,hQ.2.2.2,aQ]
     refine⟨fun h=>absurd rfl h,fun _=>?_⟩
     repeat refine⟨by omega,?_⟩
     refine ah hH ?_
     simp only[↓zq,zs,ac,zt]
     refine ah hvh ?_
     simp only[vh,↓zq,zs,ac,zt,a7,aM]
     refine⟨by simp[cw],fun h=>by simp at h,fun _=>⟨fun h=>by simp at h,fun _=>⟨fun _=>?_,fun h=>absurd rfl h⟩⟩⟩
     repeat refine⟨by omega,?_⟩
     refine ah (DJ m y (by omega) a env t1 ⟨ok2,A.wf,ha,f1⟩ hy s v) ?_
     simp only[↓zq,zs,ac,zt,aQ]
     repeat refine⟨by omega,?_⟩
     refine ah (w8 _ _ _) ?_
     simp only[↓zq,zs,ac,zt,aQ]
     repeat refine⟨by omega,?_⟩
     exact⟨rfl,rfl⟩
    ·simp only[Vl.nodes]at hm
     have hW:=P2.of (.atom [114]) (E.list [.atom [112],y.cH,z.cH])
     have hQ:=P3.of (.atom [112]) y.cH z.cH
     simp only[Vl.cH,bS]at hvh
     simp only[Dg,bS,Vl.cH,toNat_one,bi,↓zq,zs,ac,zt,hP.1,hP.2.1,hP.2.2.1,hP.2.2.2,hW.1,hW.2.1,hW.2.2,hQ.1,hQ.2.1,hQ.2.2.1,hQ.2.2.2,aQ]
     refine⟨fun h=>absurd rfl h,fun _=>?_⟩
     repeat refine⟨by omega,?_⟩
     refine ah hH ?_
     simp only[↓zq,zs,ac,zt]
     refine ah hvh ?_
     simp only[vh,↓zq,zs,ac,zt,a7,aM]
     refine⟨by simp[cw],fun h=>by simp at h,fun _=>⟨fun h=>by simp at h,fun _=>⟨fun h=>by simp at h,fun _=>⟨fun _=>?_,fun h=>absurd rfl h⟩⟩⟩⟩
     repeat refine⟨by omega,?_⟩
     refine ah (DJ m z (by omega) b env t2 ⟨ok3,A.wf,hbb,f2⟩ hy s v) ?_
     simp only[↓zq,zs,ac,zt,aQ]
     repeat refine⟨by omega,?_⟩
     refine ah (w8 _ _ _) ?_
     simp only[↓zq,zs,ac,zt,aQ]
     repeat refine⟨by omega,?_⟩
     exact⟨rfl,rfl⟩
   ·obtain⟨t1',he1,h1,f1,hw1⟩:=i6 A.wf A.ok hx A.ty A.cl
    cases he1
    obtain⟨ok1,ok2,ok3,_⟩:=A.ok
    have A':Ask b (.mk a.at (.list [x,a,b]) env::env) t1:=⟨ok3,hw1,h1,f1⟩
    have hP:=P3.of x a b
    have hH:an Tryz.prog 121 [.agg [.v (.string (mk [])),(E.list [x,a,b]).sp]] [] (bA (.v (.string (mk [114,101,99])))):=by rw[<-hx];exact uu x [a,b]
    rcases Bi hc with⟨y,rfl,hy⟩|⟨y,z,rfl,hy,hz⟩
    ·simp only[Vl.nodes]at hm
     have hW:=P2.of (.atom [102]) (E.list [.atom [108],y.cH])
     have hQ:=P2.of (.atom [108]) y.cH
     have hvi:=Ah (.l y)
     rw[dr]at hvi
     simp only[Vl.cH,bS]at hvh hvi
     simp only[Dg,bS,Vl.cH,toNat_one,bi,↓zq,zs,ac,zt,hP.1,hP.2.1,hP.2.2.1,hP.2.2.2,hW.1,hW.2.1,hW.2.2,hQ.1,hQ.2.1,hQ.2.2,aQ]
     refine⟨fun h=>absurd rfl h,fun _=>?_⟩
     repeat refine⟨by omega,?_⟩
     refine ah hH ?_
     simp only[↓zq,zs,ac,zt]
     refine ah hvh ?_
     simp only[vh,↓zq,zs,ac,zt,a7,aM]
     refine⟨by simp[cw],fun h=>by simp at h,fun _=>⟨fun h=>by simp at h,fun _=>⟨fun h=>by simp at h,fun _=>⟨fun h=>by simp at h,fun _=>?_⟩⟩⟩⟩
     repeat refine⟨by omega,?_⟩
     refine ah hvi ?_
     simp only[vh,↓zq,zs,ac,zt]
     refine⟨fun _=>?_,fun h=>absurd rfl h⟩
     repeat refine⟨by omega,?_⟩
     refine ah (DJ m y (by omega) b _ t1 A' hy s v) ?_
     simp only[↓zq,zs,ac,zt,aQ]
     repeat refine⟨by omega,?_⟩
     refine ah (zH _ _) ?_
     simp only[↓zq,zs,ac,zt,aQ]
     repeat refine⟨by omega,?_⟩
     exact⟨rfl,rfl⟩
    ·simp only[Vl.nodes]at hm
     have hW:=P2.of (.atom [102]) (E.list [.atom [114],E.list [.atom [112],y.cH,z.cH]])
     have hQ:=P2.of (.atom [114]) (E.list [.atom [112],y.cH,z.cH])
     have hR:=P3.of (.atom [112]) y.cH z.cH
     have hvi:=Ah (.r (.p y z))
     rw[dr]at hvi
     simp only[Vl.cH,bS]at hvh hvi
     simp only[Dg,bS,Vl.cH,toNat_one,bi,↓zq,zs,ac,zt,hP.1,hP.2.1,hP.2.2.1,hP.2.2.2,hW.1,hW.2.1,hW.2.2,hQ.1,hQ.2.1,hQ.2.2,hR.1,hR.2.1,hR.2.2.1,hR.2.2.2,aQ]
     refine⟨fun h=>absurd rfl h,fun _=>?_⟩
     repeat refine⟨by omega,?_⟩
     refine ah hH ?_
     simp only[↓zq,zs,ac,zt]
     refine ah hvh ?_
     simp only[vh,↓zq,zs,ac,zt,a7,aM]
     refine⟨by simp[cw],fun h=>by simp at h,fun _=>⟨fun h=>by simp at h,fun _=>⟨fun h=>by simp at h,fun _=>⟨fun h=>by simp at h,fun _=>?_⟩⟩⟩⟩
     repeat refine⟨by omega,?_⟩
     refine ah hvi ?_
     simp only[vh,↓zq,zs,ac,zt]
     refine⟨fun h=>by simp at h,fun _=>?_⟩
     repeat refine⟨by omega,?_⟩
     have i1:=DJ m z (by omega) (.list [x,a,b]) env (.rc t1) A hz s v
     unfold OE at i1
     simp only[bS]at i1
     refine ah i1 ?_
     simp only[↓zq,zs,ac,zt,aQ]
     repeat refine⟨by omega,?_⟩
     refine ah (DJ m y (by omega) b _ t1 A' hy a.at (dB (.rc t1) z v)) ?_
     simp only[↓zq,zs,ac,zt,aQ]
     repeat refine⟨by omega,?_⟩
     refine ah (zH _ _) ?_
     simp only[↓zq,zs,ac,zt,aQ]
     repeat refine⟨by omega,?_⟩
     exact⟨rfl,rfl⟩
  ·cases e with
   |atom s0=>exact atomCase _ rfl (rI _ _ _)
   |list l=>exact absurd hq (by rw[show (E.list l).at=[] from rfl,kS A.wf];simp)
end Go.Proofs.Trees
namespace Go.Proofs.Trees
open Go Go.VL Go.RowKit
abbrev Rv:Ob:=.cells [.v (.string (mk [])),.v (.slice none 0 0),.v (.string (mk []))]
theorem ZT.le{s d:Nm}{a:Ty}{x A B:E}{D:Ty}(z:ZT s d a x A B D):nY s=some (.list [x,A,B]):=by
 unfold nY;rw[z.ce];simp[lA,z.hx]
theorem tF(o:Option Nm):s6 o=.cI [.v (.string (mk (o.getD []))),.v (.bool o.isSome)]:=by cases o<;>rfl
theorem yN{a:Ty}{w v:Vl}(hw:Cx a w)(hv:Fo a v):(Vl.f (dB a w v)).cK.length<=900000:=by
 have h1:=iT (Vl.f (dB a w v)) (by exact rz 100 a w v hw.iu hv.iu)
 have h2:=rj a w v
 have:=hw.nd
 have:=hv.nd
 simp only[Vl.nodes]at h1
 omega
abbrev zj(a:Ty)(w v:Vl):Option Nm:=if(Vl.f (dB a w v)).nodes<=200 then some (Vl.f (dB a w v)).cK else none
theorem P9{s d:Nm}{a:Ty}{x A B:E}{D:Ty}(z:ZT s d a x A B D)(w v:Vl)(hw:ni d w.cK 100=some w)(hv:Fo a v):an Tryz.prog 73 [.v (.string (mk s)),.v (.string (mk w.cK)),.v (.string (mk v.cK))] [] (bA (s6 (zj a w v))):=by
 have hC:=z.BO hw
 have hv2:ni s v.cK 100=some v:=by rw[z.cK hv.iu hv.ty,if_pos hv.nd]
 refine N8 _ _ _ ?_
 unfold Md
 refine bO (EF s) (jP.ne _ _ (fun h=>h)) ?_
 rintro r o ⟨c,e,he,rfl,hh⟩
 rw[z.le]at hh
 obtain⟨e',he',hce⟩:=hh rfl
 cases he'
 rw[dr]at hce
 simp only[AV.agg.injEq,List.cons.injEq,AV.v.injEq,Value.string.injEq,and_true]at hce
 obtain⟨hc1,rfl⟩:=hce
 rw[z.le,hc1]
 simp only[↓zq,zs,ac,zt,aQ,bS]
 repeat refine⟨by omega,?_⟩
 refine ah (I7 s) ?_
 rw[tF,z.dl]
 simp only[↓zq,zs,ac,zt,a8,cD]
 refine⟨fun h=>by simp at h,fun _=>⟨fun h=>by simp at h,fun _=>?_⟩⟩
 refine ah (yZ d w.cK 100) ?_
 rw[hw]
 simp only[↓zq,zs,ac,a8]
 refine⟨fun h=>by simp at h,fun _=>?_⟩
 refine ah (yZ s v.cK 100) ?_
 rw[hv2]
 simp only[↓zq,zs,ac,a8]
 refine⟨fun h=>by simp at h,fun _=>?_⟩
 have hP:=P3.of x A B
 have rd:∀q:Vl,q.iu 100->q.nodes<=200->∀{Q:AV->List Ob->Prop},(∀o,Q (.cI [.agg [.v (.string (mk q.cH.at)),q.cH.sp],.v (.bool true)]) o)->∀r o,jP ((rM q.cK).map Vl.cH) (rM q.cK).isSome r o->Q r o:=by
  intro q hu hn Q hQ r o
  rw[ql hu hn]
  rintro⟨c,e,he,rfl,hh⟩
  obtain⟨e',he',hce⟩:=hh rfl
  cases he'
  rw[dr]at hce
  rw[hce]
  exact hQ o
 refine bO (BW w.cK) (jP.ne _ _ (fun h=>by simpa using h)) (rd w hC.iu hC.nd fun o=>?_)
 simp only[↓zq,zs,ac,zt,aQ]
 repeat refine⟨by omega,?_⟩
 refine bO (BW v.cK) (jP.ne _ _ (fun h=>by simpa using h)) (rd v hv.iu hv.nd fun o=>?_)
 simp only[toNat_one,bi,↓zq,zs,ac,zt,hP.1,hP.2.1,hP.2.2.1,hP.2.2.2,aQ,a6]
 repeat refine⟨by omega,?_⟩
 refine ah (DJ w.nodes w (aq _) B _ a z.body hC.ok A.at v) ?_
 simp only[↓zq,zs,ac,zt,aQ]
 repeat refine⟨by omega,?_⟩
 refine ah (zH _ _) ?_
 simp only[↓zq,zs,ac,zt,aQ]
 repeat refine⟨by omega,?_⟩
 have htx:=Cz (Vl.f (dB a w v)).cH (my _) (yN hC hv)
 rw[dr]at htx
 simp only[Vl.cH,bS]at htx
 refine ah htx ?_
 simp only[↓zq,zs,ac,zt]
 refine ah (yZ s (Vl.f (dB a w v)).cK 100) ?_
 rw[z.cK (w:=Vl.f (dB a w v)) (by exact rz 100 a w v hC.iu hv.iu) (hC.ty v hv.ty)]
 unfold zj
 by_cases hn:(Vl.f (dB a w v)).nodes<=200
 ·rw[if_pos hn,if_pos hn]
  simp only[↓zq,zs,ac,a8]
  exact⟨fun h=>by simp at h,fun _=>⟨rfl,rfl⟩⟩
 ·rw[if_neg hn,if_neg hn]
  simp only[↓zq,zs,ac,bq]
  exact⟨fun _=>⟨rfl,rfl⟩,fun h=>by simp at h⟩
theorem nC{d:Nm}:∀{p:List Nm} {l:List Vl},eB d p=some l->p=l.map (·.cK)->∀c,c∈l->ni d c.cK 100=some c
 |[],l,h,_,c,hc=>by cases h;cases hc
 |
  q::r,l,h,hp,c,hc=>by
  simp only[eB]at h
  split at h
  ·rename_i w l' h1 h2
   cases h
   simp only[bE,List.cons.injEq]at hp
   rcases aF.1 hc with rfl|hc
   ·rw[<-hp.1];exact h1
   ·exact nC h2 hp.2 c hc
  ·cases h
structure St(s d:Nm)(a:Ty)(l:List Vl)(v:Vl):Prop where
 z:∃x A B D,ZT s d a x A B D
 i:ZI a l v
 each:∀c,c∈l->ni d c.cK 100=some c
 len:l.length<=50
def yD(s:Nm)(pa:AV)(a:Ty)(l:List Vl)(v:Vl):AV:=match l.getLast? with
 |none=>.cI [.agg [.v (.string (mk s)),pa,.v (.string (mk v.cK))],.v (.bool false)]
 |some c=>.cI [.agg [.v (.string (mk s)),.sl (bj (l.dropLast.map (·.cK))),.v (.string (mk ((zj a c v).getD [])))],.v (.bool (zj a c v).isSome)]
theorem E1{s d:Nm}{a:Ty}{l:List Vl}{v:Vl}(h:St s d a l v)(pa:AV)(hp:cc pa (l.map (·.cK))):an Tryz.prog 43 [.agg [.v (.string (mk s)),pa,.v (.string (mk v.cK))]] [] (bA (yD s pa a l v)):=by
 refine O5 _ _ _ hp.1 ?_
 unfold NM
 have hlen:=h.len
 simp only[↓zq,zs,ac,zt,hp.len,bZ,j6]
 unfold yD
 refine⟨hp.1,fun h0=>?_,fun h0=>?_⟩
 ·have:l=[]:=bU (by omega)
  subst this
  exact⟨rfl,rfl⟩
 ·have hpos:0<l.length:=by omega
  have hne:l≠[]:=by rintro rfl;simp at hpos
  rw[wrap64 ((l.length:Int)-1) (by omega) (by omega)]
  have e1:((l.length:Int)-1).toNat=l.length-1:=by omega
  have hlt:l.length-1<(l.map (·.cK)).length:=by rw[bZ];omega
  have hlt':l.length-1<l.length:=by omega
  have hlast:l.getLast?=some (l[l.length-1]):=by rw[List.getLast?_eq_some_getLast hne,List.getLast_eq_getElem]
  rw[hlast]
  have hm:=bx hlt'
  have hg:(l.map (·.cK)).getD (l.length-1) []=(l[l.length-1]).cK:=by rw[aa,bf hlt,List.getElem_map];rfl
  obtain⟨x,A,B,D,z⟩:=h.z
  rw[e1,hp.idx hlt,hg]
  generalize l[l.length-1]=c at *
  simp only[↓zq,zs,ac,zt]
  refine⟨⟨hp.1,by omega⟩,by omega,?_⟩
  refine ah (P9 z c v (h.each c hm) h.i.nM) ?_
  rw[tF]
  simp only[↓zq,zs,ac,zt]
  refine⟨⟨hp.1,by omega⟩,⟨fun y hy=>?_,?_⟩,?_,rfl⟩
  ·rw[hp.2]at hy
   have:=List.mem_of_mem_take hy
   obtain⟨t,_,rfl⟩:=cf.1 this
   rfl
  ·rw[hp.2];simp[bj];omega
  ·have:pa.aN.take (l.length-1)=bj (l.dropLast.map (·.cK)):=by
    rw[hp.2,List.dropLast_eq_take,List.map_take];simp[bj,List.map_take]
   rw[this];rfl
theorem St.up{s d:Nm}{a:Ty}{l l':List Vl}{v w:Vl}(h:St s d a l v)(hu:pR a l v=some (l',w)):St s d a l' w:=by
 obtain⟨h1,h2,c,h3,_⟩:=qP h.i hu
 have hl:=h.len
 exact⟨h.z,h1,fun c' hc'=>h.each c' (by rw[h3];exact ay _ hc'),by omega⟩
theorem pk{s:Nm}{pa:AV}{a:Ty}{l l':List Vl}{v w:Vl}(hu:pR a l v=some (l',w)):yD s pa a l v=.cI [.agg [.v (.string (mk s)),.sl (bj (l'.map (·.cK))),.v (.string (mk w.cK))],.v (.bool true)]:=by
 unfold pR at hu
 unfold yD
 cases q:l.getLast? with
 |none=>rw[q]at hu;cases hu
 |
  some c =>
  rw[q]at hu
  simp only at hu |-
  unfold zj
  split at hu
  ·rename_i hn
   cases hu
   rw[if_pos hn];rfl
  ·cases hu
theorem zb{s:Nm}{pa:AV}{a:Ty}{l:List Vl}{v:Vl}(hpa:LK.sl.has pa)(hu:pR a l v=none):∃p f,LK.sl.has p/\yD s pa a l v=.cI [.agg [.v (.string (mk s)),p,.v (.string (mk f))],.v (.bool false)]:=by
 unfold pR at hu
 unfold yD
 cases q:l.getLast? with
 |none=>exact⟨_,_,hpa,rfl⟩
 |
  some c =>
  rw[q]at hu
  simp only at hu |-
  unfold zj
  split at hu
  ·cases hu
  ·rename_i hn
   rw[if_neg hn];exact⟨_,_,(ca _).mpr trivial,rfl⟩
def EJ(s:Nm)(o:Option Vl):Nat->List AV->List Ob->Prop:=fun k ys ob=>match o with
 |some w=>k=1/\ys=[]/\∃pa,LK.sl.has pa/\ob=[.cells [.v (.string (mk s)),pa,.v (.string (mk w.cK))],Rv]
 |none=>k=2/\ys=[.v (.bool false)]/\∃pa f,LK.sl.has pa/\ob=[.cells [.v (.string (mk s)),pa,.v (.string (mk f))]]
theorem Nu(s d:Nm)(a:Ty):∀(n:Nat) (l:List Vl) (v:Vl) (pa:AV),l.length=n->St s d a l v->cc pa (l.map (·.cK))->Ef [] [.cells [.v (.string (mk s)),pa,.v (.string (mk v.cK))],Rv] (EJ s (jV n a l v))
 |
  0,l,v,pa,hl,h,hp=>by
  refine KJ _ _ _ _ _ _ ?_
  simp only[Fp,↓zq,zs,ac,zt,ac,bp,hp.len,bZ,hl,jV]
  refine⟨hp.1,hp.1,fun h=>by omega,fun _=>?_⟩
  exact⟨rfl,rfl,pa,hp.1,rfl⟩
 |
  n+1,l,v,pa,hl,h,hp=>by
  refine KJ _ _ _ _ _ _ ?_
  simp only[Fp,↓zq,zs,ac,zt,ac,bp,hp.len,bZ,hl]
  refine⟨hp.1,hp.1,fun _=>?_,fun h=>by omega⟩
  refine ah (E1 h pa hp) ?_
  rw[jV]
  cases q:pR a l v with
  |
   none =>
   obtain⟨p',f',h1,h2⟩:=zb (s:=s) hp.1 q
   rw[h2]
   simp only[↓zq,zs,ac,zt,bB,bC]
   exact⟨h1,fun _=>⟨rfl,rfl,pa,v.cK,hp.1,rfl⟩,fun h=>by simp at h⟩
  |
   some r =>
   obtain⟨l',w⟩:=r
   obtain⟨_,hlen,_⟩:=qP h.i q
   rw[pk q]
   simp only[↓zq,zs,ac,zt,bB,aR,ca]
   refine⟨fun h=>by simp at h,fun _=>?_⟩
   exact Nu s d a n l' w _ (by omega) (h.up q) (cc.of _)
def CB(o:Option Vl):AV->List Ob->Prop:=fun r ob=>ob=[]/\∃c0 pa c2,LK.sl.has pa/\r=.cI [.agg [.v (.string c0),pa,.v (.string c2)],.v (.bool o.isSome)]/\∀w,o=some w->c2=mk w.cK
theorem CB.ne(o:Option Vl):∃r ob,CB o r ob:=⟨_,[],rfl,mk [],.sl [],mk ((o.map (·.cK)).getD []),(ca _).mpr trivial,rfl,fun w h=>by rw[h];rfl⟩
theorem Qj{s d:Nm}{a:Ty}{l:List Vl}{v:Vl}(h:St s d a l v)(pa:AV)(hp:cc pa (l.map (·.cK))):an Tryz.prog 70 [.agg [.v (.string (mk s)),pa,.v (.string (mk v.cK))]] [] (CB (tG a l v)):=by
 refine OA _ _ _ hp.1 ?_
 unfold Lm
 have hloop:=Nu s d a l.length l v pa rfl h hp
 refine kJ hloop (fun ys o e=>?_) (fun ys o e=>?_)
 ·unfold EJ at e
  unfold tG
  cases q:jV l.length a l v with
  |none=>rw[q]at e;exact absurd e.1 (by decide)
  |
   some w =>
   rw[q]at e
   obtain⟨_,rfl,p',h1,rfl⟩:=e
   simp only[↓zq,zs,ac,zt,ac,bp]
   exact⟨h1,rfl,_,_,_,h1,rfl,fun w' h=>by cases h;rfl⟩
 ·unfold EJ at e
  unfold tG
  cases q:jV l.length a l v with
  |some w=>rw[q]at e;exact absurd e.1 (by decide)
  |
   none =>
   rw[q]at e
   obtain⟨_,rfl,p',f',h1,rfl⟩:=e
   simp only[↓zq,zs,ac,zt,ac]
   exact⟨h1,rfl,_,_,_,h1,rfl,fun w' h=>by cases h⟩
theorem HO(s d f:Nm)(pa:AV)(p:List Nm)(hp:cc pa p)(hl:p.length<=50):∀(k i:Nat),i+k=p.length->FN [.v (.string (mk d)),.v (.int .i64 (i:Int))] [.cells [.v (.string (mk s)),pa,.v (.string (mk f))]] (nv (if(eB d (p.drop i)).isSome=true then(1,[],[])else(2,[.v (.bool false)],[])))
 |
  0,i,hi=>by
  refine Mg _ _ _ _ _ ?_
  have:i=p.length:=by omega
  subst this
  simp only[GX,↓zq,zs,ac,zt,ac,hp.len,List.drop_length]
  exact⟨hp.1,hp.1,fun h=>by omega,fun _=>rfl⟩
 |
  k+1,i,hi=>by
  have hlt:i<p.length:=by omega
  have hd:p.drop i=p.getD i []::p.drop (i+1):=by rw[aK hlt];simp[aa,hlt]
  refine Mg _ _ _ _ _ ?_
  simp only[GX,↓zq,zs,ac,zt,ac,hp.len,hp.idx hlt,bJ]
  refine⟨hp.1,hp.1,fun _=>⟨⟨hp.1,by omega,by omega⟩,by omega,?_⟩,fun h=>by omega⟩
  refine ah (yZ d (p.getD i []) 100) ?_
  rw[hd,eB]
  simp only[↓zq,zs,ac]
  cases q:ni d (p.getD i []) 100 with
  |
   none =>
   simp only[bq]
   exact⟨fun _=>rfl,fun h=>by simp at h⟩
  |
   some w =>
   simp only[a8]
   refine⟨fun h=>by simp at h,fun _=>?_⟩
   rw[bg i (by omega)]
   have ih:=HO s d f pa p hp hl k (i+1) (by omega)
   cases q2:eB d (p.drop (i+1))with
   |none=>rw[q2]at ih;exact ih
   |some l=>rw[q2]at ih;exact ih
theorem s4(s:Nm)(p:List Nm)(f:Nm):yp s p f=(cF s).bind fun d=>(kl s).bind fun _=>(ni s f 100).bind fun v=>if p.length<=50 then(eB d p).map fun l=>(l,v)else none:=by
 unfold yp pT
 cases kl s with
 |none=>cases cF s<;>rfl
 |some a=>cases ni s f 100<;>cases cF s<;>rfl
theorem Rn(s:Nm)(pa:AV)(p:List Nm)(hp:cc pa p)(f:Nm):an Tryz.prog 72 [.agg [.v (.string (mk s)),pa,.v (.string (mk f))]] [] (bA (.v (.bool (yp s p f).isSome))):=by
 refine PW _ _ _ hp.1 ?_
 unfold J2
 refine ah (I7 s) ?_
 rw[tF]
 simp only[↓zq,zs,ac,zt]
 refine bO (EF s) (jP.ne _ _ (fun h=>h)) ?_
 rintro r o ⟨c,e,he,rfl,_⟩
 rw[AS]
 simp only[↓zq,zs,ac,zt,bB,hp.len]
 rw[s4]
 refine⟨he,fun h=>?_,fun h=>⟨fun h'=>?_,fun h'=>⟨hp.1,fun h''=>?_,fun h''=>?_⟩⟩⟩
 ·have:cF s=none:=by cases q:cF s with|none=>rfl|some d=>simp[q]at h
  rw[this]
  exact⟨rfl,rfl⟩
 ·have:kl s=none:=by cases q:kl s with|none=>rfl|some d=>simp[q]at h'
  rw[this]
  cases cF s<;>exact⟨rfl,rfl⟩
 ·simp only[if_neg (show ¬p.length<=50 by omega)]
  exact⟨by cases cF s<;>cases kl s<;>cases ni s f 100<;>rfl,rfl⟩
 ·obtain⟨d,hd⟩:∃d,cF s=some d:=by cases q:cF s with|none=>simp[q]at h|some d=>exact⟨d,rfl⟩
  obtain⟨a,ha⟩:∃a,kl s=some a:=by cases q:kl s with|none=>simp[q]at h'|some d=>exact⟨d,rfl⟩
  rw[hd,ha]
  refine ah (yZ s f 100) ?_
  simp only[↓zq,zs,ac]
  cases q:ni s f 100 with
  |none=>simp only[bq];exact⟨fun _=>⟨rfl,rfl⟩,fun h=>by simp at h⟩
  |
   some v =>
   simp only[a8,cD,aR]
   refine⟨fun h=>by simp at h,fun _=>?_⟩
   have hl:p.length<=50:=by omega
   have hloop:=HO s d f pa p hp hl p.length 0 (by omega)
   rw[aZ]at hloop
   rw[if_pos hl]
   refine eX hloop (fun ys o e=>?_) (fun ys o e=>?_)
   ·cases q2:eB d p with
    |none=>rw[q2]at e;cases e
    |some l=>exact⟨rfl,rfl⟩
   ·cases q2:eB d p with
    |none=>rw[q2]at e;cases e;simp only[↓zq,zs,ac];exact⟨rfl,rfl⟩
    |some l=>rw[q2]at e;cases e
theorem Bb{s:Nm}{p:List Nm}{f:Nm}{l:List Vl}{v:Vl}(h:yp s p f=some (l,v)):∃d,St s d (zA s) l v/\p=l.map (·.cK)/\f=v.cK:=by
 obtain⟨d,a,x,A,B,D,z,hz,hp,hf,hl,hza,_,hr⟩:=qu h
 rw[hza]
 exact⟨d,⟨⟨x,A,B,D,z⟩,hz,nC hr hp,by rw[hp]at hl;simpa using hl⟩,hp,hf⟩
theorem Rf(s:Nm)(pa:AV)(p:List Nm)(hp:cc pa p)(f:Nm):an Tryz.prog 41 [.agg [.v (.string (mk s)),pa,.v (.string (mk f))]] [] (bA (.v (.bool (jl s p f).isSome))):=by
 refine Oy _ _ _ hp.1 ?_
 unfold No
 refine ah (Rn s pa p hp f) ?_
 simp only[↓zq,zs,ac]
 unfold jl
 cases q:yp s p f with
 |none=>simp only[bq];exact⟨fun _=>⟨rfl,rfl⟩,fun h=>by simp at h⟩
 |
  some r =>
  obtain⟨l,v⟩:=r
  obtain⟨d,hs,rfl,rfl⟩:=Bb q
  simp only[a8,aR]
  refine⟨fun h=>by simp at h,fun _=>?_⟩
  refine bO (Qj hs pa hp) (CB.ne _) ?_
  rintro r o ⟨rfl,c0,p',c2,h1,rfl,_⟩
  simp only[↓zq,zs,ac,zt,bB]
  refine⟨h1,?_,rfl⟩
  congr 2
  cases tG (zA s) l v<;>rfl
end Go.Proofs.Trees
namespace Go.Proofs.Trees
open Go Go.VL Go.RowKit
inductive Rl(x:Nm):Nat->Tg->Tg->Prop
 |nm (i):Rl x i (.nm x) (.bd i)
 |j4 (i s) (h:s≠x):Rl x i (.nm s) (.nm s)
 |bd (i j) (h:j≠i):Rl x i (.bd j) (.bd j)
theorem Rl.up{x:Nm}{i:Nat}{a b:Tg}(h:Rl x i a b):Rl x (i+1) a.up b.up:=by
 cases h with
 |nm=>exact .nm _
 |j4 s h=>exact .j4 _ _ h
 |bd j h=>exact .bd _ _ (by omega)
theorem Rl.at{x:Nm}{i:Nat}{a b:Tg}(h:Rl x i a b):∀t:Ty,bh x t=false->fI (dK (.name x) t i) a=fI t b
 |
  .bN k,_=>by
  simp only[dK]
  cases h with
  |
   nm =>
   by_cases e:k=i
   ·simp[e,fI]
   ·simp[e,fI]
  |
   j4 s h =>
   by_cases e:k=i
   ·simp[e,fI,Ne.symm h]
   ·simp[e,fI]
  |
   bd j h =>
   by_cases e:k=i
   ·simp[e,fI,Ne.symm h]
   ·simp[e,fI]
 |
  .name s,hn=>by
  have hs:s≠x:=by simpa[bh]using hn
  cases h with
  |nm=>simp[dK,fI,hs]
  |j4=>rfl
  |bd=>rfl
 | .plus _ _,_=>by cases h<;>rfl
 | .times _ _,_=>by cases h<;>rfl
 | .rc _,_=>by cases h<;>rfl
 | .zero,_=>by cases h<;>rfl
 | .one,_=>by cases h<;>rfl
theorem gO(x:Nm):∀(n:Nat) (t:Ty) (i:Nat) (a b:Tg) (v:Vl),bh x t=false->Rl x i a b->eA n (dK (.name x) t i) a v=eA n t b v
 |0,_,_,_,_,_,_,_=>rfl
 |
  n+1,t,i,a,b,v,hn,h=>by
  rw[eA,eA,h.at t hn]
  by_cases ht:fI t b=true
  ·rw[if_pos ht,if_pos ht]
  ·rw[if_neg ht,if_neg ht]
   cases t with
   |
    plus p q =>
    simp only[bh,cv]at hn
    cases v<;>simp only[dK,km,gO x n p i a b _ hn.1 h,gO x n q i a b _ hn.2 h]
   |
    times p q =>
    simp only[bh,cv]at hn
    cases v<;>simp only[dK,km,gO x n p i a b _ hn.1 h,gO x n q i a b _ hn.2 h]
   |
    rc p =>
    have h0:Rl x (i+1) (.bd 0) (.bd 0):=.bd _ _ (by omega)
    cases v<;>simp only[dK,km]
    rename_i w
    rw[gO x n p (i+1) a.up b.up w hn h.up,gO x n p (i+1) (.bd 0) (.bd 0) w hn h0]
    congr 1
    apply jI
    intro k _
    have:=gO x n (.rc p) i a b k.2 hn h
    simp only[dK]at this
    rw[this]
   |
    bN k =>
    simp only[dK]
    by_cases e:k=i
    ·rw[if_pos e];cases v<;>rfl
    ·rw[if_neg e];cases v<;>rfl
   |name s=>rfl
   |zero=>rfl
   |one=>rfl
theorem nB(x:Nm){t:Ty}{i:Nat}{a b:Tg}(v:Vl)(hn:bh x t=false)(h:Rl x i a b):cg (dK (.name x) t i) a v=cg t b v:=gO x _ t i a b v hn h
theorem l7(n:Nat):∀(m:Nat) (v:Vl),v.nodes<=m->∀(t:Ty) (s:Nm) (d:Ty) (σ:Nm->Option Ty),Dv t s d->B3 σ->jX t 0->vT n v (eZ σ t)=true->∀h,h∈cg t (.nm s) v ->
 vT n h.1 (eZ σ d)=true/\vT n h.2 (eZ σ (.name s))=true/\dB t h.1 h.2=v
 |0,v,hm=>by have:=dD v;omega
 |
  m+1,v,hm=>by
  intro t s d σ hd hσ hl hv h hh
  cases hd with
  |zero=>rw[dS rfl (by cases v<;>rfl)]at hh;cases hh
  |one=>rw[dS rfl (by cases v<;>rfl)]at hh;cases hh
  |bN=>rw[dS rfl (by cases v<;>rfl)]at hh;cases hh
  |qt hne=>rw[dS (by simp[fI,hne]) (by cases v<;>rfl)]at hh;cases hh
  |
   hit =>
   rw[ml v (by simp[fI])]at hh
   simp only[aP]at hh
   subst hh
   exact⟨rfl,hv,mQ _ _ _⟩
  |
   @plus a b _ a' b' h1 h2 _ =>
   rcases lF hv with⟨w,rfl,hw⟩|⟨w,rfl,hw⟩
   ·simp only[Vl.nodes]at hm
    rw[mF]at hh
    obtain⟨k,hk,rfl⟩:=dF hh
    obtain⟨q1,q2,q3⟩:=l7 n m w (by omega) _ s _ σ h1 hσ hl.1 hw k hk
    exact⟨q1,q2,congrArg Vl.l q3⟩
   ·simp only[Vl.nodes]at hm
    rw[mM]at hh
    obtain⟨k,hk,rfl⟩:=dF hh
    obtain⟨q1,q2,q3⟩:=l7 n m w (by omega) _ s _ σ h2 hσ hl.2 hw k hk
    exact⟨q1,q2,congrArg Vl.r q3⟩
  |
   @times a b _ a' b' h1 h2 _ =>
   obtain⟨x,y,rfl,hx,hy⟩:=jQ hv
   simp only[Vl.nodes]at hm
   rw[mG]at hh
   rcases aI.1 hh with hh|hh
   ·obtain⟨k,hk,rfl⟩:=dF hh
    obtain⟨q1,q2,q3⟩:=l7 n m x (by omega) _ s _ σ h1 hσ hl.1 hx k hk
    refine⟨?_,q2,congrArg (fun q=>Vl.p q y) q3⟩
    show (vT n k.1 (eZ σ a')&&vT n y (eZ σ b))=true
    rw[q1,hy];rfl
   ·obtain⟨k,hk,rfl⟩:=dF hh
    obtain⟨q1,q2,q3⟩:=l7 n m y (by omega) _ s _ σ h2 hσ hl.2 hy k hk
    refine⟨?_,q2,congrArg (Vl.p x) q3⟩
    show (vT n x (eZ σ a)&&vT n k.1 (eZ σ b'))=true
    rw[q1,hx];rfl
  |
   @rc a _ c0 d0 x hx hs h1 h2 hsz =>
   have lo:jX (dK (.name x) a 0) 0:=iJ x a hl
   obtain⟨X,e1,e2⟩:=qx (x:=x) hσ hl (h1.lc lo) (h2.lc lo)
   obtain⟨w,rfl,hw⟩:=CG hv
   simp only[Vl.nodes]at hm
   have hcl:=nO hσ x (kz hσ (.rc a) hl)
   have hop:eZ (jf σ x (eZ σ (.rc a))) (dK (.name x) a 0)=dK (eZ σ (.rc a)) (eZ σ a) 0:=ju hσ x _ a 0 hx
   have hns:eZ (jf σ x (eZ σ (.rc a))) (.name s)=eZ σ (.name s):=by simp only[eZ,jf,if_neg (Ne.symm hs)]
   have hnx:eZ (jf σ x (eZ σ (.rc a))) (.name x)=eZ σ (.rc a):=by simp[eZ,jf]
   have hw':vT n w (eZ (jf σ x (eZ σ (.rc a))) (dK (.name x) a 0))=true:=by rw[hop];exact hw
   have ty:∀y,vT n y (dK (.rc X) X 0)=true->vT n (.f y) (eZ σ (oR a x c0 d0))=true:=fun y hy=>by rw[e1];exact hy
   rw[mE]at hh
   rcases aI.1 hh with hh|hh
   ·obtain⟨k,hk,rfl⟩:=dF hh
    have hk':k∈cg (dK (.name x) a 0) (.nm s) w:=by rw[nB x w hx (.j4 0 s (Ne.symm hs))];exact hk
    obtain⟨q1,q2,q3⟩:=l7 n m w (by omega) _ s _ _ h1 hcl lo hw' k hk'
    rw[eV x k.1.nodes k.1 a 0 k.2 (aq _)]at q3
    refine⟨ty _ ?_,by rw[<-hns];exact q2,congrArg Vl.f q3⟩
    rw[e2];exact q1
   ·obtain⟨k,hk,hh⟩:=List.mem_flatMap.1 hh
    obtain⟨k2,hk2,rfl⟩:=dF hh
    have hk':k∈cg (dK (.name x) a 0) (.nm x) w:=by rw[nB x w hx (.nm 0)];exact hk
    obtain⟨q1,q2,q3⟩:=l7 n m w (by omega) _ x _ _ h2 hcl lo hw' k hk'
    rw[eV x k.1.nodes k.1 a 0 k.2 (aq _)]at q3
    rw[hnx]at q2
    have hsz2:=(ir hk).1
    obtain⟨r1,r2,r3⟩:=l7 n m k.2 (by omega) (.rc a) s _ σ (.rc x hx hs h1 h2 hsz) hσ hl q2 k2 hk2
    refine⟨ty _ ?_,r2,?_⟩
    ·rw[e2]
     show (vT n k.1 _&&vT n k2.1 _)=true
     rw[q1,r1];rfl
    ·show Vl.f (dB a k.1 (dB (.rc a) k2.1 k2.2))=.f w
     rw[r3,q3]
theorem Ch{n:Nat}{a D:Ty}{x:Nm}(hx:bh x a=false)(hl:jX (.rc a) 0)(h:oN a x=some D){v:Vl}(hv:vT n v (.rc a)=true){k:Hl}(hk:k∈kids a v) :
 vT n k.1 D=true/\vT n k.2 (.rc a)=true/\.f (dB a k.1 k.2)=v:=by
 simp only[oN,bc,cU,eT]at h
 obtain⟨d,hd,_,rfl⟩:=h
 have lo:jX (dK (.name x) a 0) 0:=iJ x a hl
 have hcl:=nO s5 x hl
 have e1:sub x (.rc a) d=eZ (jf Fv x (.rc a)) d:=by
  have:=iW Fv x (.rc a) d
  rw[jU,jU]at this;exact this
 obtain⟨w,rfl,hw⟩:=CG hv
 have hk':k∈cg (dK (.name x) a 0) (.nm x) w:=by rw[nB x w hx (.nm 0)];exact hk
 have hop:eZ (jf Fv x (.rc a)) (dK (.name x) a 0)=dK (.rc a) a 0:=by rw[ju s5 x _ a 0 hx,jU]
 obtain⟨q1,q2,q3⟩:=l7 n w.nodes w (aq _) _ x _ _ hd hcl lo (by rw[hop];exact hw) k hk'
 rw[eV x k.1.nodes k.1 a 0 k.2 (aq _)]at q3
 refine⟨by rw[e1];exact q1,?_,congrArg Vl.f q3⟩
 simpa[eZ,jf]using q2
theorem gN:∀{t:Ty},bW t=true->∃y,bh y t=true/\db y=true
 | .name s,h=>⟨s,by simp[bh],h⟩
 |
  .plus a b,h=>by
  simp only[bW,bw]at h
  rcases h with h|h
  ·obtain⟨y,h1,h2⟩:=gN h;exact⟨y,by simp[bh,h1],h2⟩
  ·obtain⟨y,h1,h2⟩:=gN h;exact⟨y,by simp[bh,h1],h2⟩
 |
  .times a b,h=>by
  simp only[bW,bw]at h
  rcases h with h|h
  ·obtain⟨y,h1,h2⟩:=gN h;exact⟨y,by simp[bh,h1],h2⟩
  ·obtain⟨y,h1,h2⟩:=gN h;exact⟨y,by simp[bh,h1],h2⟩
 |
  .rc a,h=>by
  obtain⟨y,h1,h2⟩:=gN (t:=a) h;exact⟨y,by simp[bh,h1],h2⟩
theorem gU:∀{t:Ty} {y:Nm},bh y t=true->db y=true->bW t=true
 |
  .name s,y,h,hl=>by
  have:s=y:=by simpa[bh]using h
  rw[this];exact hl
 |
  .plus a b,y,h,hl=>by
  simp only[bh,bw]at h
  simp only[bW,bw]
  exact h.imp (gU · hl) (gU · hl)
 |
  .times a b,y,h,hl=>by
  simp only[bh,bw]at h
  simp only[bW,bw]
  exact h.imp (gU · hl) (gU · hl)
 | .rc a,y,h,hl=>gU (t:=a) h hl
 | .zero,y,h,_=>by simp[bh]at h
 | .one,y,h,_=>by simp[bh]at h
 | .bN k,y,h,_=>by simp[bh]at h
theorem ZT.RT{s d:Nm}{a:Ty}{x A B:E}{D:Ty}(z:ZT s d a x A B D):∃e,jt d=some e/\Ask e [] D:=by
 have hcl:bW D=false:=by
  cases q:bW D with
  |false=>rfl
  |
   true =>
   obtain⟨y,h1,h2⟩:=gN q
   have:=gU (t:=.rc a) (sg z.lp y h1) h2
   rw[z.ask.cl]at this;cases this
 have hc:wb d=some D:=by unfold wb;rw[z.bk];simp only;rw[if_pos (by rw[sf,hcl];rfl)]
 cases q:jt d with
 |none=>rw[mH q]at hc;cases hc
 |
  some e =>
  obtain⟨t,h1,hA,_⟩:=iE q
  rw[hc]at h1;cases h1
  exact⟨e,rfl,hA⟩
theorem ZT.Rr{s d:Nm}{a:Ty}{x A B:E}{D:Ty}(z:ZT s d a x A B D){w:Vl}(hb:w.iu 100)(hv:vT 100 w D=true):ni d w.cK 100=if w.nodes<=200 then some w else none:=by
 obtain⟨e,he,hA⟩:=z.RT
 unfold ni
 rw[he]
 by_cases hn:w.nodes<=200
 ·rw[ql hb hn,if_pos hn]
  simp only
  rw[if_pos ⟨by omega,by rw[show (100:Int).toNat=100 from rfl,ot hA];exact hv⟩]
 ·rw[if_neg hn]
  cases q:rM w.cK with
  |none=>rfl
  |
   some w' =>
   exfalso
   obtain⟨_,h2,h3⟩:=lG q
   have:=xD hb h2 (qk q)
   rw[this]at hn;exact hn h3
theorem ZT.Rs{s d:Nm}{a:Ty}{x A B:E}{D:Ty}(z:ZT s d a x A B D){v:Vl}(hv:Fo a v){k:Hl}(hk:k∈kids a v):vT 100 k.1 D=true/\Fo a k.2/\.f (dB a k.1 k.2)=v:=by
 obtain⟨e2,he2,hw2,hte2,_,_⟩:=pz z.y
 have hlc:jX (.rc a) 0:=hte2 ▸ hw2.qL.1
 obtain⟨q1,q2,q3⟩:=Ch (wQ z.y) hlc z.lp hv.ty hk
 have:=xb hk
 have:=hv.nd
 exact⟨q1,⟨q2,(oM hv.iu hk).2,by omega⟩,q3⟩
def rN(a:Ty)(l:List Vl)(v:Vl)(k:Int):Option (List Vl×Vl) :=
 if l.length=50 then none else if 0<=k/\k.toNat<(kids a v).length then
  (if((kids a v).getD k.toNat (.u,.u)).1.nodes<=200 then some (l++[((kids a v).getD k.toNat (.u,.u)).1],((kids a v).getD k.toNat (.u,.u)).2)else none)else none
theorem vm{a:Ty}{l:List Vl}{c e v:Vl}(h:.f (dB a c e)=v)(hn:v.nodes<=200):pR a (l++[c]) e=some (l,v)/\tG a (l++[c]) e=tG a l v:=by
 have hu:pR a (l++[c]) e=some (l,v):=by
  unfold pR
  rw[List.getLast?_concat]
  simp only
  rw[h,if_pos hn,List.dropLast_concat]
 refine⟨hu,?_⟩
 unfold tG
 rw[ax,List.length_singleton,jV,hu]
 rfl
theorem zv{s d:Nm}{l:List Vl}{v:Vl}(hs:St s d (zA s) l v)(hd:cF s=some d)(hv:jl s (l.map (·.cK)) v.cK=some (l,v)){k:Hl}(hk:k∈kids (zA s) v) :
 jl s (l.map (·.cK)++[k.1.cK]) k.2.cK=if l.length=50 then none else if k.1.nodes<=200 then some (l++[k.1],k.2)else none:=by
 obtain⟨x,A,B,D,z⟩:=hs.z
 obtain⟨t1,t2,t3⟩:=z.Rs hs.i.nM hk
 have hb:=(oM hs.i.nM.iu hk).1
 have hz:=(gM hv).1
 have hclo:=(gM hv).2
 have hlen:=hs.len
 have hlp:eB d (l.map (·.cK))=some l:=by
  rw[s4,hd]at hz
  simp only[aR,z.l]at hz
  obtain⟨_,h1,h2⟩:=bc.1 hz
  split at h2
  ·obtain⟨l',h3,h4⟩:=Option.map_eq_some_iff.1 h2
   cases h4;exact h3
  ·cases h2
 have e1:ni s k.2.cK 100=some k.2:=by rw[z.cK t2.iu t2.ty,if_pos t2.nd]
 unfold jl
 rw[s4,hd]
 simp only[aR,z.l,e1,so,hlp,eB,z.Rr hb t1,ax,bZ,List.length_singleton]
 by_cases h50:l.length=50
 ·rw[if_neg (by omega),if_pos h50];rfl
 ·rw[if_pos (by omega),if_neg h50]
  by_cases hn:k.1.nodes<=200
  ·rw[if_pos hn,if_pos hn]
   simp only[cy,aR,(vm (l:=l) t3 hs.i.nM.nd).2]
   rw[if_pos hclo]
  ·rw[if_neg hn,if_neg hn];rfl
end Go.Proofs.Trees
namespace Go.Proofs.Trees
open Go Go.VL Go.RowKit
def vK(s:Nm)(o:Option (List Vl×Vl)):AV->List Ob->Prop:=fun r obs=>obs=[]/\∃pa,cc pa (tZ s o).2.1/\r=.cI [.agg [.v (.string (mk (tZ s o).1)),pa,.v (.string (mk (tZ s o).2.2))],.v (.bool o.isSome)]
theorem Fa(s:Nm){o:Option (List Vl×Vl)}(h:GZ o):(tZ s o).2.1.length<=51:=by
 cases o with
 |none=>simp
 |some r=>obtain⟨_,_,h3⟩:=h r rfl;simpa using h3
theorem vK.ne(s:Nm)(o:Option (List Vl×Vl)):∃r ob,vK s o r ob:=⟨_,[],rfl,_,cc.of _,rfl⟩
theorem vK.none(s:Nm):vK s none (.cI [.agg [.v (.string (mk [])),.v (.slice none 0 0),.v (.string (mk []))],.v (.bool false)]) []:=⟨rfl,_,cc.nil,rfl⟩
theorem tv{s:Nm}{p:List Nm}{f:Nm}{l:List Vl}{v:Vl}(h:jl s p f=some (l,v)):∃d,St s d (zA s) l v/\p=l.map (·.cK)/\f=v.cK:=Bb (gM h).1
theorem NY(s:Nm)(pa:AV)(p:List Nm)(hp:cc pa p)(f:Nm):an Tryz.prog 64 [.agg [.v (.string (mk s)),pa,.v (.string (mk f))]] [] (vK s (jl s p f)):=by
 refine Qe _ _ _ hp.1 ?_
 unfold J8
 refine ah (Rf s pa p hp f) ?_
 simp only[↓zq,zs,ac]
 cases q:jl s p f with
 |none=>simp only[bq];exact⟨fun _=>vK.none s,fun h=>by simp at h⟩
 |
  some r =>
  obtain⟨_,_,rfl,rfl⟩:=tv (l:=r.1) (v:=r.2) q
  simp only[a8]
  exact⟨fun h=>by simp at h,fun _=>⟨rfl,pa,hp,rfl⟩⟩
def ku(l:List Hl):List (List AV):=l.map fun h=>[.v (.string (mk h.1.cK)),.v (.string (mk h.2.cK))]
theorem jL(l:List Hl):(ku l).length=l.length:=by simp[ku]
theorem Kr(l:List Hl)(hl:l.length<=1000)(h1:∀h,h∈l->h.1.cK.length<=900000)(h2:∀h,h∈l->h.2.cK.length<=900000):∀(k i:Nat) (out:List Hl),i+k=l.length->out.length<=i ->
 FV [.sl (lS l),.v (.int .i64 (i:Int))] [.vec 2 (ku out)] (gD 1 [] [.vec 2 (ku (out++l.drop i))])
 |
  0,i,out,hi,ho=>by
  refine La _ _ _ ?_
  have:i=l.length:=by omega
  subst this
  simp only[GV,↓zq,zs,ac,fq,List.drop_length]
  exact⟨fun h=>by omega,fun _=>by simp[gD]⟩
 |
  k+1,i,out,hi,ho=>by
  have hlt:i<l.length:=by omega
  have hm:=bx hlt
  have t1:=Cz (l[i]).1.cH (my _) (h1 _ hm)
  have t2:=Cz (l[i]).2.cH (my _) (h2 _ hm)
  rw[dr]at t1 t2
  refine La _ _ _ ?_
  simp only[GV,↓zq,zs,ac,zt,fq,gB hlt,bB,a6]
  refine⟨fun _=>?_,fun h=>by omega⟩
  repeat refine⟨by omega,?_⟩
  refine ah t1 ?_
  simp only[↓zq,zs,ac,zt]
  repeat refine⟨by omega,?_⟩
  refine ah t2 ?_
  simp only[↓zq,zs,ac,zt,jL]
  refine⟨⟨fun c hc=>by simp at hc;rw[hc];rfl,by omega⟩,?_⟩
  rw[bg i (by omega),aK hlt]
  have:=Kr l hl h1 h2 k (i+1) (out++[l[i]]) (by omega) (by simp;omega)
  rw[aW]at this
  simpa[ku]using this
theorem Ov(l:List Hl)(hl:l.length<=1000)(h1:∀h,h∈l->h.1.cK.length<=900000)(h2:∀h,h∈l->h.2.cK.length<=900000):an Tryz.prog 91 [.sl (lS l)] [] (bA (.sl (ku l))):=by
 refine O3 _ ((ca _).mpr trivial) ?_
 unfold MU
 refine cr (Kr l hl h1 h2 l.length 0 [] (by omega) (by simp)) ?_
 simp only[↓zq,zs,ac]
 exact⟨rfl,rfl⟩
theorem qG{a:Ty}{v:Vl}(h:Fo a v){k:Hl}(hk:k∈kids a v):k.1.cK.length<=900000/\k.2.cK.length<=900000:=by
 obtain⟨b1,b2⟩:=oM h.iu hk
 have h1:=iT _ b1
 have h2:=iT _ b2
 have h3:=xb hk
 have h4:=h.nd
 have h5:k.1.nodes<=4*v.nodes:=by
  cases v with
  |f w=>have:=(ir hk).2;simp only[Vl.nodes];omega
  |_=>cases hk
 omega
theorem Kf{s d:Nm}{a:Ty}{x A B:E}{D:Ty}(z:ZT s d a x A B D)(v:Vl)(hv:Fo a v):an Tryz.prog 69 [.v (.string (mk s)),.v (.string (mk v.cK))] [] (bA (.cI [.sl (ku (kids a v)),.v (.bool true)])):=by
 have hv2:ni s v.cK 100=some v:=by rw[z.cK hv.iu hv.ty,if_pos hv.nd]
 have hP:=P3.of x A B
 have hn:=hv.nd
 obtain⟨v0,hv0,_⟩:=tU .nil z.hx (hv.eK z)
 have hkids:=QL 100 v x A B a z.body z.hx v0 hv0 (hv.eK z) (by omega)
 have hV:=P2.of (.atom [102]) v0.cH
 refine Pg _ _ ?_
 unfold Nl
 refine bO (EF s) (jP.ne _ _ (fun h=>h)) ?_
 rintro r o ⟨c,e,he,rfl,hh⟩
 rw[z.le]at hh
 obtain⟨e',he',hce⟩:=hh rfl
 cases he'
 rw[dr]at hce
 rw[hce,z.le]
 simp only[↓zq,zs,ac,zt,aQ,bS]
 repeat refine⟨by omega,?_⟩
 refine bO (BW v.cK) (jP.ne _ _ (fun h=>by simpa using h)) ?_
 rw[ql hv.iu hn]
 rintro r o ⟨c,e,he,rfl,hh⟩
 obtain⟨e',he',hce⟩:=hh rfl
 cases he'
 rw[dr]at hce
 rw[hce]
 simp only[↓zq,zs,ac,zt,aQ,a8]
 repeat refine⟨by omega,?_⟩
 refine⟨fun h=>by simp at h,fun _=>?_⟩
 refine ah (yZ s v.cK 100) ?_
 rw[hv2,hv0]
 simp only[toNat_one,bi,Vl.cH,bS,↓zq,zs,ac,zt,hP.1,hP.2.1,hP.2.2.1,hP.2.2.2,hV.1,hV.2.1,hV.2.2,aQ,a6,a8]
 refine⟨fun h=>by simp at h,fun _=>?_⟩
 repeat refine⟨by omega,?_⟩
 refine ah hkids ?_
 simp only[↓zq,zs,ac]
 repeat refine⟨by omega,?_⟩
 have hlen:=pf a v
 have:=mi (kids a v)
 refine ah (Ov (kids a v) (by omega) (fun h hh=>(qG hv hh).1) (fun h hh=>(qG hv hh).2)) ?_
 rw[<-hv0]
 simp only[↓zq,zs,ac]
 exact⟨rfl,rfl⟩
end Go.Proofs.Trees
namespace Go.Proofs.Trees
open Go Go.VL Go.RowKit
theorem u9{a:Ty}{l l':List Vl}{v w:Vl}{k:Int}(h:rN a l v k=some (l',w)):∃q,q∈kids a v/\l'=l++[q.1]/\w=q.2/\q.1.nodes<=200/\l.length≠50/\0<=k/\(kids a v)[k.toNat]?=some q:=by
 unfold rN at h
 split at h
 ·cases h
 ·rename_i h0
  split at h
  ·rename_i h1
   split at h
   ·rename_i h2
    cases h
    have e:(kids a v).getD k.toNat (.u,.u)=(kids a v)[k.toNat]'h1.2:=by simp[aa,h1.2]
    rw[e]at h2 |-
    exact⟨_,bx _,rfl,rfl,h2,h0,h1.1,by simp[h1.2]⟩
   ·cases h
  ·cases h
theorem St.dn{s d:Nm}{a:Ty}{l l':List Vl}{v w:Vl}{k:Int}(h:St s d a l v)(hu:rN a l v k=some (l',w)):St s d a l' w/\pR a l' w=some (l,v)/\l'.length=l.length+1:=by
 obtain⟨q,hq,rfl,rfl,hn,h50,_,_⟩:=u9 hu
 obtain⟨x,A,B,D,z⟩:=h.z
 obtain⟨t1,t2,t3⟩:=z.Rs h.i.nM hq
 have hv:ni d q.1.cK 100=some q.1:=by rw[z.Rr (oM h.i.nM.iu hq).1 t1,if_pos hn]
 have hlen:=h.len
 refine⟨⟨⟨x,A,B,D,z⟩,⟨fun c hc=>?_,t2⟩,fun c hc=>?_,by simp;omega⟩,(vm t3 h.i.nM.nd).1,by simp⟩
 ·rcases aI.1 hc with hc|hc
  ·exact h.i.BO c hc
  ·simp only[aP]at hc;subst hc;exact z.BO hv
 ·rcases aI.1 hc with hc|hc
  ·exact h.each c hc
  ·simp only[aP]at hc;subst hc;exact hv
theorem OO{s d:Nm}{a:Ty}{l:List Vl}{v:Vl}(h:St s d a l v)(k:Int):an Tryz.prog 59 [uv s a l v,.v (.int .i64 k)] [] (bA (oZ s a (rN a l v k))):=by
 obtain⟨x,A,B,D,z⟩:=h.z
 have hnd:=h.i.nM.nd
 have hlen:=h.len
 refine PD _ _ ((bV _).mpr trivial) ?_
 simp only[Lu,uv,↓zq,zs,ac,j3,aH,aC]
 refine⟨fun h=>(by cases h),fun _=>?_⟩
 repeat refine⟨by first|trivial|omega,?_⟩
 unfold rN
 refine⟨fun h5=>?_,fun h5=>?_⟩
 ·rw[if_pos (by omega)];exact⟨rfl,rfl⟩
 ·rw[if_neg (by omega)]
  repeat refine⟨by first|trivial|omega,?_⟩
  refine ah (Ke 100 v x A B a z.body z.hx (h.i.nM.eK z) (by omega)) ?_
  have hkl:(gJ (kids a v)).length=(kids a v).length:=by simp[gJ]
  simp only[↓zq,zs,ac,hkl]
  refine⟨fun h0=>?_,fun h0=>⟨fun h1=>?_,fun h1=>?_⟩⟩
  ·rw[if_neg (by omega)];exact⟨rfl,rfl⟩
  ·rw[if_neg (by omega)];exact⟨rfl,rfl⟩
  ·have hlt:k.toNat<(kids a v).length:=by omega
   rw[if_pos ⟨by omega,hlt⟩]
   have hg:(gJ (kids a v)).getD k.toNat []=[((kids a v)[k.toNat]).1.cx,((kids a v)[k.toNat]).2.cx]:=by simp[gJ,aa,hlt]
   have hg2:(kids a v).getD k.toNat (.u,.u)=(kids a v)[k.toNat]:=by simp[aa,hlt]
   have hm:=bx hlt
   rw[hg2]
   have hctx:((kids a v)[k.toNat]).1.nodes<=4*v.nodes:=by
    cases v with
    |f w=>have:=(ir hm).2;simp only[Vl.nodes];omega
    |_=>simp[kids]at hlt
   generalize (kids a v)[k.toNat]=q at *
   simp only[hg,↓zq,zs,ac,aH]
   repeat refine⟨by first|trivial|omega,?_⟩
   refine ah (D1 q.1 (by omega)) ?_
   simp only[↓zq,zs,ac,aH,aC,zt]
   refine⟨fun hb=>?_,fun hb=>?_⟩
   ·rw[if_neg (by omega)];exact⟨rfl,rfl⟩
   ·rw[if_pos (by omega)]
    repeat refine⟨by first|trivial|omega,?_⟩
    refine⟨⟨fun c hc=>?_,by simp[uq];omega⟩,?_⟩
    ·simp only[uq,cf]at hc
     obtain⟨y,_,rfl⟩:=hc;rfl
    repeat refine⟨by first|trivial|omega,?_⟩
    refine⟨⟨fun c hc=>by simp at hc;rw[hc];rfl,by simp[uq];omega⟩,?_⟩
    repeat refine⟨by first|trivial|omega,?_⟩
    refine⟨?_,rfl⟩
    simp only[oZ,uv,aM,xg]
noncomputable def wW (s:Nm) (p:List Nm) (f:Nm) (k:Int):Option (List Vl×Vl):=(jl s p f).bind fun r=>rN (zA s) r.1 r.2 k
theorem St.gz{s d:Nm}{a:Ty}{l:List Vl}{v:Vl}(h:St s d a l v):GZ (some (l,v)):=h.i.gz (by have:=h.len;omega)
theorem PP(pa:AV)(p:List Nm)(hp:cc pa p)(c:Nm)(hl:p.length<=1000000):an Tryz.prog 79 [pa,.v (.string (mk c))] [] (bA (.sl (bj (p++[c])))):=by
 refine MV _ _ hp.1 ?_
 simp only[Ha,↓zq,zs,ac,zt]
 have hpl:pa.aN.length=p.length:=hp.len
 refine⟨⟨hp.1,fun y hy=>?_,by simp;omega⟩,⟨fun y hy=>by simp at hy;rw[hy];rfl,by simp;omega⟩,?_,rfl⟩
 ·rw[hp.2]at hy
  obtain⟨t,_,rfl⟩:=cf.1 hy
  rfl
 ·rw[hp.2];simp[bj]
theorem qB{l:List Hl}{i:Nat}(h:i<l.length):(ku l).getD i []=[.v (.string (mk (l[i]).1.cK)),.v (.string (mk (l[i]).2.cK))]:=by simp[ku,aa,h]
theorem wH{s:Nm}{p:List Nm}{f:Nm}{r:List Vl×Vl}(h:yp s p f=some r):∃d,cF s=some d/\St s d (zA s) r.1 r.2/\p=r.1.map (·.cK)/\f=r.2.cK:=by
 obtain⟨d,a,x,A,B,D,z,hz,hp,hf,hl,hza,_,hr⟩:=qu (l:=r.1) (v:=r.2) h
 rw[hza]
 exact⟨d,z.dl,⟨⟨x,A,B,D,z⟩,hz,nC hr hp,by rw[hp]at hl;simpa using hl⟩,hp,hf⟩
theorem DG{s d:Nm}{l:List Vl}{v:Vl}(hs:St s d (zA s) l v)(hd:cF s=some d)(hv:jl s (l.map (·.cK)) v.cK=some (l,v)){k:Int}(h0:0<=k)(hk:k.toNat<(kids (zA s) v).length) :
 jl s (l.map (·.cK)++[((kids (zA s) v)[k.toNat]).1.cK]) ((kids (zA s) v)[k.toNat]).2.cK=rN (zA s) l v k:=by
 rw[zv hs hd hv (bx hk)]
 unfold rN
 by_cases h5:l.length=50
 ·rw[if_pos h5,if_pos h5]
 ·rw[if_neg h5,if_neg h5,if_pos (show 0<=k/\k.toNat<(kids (zA s) v).length from ⟨h0,hk⟩)]
  have hg2:(kids (zA s) v).getD k.toNat (.u,.u)=(kids (zA s) v)[k.toNat]:=by simp[aa,hk]
  rw[hg2]
theorem Ok(s:Nm)(pa:AV)(p:List Nm)(hp:cc pa p)(f:Nm)(k:Int):an Tryz.prog 57 [.agg [.v (.string (mk s)),pa,.v (.string (mk f))],.v (.int .i64 k)] [] (vK s (wW s p f k)):=by
 refine QK _ _ _ _ hp.1 ?_
 unfold IG
 refine ah (Rf s pa p hp f) ?_
 simp only[↓zq,zs,ac]
 unfold wW
 cases q:jl s p f with
 |none=>simp only[bq];exact⟨fun _=>vK.none s,fun h=>by simp at h⟩
 |
  some r =>
  obtain⟨l,v⟩:=r
  obtain⟨d,hd,hs,rfl,rfl⟩:=wH (gM q).1
  obtain⟨x,A,B,D,z⟩:=hs.z
  have hlen:l.length<=50:=hs.len
  have hnd:v.nodes<=200:=hs.i.nM.nd
  have hks:=pf (zA s) v
  have hks2:=mi (kids (zA s) v)
  simp only[a8,aR]
  refine⟨fun h=>by simp at h,fun _=>?_⟩
  refine ah (Kf z v hs.i.nM) ?_
  simp only[↓zq,zs,ac,jL]
  rw[wrap64 (((kids (zA s) v).length:Int)-1) (by omega) (by omega)]
  refine ah (yr k 0 _) ?_
  rw[show wS k 0 (((kids (zA s) v).length:Int)-1)=decide (0<=k/\k<=((kids (zA s) v).length:Int)-1) by rw[cq];simp[wS]]
  simp only[↓zq,zs,ac,jL]
  by_cases hin:0<=k/\k<=((kids (zA s) v).length:Int)-1
  ·have hlt:k.toNat<(kids (zA s) v).length:=by omega
   refine⟨fun h=>(by exfalso;first|omega|(simp at h;omega)),fun _=>?_⟩
   simp only[qB hlt,↓zq,zs,ac,zt]
   repeat refine⟨by first|trivial|omega,?_⟩
   refine ah (PP pa _ hp _ (by simp;omega)) ?_
   simp only[↓zq,zs,ac,zt]
   repeat refine⟨by first|trivial|omega,?_⟩
   refine bO (NY s _ _ (cc.of _) _) (vK.ne _ _) ?_
   rw[DG hs hd q hin.1 hlt]
   rintro r o ⟨rfl,pa',hp',rfl⟩
   simp only[↓zq,zs,ac,zt,bB]
   exact⟨hp'.1,rfl,pa',hp',rfl⟩
  ·refine⟨fun _=>?_,fun h=>(by exfalso;first|omega|(simp at h;omega))⟩
   have:rN (zA s) l v k=none:=by
    unfold rN
    by_cases h5:l.length=50
    ·rw[if_pos h5]
    ·rw[if_neg h5,if_neg (by omega)]
   rw[this]
   exact vK.none s
end Go.Proofs.Trees
namespace Go.Proofs.Trees
open Go Go.VL Go.RowKit
theorem Jc(x:AV)(l:List (List UInt8))(hx:cc x l)(hl:l.length<=2000000):∀(m i:Nat) (q:List (List UInt8)),i+m=l.length->q.length=l.length->Et [x,.v (.int .i64 (i:Int))] [.vec 1 (bj q)] (gD 1 [] [.vec 1 (bj (q.take i++l.drop i))])
 |
  0,i,q,hi,hq=>by
  refine JQ _ _ _ ?_
  simp only[FU,↓zq,zs,ac,hx.len]
  refine⟨hx.1,hx.1,fun h=>by omega,fun _=>?_⟩
  rw[List.drop_of_length_le (by omega),cE,List.take_of_length_le (by omega)]
  exact⟨rfl,rfl,rfl⟩
 |
  m+1,i,q,hi,hq=>by
  have hlt:i<l.length:=by omega
  have hlq:i<q.length:=by omega
  refine JQ _ _ _ ?_
  simp only[FU,↓zq,zs,ac,zt,hx.len,hx.idx hlt,bJ,nA,ry hlq]
  refine⟨hx.1,hx.1,fun _=>⟨⟨hx.1,by omega,by omega⟩,by omega,⟨by omega,by omega⟩,⟨hlq,by omega⟩,?_⟩,fun h=>by omega⟩
  rw[bg i (by omega)]
  have:=Jc x l hx hl m (i+1) (q.set i (l.getD i [])) (by omega) (by simpa using hq)
  have e:(q.set i (l.getD i [])).take (i+1)++l.drop (i+1)=q.take i++l.drop i:=by
   rw[List.take_succ_eq_append_getElem (by simpa using hlq),List.take_set_of_le (aq _),aK hlt]
   simp[aa,hlt]
  rw[e]at this
  exact this
theorem Pp(x:AV)(l:List (List UInt8))(hx:cc x l)(hl:l.length<=2000000):an Tryz.prog 44 [x] [] (cX (.vec 0) [.vec 1 (bj l)]):=by
 refine OM _ hx.1 ?_
 simp only[LR,↓zq,zs,ac,hx.len]
 refine⟨hx.1,⟨by omega,by omega⟩,?_⟩
 have:=Jc x l hx hl l.length 0 (List.replicate l.length []) (by omega) (by simp)
 rw[List.take_zero,aZ,aM]at this
 have e:bj (List.replicate l.length [])=List.replicate l.length [.v (.string (mk []))]:=by simp[bj]
 rw[e]at this
 rw[bJ]
 refine cr this ?_
 simp[↓zq,zs,ac,cX,Ob.es]
theorem P1(s f:(List UInt8))(x:AV)(l:List (List UInt8))(hx:cc x l)(hl:l.length<=2000000):an Tryz.prog 11 [.agg [.v (.string (mk s)),x,.v (.string (mk f))]] [] (cX (.agg [.v (.string (mk s)),.vec 0,.v (.string (mk f))]) [.vec 1 (bj l)]):=by
 refine OH _ _ _ hx.1 ?_
 unfold Mu
 refine aT (Pp x l hx hl) ?_
 simp only[↓zq,zs,ac,zt,Ob.es,aS]
 exact⟨fU _,rfl,rfl⟩
theorem Jx(s f:(List UInt8))(x y:AV)(l:List (List UInt8))(hx:cc x l)(hy:cc y l)(hl:l.length<=2000000):an Tryz.prog 14 [.agg [.v (.string (mk s)),x,.v (.string (mk f))],.agg [.v (.string (mk s)),y,.v (.string (mk f))]] [] (bA (.v (.bool true))):=by
 refine QO _ _ _ _ _ _ hx.1 hy.1 ?_
 simp only[M3,↓zq,zs,ac,zt]
 refine⟨fun h=>by simp at h,fun _=>?_⟩
 refine ah (OJ x y l hx hy hl) ?_
 simp[↓zq,zs,ac,zt,bA]
theorem Ls(s f:(List UInt8))(k:Nat)(l:List (List UInt8))(hl:l.length<=2000000)(hk:k<=1000000):an Tryz.prog 15 [.agg [.v (.string (mk s)),.vec 0,.v (.string (mk f))],.v (.int .i64 (k:Int))] [.vec 1 (bj l)] (cX (.v (.int .i64 ((k+l.length:Nat):Int))) [.jk 1 (bj (u7 k l.length))]):=by
 refine Qd _ _ _ _ ?_
 unfold Mj
 refine aT (Ph k l hl hk) ?_
 simp[↓zq,zs,ac,cX,Ob.es]
theorem Px(s f:(List UInt8))(a:AV)(k n:Nat)(ha:cc a (u7 k n))(hn:n<=2000000)(hk:k<=1000000):an Tryz.prog 25 [.agg [.v (.string (mk s)),a,.v (.string (mk f))],.v (.int .i64 (k:Int))] [] (bA (.v (.int .i64 ((k+n:Nat):Int)))):=by
 refine Ra _ _ _ _ ha.1 ?_
 unfold HM
 refine ah (Qy a k n ha hn hk) ?_
 simp only[↓zq,zs,ac,zt]
 exact⟨fun h=>by omega,fun _=>⟨rfl,rfl⟩⟩
def HG(n:Nat):AV->List Ob->Prop:=fun r o=>∃x:Int,r=.v (.int .i64 x)/\(0<=x->n<=1048576)
theorem HG.ne(n:Nat):∃r o,HG n r o:=⟨_,[],-1,rfl,fun h=>by omega⟩
theorem I8(x:AV)(l:List (List UInt8))(hx:cc x l)(hl:l.length<=1048576):∀(m i:Nat) (n:Int),i+m=l.length->En [x,.v (.int .i64 n),.v (.int .i64 (i:Int))] [] (fun t ys o=>(t=1\/t=2)/\∃y:Int,ys=[.v (.int .i64 y)])
 |
  0,i,n,hi=>by
  refine Mk _ _ _ ?_
  simp only[Hr,↓zq,zs,ac,hx.len]
  exact⟨hx.1,hx.1,fun h=>by omega,fun _=>⟨.inl (by first|rfl|trivial),_,rfl⟩⟩
 |
  m+1,i,n,hi=>by
  have hlt:i<l.length:=by omega
  refine Mk _ _ _ ?_
  simp only[Hr,↓zq,zs,ac,zt,hx.len,hx.idx hlt,bJ]
  refine⟨hx.1,hx.1,fun _=>⟨⟨hx.1,by omega,by omega⟩,by omega,fun _=>⟨.inr (by first|rfl|trivial),_,rfl⟩,fun _=>?_⟩,fun h=>by omega⟩
  rw[bg i (by omega)]
  exact I8 x l hx hl m (i+1) _ (by omega)
theorem Q8(s f:(List UInt8))(x:AV)(l:List (List UInt8))(hx:cc x l)(hs:s.length<=9223372036854775807)(hl:l.length<=9223372036854775807):an Tryz.prog 9 [.agg [.v (.string (mk s)),x,.v (.string (mk f))],.v (.int .i64 1048576)] [] (HG l.length):=by
 refine P4 _ _ _ _ hx.1 ?_
 simp only[Iy,↓zq,zs,ac,zt,cw]
 rw[wrap64 (1048576-(s.length:Int)) (by omega) (by omega)]
 refine⟨fun _=>⟨_,rfl,fun h=>by omega⟩,fun hp=>?_⟩
 have hsz:an Tryz.prog 40 [x,.v (.int .i64 (1048576-(s.length:Int)))] [] (HG l.length):=by
  refine Qx _ _ hx.1 ?_
  simp only[JK,↓zq,zs,ac,hx.len]
  rw[wrap64 (1048576-(s.length:Int)-(l.length:Int)) (by omega) (by omega)]
  refine⟨hx.1,fun _=>⟨_,rfl,fun h=>by omega⟩,fun hq=>?_⟩
  have hl':l.length<=1048576:=by omega
  refine kJ (I8 x l hx hl' l.length 0 _ (by omega)) ?_ ?_
  ·rintro ys o ⟨_,y,rfl⟩
   simp only[↓zq,zs,ac]
   exact⟨_,rfl,fun _=>hl'⟩
  ·rintro ys o ⟨_,y,rfl⟩
   simp only[↓zq,zs,ac]
   exact⟨_,rfl,fun _=>hl'⟩
 refine bO hsz (HG.ne _) ?_
 rintro r o ⟨n,rfl,hn⟩
 simp only[↓zq,zs,ac,zt]
 exact⟨fun _=>⟨_,rfl,fun h=>by omega⟩,fun h1=>⟨fun _=>⟨_,rfl,fun h=>by omega⟩,fun h2=>⟨_,rfl,fun _=>hn (by omega)⟩⟩⟩
end Go.Proofs.Trees
namespace Go.Proofs.Trees
open Go Go.VL Go.RowKit
def pQ(a:AV)(l:List Nat):Prop:=LK.sl.has a/\a.aN=rD l
theorem pQ.of(l:List Nat):pQ (.sl (rD l)) l:=⟨(ca _).mpr trivial,rfl⟩
theorem pQ.nil:pQ (.v (.slice none 0 0)) []:=⟨(bp).mpr trivial,rfl⟩
theorem pQ.len{a:AV}{l:List Nat}(h:pQ a l):a.aN.length=l.length:=by rw[h.2,wC]
theorem pQ.idx{a:AV}{l:List Nat}(h:pQ a l){i:Nat}(hi:i<l.length):a.aN.getD i []=[.v (.int .i64 (l.getD i 0:Nat))]:=by
 rw[h.2];simp[rD,aa,hi]
end Go.Proofs.Trees
namespace Go.Proofs.Trees
open Go Go.VL Go.RowKit
def uS(l:List Int):List (List AV):=l.map fun k=>[.v (.int .i64 k)]
def pK(a:AV)(l:List Int):Prop:=LK.sl.has a/\a.aN=uS l
theorem yT(l:List Int):(uS l).length=l.length:=by simp[uS]
theorem pK.of(l:List Int):pK (.sl (uS l)) l:=⟨(ca _).mpr trivial,rfl⟩
theorem pK.nil:pK (.v (.slice none 0 0)) []:=⟨(bp).mpr trivial,rfl⟩
theorem pK.len{a:AV}{l:List Int}(h:pK a l):a.aN.length=l.length:=by rw[h.2,yT]
theorem pK.idx{a:AV}{l:List Int}(h:pK a l){i:Nat}(hi:i<l.length):a.aN.getD i []=[.v (.int .i64 (l.getD i 0))]:=by
 rw[h.2];simp[uS,aa,hi]
end Go.Proofs.Trees
namespace Go.Proofs.Trees
open Go Go.VL Go.RowKit
abbrev ZO:=Option (List Vl×Vl)
def Cr(s:Nm)(o:ZO):Prop:=∀r,o=some r->∃d,St s d (zA s) r.1 r.2
def Rz(a:Ty)(pl:List Int)(o:ZO):ZO:=pl.foldl (fun o k=>o.bind fun r=>rN a r.1 r.2 k) o
theorem Cr.dn{s:Nm}{o:ZO}(h:Cr s o)(k:Int):Cr s (o.bind fun r=>rN (zA s) r.1 r.2 k):=fun r hr=>by
 obtain⟨q,h1,h2⟩:=bc.1 hr
 obtain⟨d,hs⟩:=h q h1
 exact⟨d,(hs.dn (l':=r.1) (w:=r.2) h2).1⟩
theorem Cr.go{s:Nm}:∀{pl:List Int} {o:ZO},Cr s o->Cr s (Rz (zA s) pl o)
 |[],o,h=>h
 |k::pl,o,h=>Cr.go (pl:=pl) (h.dn k)
theorem Cr.gz{s:Nm}{o:ZO}(h:Cr s o):GZ o:=fun r hr=>by
 obtain⟨d,hs⟩:=h r hr
 exact hs.gz r rfl
def QZ(s:Nm)(o:ZO):Prop:=∀r,o=some r->jl s (r.1.map (·.cK)) r.2.cK=some r
theorem QZ.dn{s:Nm}{o:ZO}(h:QZ s o)(k:Int):QZ s (o.bind fun r=>rN (zA s) r.1 r.2 k):=fun r hr=>by
 obtain⟨q,h1,h2⟩:=bc.1 hr
 have hq:=h q h1
 obtain⟨d,hd,hs,_⟩:=wH (gM (l:=q.1) (v:=q.2) hq).1
 obtain⟨e,_,h3,h4,_,_,h0,h5⟩:=u9 (l':=r.1) (w:=r.2) h2
 have hk:k.toNat<(kids (zA s) q.2).length:=by
  rcases Nat.lt_or_ge k.toNat (kids (zA s) q.2).length with h|h
  ·exact h
  ·rw[List.getElem?_eq_none h]at h5;cases h5
 have he:(kids (zA s) q.2)[k.toNat]=e:=by rw[bf hk]at h5;cases h5;rfl
 have:=DG hs hd hq h0 hk
 rw[h2,he]at this
 obtain⟨l1,v1⟩:=r
 simp only at h3 h4 |-
 subst h3 h4
 rw[dO]
 exact this
theorem AC{s:Nm}{r:List Vl×Vl}(h:jl s (r.1.map (·.cK)) r.2.cK=some r)(k:Int):wW s (r.1.map (·.cK)) r.2.cK k=rN (zA s) r.1 r.2 k:=by
 unfold wW;rw[h];rfl
end Go.Proofs.Trees
namespace Go.Proofs.Trees
open Go Go.VL Go.RowKit
def rP(c:Nm):List Hl->Nat->Int
 |[],_=>-1
 |h::l,i=>if h.1.cK=c then(i:Int)else rP c l (i+1)
theorem zN(c:Nm):∀(l:List Hl) (i:Nat),-1<=rP c l i/\rP c l i<(i:Int)+(l.length:Int)+1
 |[],i=>⟨by simp[rP],by simp[rP];omega⟩
 |
  h::l,i=>by
  have:=zN c l (i+1)
  unfold rP
  split
  ·exact⟨by omega,by simp;omega⟩
  ·refine⟨this.1,?_⟩
   have h2:=this.2
   rw[aB];omega
theorem BE{c:Nm}{l:List Hl}{N:Nat}(h:l.length<=N):-1<=rP c l 0/\rP c l 0<(N:Int)+1:=by
 have:=zN c l 0
 exact⟨this.1,by omega⟩
theorem P5(q:Vl)(w:AV)(hw:LK.ptr.has w)(c:Nm)(hq:q.cK.length<=900000):an Tryz.prog 77 [.agg [q.cx,w],.ref 0 0] [.cells [.v (.string (mk c))]] (cX (.v (.bool (decide (q.cK=c)))) [.cells [.v (.string (mk c))]]):=by
 refine PO _ _ _ ((aH _).mpr trivial) hw ?_
 unfold H9
 refine ah (Du q hq) ?_
 simp only[↓zq,zs,ac,zt]
 refine⟨?_,rfl⟩
 congr 2
 rw[cq];simp
theorem K1(c:Nm)(l:List Hl)(hl:l.length<=1000)(ht:∀h,h∈l->h.1.cK.length<=900000):∀(k i:Nat),i+k=l.length->Hx [.sl (gJ l),.v (.int .i64 (l.length:Int)),.v (.int .i64 (i:Int))] [.cells [.v (.string (mk c))]]
 (nv (if rP c (l.drop i) i = -1 then(1,[],[.cells [.v (.string (mk c))]])else(2,[.v (.int .i64 (rP c (l.drop i) i))],[.cells [.v (.string (mk c))]])))
 |
  0,i,hi=>by
  refine Kh _ _ _ _ ?_
  have:i=l.length:=by omega
  subst this
  simp only[E3,↓zq,zs,ac,zt,ac,List.drop_length,rP]
  exact⟨fun h=>by omega,fun _=>by simp[nv]⟩
 |
  k+1,i,hi=>by
  have hlt:i<l.length:=by omega
  refine Kh _ _ _ _ ?_
  simp only[E3,↓zq,zs,ac,zt,ac,bB,ei,ly hlt,aH,bJ]
  refine⟨fun _=>?_,fun h=>by omega⟩
  repeat refine⟨by first|trivial|omega,?_⟩
  refine aT (P5 (l[i]).1 _ ((aH _).mpr trivial) c (ht _ (bx hlt))) ?_
  simp only[↓zq,zs,ac,zt,bn]
  rw[aK hlt,rP]
  by_cases h:(l[i]).1.cK=c
  ·simp only[if_pos h]
   refine⟨fun _=>?_,fun hn=>absurd h (by simpa using hn)⟩
   rw[if_neg (by omega)]
  ·simp only[if_neg h]
   refine⟨fun hp=>absurd (by simpa using hp) h,fun _=>?_⟩
   rw[bg i (by omega)]
   exact K1 c l hl ht k (i+1) (by omega)
theorem QJ(c:Nm)(l:List Hl)(hl:l.length<=1000)(ht:∀h,h∈l->h.1.cK.length<=900000):an Tryz.prog 76 [.sl (gJ l),.fn 77 [.ref 0 0]] [.cells [.v (.string (mk c))]] (cX (.v (.int .i64 (rP c l 0))) [.cells [.v (.string (mk c))]]):=by
 refine Pj _ _ ((ca _).mpr trivial) ?_
 simp only[JT,↓zq,zs,ac,ei]
 have hloop:=K1 c l hl ht l.length 0 (by omega)
 rw[aZ]at hloop
 refine eX hloop (fun ys o e=>?_) (fun ys o e=>?_)
 ·split at e
  ·rename_i h
   cases e
   simp only[↓zq,zs,ac,zt,ac]
   rw[h];exact⟨rfl,rfl⟩
  ·cases e
 ·split at e
  ·cases e
  ·cases e
   simp only[↓zq,zs,ac,zt,ac]
   exact⟨rfl,rfl⟩
theorem Fo.kt{a:Ty}{v:Vl}(h:Fo a v):(kids a v).length<=199/\(∀k,k∈kids a v->k.1.cK.length<=900000):=by
 refine⟨?_,fun k hk=>(qG h hk).1⟩
 have h1:=pf a v
 have h2:=mi (kids a v)
 have:=h.nd
 omega
theorem OU{s d:Nm}{a:Ty}{l l':List Vl}{v w c:Vl}(h:St s d a l v)(hu:pR a l v=some (l',w))(hc:l=l'++[c]):an Tryz.prog 47 [uv s a l v,uv s a l' w] [] (bA (.v (.int .i64 (rP c.cK (kids a w) 0)))):=by
 have h':=h.up hu
 obtain⟨x,A,B,D,z⟩:=h.z
 have hlen:=h.len
 have hl1:l.length=l'.length+1:=by rw[hc];simp
 refine OW _ _ ((bV _).mpr trivial) ((bV _).mpr trivial) ?_
 simp only[Mm,uv,↓zq,zs,ac,j3,aH,aC]
 repeat refine⟨by first|trivial|omega,?_⟩
 rw[wrap64 ((l.length:Int)-1) (by omega) (by omega)]
 have e1:((l.length:Int)-1).toNat=l'.length:=by omega
 have hg:(uq l).getD l'.length []=[c.cx]:=by rw[tK (by omega)];simp[hc]
 simp only[e1,hg,↓zq,zs,ac,aH]
 repeat refine⟨by first|trivial|omega,?_⟩
 have hcx:=h.i.BO c (by rw[hc];simp)
 refine ah (Du c hcx.cK) ?_
 simp only[↓zq,zs,ac,zt,aH,aC]
 repeat refine⟨by first|trivial|omega,?_⟩
 have hnd:=h'.i.nM.nd
 refine ah (Ke 100 w x A B a z.body z.hx (h'.i.nM.eK z) (by omega)) ?_
 simp only[↓zq,zs,ac,zt]
 have hk:=h'.i.nM.kt
 refine aT (QJ c.cK (kids a w) (by omega) hk.2) ?_
 simp only[↓zq,zs,ac,zt,bn]
 exact⟨rfl,rfl⟩
end Go.Proofs.Trees
namespace Go.Proofs.Trees
open Go Go.VL Go.RowKit
theorem B6{a:Ty}:∀(n:Nat) (l:List Vl) (v:Vl),l.length=n->(jV n a l v).isSome=true->∀c l',l=l'++[c]->∃w,pR a l v=some (l',w)/\(jV l'.length a l' w).isSome=true
 |0,l,v,hl,_,c,l',h=>by rw[h]at hl;simp at hl
 |
  n+1,l,v,hl,hs,c,l',h=>by
  rw[jV]at hs
  cases q:pR a l v with
  |none=>rw[q]at hs;cases hs
  |
   some r =>
   obtain⟨l1,w⟩:=r
   rw[q]at hs
   have h2:l1=l':=by
    unfold pR at q
    rw[h,List.getLast?_concat]at q
    simp only at q
    split at q
    ·cases q;simp
    ·cases q
   subst h2
   have hn:l1.length=n:=by rw[h]at hl;simpa using hl
   exact⟨w,rfl,by rw[hn];exact hs⟩
theorem uY{d:Nm}:∀{l:List Vl},(∀c,c∈l->ni d c.cK 100=some c)->eB d (l.map (·.cK))=some l
 |[],_=>rfl
 |
  c::l,h=>by
  rw[bE,eB,h c aj,uY fun x hx=>h x (ak _ hx)]
theorem Dh{s d:Nm}{l:List Vl}{v:Vl}(hs:St s d (zA s) l v)(hd:cF s=some d):jl s (l.map (·.cK)) v.cK=if(tG (zA s) l v).isSome=true then some (l,v)else none:=by
 obtain⟨x,A,B,D,z⟩:=hs.z
 have hlen:=hs.len
 have e1:ni s v.cK 100=some v:=by rw[z.cK hs.i.nM.iu hs.i.nM.ty,if_pos hs.i.nM.nd]
 unfold jl
 rw[s4,hd]
 simp only[aR,z.l,e1,uY hs.each,bZ,if_pos hlen,cy]
theorem Cq{s d:Nm}{l l':List Vl}{v w:Vl}(hs:St s d (zA s) l v)(hd:cF s=some d)(hv:jl s (l.map (·.cK)) v.cK=some (l,v))(hu:pR (zA s) l v=some (l',w)):jl s (l'.map (·.cK)) w.cK=some (l',w):=by
 rw[Dh (hs.up hu) hd]
 have h1:=(gM hv).2
 obtain⟨_,h2,_⟩:=qP hs.i hu
 unfold tG at h1 |-
 rw[<-h2,jV,hu]at h1
 exact if_pos h1
theorem uH(l:List Vl)(c:Vl):((l++[c]).getLast?).getD .u=c:=by rw[List.getLast?_concat];rfl
theorem KR(s c f:Nm)(pa:AV)(p:List Nm)(hp:cc pa (p++[c]))(hpl:p.length<=1000)(l:List Hl)(hl:l.length<=1000):∀(k i:Nat),i+k=l.length->FJ [.sl (ku l),.v (.int .i64 (i:Int))] [.cells [.v (.string (mk s)),pa,.v (.string (mk f))]]
 (nv (if rP c (l.drop i) i = -1 then(1,[],[])else(2,[.v (.int .i64 (rP c (l.drop i) i))],[])))
 |
  0,i,hi=>by
  refine KL _ _ _ _ _ ?_
  have:i=l.length:=by omega
  subst this
  simp only[EU,↓zq,zs,ac,zt,ac,jL,List.drop_length,rP]
  exact⟨hp.1,fun h=>by omega,fun _=>by simp[nv]⟩
 |
  k+1,i,hi=>by
  have hlt:i<l.length:=by omega
  refine KL _ _ _ _ _ ?_
  have hpl2:(p++[c]).length=p.length+1:=by simp
  have e1:(((p.length+1:Nat):Int)-1).toNat=p.length:=by omega
  have hg:(p++[c]).getD p.length []=c:=by simp[aa]
  simp only[EU,↓zq,zs,ac,zt,ac,jL,qB hlt,bJ,hp.len,hpl2]
  rw[wrap64 (((p.length+1:Nat):Int)-1) (by omega) (by omega),e1,hp.idx (by rw[hpl2];omega),hg]
  simp only[↓zq,zs,ac,zt]
  refine⟨hp.1,fun _=>?_,fun h=>by omega⟩
  refine⟨by omega,by omega,hp.1,⟨hp.1,by omega,by omega⟩,by omega,?_⟩
  rw[aK hlt,rP]
  by_cases h:(l[i]).1.cK=c
  ·simp only[if_pos h]
   refine⟨fun _=>?_,fun hn=>absurd h (by simpa using hn)⟩
   rw[if_neg (by omega)]
  ·simp only[if_neg h]
   refine⟨fun hp=>absurd (by simpa using hp) h,fun _=>?_⟩
   rw[bg i (by omega)]
   exact KR s c f pa p hp hpl l hl k (i+1) (by omega)
theorem Pz{s d:Nm}{a:Ty}{l l':List Vl}{v w c:Vl}(h:St s d a l v)(hu:pR a l v=some (l',w))(hc:l=l'++[c])(pa:AV)(hp:cc pa (l.map (·.cK))):an Tryz.prog 42 [.agg [.v (.string (mk s)),pa,.v (.string (mk v.cK))]] [] (bA (.v (.int .i64 (rP c.cK (kids a w) 0)))):=by
 have h':=h.up hu
 obtain⟨x,A,B,D,z⟩:=h.z
 have hlen':=h'.len
 have hk:=h'.i.nM.kt
 refine QF _ _ _ hp.1 ?_
 unfold Mv
 refine ah (E1 h pa hp) ?_
 rw[pk hu]
 simp only[↓zq,zs,ac,zt,bB,ca]
 refine ah (Kf z w h'.i.nM) ?_
 simp only[↓zq,zs,ac]
 have hp':cc pa (l'.map (·.cK)++[c.cK]):=by rw[hc,dO]at hp;exact hp
 have hloop:=KR s c.cK v.cK pa _ hp' (by simp;omega) (kids a w) (by omega) (kids a w).length 0 (by omega)
 rw[aZ]at hloop
 refine eX hloop (fun ys o e=>?_) (fun ys o e=>?_)
 ·split at e
  ·rename_i hh
   cases e
   rw[hh];exact⟨rfl,rfl⟩
  ·cases e
 ·split at e
  ·cases e
  ·cases e
   simp only[↓zq,zs,ac]
   exact⟨rfl,rfl⟩
noncomputable def lW (s:Nm) (p:List Nm) (f:Nm) (st:Int):ZO:=(jl s p f).bind fun r=>(pR (zA s) r.1 r.2).bind fun u=>rN (zA s) u.1 u.2 (rP ((r.1.getLast?).getD .u).cK (kids (zA s) u.2) 0+st)
theorem Bw(s:Nm)(p:List Nm)(f:Nm)(st:Int):GZ (lW s p f st):=fun r hr=>by
 obtain⟨q,h1,h2⟩:=bc.1 hr
 obtain⟨u,h3,h4⟩:=bc.1 h2
 obtain⟨d,hs,_⟩:=tv (l:=q.1) (v:=q.2) h1
 exact((hs.up (l':=u.1) (w:=u.2) h3).dn (l':=r.1) (w:=r.2) h4).1.gz r rfl
theorem wV{a:Ty}{l:List Vl}{v:Vl}{k:Int}(h:k<0):rN a l v k=none:=by
 unfold rN
 split
 ·rfl
 ·rw[if_neg (by omega)]
theorem xL{a:Ty}{l:List Vl}{v:Vl}{k:Int}(hv:Fo a v)(h:199<=k):rN a l v k=none:=by
 have:=hv.kt.1
 unfold rN
 split
 ·rfl
 ·rw[if_neg (by omega)]
theorem IP(s:Nm)(pa:AV)(p:List Nm)(hp:cc pa p)(f:Nm)(st:Int):an Tryz.prog 24 [.agg [.v (.string (mk s)),pa,.v (.string (mk f))],.v (.int .i64 st)] [] (ON s (lW s p f st)):=by
 refine O6 _ _ _ _ hp.1 ?_
 unfold Jz
 refine ah (RD s pa p hp f) ?_
 simp only[↓zq,zs,ac,zt,oY]
 unfold lW
 cases q:jl s p f with
 |
  none =>
  refine ah (show an Tryz.prog 46 [oZ s (zA s) none] [] (bA gp) from OZ) ?_
  simp only[↓zq,zs,ac,zt,bC]
  exact⟨fun _=>⟨rfl,rfl⟩,fun h=>(by cases h)⟩
 |
  some r =>
  obtain⟨l,v⟩:=r
  obtain⟨d,hs,_⟩:=tv q
  refine ah (show an Tryz.prog 46 [oZ s (zA s) (some (l,v))] [] (bA (oZ s (zA s) (pR (zA s) l v))) from Mc s (zA s) l v hs.i hs.len) ?_
  simp only[↓zq,zs,ac,zt,aR,oY]
  cases q2:pR (zA s) l v with
  |
   none =>
   simp only[oZ,↓zq,zs,ac,bC]
   exact⟨fun _=>⟨rfl,rfl⟩,fun h=>(by cases h)⟩
  |
   some u =>
   obtain⟨l',w⟩:=u
   obtain⟨_,_,c,hc,_⟩:=qP hs.i q2
   have hs':=hs.up q2
   have hix:=OU hs q2 hc
   have hk:=hs'.i.nM.kt
   have hb:=BE (c:=c.cK) hk.1
   simp only[aR,hc,uH]
   rw[hc]at hix
   generalize hI:rP c.cK (kids (zA s) w) 0=I at *
   have hn:(oZ s (zA s) (some (l',w))).isNil=false:=rfl
   simp only[hn]
   refine⟨fun h=>(by cases h),fun _=>?_⟩
   refine ah (show an Tryz.prog 47 [oZ s (zA s) (some (l'++[c],v)),oZ s (zA s) (some (l',w))] [] (bA (.v (.int .i64 I))) from hix) ?_
   simp only[↓zq,zs,ac,zt]
   rw[wrap64 (0-I) (by omega) (by omega)]
   refine⟨fun h1=>?_,fun h1=>⟨fun h2=>?_,fun h2=>?_⟩⟩
   ·rw[wV (by omega)];exact⟨rfl,rfl⟩
   ·rw[xL hs'.i.nM (by omega)];exact⟨rfl,rfl⟩
   ·rw[wrap64 (I+st) (by omega) (by omega)]
    refine ah (show an Tryz.prog 59 [oZ s (zA s) (some (l',w)),.v (.int .i64 (I+st))] [] (bA (oZ s (zA s) (rN (zA s) l' w (I+st)))) from OO hs' (I+st)) ?_
    simp only[↓zq,zs,ac,zt,oY]
    have hgz:GZ (rN (zA s) l' w (I+st)):=fun r hr=>(hs'.dn (l':=r.1) (w:=r.2) hr).1.gz r rfl
    refine aT (On s (zA s) _ hgz) ?_
    simp only[↓zq,zs,ac,zt,bn]
    exact⟨fU _,rfl,rfl⟩
theorem Rq(s:Nm)(pa:AV)(p:List Nm)(hp:cc pa p)(f:Nm)(st:Int):an Tryz.prog 23 [.agg [.v (.string (mk s)),pa,.v (.string (mk f))],.v (.int .i64 st)] [] (vK s (lW s p f st)):=by
 refine Ol _ _ _ _ hp.1 ?_
 unfold K8
 refine ah (Rf s pa p hp f) ?_
 simp only[↓zq,zs,ac]
 unfold lW
 cases q:jl s p f with
 |none=>simp only[bq];exact⟨fun _=>vK.none s,fun h=>by simp at h⟩
 |
  some r =>
  obtain⟨l,v⟩:=r
  obtain⟨d,hd,hs,rfl,rfl⟩:=wH (gM q).1
  have hcl:=(gM q).2
  simp only[a8,aR,hp.len,bZ]
  refine⟨fun h=>by simp at h,fun _=>⟨hp.1,fun h0=>?_,fun h0=>?_⟩⟩
  ·have:l=[]:=bU (by simpa using h0)
   subst this
   exact vK.none s
  ·have hne:l≠[]:=by rintro rfl;simp at h0
   have hlc:l=l.dropLast++[l.getLast hne]:=(List.dropLast_concat_getLast hne).symm
   obtain⟨w,hu,_⟩:=B6 l.length l v rfl hcl _ _ hlc
   have hix:=Pz hs hu hlc pa hp
   have hup:=E1 hs pa hp
   rw[pk hu]at hup
   have hv':=Cq hs hd q hu
   have hs':=hs.up hu
   have hk:=hs'.i.nM.kt
   have hb:=BE (c:=(l.getLast hne).cK) hk.1
   have hgl:(l.getLast?).getD .u=l.getLast hne:=by rw[List.getLast?_eq_some_getLast hne];rfl
   simp only[hu,aR,hgl]
   generalize l.dropLast=l' at *
   generalize l.getLast hne=c at *
   generalize hI:rP c.cK (kids (zA s) w) 0=I at *
   refine ah (yr st (-1000) 1000) ?_
   simp only[↓zq,zs,ac]
   by_cases hin:-1000<=st/\st<=1000
   ·rw[show wS st (-1000) 1000=true by simp[wS,hin]]
    refine⟨fun h=>by simp at h,fun _=>?_⟩
    refine ah hup ?_
    simp only[↓zq,zs,ac,zt,bB,ca]
    refine ah hix ?_
    simp only[↓zq,zs,ac,zt]
    rw[wrap64 (I+st) (by omega) (by omega)]
    refine bO (Ok s _ _ (cc.of _) w.cK (I+st)) (vK.ne _ _) ?_
    rw[AC (r:=(l',w)) hv']
    rintro r' o ⟨rfl,pa',hp',rfl⟩
    simp only[↓zq,zs,ac,zt,bB]
    exact⟨hp'.1,rfl,pa',hp',rfl⟩
   ·rw[show wS st (-1000) 1000=false by simp[wS];omega]
    refine⟨fun _=>?_,fun h=>by simp at h⟩
    have:rN (zA s) l' w (I+st)=none:=by
     by_cases h1:st < -1000
     ·exact wV (by omega)
     ·exact xL hs'.i.nM (by omega)
    rw[this]
    exact vK.none s
end Go.Proofs.Trees
namespace Go.Proofs.Trees
open Go Go.VL Go.RowKit
theorem OR(s:Nm)(pa:AV)(p:List Nm)(hp:cc pa p)(f:Nm)(hs:s.length<=9223372036854775807)(hpl:p.length<=9223372036854775807)(st:Int):an Tryz.prog 5 [.agg [.v (.string (mk s)),pa,.v (.string (mk f))],.v (.int .i64 st)] [] (bA (.v (.bool true))):=by
 refine Rg _ _ _ _ hp.1 ?_
 simp only[JP,↓zq,zs,ac,zt,bA]
 refine bO (Q8 s f pa p hp hs hpl) (HG.ne _) ?_
 rintro r o ⟨n,rfl,hn⟩
 simp only[↓zq,zs,ac]
 refine⟨fun _=>trivial,fun hn'=>?_⟩
 have hl:p.length<=1048576:=hn (by omega)
 have toz:=P1 s f pa p hp (by omega)
 have eqz:=Jx s f _ _ p (cc.of p) (cc.of p) (by omega)
 refine aT toz ?_
 simp only[↓zq,zs,ac,zt,bn,Ob.es,aS]
 refine⟨fU _,?_⟩
 have hgz:=Fa s (o:=lW s p f st) (Bw s p f st)
 have EQ:=fun(w:AV) hw=>Jx (tZ s (lW s p f st)).1 (tZ s (lW s p f st)).2.2 _ w _ (cc.of (tZ s (lW s p f st)).2.1) hw (by omega)
 have HE:=Px (tZ s (lW s p f st)).1 (tZ s (lW s p f st)).2.2 _ 1 (tZ s (lW s p f st)).2.1.length (cc.of _) (by omega) (by omega)
 refine bO (Rq s (.sl (bj p)) p (cc.of p) f st) (vK.ne _ _) ?_
 rintro r o ⟨rfl,w,hw,rfl⟩
 simp only[↓zq,zs,ac,zt,bB]
 refine⟨hw.1,?_⟩
 refine aT toz ?_
 simp only[↓zq,zs,ac,zt,bn,Ob.es,aS]
 refine⟨fU _,?_⟩
 refine aT (IP s (.sl (bj p)) p (cc.of p) f st) ?_
 simp only[↓zq,zs,ac,zt,bn,Ob.es,aS]
 refine⟨fU _,?_⟩
 refine ah (EQ w hw) ?_
 simp only[↓zq,zs,ac]
 refine⟨fun h=>by simp at h,fun _=>⟨fun h=>by simp at h,fun _=>?_⟩⟩
 refine aT toz ?_
 simp only[↓zq,zs,ac,zt,bn,Ob.es,aS]
 refine⟨fU _,?_⟩
 refine ah eqz ?_
 simp only[↓zq,zs,ac]
 refine⟨fun h=>by simp at h,fun _=>?_⟩
 refine aT (Ls s f 1 p (by omega) (by omega)) ?_
 simp only[↓zq,zs,ac,Ob.es,aS]
 refine⟨fun h=>by omega,fun _=>?_⟩
 refine ah (EQ w hw) ?_
 simp only[↓zq,zs,ac]
 refine⟨fun h=>by simp at h,fun _=>⟨fun h=>by simp at h,fun _=>?_⟩⟩
 refine aT (Ls _ _ 1 _ (by omega) (by omega)) ?_
 simp only[↓zq,zs,ac,Ob.es,aS]
 refine ah HE ?_
 simp only[↓zq,zs,ac]
 refine⟨fun h=>by omega,fun _=>⟨fun h=>by simp at h,fun _=>?_⟩⟩
 refine aT toz ?_
 simp only[↓zq,zs,ac,zt,bn,Ob.es,aS]
 refine⟨fU _,?_⟩
 refine aT (IP s (.sl (bj p)) p (cc.of p) f st) ?_
 simp only[↓zq,zs,ac,zt,bn,Ob.es,aS]
 refine⟨fU _,?_⟩
 refine ah (EQ w hw) ?_
 simp only[↓zq,zs,ac]
 refine⟨fun h=>by simp at h,fun _=>⟨fun h=>by simp at h,fun _=>?_⟩⟩
 refine ah HE ?_
 simp only[↓zq,zs,ac]
 refine⟨fun h=>by omega,fun _=>⟨fun h=>by simp at h,fun _=>?_⟩⟩
 first|rfl|trivial
end Go.Proofs.Trees
