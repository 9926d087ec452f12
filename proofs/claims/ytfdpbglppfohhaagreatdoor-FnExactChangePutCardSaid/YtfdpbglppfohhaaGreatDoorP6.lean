/-
  Part of a proof: Go functions read by values, trees of functions, their contracts.
-/
import Derived.Test.YtfdpbglppfohhaaGreatDoorP5
set_option linter.unusedVariables false
set_option linter.unusedSimpArgs false
open Bool renaming and_eq_true→ap,eq_iff_iff→ct,or_eq_false_iff→cr,or_eq_true→bw,true_and→bO
open ByteArray renaming toList→ae
open Int renaming toNat_natCast→cf
open List renaming all_cons→cW,all_eq_true→bQ,append_assoc→ba,append_nil→cL,cons_append→a8,drop_eq_getElem_cons→aL,drop_zero→a6,eq_nil_of_length_eq_zero→bV,getD_cons_zero→bp,getD_eq_getElem?_getD→aa,getElem?_eq_getElem→bg,getElem_mem→bA,headD_cons→aU,length_append→ax,length_cons→aB,length_map→cj,length_nil→aJ,map_cons→bG,mem_append→aI,mem_append_left→ay,mem_append_right→aw,mem_cons→aF,mem_map→bS,mem_singleton→aN,nil_append→aO,tail_cons→bE
open Nat renaming le_add_right→dj,le_refl→aq,mul_add→cR,mul_one→dC,zero_add→aV
open Option renaming bind_eq_some_iff→bm,bind_none→bc,bind_some→aK,getD_some→cA,isSome_iff_exists→bK,isSome_none→aT,isSome_some→aP,map_some→co
namespace Go.Proofs.Trees
open Go Go.VL Go.RowKit
theorem iI(x:Nm):∀(t:Ty) {i:Nat},jT t (i+1)->jT (dF (.name x) t i) i
 |
  .bN u,i,h=>by
  simp only[dF]
  split
  ·trivial
  ·have:u<i+1:=h
   show u<i;omega
 | .plus a b,i,h=>⟨iI x a h.1,iI x b h.2⟩
 | .times a b,i,h=>⟨iI x a h.1,iI x b h.2⟩
 | .rc a,i,h=>iI x (i:=i+1) a h
 | .zero,_,_=>trivial
 | .one,_,_=>trivial
 | .name _,_,_=>trivial
theorem km{x:Nm}{u:Ty}(hu:jT u 0):∀(t:Ty) {i:Nat},jT t i->jT (sub x u t) i
 | .name s,i,_=>by simp only[sub];split;exact gu u hu (Nat.zero_le _);trivial
 | .plus a b,i,h=>⟨km hu a h.1,km hu b h.2⟩
 | .times a b,i,h=>⟨km hu a h.1,km hu b h.2⟩
 | .rc a,i,h=>km hu (i:=i+1) a h
 | .zero,_,_=>trivial
 | .one,_,_=>trivial
 | .bN _,_,h=>h
theorem Dv.lc{t d:Ty}{s:Nm}(h:Dv t s d):jT t 0->jT d 0:=by
 induction h with
 |zero s=>exact fun _=>trivial
 |one s=>exact fun _=>trivial
 |bN k s=>exact fun _=>trivial
 |hit s=>exact fun _=>trivial
 |qW h=>exact fun _=>trivial
 |plus h1 h2 hl i1 i2=>exact fun h=>⟨i1 h.1,i2 h.2⟩
 |times h1 h2 hl i1 i2=>exact fun h=>⟨⟨i1 h.1,h.2⟩,h.1,i2 h.2⟩
 |
  rc x hx hs h1 h2 hl i1 i2 =>
  intro h
  have g1:=km (x:=x) h _ (i1 (iI x _ h))
  have g2:=km (x:=x) h _ (i2 (iI x _ h))
  exact⟨gu _ g1 (by omega),gu _ g2 (by omega),Nat.zero_lt_one⟩
theorem Wf.qS{e:E}(h:Wf e):fO (cO e []):=⟨sY h [],fun y hy=>(mK h [] y hy).1⟩
theorem fO.dv{t d:Ty}{s:Nm}(g:fO t)(h:Dv t s d):fO d:=⟨h.lc g.1,fun y hy=>g.2 y (h.names y hy)⟩
theorem fO.tree{t:Ty}(g:fO t):∃e,Wf e/\cO e []=t:=by
 obtain⟨h1,h2,_⟩:=kq (bF t []) t [] 0 (.nil _ _) g.1 fun y hy=>⟨(eG t [] y).2 (.inr hy),g.2 y hy⟩
 exact⟨_,h1,h2⟩
theorem fO.sub{x:Nm}{u t:Ty}(hu:fO u)(ht:fO t):fO (sub x u t):=⟨km hu.1 t ht.1,fun y hy=>by
 rcases iU t hy with h|h
 ·exact hu.2 y h
 ·exact ht.2 y h.2⟩
def kO(o:Option Ty):AV->List Ob->Prop:=fun r ob=>ob=[]/\∃(c:Nm) (d:AV),LK.sl.has d/\r=.cv [.agg [.v (.string (mk c)),d],.v (.bool o.isSome)]/\∀t,o=some t->∃e,Wf e/\cO e []=t/\c=e.at/\d=e.sp
theorem kO.ne{o:Option Ty}(h:∀t,o=some t->fO t):∃r ob,kO o r ob:=by
 cases o with
 |none=>exact⟨_,_,rfl,[],xt,(bb).mpr trivial,rfl,fun t h=>by cases h⟩
 |
  some t =>
  obtain⟨e,h1,h2⟩:=(h t rfl).tree
  exact⟨_,_,rfl,e.at,e.sp,(a7 _).mpr trivial,rfl,fun t' h'=>by cases h';exact⟨e,h1,h2,rfl,rfl⟩⟩
theorem kO.of{e:E}(h:Wf e):kO (some (cO e [])) (.cv [.agg [.v (.string (mk e.at)),e.sp],.v (.bool true)]) [] :=
 ⟨rfl,e.at,e.sp,(a7 _).mpr trivial,rfl,fun t h'=>by cases h';exact⟨e,h,rfl,rfl,rfl⟩⟩
theorem kO.no(c:Nm)(d:AV)(hd:LK.sl.has d):kO none (.cv [.agg [.v (.string (mk c)),d],.v (.bool false)]) [] :=
 ⟨rfl,c,d,hd,rfl,fun t h'=>by cases h'⟩
theorem gv{c:ByteArray}{d:AV}(h:LK.sl.has d):bu [.str,.sl] [.v (.string c),d] 0=True:=by simp[bu,dY,h]
theorem Ad{e:E}{os:List E}(h:Wf e):Wf (AH e os)/\cO (AH e os) []=cO e []/\s6 (·∉zu e os) (AH e os):=by
 obtain⟨h1,h2,_,_,h5⟩:=kq (zu e os) (cO e []) [] 0 (.nil _ _) (sY h []) fun y hy=>⟨ay _ ((lj h [] [] y).2 (.inr hy)),(mK h [] y hy).1⟩
 exact⟨h1,h2,h5⟩
theorem rB{os:List E}{o:E}(ho:o∈os)(hw:Wf o){y:Nm}(hy:bh y (cO o [])=true):y∈rp os :=
 List.mem_flatMap.2 ⟨o,ho,(lj hw [] [] y).2 (.inr hy)⟩
theorem qn{s:Nm}(hs:rJ s):cO (.atom s) []=.name s:=iX hs (by simp)
theorem OX{x:Nm}(hx:rJ x){e u:E}(h:Wf e)(hu:Wf u)(hl:e.dy<=400)(hlu:u.dy<=400):∃g,Wf g/\cO g []=sub x (cO u []) (cO e [])/\an Tryz.prog 172 [.agg [.v (.string (mk e.at)),e.sp],.v (.string (mk x)),.agg [.v (.string (mk u.at)),u.sp]] [] (bB (.agg [.v (.string (mk g.at)),g.sp])):=by
 obtain⟨w1,w2,w3⟩:=Ad (os:=[u,.atom x]) h
 have hap:s6 (fun n=>n≠x/\bh n (cO u [])=false) (AH e [u,.atom x]):=AT (fun n hn=>⟨fun e1=>hn (by
  subst e1
  exact aw _ (rB (o:=.atom n) (by simp) (.atom hx.1) (by rw[qn hx];simp[bh]))),by
  cases q:bh n (cO u [])with
  |false=>rfl
  |true=>exact absurd (aw _ (rB (o:=u) (by simp) hu q)) hn⟩) w1 w3
 obtain⟨p1,p2⟩:=Dg hx hu w1 hap [] (by simp) (fun y hy=>by cases hy)
 refine⟨_,p1,by rw[p2,w2],?_⟩
 refine Qo _ _ _ _ _ ((a7 _).mpr trivial) ((a7 _).mpr trivial) ?_
 unfold HQ
 have s1:=h.sz
 have s2:=hu.sz
 have hA:=F7 h (.sl [[.v (.string (mk u.at)),u.sp],[.v (.string (mk x)),xt]]) [u,.atom x] ⟨(cc _).mpr trivial,by simp only[fS,E.bn,fw];rfl⟩ (by omega) (fun o ho=>by
  simp only[aF,List.not_mem_nil,or_false]at ho
  rcases ho with rfl|rfl
  ·exact⟨hu,by omega⟩
  ·exact⟨.atom hx.1,by simp[E.sz]⟩) (by simp)
 refine ah hA ?_
 simp only[↓zq,zs,ac,zt,aR]
 repeat refine⟨by omega,?_⟩
 refine ah (N8 x u w1) ?_
 simp only[↓zq,zs,ac,zt,aR]
 repeat refine⟨by omega,?_⟩
 exact⟨rfl,rfl⟩
theorem Ff{x:Nm}(hx:rJ x){e u:E}(h:Wf e)(hu:Wf u)(hl:e.dy<=400)(hlu:u.dy<=400):an Tryz.prog 167 [.agg [.v (.string (mk e.at)),e.sp],.v (.string (mk x)),.agg [.v (.string (mk u.at)),u.sp]] [] (kO (mX (sub x (cO u []) (cO e [])))):=by
 refine PY _ _ _ _ _ ((a7 _).mpr trivial) ((a7 _).mpr trivial) ?_
 unfold Mc
 refine ah (Pd hx h hu (by omega) (by omega)) ?_
 simp only[↓zq,zs,ac,zt]
 refine⟨fun hn=>?_,fun hy=>?_⟩
 ·rw[show mX (sub x (cO u []) (cO e []))=none by unfold mX;rw[if_neg hn]]
  exact kO.no _ _ ((a7 _).mpr trivial)
 ·rw[show mX (sub x (cO u []) (cO e []))=some (sub x (cO u []) (cO e [])) by unfold mX;rw[if_pos hy]]
  obtain⟨g,g1,g2,g3⟩:=OX hx h hu hl hlu
  refine ah g3 ?_
  simp only[↓zq,zs,ac,zt,aR]
  repeat refine⟨by omega,?_⟩
  rw[<-g2]
  exact kO.of g1
end Go.Proofs.Trees
namespace Go.Proofs.Trees
open Go Go.VL Go.RowKit
theorem By(w:Nm)(c1 c2:Nm)(d1 d2:AV):an Tryz.prog 98 [.v (.string (mk w)),.sl [[.v (.string (mk c1)),d1],[.v (.string (mk c2)),d2]]] [] (bB (.agg [.v (.string (mk [])),.sl [[.v (.string (mk w)),xt],[.v (.string (mk c1)),d1],[.v (.string (mk c2)),d2]]])):=by
 refine M6 _ _ ((cc _).mpr trivial) ?_
 simp only[Hb,↓zq,zs,ac,bB]
 exact⟨⟨fun c hc=>by
  simp only[aF,List.not_mem_nil,or_false]at hc
  rcases hc with rfl|rfl<;>rfl,by omega⟩,rfl⟩
theorem Lk(F:List Nm)(hF:F.length<100000)(c1 c2:Nm)(d1 d2:AV)(h1:LK.sl.has d1)(h2:LK.sl.has d2):∀(n j:Nat),pG F n j<j+n->j+n<100000000 ->
 EI [.v (.int .i64 (j:Int))] [zE,.cells [.v (.string (mk c1)),d1],.cells [.v (.string (mk c2)),d2],.vec 1 (bT F)] (gX 1 [.v (.int .i64 (pG F n j:Int))] [zE,.cells [.v (.string (mk c1)),d1],.cells [.v (.string (mk c2)),d2]])
 |0,j,h,_=>by simp only[pG]at h;omega
 |
  n+1,j,h,hj=>by
  refine OT _ _ _ _ _ _ _ _ ?_
  simp only[M3,↓zq,zs,ac,zt,ac,bb,h1,h2]
  refine ah (zS (j+1) j (by omega) (by omega)) ?_
  have hd:=ml (j+1) j (by omega)
  simp only[↓zq,zs,ac,zt,a8,aO]
  refine⟨by simp[cG];omega,?_⟩
  refine ah (zn F _ (.of F) (tN j) (by omega)) ?_
  simp only[↓zq,zs,ac,zt]
  rw[pG]at h |-
  refine⟨fun hm=>?_,fun hm=>?_⟩
  ·rw[if_pos hm]at h |-
   rw[bq j (by omega)]
   exact Lk F hF c1 c2 d1 d2 h1 h2 n (j+1) (by omega) (by omega)
  ·rw[if_neg hm]
   exact⟨rfl,rfl,rfl⟩
theorem tQ{x:Nm}{a c d:Ty}(h:(pq a x c d).az<=400):(sub x (.rc a) c).az<=400/\(sub x (.rc a) d).az<=400:=by
 simp only[pq,Ty.az]at h;omega
theorem Wf.iN{e:E}(h:Wf e){t:Ty}(ht:cO e []=t)(hl:t.az<=400):e.dy<=400:=by rw[h.dy [],ht];exact hl
def QT(n:Nat):Prop:=∀(e:E) (s:Nm),Wf e->e.dy<=n->e.dy<=400->rJ s->an Tryz.prog 166 [.agg [.v (.string (mk e.at)),e.sp],.v (.string (mk s))] [] (kO (kV (cO e []) s))
theorem ka{e:E}{s:Nm}(h:Wf e):∀t,kV (cO e []) s=some t->fO t:=fun t ht=>h.qS.dv (cS.1 ht)
theorem qH{t:Ty}(h:fO t):∀d,mX t=some d->fO d:=fun d hd=>by obtain⟨_,rfl⟩:=eT.1 hd;exact h
theorem Oz(n:Nat)(ih:QT n)(m:Nm)(B:E)(hm:rJ m)(hB:Wf B)(hl:(E.list [.atom dW,.atom m,B]).dy<=n+1)(hl4:(E.list [.atom dW,.atom m,B]).dy<=400)(s:Nm)(hs:rJ s) :
 an Tryz.prog 190 [.agg [.v (.string (mk [])),(E.list [.atom dW,.atom m,B]).sp],.v (.string (mk s))] [] (kO (kV (cO (.list [.atom dW,.atom m,B]) []) s)):=by
 have hw:Wf (.list [.atom dW,.atom m,B]):=.rc hm hB
 have hsz:=hw.sz
 have hA:=F7 hw (.sl [[.v (.string (mk s)),xt]]) [.atom s] ⟨(cc _).mpr trivial,by simp only[fS,E.bn,fw];rfl⟩ (by omega) (fun o ho=>by
  simp only[aF,List.not_mem_nil,or_false]at ho
  subst ho
  exact⟨.atom hs.1,by simp[E.sz]⟩) (by simp)
 have hatsB:B.dy+2=(E.list [.atom dW,.atom m,B]).dy:=by simp only[E.dy,E.fF];omega
 have hT:cO (.list [.atom dW,.atom m,B]) []=.rc (cO B [m]):=eU _ _ _
 obtain⟨w1,w2,_,_,w5⟩:=kq (zu (.list [.atom dW,.atom m,B]) [.atom s]) (cO (.list [.atom dW,.atom m,B]) []) [] 0 (.nil _ _) (sY hw []) fun y hy=>⟨ay _ ((lj hw [] [] y).2 (.inr hy)),(mK hw [] y hy).1⟩
 have hsF:s∈zu (.list [.atom dW,.atom m,B]) [.atom s]:=aw _ (rB (o:=.atom s) (by simp) (.atom hs.1) (by rw[qn hs];simp[bh]))
 have haF:∀y,bh y (cO B [m])=true->y∈zu (.list [.atom dW,.atom m,B]) [.atom s]:=fun y hy=>ay _ ((lj hw [] [] y).2 (.inr (by rw[hT];exact hy)))
 unfold AH at hA
 rw[hT]at hA w1 w2 w5
 rw[hT]
 generalize zu (.list [.atom dW,.atom m,B]) [.atom s]=F at *
 obtain⟨_,_,_,hxF⟩:=gq F 0
 simp only[gV,aO]at hA w1 w2 w5
 generalize hxd:tN (nx F 0)=x at *
 have hx:rJ x:=by rw[<-hxd];exact xu _
 generalize (gV F (cO B [m]) [x] (nx F 0+1)).1=b at *
 have hb:Wf b:=by cases w1;assumption
 rw[eU]at w2
 have hbt:cO b [x]=cO B [m]:=by injection w2
 have hxa:bh x (cO B [m])=false:=by
  cases q:bh x (cO B [m])with
  |false=>rfl
  |true=>exact absurd (haF x q) hxF
 have hxs:x≠s:=fun e=>hxF (by rw[e];exact hsF)
 generalize cO B [m]=a at *
 have hbo:cO b []=dF (.name x) a 0:=by
  have:=xB x hb []
  rw[cL,hbt]at this;exact this
 have hba:b.dy+2=(E.list [.atom dW,.atom m,B]).dy:=by
  rw[hw.dy [],hT,hb.dy [],hbo,fq];simp only[Ty.az];omega
 have i1:=ih b s hb (by omega) (by omega) hs
 have i2:=ih b x hb (by omega) (by omega) hx
 have n1:=ka (s:=s) hb
 have n2:=ka (s:=x) hb
 rw[hbo]at i1 i2 n1 n2
 have hP:=P3.of (.atom dW) (.atom x) b
 rw[AL hxa hxs]
 have hE1:Wf (.list [.atom dW,.atom x,b]):=w1
 have hE1t:cO (.list [.atom dW,.atom x,b]) []=.rc a:=by rw[eU];exact w2
 have hE1l:(E.list [.atom dW,.atom x,b]).dy<=400:=by
  have:(E.list [.atom dW,.atom x,b]).dy=b.dy+2:=by simp only[E.dy,E.fF];omega
  omega
 refine PX _ _ _ ((a7 _).mpr trivial) ?_
 unfold Lu
 refine ah hA ?_
 simp only[↓zq,zs,ac,zt,aR,bR,toNat_one,bj,hP.1,hP.2.1,hP.2.2.1,hP.2.2.2,ej]
 repeat refine⟨by omega,?_⟩
 refine bC i1 (kO.ne n1) ?_
 rintro r o ⟨rfl,c1,d1,hd1,rfl,hc1⟩
 simp only[↓zq,zs,ac,zt,gv hd1]
 repeat refine⟨by omega,?_⟩
 refine bC i2 (kO.ne n2) ?_
 rintro r o ⟨rfl,c2,d2,hd2,rfl,hc2⟩
 simp only[↓zq,zs,ac,zt,gv hd2]
 cases q1:kV (dF (.name x) a 0) s with
 |
  none =>
  simp only[aT,bc]
  exact⟨fun _=>kO.no _ _ ((a7 _).mpr trivial),fun h=>(by cases h)⟩
 |some c =>
 cases q2:kV (dF (.name x) a 0) x with
 |
  none =>
  simp only[aT,aP,bc,aK]
  exact⟨fun h=>(by cases h),fun _=>⟨fun _=>kO.no _ _ ((a7 _).mpr trivial),fun h=>(by cases h)⟩⟩
 |some d =>
 simp only[aP,aK]
 refine⟨fun h=>(by cases h),fun _=>⟨fun h=>(by cases h),fun _=>?_⟩⟩
 obtain⟨ec,wc,tc,rfl,rfl⟩:=hc1 c q1
 obtain⟨ed,wd,td,rfl,rfl⟩:=hc2 d q2
 have lc:=(cS.1 q1).small
 have ld:=(cS.1 q2).small
 have p1:=Ff hx wc hE1 (wc.iN tc lc) hE1l
 have p2:=Ff hx wd hE1 (wd.iN td ld) hE1l
 have g1:=qH (hE1.qS.sub (x:=x) wc.qS)
 have g2:=qH (hE1.qS.sub (x:=x) wd.qS)
 rw[hE1t,tc]at p1 g1
 rw[hE1t,td]at p2 g2
 simp only[bR]at p1 p2
 repeat refine⟨by omega,?_⟩
 refine bC p1 (kO.ne g1) ?_
 rintro r o ⟨rfl,c3,d3,hd3,rfl,hc3⟩
 simp only[↓zq,zs,ac,zt,gv hd3]
 repeat refine⟨by omega,?_⟩
 refine bC p2 (kO.ne g2) ?_
 rintro r o ⟨rfl,c4,d4,hd4,rfl,hc4⟩
 simp only[↓zq,zs,ac,zt,gv hd4]
 have big:∀t:Ty,mX t=none->¬t.az<=400:=fun t ht hle=>by unfold mX at ht;rw[if_pos hle]at ht;cases ht
 have out0:(mX (sub x (.rc a) c)=none\/mX (sub x (.rc a) d)=none)->mX (pq a x c d)=none:=fun h=>by
  unfold mX
  rw[if_neg fun hle=>?_]
  have:=tQ hle
  rcases h with h|h
  ·exact big _ h this.1
  ·exact big _ h this.2
 cases q3:mX (sub x (.rc a) c)with
 |
  none =>
  rw[out0 (.inl q3)]
  simp only[aT]
  exact⟨fun _=>kO.no _ _ ((a7 _).mpr trivial),fun h=>(by cases h)⟩
 |some c' =>
 cases q4:mX (sub x (.rc a) d)with
 |
  none =>
  rw[out0 (.inr q4)]
  simp only[aT,aP]
  exact⟨fun h=>(by cases h),fun _=>⟨fun _=>kO.no _ _ ((a7 _).mpr trivial),fun h=>(by cases h)⟩⟩
 |some d' =>
 simp only[aP]
 refine⟨fun h=>(by cases h),fun _=>⟨fun h=>(by cases h),fun _=>?_⟩⟩
 obtain⟨ec',wc',tc',rfl,rfl⟩:=hc3 c' q3
 obtain⟨ed',wd',td',rfl,rfl⟩:=hc4 d' q4
 obtain⟨lc',e3⟩:=eT.1 q3
 obtain⟨ld',e4⟩:=eT.1 q4
 rw[e3]at lc';rw[e4]at ld'
 have z1:=wc'.sz
 have z2:=wd'.sz
 have k1:=wc'.iN tc' lc'
 have k2:=wd'.iN td' ld'
 have f1:=Cd wd' [] [] (.sl []) (.of []) (by simp;omega)
 have fl1:=fX ed' [] []
 have fl2:=fX ec' [] (kb ed' [] [])
 simp only[aJ,aV]at fl1
 have f2:=Cd wc' [] (kb ed' [] []) (.sl []) (.of []) (by simp;omega)
 refine aX f1 ?_
 simp only[↓zq,zs,ac,zt,aU,bE,Ob.es]
 refine aX f2 ?_
 simp only[↓zq,zs,ac,zt,aU,bE,Ob.es]
 have hF3:∀y,(bh y c'=true\/bh y d'=true)->y∈kb ec' [] (kb ed' [] []):=fun y hy=>by
  rw[lj wc',lj wd']
  rcases hy with hy|hy
  ·exact .inr (by rw[tc'];exact hy)
  ·exact .inl (.inr (by rw[td'];exact hy))
 generalize kb ec' [] (kb ed' [] [])=F3 at *
 obtain⟨_,y2,_,hyF⟩:=gq F3 0
 refine cq (Lk F3 (by omega) _ _ _ _ ((a7 _).mpr trivial) ((a7 _).mpr trivial) (F3.length+1) 0 (by show nx F3 0<_;omega) (by omega)) ?_
 have hnx:pG F3 (F3.length+1) 0=nx F3 0:=rfl
 rw[hnx]
 simp only[↓zq,zs,ac,zt,ac,bo,bb,a7]
 refine ah (zS (nx F3 0+1) (nx F3 0) (by omega) (by omega)) ?_
 have hdl:=ml (nx F3 0+1) (nx F3 0) (by omega)
 simp only[↓zq,zs,ac,zt,a8,aO]
 refine⟨by omega,?_⟩
 obtain⟨y,hyd⟩:∃y:Nm,(116::dd (nx F3 0):Nm)=y:=⟨_,rfl⟩
 rw[hyd]
 rw[show tN (nx F3 0)=y from hyd]at hyF
 have hy:rJ y:=by rw[<-hyd];exact xu _
 have hcy:cO ec' [y]=c':=by
  have:=tI [y] wc' [] (fun z hz hm=>hyF (by
   simp only[aN]at hm
   rw[<-hm];exact hF3 z (.inl (by rw[<-tc'];exact hz))))
  rw[cL,tc']at this;exact this
 have hdy:cO ed' [y]=d':=by
  have:=tI [y] wd' [] (fun z hz hm=>hyF (by
   simp only[aN]at hm
   rw[<-hm];exact hF3 z (.inr (by rw[<-td'];exact hz))))
  rw[cL,td']at this;exact this
 have hyb:cO (.atom y) [y]=.bN 0:=by
  simp only[cO];rw[if_neg hy.2.1,if_neg hy.2.2,show bH y [y] [y].length=some 0 from eY y []]
 let o1:E:=.list [.atom [42],ed',.atom y]
 let o2:E:=.list [.atom [43],ec',o1]
 let o3:E:=.list [.atom dW,.atom y,o2]
 have hw3:Wf o3:=.rc hy (.plus wc' (.times wd' (.atom hy.1)))
 have ht3:cO o3 []=pq a x c d:=by
  show cO (.list [.atom dW,.atom y,o2]) []=_
  rw[eU]
  show Ty.rc (cO (.list [.atom [43],ec',o1]) [y])=_
  rw[dK]
  show Ty.rc (.plus (cO ec' [y]) (cO (.list [.atom [42],ed',.atom y]) [y]))=_
  rw[di,hcy,hdy,hyb,pq,e3,e4]
 have m1:=xQ [42] ed' (.atom y)
 have m2:=xQ [43] ec' o1
 have m3:=xQ dW (.atom y) o2
 simp only[o1,bR,ej]at m1 m2 m3
 refine ah m1 ?_
 simp only[↓zq,zs,ac,zt,aR]
 repeat refine⟨by omega,?_⟩
 refine ah m2 ?_
 simp only[↓zq,zs,ac,zt,aR]
 repeat refine⟨by omega,?_⟩
 refine ah m3 ?_
 simp only[↓zq,zs,ac,zt,aR]
 repeat refine⟨by omega,?_⟩
 have z3:=hw3.sz
 have hats3:o3.dy=ec'.dy+ed'.dy+5:=by simp only[o3,o2,o1,E.dy,E.fF];omega
 have ma:=FG o3 hw3.ok (by omega)
 rw[dr]at ma
 simp only[o3,o2,o1,bR]at ma
 refine ah ma ?_
 simp only[↓zq,zs,ac,zt]
 have hd3:(pq a x c d).az=o3.dy:=by rw[<-ht3,<-hw3.dy []]
 unfold mX
 by_cases hle:(pq a x c d).az<=400
 ·rw[if_pos hle]
  have:=kO.of hw3
  rw[ht3]at this
  rw[show decide ((((E.list [.atom dW,.atom y,.list [.atom [43],ec',.list [.atom [42],ed',.atom y]]]).dy:Nat):Int)<=400)=true from decide_eq_true (by show ((o3.dy:Nat):Int)<=400;omega)]
  exact this
 ·rw[if_neg hle]
  rw[show decide ((((E.list [.atom dW,.atom y,.list [.atom [43],ec',.list [.atom [42],ed',.atom y]]]).dy:Nat):Int)<=400)=false from decide_eq_false (by show ¬((o3.dy:Nat):Int)<=400;omega)]
  exact kO.no _ _ ((a7 o3).mpr trivial)
theorem zj:∀n,QT n
 |0=>fun e s h hl=>by have:=ef (cO e []);rw[<-h.dy []]at this;omega
 |
  n+1=>by
  intro e s h hl h4 hs
  cases h with
  |
   @atom c hc =>
   refine Db _ _ _ ((a7 _).mpr trivial) ?_
   simp only[BF,ej,↓zq,zs,ac,zt]
   refine⟨fun _=>⟨fun he=>?_,fun hne=>?_⟩,fun h=>absurd h hc⟩
   ·have he:c=s:=he
    subst he
    rw[qn hs,n6,if_pos rfl]
    exact kO.of (e:=.atom [49]) (.atom (by simp))
   ·have hne:¬c=s:=hne
    have:kV (cO (.atom c) []) s=some .zero:=by
     simp only[cO]
     split
     ·exact vt _
     ·split
      ·exact wZ _
      ·rw[show bH c [] ([]:List Nm).length=none from rfl,n6,if_neg hne]
    rw[this]
    exact kO.of (e:=.atom [48]) (.atom (by simp))
  |
   @plus x y hx hy =>
   have hxy:(E.list [.atom [43],x,y]).dy=x.dy+y.dy+1:=by simp only[E.dy,E.fF];omega
   have p1:1<=x.dy:=by rw[hx.dy []];exact ef _
   have p2:1<=y.dy:=by rw[hy.dy []];exact ef _
   refine Db _ _ _ ((a7 _).mpr trivial) ?_
   have hP:=P3.of (.atom [43]) x y
   simp only[BF,bR,toNat_one,bj,↓zq,zs,ac,zt,hP.1,hP.2.1,hP.2.2.1,hP.2.2.2,aR]
   refine⟨fun h=>absurd rfl h,fun _=>?_⟩
   refine ah (p7 [43] x y) ?_
   simp only[↓zq,zs,ac,zt]
   refine⟨fun h=>by simp at h,fun _=>?_⟩
   repeat refine⟨by omega,?_⟩
   rw[dK,uy]
   refine bC (zj n x s hx (by omega) (by omega) hs) (kO.ne (ka hx)) ?_
   rintro r o ⟨rfl,c1,d1,hd1,rfl,hc1⟩
   simp only[↓zq,zs,ac,zt,gv hd1]
   repeat refine⟨by omega,?_⟩
   refine bC (zj n y s hy (by omega) (by omega) hs) (kO.ne (ka hy)) ?_
   rintro r o ⟨rfl,c2,d2,hd2,rfl,hc2⟩
   simp only[↓zq,zs,ac,zt,gv hd2]
   refine ah (By [43] c1 c2 d1 d2) ?_
   simp only[↓zq,zs,ac,zt,bu,dY,cc]
   repeat refine⟨by omega,?_⟩
   refine ah (p7 [43] x y) ?_
   simp only[↓zq,zs,ac,zt]
   refine⟨fun h=>by simp at h,fun _=>?_⟩
   cases q1:kV (cO x []) s with
   |
    none =>
    simp only[aT,bc]
    exact⟨fun h=>(by cases h),fun _=>kO.no _ _ ((cc _).mpr trivial)⟩
   |some tx =>
   cases q2:kV (cO y []) s with
   |
    none =>
    simp only[aT,aP,bc,aK]
    exact⟨fun _=>⟨fun h=>(by cases h),fun _=>kO.no _ _ ((cc _).mpr trivial)⟩,fun h=>(by cases h)⟩
   |some t2 =>
   simp only[aP,aK]
   refine⟨fun _=>⟨fun _=>?_,fun h=>(by cases h)⟩,fun h=>(by cases h)⟩
   obtain⟨e1,w1,te1,rfl,rfl⟩:=hc1 tx q1
   obtain⟨e2,w2,te2,rfl,rfl⟩:=hc2 t2 q2
   have l1:=w1.iN te1 (cS.1 q1).small
   have l2:=w2.iN te2 (cS.1 q2).small
   have z1:=w1.sz
   have z2:=w2.sz
   have hw3:Wf (.list [.atom [43],e1,e2]):=.plus w1 w2
   have ht3:cO (.list [.atom [43],e1,e2]) []=.plus tx t2:=by rw[dK,te1,te2]
   have ma:=FG _ hw3.ok (by simp only[E.sz,E.jM];omega)
   rw[dr]at ma
   simp only[bR]at ma
   have e3:AV.sl [[.v (.string (mk [43])),xt],[.v (.string (mk e1.at)),e1.sp],[.v (.string (mk e2.at)),e2.sp]]=(E.list [.atom [43],e1,e2]).sp:=by simp only[E.sp,E.bn,fw];rfl
   rw[e3]
   refine ah ma ?_
   simp only[↓zq,zs,ac,zt]
   have hd3:(Ty.plus tx t2).az=(E.list [.atom [43],e1,e2]).dy:=by rw[<-ht3,<-hw3.dy []]
   unfold mX
   by_cases hle:(Ty.plus tx t2).az<=400
   ·rw[if_pos hle,show decide ((((E.list [.atom [43],e1,e2]).dy:Nat):Int)<=400)=true from decide_eq_true (by omega)]
    have:=kO.of hw3
    rw[ht3]at this
    exact this
   ·rw[if_neg hle,show decide ((((E.list [.atom [43],e1,e2]).dy:Nat):Int)<=400)=false from decide_eq_false (by omega)]
    exact kO.no _ _ ((a7 _).mpr trivial)
  |
   @times x y hx hy =>
   have hxy:(E.list [.atom [42],x,y]).dy=x.dy+y.dy+1:=by simp only[E.dy,E.fF];omega
   have p1:1<=x.dy:=by rw[hx.dy []];exact ef _
   have p2:1<=y.dy:=by rw[hy.dy []];exact ef _
   refine Db _ _ _ ((a7 _).mpr trivial) ?_
   have hP:=P3.of (.atom [42]) x y
   simp only[BF,bR,toNat_one,bj,↓zq,zs,ac,zt,hP.1,hP.2.1,hP.2.2.1,hP.2.2.2,aR]
   refine⟨fun h=>absurd rfl h,fun _=>?_⟩
   refine ah (p7 [42] x y) ?_
   simp only[↓zq,zs,ac,zt]
   refine⟨fun h=>by simp at h,fun _=>?_⟩
   repeat refine⟨by omega,?_⟩
   rw[di,so]
   refine bC (zj n x s hx (by omega) (by omega) hs) (kO.ne (ka hx)) ?_
   rintro r o ⟨rfl,c1,d1,hd1,rfl,hc1⟩
   simp only[↓zq,zs,ac,zt,gv hd1]
   repeat refine⟨by omega,?_⟩
   refine bC (zj n y s hy (by omega) (by omega) hs) (kO.ne (ka hy)) ?_
   rintro r o ⟨rfl,c2,d2,hd2,rfl,hc2⟩
   simp only[↓zq,zs,ac,zt,gv hd2]
   refine ah (By [43] c1 c2 d1 d2) ?_
   simp only[↓zq,zs,ac,zt,bu,dY,cc]
   repeat refine⟨by omega,?_⟩
   refine ah (p7 [42] x y) ?_
   simp only[↓zq,zs,ac,zt]
   refine⟨fun _=>?_,fun h=>by simp at h⟩
   repeat refine⟨by omega,?_⟩
   refine ah (By [42] c1 y.at d1 y.sp) ?_
   simp only[↓zq,zs,ac,zt,bu,dY,cc,a7]
   repeat refine⟨by omega,?_⟩
   refine ah (By [42] x.at c2 x.sp d2) ?_
   simp only[↓zq,zs,ac,zt,bu,dY,cc,a7]
   repeat refine⟨by omega,?_⟩
   refine ah (By [43] [] [] _ _) ?_
   simp only[↓zq,zs,ac,zt,bu,dY,cc]
   repeat refine⟨by omega,?_⟩
   cases q1:kV (cO x []) s with
   |
    none =>
    simp only[aT,bc]
    exact⟨fun h=>(by cases h),fun _=>kO.no _ _ ((cc _).mpr trivial)⟩
   |some tx =>
   cases q2:kV (cO y []) s with
   |
    none =>
    simp only[aT,aP,bc,aK]
    exact⟨fun _=>⟨fun h=>(by cases h),fun _=>kO.no _ _ ((cc _).mpr trivial)⟩,fun h=>(by cases h)⟩
   |some t2 =>
   simp only[aP,aK]
   refine⟨fun _=>⟨fun _=>?_,fun h=>(by cases h)⟩,fun h=>(by cases h)⟩
   obtain⟨e1,w1,te1,rfl,rfl⟩:=hc1 tx q1
   obtain⟨e2,w2,te2,rfl,rfl⟩:=hc2 t2 q2
   have l1:=w1.iN te1 (cS.1 q1).small
   have l2:=w2.iN te2 (cS.1 q2).small
   have z1:=w1.sz
   have z2:=w2.sz
   have z3:=hx.sz
   have z4:=hy.sz
   have hw3:Wf (.list [.atom [43],.list [.atom [42],e1,y],.list [.atom [42],x,e2]]):=.plus (.times w1 hy) (.times hx w2)
   have ht3:cO (.list [.atom [43],.list [.atom [42],e1,y],.list [.atom [42],x,e2]]) []=.plus (.times tx (cO y [])) (.times (cO x []) t2):=by rw[dK,di,di,te1,te2]
   have ma:=FG _ hw3.ok (by simp only[E.sz,E.jM];omega)
   rw[dr]at ma
   simp only[bR]at ma
   have e3:AV.sl [[.v (.string (mk [43])),xt],[.v (.string (mk [])),.sl [[.v (.string (mk [42])),xt],[.v (.string (mk e1.at)),e1.sp],[.v (.string (mk y.at)),y.sp]]],[.v (.string (mk [])),.sl [[.v (.string (mk [42])),xt],[.v (.string (mk x.at)),x.sp],[.v (.string (mk e2.at)),e2.sp]]]]=(E.list [.atom [43],.list [.atom [42],e1,y],.list [.atom [42],x,e2]]).sp:=by simp only[E.sp,E.bn,fw];rfl
   rw[e3]
   refine ah ma ?_
   simp only[↓zq,zs,ac,zt]
   have hd3:(Ty.plus (.times tx (cO y [])) (.times (cO x []) t2)).az=(E.list [.atom [43],.list [.atom [42],e1,y],.list [.atom [42],x,e2]]).dy:=by rw[<-ht3,<-hw3.dy []]
   unfold mX
   by_cases hle:(Ty.plus (.times tx (cO y [])) (.times (cO x []) t2)).az<=400
   ·rw[if_pos hle,show decide ((((E.list [.atom [43],.list [.atom [42],e1,y],.list [.atom [42],x,e2]]).dy:Nat):Int)<=400)=true from decide_eq_true (by omega)]
    have:=kO.of hw3
    rw[ht3]at this
    exact this
   ·rw[if_neg hle,show decide ((((E.list [.atom [43],.list [.atom [42],e1,y],.list [.atom [42],x,e2]]).dy:Nat):Int)<=400)=false from decide_eq_false (by omega)]
    exact kO.no _ _ ((a7 _).mpr trivial)
  |
   @rc m B hm hB =>
   have hlp:=Oz n (zj n) m B hm hB hl h4 s hs
   have hg:=ka (s:=s) (Wf.rc hm hB)
   refine Db _ _ _ ((a7 _).mpr trivial) ?_
   have hP:=P3.of (.atom dW) (.atom m) B
   simp only[BF,bR,toNat_one,bj,↓zq,zs,ac,zt,hP.1,hP.2.1,hP.2.2.1,hP.2.2.2,aR]
   refine⟨fun h=>absurd rfl h,fun _=>?_⟩
   refine ah (p7 dW (.atom m) B) ?_
   simp only[↓zq,zs,ac,zt]
   refine⟨fun _=>?_,fun h=>absurd rfl h⟩
   refine bC hlp (kO.ne hg) ?_
   rintro r o ⟨rfl,c1,d1,hd1,rfl,hc1⟩
   simp only[↓zq,zs,ac,zt,gv hd1]
   exact⟨rfl,c1,d1,hd1,rfl,hc1⟩
end Go.Proofs.Trees
namespace Go.Proofs.Trees
open Go Go.VL Go.RowKit
theorem nL:∀(n k:Nat),k<10 ^ (n+1)->(dd k).length<=n+1
 |0,k,h=>by rw[eH (by omega)];simp
 |
  n+1,k,h=>by
  by_cases h1:k<10
  ·rw[eH h1];simp
  ·rw[fI h1]
   have:=nL n (k/10) (by
    have:10 ^ (n+1+1)=10*10 ^ (n+1):=by rw[Nat.pow_succ,Nat.mul_comm]
    omega)
   simp;omega
inductive Sh:E->Prop
 |atom {s:Nm} (h:s.length<=20):Sh (.atom s)
 |l3 {h:Nm} {a b:E} (hh:h.length<=20) (ha:Sh a) (hb:Sh b):Sh (.list [.atom h,a,b])
theorem Sh.cN{e:E}(hw:Wf e)(h:Sh e):(fN e).length<=50*e.dy:=by
 induction hw with
 |atom _=>cases h with|atom h=>simp only[fN,E.dy];omega
 |
  plus _ _ i1 i2 =>
  cases h with|l3 hh ha hb =>
  have:=i1 ha
  have:=i2 hb
  simp only[fN,ei,aB,ax,aJ,E.dy,E.fF];omega
 |
  times _ _ i1 i2 =>
  cases h with|l3 hh ha hb =>
  have:=i1 ha
  have:=i2 hb
  simp only[fN,ei,aB,ax,aJ,E.dy,E.fF];omega
 |
  rc _ _ i =>
  cases h with|l3 hh ha hb =>
  cases ha with|atom ha =>
  have:=i hb
  simp only[fN,ei,aB,ax,aJ,E.dy,E.fF];omega
def ue(t:Ty):Prop:=∀y,bh y t=true->y.length<=20
theorem vZ{k:Nat}(h:k<100000000):(tN k).length<=20:=by
 have:=nL 7 k (by omega)
 simp;omega
theorem o0(F:List Nm)(hF:F.length<=10000):∀(t:Ty) (to:List Nm) (k:Nat),ue t->(∀w,w∈to->w.length<=20)->k+(F.length+1)*t.az<90000000->Sh (gV F t to k).1
 | .zero,_,_,_,_,_=>.atom (by simp)
 | .one,_,_,_,_,_=>.atom (by simp)
 | .name s,_,_,hn,_,_=>.atom (hn s (by simp[bh]))
 |
  .bN u,to,_,_,ht,_=>by
  refine .atom ?_
  show (gd to u).length<=20
  unfold gd
  by_cases h:to.length-1-u<to.length
  ·rw[aa,bg h];exact ht _ (bA h)
  ·rw[aa,List.getElem?_eq_none (by omega)];simp
 |
  .plus a b,to,k,hn,ht,hk=>by
  have h1:=ig F a to k
  have:(F.length+1)*(1+a.az+b.az)=(F.length+1)+(F.length+1)*a.az+(F.length+1)*b.az:=by simp only[cR,dC]
  simp only[Ty.az]at hk
  exact .l3 (by simp) (o0 F hF a to k (fun y hy=>hn y (by simp[bh,hy])) ht (by omega)) (o0 F hF b to _ (fun y hy=>hn y (by simp[bh,hy])) ht (by omega))
 |
  .times a b,to,k,hn,ht,hk=>by
  have h1:=ig F a to k
  have:(F.length+1)*(1+a.az+b.az)=(F.length+1)+(F.length+1)*a.az+(F.length+1)*b.az:=by simp only[cR,dC]
  simp only[Ty.az]at hk
  exact .l3 (by simp) (o0 F hF a to k (fun y hy=>hn y (by simp[bh,hy])) ht (by omega)) (o0 F hF b to _ (fun y hy=>hn y (by simp[bh,hy])) ht (by omega))
 |
  .rc a,to,k,hn,ht,hk=>by
  obtain⟨g1,g2,_,_⟩:=gq F k
  have:(F.length+1)*(2+a.az)=(F.length+1)*2+(F.length+1)*a.az:=by simp only[cR]
  simp only[Ty.az]at hk
  have hl:=vZ (k:=nx F k) (by omega)
  exact .l3 (by simp) (.atom hl) (o0 F hF a _ _ hn (fun w hw=>by
   rcases aI.1 hw with hw|hw
   ·exact ht w hw
   ·simp only[aN]at hw;rw[hw];exact hl) (by omega))
def Dq(t:Ty):Nm:=fN (gV (bF t []) t [] 0).1
def told(t:Ty):Option Nm:=if t.az<=400/\(p9 (Dq t)).isSome=true then some (Dq t)else none
theorem Cu{t:Ty}(g:fO t)(hs:ue t)(ha:t.az<=400):(Dq t).length<=20000:=by
 obtain⟨h1,h2,_⟩:=kq (bF t []) t [] 0 (.nil _ _) g.1 fun y hy=>⟨(eG t [] y).2 (.inr hy),g.2 y hy⟩
 have hn:=ep t []
 simp only[aJ,aV]at hn
 have hm:((bF t []).length+1)*t.az<=401*400:=Nat.mul_le_mul (by omega) ha
 have:=(o0 (bF t []) (by omega) t [] 0 hs (fun w hw=>by cases hw) (by omega)).cN h1
 have:=h1.iN h2 ha
 unfold Dq;omega
theorem tK(s:Nm):(vC s).isSome=(p9 s).isSome:=by
 rw[tG]
 cases he:vC s with
 |none=>rfl
 |
  some e =>
  obtain⟨h1,h2,h3⟩:=pj he
  simp only[iJ e [],h2];rfl
theorem P5(s:Nm):an Tryz.prog 168 [.v (.string (mk s))] [] (bB (.v (.bool (p9 s).isSome))):=by
 refine N2 _ ?_
 unfold JA
 refine bC (GB s) (jR.ne _ _ (fun h=>h)) ?_
 rintro r o ⟨c,d,hd,rfl,hh⟩
 have hhas:bu [.str,.sl] [.v (.string (mk c)),d] 0:=by simp[bu,dY,hd]
 simp only[↓zq,zs,ac,zt,tK]
 exact⟨hhas,rfl,rfl⟩
theorem Qv{e:E}(h:Wf e)(hl:e.dy<=400)(hs:ue (cO e [])):an Tryz.prog 134 [.agg [.v (.string (mk e.at)),e.sp]] [] (bB (pu (told (cO e [])))):=by
 refine Ny _ _ ((a7 _).mpr trivial) ?_
 unfold ML
 have z:=h.sz
 have ma:=FG e h.ok (by omega)
 rw[dr]at ma
 have hA:=F7 h xt [] ⟨(bb).mpr trivial,rfl⟩ (by omega) (fun o ho=>by cases ho) (by simp)
 have ha:(cO e []).az<=400:=by rw[<-h.dy []];exact hl
 have hc:AH e []=(gV (bF (cO e []) []) (cO e []) [] 0).1:=by
  unfold AH zu rp
  rw[List.flatMap_nil,cL,jz (F':=bF (cO e []) []) fun y=>by rw[lj h,eG]]
 have hx:fN (AH e [])=Dq (cO e []):=by rw[hc];rfl
 have hlen:=Cu h.qS hs ha
 have hT:=BL (AH e []) (Ad h).1.ok (by rw[hx];omega)
 rw[dr,hx]at hT
 refine ah ma ?_
 simp only[↓zq,zs,ac,zt]
 refine⟨fun h=>by omega,fun _=>?_⟩
 refine ah hA ?_
 simp only[↓zq,zs,ac,zt,aR]
 refine ah hT ?_
 simp only[↓zq,zs,ac,zt]
 refine ah (P5 _) ?_
 simp only[↓zq,zs,ac,zt]
 unfold told
 refine⟨fun hn=>?_,fun hy=>?_⟩
 ·rw[if_neg (by rw[hn];simp)];exact⟨rfl,rfl⟩
 ·rw[if_pos ⟨ha,hy⟩];exact⟨rfl,rfl⟩
abbrev lL:Nm:=[35,49]
noncomputable def cJ (s:Nm):Option Nm:=match p9 s with
 |some (.rc a)=>(oL a lL).bind told
 |_=>none
theorem oN{s:Nm}{t:Ty}(h:p9 s=some t):∃e,vC s=some e/\Wf e/\cO e []=t/\e.dy<=400/\e.ok:=by
 rw[tG]at h
 cases he:vC s with
 |none=>rw[he]at h;cases h
 |
  some e =>
  rw[he]at h
  obtain⟨h1,h2,h3⟩:=pj he
  obtain⟨hok,_⟩:=ny h1
  obtain⟨w1,w2⟩:=lH e [] t hok (fun w hw=>by cases hw) h
  exact⟨e,rfl,w1,w2,h3,hok⟩
theorem qm{e:E}{x:Nm}{a d:Ty}(hw:Wf e)(ht:cO e []=.rc a)(hx:rJ x)(hd:oL a x=some d):fO d/\(ue (.rc a)->ue d):=by
 simp only[oL,bm,cS,eT]at hd
 obtain⟨d',h1,_,rfl⟩:=hd
 have g:fO (.rc a):=ht ▸ hw.qS
 have go:fO (dF (.name x) a 0):=⟨iI x a g.1,fun y hy=>by
  rcases gr a 0 hy with rfl|h
  ·exact hx
  ·exact g.2 y h⟩
 refine⟨g.sub (go.dv h1),fun hs y hy=>?_⟩
 rcases iU _ hy with h|⟨h,h'⟩
 ·exact hs y h
 ·rcases gr a 0 (h1.names y h')with e|e
  ·exact absurd e h
  ·exact hs y e
def Jc(y:Nm):Prop:=gO y=true\/cZ y=true
theorem iD:∀(e:E) (ar:List Nm) (t:Ty),cP e ar=some t->∀y,bh y t=true->Jc y
 |
  .atom s,ar,t,ht,y,hy=>by
  simp only[cP]at ht
  split at ht
  ·cases ht;cases hy
  ·split at ht
   ·cases ht;cases hy
   ·split at ht
    ·rename_i hp
     cases ht
     simp only[bh,decide_eq_true_eq]at hy
     subst hy;exact .inl hp
    ·split at ht
     ·rename_i hq
      split at ht
      ·cases ht;cases hy
      ·cases ht
       simp only[bh,decide_eq_true_eq]at hy
       subst hy;exact .inr hq
     ·cases ht
 |
  .list [x,a,b],ar,t,ht,y,hy=>by
  by_cases h0:x.at=[43]
  ·obtain⟨t1,t2,h1,h2,rfl⟩:=fu h0 ht
   simp only[bh,bw]at hy
   rcases hy with hy|hy
   ·exact iD a ar t1 h1 y hy
   ·exact iD b ar t2 h2 y hy
  ·by_cases h1:x.at=[42]
   ·obtain⟨t1,t2,h2,h3,rfl⟩:=eQ h1 ht
    simp only[bh,bw]at hy
    rcases hy with hy|hy
    ·exact iD a ar t1 h2 y hy
    ·exact iD b ar t2 h3 y hy
   ·by_cases h2:x.at=[114,101,99]
    ·obtain⟨t1,hla,h3,rfl⟩:=dx h2 ht
     exact iD b _ t1 h3 y hy
    ·rw[iS _ h0 h1 h2]at ht;cases ht
 | .list [],ar,t,ht,_,_=>by cases ht
 | .list [_],ar,t,ht,_,_=>by cases ht
 | .list [_,_],ar,t,ht,_,_=>by cases ht
 | .list (_::_::_::_::_),ar,t,ht,_,_=>by cases ht
theorem wo{y:Nm}(h:Jc y):y.length<=3/\∀r,y≠35::r:=by
 have key:∀lo hi,116<=lo->named lo hi y=true->y.length<=3/\∀r,y≠35::r:=fun lo hi hlo h=>by
  cases y with
  |nil=>cases h
  |
   cons c r =>
   simp only[named,ap,decide_eq_true_eq]at h
   refine⟨by simp;omega,fun r' e=>?_⟩
   have:c=35:=by injection e
   subst this
   have:=h.1.2.1
   have e35:(35:UInt8).toNat=35:=rfl
   omega
 rcases h with h|h
 ·exact key 120 122 (by omega) h
 ·exact key 116 116 (by omega) h
theorem mC{s:Nm}{t:Ty}(h:p9 s=some t):∀y,bh y t=true->Jc y:=by
 rw[tG]at h
 cases he:vC s with
 |none=>rw[he]at h;cases h
 |some e=>rw[he]at h;exact iD e [] t h
theorem vK{s:Nm}{a:Ty}(h:p9 s=some (.rc a)):bh lL a=false:=by
 cases q:bh lL a with
 |false=>rfl
 |true=>exact absurd rfl ((wo (mC h lL q)).2 [49])
theorem Bt{s:Nm}{t:Ty}(h:p9 s=some t):ue t:=fun y hy=>by have:=(wo (mC h y hy)).1;omega
theorem Ox{m:Nm}{B:E}(hm:rJ m)(hB:Wf B)(hl:(E.list [.atom dW,.atom m,B]).dy<=400):an Tryz.prog 133 [.agg [.v (.string (mk [])),(E.list [.atom dW,.atom m,B]).sp]] [] (kO (oL (cO B [m]) m)):=by
 have hw:Wf (.list [.atom dW,.atom m,B]):=.rc hm hB
 have hT:cO (.list [.atom dW,.atom m,B]) []=.rc (cO B [m]):=eU _ _ _
 have hP:=P3.of (.atom dW) (.atom m) B
 have hbo:cO B []=dF (.name m) (cO B [m]) 0:=by
  have:=xB m hB []
  rw[cL]at this;exact this
 have hba:B.dy+2=(E.list [.atom dW,.atom m,B]).dy:=by simp only[E.dy,E.fF];omega
 have i1:=zj 400 B m hB (by omega) (by omega) hm
 have n1:=ka (s:=m) hB
 rw[hbo]at i1 n1
 refine PV _ _ ((a7 _).mpr trivial) ?_
 simp only[HC,bR,toNat_one,bj,↓zq,zs,ac,zt,hP.1,hP.2.1,hP.2.2.1,hP.2.2.2,aR,ej]
 repeat refine⟨by omega,?_⟩
 refine bC i1 (kO.ne n1) ?_
 rintro r o ⟨rfl,c1,d1,hd1,rfl,hc1⟩
 simp only[↓zq,zs,ac,zt,gv hd1,oL]
 cases q1:kV (dF (.name m) (cO B [m]) 0) m with
 |
  none =>
  simp only[aT,bc]
  exact⟨fun _=>kO.no _ _ ((a7 _).mpr trivial),fun h=>(by cases h)⟩
 |
  some d =>
  simp only[aP,aK]
  refine⟨fun h=>(by cases h),fun _=>?_⟩
  obtain⟨ed,wd,td,rfl,rfl⟩:=hc1 d q1
  have p1:=Ff hm wd hw (wd.iN td (cS.1 q1).small) hl
  have g1:=qH (hw.qS.sub (x:=m) wd.qS)
  rw[hT,td]at p1 g1
  simp only[bR]at p1
  repeat refine⟨by omega,?_⟩
  refine bC p1 (kO.ne g1) ?_
  rintro r o ⟨rfl,c2,d2,hd2,rfl,hc2⟩
  simp only[↓zq,zs,ac,zt,gv hd2]
  exact⟨rfl,c2,d2,hd2,rfl,hc2⟩
theorem I7(s:Nm):an Tryz.prog 96 [.v (.string (mk s))] [] (bB (pu (cJ s))):=by
 refine ON _ ?_
 unfold Ja
 refine bC (GB s) (jR.ne _ _ (fun h=>h)) ?_
 rintro r o ⟨c,d,hd,rfl,hh⟩
 have hhas:bu [.str,.sl] [.v (.string (mk c)),d] 0:=by simp[bu,dY,hd]
 simp only[↓zq,zs,ac,zt]
 refine⟨hhas,fun h=>?_,fun h=>?_⟩
 ·rw[tK]at h
  have:p9 s=none:=by cases hq:p9 s<;>simp[hq]at h |-
  unfold cJ;rw[this];exact⟨rfl,rfl⟩
 ·rw[tK]at h
  obtain⟨t,ht⟩:=bK.1 h
  obtain⟨e,he,hw,hte,hats,hok⟩:=oN ht
  obtain⟨e',he',hce⟩:=hh (by rw[he];rfl)
  rw[he]at he';cases he'
  have notRec:(∀a,t≠.rc a)->cJ s=none:=fun hn=>by
   unfold cJ;rw[ht]
   cases t<;>first|rfl|exact absurd rfl (hn _)
  rw[hce,dr]
  cases hw with
  |
   @atom c hc =>
   have hn:cJ s=none:=notRec fun a q=>by
    rw[<-hte]at q
    simp only[cO]at q
    split at q
    ·cases q
    ·split at q
     ·cases q
     ·split at q<;>cases q
   rw[hn]
   refine ah (Ch c _ ((a7 _).mpr trivial) hc) ?_
   simp only[↓zq,zs,ac,zt]
   exact⟨fun _=>⟨rfl,rfl⟩,fun h=>by simp at h⟩
  |
   @plus x y hx hy =>
   have hn:cJ s=none:=notRec fun a q=>by rw[<-hte,dK]at q;cases q
   rw[hn]
   simp only[bR]
   refine ah (p7 [43] x y) ?_
   simp only[↓zq,zs,ac,zt]
   exact⟨fun _=>⟨rfl,rfl⟩,fun h=>by simp at h⟩
  |
   @times x y hx hy =>
   have hn:cJ s=none:=notRec fun a q=>by rw[<-hte,di]at q;cases q
   rw[hn]
   simp only[bR]
   refine ah (p7 [42] x y) ?_
   simp only[↓zq,zs,ac,zt]
   exact⟨fun _=>⟨rfl,rfl⟩,fun h=>by simp at h⟩
  |
   @rc m B hm hB =>
   have hrt:cO (.list [.atom dW,.atom m,B]) []=.rc (cO B [m]):=eU _ _ _
   rw[hrt]at hte
   have hq:cJ s=(oL (cO B [m]) m).bind told:=by
    unfold cJ;rw[ht,<-hte]
    show (oL (cO B [m]) lL).bind told=_
    rw[ER (vK (by rw[ht,<-hte])) (by
     cases q:bh m (cO B [m])with
     |false=>rfl
     |true=>exact absurd (by simp) (mK hB [m] m q).2)]
   rw[hq]
   simp only[bR]
   refine ah (p7 dW (.atom m) B) ?_
   simp only[↓zq,zs,ac,zt]
   refine⟨fun h=>by simp at h,fun _=>?_⟩
   have hgood:∀d,oL (cO B [m]) m=some d->fO d/\(ue (.rc (cO B [m]))->ue d):=fun d hd=>qm (Wf.rc hm hB) hrt hm hd
   refine bC (Ox hm hB hats) (kO.ne fun t h=>(hgood t h).1) ?_
   rintro r o ⟨rfl,c1,d1,hd1,rfl,hc1⟩
   simp only[↓zq,zs,ac,zt,gv hd1]
   cases q1:oL (cO B [m]) m with
   |
    none =>
    simp only[aT,bc]
    exact⟨fun _=>⟨rfl,rfl⟩,fun h=>(by cases h)⟩
   |
    some d =>
    simp only[aP,aK]
    refine⟨fun h=>(by cases h),fun _=>?_⟩
    obtain⟨ed,wd,td,rfl,rfl⟩:=hc1 d q1
    have hl:d.az<=400:=by
     simp only[oL,bm,eT]at q1
     obtain⟨_,_,h1,h2⟩:=q1
     rw[<-h2];exact h1
    have hcn:=Qv wd (wd.iN td hl) (by rw[td];exact(hgood d q1).2 (hte ▸ Bt ht))
    rw[td]at hcn
    refine ah hcn ?_
    cases told d<;>simp only[pu,↓zq,zs,ac,zt]<;>exact⟨rfl,rfl⟩
end Go.Proofs.Trees
namespace Go.Proofs.Trees
open Go Go.VL Go.RowKit
def vT(n:Nat):Vl->Ty->Bool
 | .u,.one=>true
 | .el k,.name _=>decide (k<n)
 | .l w,.plus a _=>vT n w a
 | .r w,.plus _ b=>vT n w b
 | .p x y,.times a b=>vT n x a&&vT n y b
 | .f w,.rc a=>vT n w (dF (.rc a) a 0)
 |_,_=>false
def lP(us:List Ty):Ty->Nat->Ty
 | .bN k,i=>if k<i then .bN k else us.getD (k-i) .zero
 | .plus a b,i=>.plus (lP us a i) (lP us b i)
 | .times a b,i=>.times (lP us a i) (lP us b i)
 | .rc a,i=>.rc (lP us a (i+1))
 |t,_=>t
def xT:List Fr->List Ty
 |[]=>[]
 |f::r=>lP (xT r) (yf f.ex r) 0::xT r
theorem lD(u:Ty):∀(t:Ty) {i:Nat},jT t i->dF u t i=t
 | .bN k,i,h=>by simp only[dF];rw[if_neg (by have:k<i:=h;omega)]
 | .plus a b,i,h=>by simp only[dF];rw[lD u a h.1,lD u b h.2]
 | .times a b,i,h=>by simp only[dF];rw[lD u a h.1,lD u b h.2]
 | .rc a,i,h=>by simp only[dF];rw[lD u a (i:=i+1) h]
 | .zero,_,_=>rfl
 | .one,_,_=>rfl
 | .name _,_,_=>rfl
theorem pk(us:List Ty):∀(t:Ty) {i:Nat},jT t i->lP us t i=t
 | .bN k,i,h=>by simp only[lP];rw[if_pos (by have:k<i:=h;omega)]
 | .plus a b,i,h=>by simp only[lP];rw[pk us a h.1,pk us b h.2]
 | .times a b,i,h=>by simp only[lP];rw[pk us a h.1,pk us b h.2]
 | .rc a,i,h=>by simp only[lP];rw[pk us a (i:=i+1) h]
 | .zero,_,_=>rfl
 | .one,_,_=>rfl
 | .name _,_,_=>rfl
theorem wY{us:List Ty}(hu:∀u,u∈us->jT u 0)(k:Nat):jT (us.getD k .zero) 0:=by
 by_cases h:k<us.length
 ·rw[aa,bg h];exact hu _ (bA h)
 ·rw[aa,List.getElem?_eq_none (by omega)];trivial
theorem pf{us:List Ty}(hu:∀u,u∈us->jT u 0):∀(t:Ty) (i:Nat),jT (lP us t i) i
 |
  .bN k,i=>by
  simp only[lP]
  split
  ·rename_i h;exact h
  ·exact gu _ (wY hu _) (Nat.zero_le _)
 | .plus a b,i=>⟨pf hu a i,pf hu b i⟩
 | .times a b,i=>⟨pf hu a i,pf hu b i⟩
 | .rc a,i=>pf hu a (i+1)
 | .zero,_=>trivial
 | .one,_=>trivial
 | .name _,_=>trivial
theorem mG{us:List Ty}(hu:∀u,u∈us->jT u 0)(U:Ty):∀(t:Ty) (i:Nat),dF U (lP us t (i+1)) i=lP (U::us) t i
 |
  .bN k,i=>by
  simp only[lP]
  by_cases h1:k<i
  ·rw[if_pos (by omega),if_pos h1];simp only[dF];rw[if_neg (by omega)]
  ·rw[if_neg h1]
   by_cases h2:k=i
   ·subst h2;rw[if_pos (by omega)];simp[dF]
   ·rw[if_neg (by omega),lD U _ (gu _ (wY hu _) (Nat.zero_le _)),show k-i=(k-(i+1))+1 by omega,List.getD_cons_succ]
 | .plus a b,i=>by simp only[lP,dF];rw[mG hu U a i,mG hu U b i]
 | .times a b,i=>by simp only[lP,dF];rw[mG hu U a i,mG hu U b i]
 | .rc a,i=>by simp only[lP,dF];rw[mG hu U a (i+1)]
 | .zero,_=>rfl
 | .one,_=>rfl
 | .name _,_=>rfl
theorem vH:∀env:List Fr,∀u,u∈xT env->jT u 0
 |[],u,h=>by cases h
 |
  f::r,u,h=>by
  rcases aF.1 h with rfl|h
  ·exact pf (vH r) _ 0
  ·exact vH r u h
theorem CY{env:List Fr}(h:WF env):∀{u:Nat} {g:Fr},env[u]?=some g->(xT env).getD u .zero=lP (xT g.out) (yf g.ex g.out) 0:=by
 induction h with
 |nil=>intro u g hg;simp at hg
 |
  cons hs hok hx ht hf hr ih =>
  intro u g hg
  cases u with
  |zero=>simp at hg;subst hg;rfl
  |
   succ u =>
   have:=ih (u:=u) (g:=g) (by simpa using hg)
   simpa[xT]using this
theorem oX(n:Nat):∀(m:Nat) (v:Vl),v.nodes<=m->∀(e:E) (env:List Fr) (t:Ty),Ask e env t->eJ n v (e,env)=vT n v (lP (xT env) t 0)
 |0,v,hm=>by have:=dA v;omega
 |
  m+1,v,hm=>by
  intro e env t A
  have recCase:∀(x a b:E) (env:List Fr) (t1:Ty),Ask (.list [x,a,b]) env (.rc t1)->x.at=[114,101,99]->eJ n v (.list [x,a,b],env)=vT n v (lP (xT env) (.rc t1) 0):=by
   intro x a b env t1 A hx
   have hhd:hd (.list [x,a,b]) env=(.list [x,a,b],env):=oP A.wf
   obtain⟨t1',he1,h1,f1,hw1⟩:=jg A.wf A.ok hx A.ty A.cl
   cases he1
   obtain⟨ok1,ok2,ok3,_⟩:=A.ok
   have A':Ask b (.mk a.at (.list [x,a,b]) env::env) t1:=⟨ok3,hw1,h1,f1⟩
   cases v with
   |
    f w =>
    simp only[Vl.nodes]at hm
    simp only[eJ,hhd,hx,beq_self_eq_true,bO]
    rw[oX n m w (by omega) b _ t1 A']
    have hty:yf (.list [x,a,b]) env=.rc t1:=by unfold yf;rw[A.ty];rfl
    show vT n w (lP (lP (xT env) (yf (.list [x,a,b]) env) 0::xT env) t1 0)=vT n w (dF (.rc (lP (xT env) t1 1)) (lP (xT env) t1 1) 0)
    rw[hty,mG (vH env)]
    rfl
   |_=>simp[eJ,hhd,hx,lP,vT]
  rcases gn A.wf A.ty with⟨hb,hq⟩|⟨u,g,rfl,hq,hu⟩
  ·have hhd:hd e env=(e,env):=j8 hq
   rcases fy A.ty hb A.cl with⟨rfl,rfl⟩|⟨rfl,rfl⟩|⟨s,rfl,rfl,hp,h0,h1⟩|⟨x,a,b,t1,t2,rfl,hx,rfl,ha,hbb⟩|⟨x,a,b,t1,t2,rfl,hx,rfl,ha,hbb⟩|⟨x,a,b,t1,rfl,hx,rfl⟩
   ·have hp0:gO [48]=false:=rfl
    cases v<;>simp[eJ,hhd,lP,vT,hp0]
   ·cases v<;>simp[eJ,hhd,lP,vT]
   ·cases v<;>simp[eJ,hhd,lP,vT,hp,h1]
   ·obtain⟨ok1,ok2,ok3,_⟩:=A.ok
    obtain⟨f1,f2⟩:=e9 A.cl
    cases v with
    |
     l w =>
     simp only[Vl.nodes]at hm
     simp only[eJ,hhd,hx,beq_self_eq_true,bO,lP,vT]
     exact oX n m w (by omega) a env t1 ⟨ok2,A.wf,ha,f1⟩
    |
     r w =>
     simp only[Vl.nodes]at hm
     simp only[eJ,hhd,hx,beq_self_eq_true,bO,lP,vT]
     exact oX n m w (by omega) b env t2 ⟨ok3,A.wf,hbb,f2⟩
    |_=>simp[eJ,hhd,hx,lP,vT]
   ·obtain⟨ok1,ok2,ok3,_⟩:=A.ok
    obtain⟨f1,f2⟩:=eI A.cl
    cases v with
    |
     p w w' =>
     simp only[Vl.nodes]at hm
     simp only[eJ,hhd,hx,beq_self_eq_true,bO,lP,vT]
     rw[oX n m w (by omega) a env t1 ⟨ok2,A.wf,ha,f1⟩,oX n m w' (by omega) b env t2 ⟨ok3,A.wf,hbb,f2⟩]
    |_=>simp[eJ,hhd,hx,lP,vT]
   ·exact recCase x a b env t1 A hx
  ·obtain⟨x,a,b,t',hfe,hok,hx,ht',hf',hwf,hlt⟩:=nG A.wf hq
   have hrec:hd g.ex g.out=(g.ex,g.out):=by rw[hfe];exact oP hwf
   rw[tU n v (qh hq) hrec]
   have hcl:lP (xT env) (.bN u) 0=lP (xT g.out) (yf g.ex g.out) 0:=by
    simp only[lP];rw[if_neg (by omega),Nat.sub_zero];exact CY A.wf hu
   rw[hcl]
   have hty:yf g.ex g.out=t':=by unfold yf;rw[ht'];rfl
   rw[hty,hfe]
   rw[hfe]at ht'
   obtain⟨t1,_,_,rfl⟩:=dx hx ht'
   exact recCase x a b g.out t1 ⟨hok,hwf,ht',hf'⟩ hx
theorem nI{n:Nat}{v:Vl}{e:E}{t:Ty}(A:Ask e [] t):eJ n v (e,[])=vT n v t:=by
 have:=oX n v.nodes v (aq _) e [] t A
 rw[this]
 obtain⟨w,ht⟩:=lH e [] t A.ok (fun w hw=>by cases hw) A.ty
 have hl:=sY w []
 rw[ht]at hl
 exact congrArg (vT n v) (pk _ t hl)
def eS(σ:Nm->Option Ty):Ty->Ty
 | .name s=>(σ s).getD (.name s)
 | .plus a b=>.plus (eS σ a) (eS σ b)
 | .times a b=>.times (eS σ a) (eS σ b)
 | .rc a=>.rc (eS σ a)
 |t=>t
def jh(σ:Nm->Option Ty)(x:Nm)(u:Ty):Nm->Option Ty:=fun s=>if s=x then some u else σ s
theorem iV(σ:Nm->Option Ty)(x:Nm)(u:Ty):∀t:Ty,eS σ (sub x u t)=eS (jh σ x (eS σ u)) t
 |
  .name s=>by
  by_cases h:s=x
  ·simp[sub,eS,jh,h]
  ·simp[sub,eS,jh,h]
 | .plus a b=>by simp only[sub,eS,iV σ x u a,iV σ x u b]
 | .times a b=>by simp only[sub,eS,iV σ x u a,iV σ x u b]
 | .rc a=>by simp only[sub,eS,iV σ x u a]
 | .zero=>rfl
 | .one=>rfl
 | .bN k=>rfl
def Ce(σ:Nm->Option Ty):Prop:=∀s u,σ s=some u->jT u 0
theorem kt{σ:Nm->Option Ty}(hσ:Ce σ):∀(t:Ty) {i:Nat},jT t i->jT (eS σ t) i
 |
  .name s,i,_=>by
  simp only[eS]
  cases q:σ s with
  |none=>trivial
  |some u=>exact gu u (hσ s u q) (Nat.zero_le _)
 | .plus a b,i,h=>⟨kt hσ a h.1,kt hσ b h.2⟩
 | .times a b,i,h=>⟨kt hσ a h.1,kt hσ b h.2⟩
 | .rc a,i,h=>kt hσ a (i:=i+1) h
 | .zero,_,_=>trivial
 | .one,_,_=>trivial
 | .bN k,_,h=>h
theorem jo{σ:Nm->Option Ty}(hσ:Ce σ)(x:Nm)(U:Ty):∀(t:Ty) (i:Nat),bh x t=false->eS (jh σ x U) (dF (.name x) t i)=dF U (eS σ t) i
 |
  .name s,i,h=>by
  have hs:s≠x:=by simpa[bh]using h
  simp only[dF,eS,jh,if_neg hs]
  cases q:σ s with
  |none=>rfl
  |some u=>exact(lD U u (gu u (hσ s u q) (Nat.zero_le _))).symm
 |
  .bN k,i,h=>by
  simp only[dF,eS]
  split
  ·simp[eS,jh]
  ·rfl
 |
  .plus a b,i,h=>by
  simp only[bh,cr]at h
  simp only[dF,eS,jo hσ x U a i h.1,jo hσ x U b i h.2]
 |
  .times a b,i,h=>by
  simp only[bh,cr]at h
  simp only[dF,eS,jo hσ x U a i h.1,jo hσ x U b i h.2]
 | .rc a,i,h=>by simp only[dF,eS,jo hσ x U a (i+1) h]
 | .zero,_,_=>rfl
 | .one,_,_=>rfl
theorem oi{σ:Nm->Option Ty}(hσ:Ce σ)(x:Nm){u:Ty}(hu:jT u 0):Ce (jh σ x u):=fun s v h=>by
 unfold jh at h
 split at h
 ·cases h;exact hu
 ·exact hσ s v h
theorem iZ(x:Nm):∀(n:Nat) (c:Vl) (t:Ty) (i:Nat),c.nodes<=n->dH (dF (.name x) t i) c=dH t c
 |0,c,_,_,h=>by have:=dA c;omega
 |
  n+1,c,t,i,hn=>by
  cases t with
  |bN k=>simp only[dF];split<;>(cases c<;>rfl)
  |
   plus a b =>
   cases c with
   |l c=>simp only[Vl.nodes]at hn;exact iZ x n c a i (by omega)
   |r c=>simp only[Vl.nodes]at hn;exact iZ x n c b i (by omega)
   |_=>rfl
  |
   times a b =>
   cases c with
   |
    l c =>
    cases c with
    |p y z=>simp only[Vl.nodes]at hn;exact iZ x n y a i (by omega)
    |_=>rfl
   |
    r c =>
    cases c with
    |p y z=>simp only[Vl.nodes]at hn;exact iZ x n z b i (by omega)
    |_=>rfl
   |_=>rfl
  |
   rc a =>
   cases c with
   |
    f c =>
    cases c with
    |l y=>simp only[Vl.nodes]at hn;exact iZ x n y a (i+1) (by omega)
    |
     r c =>
     cases c with
     |
      p y z =>
      simp only[Vl.nodes]at hn
      have h1:=iZ x n y a (i+1) (by omega)
      have h2:=iZ x n z (.rc a) i (by omega)
      show (dH (dF (.name x) a (i+1)) y&&dH (.rc (dF (.name x) a (i+1))) z)=(dH a y&&dH (.rc a) z)
      rw[h1]
      exact congrArg _ h2
     |_=>rfl
    |_=>rfl
   |_=>rfl
  |_=>rfl
end Go.Proofs.Trees
namespace Go.Proofs.Trees
open Go Go.VL Go.RowKit
theorem eX(x:Nm):∀(n:Nat) (c:Vl) (t:Ty) (i:Nat) (v:Vl),c.nodes<=n->dz (dF (.name x) t i) c v=dz t c v
 |0,c,_,_,_,h=>by have:=dA c;omega
 |
  n+1,c,t,i,v,hn=>by
  cases t with
  |bN k=>simp only[dF];split<;>(cases c<;>rfl)
  |
   plus a b =>
   cases c with
   |l c=>simp only[Vl.nodes]at hn;exact congrArg Vl.l (eX x n c a i v (by omega))
   |r c=>simp only[Vl.nodes]at hn;exact congrArg Vl.r (eX x n c b i v (by omega))
   |_=>rfl
  |
   times a b =>
   cases c with
   |
    l c =>
    cases c with
    |p y z=>simp only[Vl.nodes]at hn;exact congrArg (fun q=>Vl.p q z) (eX x n y a i v (by omega))
    |_=>rfl
   |
    r c =>
    cases c with
    |p y z=>simp only[Vl.nodes]at hn;exact congrArg (Vl.p y) (eX x n z b i v (by omega))
    |_=>rfl
   |_=>rfl
  |
   rc a =>
   cases c with
   |
    f c =>
    cases c with
    |l y=>simp only[Vl.nodes]at hn;exact congrArg Vl.f (eX x n y a (i+1) v (by omega))
    |
     r c =>
     cases c with
     |
      p y z =>
      simp only[Vl.nodes]at hn
      have h2:=eX x n z (.rc a) i v (by omega)
      have h1:=eX x n y a (i+1) (dz (.rc a) z v) (by omega)
      show Vl.f (dz (dF (.name x) a (i+1)) y (dz (.rc (dF (.name x) a (i+1))) z v))=Vl.f (dz a y (dz (.rc a) z v))
      have h3:dz (.rc (dF (.name x) a (i+1))) z v=dz (.rc a) z v:=h2
      rw[h3,h1]
     |_=>rfl
    |_=>rfl
   |_=>rfl
  |_=>rfl
theorem CM{n:Nat}{c:Vl}{a:Ty}(h:vT n c (.rc a)=true):∃w,c=.f w/\vT n w (dF (.rc a) a 0)=true:=by
 cases c with
 |f w=>exact⟨w,rfl,h⟩
 |_=>simp[vT]at h
theorem kU{n:Nat}{c:Vl}{a b:Ty}(h:vT n c (.plus a b)=true):(∃w,c=.l w/\vT n w a=true)\/∃w,c=.r w/\vT n w b=true:=by
 cases c with
 |l w=>exact .inl ⟨w,rfl,h⟩
 |r w=>exact .inr ⟨w,rfl,h⟩
 |_=>simp[vT]at h
theorem jL{n:Nat}{c:Vl}{a b:Ty}(h:vT n c (.times a b)=true):∃x y,c=.p x y/\vT n x a=true/\vT n y b=true:=by
 cases c with
 |p x y=>simp only[vT,ap]at h;exact⟨x,y,rfl,h.1,h.2⟩
 |_=>simp[vT]at h
theorem re{σ:Nm->Option Ty}(hσ:Ce σ){a c d:Ty}{x:Nm}(ha:jT (.rc a) 0)(hc:jT c 0)(hd:jT d 0):∃X,eS σ (pq a x c d)=.rc X/\dF (.rc X) X 0=.plus (eS (jh σ x (eS σ (.rc a))) c) (.times (eS (jh σ x (eS σ (.rc a))) d) (eS σ (pq a x c d))):=by
 refine⟨.plus (eS σ (sub x (.rc a) c)) (.times (eS σ (sub x (.rc a) d)) (.bN 0)),rfl,?_⟩
 have h1:=kt hσ (sub x (.rc a) c) (km ha c hc)
 have h2:=kt hσ (sub x (.rc a) d) (km ha d hd)
 simp only[dF,lD _ _ h1,lD _ _ h2,if_true]
 rw[iV,iV]
 simp only[pq,eS,iV]
theorem vf(n:Nat):∀(m:Nat) (c:Vl),c.nodes<=m->∀(t:Ty) (s:Nm) (d:Ty) (σ:Nm->Option Ty),Dv t s d->Ce σ->jT t 0->vT n c (eS σ d)=true->dH t c=true
 |0,c,h=>by have:=dA c;omega
 |
  m+1,c,hm=>by
  intro t s d σ hd hσ hl hv
  cases hd with
  |zero=>cases c<;>rfl
  |one=>cases c<;>rfl
  |bN=>cases c<;>rfl
  |hit=>cases c<;>rfl
  |qW=>cases c<;>rfl
  |
   plus h1 h2 _ =>
   rcases kU hv with⟨w,rfl,hw⟩|⟨w,rfl,hw⟩
   ·simp only[Vl.nodes]at hm;exact vf n m w (by omega) _ s _ σ h1 hσ hl.1 hw
   ·simp only[Vl.nodes]at hm;exact vf n m w (by omega) _ s _ σ h2 hσ hl.2 hw
  |
   times h1 h2 _ =>
   rcases kU hv with⟨w,rfl,hw⟩|⟨w,rfl,hw⟩
   ·obtain⟨x,y,rfl,hx,hy⟩:=jL hw
    simp only[Vl.nodes]at hm;exact vf n m x (by omega) _ s _ σ h1 hσ hl.1 hx
   ·obtain⟨x,y,rfl,hx,hy⟩:=jL hw
    simp only[Vl.nodes]at hm;exact vf n m y (by omega) _ s _ σ h2 hσ hl.2 hy
  |
   @rc a _ c0 d0 x hx hs h1 h2 hsz =>
   have lo:jT (dF (.name x) a 0) 0:=iI x a hl
   obtain⟨X,e1,e2⟩:=re (x:=x) hσ hl (h1.lc lo) (h2.lc lo)
   have hv':=hv
   rw[e1]at hv'
   obtain⟨w,rfl,hw⟩:=CM hv'
   rw[e2]at hw
   have hcl:=oi hσ x (kt hσ (.rc a) hl)
   rcases kU hw with⟨y,rfl,hy⟩|⟨y,rfl,hy⟩
   ·simp only[Vl.nodes]at hm
    have:=vf n m y (by omega) _ s _ _ h1 hcl lo hy
    rw[iZ x y.nodes y a 0 (aq _)]at this
    exact this
   ·obtain⟨y,z,rfl,hy,hz⟩:=jL hy
    simp only[Vl.nodes]at hm
    have q1:=vf n m y (by omega) _ x _ _ h2 hcl lo hy
    rw[iZ x y.nodes y a 0 (aq _)]at q1
    have q2:=vf n m z (by omega) (.rc a) s _ σ (.rc x hx hs h1 h2 hsz) hσ hl hz
    show (dH a y&&dH (.rc a) z)=true
    rw[q1,q2];rfl
theorem pK(n:Nat):∀(m:Nat) (c:Vl),c.nodes<=m->∀(t:Ty) (s:Nm) (d:Ty) (σ:Nm->Option Ty),Dv t s d->Ce σ->jT t 0->vT n c (eS σ d)=true->∀v,vT n v (eS σ (.name s))=true->vT n (dz t c v) (eS σ t)=true
 |0,c,h=>by have:=dA c;omega
 |
  m+1,c,hm=>by
  intro t s d σ hd hσ hl hv v hvv
  have no:∀c,vT n c .zero=false:=fun c=>by cases c<;>rfl
  cases hd with
  |zero=>rw[show eS σ .zero=.zero from rfl,no]at hv;cases hv
  |one=>rw[show eS σ .zero=.zero from rfl,no]at hv;cases hv
  |bN=>rw[show eS σ .zero=.zero from rfl,no]at hv;cases hv
  |qW=>rw[show eS σ .zero=.zero from rfl,no]at hv;cases hv
  |hit=>rw[mN];exact hvv
  |
   plus h1 h2 _ =>
   rcases kU hv with⟨w,rfl,hw⟩|⟨w,rfl,hw⟩
   ·simp only[Vl.nodes]at hm;exact pK n m w (by omega) _ s _ σ h1 hσ hl.1 hw v hvv
   ·simp only[Vl.nodes]at hm;exact pK n m w (by omega) _ s _ σ h2 hσ hl.2 hw v hvv
  |
   times h1 h2 _ =>
   rcases kU hv with⟨w,rfl,hw⟩|⟨w,rfl,hw⟩
   ·obtain⟨x,y,rfl,hx,hy⟩:=jL hw
    simp only[Vl.nodes]at hm
    have:=pK n m x (by omega) _ s _ σ h1 hσ hl.1 hx v hvv
    show (vT n _ _&&vT n _ _)=true
    rw[this,hy];rfl
   ·obtain⟨x,y,rfl,hx,hy⟩:=jL hw
    simp only[Vl.nodes]at hm
    have:=pK n m y (by omega) _ s _ σ h2 hσ hl.2 hy v hvv
    show (vT n _ _&&vT n _ _)=true
    rw[this,hx];rfl
  |
   @rc a _ c0 d0 x hx hs h1 h2 hsz =>
   have lo:jT (dF (.name x) a 0) 0:=iI x a hl
   obtain⟨X,e1,e2⟩:=re (x:=x) hσ hl (h1.lc lo) (h2.lc lo)
   have hv':=hv
   rw[e1]at hv'
   obtain⟨w,rfl,hw⟩:=CM hv'
   rw[e2]at hw
   have hcl:=oi hσ x (kt hσ (.rc a) hl)
   have hop:eS (jh σ x (eS σ (.rc a))) (dF (.name x) a 0)=dF (eS σ (.rc a)) (eS σ a) 0:=jo hσ x _ a 0 hx
   have hns:eS (jh σ x (eS σ (.rc a))) (.name s)=eS σ (.name s):=by simp only[eS,jh,if_neg (Ne.symm hs)]
   have hnx:eS (jh σ x (eS σ (.rc a))) (.name x)=eS σ (.rc a):=by simp[eS,jh]
   rcases kU hw with⟨y,rfl,hy⟩|⟨y,rfl,hy⟩
   ·simp only[Vl.nodes]at hm
    have:=pK n m y (by omega) _ s _ _ h1 hcl lo hy v (by rw[hns];exact hvv)
    rw[hop,eX x y.nodes y a 0 v (aq _)]at this
    exact this
   ·obtain⟨y,z,rfl,hy,hz⟩:=jL hy
    simp only[Vl.nodes]at hm
    have q2:=pK n m z (by omega) (.rc a) s _ σ (.rc x hx hs h1 h2 hsz) hσ hl hz v hvv
    have q1:=pK n m y (by omega) _ x _ _ h2 hcl lo hy (dz (.rc a) z v) (by rw[hnx];exact q2)
    rw[hop,eX x y.nodes y a 0 _ (aq _)]at q1
    exact q1
def G5:Nm->Option Ty:=fun _=>none
theorem ua:Ce G5:=fun _ _ h=>by cases h
theorem jB:∀t:Ty,eS G5 t=t
 | .name s=>rfl
 | .plus a b=>by simp only[eS,jB a,jB b]
 | .times a b=>by simp only[eS,jB a,jB b]
 | .rc a=>by simp only[eS,jB a]
 | .zero=>rfl
 | .one=>rfl
 | .bN k=>rfl
theorem Gm{n:Nat}{a D:Ty}{x:Nm}(hx:bh x a=false)(hl:jT (.rc a) 0)(h:oL a x=some D){c:Vl}(hc:vT n c D=true) :
 dH a c=true/\∀v,vT n v (.rc a)=true->vT n (.f (dz a c v)) (.rc a)=true:=by
 simp only[oL,bm,cS,eT]at h
 obtain⟨d,hd,_,rfl⟩:=h
 have lo:jT (dF (.name x) a 0) 0:=iI x a hl
 have hcl:=oi ua x hl
 have e1:sub x (.rc a) d=eS (jh G5 x (.rc a)) d:=by
  have:=iV G5 x (.rc a) d
  rw[jB,jB]at this;exact this
 rw[e1]at hc
 have h1:=vf n c.nodes c (aq _) _ x _ _ hd hcl lo hc
 rw[iZ x c.nodes c a 0 (aq _)]at h1
 refine⟨h1,fun v hv=>?_⟩
 have h2:=pK n c.nodes c (aq _) _ x _ _ hd hcl lo hc v (by simpa[eS,jh]using hv)
 rw[eX x c.nodes c a 0 v (aq _),jo ua x _ a 0 hx,jB]at h2
 exact h2
end Go.Proofs.Trees
namespace Go.Proofs.Trees
open Go Go.VL Go.RowKit
theorem yR{env:List Fr}(h:WF env):∀w,w∈names env->cZ w=true:=by
 induction h with
 |nil=>intro w hw;cases hw
 |
  cons hs _ _ _ _ _ ih =>
  intro w hw
  simp only[names,aI,aN]at hw
  rcases hw with hw|rfl
  ·exact ih w hw
  ·exact hs
theorem A9{ar:List (List UInt8)}{k:Nat}(h:k<ar.length):gd ar k∈ar:=by
 unfold gd
 have:ar.length-1-k<ar.length:=by omega
 simp[aa,this]
def Ab(s:List UInt8)(ar:List (List UInt8)):Prop:=gO s=true\/(bH s ar ar.length).isSome=true
theorem uA{s:List UInt8}{ar:List (List UInt8)}{u:Nat}(hl:∀w,w∈ar->cZ w=true)(h:bH s ar ar.length=some u):cZ s=true:=by
 obtain⟨h1,h2⟩:=fB _ _ (aq _) h
 rw[<-h2];exact hl _ (A9 h1)
theorem E3{s0 s:List UInt8}{ar:List (List UInt8)}{t:Ty}(ht:cP (.atom s0) ar=some t)(hl:∀w,w∈ar->cZ w=true)(hs:Ab s ar):fE t (oK s ar)=decide (s0=s):=by
 have h48:∀b:UInt8,gO [b]=false->cZ [b]=false->s≠[b]:=fun b h1 h2 e=>by
  subst e
  rcases hs with h|h
  ·rw[h1]at h;cases h
  ·obtain⟨u,hu⟩:=bK.1 h
   rw[uA hl hu]at h2;cases h2
 simp only[cP]at ht
 split at ht
 ·rename_i e;cases ht;subst e
  have:=h48 48 rfl rfl
  rw[decide_eq_false (fun h=>this h.symm)];cases oK s ar<;>rfl
 ·split at ht
  ·rename_i e;cases ht;subst e
   have:=h48 49 rfl rfl
   rw[decide_eq_false (fun h=>this h.symm)];cases oK s ar<;>rfl
  ·split at ht
   ·rename_i hp
    cases ht
    unfold oK
    cases e:bH s ar ar.length with
    |none=>rfl
    |
     some u =>
     have hloo:=uA hl e
     show false=_
     rw[decide_eq_false]
     rintro rfl
     rw[ke hp]at hloo;cases hloo
   ·rename_i hnp
    split at ht
    ·split at ht
     ·rename_i u hu
      cases ht
      unfold oK
      cases e:bH s ar ar.length with
      |
       none =>
       show false=_
       rw[decide_eq_false]
       rintro rfl
       rw[hu]at e;cases e
      |
       some u' =>
       show decide (u=u')=_
       rw[ct,decide_eq_true_eq,decide_eq_true_eq]
       constructor
       ·rintro rfl
        rw[<-(fB _ _ (aq _) hu).2,<-(fB _ _ (aq _) e).2]
       ·rintro rfl
        rw[hu]at e;cases e;rfl
     ·rename_i hn
      cases ht
      unfold oK
      cases e:bH s ar ar.length with
      |none=>rfl
      |
       some u =>
       show false=_
       rw[decide_eq_false]
       rintro rfl
       rw[hn]at e;cases e
    ·cases ht
theorem Ck{b:E}{ar:List (List UInt8)}{w:List UInt8}{t:Ty}(hb:cP b (ar++[w])=some t)(hw:cZ w=true)(hs:Ab w ar):uj t (oK w ar).up=false:=by
 rcases hs with h|h
 ·rw[ke h]at hw;cases hw
 ·obtain⟨u,hu⟩:=bK.1 h
  rw[oK,hu];exact Hn hb hu
theorem zm{s w:List UInt8}{ar:List (List UInt8)}(h:w≠s)(hs:Ab s ar):Ab s (ar++[w]):=by
 rcases hs with h1|h1
 ·exact .inl h1
 ·right;rw[jr ar h];obtain⟨u,hu⟩:=bK.1 h1;rw[hu];rfl
def PQ(e:E)(s:List UInt8)(t:Ty)(tg:Tg)(v:Vl):Prop:=an Tryz.prog 92 [.agg [.v (.string (mk e.at)),e.sp],.v (.string (mk s)),.agg [.v (.string (mk v.cE.at)),v.cE.sp]] [] (bB (.sl (lN (cb t tg v))))
theorem DS(n:Nat):∀(m:Nat) (v:Vl),v.nodes<=m->∀(e:E) (env:List Fr) (t:Ty),Ask e env t->eJ n v (e,env)=true->env.length+v.nodes<100000->∀(s:List UInt8),Ab s (names env)->PQ e s t (oK s (names env)) v
 |0,v,hm=>by have:=dA v;omega
 |
  m+1,v,hm=>by
  intro e env t A hv hl s hs
  have hloo:=yR A.wf
  unfold PQ
  refine O7 _ _ _ _ _ ((a7 _).mpr trivial) ((a7 _).mpr trivial) ?_
  have hlen:=mz t (oK s (names env)) v
  have atomCase:∀s0,e=.atom s0->stuck t v=true->eK Tryz.prog 244 (Fl (mk e.at) e.sp (mk s) (mk v.cE.at) v.cE.sp) fun _ xs obs=>bB (.sl (lN (cb t (oK s (names env)) v))) (xs.headD .any) obs:=by
   rintro s0 rfl hst
   have hat:=E3 A.ty hloo hs
   have hne:s0≠[]:=A.ok
   simp only[Fl,E.at,↓zq,zs,ac,zt]
   refine⟨fun _=>⟨fun h=>?_,fun h=>?_⟩,fun h=>absurd h hne⟩
   ·rw[decide_eq_true h]at hat
    rw[mo v hat]
    refine⟨⟨yl _ _ _ _,by omega⟩,?_⟩
    simp[bB,lN,Vl.cE,E.at,E.sp]
   ·rw[decide_eq_false h]at hat
    rw[dP hat hst]
    simp[bB,lN]
  have hvh:=AO v
  rw[dr]at hvh
  rcases gn A.wf A.ty with⟨hb,hq⟩|⟨u,g,rfl,hq,hu⟩
  ·have hhd:hd e env=(e,env):=j8 hq
   rcases fy A.ty hb A.cl with⟨rfl,rfl⟩|⟨rfl,rfl⟩|⟨s0,rfl,rfl,hp,h0,h1⟩|⟨x,a,b,t1,t2,rfl,hx,rfl,ha,hbb⟩|⟨x,a,b,t1,t2,rfl,hx,rfl,ha,hbb⟩|⟨x,a,b,t1,rfl,hx,rfl⟩
   ·exact atomCase _ rfl (by cases v<;>rfl)
   ·exact atomCase _ rfl (by cases v<;>rfl)
   ·exact atomCase _ rfl (by cases v<;>rfl)
   ·obtain⟨ok1,ok2,ok3,_⟩:=A.ok
    obtain⟨f1,f2⟩:=e9 A.cl
    have hP:=P3.of x a b
    cases v with
    |
     l w =>
     simp only[eJ,hhd,hx,beq_self_eq_true,bO]at hv
     simp only[Vl.nodes]at hm hl hlen
     rw[mR]at hlen |-
     rw[fJ]at hlen
     have hW:=P2.of (.atom [108]) w.cE
     simp only[Fl,E.at,↓zq,zs,ac,zt]
     refine⟨fun h=>absurd rfl h,fun _=>ah hvh ?_⟩
     simp only[vh,Vl.cE,toNat_one,bj,↓zq,zs,ac,zt,hP.1,hP.2.1,hP.2.2.1,hP.2.2.2,hW.1,hW.2.1,hW.2.2,aR]
     refine⟨fun _=>?_,fun h=>absurd rfl h⟩
     repeat refine⟨by omega,?_⟩
     refine ah (DS n m w (by omega) a env t1 ⟨ok2,A.wf,ha,f1⟩ hv (by omega) s hs) ?_
     simp only[↓zq,zs,ac]
     refine aX (Le [108] Vl.l (fun c=>rfl) (cb t1 (oK s (names env)) w) [] (by simp;omega)) ?_
     simp[↓zq,zs,ac,bB,aU,bE]
    |
     r w =>
     simp only[eJ,hhd,hx,beq_self_eq_true,bO]at hv
     simp only[Vl.nodes]at hm hl hlen
     rw[mH]at hlen |-
     rw[fJ]at hlen
     have hW:=P2.of (.atom [114]) w.cE
     simp only[Fl,E.at,↓zq,zs,ac,zt]
     refine⟨fun h=>absurd rfl h,fun _=>ah hvh ?_⟩
     simp only[vh,Vl.cE,toNat_one,bj,↓zq,zs,ac,zt,hP.1,hP.2.1,hP.2.2.1,hP.2.2.2,hW.1,hW.2.1,hW.2.2,aR]
     refine⟨fun h=>by simp at h,fun _=>⟨fun _=>?_,fun h=>absurd rfl h⟩⟩
     repeat refine⟨by omega,?_⟩
     refine ah (DS n m w (by omega) b env t2 ⟨ok3,A.wf,hbb,f2⟩ hv (by omega) s hs) ?_
     simp only[↓zq,zs,ac]
     refine aX (Le [114] Vl.r (fun c=>rfl) (cb t2 (oK s (names env)) w) [] (by simp;omega)) ?_
     simp[↓zq,zs,ac,bB,aU,bE]
    |_=>simp[eJ,hhd,hx]at hv
   ·obtain⟨ok1,ok2,ok3,_⟩:=A.ok
    obtain⟨f1,f2⟩:=eI A.cl
    have hP:=P3.of x a b
    cases v with
    |
     p w w' =>
     simp only[eJ,hhd,hx,beq_self_eq_true,bO,ap]at hv
     simp only[Vl.nodes]at hm hl hlen
     rw[mJ]at hlen |-
     simp only[ax,fJ]at hlen
     have hW:=P3.of (.atom [112]) w.cE w'.cE
     simp only[Fl,E.at,↓zq,zs,ac,zt]
     refine⟨fun h=>absurd rfl h,fun _=>ah hvh ?_⟩
     simp only[vh,Vl.cE,toNat_one,bj,↓zq,zs,ac,zt,hP.1,hP.2.1,hP.2.2.1,hP.2.2.2,hW.1,hW.2.1,hW.2.2.1,hW.2.2.2,aR]
     refine⟨fun h=>by simp at h,fun _=>⟨fun h=>by simp at h,fun _=>⟨fun _=>?_,fun h=>absurd rfl h⟩⟩⟩
     repeat refine⟨by omega,?_⟩
     refine ah (DS n m w (by omega) a env t1 ⟨ok2,A.wf,ha,f1⟩ hv.1 (by omega) s hs) ?_
     simp only[↓zq,zs,ac]
     have h1:=IF s (mk []) (E.list [x,a,b]).sp ((a7 _).mpr trivial) (mk []) (E.list [.atom [112],w.cE,w'.cE]).sp w w' (P3.of _ _ _) (cb t1 (oK s (names env)) w) (by omega) _ 0 [] (aV _) (by simp;omega)
     rw[a6,aO]at h1
     refine cq h1 ?_
     simp only[↓zq,zs,ac,a7,ac,bj,hP.1,hP.2.1,hP.2.2.2,hW.1,hW.2.1,hW.2.2.2,aR]
     repeat refine⟨by omega,?_⟩
     refine ah (DS n m w' (by omega) b env t2 ⟨ok3,A.wf,hbb,f2⟩ hv.2 (by omega) s hs) ?_
     simp only[↓zq,zs,ac]
     have h2:=L8 (mk []) (E.list [.atom [112],w.cE,w'.cE]).sp w w' (P3.of _ _ _) (cb t2 (oK s (names env)) w') (by omega) _ 0 (ji (fun c=>Vl.l (.p c w')) (cb t1 (oK s (names env)) w)) (aV _) (by rw[fJ];omega)
     rw[a6]at h2
     refine cq h2 ?_
     simp[↓zq,zs,ac,bB]
    |_=>simp[eJ,hhd,hx]at hv
   ·obtain⟨t1',he1,h1,f1,hw1⟩:=jg A.wf A.ok hx A.ty A.cl
    cases he1
    obtain⟨ok1,ok2,ok3,_⟩:=A.ok
    obtain⟨_,hla,_,_⟩:=dx hx A.ty
    have A':Ask b (.mk a.at (.list [x,a,b]) env::env) t1:=⟨ok3,hw1,h1,f1⟩
    have hnm:names (.mk a.at (.list [x,a,b]) env::env)=names env++[a.at]:=rfl
    have hP:=P3.of x a b
    cases v with
    |
     f w =>
     simp only[eJ,hhd,hx,beq_self_eq_true,bO]at hv
     simp only[Vl.nodes]at hm hl hlen
     have hW:=P2.of (.atom [102]) w.cE
     simp only[Fl,E.at,↓zq,zs,ac,zt]
     refine⟨fun h=>absurd rfl h,fun _=>ah hvh ?_⟩
     simp only[vh,Vl.cE,toNat_one,bj,↓zq,zs,ac,zt,hP.1,hP.2.1,hP.2.2.1,hP.2.2.2,hW.1,hW.2.1,hW.2.2,aR]
     refine⟨fun h=>by simp at h,fun _=>⟨fun h=>by simp at h,fun _=>⟨fun h=>by simp at h,fun _=>?_⟩⟩⟩
     repeat refine⟨by omega,?_⟩
     refine⟨fun h=>?_,fun h=>?_⟩
     ·
      have hh:a.at=s:=h
      subst hh
      have:uj (.rc t1) (oK a.at (names env))=false:=Ck h1 hla hs
      rw[iK _ _ (aq _) _ _ this]
      simp[bB,lN]
     ·have hh:a.at≠s:=h
      rw[mF]at hlen |-
      simp only[ax,fJ]at hlen
      repeat refine⟨by omega,?_⟩
      have i1:=DS n m w (by omega) b _ t1 A' hv (by simp;omega) s (by rw[hnm];exact zm hh hs)
      rw[hnm,yM _ hh]at i1
      refine ah i1 ?_
      simp only[↓zq,zs,ac]
      have h3:=Im s a.at (mk []) (E.list [x,a,b]).sp ((a7 _).mpr trivial) (mk []) (E.list [.atom [102],w.cE]).sp ((a7 _).mpr trivial) (cb t1 (oK s (names env)).up w) (by omega) _ 0 [] (aV _) (by simp;omega)
      rw[a6,aO]at h3
      refine cq h3 ?_
      simp only[↓zq,zs,ac,a7,ac,toNat_one,bj,hP.1,hP.2.1,hP.2.2.2,hW.1,hW.2.1,hW.2.2,aR]
      repeat refine⟨by omega,?_⟩
      have i2:=DS n m w (by omega) b _ t1 A' hv (by simp;omega) a.at (by rw[hnm];right;rw[eY];rfl)
      rw[hnm,uU]at i2
      refine ah i2 ?_
      simp only[↓zq,zs,ac]
      have hl2:=mz t1 (.bd 0) w
      have ih3:∀h,h∈cb t1 (.bd 0) w->PQ (.list [x,a,b]) s (.rc t1) (oK s (names env)) h.2:=fun h hh=>by
       have h3:=(iq hh).1
       have h4:=hZ n m w (by omega) b _ t1 A' hv 0 _ rfl h hh
       exact DS n m h.2 (by omega) (.list [x,a,b]) env (.rc t1) A h4 (by omega) s hs
      have h4:=H8 s (.list [x,a,b]) t1 (oK s (names env)) (cb t1 (.bd 0) w) (by omega) ih3 _ 0 (ji (fun c=>.f (.l c)) (cb t1 (oK s (names env)).up w)) (aV _) (by
       simp only[a6,ax,fJ]
       have hlen2:(cb t1 (oK s (names env)).up w).length+((cb t1 (.bd 0) w).flatMap (zr t1 (oK s (names env)))).length<=1+w.nodes:=hlen
       omega)
      rw[a6]at h4
      simp only[E.at]at h4
      refine cq h4 ?_
      simp[↓zq,zs,ac,bB]
    |_=>simp[eJ,hhd,hx]at hv
  ·cases e with
   |atom s0=>exact atomCase _ rfl (by cases v<;>rfl)
   |list l=>exact absurd hq (by rw[show (E.list l).at=[] from rfl,kA A.wf];simp)
end Go.Proofs.Trees
namespace Go.Proofs.Trees
open Go Go.VL Go.RowKit
def kp(s:List UInt8):Option Ty:=match wu s with
 |some (.rc a)=>some a
 |_=>none
def zP:Option Ty->AV
 |some a=>(Ty.rc a).av
 |none=>ir
theorem OB(s:List UInt8):an Tryz.prog 107 [.v (.string (mk s))] [] (bB (zP (kp s))):=by
 refine NR _ ?_
 unfold Mm
 refine ah (Kb s) ?_
 cases h:wu s with
 |none=>simp[↓zq,zs,ac,gZ,zP,kp,h,bB]
 |some t=>cases t<;>simp[↓zq,zs,ac,gZ,zP,kp,h,bB,Ty.av]
def pP(s v:List UInt8):Option Vl:=match kp s with
 |some _=>nE s v 100
 |none=>none
def Fq(s:List UInt8):AV:=match kp s with
 |some a=>(Ty.rc a).av
 |none=>ir
theorem sZ{s:List UInt8}{a:Ty}(h:kp s=some a):wu s=some (.rc a):=by
 unfold kp at h
 split at h
 ·rename_i e;cases h;exact e
 ·cases h
theorem OP(s v:List UInt8):an Tryz.prog 84 [.v (.string (mk s)),.v (.string (mk v))] [] (bB (.cv [Fq s,ja (pP s v)])):=by
 refine Qc _ _ ?_
 unfold KL
 refine ah (OB s) ?_
 cases h:kp s with
 |none=>simp[↓zq,zs,ac,zP,Fq,pP,h,bB,ja]
 |
  some a =>
  simp only[↓zq,zs,ac,zP,aC,fD]
  refine⟨fun h=>(by cases h),fun _=>?_⟩
  refine ah (MS s v 100) ?_
  rw[sZ h]
  simp[↓zq,zs,ac,gZ,gm,Fq,pP,h,bB,aC]
structure LV(s v:List UInt8)(w:Vl)(a:Ty)(x A B:E):Prop where
 l:kp s=some a
 ce:jp s=some (.list [x,A,B])
 v:rI v=some w
 ask:Ask (.list [x,A,B]) [] (.rc a)
 hx:x.at=[114,101,99]
 Ri:cZ A.at=true
 body:Ask B [.mk A.at (.list [x,A,B]) []] a
 eJ:eJ 100 w (.list [x,A,B],[])=true
theorem rY{e:E}{env:List Fr}{a:Ty}(A:Ask e env (.rc a)):∃x y z,e=.list [x,y,z]/\x.at=[114,101,99]/\cZ y.at=true/\Ask z (.mk y.at (.list [x,y,z]) env::env) a:=by
 rcases fy A.ty rfl A.cl with⟨_,h⟩|⟨_,h⟩|⟨s,_,h,_⟩|⟨x,y,z,t1,t2,_,_,h,_⟩|⟨x,y,z,t1,t2,_,_,h,_⟩|⟨x,y,z,t1,rfl,hx,h⟩
 ·cases h
 ·cases h
 ·cases h
 ·cases h
 ·cases h
 ·cases h
  obtain⟨t1',he1,h1,f1,hw1⟩:=jg A.wf A.ok hx A.ty A.cl
  cases he1
  obtain⟨_,_,ok3,_⟩:=A.ok
  obtain⟨_,hla,_,_⟩:=dx hx A.ty
  exact⟨x,y,z,rfl,hx,hla,ok3,hw1,h1,f1⟩
theorem pd{s v:List UInt8}{w:Vl}(h:pP s v=some w):∃a x A B,LV s v w a x A B:=by
 unfold pP at h
 split at h
 ·rename_i a hl
  obtain⟨e,t,m,h1,h2,h3,h4,h5,h6,h7⟩:=qo h
  rw[sZ hl]at h3
  cases h3
  obtain⟨x,A,B,rfl,hx,hA,hB⟩:=rY h4
  have:m=100:=by omega
  subst this
  exact⟨a,x,A,B,hl,h1,h2,h4,hx,hA,hB,h7⟩
 ·cases h
theorem LV.iA{s v:List UInt8}{w:Vl}{a:Ty}{x A B:E}(h:LV s v w a x A B):w.iA 100:=(kZ h.v).2.1
theorem LV.nodes{s v:List UInt8}{w:Vl}{a:Ty}{x A B:E}(h:LV s v w a x A B):w.nodes<=200:=(kZ h.v).2.2
theorem tq{n:Nat}{v:Vl}{x A B:E}{env:List Fr}(hw:WF env)(hx:x.at=[114,101,99])(h:eJ n v (.list [x,A,B],env)=true):∃w,v=.f w/\eJ n w (B,.mk A.at (.list [x,A,B]) env::env)=true:=by
 have hd:=oP (x:=x) (a:=A) (b:=B) hw
 cases v<;>simp[eJ,hd,hx]at h |-
 exact h
theorem PL(n:Nat)(v:Vl)(x A B:E)(a:Ty)(hA:Ask B [.mk A.at (.list [x,A,B]) []] a)(hx:x.at=[114,101,99])(hv:eJ n v (.list [x,A,B],[])=true)(hl:v.nodes<90000):an Tryz.prog 68 [(Ty.rc a).av,v.cu] [] (bB (.sl (gY (kids a v)))):=by
 obtain⟨w,rfl,hw⟩:=tq .nil hx hv
 refine Py _ _ ((aC _).mpr trivial) ((aH _).mpr trivial) ?_
 unfold JX
 refine bC (Co a ir [] .nil) (Ai.ne a ir []) ?_
 rintro r o ⟨⟨m,hm,rfl⟩,rfl⟩
 have he2:kh (.ptr [.pid m [(Ty.rc a).av,ir],ir]) [m]:=.cons hm .nil
 have hfr:LK.ptr.has (.pid m [(Ty.rc a).av,ir]):=.inr (.inr ⟨_,_,rfl⟩)
 simp only[Ty.av]at he2 hfr
 simp only[↓zq,zs,ac,bu,aC,he2.has,hfr,Vl.cu,aH,Ty.av]
 repeat refine⟨by omega,?_⟩
 simp only[Vl.nodes]at hl
 have i2:=Ds n w.nodes w (aq _) B _ a hA hw (by simp;omega) _ _ he2 (by simp) (.bd 0) [] _ (by have:=zB.bd (k:=0) (ids:=[m]) (by simp) [(Ty.rc a).av,ir] [];simpa only[bp,Ty.av]using this)
 unfold FP at i2
 refine ah i2 ?_
 simp[↓zq,zs,ac,bB,kids]
def ri(l:List Nat):List (List AV):=l.map fun(k:Nat)=>[.v (.int .i64 (k:Int))]
theorem wl(l:List Nat):(ri l).length=l.length:=by simp[ri]
end Go.Proofs.Trees
namespace Go.Proofs.Trees
open Go Go.VL Go.RowKit
theorem G8{b:UInt8}(h:hD b=true):eM b=true:=by
 simp only[hD,eM,decide_eq_true_eq]at h |-;omega
theorem Cf{y:Nm}(h:Jc y):y≠[]/\y.all eM=true:=by
 have key:∀lo hi,97<=lo->hi<=122->named lo hi y=true->y≠[]/\y.all eM=true:=fun lo hi h1 h2 h=>by
  cases y with
  |nil=>cases h
  |
   cons c r =>
   simp only[named,ap,decide_eq_true_eq]at h
   refine⟨by simp,?_⟩
   rw[cW,ap]
   refine⟨?_,?_⟩
   ·simp only[eM,decide_eq_true_eq];omega
   ·rw[bQ]
    intro b hb
    exact G8 (bQ.1 h.2 b hb)
 rcases h with h|h
 ·exact key 120 122 (by omega) (by omega) h
 ·exact key 116 116 (by omega) (by omega) h
theorem zN(m:Nat):(tN m).all eM=true:=by
 rw[cW,vD (m+1) m (by omega)];rfl
theorem oO(F:List Nm):∀(t:Ty) (to:List Nm) (k:Nat),(∀y,bh y t=true->y≠[]/\y.all eM=true)->(∀w,w∈to->w≠[]/\w.all eM=true)->jT t to.length->(gV F t to k).1.pr
 | .zero,_,_,_,_,_=>⟨by simp,by decide⟩
 | .one,_,_,_,_,_=>⟨by simp,by decide⟩
 | .name s,_,_,hn,_,_=>hn s (by simp[bh])
 |
  .bN u,to,_,_,ht,hl=>by
  have:to.length-1-u<to.length:=by have:u<to.length:=hl;omega
  show (E.atom (gd to u)).pr
  unfold gd
  rw[aa,bg this]
  exact ht _ (bA this)
 | .plus a b,to,k,hn,ht,hl=>⟨by simp,⟨by simp,by decide⟩,oO F a to k (fun y hy=>hn y (by simp[bh,hy])) ht hl.1,oO F b to _ (fun y hy=>hn y (by simp[bh,hy])) ht hl.2,trivial⟩
 | .times a b,to,k,hn,ht,hl=>⟨by simp,⟨by simp,by decide⟩,oO F a to k (fun y hy=>hn y (by simp[bh,hy])) ht hl.1,oO F b to _ (fun y hy=>hn y (by simp[bh,hy])) ht hl.2,trivial⟩
 |
  .rc a,to,k,hn,ht,hl=>by
  refine⟨by simp,⟨by simp,by decide⟩,⟨by simp,zN _⟩,oO F a (to++[tN (nx F k)]) _ hn (fun w hw=>?_) (by rw[ax];exact hl),trivial⟩
  rcases aI.1 hw with hw|hw
  ·exact ht w hw
  ·simp only[aN]at hw;rw[hw];exact⟨by simp,zN _⟩
theorem yF{D:Ty}{dt:Nm}(g:fO D)(hn:∀y,bh y D=true->Jc y)(h:told D=some dt):p9 dt=some D:=by
 unfold told at h
 split at h
 ·rename_i hh
  cases h
  obtain⟨t,ht⟩:=bK.1 hh.2
  obtain⟨e,he,hw,hte,_,_⟩:=oN ht
  obtain⟨h1,_,_⟩:=pj he
  obtain⟨hx,hpr,_⟩:=xX h1
  obtain⟨w1,w2,_⟩:=kq (bF D []) D [] 0 (.nil _ _) g.1 fun y hy=>⟨(eG D [] y).2 (.inr hy),g.2 y hy⟩
  have hp:=oO (bF D []) D [] 0 (fun y hy=>Cf (hn y hy)) (fun w hw=>by cases hw) g.1
  have:=Bl hp hpr hx
  rw[ht,<-hte,<-this,w2]
 ·cases h
theorem sw{a d:Ty}{x:Nm}(h:oL a x=some d):∀y,bh y d=true->bh y a=true:=by
 simp only[oL,bm,cS,eT]at h
 obtain⟨d',h1,_,rfl⟩:=h
 intro y hy
 rcases iU _ hy with h|⟨h,h'⟩
 ·exact h
 ·rcases gr a 0 (h1.names y h')with e|e
  ·exact absurd e h
  ·exact e
structure ZT(s d:Nm)(a:Ty)(x A B:E)(D:Ty):Prop where
 l:kp s=some a
 ce:jp s=some (.list [x,A,B])
 ask:Ask (.list [x,A,B]) [] (.rc a)
 hx:x.at=[114,101,99]
 body:Ask B [.mk A.at (.list [x,A,B]) []] a
 dl:cJ s=some d
 y:p9 s=some (.rc a)
 lp:oL a lL=some D
 bk:p9 d=some D
theorem wJ{s:Nm}{t:Ty}(h:wu s=some t):p9 s=some t:=by
 unfold wu at h
 split at h
 ·cases h
 ·rename_i u hu
  split at h
  ·cases h;exact hu
  ·cases h
theorem ZT.of{s d:Nm}{a:Ty}(hl:kp s=some a)(hd:cJ s=some d):∃x A B D,ZT s d a x A B D:=by
 have hc:=sZ hl
 cases hce:jp s with
 |none=>rw[mO hce]at hc;cases hc
 |
  some e =>
  obtain⟨t,h1,hA,_⟩:=iQ hce
  rw[hc]at h1;cases h1
  obtain⟨x,A,B,rfl,hx,hA',hB⟩:=rY hA
  have hy:=wJ hc
  have hd':=hd
  unfold cJ at hd'
  rw[hy]at hd'
  obtain⟨D,h2,h3⟩:=bm.1 hd'
  obtain⟨e2,he2,hw2,hte2,_,_⟩:=oN hy
  have hg:=qm hw2 hte2 (x:=lL) ⟨by simp,by simp,by simp⟩ h2
  exact⟨x,A,B,D,hl,hce,hA,hx,hB,hd,hy,h2,yF hg.1 (fun y hy'=>mC hy y (sw h2 y hy')) h3⟩
structure Cx(a:Ty)(w:Vl):Prop where
 ok:dH a w=true
 ty:∀v,vT 100 v (.rc a)=true->vT 100 (.f (dz a w v)) (.rc a)=true
 iA:w.iA 100
 nd:w.nodes<=200
structure Fo(a:Ty)(v:Vl):Prop where
 ty:vT 100 v (.rc a)=true
 iA:v.iA 100
 nd:v.nodes<=200
theorem ZT.C0{s d:Nm}{a:Ty}{x A B:E}{D:Ty}(z:ZT s d a x A B D){c:Nm}{w:Vl}(h:nE d c 100=some w):Cx a w:=by
 obtain⟨e,t,m,h1,h2,h3,h4,h5,h6,h7⟩:=qo h
 have hm:m=100:=by omega
 subst hm
 have:=wJ h3
 rw[z.bk]at this;cases this
 rw[nI h4]at h7
 obtain⟨e2,he2,hw2,hte2,_,_⟩:=oN z.y
 have hlc:jT (.rc a) 0:=hte2 ▸ hw2.qS.1
 obtain⟨q1,q2⟩:=Gm (vK z.y) hlc z.lp h7
 exact⟨q1,q2,(kZ h2).2.1,(kZ h2).2.2⟩
theorem ZT.uh{s d:Nm}{a:Ty}{x A B:E}{D:Ty}(z:ZT s d a x A B D){f:Nm}{v:Vl}(h:pP s f=some v):Fo a v/\f=v.cN:=by
 obtain⟨a',x',A',B',L⟩:=pd h
 have:=L.l
 rw[z.l]at this;cases this
 exact⟨⟨by rw[<-nI L.ask];exact L.eJ,L.iA,L.nodes⟩,qf L.v⟩
theorem Fo.eJ{s d:Nm}{a:Ty}{x A B:E}{D:Ty}(z:ZT s d a x A B D){v:Vl}(h:Fo a v):eJ 100 v (.list [x,A,B],[])=true:=by rw[nI z.ask];exact h.ty
theorem ZT.cN{s d:Nm}{a:Ty}{x A B:E}{D:Ty}(z:ZT s d a x A B D){w:Vl}(hb:w.iA 100)(hv:vT 100 w (.rc a)=true):nE s w.cN 100=if w.nodes<=200 then some w else none:=by
 unfold nE
 rw[z.ce]
 by_cases hn:w.nodes<=200
 ·rw[p5 hb hn,if_pos hn]
  simp only
  rw[if_pos ⟨by omega,by rw[show (100:Int).toNat=100 from rfl,nI z.ask];exact hv⟩]
 ·rw[if_neg hn]
  cases q:rI w.cN with
  |none=>rfl
  |
   some w' =>
   exfalso
   obtain⟨_,h2,h3⟩:=kZ q
   have:=xH hb h2 (qf q)
   rw[this]at hn;exact hn h3
theorem ZT.lv{s d:Nm}{a:Ty}{x A B:E}{D:Ty}(z:ZT s d a x A B D)(f:Nm):pP s f=nE s f 100:=by
 unfold pP;rw[z.l]
def eF(d:Nm):List Nm->Option (List Vl)
 |[]=>some []
 |
  c::r=>match nE d c 100,eF d r with
  |some w,some l=>some (w::l)
  |_,_=>none
theorem rm{s d:Nm}{a:Ty}{x A B:E}{D:Ty}(z:ZT s d a x A B D):∀(p:List Nm) (l:List Vl),eF d p=some l->p=l.map (·.cN)/\∀c,c∈l->Cx a c
 |[],l,h=>by cases h;exact⟨rfl,fun c hc=>by cases hc⟩
 |
  c::r,l,h=>by
  simp only[eF]at h
  split at h
  ·rename_i w l' h1 h2
   cases h
   obtain⟨q1,q2⟩:=rm z r l' h2
   obtain⟨_,_,_,_,hv,_⟩:=qo h1
   refine⟨by rw[bG,<-q1,<-qf hv],fun c' hc'=>?_⟩
   rcases aF.1 hc' with rfl|hc'
   ·exact z.C0 h1
   ·exact q2 c' hc'
  ·cases h
theorem sS(d:Nm):∀(p q:List Nm),eF d (p++q)=(eF d p).bind fun l=>(eF d q).map (l++·)
 |[],q=>by cases h:eF d q<;>simp[eF,h]
 |
  c::p,q=>by
  simp only[a8,eF,sS d p q]
  cases nE d c 100 with
  |none=>rfl
  |
   some w =>
   cases eF d p with
   |none=>rfl
   |some l=>cases eF d q<;>rfl
noncomputable def rL (s:Nm) (p:List Nm) (f:Nm):Option (List Vl×Vl):=match pP s f,cJ s with
 |some v,some d=>if p.length<=50 then(eF d p).map fun l=>(l,v)else none
 |_,_=>none
def zA(s:Nm):Ty:=(kp s).getD .zero
def vB(a:Ty)(l:List Vl)(v:Vl):Option (List Vl×Vl):=match l.getLast? with
 |none=>none
 |some c=>if(Vl.f (dz a c v)).nodes<=200 then some (l.dropLast,.f (dz a c v))else none
def kk:Nat->Ty->List Vl->Vl->Option Vl
 |0,_,_,v=>some v
 |n+1,a,l,v=>(vB a l v).bind fun r=>kk n a r.1 r.2
def ud(a:Ty)(l:List Vl)(v:Vl):Option Vl:=kk l.length a l v
noncomputable def ij (s:Nm) (p:List Nm) (f:Nm):Option (List Vl×Vl):=(rL s p f).bind fun r=>if(ud (zA s) r.1 r.2).isSome=true then some r else none
structure ZI(a:Ty)(l:List Vl)(v:Vl):Prop where
 C0:∀c,c∈l->Cx a c
 uh:Fo a v
theorem th{a:Ty}{l l':List Vl}{v w:Vl}(h:ZI a l v)(hu:vB a l v=some (l',w)):ZI a l' w/\l'.length+1=l.length/\∃c,l=l'++[c]/\w=.f (dz a c v):=by
 unfold vB at hu
 cases q:l.getLast? with
 |none=>rw[q]at hu;cases hu
 |
  some c =>
  rw[q]at hu
  simp only at hu
  split at hu
  ·rename_i hn
   cases hu
   have hne:l≠[]:=by rintro rfl;cases q
   have hl:l.dropLast++[c]=l:=by
    have:=List.dropLast_concat_getLast hne
    rw[List.getLast?_eq_some_getLast hne]at q
    cases q;exact this
   have hc:c∈l:=by rw[<-hl];simp
   have hC:=h.C0 c hc
   refine⟨⟨fun c' hc'=>h.C0 c' (by rw[<-hl];exact ay _ hc'),hC.ty v h.uh.ty,rn 100 a c v hC.iA h.uh.iA,hn⟩,?_,c,hl.symm,rfl⟩
   have:=congrArg List.length hl
   simpa using this
  ·cases hu
end Go.Proofs.Trees
namespace Go.Proofs.Trees
open Go Go.VL Go.RowKit
theorem vE(w:World)(k:Nat)(os:Array Obj):Below w.heap.size w (Go.«Sort».grow (w.drewN k) os):=by
 refine⟨rfl,rfl,rfl,?_,fun b hb=>?_⟩
 ·simp[Go.«Sort».grow,World.drewN]
 ·simp only[Go.«Sort».grow,World.drewN]
  rw[Array.getElem?_append_left hb]
theorem GI(k:Nat)(hk:k<1000000000):an Tryz.prog 174 [.v (.int .i64 (k:Int))] [] (bB (.v (.string (mk (dd k))))):=by
 refine an.NV (xs:=[.int .i64 (k:Int)]) ⟨pX,by kernel_rfl,by kernel_rfl,by kernel_rfl⟩ fun w ht=>?_
 have:=Any.strconv_Itoa Tryz.Bp (k:Int) (by omega) (by omega) w ht
 refine Calls.mono this fun e w' ⟨h1,n,os,h2⟩=>⟨?_,?_⟩
 ·rw[h1,Lib.itoa_nonneg];rfl
 ·rw[h2];exact vE w n os
abbrev hN(k:Nat):Nm:=35::dd k
theorem s9{j k:Nat}(h:hN j=hN k):j=k:=wh (j+1) j k (by omega) (List.cons.inj h).2
theorem G0(u:Ty):∀(t:Ty) (i:Nat),i+t.az<1000000->an Tryz.prog 149 [t.av,u.av,.v (.int .i64 (i:Int))] [] (bB (dF u t i).av)
 |
  .zero,i,_=>by
  refine Fw _ _ _ ((aC _).mpr trivial) ((aC _).mpr trivial) ?_
  simp[Dy,Ty.av,dF,↓zq,zs,ac,bB]
 |
  .one,i,_=>by
  refine Fw _ _ _ ((aC _).mpr trivial) ((aC _).mpr trivial) ?_
  simp[Dy,Ty.av,dF,↓zq,zs,ac,bB]
 |
  .name s,i,_=>by
  refine Fw _ _ _ ((aC _).mpr trivial) ((aC _).mpr trivial) ?_
  simp[Dy,Ty.av,dF,↓zq,zs,ac,bB]
 |
  .bN k,i,_=>by
  refine Fw _ _ _ ((aC _).mpr trivial) ((aC _).mpr trivial) ?_
  simp only[Dy,Ty.av,dF,↓zq,zs,ac,bB]
  refine⟨by omega,fun _=>⟨by omega,fun h=>?_,fun h=>?_⟩,fun h=>absurd rfl h⟩
  ·rw[if_pos (by omega)]
  ·rw[if_neg (by omega)];rfl
 |
  .plus a b,i,hl=>by
  simp only[Ty.az]at hl
  refine Fw _ _ _ ((aC _).mpr trivial) ((aC _).mpr trivial) ?_
  simp only[Dy,Ty.av,dF,↓zq,zs,ac,aC]
  refine⟨by omega,fun h=>by omega,fun _=>⟨fun _=>?_,fun h=>absurd rfl h⟩⟩
  repeat refine⟨by omega,?_⟩
  refine ah (G0 u a i (by omega)) ?_
  simp only[↓zq,zs,ac,aC]
  repeat refine⟨by omega,?_⟩
  refine ah (G0 u b i (by omega)) ?_
  simp only[↓zq,zs,ac,aC]
  exact⟨rfl,rfl⟩
 |
  .times a b,i,hl=>by
  simp only[Ty.az]at hl
  refine Fw _ _ _ ((aC _).mpr trivial) ((aC _).mpr trivial) ?_
  simp only[Dy,Ty.av,dF,↓zq,zs,ac,aC]
  refine⟨by omega,fun h=>by omega,fun _=>⟨fun h=>by omega,fun _=>⟨fun _=>?_,fun h=>absurd rfl h⟩⟩⟩
  repeat refine⟨by omega,?_⟩
  refine ah (G0 u a i (by omega)) ?_
  simp only[↓zq,zs,ac,aC]
  repeat refine⟨by omega,?_⟩
  refine ah (G0 u b i (by omega)) ?_
  simp only[↓zq,zs,ac,aC]
  exact⟨rfl,rfl⟩
 |
  .rc a,i,hl=>by
  simp only[Ty.az]at hl
  refine Fw _ _ _ ((aC _).mpr trivial) ((aC _).mpr trivial) ?_
  simp only[Dy,Ty.av,dF,↓zq,zs,ac,aC]
  refine⟨by omega,fun h=>by omega,fun _=>⟨fun h=>by omega,fun _=>⟨fun h=>by omega,fun _=>⟨fun _=>?_,fun h=>absurd rfl h⟩⟩⟩⟩
  repeat refine⟨by omega,?_⟩
  rw[bq i (by omega)]
  refine ah (G0 u a (i+1) (by omega)) ?_
  simp only[↓zq,zs,ac,aC]
  exact⟨rfl,rfl⟩
theorem BD(x:Nm)(u:Ty):∀(t:Ty),an Tryz.prog 150 [t.av,.v (.string (mk x)),u.av] [] (bB (sub x u t).av)
 |
  .zero=>by
  refine wG _ _ _ ((aC _).mpr trivial) ((aC _).mpr trivial) ?_
  simp[DK,Ty.av,sub,↓zq,zs,ac,bB]
 |
  .one=>by
  refine wG _ _ _ ((aC _).mpr trivial) ((aC _).mpr trivial) ?_
  simp[DK,Ty.av,sub,↓zq,zs,ac,bB]
 |
  .bN k=>by
  refine wG _ _ _ ((aC _).mpr trivial) ((aC _).mpr trivial) ?_
  simp[DK,Ty.av,sub,↓zq,zs,ac,bB]
 |
  .name s=>by
  refine wG _ _ _ ((aC _).mpr trivial) ((aC _).mpr trivial) ?_
  simp only[DK,Ty.av,sub,↓zq,zs,ac,zt,bB]
  refine⟨by omega,fun _=>⟨by omega,fun h=>?_,fun h=>?_⟩,fun h=>absurd rfl h⟩
  ·rw[if_pos h]
  ·rw[if_neg h];rfl
 |
  .plus a b=>by
  refine wG _ _ _ ((aC _).mpr trivial) ((aC _).mpr trivial) ?_
  simp only[DK,Ty.av,sub,↓zq,zs,ac,aC]
  refine⟨by omega,fun h=>by omega,fun _=>⟨fun _=>?_,fun h=>absurd rfl h⟩⟩
  repeat refine⟨by omega,?_⟩
  refine ah (BD x u a) ?_
  simp only[↓zq,zs,ac,aC]
  repeat refine⟨by omega,?_⟩
  refine ah (BD x u b) ?_
  simp only[↓zq,zs,ac,aC]
  exact⟨rfl,rfl⟩
 |
  .times a b=>by
  refine wG _ _ _ ((aC _).mpr trivial) ((aC _).mpr trivial) ?_
  simp only[DK,Ty.av,sub,↓zq,zs,ac,aC]
  refine⟨by omega,fun h=>by omega,fun _=>⟨fun h=>by omega,fun _=>⟨fun _=>?_,fun h=>absurd rfl h⟩⟩⟩
  repeat refine⟨by omega,?_⟩
  refine ah (BD x u a) ?_
  simp only[↓zq,zs,ac,aC]
  repeat refine⟨by omega,?_⟩
  refine ah (BD x u b) ?_
  simp only[↓zq,zs,ac,aC]
  exact⟨rfl,rfl⟩
 |
  .rc a=>by
  refine wG _ _ _ ((aC _).mpr trivial) ((aC _).mpr trivial) ?_
  simp only[DK,Ty.av,sub,↓zq,zs,ac,aC]
  refine⟨by omega,fun h=>by omega,fun _=>⟨fun h=>by omega,fun _=>⟨fun h=>by omega,fun _=>⟨fun _=>?_,fun h=>absurd rfl h⟩⟩⟩⟩
  repeat refine⟨by omega,?_⟩
  refine ah (BD x u a) ?_
  simp only[↓zq,zs,ac,aC]
  exact⟨rfl,rfl⟩
theorem wN(c:Int)(a b:Ty):an Tryz.prog 175 [.v (.int .u8 c),a.av,b.av] [] (bB (.ptr [.v (.int .u8 c),.v (.string (mk [])),.v (.int .i64 0),a.av,b.av])):=by
 refine Qx _ _ _ ((aC _).mpr trivial) ((aC _).mpr trivial) ?_
 simp[J8,↓zq,zs,ac,bB]
abbrev Dh(f:Nat)(g:Bool):Ob:=.cells [.v (.int .i64 (f:Int)),.v (.bool g)]
theorem KX(f:Nat)(g:Bool)(hf:f<100000000):an Tryz.prog 146 [.ref 0 0] [Dh f g] (dh (.v (.string (mk (hN (f+1))))) [Dh (f+1) g]):=by
 refine NY _ _ ?_
 simp only[Mi,↓zq,zs,ac,zt]
 rw[bq f (by omega)]
 refine ah (GI (f+1) (by omega)) ?_
 have hd:=nL 8 (f+1) (by omega)
 simp only[↓zq,zs,ac,zt,a8,aO]
 exact⟨by simp[cG];omega,rfl,rfl⟩
def uk(g:Bool)(t:Ty):Ty:=if g=true\/400<t.az then .zero else t
def zC(g:Bool)(t:Ty):Bool:=g||decide (400<t.az)
theorem xD(t:Ty):uk true t=.zero:=by simp[uk]
theorem vq(t:Ty):zC true t=true:=rfl
theorem uw{t:Ty}(h:t.az<=400):uk false t=t:=by simp[uk,show ¬400<t.az by omega]
theorem u6{t:Ty}(h:t.az<=400):zC false t=false:=by simp[zC,show ¬400<t.az by omega]
theorem DG{t:Ty}(h:¬t.az<=400):zC false t=true:=by simp[zC,show 400<t.az by omega]
theorem DN{t:Ty}(h:¬t.az<=400):uk false t=.zero:=by simp[uk,show 400<t.az by omega]
theorem uF(f:Nat)(g:Bool)(t:Ty)(hl:t.az<1000000):an Tryz.prog 147 [.ref 0 0,t.av] [Dh f g] (dh (uk g t).av [Dh f (zC g t)]):=by
 refine OZ _ _ _ ((aC _).mpr trivial) ?_
 simp only[KU,↓zq,zs,ac,zt]
 cases g with
 |true=>exact⟨fun _=>⟨rfl,rfl⟩,fun h=>(by cases h)⟩
 |
  false =>
  refine⟨fun h=>(by cases h),fun _=>?_⟩
  refine ah (Dz t hl) ?_
  simp only[↓zq,zs,ac,zt]
  refine⟨fun h=>?_,fun h=>?_⟩
  ·have h:400<t.az:=by omega
   simp[uk,zC,h,dh,Ty.av]
  ·have h:¬400<t.az:=by omega
   simp[uk,zC,h,dh]
theorem GO(t:Ty)(s:Nm)(f:Nat):an Tryz.prog 148 [.ref 0 0,t.av,.v (.string (mk s))] [Dh f true] (dh Ty.zero.av [Dh f true]):=by
 refine HY _ _ _ _ ((aC _).mpr trivial) ?_
 simp only[CA,↓zq,zs,ac]
 exact⟨fun _=>⟨rfl,rfl⟩,fun h=>(by cases h)⟩
def BI(f:Nat)(t:Ty):Prop:=∀j,f<j->bh (hN j) t=false
def pM(o:Option Ty)(t:Ty):Nat:=match o with|some d=>d.az|none=>1000*t.az
def AN(o:Option Ty)(f B:Nat):AV->List Ob->Prop:=fun r ob=>∃f':Nat,f<=f'/\f'<=f+B/\r=(o.getD .zero).av/\ob=[Dh f' o.isNone]
theorem AN.ne(o:Option Ty)(f B:Nat):∃r ob,AN o f B r ob:=⟨_,_,f,aq _,dj _ _,rfl,rfl⟩
theorem qU{f f':Nat}{t:Ty}(h:BI f t)(hf:f<=f'):BI f' t:=fun j hj=>h j (by omega)
theorem F2:∀(n:Nat) (t:Ty),t.az<=n->t.az<=400->∀(s:Nm) (f:Nat),BI f t->(∀j,f<j->s≠hN j)->f+1000*t.az<50000000->an Tryz.prog 148 [.ref 0 0,t.av,.v (.string (mk s))] [Dh f false] (AN (kV t s) f (pM (kV t s) t))
 |0,t,h=>by have:=ef t;omega
 |
  n+1,t,hn=>by
  intro h4 s f hf hs hb
  refine HY _ _ _ _ ((aC _).mpr trivial) ?_
  have fin0:∀u:Ty,kV t s=some u->AN (kV t s) f (pM (kV t s) t) u.av [Dh f false]:=fun u hu=>by
   rw[hu];exact⟨f,aq _,dj _ _,rfl,rfl⟩
  cases t with
  |
   zero =>
   have:=fin0 .zero (vt s)
   simpa[CA,Ty.av,↓zq,zs,ac]using this
  |
   one =>
   have:=fin0 .zero (wZ s)
   simpa[CA,Ty.av,↓zq,zs,ac]using this
  |
   bN k =>
   have:=fin0 .zero (yx k s)
   simpa[CA,Ty.av,↓zq,zs,ac]using this
  |
   name c =>
   simp only[CA,Ty.av,↓zq,zs,ac,zt]
   refine⟨fun h=>(by cases h),fun _=>⟨by omega,fun _=>⟨by omega,fun h=>?_,fun h=>?_⟩,fun h=>absurd rfl h⟩⟩
   ·exact fin0 .one (by rw[n6,if_pos h])
   ·exact fin0 .zero (by rw[n6,if_neg h])
  |
   plus a b =>
   simp only[Ty.az]at hn h4 hb
   have pa:=ef a
   have pb:=ef b
   have fa:BI f a:=fun j hj=>by have:=hf j hj;simp only[bh,cr]at this;exact this.1
   have fb:BI f b:=fun j hj=>by have:=hf j hj;simp only[bh,cr]at this;exact this.2
   simp only[CA,Ty.av,↓zq,zs,ac,zt,aC]
   refine⟨fun h=>(by cases h),fun _=>⟨by omega,fun h=>by omega,fun _=>⟨fun _=>?_,fun h=>absurd rfl h⟩⟩⟩
   repeat refine⟨by omega,?_⟩
   rw[uy]
   refine bC (F2 n a (by omega) (by omega) s f fa hs (by omega)) (AN.ne _ _ _) ?_
   rintro r ob ⟨f1,g1,g2,rfl,rfl⟩
   simp only[↓zq,zs,ac,zt,bo,aC]
   repeat refine⟨by omega,?_⟩
   cases q1:kV a s with
   |
    none =>
    rw[q1]at g2
    simp only[pM]at g2
    simp only[Option.isNone_none,Option.getD_none,bc]
    refine aX (GO b s f1) ?_
    simp only[↓zq,zs,ac,zt,bo,aC]
    repeat refine⟨by omega,?_⟩
    refine ah (wN 43 _ _) ?_
    simp only[↓zq,zs,ac,zt,bY]
    refine aX (uF f1 true (.plus .zero .zero) (by simp[Ty.az])) ?_
    simp only[↓zq,zs,ac,zt,bo,aC]
    exact⟨f1,g1,by simp only[pM,Ty.az];omega,rfl,rfl⟩
   |
    some a' =>
    rw[q1]at g2
    simp only[pM]at g2
    have la:=(cS.1 q1).small
    simp only[Option.isNone_some,cA,aK]
    refine bC (F2 n b (by omega) (by omega) s f1 (qU fb g1) (fun j hj=>hs j (by omega)) (by omega)) (AN.ne _ _ _) ?_
    rintro r ob ⟨f2,k1,k2,rfl,rfl⟩
    simp only[↓zq,zs,ac,zt,bo,aC]
    repeat refine⟨by omega,?_⟩
    refine ah (wN 43 _ _) ?_
    simp only[↓zq,zs,ac,zt,bY]
    cases q2:kV b s with
    |
     none =>
     rw[q2]at k2
     simp only[pM]at k2
     simp only[Option.isNone_none,Option.getD_none,bc]
     refine aX (uF f2 true (.plus a' .zero) (by simp[Ty.az];omega)) ?_
     simp only[↓zq,zs,ac,zt,bo,aC]
     exact⟨f2,by omega,by simp only[pM,Ty.az];omega,rfl,rfl⟩
    |
     some b' =>
     rw[q2]at k2
     simp only[pM]at k2
     have lb:=(cS.1 q2).small
     simp only[Option.isNone_some,cA,aK]
     refine aX (uF f2 false (.plus a' b') (by simp only[Ty.az];omega)) ?_
     simp only[↓zq,zs,ac,zt,bo,aC]
     unfold mX
     by_cases hle:(Ty.plus a' b').az<=400
     ·rw[if_pos hle]
      refine⟨f2,by omega,by simp only[pM,Ty.az];omega,?_,?_⟩
      ·simp[uk,show ¬400<(Ty.plus a' b').az by omega]
      ·simp[zC,show ¬400<(Ty.plus a' b').az by omega]
     ·rw[if_neg hle]
      refine⟨f2,by omega,by simp only[pM,Ty.az];omega,?_,?_⟩
      ·simp[uk,show 400<(Ty.plus a' b').az by omega]
      ·simp[zC,show 400<(Ty.plus a' b').az by omega]
  |
   times a b =>
   simp only[Ty.az]at hn h4 hb
   have pa:=ef a
   have pb:=ef b
   have fa:BI f a:=fun j hj=>by have:=hf j hj;simp only[bh,cr]at this;exact this.1
   have fb:BI f b:=fun j hj=>by have:=hf j hj;simp only[bh,cr]at this;exact this.2
   simp only[CA,Ty.av,↓zq,zs,ac,zt,aC]
   refine⟨fun h=>(by cases h),fun _=>⟨by omega,fun h=>by omega,fun _=>⟨fun h=>by omega,fun _=>⟨fun _=>?_,fun h=>absurd rfl h⟩⟩⟩⟩
   repeat refine⟨by omega,?_⟩
   rw[so]
   refine bC (F2 n a (by omega) (by omega) s f fa hs (by omega)) (AN.ne _ _ _) ?_
   rintro r ob ⟨f1,g1,g2,rfl,rfl⟩
   simp only[↓zq,zs,ac,zt,bo,aC]
   repeat refine⟨by omega,?_⟩
   refine ah (wN 42 _ _) ?_
   simp only[↓zq,zs,ac,zt,bY]
   repeat refine⟨by omega,?_⟩
   cases q1:kV a s with
   |
    none =>
    rw[q1]at g2
    simp only[pM]at g2
    simp only[Option.isNone_none,Option.getD_none,bc]
    refine aX (GO b s f1) ?_
    simp only[↓zq,zs,ac,zt,bo,aC]
    repeat refine⟨by omega,?_⟩
    refine ah (wN 42 _ _) ?_
    simp only[↓zq,zs,ac,zt,bY]
    refine ah (wN 43 (.times .zero b) (.times a .zero)) ?_
    simp only[↓zq,zs,ac,zt,bY]
    refine aX (uF f1 true (.plus (.times .zero b) (.times a .zero)) (by simp only[Ty.az];omega)) ?_
    simp only[↓zq,zs,ac,zt,bo,aC]
    exact⟨f1,g1,by simp only[pM,Ty.az];omega,rfl,rfl⟩
   |
    some a' =>
    rw[q1]at g2
    simp only[pM]at g2
    have la:=(cS.1 q1).small
    simp only[Option.isNone_some,cA,aK]
    refine bC (F2 n b (by omega) (by omega) s f1 (qU fb g1) (fun j hj=>hs j (by omega)) (by omega)) (AN.ne _ _ _) ?_
    rintro r ob ⟨f2,k1,k2,rfl,rfl⟩
    simp only[↓zq,zs,ac,zt,bo,aC]
    repeat refine⟨by omega,?_⟩
    refine ah (wN 42 _ _) ?_
    simp only[↓zq,zs,ac,zt,bY]
    cases q2:kV b s with
    |
     none =>
     rw[q2]at k2
     simp only[pM]at k2
     simp only[Option.isNone_none,Option.getD_none,bc]
     refine ah (wN 43 (.times a' b) (.times a .zero)) ?_
     simp only[↓zq,zs,ac,zt,bY]
     refine aX (uF f2 true (.plus (.times a' b) (.times a .zero)) (by simp only[Ty.az];omega)) ?_
     simp only[↓zq,zs,ac,zt,bo,aC]
     exact⟨f2,by omega,by simp only[pM,Ty.az];omega,rfl,rfl⟩
    |
     some b' =>
     rw[q2]at k2
     simp only[pM]at k2
     have lb:=(cS.1 q2).small
     simp only[Option.isNone_some,cA,aK]
     refine ah (wN 43 (.times a' b) (.times a b')) ?_
     simp only[↓zq,zs,ac,zt,bY]
     refine aX (uF f2 false (.plus (.times a' b) (.times a b')) (by simp only[Ty.az];omega)) ?_
     simp only[↓zq,zs,ac,zt,bo,aC]
     unfold mX
     by_cases hle:(Ty.plus (.times a' b) (.times a b')).az<=400
     ·rw[if_pos hle]
      refine⟨f2,by omega,by simp only[pM,Ty.az];omega,?_,?_⟩
      ·simp[uk,show ¬400<(Ty.plus (.times a' b) (.times a b')).az by omega]
      ·simp[zC,show ¬400<(Ty.plus (.times a' b) (.times a b')).az by omega]
     ·rw[if_neg hle]
      refine⟨f2,by omega,by simp only[pM,Ty.az];omega,?_,?_⟩
      ·simp[uk,show 400<(Ty.plus (.times a' b) (.times a b')).az by omega]
      ·simp[zC,show 400<(Ty.plus (.times a' b) (.times a b')).az by omega]
  |
   rc a =>
   simp only[Ty.az]at hn h4 hb
   have pa:=ef a
   have fa:BI f a:=fun j hj=>hf j hj
   have hxa:bh (hN (f+1)) a=false:=fa _ (by omega)
   have hxs:hN (f+1)≠s:=fun e=>hs _ (by omega) e.symm
   have fo:BI (f+1) (dF (.name (hN (f+1))) a 0):=fun j hj=>by
    cases q:bh (hN j) (dF (.name (hN (f+1))) a 0)with
    |false=>rfl
    |
     true =>
     rcases gr a 0 q with e|e
     ·have:=s9 e;omega
     ·rw[fa j (by omega)]at e;cases e
   have hoa:(dF (.name (hN (f+1))) a 0).az=a.az:=fq _ _ _
   have hop:=G0 (.name (hN (f+1))) a 0 (by omega)
   rw[AL hxa hxs]
   simp only[CA,Ty.av,↓zq,zs,ac,zt,aC]
   refine⟨fun h=>(by cases h),fun _=>⟨by omega,fun h=>by omega,fun _=>⟨fun h=>by omega,fun _=>⟨fun h=>by omega,fun _=>⟨fun _=>?_,fun h=>absurd rfl h⟩⟩⟩⟩⟩
   refine aX (KX f false (by omega)) ?_
   simp only[↓zq,zs,ac,zt,bo,aC]
   repeat refine⟨by omega,?_⟩
   simp only[Ty.av]at hop
   refine ah hop ?_
   simp only[↓zq,zs,ac,zt,bo,aC]
   refine bC (F2 n (dF (.name (hN (f+1))) a 0) (by omega) (by omega) s (f+1) fo (fun j hj=>hs j (by omega)) (by omega)) (AN.ne _ _ _) ?_
   rintro r ob ⟨f1,g1,g2,rfl,rfl⟩
   simp only[↓zq,zs,ac,zt,bo,aC]
   generalize hx:hN (f+1)=x at *
   generalize hin:dF (.name x) a 0=i at *
   have hrc:(Ty.rc a).av=.ptr [.v (.int .u8 114),.v (.string (mk [])),.v (.int .i64 0),a.av,.v (.pointer none)]:=rfl
   cases q1:kV i s with
   |
    none =>
    rw[q1]at g2
    simp only[pM]at g2
    simp only[Option.isNone_none,Option.getD_none,bc]
    refine aX (uF f1 true .zero (by simp[Ty.az])) ?_
    simp only[↓zq,zs,ac,zt,bo,aC]
    rw[<-hrc]
    refine ah (BD x (.rc a) _) ?_
    simp only[↓zq,zs,ac,zt,aC]
    refine aX (GO i x f1) ?_
    simp only[↓zq,zs,ac,zt,bo,aC]
    refine aX (uF f1 true .zero (by simp[Ty.az])) ?_
    simp only[↓zq,zs,ac,zt,bo,aC]
    refine ah (BD x (.rc a) _) ?_
    simp only[↓zq,zs,ac,zt,aC]
    refine ah (wN 42 _ (.bN 0)) ?_
    simp only[↓zq,zs,ac,zt,bY]
    refine ah (wN 43 (sub x (.rc a) (uk true .zero)) (.times (sub x (.rc a) (uk true .zero)) (.bN 0))) ?_
    simp only[↓zq,zs,ac,zt,bY,vq]
    have hz:sub x (.rc a) (uk true .zero)=.zero:=by rw[xD];rfl
    refine aX (uF f1 true (.rc (.plus (sub x (.rc a) (uk true .zero)) (.times (sub x (.rc a) (uk true .zero)) (.bN 0)))) (by rw[hz];simp only[Ty.az];omega)) ?_
    simp only[↓zq,zs,ac,zt,bo,aC]
    rw[xD,vq]
    exact⟨f1,by omega,by simp only[pM,Ty.az];omega,rfl,rfl⟩
   |
    some c =>
    rw[q1]at g2
    simp only[pM]at g2
    have lc:=(cS.1 q1).small
    simp only[Option.isNone_some,cA,aK]
    refine aX (uF f1 false c (by omega)) ?_
    simp only[↓zq,zs,ac,zt,bo,aC]
    rw[uw lc,u6 lc,<-hrc]
    refine ah (BD x (.rc a) c) ?_
    simp only[↓zq,zs,ac,zt,aC]
    refine bC (F2 n i (by omega) (by omega) x f1 (qU fo g1) (fun j hj=>by rw[<-hx];exact fun e=>by have:=s9 e;omega) (by omega)) (AN.ne _ _ _) ?_
    rintro r ob ⟨f2,k1,k2,rfl,rfl⟩
    simp only[↓zq,zs,ac,zt,bo,aC]
    have hsc:(sub x (.rc a) c).az+fh x c=c.az+fh x c*(Ty.rc a).az:=dT x (.rc a) c
    have hcc:∀t:Ty,fh x t<=t.az:=fun t=>by
     have h1:=dT x .zero t
     have h2:=gI x .zero t
     simp only[Ty.az,dC]at h1
     have h3:∀t:Ty,fh x t<=t.az:=by
      intro t
      induction t with
      |name s=>simp only[fh,Ty.az];split<;>omega
      |plus a b i1 i2=>simp only[fh,Ty.az];omega
      |times a b i1 i2=>simp only[fh,Ty.az];omega
      |rc a i=>simp only[fh,Ty.az];omega
      |_=>simp[fh,Ty.az]
     exact h3 t
    have hbig:∀t:Ty,t.az<=400->(sub x (.rc a) t).az<=400+400*402:=fun t ht=>by
     have h1:=dT x (.rc a) t
     have h2:=hcc t
     have h3:fh x t*(Ty.rc a).az<=400*402:=Nat.mul_le_mul (by omega) (by simp only[Ty.az];omega)
     omega
    have b1:=hbig c lc
    cases q2:kV i x with
    |
     none =>
     rw[q2]at k2
     simp only[pM]at k2
     simp only[Option.isNone_none,Option.getD_none,bc]
     refine aX (uF f2 true .zero (by simp[Ty.az])) ?_
     simp only[↓zq,zs,ac,zt,bo,aC]
     rw[xD,vq]
     refine ah (BD x (.rc a) .zero) ?_
     simp only[↓zq,zs,ac,zt,aC]
     refine ah (wN 42 _ (.bN 0)) ?_
     simp only[↓zq,zs,ac,zt,bY]
     refine ah (wN 43 (sub x (.rc a) c) (.times (sub x (.rc a) .zero) (.bN 0))) ?_
     simp only[↓zq,zs,ac,zt,bY]
     refine aX (uF f2 true (.rc (.plus (sub x (.rc a) c) (.times (sub x (.rc a) .zero) (.bN 0)))) (by simp only[sub,Ty.az];omega)) ?_
     simp only[↓zq,zs,ac,zt,bo,aC]
     rw[xD,vq]
     exact⟨f2,by omega,by simp only[pM,Ty.az];omega,rfl,rfl⟩
    |
     some d =>
     rw[q2]at k2
     simp only[pM]at k2
     have ld:=(cS.1 q2).small
     have b2:=hbig d ld
     simp only[Option.isNone_some,cA,aK]
     refine aX (uF f2 false d (by omega)) ?_
     simp only[↓zq,zs,ac,zt,bo,aC]
     rw[uw ld,u6 ld]
     refine ah (BD x (.rc a) d) ?_
     simp only[↓zq,zs,ac,zt,aC]
     refine ah (wN 42 _ (.bN 0)) ?_
     simp only[↓zq,zs,ac,zt,bY]
     refine ah (wN 43 (sub x (.rc a) c) (.times (sub x (.rc a) d) (.bN 0))) ?_
     simp only[↓zq,zs,ac,zt,bY]
     have hdrc:pq a x c d=.rc (.plus (sub x (.rc a) c) (.times (sub x (.rc a) d) (.bN 0))):=rfl
     refine aX (uF f2 false (pq a x c d) (by rw[hdrc];simp only[Ty.az];omega)) ?_
     simp only[↓zq,zs,ac,zt,bo,aC]
     have s1:=gI x (.rc a) c
     have s2:=gI x (.rc a) d
     unfold mX
     by_cases hle:(pq a x c d).az<=400
     ·rw[if_pos hle,uw hle,u6 hle]
      exact⟨f2,by omega,by simp only[pM,hdrc,Ty.az];omega,rfl,rfl⟩
     ·rw[if_neg hle,DN hle,DG hle]
      exact⟨f2,by omega,by simp only[pM,Ty.az];omega,rfl,rfl⟩
def Na(o:Option Ty):AV->List Ob->Prop:=fun r ob=>ob=[]/\∃p,LK.ptr.has p/\r=.cv [p,.v (.bool o.isSome)]/\∀d,o=some d->p=d.av
theorem Na.ne(o:Option Ty):∃r ob,Na o r ob:=by
 cases o with
 |none=>exact⟨_,_,rfl,ir,(ib).mpr trivial,rfl,fun d h=>by cases h⟩
 |some d=>exact⟨_,_,rfl,d.av,(aC _).mpr trivial,rfl,fun d' h=>by cases h;rfl⟩
theorem F6:hN 1=lL:=by show (35::dd 1:Nm)=_;rw[eH (by omega)];rfl
theorem OD(a:Ty)(h4:a.az+2<=400)(hf:∀j,bh (hN j) a=false):an Tryz.prog 109 [(Ty.rc a).av] [] (Na (oL a lL)):=by
 have hxa:bh (hN 1) a=false:=hf 1
 have fo:BI 1 (dF (.name (hN 1)) a 0):=fun j hj=>by
  cases q:bh (hN j) (dF (.name (hN 1)) a 0)with
  |false=>rfl
  |
   true =>
   rcases gr a 0 q with e|e
   ·have:=s9 e;omega
   ·rw[hf j]at e;cases e
 have hoa:(dF (.name (hN 1)) a 0).az=a.az:=fq _ _ _
 have hop:=G0 (.name (hN 1)) a 0 (by omega)
 rw[<-F6]
 have hrc:(Ty.rc a).av=.ptr [.v (.int .u8 114),.v (.string (mk [])),.v (.int .i64 0),a.av,.v (.pointer none)]:=rfl
 refine Od _ ((aC _).mpr trivial) ?_
 unfold Kh
 refine aX (KX 0 false (by omega)) ?_
 simp only[Ty.av,↓zq,zs,ac,zt,bo,aC]
 repeat refine⟨by omega,?_⟩
 simp only[Ty.av]at hop
 refine ah hop ?_
 simp only[↓zq,zs,ac,zt,bo,aC]
 refine bC (F2 400 (dF (.name (hN 1)) a 0) (by omega) (by omega) (hN 1) 1 fo (fun j hj e=>by have:=s9 e;omega) (by omega)) (AN.ne _ _ _) ?_
 rintro r ob ⟨f1,g1,g2,rfl,rfl⟩
 simp only[↓zq,zs,ac,zt,bo,aC]
 unfold oL
 cases q1:kV (dF (.name (hN 1)) a 0) (hN 1)with
 |
  none =>
  simp only[Option.isNone_none,Option.getD_none,bc]
  refine aX (uF f1 true .zero (by simp[Ty.az])) ?_
  simp only[↓zq,zs,ac,zt,bo,aC,vq]
  exact⟨fun _=>⟨rfl,ir,(ib).mpr trivial,rfl,fun d h=>(by cases h)⟩,fun h=>(by cases h)⟩
 |
  some d =>
  have ld:=(cS.1 q1).small
  simp only[Option.isNone_some,cA,aK]
  refine aX (uF f1 false d (by omega)) ?_
  simp only[↓zq,zs,ac,zt,bo,aC]
  rw[uw ld,u6 ld]
  refine⟨fun h=>(by cases h),fun _=>?_⟩
  rw[<-hrc]
  refine ah (BD (hN 1) (.rc a) d) ?_
  simp only[↓zq,zs,ac,zt,aC]
  have h1:=dT (hN 1) (.rc a) d
  have hcn:fh (hN 1) d<=d.az:=by
   have h3:∀t:Ty,fh (hN 1) t<=t.az:=by
    intro t
    induction t with
    |name s=>simp only[fh,Ty.az];split<;>omega
    |plus a b i1 i2=>simp only[fh,Ty.az];omega
    |times a b i1 i2=>simp only[fh,Ty.az];omega
    |rc a i=>simp only[fh,Ty.az];omega
    |_=>simp[fh,Ty.az]
   exact h3 d
  have h3:fh (hN 1) d*(Ty.rc a).az<=400*402:=Nat.mul_le_mul (by omega) (by simp only[Ty.az];omega)
  refine aX (uF f1 false (sub (hN 1) (.rc a) d) (by omega)) ?_
  simp only[↓zq,zs,ac,zt,bo,aC]
  unfold mX
  by_cases hle:(sub (hN 1) (.rc a) d).az<=400
  ·rw[if_pos hle,uw hle,u6 hle]
   exact⟨rfl,_,(aC _).mpr trivial,rfl,fun d' h=>by cases h;rfl⟩
  ·rw[if_neg hle,DN hle,DG hle]
   exact⟨rfl,_,(aC _).mpr trivial,rfl,fun d' h=>(by cases h)⟩
end Go.Proofs.Trees
namespace Go.Proofs.Trees
open Go Go.VL Go.RowKit
theorem rh(h:Nm)(a b:E):(fN (.list [.atom h,a,b])).length=h.length+(fN a).length+(fN b).length+4:=by
 simp only[fN,ei,aB,ax,aJ];omega
theorem iY(F:List Nm)(hF:F.length<=10000):∀(t:Ty) (to:List Nm) (k:Nat),ue t->(∀w,w∈to->w.length<=20)->k+(F.length+1)*t.az<90000000->(fN (gV F t to k).1).length<=50*t.az
 | .zero,_,_,_,_,_=>by simp[gV,fN,Ty.az]
 | .one,_,_,_,_,_=>by simp[gV,fN,Ty.az]
 | .name s,_,_,hn,_,_=>by have:=hn s (by simp[bh]);simp only[gV,fN,Ty.az];omega
 |
  .bN u,to,_,_,ht,_=>by
  show (gd to u).length<=50*1
  unfold gd
  by_cases h:to.length-1-u<to.length
  ·rw[aa,bg h];have:=ht _ (bA h);simp only[cA];omega
  ·rw[aa,List.getElem?_eq_none (by omega)];simp
 |
  .plus a b,to,k,hn,ht,hk=>by
  have h1:=ig F a to k
  have:(F.length+1)*(1+a.az+b.az)=(F.length+1)+(F.length+1)*a.az+(F.length+1)*b.az:=by simp only[cR,dC]
  simp only[Ty.az]at hk
  have i1:=iY F hF a to k (fun y hy=>hn y (by simp[bh,hy])) ht (by omega)
  have i2:=iY F hF b to _ (fun y hy=>hn y (by simp[bh,hy])) ht (show (gV F a to k).2+_<_ by omega)
  simp only[gV,rh,Ty.az,aB,aJ];omega
 |
  .times a b,to,k,hn,ht,hk=>by
  have h1:=ig F a to k
  have:(F.length+1)*(1+a.az+b.az)=(F.length+1)+(F.length+1)*a.az+(F.length+1)*b.az:=by simp only[cR,dC]
  simp only[Ty.az]at hk
  have i1:=iY F hF a to k (fun y hy=>hn y (by simp[bh,hy])) ht (by omega)
  have i2:=iY F hF b to _ (fun y hy=>hn y (by simp[bh,hy])) ht (show (gV F a to k).2+_<_ by omega)
  simp only[gV,rh,Ty.az,aB,aJ];omega
 |
  .rc a,to,k,hn,ht,hk=>by
  obtain⟨g1,g2,_,_⟩:=gq F k
  have:(F.length+1)*(2+a.az)=(F.length+1)*2+(F.length+1)*a.az:=by simp only[cR]
  simp only[Ty.az]at hk
  have hl:=vZ (k:=nx F k) (by omega)
  have i1:=iY F hF a (to++[tN (nx F k)]) (nx F k+1) hn (fun w hw=>by
   rcases aI.1 hw with hw|hw
   ·exact ht w hw
   ·simp only[aN]at hw;rw[hw];exact hl) (by omega)
  simp only[gV,rh,Ty.az,aB,aJ]
  simp only[fN]
  simp only[aB]at hl |-
  omega
theorem LY(x0 a fv:AV)(F:List Nm)(h0:LK.ptr.has x0)(ha:LK.sl.has a)(hfv:cI fv F)(hF:F.length<100000):∀(n j:Nat),pG F n j<j+n->j+n<100000000 ->
 B5 [x0,a,.v (.string (mk (tN j)))] [.cells [fv],.cells [.v (.int .i64 ((j+1:Nat):Int))]] (gX 1 [x0,a,.v (.string (mk (tN (pG F n j))))] [.cells [fv],.cells [.v (.int .i64 ((pG F n j+1:Nat):Int))]])
 |0,j,h,_=>by simp only[pG]at h;omega
 |
  n+1,j,h,hj=>by
  refine Kv _ _ _ _ _ ?_
  simp only[FO,↓zq,zs,ac,zt,ac,hfv.1,h0,ha]
  refine⟨fun h=>(by simp at h),fun _=>?_⟩
  refine ah (JT F fv hfv (tN j) (by omega)) ?_
  simp only[↓zq,zs,ac,zt]
  rw[pG]at h |-
  refine⟨fun hm=>?_,fun hm=>?_⟩
  ·rw[if_pos hm]at h |-
   refine ah (GI (j+1) (by omega)) ?_
   have hd:=nL 8 (j+1) (by omega)
   simp only[↓zq,zs,ac,zt,a8,aO]
   rw[bq (j+1) (by omega)]
   exact⟨by simp[cG];omega,LY x0 a fv F h0 ha hfv hF n (j+1) (by omega) (by omega)⟩
  ·rw[if_neg hm]
   exact⟨rfl,rfl,rfl⟩
theorem PU(x0 a fv:AV)(F:List Nm)(h0:LK.ptr.has x0)(ha:LK.sl.has a)(hfv:cI fv F)(hF:F.length<10000)(k:Nat)(hk:k<90000000) :
 B5 [x0,a,.v (.string (mk []))] [.cells [fv],.cells [.v (.int .i64 (k:Int))]] (gX 1 [x0,a,.v (.string (mk (tN (nx F k))))] [.cells [fv],.cells [.v (.int .i64 ((nx F k+1:Nat):Int))]]):=by
 obtain⟨g1,g2,_,_⟩:=gq F k
 refine Kv _ _ _ _ _ ?_
 simp only[FO,↓zq,zs,ac,zt,ac,hfv.1,h0,ha]
 refine⟨fun _=>?_,fun h=>(by simp at h)⟩
 refine ah (GI k (by omega)) ?_
 have hd:=nL 8 k (by omega)
 simp only[↓zq,zs,ac,zt,a8,aO]
 rw[bq k (by omega)]
 exact⟨by simp[cG];omega,LY x0 a fv F h0 ha hfv (by omega) (F.length+1) k (by show nx F k<_;omega) (by omega)⟩
theorem yG(F:List Nm)(fv:AV)(hfv:cI fv F)(hF:F.length<=1000):∀(t:Ty) (to:List Nm) (a:AV) (k:Nat),cI a to->to.length+t.az<10000->jT t to.length->ue t->(∀w,w∈to->w.length<=20)->k+(F.length+1)*t.az<80000000 ->
 an Tryz.prog 176 [t.av,a,.gF 176 [none,some 0,some 1],.ref 0 0,.ref 1 0] [.cells [fv],.cells [.v (.int .i64 (k:Int))]] (dh (.v (.string (mk (fN (gV F t to k).1)))) [.cells [fv],.cells [.v (.int .i64 ((gV F t to k).2:Int))]])
 |
  .zero,to,a,k,ha,hl,hlc,hs,ht,hk=>by
  refine Gv _ _ _ _ ((aC _).mpr trivial) ha.1 hfv.1 ?_
  simp only[DA,Ty.av,↓zq,zs,ac,zt,aC]
  refine⟨by omega,fun h=>by omega,fun _=>⟨fun h=>by omega,fun _=>⟨fun h=>by omega,fun _=>⟨fun h=>by omega,fun _=>⟨fun h=>by omega,fun _=>?_⟩⟩⟩⟩⟩
  repeat refine⟨by omega,?_⟩
  exact⟨⟨rfl,(mE _ _).mpr trivial,trivial⟩,rfl,rfl⟩
 |
  .one,to,a,k,ha,hl,hlc,hs,ht,hk=>by
  refine Gv _ _ _ _ ((aC _).mpr trivial) ha.1 hfv.1 ?_
  simp only[DA,Ty.av,↓zq,zs,ac,zt,aC]
  refine⟨by omega,fun h=>by omega,fun _=>⟨fun h=>by omega,fun _=>⟨fun h=>by omega,fun _=>⟨fun h=>by omega,fun _=>⟨fun h=>by omega,fun _=>?_⟩⟩⟩⟩⟩
  repeat refine⟨by omega,?_⟩
  exact⟨⟨rfl,(mE _ _).mpr trivial,trivial⟩,rfl,rfl⟩
 |
  .name s,to,a,k,ha,hl,hlc,hs,ht,hk=>by
  refine Gv _ _ _ _ ((aC _).mpr trivial) ha.1 hfv.1 ?_
  simp[DA,Ty.av,↓zq,zs,ac,dh,gV,fN]
 |
  .bN u,to,a,k,ha,hl,hlc,hs,ht,hk=>by
  have hu:u<to.length:=hlc
  refine Gv _ _ _ _ ((aC _).mpr trivial) ha.1 hfv.1 ?_
  simp only[DA,Ty.av,↓zq,zs,ac,zt,ha.len]
  rw[wrap64 ((to.length:Int)-1) (by omega) (by omega),wrap64 _ (by omega) (by omega)]
  have e1:(to.length:Int)-1-(u:Int)=((to.length-1-u:Nat):Int):=by omega
  rw[e1]
  simp only[cf,ha.idx (show to.length-1-u<to.length by omega),↓zq,zs,ac,zt]
  refine⟨by omega,fun h=>by omega,fun _=>⟨fun _=>⟨ha.1,by omega,⟨ha.1,by omega,by omega⟩,by omega,rfl,rfl⟩,fun h=>absurd rfl h⟩⟩
 |
  .plus x y,to,a,k,ha,hl,hlc,hs,ht,hk=>by
  simp only[Ty.az]at hl hk
  have h1:=ig F x to k
  have hm:(F.length+1)*(1+x.az+y.az)=(F.length+1)+(F.length+1)*x.az+(F.length+1)*y.az:=by simp only[cR,dC]
  have sx:ue x:=fun z hz=>hs z (by simp[bh,hz])
  have sy:ue y:=fun z hz=>hs z (by simp[bh,hz])
  have t1:=iY F (by omega) x to k sx ht (by omega)
  have t2:=iY F (by omega) y to (gV F x to k).2 sy ht (by omega)
  have hb:(⟨(bytesOf [[.v (.int .u8 43)]]).toArray⟩:ByteArray)=mk [43]:=rfl
  have h8:jn [[AV.v (.int .u8 43)]]:=⟨rfl,(mE _ _).mpr trivial,trivial⟩
  refine Gv _ _ _ _ ((aC _).mpr trivial) ha.1 hfv.1 ?_
  simp only[DA,Ty.av,↓zq,zs,ac,zt,aC,hb]
  refine⟨by omega,fun h=>by omega,fun _=>⟨fun h=>by omega,fun _=>⟨fun _=>?_,fun h=>absurd rfl h⟩⟩⟩
  repeat refine⟨by omega,?_⟩
  refine aX (yG F fv hfv hF x to a k ha (by omega) hlc.1 sx ht (by omega)) ?_
  simp only[↓zq,zs,ac,zt,bo,hfv.1,hb,a8,aO]
  repeat (first|refine⟨by omega,?_⟩|refine⟨h8,?_⟩|refine⟨by simp[cG];omega,?_⟩)
  refine aX (yG F fv hfv hF y to a _ ha (by omega) hlc.2 sy ht (by omega)) ?_
  simp only[↓zq,zs,ac,zt,bo,hfv.1,hb,a8,aO]
  repeat (first|refine⟨by omega,?_⟩|refine⟨h8,?_⟩|refine⟨by simp[cG];omega,?_⟩)
  refine⟨?_,rfl⟩
  simp[gV,fN,ei]
 |
  .times x y,to,a,k,ha,hl,hlc,hs,ht,hk=>by
  simp only[Ty.az]at hl hk
  have h1:=ig F x to k
  have hm:(F.length+1)*(1+x.az+y.az)=(F.length+1)+(F.length+1)*x.az+(F.length+1)*y.az:=by simp only[cR,dC]
  have sx:ue x:=fun z hz=>hs z (by simp[bh,hz])
  have sy:ue y:=fun z hz=>hs z (by simp[bh,hz])
  have t1:=iY F (by omega) x to k sx ht (by omega)
  have t2:=iY F (by omega) y to (gV F x to k).2 sy ht (by omega)
  have hb:(⟨(bytesOf [[.v (.int .u8 42)]]).toArray⟩:ByteArray)=mk [42]:=rfl
  have h8:jn [[AV.v (.int .u8 42)]]:=⟨rfl,(mE _ _).mpr trivial,trivial⟩
  refine Gv _ _ _ _ ((aC _).mpr trivial) ha.1 hfv.1 ?_
  simp only[DA,Ty.av,↓zq,zs,ac,zt,aC,hb]
  refine⟨by omega,fun h=>by omega,fun _=>⟨fun h=>by omega,fun _=>⟨fun h=>by omega,fun _=>⟨fun _=>?_,fun h=>absurd rfl h⟩⟩⟩⟩
  repeat refine⟨by omega,?_⟩
  refine aX (yG F fv hfv hF x to a k ha (by omega) hlc.1 sx ht (by omega)) ?_
  simp only[↓zq,zs,ac,zt,bo,hfv.1,hb,a8,aO]
  repeat (first|refine⟨by omega,?_⟩|refine⟨h8,?_⟩|refine⟨by simp[cG];omega,?_⟩)
  refine aX (yG F fv hfv hF y to a _ ha (by omega) hlc.2 sy ht (by omega)) ?_
  simp only[↓zq,zs,ac,zt,bo,hfv.1,hb,a8,aO]
  repeat (first|refine⟨by omega,?_⟩|refine⟨h8,?_⟩|refine⟨by simp[cG];omega,?_⟩)
  refine⟨?_,rfl⟩
  simp[gV,fN,ei]
 |
  .rc x,to,a,k,ha,hl,hlc,hs,ht,hk=>by
  simp only[Ty.az]at hl hk
  obtain⟨g1,g2,_,_⟩:=gq F k
  have hm:(F.length+1)*(2+x.az)=(F.length+1)*2+(F.length+1)*x.az:=by simp only[cR]
  have hln:=vZ (k:=nx F k) (by omega)
  have ht':∀w,w∈to++[tN (nx F k)]->w.length<=20:=fun w hw=>by
   rcases aI.1 hw with hw|hw
   ·exact ht w hw
   ·simp only[aN]at hw;rw[hw];exact hln
  have t1:=iY F (by omega) x (to++[tN (nx F k)]) (nx F k+1) hs ht' (by omega)
  have hrc:(Ty.rc x).av=.ptr [.v (.int .u8 114),.v (.string (mk [])),.v (.int .i64 0),x.av,.v (.pointer none)]:=rfl
  refine Gv _ _ _ _ ((aC _).mpr trivial) ha.1 hfv.1 ?_
  simp only[DA,Ty.av,↓zq,zs,ac,zt,aC]
  refine⟨by omega,fun h=>by omega,fun _=>⟨fun h=>by omega,fun _=>⟨fun h=>by omega,fun _=>⟨fun h=>by omega,fun _=>⟨fun _=>?_,fun h=>absurd rfl h⟩⟩⟩⟩⟩
  rw[<-hrc]
  repeat refine⟨by omega,?_⟩
  refine cq (PU (Ty.rc x).av a fv F ((aC _).mpr trivial) ha.1 hfv (by omega) k (by omega)) ?_
  simp only[Ty.av,↓zq,zs,ac,zt,ac,bo,hfv.1,ha.1,aC,ha.2,wm,aO,j1,j9]
  have hl2:(dd (nx F k)).length+1<=20:=hln
  have hl3:(tN (nx F k)).length=(dd (nx F k)).length+1:=rfl
  refine⟨by omega,by simp only[ax,aB,aJ,hl3];omega,by omega,by omega,⟨fun c hc=>by simp at hc;rw[hc];rfl,by omega⟩,?_⟩
  refine aX (yG F fv hfv hF x (to++[tN (nx F k)]) _ (nx F k+1) (.of _) (by simp;omega) (by rw[ax];exact hlc) hs ht' (by omega)) ?_
  simp only[↓zq,zs,ac,zt,bo,hfv.1]
  repeat refine⟨by omega,?_⟩
  refine⟨by simp only[ax,aB,aJ,hl3];omega,by simp only[ax,aB,aJ,hl3];omega,?_,rfl⟩
  simp[gV,fN,ei]
theorem Pu(t:Ty)(g:fO t)(hs:ue t)(h4:t.az<=400):an Tryz.prog 151 [t.av] [] (bB (.v (.string (mk (Dq t))))):=by
 refine QA _ ((aC _).mpr trivial) ?_
 unfold HF
 have hn:=ep t []
 simp only[aJ,aV]at hn
 have hm:((bF t []).length+1)*t.az<=401*400:=Nat.mul_le_mul (by omega) h4
 refine ah (Kz t (by omega)) ?_
 simp only[↓zq,zs,ac,zt,cc]
 refine aX (yG (bF t []) _ (.of _) (by omega) t [] xt 0 .nil (by simp;omega) g.1 hs (fun w hw=>by cases hw) (by omega)) ?_
 simp only[↓zq,zs,ac,zt,bo,cc]
 exact⟨rfl,rfl⟩
theorem Pj(t:Ty)(g:fO t)(hs:ue t)(hl:t.az<1000000):an Tryz.prog 110 [t.av] [] (bB (pu (told t))):=by
 refine QD _ ((aC _).mpr trivial) ?_
 unfold H7
 refine ah (Dz t hl) ?_
 simp only[↓zq,zs,ac,zt]
 refine⟨fun h=>?_,fun h=>?_⟩
 ·have:told t=none:=by unfold told;rw[if_neg fun h'=>by have:=h'.1;omega]
  rw[this];exact⟨rfl,rfl⟩
 ·have h4:t.az<=400:=by omega
  refine ah (Pu t g hs h4) ?_
  simp only[↓zq,zs,ac,zt]
  refine ah (E1 (Dq t)) ?_
  simp only[↓zq,zs,ac,zt,ic]
  unfold told
  cases q:p9 (Dq t)with
  |
   none =>
   simp only[gZ,↓zq,zs,ac]
   rw[if_neg (by simp)]
   exact⟨fun _=>⟨rfl,rfl⟩,fun h=>(by cases h)⟩
  |
   some u =>
   simp only[gZ,↓zq,zs,ac,fD]
   rw[if_pos ⟨h4,rfl⟩]
   exact⟨fun h=>(by cases h),fun _=>⟨rfl,rfl⟩⟩
theorem Nr(s:Nm):an Tryz.prog 85 [.v (.string (mk s))] [] (bB (pu (cJ s))):=by
 refine Pz _ ?_
 unfold Iz
 refine ah (E1 s) ?_
 simp only[↓zq,zs,ac,zt,ic]
 cases q:p9 s with
 |
  none =>
  have:cJ s=none:=by unfold cJ;rw[q]
  rw[this]
  simp only[gZ,↓zq,zs,ac]
  exact⟨fun _=>⟨rfl,rfl⟩,fun h=>(by cases h)⟩
 |
  some t =>
  simp only[gZ,↓zq,zs,ac,fD]
  have notRec:(∀a,t≠.rc a)->cJ s=none:=fun hn=>by
   unfold cJ;rw[q]
   cases t<;>first|rfl|exact absurd rfl (hn _)
  refine⟨fun h=>(by cases h),fun _=>?_⟩
  cases t with
  |
   rc a =>
   have h4:=sF q
   simp only[Ty.az]at h4
   have hq:cJ s=(oL a lL).bind told:=by unfold cJ;rw[q]
   obtain⟨e,he,hw,hte,hats,hok⟩:=oN q
   have hgood:∀d,oL a lL=some d->fO d/\(ue (.rc a)->ue d):=fun d hd=>qm hw hte ⟨by simp,by simp,by simp⟩ hd
   rw[hq]
   simp only[Ty.av,↓zq,zs,ac]
   refine⟨by omega,fun h=>by omega,fun _=>?_⟩
   have hld:=OD a (by omega) (fun j=>by
    cases q2:bh (hN j) a with
    |false=>rfl
    |true=>exact absurd rfl ((wo (mC q (hN j) q2)).2 (dd j)))
   simp only[Ty.av]at hld
   refine bC hld (Na.ne _) ?_
   rintro r ob ⟨rfl,p,hp,rfl,hpe⟩
   simp only[↓zq,zs,ac,zt,eq_true hp]
   cases q1:oL a lL with
   |
    none =>
    simp only[aT,bc]
    exact⟨fun _=>⟨rfl,rfl⟩,fun h=>(by cases h)⟩
   |
    some d =>
    simp only[aP,aK]
    refine⟨fun h=>(by cases h),fun _=>?_⟩
    rw[hpe d q1]
    have hl:d.az<=400:=by
     simp only[oL,bm,eT]at q1
     obtain⟨_,_,h1,h2⟩:=q1
     rw[<-h2];exact h1
    refine ah (Pj d (hgood d q1).1 ((hgood d q1).2 (Bt q)) (by omega)) ?_
    cases told d<;>simp only[pu,↓zq,zs,ac,zt]<;>exact⟨rfl,rfl⟩
  |
   _ =>
   rw[notRec fun a h=>by cases h]
   simp only[Ty.av,↓zq,zs,ac]
   exact⟨by omega,fun _=>⟨rfl,rfl⟩,fun h=>by omega⟩
end Go.Proofs.Trees
namespace Go.Proofs.Trees
open Go Go.VL Go.RowKit
theorem Dp:∀(m:Nat) (c:Vl),c.nodes<=m->∀(t:Ty) (v:Vl),dH t c=true->∀(ea:AV) (ids:List Nat),kh ea ids->∀(s:List UInt8) (fr:AV),LK.has .ptr fr->an Tryz.prog 101 [.agg [t.av,ea],c.cu,.agg [.v (.string (mk s)),fr],v.cu] [] (bB (dz t c v).cu)
 |0,c,hm=>by have:=dA c;omega
 |
  m+1,c,hm=>by
  intro t v hc ea ids he s fr hf
  refine NF _ _ _ _ _ _ ((aC _).mpr trivial) he.has ((aH _).mpr trivial) hf ((aH _).mpr trivial) ?_
  have fin:∀x:AV,LK.has .ptr x->LK.has .ptr x=True:=fun x h=>eq_true h
  cases t with
  |zero=>rw[ss];simp[Bh,Ty.av,↓zq,zs,ac,bB]
  |one=>rw[vr];simp[Bh,Ty.av,↓zq,zs,ac,bB]
  |name n=>rw[mN];simp[Bh,Ty.av,↓zq,zs,ac,bB]
  |bN u=>rw[qG];simp[Bh,Ty.av,↓zq,zs,ac,bB]
  |
   plus a b =>
   have hL:=yA a.av b.av ea 43 (mk []) 0 ((aC _).mpr trivial) he.has
   have hR:=yt a.av b.av ea 43 (mk []) 0 ((aC _).mpr trivial) he.has
   rcases u4 hc with⟨x,rfl,hx⟩|⟨x,rfl,hx⟩
   ·simp only[Vl.nodes]at hm
    simp only[Bh,Ty.av,↓zq,zs,ac]
    refine⟨by omega,fun _=>?_,fun h=>absurd rfl h⟩
    refine ah hL ?_
    simp only[↓zq,zs,ac,bu,aC,he.has,Vl.cu,aH]
    refine⟨by omega,fun h=>by omega,fun _=>⟨by omega,by omega,?_⟩⟩
    refine ah (Dp m x (by omega) a v hx ea ids he s fr hf) ?_
    simp only[↓zq,zs,ac,aH]
    refine ah (yP 108 _ ((aH _).mpr trivial)) ?_
    simp[↓zq,zs,ac,bB,dz,Vl.cu,bY]
   ·simp only[Vl.nodes]at hm
    simp only[Bh,Ty.av,↓zq,zs,ac]
    refine⟨by omega,fun _=>?_,fun h=>absurd rfl h⟩
    refine ah hL ?_
    simp only[↓zq,zs,ac,bu,aC,he.has,Vl.cu,aH]
    refine⟨by omega,fun _=>?_,fun h=>absurd rfl h⟩
    refine ah hR ?_
    simp only[↓zq,zs,ac,bu,aC,he.has,Vl.cu,aH]
    refine⟨by omega,by omega,?_⟩
    refine ah (Dp m x (by omega) b v hx ea ids he s fr hf) ?_
    simp only[↓zq,zs,ac,aH]
    refine ah (yP 114 _ ((aH _).mpr trivial)) ?_
    simp[↓zq,zs,ac,bB,dz,Vl.cu,bY]
  |
   times a b =>
   have hL:=yA a.av b.av ea 42 (mk []) 0 ((aC _).mpr trivial) he.has
   have hR:=yt a.av b.av ea 42 (mk []) 0 ((aC _).mpr trivial) he.has
   rcases si hc with⟨x,y,rfl,hx⟩|⟨x,y,rfl,hx⟩
   ·simp only[Vl.nodes]at hm
    simp only[Bh,Ty.av,↓zq,zs,ac,Vl.cu]
    refine⟨by omega,fun h=>by omega,fun _=>⟨fun _=>⟨by omega,fun _=>?_,fun h=>absurd rfl h⟩,fun h=>absurd rfl h⟩⟩
    refine ah hL ?_
    simp only[↓zq,zs,ac,bu,aC,he.has,Vl.cu,aH]
    repeat refine⟨by omega,?_⟩
    refine ah (Dp m x (by omega) a v hx ea ids he s fr hf) ?_
    simp only[↓zq,zs,ac,aH]
    repeat refine⟨by omega,?_⟩
    refine ah (yL _ _ ((aH _).mpr trivial) ((aH _).mpr trivial)) ?_
    simp[↓zq,zs,ac,bB,dz,Vl.cu,bY]
   ·simp only[Vl.nodes]at hm
    simp only[Bh,Ty.av,↓zq,zs,ac,Vl.cu,aH]
    refine⟨by omega,fun h=>by omega,fun _=>⟨fun _=>⟨by omega,fun h=>by omega,fun _=>?_⟩,fun h=>absurd rfl h⟩⟩
    repeat refine⟨by omega,?_⟩
    refine ah hR ?_
    simp only[↓zq,zs,ac,bu,aC,he.has,Vl.cu,aH]
    repeat refine⟨by omega,?_⟩
    refine ah (Dp m y (by omega) b v hx ea ids he s fr hf) ?_
    simp only[↓zq,zs,ac,aH]
    refine ah (yL _ _ ((aH _).mpr trivial) ((aH _).mpr trivial)) ?_
    simp[↓zq,zs,ac,bB,dz,Vl.cu,bY]
  |
   rc a =>
   have hin:=Co a ea ids he
   simp only[Ty.av]at hin
   rcases Be hc with⟨x,rfl,hx⟩|⟨x,y,rfl,hx,hy⟩
   ·simp only[Vl.nodes]at hm
    simp only[Bh,Ty.av,↓zq,zs,ac,Vl.cu,aH]
    refine⟨by omega,fun h=>by omega,fun _=>⟨fun h=>by omega,fun _=>⟨fun _=>?_,fun h=>absurd rfl h⟩⟩⟩
    refine bC hin (by have:=Ai.ne a ea ids;simpa only[Ai,Ty.av]using this) ?_
    intro r o hr
    obtain⟨⟨q,hq,rfl⟩,rfl⟩:=hr
    have he2:kh (.ptr [.pid q [(Ty.rc a).av,ea],ea]) (q::ids):=.cons hq he
    have hfr:LK.ptr.has (.pid q [(Ty.rc a).av,ea]):=.inr (.inr ⟨_,_,rfl⟩)
    simp only[Ty.av]at he2 hfr
    simp only[↓zq,zs,ac,bu,aC,he2.has,hfr,Vl.cu,aH,Ty.av]
    repeat refine⟨by omega,?_⟩
    refine⟨fun _=>?_,fun h=>absurd rfl h⟩
    repeat refine⟨by omega,?_⟩
    refine ah (Dp m x (by omega) a v hx _ _ he2 s fr hf) ?_
    simp only[↓zq,zs,ac,aH]
    refine ah (yP 102 _ ((aH _).mpr trivial)) ?_
    simp[↓zq,zs,ac,bB,dz,Vl.cu,bY]
   ·simp only[Vl.nodes]at hm
    simp only[Bh,Ty.av,↓zq,zs,ac,Vl.cu,aH]
    refine⟨by omega,fun h=>by omega,fun _=>⟨fun h=>by omega,fun _=>⟨fun _=>?_,fun h=>absurd rfl h⟩⟩⟩
    refine bC hin (by have:=Ai.ne a ea ids;simpa only[Ai,Ty.av]using this) ?_
    intro r o hr
    obtain⟨⟨q,hq,rfl⟩,rfl⟩:=hr
    have he2:kh (.ptr [.pid q [(Ty.rc a).av,ea],ea]) (q::ids):=.cons hq he
    have hfr:LK.ptr.has (.pid q [(Ty.rc a).av,ea]):=.inr (.inr ⟨_,_,rfl⟩)
    simp only[Ty.av]at he2 hfr
    simp only[↓zq,zs,ac,bu,aC,he2.has,hfr,Vl.cu,aH,Ty.av]
    repeat refine⟨by omega,?_⟩
    refine fun _=>?_
    repeat refine⟨by omega,?_⟩
    have i1:=Dp m y (by omega) (.rc a) v hy ea ids he s fr hf
    simp only[Ty.av]at i1
    refine ah i1 ?_
    simp only[↓zq,zs,ac,aH]
    repeat refine⟨by omega,?_⟩
    refine ah (Dp m x (by omega) a (dz (.rc a) y v) hx _ _ he2 [] _ hfr) ?_
    simp only[↓zq,zs,ac,aH]
    refine ah (yP 102 _ ((aH _).mpr trivial)) ?_
    simp[↓zq,zs,ac,bB,dz,Vl.cu,bY]
theorem P0(a:Ty)(c v:Vl)(hc:dH a c=true):an Tryz.prog 74 [(Ty.rc a).av,c.cu,v.cu] [] (bB (Vl.f (dz a c v)).cu):=by
 refine Np _ _ _ ((aC _).mpr trivial) ((aH _).mpr trivial) ((aH _).mpr trivial) ?_
 unfold Kl
 refine bC (Co a ir [] .nil) (Ai.ne a ir []) ?_
 rintro r o ⟨⟨m,hm,rfl⟩,rfl⟩
 have he2:kh (.ptr [.pid m [(Ty.rc a).av,ir],ir]) [m]:=.cons hm .nil
 have hfr:LK.ptr.has (.pid m [(Ty.rc a).av,ir]):=.inr (.inr ⟨_,_,rfl⟩)
 simp only[Ty.av]at he2 hfr
 simp only[↓zq,zs,ac,bu,aC,he2.has,hfr,Ty.av]
 repeat refine⟨by omega,?_⟩
 refine ah (Dp c.nodes c (aq _) a v hc _ _ he2 [] _ hfr) ?_
 simp only[↓zq,zs,ac,aH]
 refine ah (yP 102 _ ((aH _).mpr trivial)) ?_
 simp[↓zq,zs,ac,bB,Vl.cu,bY]
end Go.Proofs.Trees
namespace Go.Proofs.Trees
open Go Go.VL Go.RowKit
def uB(l:List Vl):List (List AV):=l.map fun c=>[c.cu]
theorem jq(l:List Vl):(uB l).length=l.length:=by simp[uB]
theorem xN{l:List Vl}{i:Nat}(h:i<l.length):(uB l).getD i []=[(l[i]).cu]:=by simp[uB,aa,h]
theorem xz(l:List Vl)(c:Vl):uB l++[[c.cu]]=uB (l++[c]):=by simp[uB]
def rH(s:Nm)(a:Ty)(l:List Vl)(v:Vl):AV:=.ptr [.v (.string (mk s)),(Ty.rc a).av,.sl (uB l),v.cu]
def oZ(s:Nm)(a:Ty):Option (List Vl×Vl)->AV
 |some r=>rH s a r.1 r.2
 |none=>ir
theorem jP(s:Nm)(a:Ty)(o:Option (List Vl×Vl)):LK.has .ptr (oZ s a o)=True:=by cases o<;>simp[oZ,rH,ib,bY]
theorem Cc(v:Vl):(Vl.f v).nodes=v.nodes+1:=by simp only[Vl.nodes];omega
theorem Mf(s:Nm)(a:Ty)(l:List Vl)(v:Vl)(h:ZI a l v)(hl:l.length<=50):an Tryz.prog 46 [rH s a l v] [] (bB (oZ s a (vB a l v))):=by
 refine N5 _ ((bY _).mpr trivial) ?_
 simp only[IC,rH,↓zq,zs,ac,jq]
 refine⟨fun h=>(by cases h),fun _=>?_⟩
 repeat refine⟨by omega,?_⟩
 unfold vB
 refine⟨fun h0=>?_,fun h0=>?_⟩
 ·have:l=[]:=bV (by omega)
  subst this
  exact⟨rfl,rfl⟩
 ·have hpos:0<l.length:=by omega
  have hne:l≠[]:=by rintro rfl;simp at hpos
  rw[wrap64 ((l.length:Int)-1) (by omega) (by omega)]
  have e1:((l.length:Int)-1).toNat=l.length-1:=by omega
  have hlt:l.length-1<l.length:=by omega
  have hlast:l.getLast?=some (l[l.length-1]):=by rw[List.getLast?_eq_some_getLast hne,List.getLast_eq_getElem]
  rw[hlast]
  have hC:=h.C0 _ (bA hlt)
  generalize hc:l[l.length-1]=c at *
  simp only[e1,xN hlt,hc,↓zq,zs,ac,aH,aC]
  repeat refine⟨by omega,?_⟩
  refine ah (P0 a c v hC.ok) ?_
  simp only[↓zq,zs,ac,aH]
  have hn:=rb a c v
  have h1:=hC.nd
  have h2:=h.uh.nd
  refine ah (Dn (.f (dz a c v)) (by rw[Cc];omega)) ?_
  simp only[↓zq,zs,ac,aH,aC]
  refine⟨fun hb=>?_,fun hb=>?_⟩
  ·rw[if_neg (by omega)];exact⟨rfl,rfl⟩
  ·rw[if_pos (by omega)]
   repeat refine⟨by omega,?_⟩
   refine⟨?_,rfl⟩
   have:(uB l).take (l.length-1)=uB l.dropLast:=by rw[List.dropLast_eq_take];simp[uB]
   simp only[oZ,rH,Int.toNat_zero,a6,this]
theorem MG{s d:Nm}{a:Ty}{x A B:E}{D:Ty}(z:ZT s d a x A B D)(pa:AV)(p:List Nm)(hp:cI pa p)(hl:p.length<=50)(v:Vl):∀(k i:Nat) (l0:List Vl),i+k=p.length->l0.length<=i ->
 EJ [.v (.string (mk d)),pa,.v (.int .i64 (p.length:Int)),.v (.int .i64 (i:Int))] [.cells [.v (.string (mk s)),(Ty.rc a).av,.any,v.cu],.vec 1 (uB l0)]
  (ph (match eF d (p.drop i)with|some l=>(1,[],[.cells [.v (.string (mk s)),(Ty.rc a).av,.any,v.cu],.vec 1 (uB (l0++l))])|none=>(2,[ir],[])))
 |
  0,i,l0,hi,Nc=>by
  refine JE _ _ _ _ _ _ _ _ ?_
  have:i=p.length:=by omega
  subst this
  simp only[G9,↓zq,zs,ac,ac,aC,aH,List.drop_length]
  exact⟨hp.1,fun h=>by omega,fun _=>by simp[ph,eF]⟩
 |
  k+1,i,l0,hi,Nc=>by
  have hlt:i<p.length:=by omega
  have hd:p.drop i=p.getD i []::p.drop (i+1):=by rw[aL hlt];simp[aa,hlt]
  refine JE _ _ _ _ _ _ _ _ ?_
  simp only[G9,↓zq,zs,ac,zt,ac,aC,aH,hp.len,hp.idx hlt,cf]
  refine⟨hp.1,fun _=>⟨⟨hp.1,by omega,by omega⟩,by omega,?_⟩,fun h=>by omega⟩
  refine ah (MS d (p.getD i []) 100) ?_
  rw[hd,eF]
  simp only[↓zq,zs,ac,zt,ic,gm]
  cases q:nE d (p.getD i []) 100 with
  |
   none =>
   simp only[ja,↓zq,zs,ac]
   exact⟨fun _=>by first|trivial|rfl,fun h=>(by cases h)⟩
  |
   some w =>
   simp only[ja,↓zq,zs,ac,fe,xz]
   refine⟨fun h=>(by cases h),fun _=>?_⟩
   rw[bq i (by omega)]
   have ih:=MG z pa p hp hl v k (i+1) (l0++[w]) (by omega) (by simp;omega)
   refine⟨⟨fun c hc=>by simp at hc;rw[hc];rfl,by rw[jq];omega⟩,?_⟩
   cases q2:eF d (p.drop (i+1))with
   |none=>rw[q2]at ih;exact ih
   |some l=>rw[q2]at ih;simp only[ba,a8,aO]at ih;exact ih
theorem oc{s:Nm}{p:List Nm}{f:Nm}{l:List Vl}{v:Vl}(h:rL s p f=some (l,v)):∃d a x A B D,ZT s d a x A B D/\ZI a l v/\p=l.map (·.cN)/\f=v.cN/\p.length<=50/\zA s=a/\pP s f=some v/\eF d p=some l:=by
 unfold rL at h
 split at h
 ·rename_i v' d h1 h2
  split at h
  ·rename_i hl
   obtain⟨l',h3,h4⟩:=Option.map_eq_some_iff.1 h
   cases h4
   obtain⟨a,_,_,_,L⟩:=pd h1
   obtain⟨x,A,B,D,z⟩:=ZT.of L.l h2
   obtain⟨q1,q2⟩:=rm z p l h3
   obtain⟨q3,q4⟩:=z.uh h1
   exact⟨d,a,x,A,B,D,z,⟨q2,q3⟩,q1,q4,hl,by unfold zA;rw[L.l];rfl,h1,h3⟩
  ·cases h
 ·cases h
theorem IJ(s:Nm)(pa:AV)(p:List Nm)(hp:cI pa p)(f:Nm):an Tryz.prog 63 [.agg [.v (.string (mk s)),pa,.v (.string (mk f))]] [] (bB (oZ s (zA s) (rL s p f))):=by
 refine PE _ _ _ hp.1 ?_
 unfold Ml
 refine ah (OP s f) ?_
 have hlt:LK.has .ptr (Fq s)=True:=by unfold Fq;split<;>simp[aC,ib]
 simp only[↓zq,zs,ac,zt,hlt,gm]
 refine ah (Nr s) ?_
 have ho:∀o:Option Nm,pu o=.cv [.v (.string (mk (o.getD []))),.v (.bool o.isSome)]:=fun o=>by cases o<;>rfl
 rw[ho]
 simp only[↓zq,zs,ac,zt]
 unfold rL
 cases h1:pP s f with
 |
  none =>
  simp only[ja,↓zq,zs,ac]
  exact⟨fun _=>⟨rfl,rfl⟩,fun h=>(by cases h)⟩
 |
  some v =>
  simp only[ja,↓zq,zs,ac,fe]
  refine⟨fun h=>(by cases h),fun _=>?_⟩
  cases h2:cJ s with
  |
   none =>
   simp only[aT]
   exact⟨fun _=>⟨rfl,rfl⟩,fun h=>(by cases h)⟩
  |
   some d =>
   simp only[aP,cA,hp.len]
   refine⟨fun h=>(by cases h),fun _=>⟨hp.1,fun h=>?_,fun h=>?_⟩⟩
   ·rw[if_neg (by omega)];exact⟨rfl,rfl⟩
   ·have hl:p.length<=50:=by omega
    rw[if_pos hl]
    obtain⟨a,_,_,_,L⟩:=pd h1
    obtain⟨x,A,B,D,z⟩:=ZT.of L.l h2
    have ht:Fq s=(Ty.rc a).av:=by unfold Fq;rw[L.l]
    have hza:zA s=a:=by unfold zA;rw[L.l];rfl
    rw[ht,hza]
    refine⟨hp.1,?_⟩
    have hloop:=MG z pa p hp hl v p.length 0 [] (by omega) (by simp)
    rw[a6]at hloop
    refine fR hloop (fun ys o e=>?_) (fun ys o e=>?_)
    ·cases q:eF d p with
     |none=>rw[q]at e;cases e
     |
      some l =>
      rw[q]at e
      cases e
      simp only[↓zq,zs,ac,zt,ac,bo,aC,aH,co]
      exact⟨rfl,rfl⟩
    ·cases q:eF d p with
     |
      none =>
      rw[q]at e
      cases e
      simp only[↓zq,zs,ac,zt,ac,bo,Option.map_none]
      exact⟨rfl,rfl⟩
     |some l=>rw[q]at e;cases e
theorem IA(s:Nm)(a:Ty)(x3:AV)(h3:LK.ptr.has x3):∀(n:Nat) (l:List Vl) (v:Vl),l.length=n->ZI a l v->n<=50 ->
 Gg [x3,rH s a l v] [] (ph (if(kk n a l v).isSome=true then(1,[x3],[])else(2,[ir],[])))
 |
  0,l,v,hl,h,hn=>by
  refine Mw _ _ ?_
  simp only[Eh,rH,↓zq,zs,ac,h3,jq,hl,kk]
  repeat refine⟨by omega,?_⟩
  exact fun _=>by simp[ph]
 |
  n+1,l,v,hl,h,hn=>by
  refine Mw _ _ ?_
  have hup:=Mf s a l v h (by omega)
  simp only[Eh,↓zq,zs,ac,h3]
  simp only[rH,↓zq,zs,ac,jq,hl]at hup |-
  repeat refine⟨by omega,?_⟩
  refine⟨fun _=>?_,fun h=>by omega⟩
  refine ah hup ?_
  simp only[↓zq,zs,ac,jP]
  rw[kk]
  cases q:vB a l v with
  |
   none =>
   simp only[oZ,↓zq,zs,ac,bc]
   exact⟨fun _=>by simp[ph],fun h=>(by cases h)⟩
  |
   some r =>
   obtain⟨hz,hlen,_⟩:=th h q
   have ih:=IA s a x3 h3 n r.1 r.2 (by omega) hz (by omega)
   simp only[oZ,rH,↓zq,zs,ac,aK]at ih |-
   exact⟨fun h=>(by cases h),fun _=>ih⟩
theorem Fs(s:Nm)(pa:AV)(p:List Nm)(hp:cI pa p)(f:Nm):an Tryz.prog 45 [.agg [.v (.string (mk s)),pa,.v (.string (mk f))]] [] (bB (oZ s (zA s) (ij s p f))):=by
 refine Qr _ _ _ hp.1 ?_
 unfold Lx
 refine ah (IJ s pa p hp f) ?_
 simp only[↓zq,zs,ac,zt,jP]
 unfold ij
 cases q:rL s p f with
 |
  none =>
  simp only[oZ,↓zq,zs,ac,bc]
  exact⟨fun _=>⟨rfl,rfl⟩,fun h=>(by cases h)⟩
 |
  some r =>
  obtain⟨l,v⟩:=r
  obtain⟨d,a,x,A,B,D,z,hz,hpt,hft,hl,hza,_,_⟩:=oc q
  rw[hza]
  have hll:l.length<=50:=by rw[hpt]at hl;simpa using hl
  have hloop:=IA s a (rH s a l v) ((bY _).mpr trivial) l.length l v rfl hz hll
  simp only[oZ,aK]
  refine⟨fun h=>(by cases h),fun _=>?_⟩
  unfold ud
  refine fR hloop (fun ys o e=>?_) (fun ys o e=>?_)
  ·split at e
   ·rename_i hc
    cases e
    rw[if_pos hc]
    simp only[↓zq,zs,ac,rH,bY]
    exact⟨rfl,rfl⟩
   ·cases e
  ·split at e
   ·cases e
   ·rename_i hc
    cases e
    rw[if_neg hc]
    simp only[↓zq,zs,ac]
    exact⟨rfl,rfl⟩
end Go.Proofs.Trees
namespace Go.Proofs.Trees
open Go Go.VL
theorem iF(l:List (List UInt8)):∀x,x∈[Ob.vec 1 (bT l)]->fW x:=by
 intro x hx
 simp only[aN]at hx
 subst hx
 intro e he c hc
 simp only[bT,bS]at he
 obtain⟨k,_,rfl⟩:=he
 simp only[aN]at hc
 exact⟨_,hc⟩
end Go.Proofs.Trees
namespace Go.Proofs.Trees
open Go Go.VL Go.RowKit
abbrev tZ(s:Nm):Option (List Vl×Vl)->Nm×List Nm×Nm
 |some r=>(s,r.1.map (·.cN),r.2.cN)
 |none=>([],[],[])
def GZ(o:Option (List Vl×Vl)):Prop:=∀r,o=some r->(∀c,c∈r.1->c.cN.length<=900000)/\r.2.cN.length<=900000/\r.1.length<=51
theorem Cx.cN{a:Ty}{c:Vl}(h:Cx a c):c.cN.length<=900000:=by have:=iT c h.iA;have:=h.nd;omega
theorem Fo.cN{a:Ty}{c:Vl}(h:Fo a c):c.cN.length<=900000:=by have:=iT c h.iA;have:=h.nd;omega
theorem ZI.gz{a:Ty}{l:List Vl}{v:Vl}(h:ZI a l v)(hl:l.length<=51):GZ (some (l,v)):=fun r hr=>by
 cases hr;exact⟨fun c hc=>(h.C0 c hc).cN,h.uh.cN,hl⟩
theorem GZ.none:GZ none:=fun r hr=>by cases hr
theorem IP(l:List Vl)(hl:l.length<=51)(ht:∀c,c∈l->c.cN.length<=900000)(s f:Nm):∀(k i:Nat) (out:List Nm),i+k=l.length->out.length<=i ->
 G4 [.sl (uB l),.v (.int .i64 (l.length:Int)),.v (.int .i64 (i:Int))] [.cells [.v (.string (mk [])),xt,.v (.string (mk []))],.cells [.v (.string (mk s)),.any,.v (.string (mk f))],.vec 1 (bT out)]
  (gX 1 [] [.cells [.v (.string (mk [])),xt,.v (.string (mk []))],.cells [.v (.string (mk s)),.any,.v (.string (mk f))],.vec 1 (bT (out++(l.drop i).map (·.cN)))])
 |
  0,i,out,hi,ho=>by
  refine LH _ _ _ _ _ _ _ _ _ ?_
  have:i=l.length:=by omega
  subst this
  simp only[FA,↓zq,zs,ac,zt,ac,bb,List.drop_length]
  exact⟨fun h=>by omega,fun _=>by simp[gX]⟩
 |
  k+1,i,out,hi,ho=>by
  have hlt:i<l.length:=by omega
  refine LH _ _ _ _ _ _ _ _ _ ?_
  simp only[FA,↓zq,zs,ac,zt,ac,bb,jq,xN hlt,aH,cf]
  refine⟨fun _=>?_,fun h=>by omega⟩
  repeat refine⟨by omega,?_⟩
  refine ah (DH (l[i]) (ht _ (bA hlt))) ?_
  simp only[↓zq,zs,ac,zt,wm,j1]
  refine⟨⟨fun c hc=>by simp at hc;rw[hc];rfl,by omega⟩,?_⟩
  rw[bq i (by omega),aL hlt,bG]
  have:=IP l hl ht s f k (i+1) (out++[(l[i]).cN]) (by omega) (by simp;omega)
  rw[ba]at this
  exact this
theorem Jv(s:Nm)(a:Ty)(o:Option (List Vl×Vl))(h:GZ o):an Tryz.prog 58 [oZ s a o] [] (dh (.cv [.agg [.v (.string (mk (tZ s o).1)),.vec 0,.v (.string (mk (tZ s o).2.2))],.v (.bool o.isSome)]) [.vec 1 (bT (tZ s o).2.1)]):=by
 refine Oy _ (by rw[jP];trivial) ?_
 unfold J0
 cases o with
 |
  none =>
  simp only[oZ,↓zq,zs,ac]
  exact⟨fun _=>⟨rfl,rfl⟩,fun h=>(by cases h)⟩
 |
  some r =>
  obtain⟨h1,h2,h3⟩:=h r rfl
  simp only[oZ,rH,↓zq,zs,ac,zt,aC,aH]
  refine⟨fun h=>(by cases h),fun _=>?_⟩
  repeat refine⟨by omega,?_⟩
  refine ah (DH r.2 h2) ?_
  simp only[↓zq,zs,ac,zt,aC,aH,jq]
  repeat refine⟨by omega,?_⟩
  have hlp:=IP r.1 h3 h1 s r.2.cN r.1.length 0 [] (by omega) (by simp)
  rw[a6,aO]at hlp
  refine cq hlp ?_
  simp only[↓zq,zs,ac,zt,ac,bo,bb]
  exact⟨rfl,rfl⟩
theorem gS{s:Nm}{p:List Nm}{f:Nm}{l:List Vl}{v:Vl}(h:ij s p f=some (l,v)):rL s p f=some (l,v)/\(ud (zA s) l v).isSome=true:=by
 unfold ij at h
 obtain⟨r,h1,h2⟩:=bm.1 h
 split at h2
 ·rename_i hc
  cases h2
  exact⟨h1,hc⟩
 ·cases h2
theorem w7{s:Nm}{p:List Nm}{f:Nm}{l:List Vl}{v:Vl}(h:ij s p f=some (l,v)):ZI (zA s) l v/\l.length<=50/\p=l.map (·.cN)/\f=v.cN:=by
 obtain⟨h1,_⟩:=gS h
 obtain⟨d,a,x,A,B,D,z,hz,hp,hf,hl,hza,_,_⟩:=oc h1
 rw[hza]
 exact⟨hz,by rw[hp]at hl;simpa using hl,hp,hf⟩
theorem CP(s:Nm)(p:List Nm)(f:Nm):GZ (ij s p f):=fun r hr=>by
 obtain⟨h1,h2,_⟩:=w7 (l:=r.1) (v:=r.2) hr
 exact h1.gz (by omega) r rfl
noncomputable def wi (s:Nm) (p:List Nm) (f g:Nm):Option (List Vl×Vl):=(ij s p f).bind fun _=>ij s p g
noncomputable def qx (s:Nm) (p:List Nm) (f:Nm):Option Nm:=(ij s p f).bind fun r=>(ud (zA s) r.1 r.2).map (·.cN)
abbrev Kx(s:Nm)(o:Option (List Vl×Vl)):AV->List Ob->Prop:=dh (.cv [.agg [.v (.string (mk (tZ s o).1)),.vec 0,.v (.string (mk (tZ s o).2.2))],.v (.bool o.isSome)]) [.vec 1 (bT (tZ s o).2.1)]
theorem P6(s:Nm)(pa:AV)(p:List Nm)(hp:cI pa p)(f g:Nm):an Tryz.prog 55 [.agg [.v (.string (mk s)),pa,.v (.string (mk f))],.v (.string (mk g))] [] (Kx s (wi s p f g)):=by
 refine PA _ _ _ _ hp.1 ?_
 unfold M5
 refine ah (Fs s pa p hp f) ?_
 simp only[↓zq,zs,ac,zt,jP]
 unfold wi
 cases q:ij s p f with
 |
  none =>
  simp only[oZ,↓zq,zs,ac,bc]
  exact⟨fun _=>⟨rfl,rfl⟩,fun h=>(by cases h)⟩
 |
  some r =>
  simp only[oZ,rH,↓zq,zs,ac,aK]
  refine⟨fun h=>(by cases h),fun _=>?_⟩
  refine ah (Fs s pa p hp g) ?_
  simp only[↓zq,zs,ac,zt,jP]
  refine aX (Jv s (zA s) _ (CP s p g)) ?_
  simp only[↓zq,zs,ac,zt,bo]
  exact⟨iF _,rfl,rfl⟩
theorem IR(s:Nm)(a:Ty):∀(n:Nat) (l:List Vl) (v w:Vl),l.length=n->ZI a l v->n<=50->kk n a l v=some w->Fo a w /\
 GY [rH s a l v] [] (gX 1 [rH s a [] w] [])
 |
  0,l,v,w,hl,h,hn,hc=>by
  cases hc
  have:l=[]:=bV hl
  subst this
  refine⟨h.uh,Lv _ ?_⟩
  simp only[FZ,rH,↓zq,zs,ac,jq,aJ]
  refine⟨by omega,fun h=>by omega,fun _=>by simp[gX]⟩
 |
  n+1,l,v,w,hl,h,hn,hc=>by
  rw[kk]at hc
  obtain⟨r,hu,hc⟩:=bm.1 hc
  obtain⟨hz,hlen,_⟩:=th (l':=r.1) (w:=r.2) h hu
  obtain⟨i1,i2⟩:=IR s a n r.1 r.2 w (by omega) hz (by omega) hc
  refine⟨i1,Lv _ ?_⟩
  have hup:=Mf s a l v h (by omega)
  rw[hu]at hup
  simp only[FZ,oZ]at hup |-
  simp only[rH,↓zq,zs,ac,jq,hl]at hup |-
  repeat refine⟨by omega,?_⟩
  refine⟨fun _=>?_,fun h=>by omega⟩
  refine ah hup ?_
  simp only[↓zq,zs,ac]
  exact i2
theorem PC(s:Nm)(pa:AV)(p:List Nm)(hp:cI pa p)(f:Nm):an Tryz.prog 30 [.agg [.v (.string (mk s)),pa,.v (.string (mk f))]] [] (bB (pu (qx s p f))):=by
 refine ND _ _ _ hp.1 ?_
 unfold IL
 refine ah (Fs s pa p hp f) ?_
 simp only[↓zq,zs,ac,jP]
 unfold qx
 cases q:ij s p f with
 |
  none =>
  simp only[oZ,↓zq,zs,ac,bc]
  exact⟨fun _=>⟨rfl,rfl⟩,fun h=>(by cases h)⟩
 |
  some r =>
  obtain⟨l,v⟩:=r
  obtain⟨hz,hl,_⟩:=w7 q
  obtain⟨w,hw⟩:=bK.1 (gS q).2
  obtain⟨h1,h2⟩:=IR s (zA s) l.length l v w rfl hz hl hw
  simp only[oZ,aK,hw,co]
  have hn:(rH s (zA s) l v).isNil=false:=rfl
  simp only[hn]
  refine⟨fun h=>(by cases h),fun _=>?_⟩
  refine cq h2 ?_
  simp only[↓zq,zs,ac,rH,aH,bY]
  repeat refine⟨by first|trivial|omega,?_⟩
  refine ah (DH w h1.cN) ?_
  simp only[↓zq,zs,ac,zt]
  exact⟨rfl,rfl⟩
end Go.Proofs.Trees
namespace Go.Proofs.Trees
open Go Go.VL Go.RowKit
def lh:E->Option E
 | .list [x,a,b]=>if x.at=[114,101,99]then some (.list [x,a,b])else none
 |_=>none
def oy(s:List UInt8):Option E:=match jp s with
 |some e=>lh e
 |none=>none
theorem Fb(s:List UInt8):an Tryz.prog 88 [.v (.string (mk s))] [] (jR (oy s) (oy s).isSome):=by
 refine PZ _ ?_
 unfold Jj
 refine bC (IU s) (jR.ne _ _ (fun h=>h)) ?_
 rintro r o ⟨c,d,hd,rfl,hh⟩
 have hhas:bu [.str,.sl] [.v (.string (mk c)),d] 0:=by simp[bu,dY,hd]
 simp only[↓zq,zs,ac,zt]
 refine⟨hhas,fun h=>?_,fun h=>?_⟩
 ·obtain⟨e,he,hce⟩:=hh h
  obtain⟨t,h1,hA,h3,h4,h5,_⟩:=iQ he
  have hce':=hce
  rw[dr]at hce'
  simp only[AV.agg.injEq,List.cons.injEq,AV.v.injEq,Value.string.injEq,and_true]at hce'
  obtain⟨hc1,rfl⟩:=hce'
  have hc2:=Au hc1
  subst hc2
  have head:∀w:List UInt8,an Tryz.prog 121 [.agg [.v (.string (mk e.at)),e.sp]] [] (bB (.v (.string (mk w))))->(w=[114,101,99]↔(lh e).isSome=true)->((lh e).isSome=true->lh e=some e) ->
   eK Tryz.prog 18 (Tree.call 121 [.agg [.v (.string (mk e.at)),e.sp]] [] fun r2 o2=>Tree.al (LK.str.has r2) (Tree.done 0 [.cv [.agg [.v (.string (mk e.at)),e.sp],.v (.bool (ae r2.ai==[114,101,99]))]] [])) fun _ xs obs=>jR (oy s) (oy s).isSome (xs.headD .any) obs:=by
   intro w hw h1 h2
   refine ah hw ?_
   simp only[↓zq,zs,ac,zt]
   refine⟨e.at,e.sp,hd,?_,fun hs=>⟨e,?_,(dr e).symm⟩⟩
   ·congr 3
    simp only[oy,he,AV.v.injEq,Value.bool.injEq,List.cons.injEq,and_true]
    rw[ct];simpa using h1
   ·simp only[oy,he]at hs |-;exact h2 hs
  have hl:∀x l,e=.list (x::l)->an Tryz.prog 121 [.agg [.v (.string (mk e.at)),e.sp]] [] (bB (.v (.string (mk x.at)))):=by
   rintro x l rfl;exact ui x l
  have ha:∀s0,e=.atom s0->an Tryz.prog 121 [.agg [.v (.string (mk e.at)),e.sp]] [] (bB (.v (.string (mk [])))):=by
   rintro s0 rfl;exact Ch s0 _ ((bb).mpr trivial) hA.ok
  rcases gn hA.wf hA.ty with⟨hb,_⟩|⟨u,g,rfl,_,hg⟩
  ·rcases fy hA.ty hb hA.cl with⟨rfl,rfl⟩|⟨rfl,rfl⟩|⟨s0,rfl,rfl,hp,h0,h1⟩|⟨x,a,b,t1,t2,rfl,hx,rfl,ha',hbb⟩|⟨x,a,b,t1,t2,rfl,hx,rfl,ha',hbb⟩|⟨x,a,b,t1,rfl,hx,rfl⟩
   ·exact head _ (ha _ rfl) (by simp[lh]) (by simp[lh])
   ·exact head _ (ha _ rfl) (by simp[lh]) (by simp[lh])
   ·exact head _ (ha _ rfl) (by simp[lh]) (by simp[lh])
   ·exact head _ (hl _ _ rfl) (by simp[lh,hx]) (by simp[lh,hx])
   ·exact head _ (hl _ _ rfl) (by simp[lh,hx]) (by simp[lh,hx])
   ·exact head _ (hl _ _ rfl) (by simp[lh,hx]) (by simp[lh,hx])
  ·simp at hg
 ·have hn:jp s=none:=by cases hq:jp s<;>simp[hq]at h |-
  refine⟨c,d,hd,?_,fun h=>?_⟩
  ·simp[oy,hn]
  ·simp[oy,hn]at h
theorem AX(s:List UInt8):(oy s).isSome=(kp s).isSome:=by
 unfold oy kp
 cases h:jp s with
 |none=>rw[mO h];rfl
 |
  some e =>
  obtain⟨t,h1,hA,h3,h4,h5,_⟩:=iQ h
  rw[h1]
  simp only
  rcases gn hA.wf hA.ty with⟨hb,_⟩|⟨u,g,rfl,_,hg⟩
  ·rcases fy hA.ty hb hA.cl with⟨rfl,rfl⟩|⟨rfl,rfl⟩|⟨s0,rfl,rfl,hp,h0,h1⟩|⟨x,a,b,t1,t2,rfl,hx,rfl,ha',hbb⟩|⟨x,a,b,t1,t2,rfl,hx,rfl,ha',hbb⟩|⟨x,a,b,t1,rfl,hx,rfl⟩<;>simp_all[lh]
  ·simp at hg
theorem LV.le{s v:List UInt8}{w:Vl}{a:Ty}{x A B:E}(h:LV s v w a x A B):oy s=some (.list [x,A,B]):=by
 unfold oy;rw[h.ce];simp[lh,h.hx]
theorem QF(n:Nat)(v:Vl)(x A B:E)(a:Ty)(hA:Ask B [.mk A.at (.list [x,A,B]) []] a)(hx:x.at=[114,101,99])(w:Vl)(hw:v=.f w)(hv:eJ n v (.list [x,A,B],[])=true)(hl:v.nodes<90000) :
 an Tryz.prog 92 [.agg [.v (.string (mk B.at)),B.sp],.v (.string (mk A.at)),.agg [.v (.string (mk w.cE.at)),w.cE.sp]] [] (bB (.sl (lN (kids a v)))):=by
 subst hw
 obtain⟨w',e,hw'⟩:=tq .nil hx hv
 cases e
 simp only[Vl.nodes]at hl
 have hnm:names [Fr.mk A.at (.list [x,A,B]) []]=[]++[A.at]:=rfl
 have h:=DS n w.nodes w (aq _) B _ a hA hw' (by simp;omega) A.at (by rw[hnm];right;rw[eY];rfl)
 rw[hnm,uU]at h
 exact h
end Go.Proofs.Trees
namespace Go.Proofs.Trees
open Go Go.VL Go.RowKit
def QH(e:E)(s:List UInt8)(t:Ty)(c v:Vl):Prop:=an Tryz.prog 99 [.agg [.v (.string (mk e.at)),e.sp],.v (.string (mk s)),.agg [.v (.string (mk c.cE.at)),c.cE.sp],.agg [.v (.string (mk v.cE.at)),v.cE.sp]] [] (bB (.agg [.v (.string (mk (dz t c v).cE.at)),(dz t c v).cE.sp]))
theorem DM:∀(m:Nat) (c:Vl),c.nodes<=m->∀(e:E) (env:List Fr) (t:Ty),Ask e env t->dH t c=true->∀(s:List UInt8) (v:Vl),QH e s t c v
 |0,c,hm=>by have:=dA c;omega
 |
  m+1,c,hm=>by
  intro e env t A hc s v
  unfold QH
  refine QM _ _ _ _ _ _ _ ((a7 _).mpr trivial) ((a7 _).mpr trivial) ((a7 _).mpr trivial) ?_
  have atomCase:∀s0,e=.atom s0->dz t c v=v->eK Tryz.prog 244 (CG (mk e.at) e.sp (mk s) (mk c.cE.at) c.cE.sp (mk v.cE.at) v.cE.sp) fun _ xs obs=>bB (.agg [.v (.string (mk (dz t c v).cE.at)),(dz t c v).cE.sp]) (xs.headD .any) obs:=by
   rintro s0 rfl hp
   have hne:s0≠[]:=A.ok
   rw[hp]
   simp only[CG,E.at,↓zq,zs,ac,zt,bB]
   exact⟨fun _=>trivial,fun h=>absurd h hne⟩
  have hvh:=AO c
  rw[dr]at hvh
  rcases gn A.wf A.ty with⟨hb,hq⟩|⟨u,g,rfl,hq,hu⟩
  ·rcases fy A.ty hb A.cl with⟨rfl,rfl⟩|⟨rfl,rfl⟩|⟨s0,rfl,rfl,hp,h0,h1⟩|⟨x,a,b,t1,t2,rfl,hx,rfl,ha,hbb⟩|⟨x,a,b,t1,t2,rfl,hx,rfl,ha,hbb⟩|⟨x,a,b,t1,rfl,hx,rfl⟩
   ·exact atomCase _ rfl (ss _ _)
   ·exact atomCase _ rfl (vr _ _)
   ·exact atomCase _ rfl (mN _ _ _)
   ·obtain⟨ok1,ok2,ok3,_⟩:=A.ok
    obtain⟨f1,f2⟩:=e9 A.cl
    have hP:=P3.of x a b
    have hH:an Tryz.prog 121 [.agg [.v (.string (mk [])),(E.list [x,a,b]).sp]] [] (bB (.v (.string (mk [43])))):=by rw[<-hx];exact ui x [a,b]
    rcases u4 hc with⟨y,rfl,hy⟩|⟨y,rfl,hy⟩
    ·simp only[Vl.nodes]at hm
     have hW:=P2.of (.atom [108]) y.cE
     simp only[Vl.cE,bR]at hvh
     simp only[CG,bR,Vl.cE,toNat_one,bj,↓zq,zs,ac,zt,hP.1,hP.2.1,hP.2.2.1,hP.2.2.2,hW.1,hW.2.1,hW.2.2,aR]
     refine⟨fun h=>absurd rfl h,fun _=>?_⟩
     repeat refine⟨by omega,?_⟩
     refine ah hH ?_
     simp only[↓zq,zs,ac,zt]
     refine ah hvh ?_
     simp only[vh,↓zq,zs,ac,zt,a8,aO]
     refine⟨by simp[cG],fun _=>?_,fun h=>absurd rfl h⟩
     repeat refine⟨by omega,?_⟩
     refine ah (DM m y (by omega) a env t1 ⟨ok2,A.wf,ha,f1⟩ hy s v) ?_
     simp only[↓zq,zs,ac,zt,aR]
     repeat refine⟨by omega,?_⟩
     refine ah (zw _ _) ?_
     simp only[↓zq,zs,ac,zt,aR]
     repeat refine⟨by omega,?_⟩
     exact⟨rfl,rfl⟩
    ·simp only[Vl.nodes]at hm
     have hW:=P2.of (.atom [114]) y.cE
     simp only[Vl.cE,bR]at hvh
     simp only[CG,bR,Vl.cE,toNat_one,bj,↓zq,zs,ac,zt,hP.1,hP.2.1,hP.2.2.1,hP.2.2.2,hW.1,hW.2.1,hW.2.2,aR]
     refine⟨fun h=>absurd rfl h,fun _=>?_⟩
     repeat refine⟨by omega,?_⟩
     refine ah hH ?_
     simp only[↓zq,zs,ac,zt]
     refine ah hvh ?_
     simp only[vh,↓zq,zs,ac,zt,a8,aO]
     refine⟨by simp[cG],fun h=>by simp at h,fun _=>⟨fun _=>?_,fun h=>absurd rfl h⟩⟩
     repeat refine⟨by omega,?_⟩
     refine ah (DM m y (by omega) b env t2 ⟨ok3,A.wf,hbb,f2⟩ hy s v) ?_
     simp only[↓zq,zs,ac,zt,aR]
     repeat refine⟨by omega,?_⟩
     refine ah (zw _ _) ?_
     simp only[↓zq,zs,ac,zt,aR]
     repeat refine⟨by omega,?_⟩
     exact⟨rfl,rfl⟩
   ·obtain⟨ok1,ok2,ok3,_⟩:=A.ok
    obtain⟨f1,f2⟩:=eI A.cl
    have hP:=P3.of x a b
    have hH:an Tryz.prog 121 [.agg [.v (.string (mk [])),(E.list [x,a,b]).sp]] [] (bB (.v (.string (mk [42])))):=by rw[<-hx];exact ui x [a,b]
    rcases si hc with⟨y,z,rfl,hy⟩|⟨y,z,rfl,hy⟩
    ·simp only[Vl.nodes]at hm
     have hW:=P2.of (.atom [108]) (E.list [.atom [112],y.cE,z.cE])
     have hQ:=P3.of (.atom [112]) y.cE z.cE
     simp only[Vl.cE,bR]at hvh
     simp only[CG,bR,Vl.cE,toNat_one,bj,↓zq,zs,ac,zt,hP.1,hP.2.1,hP.2.2.1,hP.2.2.2,hW.1,hW.2.1,hW.2.2,hQ.1,hQ.2.1,hQ.2.2.1,hQ.2.2.2,aR]
     refine⟨fun h=>absurd rfl h,fun _=>?_⟩
     repeat refine⟨by omega,?_⟩
     refine ah hH ?_
     simp only[↓zq,zs,ac,zt]
     refine ah hvh ?_
     simp only[vh,↓zq,zs,ac,zt,a8,aO]
     refine⟨by simp[cG],fun h=>by simp at h,fun _=>⟨fun h=>by simp at h,fun _=>⟨fun _=>?_,fun h=>absurd rfl h⟩⟩⟩
     repeat refine⟨by omega,?_⟩
     refine ah (DM m y (by omega) a env t1 ⟨ok2,A.wf,ha,f1⟩ hy s v) ?_
     simp only[↓zq,zs,ac,zt,aR]
     repeat refine⟨by omega,?_⟩
     refine ah (xQ _ _ _) ?_
     simp only[↓zq,zs,ac,zt,aR]
     repeat refine⟨by omega,?_⟩
     exact⟨rfl,rfl⟩
    ·simp only[Vl.nodes]at hm
     have hW:=P2.of (.atom [114]) (E.list [.atom [112],y.cE,z.cE])
     have hQ:=P3.of (.atom [112]) y.cE z.cE
     simp only[Vl.cE,bR]at hvh
     simp only[CG,bR,Vl.cE,toNat_one,bj,↓zq,zs,ac,zt,hP.1,hP.2.1,hP.2.2.1,hP.2.2.2,hW.1,hW.2.1,hW.2.2,hQ.1,hQ.2.1,hQ.2.2.1,hQ.2.2.2,aR]
     refine⟨fun h=>absurd rfl h,fun _=>?_⟩
     repeat refine⟨by omega,?_⟩
     refine ah hH ?_
     simp only[↓zq,zs,ac,zt]
     refine ah hvh ?_
     simp only[vh,↓zq,zs,ac,zt,a8,aO]
     refine⟨by simp[cG],fun h=>by simp at h,fun _=>⟨fun h=>by simp at h,fun _=>⟨fun h=>by simp at h,fun _=>⟨fun _=>?_,fun h=>absurd rfl h⟩⟩⟩⟩
     repeat refine⟨by omega,?_⟩
     refine ah (DM m z (by omega) b env t2 ⟨ok3,A.wf,hbb,f2⟩ hy s v) ?_
     simp only[↓zq,zs,ac,zt,aR]
     repeat refine⟨by omega,?_⟩
     refine ah (xQ _ _ _) ?_
     simp only[↓zq,zs,ac,zt,aR]
     repeat refine⟨by omega,?_⟩
     exact⟨rfl,rfl⟩
   ·obtain⟨t1',he1,h1,f1,hw1⟩:=jg A.wf A.ok hx A.ty A.cl
    cases he1
    obtain⟨ok1,ok2,ok3,_⟩:=A.ok
    have A':Ask b (.mk a.at (.list [x,a,b]) env::env) t1:=⟨ok3,hw1,h1,f1⟩
    have hP:=P3.of x a b
    have hH:an Tryz.prog 121 [.agg [.v (.string (mk [])),(E.list [x,a,b]).sp]] [] (bB (.v (.string (mk [114,101,99])))):=by rw[<-hx];exact ui x [a,b]
    rcases Be hc with⟨y,rfl,hy⟩|⟨y,z,rfl,hy,hz⟩
    ·simp only[Vl.nodes]at hm
     have hW:=P2.of (.atom [102]) (E.list [.atom [108],y.cE])
     have hQ:=P2.of (.atom [108]) y.cE
     have hvi:=AO (.l y)
     rw[dr]at hvi
     simp only[Vl.cE,bR]at hvh hvi
     simp only[CG,bR,Vl.cE,toNat_one,bj,↓zq,zs,ac,zt,hP.1,hP.2.1,hP.2.2.1,hP.2.2.2,hW.1,hW.2.1,hW.2.2,hQ.1,hQ.2.1,hQ.2.2,aR]
     refine⟨fun h=>absurd rfl h,fun _=>?_⟩
     repeat refine⟨by omega,?_⟩
     refine ah hH ?_
     simp only[↓zq,zs,ac,zt]
     refine ah hvh ?_
     simp only[vh,↓zq,zs,ac,zt,a8,aO]
     refine⟨by simp[cG],fun h=>by simp at h,fun _=>⟨fun h=>by simp at h,fun _=>⟨fun h=>by simp at h,fun _=>⟨fun h=>by simp at h,fun _=>?_⟩⟩⟩⟩
     repeat refine⟨by omega,?_⟩
     refine ah hvi ?_
     simp only[vh,↓zq,zs,ac,zt]
     refine⟨fun _=>?_,fun h=>absurd rfl h⟩
     repeat refine⟨by omega,?_⟩
     refine ah (DM m y (by omega) b _ t1 A' hy s v) ?_
     simp only[↓zq,zs,ac,zt,aR]
     repeat refine⟨by omega,?_⟩
     refine ah (zw _ _) ?_
     simp only[↓zq,zs,ac,zt,aR]
     repeat refine⟨by omega,?_⟩
     exact⟨rfl,rfl⟩
    ·simp only[Vl.nodes]at hm
     have hW:=P2.of (.atom [102]) (E.list [.atom [114],E.list [.atom [112],y.cE,z.cE]])
     have hQ:=P2.of (.atom [114]) (E.list [.atom [112],y.cE,z.cE])
     have hR:=P3.of (.atom [112]) y.cE z.cE
     have hvi:=AO (.r (.p y z))
     rw[dr]at hvi
     simp only[Vl.cE,bR]at hvh hvi
     simp only[CG,bR,Vl.cE,toNat_one,bj,↓zq,zs,ac,zt,hP.1,hP.2.1,hP.2.2.1,hP.2.2.2,hW.1,hW.2.1,hW.2.2,hQ.1,hQ.2.1,hQ.2.2,hR.1,hR.2.1,hR.2.2.1,hR.2.2.2,aR]
     refine⟨fun h=>absurd rfl h,fun _=>?_⟩
     repeat refine⟨by omega,?_⟩
     refine ah hH ?_
     simp only[↓zq,zs,ac,zt]
     refine ah hvh ?_
     simp only[vh,↓zq,zs,ac,zt,a8,aO]
     refine⟨by simp[cG],fun h=>by simp at h,fun _=>⟨fun h=>by simp at h,fun _=>⟨fun h=>by simp at h,fun _=>⟨fun h=>by simp at h,fun _=>?_⟩⟩⟩⟩
     repeat refine⟨by omega,?_⟩
     refine ah hvi ?_
     simp only[vh,↓zq,zs,ac,zt]
     refine⟨fun h=>by simp at h,fun _=>?_⟩
     repeat refine⟨by omega,?_⟩
     have i1:=DM m z (by omega) (.list [x,a,b]) env (.rc t1) A hz s v
     unfold QH at i1
     simp only[bR]at i1
     refine ah i1 ?_
     simp only[↓zq,zs,ac,zt,aR]
     repeat refine⟨by omega,?_⟩
     refine ah (DM m y (by omega) b _ t1 A' hy a.at (dz (.rc t1) z v)) ?_
     simp only[↓zq,zs,ac,zt,aR]
     repeat refine⟨by omega,?_⟩
     refine ah (zw _ _) ?_
     simp only[↓zq,zs,ac,zt,aR]
     repeat refine⟨by omega,?_⟩
     exact⟨rfl,rfl⟩
  ·cases e with
   |atom s0=>exact atomCase _ rfl (qG _ _ _)
   |list l=>exact absurd hq (by rw[show (E.list l).at=[] from rfl,kA A.wf];simp)
end Go.Proofs.Trees
namespace Go.Proofs.Trees
open Go Go.VL Go.RowKit
abbrev D5:Ob:=.cells [.v (.string (mk [])),.v (.slice none 0 0),.v (.string (mk []))]
theorem ZT.le{s d:Nm}{a:Ty}{x A B:E}{D:Ty}(z:ZT s d a x A B D):oy s=some (.list [x,A,B]):=by
 unfold oy;rw[z.ce];simp[lh,z.hx]
theorem j6(o:Option Nm):pu o=.cv [.v (.string (mk (o.getD []))),.v (.bool o.isSome)]:=by cases o<;>rfl
theorem y7{a:Ty}{w v:Vl}(hw:Cx a w)(hv:Fo a v):(Vl.f (dz a w v)).cN.length<=900000:=by
 have h1:=iT (Vl.f (dz a w v)) (by exact rn 100 a w v hw.iA hv.iA)
 have h2:=rb a w v
 have:=hw.nd
 have:=hv.nd
 simp only[Vl.nodes]at h1
 omega
abbrev zc(a:Ty)(w v:Vl):Option Nm:=if(Vl.f (dz a w v)).nodes<=200 then some (Vl.f (dz a w v)).cN else none
theorem Ot{s d:Nm}{a:Ty}{x A B:E}{D:Ty}(z:ZT s d a x A B D)(w v:Vl)(hw:nE d w.cN 100=some w)(hv:Fo a v):an Tryz.prog 73 [.v (.string (mk s)),.v (.string (mk w.cN)),.v (.string (mk v.cN))] [] (bB (pu (zc a w v))):=by
 have hC:=z.C0 hw
 have hv2:nE s v.cN 100=some v:=by rw[z.cN hv.iA hv.ty,if_pos hv.nd]
 refine Oi _ _ _ ?_
 unfold Me
 refine bC (Fb s) (jR.ne _ _ (fun h=>h)) ?_
 rintro r o ⟨c,e,he,rfl,hh⟩
 rw[z.le]at hh
 obtain⟨e',he',hce⟩:=hh rfl
 cases he'
 rw[dr]at hce
 simp only[AV.agg.injEq,List.cons.injEq,AV.v.injEq,Value.string.injEq,and_true]at hce
 obtain⟨hc1,rfl⟩:=hce
 rw[z.le,hc1]
 simp only[↓zq,zs,ac,zt,aR,bR]
 repeat refine⟨by omega,?_⟩
 refine ah (I7 s) ?_
 rw[j6,z.dl]
 simp only[↓zq,zs,ac,zt,aP,cA]
 refine⟨fun h=>by simp at h,fun _=>⟨fun h=>by simp at h,fun _=>?_⟩⟩
 refine ah (zd d w.cN 100) ?_
 rw[hw]
 simp only[↓zq,zs,ac,aP]
 refine⟨fun h=>by simp at h,fun _=>?_⟩
 refine ah (zd s v.cN 100) ?_
 rw[hv2]
 simp only[↓zq,zs,ac,aP]
 refine⟨fun h=>by simp at h,fun _=>?_⟩
 have hP:=P3.of x A B
 have rd:∀q:Vl,q.iA 100->q.nodes<=200->∀{Q:AV->List Ob->Prop},(∀o,Q (.cv [.agg [.v (.string (mk q.cE.at)),q.cE.sp],.v (.bool true)]) o)->∀r o,jR ((rI q.cN).map Vl.cE) (rI q.cN).isSome r o->Q r o:=by
  intro q hu hn Q hQ r o
  rw[p5 hu hn]
  rintro⟨c,e,he,rfl,hh⟩
  obtain⟨e',he',hce⟩:=hh rfl
  cases he'
  rw[dr]at hce
  rw[hce]
  exact hQ o
 refine bC (C4 w.cN) (jR.ne _ _ (fun h=>by simpa using h)) (rd w hC.iA hC.nd fun o=>?_)
 simp only[↓zq,zs,ac,zt,aR]
 repeat refine⟨by omega,?_⟩
 refine bC (C4 v.cN) (jR.ne _ _ (fun h=>by simpa using h)) (rd v hv.iA hv.nd fun o=>?_)
 simp only[toNat_one,bj,↓zq,zs,ac,zt,hP.1,hP.2.1,hP.2.2.1,hP.2.2.2,aR,a7]
 repeat refine⟨by omega,?_⟩
 refine ah (DM w.nodes w (aq _) B _ a z.body hC.ok A.at v) ?_
 simp only[↓zq,zs,ac,zt,aR]
 repeat refine⟨by omega,?_⟩
 refine ah (zw _ _) ?_
 simp only[↓zq,zs,ac,zt,aR]
 repeat refine⟨by omega,?_⟩
 have htx:=BL (Vl.f (dz a w v)).cE (l6 _) (y7 hC hv)
 rw[dr]at htx
 simp only[Vl.cE,bR]at htx
 refine ah htx ?_
 simp only[↓zq,zs,ac,zt]
 refine ah (zd s (Vl.f (dz a w v)).cN 100) ?_
 rw[z.cN (w:=Vl.f (dz a w v)) (by exact rn 100 a w v hC.iA hv.iA) (hC.ty v hv.ty)]
 unfold zc
 by_cases hn:(Vl.f (dz a w v)).nodes<=200
 ·rw[if_pos hn,if_pos hn]
  simp only[↓zq,zs,ac,aP]
  exact⟨fun h=>by simp at h,fun _=>⟨rfl,rfl⟩⟩
 ·rw[if_neg hn,if_neg hn]
  simp only[↓zq,zs,ac,aT]
  exact⟨fun _=>⟨rfl,rfl⟩,fun h=>by simp at h⟩
theorem nq{d:Nm}:∀{p:List Nm} {l:List Vl},eF d p=some l->p=l.map (·.cN)->∀c,c∈l->nE d c.cN 100=some c
 |[],l,h,_,c,hc=>by cases h;cases hc
 |
  q::r,l,h,hp,c,hc=>by
  simp only[eF]at h
  split at h
  ·rename_i w l' h1 h2
   cases h
   simp only[bG,List.cons.injEq]at hp
   rcases aF.1 hc with rfl|hc
   ·rw[<-hp.1];exact h1
   ·exact nq h2 hp.2 c hc
  ·cases h
structure St(s d:Nm)(a:Ty)(l:List Vl)(v:Vl):Prop where
 z:∃x A B D,ZT s d a x A B D
 i:ZI a l v
 each:∀c,c∈l->nE d c.cN 100=some c
 len:l.length<=50
def yS(s:Nm)(pa:AV)(a:Ty)(l:List Vl)(v:Vl):AV:=match l.getLast? with
 |none=>.cv [.agg [.v (.string (mk s)),pa,.v (.string (mk v.cN))],.v (.bool false)]
 |some c=>.cv [.agg [.v (.string (mk s)),.sl (bT (l.dropLast.map (·.cN))),.v (.string (mk ((zc a c v).getD [])))],.v (.bool (zc a c v).isSome)]
theorem Pn{s d:Nm}{a:Ty}{l:List Vl}{v:Vl}(h:St s d a l v)(pa:AV)(hp:cI pa (l.map (·.cN))):an Tryz.prog 43 [.agg [.v (.string (mk s)),pa,.v (.string (mk v.cN))]] [] (bB (yS s pa a l v)):=by
 refine OF _ _ _ hp.1 ?_
 unfold HS
 have hlen:=h.len
 simp only[↓zq,zs,ac,zt,hp.len,cj,j1]
 unfold yS
 refine⟨hp.1,fun h0=>?_,fun h0=>?_⟩
 ·have:l=[]:=bV (by omega)
  subst this
  exact⟨rfl,rfl⟩
 ·have hpos:0<l.length:=by omega
  have hne:l≠[]:=by rintro rfl;simp at hpos
  rw[wrap64 ((l.length:Int)-1) (by omega) (by omega)]
  have e1:((l.length:Int)-1).toNat=l.length-1:=by omega
  have hlt:l.length-1<(l.map (·.cN)).length:=by rw[cj];omega
  have hlt':l.length-1<l.length:=by omega
  have hlast:l.getLast?=some (l[l.length-1]):=by rw[List.getLast?_eq_some_getLast hne,List.getLast_eq_getElem]
  rw[hlast]
  have hm:=bA hlt'
  have hg:(l.map (·.cN)).getD (l.length-1) []=(l[l.length-1]).cN:=by rw[aa,bg hlt,List.getElem_map];rfl
  obtain⟨x,A,B,D,z⟩:=h.z
  rw[e1,hp.idx hlt,hg]
  generalize l[l.length-1]=c at *
  simp only[↓zq,zs,ac,zt]
  refine⟨⟨hp.1,by omega⟩,by omega,?_⟩
  refine ah (Ot z c v (h.each c hm) h.i.uh) ?_
  rw[j6]
  simp only[↓zq,zs,ac,zt]
  refine⟨⟨hp.1,by omega⟩,⟨fun y hy=>?_,?_⟩,?_,rfl⟩
  ·rw[hp.2]at hy
   have:=List.mem_of_mem_take hy
   obtain⟨t,_,rfl⟩:=bS.1 this
   rfl
  ·rw[hp.2];simp[bT];omega
  ·have:pa.aS.take (l.length-1)=bT (l.dropLast.map (·.cN)):=by
    rw[hp.2,List.dropLast_eq_take,List.map_take];simp[bT,List.map_take]
   rw[this];rfl
theorem St.up{s d:Nm}{a:Ty}{l l':List Vl}{v w:Vl}(h:St s d a l v)(hu:vB a l v=some (l',w)):St s d a l' w:=by
 obtain⟨h1,h2,c,h3,_⟩:=th h.i hu
 have hl:=h.len
 exact⟨h.z,h1,fun c' hc'=>h.each c' (by rw[h3];exact ay _ hc'),by omega⟩
theorem zk{s:Nm}{pa:AV}{a:Ty}{l l':List Vl}{v w:Vl}(hu:vB a l v=some (l',w)):yS s pa a l v=.cv [.agg [.v (.string (mk s)),.sl (bT (l'.map (·.cN))),.v (.string (mk w.cN))],.v (.bool true)]:=by
 unfold vB at hu
 unfold yS
 cases q:l.getLast? with
 |none=>rw[q]at hu;cases hu
 |
  some c =>
  rw[q]at hu
  simp only at hu |-
  unfold zc
  split at hu
  ·rename_i hn
   cases hu
   rw[if_pos hn];rfl
  ·cases hu
theorem yO{s:Nm}{pa:AV}{a:Ty}{l:List Vl}{v:Vl}(hpa:LK.sl.has pa)(hu:vB a l v=none):∃p f,LK.sl.has p/\yS s pa a l v=.cv [.agg [.v (.string (mk s)),p,.v (.string (mk f))],.v (.bool false)]:=by
 unfold vB at hu
 unfold yS
 cases q:l.getLast? with
 |none=>exact⟨_,_,hpa,rfl⟩
 |
  some c =>
  rw[q]at hu
  simp only at hu |-
  unfold zc
  split at hu
  ·cases hu
  ·rename_i hn
   rw[if_neg hn];exact⟨_,_,(cc _).mpr trivial,rfl⟩
def Ev(s:Nm)(o:Option Vl):Nat->List AV->List Ob->Prop:=fun k ys ob=>match o with
 |some w=>k=1/\ys=[]/\∃pa,LK.sl.has pa/\ob=[.cells [.v (.string (mk s)),pa,.v (.string (mk w.cN))],D5]
 |none=>k=2/\ys=[.v (.bool false)]/\∃pa f,LK.sl.has pa/\ob=[.cells [.v (.string (mk s)),pa,.v (.string (mk f))]]
theorem Km(s d:Nm)(a:Ty):∀(n:Nat) (l:List Vl) (v:Vl) (pa:AV),l.length=n->St s d a l v->cI pa (l.map (·.cN))->Hh [] [.cells [.v (.string (mk s)),pa,.v (.string (mk v.cN))],D5] (Ev s (kk n a l v))
 |
  0,l,v,pa,hl,h,hp=>by
  refine Ky _ _ _ _ _ _ ?_
  simp only[ET,↓zq,zs,ac,zt,ac,bb,hp.len,cj,hl,kk]
  refine⟨hp.1,hp.1,fun h=>by omega,fun _=>?_⟩
  exact⟨rfl,rfl,pa,hp.1,rfl⟩
 |
  n+1,l,v,pa,hl,h,hp=>by
  refine Ky _ _ _ _ _ _ ?_
  simp only[ET,↓zq,zs,ac,zt,ac,bb,hp.len,cj,hl]
  refine⟨hp.1,hp.1,fun _=>?_,fun h=>by omega⟩
  refine ah (Pn h pa hp) ?_
  rw[kk]
  cases q:vB a l v with
  |
   none =>
   obtain⟨p',f',h1,h2⟩:=yO (s:=s) hp.1 q
   rw[h2]
   simp only[↓zq,zs,ac,zt,bu,bc]
   exact⟨h1,fun _=>⟨rfl,rfl,pa,v.cN,hp.1,rfl⟩,fun h=>by simp at h⟩
  |
   some r =>
   obtain⟨l',w⟩:=r
   obtain⟨_,hlen,_⟩:=th h.i q
   rw[zk q]
   simp only[↓zq,zs,ac,zt,bu,aK,cc]
   refine⟨fun h=>by simp at h,fun _=>?_⟩
   exact Km s d a n l' w _ (by omega) (h.up q) (cI.of _)
def zT(o:Option Vl):AV->List Ob->Prop:=fun r ob=>ob=[]/\∃c0 pa c2,LK.sl.has pa/\r=.cv [.agg [.v (.string c0),pa,.v (.string c2)],.v (.bool o.isSome)]/\∀w,o=some w->c2=mk w.cN
theorem zT.ne(o:Option Vl):∃r ob,zT o r ob:=⟨_,[],rfl,mk [],.sl [],mk ((o.map (·.cN)).getD []),(cc _).mpr trivial,rfl,fun w h=>by rw[h];rfl⟩
theorem Iy{s d:Nm}{a:Ty}{l:List Vl}{v:Vl}(h:St s d a l v)(pa:AV)(hp:cI pa (l.map (·.cN))):an Tryz.prog 70 [.agg [.v (.string (mk s)),pa,.v (.string (mk v.cN))]] [] (zT (ud a l v)):=by
 refine PJ _ _ _ hp.1 ?_
 unfold Iv
 have hloop:=Km s d a l.length l v pa rfl h hp
 refine kN hloop (fun ys o e=>?_) (fun ys o e=>?_)
 ·unfold Ev at e
  unfold ud
  cases q:kk l.length a l v with
  |none=>rw[q]at e;exact absurd e.1 (by decide)
  |
   some w =>
   rw[q]at e
   obtain⟨_,rfl,p',h1,rfl⟩:=e
   simp only[↓zq,zs,ac,zt,ac,bb]
   exact⟨h1,rfl,_,_,_,h1,rfl,fun w' h=>by cases h;rfl⟩
 ·unfold Ev at e
  unfold ud
  cases q:kk l.length a l v with
  |some w=>rw[q]at e;exact absurd e.1 (by decide)
  |
   none =>
   rw[q]at e
   obtain⟨_,rfl,p',f',h1,rfl⟩:=e
   simp only[↓zq,zs,ac,zt,ac]
   exact⟨h1,rfl,_,_,_,h1,rfl,fun w' h=>by cases h⟩
theorem L0(s d f:Nm)(pa:AV)(p:List Nm)(hp:cI pa p)(hl:p.length<=50):∀(k i:Nat),i+k=p.length->G7 [.v (.string (mk d)),.v (.int .i64 (i:Int))] [.cells [.v (.string (mk s)),pa,.v (.string (mk f))]] (ph (if(eF d (p.drop i)).isSome=true then(1,[],[])else(2,[.v (.bool false)],[])))
 |
  0,i,hi=>by
  refine MU _ _ _ _ _ ?_
  have:i=p.length:=by omega
  subst this
  simp only[Gd,↓zq,zs,ac,zt,ac,hp.len,List.drop_length]
  exact⟨hp.1,hp.1,fun h=>by omega,fun _=>rfl⟩
 |
  k+1,i,hi=>by
  have hlt:i<p.length:=by omega
  have hd:p.drop i=p.getD i []::p.drop (i+1):=by rw[aL hlt];simp[aa,hlt]
  refine MU _ _ _ _ _ ?_
  simp only[Gd,↓zq,zs,ac,zt,ac,hp.len,hp.idx hlt,cf]
  refine⟨hp.1,hp.1,fun _=>⟨⟨hp.1,by omega,by omega⟩,by omega,?_⟩,fun h=>by omega⟩
  refine ah (zd d (p.getD i []) 100) ?_
  rw[hd,eF]
  simp only[↓zq,zs,ac]
  cases q:nE d (p.getD i []) 100 with
  |
   none =>
   simp only[aT]
   exact⟨fun _=>rfl,fun h=>by simp at h⟩
  |
   some w =>
   simp only[aP]
   refine⟨fun h=>by simp at h,fun _=>?_⟩
   rw[bq i (by omega)]
   have ih:=L0 s d f pa p hp hl k (i+1) (by omega)
   cases q2:eF d (p.drop (i+1))with
   |none=>rw[q2]at ih;exact ih
   |some l=>rw[q2]at ih;exact ih
theorem vX(s:Nm)(p:List Nm)(f:Nm):rL s p f=(cJ s).bind fun d=>(kp s).bind fun _=>(nE s f 100).bind fun v=>if p.length<=50 then(eF d p).map fun l=>(l,v)else none:=by
 unfold rL pP
 cases kp s with
 |none=>cases cJ s<;>rfl
 |some a=>cases nE s f 100<;>cases cJ s<;>rfl
theorem NH(s:Nm)(pa:AV)(p:List Nm)(hp:cI pa p)(f:Nm):an Tryz.prog 72 [.agg [.v (.string (mk s)),pa,.v (.string (mk f))]] [] (bB (.v (.bool (rL s p f).isSome))):=by
 refine OL _ _ _ hp.1 ?_
 unfold Ku
 refine ah (I7 s) ?_
 rw[j6]
 simp only[↓zq,zs,ac,zt]
 refine bC (Fb s) (jR.ne _ _ (fun h=>h)) ?_
 rintro r o ⟨c,e,he,rfl,_⟩
 rw[AX]
 simp only[↓zq,zs,ac,zt,bu,hp.len]
 rw[vX]
 refine⟨he,fun h=>?_,fun h=>⟨fun h'=>?_,fun h'=>⟨hp.1,fun h''=>?_,fun h''=>?_⟩⟩⟩
 ·have:cJ s=none:=by cases q:cJ s with|none=>rfl|some d=>simp[q]at h
  rw[this]
  exact⟨rfl,rfl⟩
 ·have:kp s=none:=by cases q:kp s with|none=>rfl|some d=>simp[q]at h'
  rw[this]
  cases cJ s<;>exact⟨rfl,rfl⟩
 ·simp only[if_neg (show ¬p.length<=50 by omega)]
  exact⟨by cases cJ s<;>cases kp s<;>cases nE s f 100<;>rfl,rfl⟩
 ·obtain⟨d,hd⟩:∃d,cJ s=some d:=by cases q:cJ s with|none=>simp[q]at h|some d=>exact⟨d,rfl⟩
  obtain⟨a,ha⟩:∃a,kp s=some a:=by cases q:kp s with|none=>simp[q]at h'|some d=>exact⟨d,rfl⟩
  rw[hd,ha]
  refine ah (zd s f 100) ?_
  simp only[↓zq,zs,ac]
  cases q:nE s f 100 with
  |none=>simp only[aT];exact⟨fun _=>⟨rfl,rfl⟩,fun h=>by simp at h⟩
  |
   some v =>
   simp only[aP,cA,aK]
   refine⟨fun h=>by simp at h,fun _=>?_⟩
   have hl:p.length<=50:=by omega
   have hloop:=L0 s d f pa p hp hl p.length 0 (by omega)
   rw[a6]at hloop
   rw[if_pos hl]
   refine fR hloop (fun ys o e=>?_) (fun ys o e=>?_)
   ·cases q2:eF d p with
    |none=>rw[q2]at e;cases e
    |some l=>exact⟨rfl,rfl⟩
   ·cases q2:eF d p with
    |none=>rw[q2]at e;cases e;simp only[↓zq,zs,ac];exact⟨rfl,rfl⟩
    |some l=>rw[q2]at e;cases e
theorem wb{s:Nm}{p:List Nm}{f:Nm}{l:List Vl}{v:Vl}(h:rL s p f=some (l,v)):∃d,St s d (zA s) l v/\p=l.map (·.cN)/\f=v.cN:=by
 obtain⟨d,a,x,A,B,D,z,hz,hp,hf,hl,hza,_,hr⟩:=oc h
 rw[hza]
 exact⟨d,⟨⟨x,A,B,D,z⟩,hz,nq hr hp,by rw[hp]at hl;simpa using hl⟩,hp,hf⟩
theorem CT(s:Nm)(pa:AV)(p:List Nm)(hp:cI pa p)(f:Nm):an Tryz.prog 41 [.agg [.v (.string (mk s)),pa,.v (.string (mk f))]] [] (bB (.v (.bool (ij s p f).isSome))):=by
 refine QG _ _ _ hp.1 ?_
 unfold Lh
 refine ah (NH s pa p hp f) ?_
 simp only[↓zq,zs,ac]
 unfold ij
 cases q:rL s p f with
 |none=>simp only[aT];exact⟨fun _=>⟨rfl,rfl⟩,fun h=>by simp at h⟩
 |
  some r =>
  obtain⟨l,v⟩:=r
  obtain⟨d,hs,rfl,rfl⟩:=wb q
  simp only[aP,aK]
  refine⟨fun h=>by simp at h,fun _=>?_⟩
  refine bC (Iy hs pa hp) (zT.ne _) ?_
  rintro r o ⟨rfl,c0,p',c2,h1,rfl,_⟩
  simp only[↓zq,zs,ac,zt,bu]
  refine⟨h1,?_,rfl⟩
  congr 2
  cases ud (zA s) l v<;>rfl
end Go.Proofs.Trees
namespace Go.Proofs.Trees
open Go Go.VL Go.RowKit
inductive Rl(x:Nm):Nat->Tg->Tg->Prop
 |nm (i):Rl x i (.nm x) (.bd i)
 |j2 (i s) (h:s≠x):Rl x i (.nm s) (.nm s)
 |bd (i j) (h:j≠i):Rl x i (.bd j) (.bd j)
theorem Rl.up{x:Nm}{i:Nat}{a b:Tg}(h:Rl x i a b):Rl x (i+1) a.up b.up:=by
 cases h with
 |nm=>exact .nm _
 |j2 s h=>exact .j2 _ _ h
 |bd j h=>exact .bd _ _ (by omega)
theorem Rl.at{x:Nm}{i:Nat}{a b:Tg}(h:Rl x i a b):∀t:Ty,bh x t=false->fE (dF (.name x) t i) a=fE t b
 |
  .bN k,_=>by
  simp only[dF]
  cases h with
  |
   nm =>
   by_cases e:k=i
   ·simp[e,fE]
   ·simp[e,fE]
  |
   j2 s h =>
   by_cases e:k=i
   ·simp[e,fE,Ne.symm h]
   ·simp[e,fE]
  |
   bd j h =>
   by_cases e:k=i
   ·simp[e,fE,Ne.symm h]
   ·simp[e,fE]
 |
  .name s,hn=>by
  have hs:s≠x:=by simpa[bh]using hn
  cases h with
  |nm=>simp[dF,fE,hs]
  |j2=>rfl
  |bd=>rfl
 | .plus _ _,_=>by cases h<;>rfl
 | .times _ _,_=>by cases h<;>rfl
 | .rc _,_=>by cases h<;>rfl
 | .zero,_=>by cases h<;>rfl
 | .one,_=>by cases h<;>rfl
theorem gJ(x:Nm):∀(n:Nat) (t:Ty) (i:Nat) (a b:Tg) (v:Vl),bh x t=false->Rl x i a b->ew n (dF (.name x) t i) a v=ew n t b v
 |0,_,_,_,_,_,_,_=>rfl
 |
  n+1,t,i,a,b,v,hn,h=>by
  rw[ew,ew,h.at t hn]
  by_cases ht:fE t b=true
  ·rw[if_pos ht,if_pos ht]
  ·rw[if_neg ht,if_neg ht]
   cases t with
   |
    plus p q =>
    simp only[bh,cr]at hn
    cases v<;>simp only[dF,kl,gJ x n p i a b _ hn.1 h,gJ x n q i a b _ hn.2 h]
   |
    times p q =>
    simp only[bh,cr]at hn
    cases v<;>simp only[dF,kl,gJ x n p i a b _ hn.1 h,gJ x n q i a b _ hn.2 h]
   |
    rc p =>
    have h0:Rl x (i+1) (.bd 0) (.bd 0):=.bd _ _ (by omega)
    cases v<;>simp only[dF,kl]
    rename_i w
    rw[gJ x n p (i+1) a.up b.up w hn h.up,gJ x n p (i+1) (.bd 0) (.bd 0) w hn h0]
    congr 1
    apply jE
    intro k _
    have:=gJ x n (.rc p) i a b k.2 hn h
    simp only[dF]at this
    rw[this]
   |
    bN k =>
    simp only[dF]
    by_cases e:k=i
    ·rw[if_pos e];cases v<;>rfl
    ·rw[if_neg e];cases v<;>rfl
   |name s=>rfl
   |zero=>rfl
   |one=>rfl
theorem ni(x:Nm){t:Ty}{i:Nat}{a b:Tg}(v:Vl)(hn:bh x t=false)(h:Rl x i a b):cb (dF (.name x) t i) a v=cb t b v:=gJ x _ t i a b v hn h
theorem lX(n:Nat):∀(m:Nat) (v:Vl),v.nodes<=m->∀(t:Ty) (s:Nm) (d:Ty) (σ:Nm->Option Ty),Dv t s d->Ce σ->jT t 0->vT n v (eS σ t)=true->∀h,h∈cb t (.nm s) v ->
 vT n h.1 (eS σ d)=true/\vT n h.2 (eS σ (.name s))=true/\dz t h.1 h.2=v
 |0,v,hm=>by have:=dA v;omega
 |
  m+1,v,hm=>by
  intro t s d σ hd hσ hl hv h hh
  cases hd with
  |zero=>rw[dP rfl (by cases v<;>rfl)]at hh;cases hh
  |one=>rw[dP rfl (by cases v<;>rfl)]at hh;cases hh
  |bN=>rw[dP rfl (by cases v<;>rfl)]at hh;cases hh
  |qW hne=>rw[dP (by simp[fE,hne]) (by cases v<;>rfl)]at hh;cases hh
  |
   hit =>
   rw[mo v (by simp[fE])]at hh
   simp only[aN]at hh
   subst hh
   exact⟨rfl,hv,mN _ _ _⟩
  |
   @plus a b _ a' b' h1 h2 _ =>
   rcases kU hv with⟨w,rfl,hw⟩|⟨w,rfl,hw⟩
   ·simp only[Vl.nodes]at hm
    rw[mR]at hh
    obtain⟨k,hk,rfl⟩:=dD hh
    obtain⟨q1,q2,q3⟩:=lX n m w (by omega) _ s _ σ h1 hσ hl.1 hw k hk
    exact⟨q1,q2,congrArg Vl.l q3⟩
   ·simp only[Vl.nodes]at hm
    rw[mH]at hh
    obtain⟨k,hk,rfl⟩:=dD hh
    obtain⟨q1,q2,q3⟩:=lX n m w (by omega) _ s _ σ h2 hσ hl.2 hw k hk
    exact⟨q1,q2,congrArg Vl.r q3⟩
  |
   @times a b _ a' b' h1 h2 _ =>
   obtain⟨x,y,rfl,hx,hy⟩:=jL hv
   simp only[Vl.nodes]at hm
   rw[mJ]at hh
   rcases aI.1 hh with hh|hh
   ·obtain⟨k,hk,rfl⟩:=dD hh
    obtain⟨q1,q2,q3⟩:=lX n m x (by omega) _ s _ σ h1 hσ hl.1 hx k hk
    refine⟨?_,q2,congrArg (fun q=>Vl.p q y) q3⟩
    show (vT n k.1 (eS σ a')&&vT n y (eS σ b))=true
    rw[q1,hy];rfl
   ·obtain⟨k,hk,rfl⟩:=dD hh
    obtain⟨q1,q2,q3⟩:=lX n m y (by omega) _ s _ σ h2 hσ hl.2 hy k hk
    refine⟨?_,q2,congrArg (Vl.p x) q3⟩
    show (vT n x (eS σ a)&&vT n k.1 (eS σ b'))=true
    rw[q1,hx];rfl
  |
   @rc a _ c0 d0 x hx hs h1 h2 hsz =>
   have lo:jT (dF (.name x) a 0) 0:=iI x a hl
   obtain⟨X,e1,e2⟩:=re (x:=x) hσ hl (h1.lc lo) (h2.lc lo)
   obtain⟨w,rfl,hw⟩:=CM hv
   simp only[Vl.nodes]at hm
   have hcl:=oi hσ x (kt hσ (.rc a) hl)
   have hop:eS (jh σ x (eS σ (.rc a))) (dF (.name x) a 0)=dF (eS σ (.rc a)) (eS σ a) 0:=jo hσ x _ a 0 hx
   have hns:eS (jh σ x (eS σ (.rc a))) (.name s)=eS σ (.name s):=by simp only[eS,jh,if_neg (Ne.symm hs)]
   have hnx:eS (jh σ x (eS σ (.rc a))) (.name x)=eS σ (.rc a):=by simp[eS,jh]
   have hw':vT n w (eS (jh σ x (eS σ (.rc a))) (dF (.name x) a 0))=true:=by rw[hop];exact hw
   have ty:∀y,vT n y (dF (.rc X) X 0)=true->vT n (.f y) (eS σ (pq a x c0 d0))=true:=fun y hy=>by rw[e1];exact hy
   rw[mF]at hh
   rcases aI.1 hh with hh|hh
   ·obtain⟨k,hk,rfl⟩:=dD hh
    have hk':k∈cb (dF (.name x) a 0) (.nm s) w:=by rw[ni x w hx (.j2 0 s (Ne.symm hs))];exact hk
    obtain⟨q1,q2,q3⟩:=lX n m w (by omega) _ s _ _ h1 hcl lo hw' k hk'
    rw[eX x k.1.nodes k.1 a 0 k.2 (aq _)]at q3
    refine⟨ty _ ?_,by rw[<-hns];exact q2,congrArg Vl.f q3⟩
    rw[e2];exact q1
   ·obtain⟨k,hk,hh⟩:=List.mem_flatMap.1 hh
    obtain⟨k2,hk2,rfl⟩:=dD hh
    have hk':k∈cb (dF (.name x) a 0) (.nm x) w:=by rw[ni x w hx (.nm 0)];exact hk
    obtain⟨q1,q2,q3⟩:=lX n m w (by omega) _ x _ _ h2 hcl lo hw' k hk'
    rw[eX x k.1.nodes k.1 a 0 k.2 (aq _)]at q3
    rw[hnx]at q2
    have hsz2:=(iq hk).1
    obtain⟨r1,r2,r3⟩:=lX n m k.2 (by omega) (.rc a) s _ σ (.rc x hx hs h1 h2 hsz) hσ hl q2 k2 hk2
    refine⟨ty _ ?_,r2,?_⟩
    ·rw[e2]
     show (vT n k.1 _&&vT n k2.1 _)=true
     rw[q1,r1];rfl
    ·show Vl.f (dz a k.1 (dz (.rc a) k2.1 k2.2))=.f w
     rw[r3,q3]
theorem C7{n:Nat}{a D:Ty}{x:Nm}(hx:bh x a=false)(hl:jT (.rc a) 0)(h:oL a x=some D){v:Vl}(hv:vT n v (.rc a)=true){k:Hl}(hk:k∈kids a v) :
 vT n k.1 D=true/\vT n k.2 (.rc a)=true/\.f (dz a k.1 k.2)=v:=by
 simp only[oL,bm,cS,eT]at h
 obtain⟨d,hd,_,rfl⟩:=h
 have lo:jT (dF (.name x) a 0) 0:=iI x a hl
 have hcl:=oi ua x hl
 have e1:sub x (.rc a) d=eS (jh G5 x (.rc a)) d:=by
  have:=iV G5 x (.rc a) d
  rw[jB,jB]at this;exact this
 obtain⟨w,rfl,hw⟩:=CM hv
 have hk':k∈cb (dF (.name x) a 0) (.nm x) w:=by rw[ni x w hx (.nm 0)];exact hk
 have hop:eS (jh G5 x (.rc a)) (dF (.name x) a 0)=dF (.rc a) a 0:=by rw[jo ua x _ a 0 hx,jB]
 obtain⟨q1,q2,q3⟩:=lX n w.nodes w (aq _) _ x _ _ hd hcl lo (by rw[hop];exact hw) k hk'
 rw[eX x k.1.nodes k.1 a 0 k.2 (aq _)]at q3
 refine⟨by rw[e1];exact q1,?_,congrArg Vl.f q3⟩
 simpa[eS,jh]using q2
theorem gP:∀{t:Ty},bW t=true->∃y,bh y t=true/\cZ y=true
 | .name s,h=>⟨s,by simp[bh],h⟩
 |
  .plus a b,h=>by
  simp only[bW,bw]at h
  rcases h with h|h
  ·obtain⟨y,h1,h2⟩:=gP h;exact⟨y,by simp[bh,h1],h2⟩
  ·obtain⟨y,h1,h2⟩:=gP h;exact⟨y,by simp[bh,h1],h2⟩
 |
  .times a b,h=>by
  simp only[bW,bw]at h
  rcases h with h|h
  ·obtain⟨y,h1,h2⟩:=gP h;exact⟨y,by simp[bh,h1],h2⟩
  ·obtain⟨y,h1,h2⟩:=gP h;exact⟨y,by simp[bh,h1],h2⟩
 |
  .rc a,h=>by
  obtain⟨y,h1,h2⟩:=gP (t:=a) h;exact⟨y,by simp[bh,h1],h2⟩
theorem gR:∀{t:Ty} {y:Nm},bh y t=true->cZ y=true->bW t=true
 |
  .name s,y,h,hl=>by
  have:s=y:=by simpa[bh]using h
  rw[this];exact hl
 |
  .plus a b,y,h,hl=>by
  simp only[bh,bw]at h
  simp only[bW,bw]
  exact h.imp (gR · hl) (gR · hl)
 |
  .times a b,y,h,hl=>by
  simp only[bh,bw]at h
  simp only[bW,bw]
  exact h.imp (gR · hl) (gR · hl)
 | .rc a,y,h,hl=>gR (t:=a) h hl
 | .zero,y,h,_=>by simp[bh]at h
 | .one,y,h,_=>by simp[bh]at h
 | .bN k,y,h,_=>by simp[bh]at h
theorem ZT.Q7{s d:Nm}{a:Ty}{x A B:E}{D:Ty}(z:ZT s d a x A B D):∃e,jp d=some e/\Ask e [] D:=by
 have hcl:bW D=false:=by
  cases q:bW D with
  |false=>rfl
  |
   true =>
   obtain⟨y,h1,h2⟩:=gP q
   have:=gR (t:=.rc a) (sw z.lp y h1) h2
   rw[z.ask.cl]at this;cases this
 have hc:wu d=some D:=by unfold wu;rw[z.bk];simp only;rw[if_pos (by rw[sJ,hcl];rfl)]
 cases q:jp d with
 |none=>rw[mO q]at hc;cases hc
 |
  some e =>
  obtain⟨t,h1,hA,_⟩:=iQ q
  rw[hc]at h1;cases h1
  exact⟨e,rfl,hA⟩
theorem ZT.QQ{s d:Nm}{a:Ty}{x A B:E}{D:Ty}(z:ZT s d a x A B D){w:Vl}(hb:w.iA 100)(hv:vT 100 w D=true):nE d w.cN 100=if w.nodes<=200 then some w else none:=by
 obtain⟨e,he,hA⟩:=z.Q7
 unfold nE
 rw[he]
 by_cases hn:w.nodes<=200
 ·rw[p5 hb hn,if_pos hn]
  simp only
  rw[if_pos ⟨by omega,by rw[show (100:Int).toNat=100 from rfl,nI hA];exact hv⟩]
 ·rw[if_neg hn]
  cases q:rI w.cN with
  |none=>rfl
  |
   some w' =>
   exfalso
   obtain⟨_,h2,h3⟩:=kZ q
   have:=xH hb h2 (qf q)
   rw[this]at hn;exact hn h3
theorem ZT.QU{s d:Nm}{a:Ty}{x A B:E}{D:Ty}(z:ZT s d a x A B D){v:Vl}(hv:Fo a v){k:Hl}(hk:k∈kids a v):vT 100 k.1 D=true/\Fo a k.2/\.f (dz a k.1 k.2)=v:=by
 obtain⟨e2,he2,hw2,hte2,_,_⟩:=oN z.y
 have hlc:jT (.rc a) 0:=hte2 ▸ hw2.qS.1
 obtain⟨q1,q2,q3⟩:=C7 (vK z.y) hlc z.lp hv.ty hk
 have:=xV hk
 have:=hv.nd
 exact⟨q1,⟨q2,(ou hv.iA hk).2,by omega⟩,q3⟩
def um(a:Ty)(l:List Vl)(v:Vl)(k:Int):Option (List Vl×Vl) :=
 if l.length=50 then none else if 0<=k/\k.toNat<(kids a v).length then
  (if((kids a v).getD k.toNat (.u,.u)).1.nodes<=200 then some (l++[((kids a v).getD k.toNat (.u,.u)).1],((kids a v).getD k.toNat (.u,.u)).2)else none)else none
theorem vo{a:Ty}{l:List Vl}{c e v:Vl}(h:.f (dz a c e)=v)(hn:v.nodes<=200):vB a (l++[c]) e=some (l,v)/\ud a (l++[c]) e=ud a l v:=by
 have hu:vB a (l++[c]) e=some (l,v):=by
  unfold vB
  rw[List.getLast?_concat]
  simp only
  rw[h,if_pos hn,List.dropLast_concat]
 refine⟨hu,?_⟩
 unfold ud
 rw[ax,List.length_singleton,kk,hu]
 rfl
theorem yI{s d:Nm}{l:List Vl}{v:Vl}(hs:St s d (zA s) l v)(hd:cJ s=some d)(hv:ij s (l.map (·.cN)) v.cN=some (l,v)){k:Hl}(hk:k∈kids (zA s) v) :
 ij s (l.map (·.cN)++[k.1.cN]) k.2.cN=if l.length=50 then none else if k.1.nodes<=200 then some (l++[k.1],k.2)else none:=by
 obtain⟨x,A,B,D,z⟩:=hs.z
 obtain⟨t1,t2,t3⟩:=z.QU hs.i.uh hk
 have hb:=(ou hs.i.uh.iA hk).1
 have hz:=(gS hv).1
 have hclo:=(gS hv).2
 have hlen:=hs.len
 have hlp:eF d (l.map (·.cN))=some l:=by
  rw[vX,hd]at hz
  simp only[aK,z.l]at hz
  obtain⟨_,h1,h2⟩:=bm.1 hz
  split at h2
  ·obtain⟨l',h3,h4⟩:=Option.map_eq_some_iff.1 h2
   cases h4;exact h3
  ·cases h2
 have e1:nE s k.2.cN 100=some k.2:=by rw[z.cN t2.iA t2.ty,if_pos t2.nd]
 unfold ij
 rw[vX,hd]
 simp only[aK,z.l,e1,sS,hlp,eF,z.QQ hb t1,ax,cj,List.length_singleton]
 by_cases h50:l.length=50
 ·rw[if_neg (by omega),if_pos h50];rfl
 ·rw[if_pos (by omega),if_neg h50]
  by_cases hn:k.1.nodes<=200
  ·rw[if_pos hn,if_pos hn]
   simp only[co,aK,(vo (l:=l) t3 hs.i.uh.nd).2]
   rw[if_pos hclo]
  ·rw[if_neg hn,if_neg hn];rfl
end Go.Proofs.Trees
namespace Go.Proofs.Trees
open Go Go.VL Go.RowKit
def qX(s:Nm)(o:Option (List Vl×Vl)):AV->List Ob->Prop:=fun r obs=>obs=[]/\∃pa,cI pa (tZ s o).2.1/\r=.cv [.agg [.v (.string (mk (tZ s o).1)),pa,.v (.string (mk (tZ s o).2.2))],.v (.bool o.isSome)]
theorem qX.ne(s:Nm)(o:Option (List Vl×Vl)):∃r ob,qX s o r ob:=⟨_,[],rfl,_,cI.of _,rfl⟩
theorem qX.none(s:Nm):qX s none (.cv [.agg [.v (.string (mk [])),.v (.slice none 0 0),.v (.string (mk []))],.v (.bool false)]) []:=⟨rfl,_,cI.nil,rfl⟩
theorem sW{s:Nm}{p:List Nm}{f:Nm}{l:List Vl}{v:Vl}(h:ij s p f=some (l,v)):∃d,St s d (zA s) l v/\p=l.map (·.cN)/\f=v.cN:=wb (gS h).1
theorem EM(s:Nm)(pa:AV)(p:List Nm)(hp:cI pa p)(f:Nm):an Tryz.prog 64 [.agg [.v (.string (mk s)),pa,.v (.string (mk f))]] [] (qX s (ij s p f)):=by
 refine Pr _ _ _ hp.1 ?_
 unfold IZ
 refine ah (CT s pa p hp f) ?_
 simp only[↓zq,zs,ac]
 cases q:ij s p f with
 |none=>simp only[aT];exact⟨fun _=>qX.none s,fun h=>by simp at h⟩
 |
  some r =>
  obtain⟨_,_,rfl,rfl⟩:=sW (l:=r.1) (v:=r.2) q
  simp only[aP]
  exact⟨fun h=>by simp at h,fun _=>⟨rfl,pa,hp,rfl⟩⟩
theorem uP(s f:Nm):ij s [] f=rL s [] f:=by
 unfold ij
 cases q:rL s [] f with
 |none=>rfl
 |
  some r =>
  obtain⟨l,v⟩:=r
  obtain⟨_,_,h,_⟩:=wb q
  have:l=[]:=List.map_eq_nil_iff.1 h.symm
  subst this
  rfl
theorem Pc(s f:Nm):an Tryz.prog 28 [.v (.string (mk s)),.v (.string (mk f))] [] (qX s (rL s [] f)):=by
 refine NJ _ _ ?_
 unfold Jx
 rw[<-uP]
 refine bC (EM s _ [] (cI.of []) f) (qX.ne _ _) ?_
 rintro r o ⟨rfl,pa,hp,rfl⟩
 simp only[↓zq,zs,ac,zt,bu]
 exact⟨hp.1,rfl,pa,hp,rfl⟩
theorem Nq(s:Nm)(pa:AV)(p:List Nm)(hp:cI pa p)(f g:Nm):an Tryz.prog 53 [.agg [.v (.string (mk s)),pa,.v (.string (mk f))],.v (.string (mk g))] [] (qX s (wi s p f g)):=by
 refine QN _ _ _ _ hp.1 ?_
 unfold HV
 refine ah (CT s pa p hp f) ?_
 simp only[↓zq,zs,ac]
 unfold wi
 cases q:ij s p f with
 |none=>simp only[aT];exact⟨fun _=>qX.none s,fun h=>by simp at h⟩
 |
  some r =>
  obtain⟨l,v⟩:=r
  obtain⟨d,hs,rfl,_⟩:=sW q
  have hl:=hs.len
  simp only[aP,aK]
  refine⟨fun h=>by simp at h,fun _=>?_⟩
  refine⟨⟨hp.1,fun y hy=>?_,?_⟩,?_⟩
  ·rw[hp.2]at hy
   obtain⟨t,_,rfl⟩:=bS.1 hy
   rfl
  ·rw[hp.len,cj];simp;omega
  rw[aO,hp.2]
  refine bC (EM s _ _ (cI.of _) g) (qX.ne _ _) ?_
  rintro r o ⟨rfl,pa',hp',rfl⟩
  simp only[↓zq,zs,ac,zt,bu]
  exact⟨hp'.1,rfl,pa',hp',rfl⟩
theorem Nl(s:Nm)(pa:AV)(p:List Nm)(hp:cI pa p)(f:Nm):an Tryz.prog 37 [.agg [.v (.string (mk s)),pa,.v (.string (mk f))]] [] (bB (pu (qx s p f))):=by
 refine PG _ _ _ hp.1 ?_
 unfold Kj
 refine ah (CT s pa p hp f) ?_
 simp only[↓zq,zs,ac]
 unfold qx
 cases q:ij s p f with
 |none=>simp only[aT];exact⟨fun _=>⟨rfl,rfl⟩,fun h=>by simp at h⟩
 |
  some r =>
  obtain⟨l,v⟩:=r
  obtain⟨d,hs,rfl,rfl⟩:=sW q
  obtain⟨w,hw⟩:=bK.1 (gS q).2
  simp only[aP,aK,hw,co]
  refine⟨fun h=>by simp at h,fun _=>?_⟩
  refine bC (Iy hs pa hp) (zT.ne _) ?_
  rintro r o ⟨rfl,c0,p',c2,h1,rfl,h2⟩
  have:=h2 w hw
  subst this
  simp only[↓zq,zs,ac,zt,bu]
  exact⟨h1,rfl,rfl⟩
def lq(l:List Hl):List (List AV):=l.map fun h=>[.v (.string (mk h.1.cN)),.v (.string (mk h.2.cN))]
theorem nC(l:List Hl):(lq l).length=l.length:=by simp[lq]
theorem H2(l:List Hl)(hl:l.length<=1000)(h1:∀h,h∈l->h.1.cN.length<=900000)(h2:∀h,h∈l->h.2.cN.length<=900000):∀(k i:Nat) (out:List Hl),i+k=l.length->out.length<=i ->
 FY [.sl (lN l),.v (.int .i64 (i:Int))] [.vec 2 (lq out)] (gX 1 [] [.vec 2 (lq (out++l.drop i))])
 |
  0,i,out,hi,ho=>by
  refine IY _ _ _ ?_
  have:i=l.length:=by omega
  subst this
  simp only[GC,↓zq,zs,ac,fk,List.drop_length]
  exact⟨fun h=>by omega,fun _=>by simp[gX]⟩
 |
  k+1,i,out,hi,ho=>by
  have hlt:i<l.length:=by omega
  have hm:=bA hlt
  have t1:=BL (l[i]).1.cE (l6 _) (h1 _ hm)
  have t2:=BL (l[i]).2.cE (l6 _) (h2 _ hm)
  rw[dr]at t1 t2
  refine IY _ _ _ ?_
  simp only[GC,↓zq,zs,ac,zt,fk,gx hlt,bu,a7]
  refine⟨fun _=>?_,fun h=>by omega⟩
  repeat refine⟨by omega,?_⟩
  refine ah t1 ?_
  simp only[↓zq,zs,ac,zt]
  repeat refine⟨by omega,?_⟩
  refine ah t2 ?_
  simp only[↓zq,zs,ac,zt,nC]
  refine⟨⟨fun c hc=>by simp at hc;rw[hc];rfl,by omega⟩,?_⟩
  rw[bq i (by omega),aL hlt]
  have:=H2 l hl h1 h2 k (i+1) (out++[l[i]]) (by omega) (by simp;omega)
  rw[ba]at this
  simpa[lq]using this
theorem On(l:List Hl)(hl:l.length<=1000)(h1:∀h,h∈l->h.1.cN.length<=900000)(h2:∀h,h∈l->h.2.cN.length<=900000):an Tryz.prog 91 [.sl (lN l)] [] (bB (.sl (lq l))):=by
 refine Qp _ ((cc _).mpr trivial) ?_
 unfold K5
 refine cq (H2 l hl h1 h2 l.length 0 [] (by omega) (by simp)) ?_
 simp only[↓zq,zs,ac]
 exact⟨rfl,rfl⟩
theorem uI{a:Ty}{v:Vl}(h:Fo a v){k:Hl}(hk:k∈kids a v):k.1.cN.length<=900000/\k.2.cN.length<=900000:=by
 obtain⟨b1,b2⟩:=ou h.iA hk
 have h1:=iT _ b1
 have h2:=iT _ b2
 have h3:=xV hk
 have h4:=h.nd
 have h5:k.1.nodes<=4*v.nodes:=by
  cases v with
  |f w=>have:=(iq hk).2;simp only[Vl.nodes];omega
  |_=>cases hk
 omega
theorem QO{s d:Nm}{a:Ty}{x A B:E}{D:Ty}(z:ZT s d a x A B D)(v:Vl)(hv:Fo a v):an Tryz.prog 69 [.v (.string (mk s)),.v (.string (mk v.cN))] [] (bB (.cv [.sl (lq (kids a v)),.v (.bool true)])):=by
 have hv2:nE s v.cN 100=some v:=by rw[z.cN hv.iA hv.ty,if_pos hv.nd]
 have hP:=P3.of x A B
 have hn:=hv.nd
 obtain⟨v0,hv0,_⟩:=tq .nil z.hx (hv.eJ z)
 have hkids:=QF 100 v x A B a z.body z.hx v0 hv0 (hv.eJ z) (by omega)
 have hV:=P2.of (.atom [102]) v0.cE
 refine Om _ _ ?_
 unfold HZ
 refine bC (Fb s) (jR.ne _ _ (fun h=>h)) ?_
 rintro r o ⟨c,e,he,rfl,hh⟩
 rw[z.le]at hh
 obtain⟨e',he',hce⟩:=hh rfl
 cases he'
 rw[dr]at hce
 rw[hce,z.le]
 simp only[↓zq,zs,ac,zt,aR,bR]
 repeat refine⟨by omega,?_⟩
 refine bC (C4 v.cN) (jR.ne _ _ (fun h=>by simpa using h)) ?_
 rw[p5 hv.iA hn]
 rintro r o ⟨c,e,he,rfl,hh⟩
 obtain⟨e',he',hce⟩:=hh rfl
 cases he'
 rw[dr]at hce
 rw[hce]
 simp only[↓zq,zs,ac,zt,aR,aP]
 repeat refine⟨by omega,?_⟩
 refine⟨fun h=>by simp at h,fun _=>?_⟩
 refine ah (zd s v.cN 100) ?_
 rw[hv2,hv0]
 simp only[toNat_one,bj,Vl.cE,bR,↓zq,zs,ac,zt,hP.1,hP.2.1,hP.2.2.1,hP.2.2.2,hV.1,hV.2.1,hV.2.2,aR,a7,aP]
 refine⟨fun h=>by simp at h,fun _=>?_⟩
 repeat refine⟨by omega,?_⟩
 refine ah hkids ?_
 simp only[↓zq,zs,ac]
 repeat refine⟨by omega,?_⟩
 have hlen:=se a v
 have:=oz (kids a v)
 refine ah (On (kids a v) (by omega) (fun h hh=>(uI hv hh).1) (fun h hh=>(uI hv hh).2)) ?_
 rw[<-hv0]
 simp only[↓zq,zs,ac]
 exact⟨rfl,rfl⟩
end Go.Proofs.Trees
namespace Go.Proofs.Trees
open Go Go.VL Go.RowKit
theorem qV{a:Ty}{l l':List Vl}{v w:Vl}{k:Int}(h:um a l v k=some (l',w)):∃q,q∈kids a v/\l'=l++[q.1]/\w=q.2/\q.1.nodes<=200/\l.length≠50/\0<=k/\(kids a v)[k.toNat]?=some q:=by
 unfold um at h
 split at h
 ·cases h
 ·rename_i h0
  split at h
  ·rename_i h1
   split at h
   ·rename_i h2
    cases h
    have e:(kids a v).getD k.toNat (.u,.u)=(kids a v)[k.toNat]'h1.2:=by simp[aa,h1.2]
    rw[e]at h2 |-
    exact⟨_,bA _,rfl,rfl,h2,h0,h1.1,by simp[h1.2]⟩
   ·cases h
  ·cases h
theorem St.dn{s d:Nm}{a:Ty}{l l':List Vl}{v w:Vl}{k:Int}(h:St s d a l v)(hu:um a l v k=some (l',w)):St s d a l' w/\vB a l' w=some (l,v)/\l'.length=l.length+1:=by
 obtain⟨q,hq,rfl,rfl,hn,h50,_,_⟩:=qV hu
 obtain⟨x,A,B,D,z⟩:=h.z
 obtain⟨t1,t2,t3⟩:=z.QU h.i.uh hq
 have hv:nE d q.1.cN 100=some q.1:=by rw[z.QQ (ou h.i.uh.iA hq).1 t1,if_pos hn]
 have hlen:=h.len
 refine⟨⟨⟨x,A,B,D,z⟩,⟨fun c hc=>?_,t2⟩,fun c hc=>?_,by simp;omega⟩,(vo t3 h.i.uh.nd).1,by simp⟩
 ·rcases aI.1 hc with hc|hc
  ·exact h.i.C0 c hc
  ·simp only[aN]at hc;subst hc;exact z.C0 hv
 ·rcases aI.1 hc with hc|hc
  ·exact h.each c hc
  ·simp only[aN]at hc;subst hc;exact hv
theorem O2{s d:Nm}{a:Ty}{l:List Vl}{v:Vl}(h:St s d a l v)(k:Int):an Tryz.prog 59 [rH s a l v,.v (.int .i64 k)] [] (bB (oZ s a (um a l v k))):=by
 obtain⟨x,A,B,D,z⟩:=h.z
 have hnd:=h.i.uh.nd
 have hlen:=h.len
 refine Ic _ _ ((bY _).mpr trivial) ?_
 simp only[Gf,rH,↓zq,zs,ac,jq,aH,aC]
 refine⟨fun h=>(by cases h),fun _=>?_⟩
 repeat refine⟨by first|trivial|omega,?_⟩
 unfold um
 refine⟨fun h5=>?_,fun h5=>?_⟩
 ·rw[if_pos (by omega)];exact⟨rfl,rfl⟩
 ·rw[if_neg (by omega)]
  repeat refine⟨by first|trivial|omega,?_⟩
  refine ah (PL 100 v x A B a z.body z.hx (h.i.uh.eJ z) (by omega)) ?_
  have hkl:(gY (kids a v)).length=(kids a v).length:=by simp[gY]
  simp only[↓zq,zs,ac,hkl]
  refine⟨fun h0=>?_,fun h0=>⟨fun h1=>?_,fun h1=>?_⟩⟩
  ·rw[if_neg (by omega)];exact⟨rfl,rfl⟩
  ·rw[if_neg (by omega)];exact⟨rfl,rfl⟩
  ·have hlt:k.toNat<(kids a v).length:=by omega
   rw[if_pos ⟨by omega,hlt⟩]
   have hg:(gY (kids a v)).getD k.toNat []=[((kids a v)[k.toNat]).1.cu,((kids a v)[k.toNat]).2.cu]:=by simp[gY,aa,hlt]
   have hg2:(kids a v).getD k.toNat (.u,.u)=(kids a v)[k.toNat]:=by simp[aa,hlt]
   have hm:=bA hlt
   rw[hg2]
   have hctx:((kids a v)[k.toNat]).1.nodes<=4*v.nodes:=by
    cases v with
    |f w=>have:=(iq hm).2;simp only[Vl.nodes];omega
    |_=>simp[kids]at hlt
   generalize (kids a v)[k.toNat]=q at *
   simp only[hg,↓zq,zs,ac,aH]
   repeat refine⟨by first|trivial|omega,?_⟩
   refine ah (Dn q.1 (by omega)) ?_
   simp only[↓zq,zs,ac,aH,aC,zt]
   refine⟨fun hb=>?_,fun hb=>?_⟩
   ·rw[if_neg (by omega)];exact⟨rfl,rfl⟩
   ·rw[if_pos (by omega)]
    repeat refine⟨by first|trivial|omega,?_⟩
    refine⟨⟨fun c hc=>?_,by simp[uB];omega⟩,?_⟩
    ·simp only[uB,bS]at hc
     obtain⟨y,_,rfl⟩:=hc;rfl
    repeat refine⟨by first|trivial|omega,?_⟩
    refine⟨⟨fun c hc=>by simp at hc;rw[hc];rfl,by simp[uB];omega⟩,?_⟩
    repeat refine⟨by first|trivial|omega,?_⟩
    refine⟨?_,rfl⟩
    simp only[oZ,rH,aO,xz]
theorem QJ(s:Nm)(a:Ty)(o:Option (List Vl×Vl))(ho:∀r,o=some r->∃d,St s d a r.1 r.2)(k:Int):an Tryz.prog 59 [oZ s a o,.v (.int .i64 k)] [] (bB (oZ s a (o.bind fun r=>um a r.1 r.2 k))):=by
 cases o with
 |
  none =>
  refine Ic _ _ ((ib).mpr trivial) ?_
  simp only[Gf,oZ,↓zq,zs,ac,bc]
  exact⟨fun _=>⟨rfl,rfl⟩,fun h=>(by cases h)⟩
 |
  some r =>
  obtain⟨d,h⟩:=ho r rfl
  exact O2 h k
noncomputable def wO (s:Nm) (p:List Nm) (f:Nm) (k:Int):Option (List Vl×Vl):=(ij s p f).bind fun r=>um (zA s) r.1 r.2 k
theorem St.gz{s d:Nm}{a:Ty}{l:List Vl}{v:Vl}(h:St s d a l v):GZ (some (l,v)):=h.i.gz (by have:=h.len;omega)
theorem OJ(pa:AV)(p:List Nm)(hp:cI pa p)(c:Nm)(hl:p.length<=1000000):an Tryz.prog 79 [pa,.v (.string (mk c))] [] (bB (.sl (bT (p++[c])))):=by
 refine KE _ _ hp.1 ?_
 simp only[DZ,↓zq,zs,ac,zt]
 have hpl:pa.aS.length=p.length:=hp.len
 refine⟨⟨hp.1,fun y hy=>?_,by simp;omega⟩,⟨fun y hy=>by simp at hy;rw[hy];rfl,by simp;omega⟩,?_,rfl⟩
 ·rw[hp.2]at hy
  obtain⟨t,_,rfl⟩:=bS.1 hy
  rfl
 ·rw[hp.2];simp[bT]
theorem we{l:List Hl}{i:Nat}(h:i<l.length):(lq l).getD i []=[.v (.string (mk (l[i]).1.cN)),.v (.string (mk (l[i]).2.cN))]:=by simp[lq,aa,h]
theorem rA{s:Nm}{p:List Nm}{f:Nm}{r:List Vl×Vl}(h:rL s p f=some r):∃d,cJ s=some d/\St s d (zA s) r.1 r.2/\p=r.1.map (·.cN)/\f=r.2.cN:=by
 obtain⟨d,a,x,A,B,D,z,hz,hp,hf,hl,hza,_,hr⟩:=oc (l:=r.1) (v:=r.2) h
 rw[hza]
 exact⟨d,z.dl,⟨⟨x,A,B,D,z⟩,hz,nq hr hp,by rw[hp]at hl;simpa using hl⟩,hp,hf⟩
theorem Dr{s d:Nm}{l:List Vl}{v:Vl}(hs:St s d (zA s) l v)(hd:cJ s=some d)(hv:ij s (l.map (·.cN)) v.cN=some (l,v)){k:Int}(h0:0<=k)(hk:k.toNat<(kids (zA s) v).length) :
 ij s (l.map (·.cN)++[((kids (zA s) v)[k.toNat]).1.cN]) ((kids (zA s) v)[k.toNat]).2.cN=um (zA s) l v k:=by
 rw[yI hs hd hv (bA hk)]
 unfold um
 by_cases h5:l.length=50
 ·rw[if_pos h5,if_pos h5]
 ·rw[if_neg h5,if_neg h5,if_pos (show 0<=k/\k.toNat<(kids (zA s) v).length from ⟨h0,hk⟩)]
  have hg2:(kids (zA s) v).getD k.toNat (.u,.u)=(kids (zA s) v)[k.toNat]:=by simp[aa,hk]
  rw[hg2]
theorem O3(s:Nm)(pa:AV)(p:List Nm)(hp:cI pa p)(f:Nm)(k:Int):an Tryz.prog 57 [.agg [.v (.string (mk s)),pa,.v (.string (mk f))],.v (.int .i64 k)] [] (qX s (wO s p f k)):=by
 refine NN _ _ _ _ hp.1 ?_
 unfold Lw
 refine ah (CT s pa p hp f) ?_
 simp only[↓zq,zs,ac]
 unfold wO
 cases q:ij s p f with
 |none=>simp only[aT];exact⟨fun _=>qX.none s,fun h=>by simp at h⟩
 |
  some r =>
  obtain⟨l,v⟩:=r
  obtain⟨d,hd,hs,rfl,rfl⟩:=rA (gS q).1
  obtain⟨x,A,B,D,z⟩:=hs.z
  have hlen:l.length<=50:=hs.len
  have hnd:v.nodes<=200:=hs.i.uh.nd
  have hks:=se (zA s) v
  have hks2:=oz (kids (zA s) v)
  simp only[aP,aK]
  refine⟨fun h=>by simp at h,fun _=>?_⟩
  refine ah (QO z v hs.i.uh) ?_
  simp only[↓zq,zs,ac,nC]
  rw[wrap64 (((kids (zA s) v).length:Int)-1) (by omega) (by omega)]
  refine ah (zJ k 0 _) ?_
  rw[show BJ k 0 (((kids (zA s) v).length:Int)-1)=decide (0<=k/\k<=((kids (zA s) v).length:Int)-1) by rw[ct];simp[BJ]]
  simp only[↓zq,zs,ac,nC]
  by_cases hin:0<=k/\k<=((kids (zA s) v).length:Int)-1
  ·have hlt:k.toNat<(kids (zA s) v).length:=by omega
   refine⟨fun h=>(by exfalso;first|omega|(simp at h;omega)),fun _=>?_⟩
   simp only[we hlt,↓zq,zs,ac,zt]
   repeat refine⟨by first|trivial|omega,?_⟩
   refine ah (OJ pa _ hp _ (by simp;omega)) ?_
   simp only[↓zq,zs,ac,zt]
   repeat refine⟨by first|trivial|omega,?_⟩
   refine bC (EM s _ _ (cI.of _) _) (qX.ne _ _) ?_
   rw[Dr hs hd q hin.1 hlt]
   rintro r o ⟨rfl,pa',hp',rfl⟩
   simp only[↓zq,zs,ac,zt,bu]
   exact⟨hp'.1,rfl,pa',hp',rfl⟩
  ·refine⟨fun _=>?_,fun h=>(by exfalso;first|omega|(simp at h;omega))⟩
   have:um (zA s) l v k=none:=by
    unfold um
    by_cases h5:l.length=50
    ·rw[if_pos h5]
    ·rw[if_neg h5,if_neg (by omega)]
   rw[this]
   exact qX.none s
end Go.Proofs.Trees
namespace Go.Proofs.Trees
open Go Go.VL Go.RowKit
def Hr(n:Nat):AV->List Ob->Prop:=fun r o=>∃x:Int,r=.v (.int .i64 x)/\(0<=x->n<=1048576)
theorem Hr.ne(n:Nat):∃r o,Hr n r o:=⟨_,[],-1,rfl,fun h=>by omega⟩
end Go.Proofs.Trees
namespace Go.Proofs.Trees
open Go Go.VL Go.RowKit
def pH(a:AV)(l:List Nat):Prop:=LK.sl.has a/\a.aS=ri l
theorem pH.of(l:List Nat):pH (.sl (ri l)) l:=⟨(cc _).mpr trivial,rfl⟩
theorem pH.nil:pH (.v (.slice none 0 0)) []:=⟨(bb).mpr trivial,rfl⟩
theorem pH.len{a:AV}{l:List Nat}(h:pH a l):a.aS.length=l.length:=by rw[h.2,wl]
theorem pH.idx{a:AV}{l:List Nat}(h:pH a l){i:Nat}(hi:i<l.length):a.aS.getD i []=[.v (.int .i64 (l.getD i 0:Nat))]:=by
 rw[h.2];simp[ri,aa,hi]
end Go.Proofs.Trees
namespace Go.Proofs.Trees
open Go Go.VL Go.RowKit
def gj(l:List Int):List (List AV):=l.map fun k=>[.v (.int .i64 k)]
def eA(a:AV)(l:List Int):Prop:=LK.sl.has a/\a.aS=gj l
theorem rS(l:List Int):(gj l).length=l.length:=by simp[gj]
theorem eA.of(l:List Int):eA (.sl (gj l)) l:=⟨(cc _).mpr trivial,rfl⟩
theorem eA.nil:eA (.v (.slice none 0 0)) []:=⟨(bb).mpr trivial,rfl⟩
theorem eA.len{a:AV}{l:List Int}(h:eA a l):a.aS.length=l.length:=by rw[h.2,rS]
theorem eA.idx{a:AV}{l:List Int}(h:eA a l){i:Nat}(hi:i<l.length):a.aS.getD i []=[.v (.int .i64 (l.getD i 0))]:=by
 rw[h.2];simp[gj,aa,hi]
theorem yU{l:List Int}{i:Nat}(hi:i<l.length)(s:Int):(gj l).set i (((gj l).getD i []).set 0 (.v (.int .i64 s)))=gj (l.set i s):=by
 have:(gj l).getD i []=[.v (.int .i64 l[i])]:=by simp[gj,aa,hi]
 rw[this];simp[gj,List.map_set]
theorem jX(l:List Int):∀x,x∈[Ob.vec 1 (gj l)]->fW x:=by
 intro x hx
 simp only[aN]at hx
 subst hx
 intro e he c hc
 simp only[gj,bS]at he
 obtain⟨k,_,rfl⟩:=he
 simp only[aN]at hc
 exact⟨_,hc⟩
theorem Ly(x:AV)(l:List Int)(hx:eA x l)(hl:l.length<=2000000):∀(m i:Nat) (q:List Int),i+m=l.length->q.length=l.length->EQ [x,.v (.int .i64 (i:Int))] [.vec 1 (gj q)] (gX 1 [] [.vec 1 (gj (q.take i++l.drop i))])
 |
  0,i,q,hi,hq=>by
  refine JN _ _ _ ?_
  simp only[D3,↓zq,zs,ac,hx.len]
  refine⟨hx.1,hx.1,fun h=>by omega,fun _=>?_⟩
  rw[List.drop_of_length_le (by omega),cL,List.take_of_length_le (by omega)]
  exact⟨rfl,rfl,rfl⟩
 |
  m+1,i,q,hi,hq=>by
  have hlt:i<l.length:=by omega
  have hlq:i<q.length:=by omega
  refine JN _ _ _ ?_
  simp only[D3,↓zq,zs,ac,zt,hx.len,hx.idx hlt,cf,rS,yU hlq]
  refine⟨hx.1,hx.1,fun _=>⟨⟨hx.1,by omega,by omega⟩,by omega,⟨by omega,by omega⟩,⟨hlq,by omega⟩,?_⟩,fun h=>by omega⟩
  rw[bq i (by omega)]
  have:=Ly x l hx hl m (i+1) (q.set i (l.getD i 0)) (by omega) (by simpa using hq)
  have e:(q.set i (l.getD i 0)).take (i+1)++l.drop (i+1)=q.take i++l.drop i:=by
   rw[List.take_succ_eq_append_getElem (by simpa using hlq),List.take_set_of_le (aq _),aL hlt]
   simp[aa,hlt]
  rw[e]at this
  exact this
theorem QE(x:AV)(l:List Int)(hx:eA x l)(hl:l.length<=2000000):an Tryz.prog 54 [x] [] (dh (.vec 0) [.vec 1 (gj l)]):=by
 refine Oh _ hx.1 ?_
 simp only[JP,↓zq,zs,ac,hx.len]
 refine⟨hx.1,⟨by omega,by omega⟩,?_⟩
 have:=Ly x l hx hl l.length 0 (List.replicate l.length 0) (by omega) (by simp)
 rw[List.take_zero,a6,aO]at this
 have e:gj (List.replicate l.length 0)=List.replicate l.length [.v (.int .i64 0)]:=by simp[gj]
 rw[e]at this
 rw[cf]
 refine cq this ?_
 simp[↓zq,zs,ac,dh,Ob.es]
theorem Kn(a b:AV)(l:List Int)(ha:eA a l)(hb:eA b l)(hl:l.length<=2000000):∀(m i:Nat),i+m=l.length->ES [a,b,.v (.int .i64 (i:Int))] [] (gX 1 [] [])
 |
  0,i,hi=>by
  refine K7 _ _ _ ?_
  simp only[GU,↓zq,zs,ac,ha.len]
  exact⟨ha.1,hb.1,ha.1,fun h=>by omega,fun _=>⟨rfl,rfl,rfl⟩⟩
 |
  m+1,i,hi=>by
  have hlt:i<l.length:=by omega
  refine K7 _ _ _ ?_
  simp only[GU,↓zq,zs,ac,zt,ha.len,hb.len,ha.idx hlt,hb.idx hlt,cf]
  refine⟨ha.1,hb.1,ha.1,fun _=>⟨⟨ha.1,by omega,by omega⟩,by omega,⟨hb.1,by omega,by omega⟩,by omega,fun h=>by simp at h,fun _=>?_⟩,fun h=>by omega⟩
  rw[bq i (by omega)]
  exact Kn a b l ha hb hl m (i+1) (by omega)
theorem OI(a b:AV)(l:List Int)(ha:eA a l)(hb:eA b l)(hl:l.length<=2000000):an Tryz.prog 13 [a,b] [] (bB (.v (.bool true))):=by
 refine Qd _ _ ha.1 hb.1 ?_
 simp only[K4,↓zq,zs,ac,ha.len,hb.len]
 refine⟨ha.1,hb.1,fun h=>by simp at h,fun _=>?_⟩
 refine cq (Kn a b l ha hb hl l.length 0 (by omega)) ?_
 simp[bB,↓zq,zs,ac]
end Go.Proofs.Trees
namespace Go.Proofs.Trees
open Go Go.VL Go.RowKit
abbrev ZO:=Option (List Vl×Vl)
def zy(s:Nm)(o:ZO):Prop:=∀r,o=some r->∃d,St s d (zA s) r.1 r.2
def zx(a:Ty)(pl:List Int)(o:ZO):ZO:=pl.foldl (fun o k=>o.bind fun r=>um a r.1 r.2 k) o
theorem nP(a:Ty):∀pl,zx a pl none=none
 |[]=>rfl
 |_::pl=>nP a pl
theorem rF(a:Ty)(k:Int)(pl:List Int)(o:ZO):zx a (k::pl) o=zx a pl (o.bind fun r=>um a r.1 r.2 k):=rfl
theorem zy.dn{s:Nm}{o:ZO}(h:zy s o)(k:Int):zy s (o.bind fun r=>um (zA s) r.1 r.2 k):=fun r hr=>by
 obtain⟨q,h1,h2⟩:=bm.1 hr
 obtain⟨d,hs⟩:=h q h1
 exact⟨d,(hs.dn (l':=r.1) (w:=r.2) h2).1⟩
theorem zy.go{s:Nm}:∀{pl:List Int} {o:ZO},zy s o->zy s (zx (zA s) pl o)
 |[],o,h=>h
 |k::pl,o,h=>zy.go (pl:=pl) (h.dn k)
theorem zy.gz{s:Nm}{o:ZO}(h:zy s o):GZ o:=fun r hr=>by
 obtain⟨d,hs⟩:=h r hr
 exact hs.gz r rfl
theorem xU{a:Ty}:∀{pl:List Int} {l l':List Vl} {v w:Vl},zx a pl (some (l,v))=some (l',w)->l.length<=50->l'.length=l.length+pl.length/\l'.length<=50
 |[],l,l',v,w,h,hl=>by cases h;exact⟨rfl,hl⟩
 |
  k::pl,l,l',v,w,h,hl=>by
  rw[rF]at h
  simp only[aK]at h
  cases q:um a l v k with
  |none=>rw[q,nP]at h;cases h
  |
   some r =>
   obtain⟨l1,v1⟩:=r
   rw[q]at h
   obtain⟨_,_,e,_,_,h5,_⟩:=qV q
   have hl1:l1.length=l.length+1:=by rw[e];simp
   obtain⟨h1,h2⟩:=xU h (by omega)
   exact⟨by rw[h1,hl1,aB];omega,h2⟩
theorem xJ(s:Nm)(p:List Nm)(f:Nm):zy s (rL s p f):=fun r hr=>by
 obtain⟨d,_,hs,_⟩:=rA hr
 exact⟨d,hs⟩
noncomputable def Hm (s f:Nm) (pl:List Int):ZO:=zx (zA s) pl (rL s [] f)
theorem FD(s f:Nm)(pl:List Int):zy s (Hm s f pl):=(xJ s [] f).go
theorem Jb(s:Nm)(a:AV)(pl:List Int)(ha:eA a pl)(hl:pl.length<=2000000):∀(k i:Nat) (o:ZO),i+k=pl.length->zy s o ->
 FX [oZ s (zA s) o,a,.v (.int .i64 (pl.length:Int)),.v (.int .i64 (i:Int))] [D5] (gX 1 [oZ s (zA s) (zx (zA s) (pl.drop i) o)] [D5])
 |
  0,i,o,hi,ho=>by
  refine LP _ _ _ _ _ _ _ ?_
  have:i=pl.length:=by omega
  subst this
  simp only[EU,↓zq,zs,ac,zt,ac,jP,bb,List.drop_length]
  exact⟨ha.1,fun h=>by omega,fun _=>⟨rfl,rfl,rfl⟩⟩
 |
  k+1,i,o,hi,ho=>by
  have hlt:i<pl.length:=by omega
  refine LP _ _ _ _ _ _ _ ?_
  simp only[EU,↓zq,zs,ac,zt,ac,jP,bb,ha.len,ha.idx hlt,cf]
  refine⟨ha.1,fun _=>⟨⟨ha.1,by omega,by omega⟩,by omega,?_⟩,fun h=>by omega⟩
  refine ah (QJ s (zA s) o ho _) ?_
  simp only[↓zq,zs,ac,jP]
  have hd:pl.drop i=pl.getD i 0::pl.drop (i+1):=by rw[aL hlt];simp[aa,hlt]
  rw[bq i (by omega),hd,rF]
  exact Jb s a pl ha hl k (i+1) _ (by omega) (ho.dn _)
theorem Nn(s f:Nm)(a:AV)(pl:List Int)(ha:eA a pl)(hl:pl.length<=2000000):an Tryz.prog 38 [.v (.string (mk s)),.v (.string (mk f)),a] [] (Kx s (Hm s f pl)):=by
 refine Pk _ _ _ ha.1 ?_
 unfold J1
 refine ah (IJ s _ [] (cI.nil) f) ?_
 simp only[↓zq,zs,ac,zt,jP,ha.len]
 refine⟨ha.1,?_⟩
 have hloop:=Jb s a pl ha hl pl.length 0 (rL s [] f) (by omega) (xJ s [] f)
 rw[a6]at hloop
 refine cq hloop ?_
 simp only[↓zq,zs,ac,zt,ac,jP,bb]
 refine aX (Jv s (zA s) _ (FD s f pl).gz) ?_
 simp only[↓zq,zs,ac,zt,bo]
 exact⟨iF _,rfl,rfl⟩
def HH(s:Nm)(o:ZO):Prop:=∀r,o=some r->ij s (r.1.map (·.cN)) r.2.cN=some r
theorem HH.dn{s:Nm}{o:ZO}(h:HH s o)(k:Int):HH s (o.bind fun r=>um (zA s) r.1 r.2 k):=fun r hr=>by
 obtain⟨q,h1,h2⟩:=bm.1 hr
 have hq:=h q h1
 obtain⟨d,hd,hs,_⟩:=rA (gS (l:=q.1) (v:=q.2) hq).1
 obtain⟨e,_,h3,h4,_,_,h0,h5⟩:=qV (l':=r.1) (w:=r.2) h2
 have hk:k.toNat<(kids (zA s) q.2).length:=by
  rcases Nat.lt_or_ge k.toNat (kids (zA s) q.2).length with h|h
  ·exact h
  ·rw[List.getElem?_eq_none h]at h5;cases h5
 have he:(kids (zA s) q.2)[k.toNat]=e:=by rw[bg hk]at h5;cases h5;rfl
 have:=Dr hs hd hq h0 hk
 rw[h2,he]at this
 obtain⟨l1,v1⟩:=r
 simp only at h3 h4 |-
 subst h3 h4
 rw[List.map_append]
 exact this
theorem Av(s f:Nm):HH s (rL s [] f):=fun r hr=>by
 obtain⟨d,_,_,h1,h2⟩:=rA hr
 rw[<-h1,<-h2,uP];exact hr
theorem z7{s:Nm}{r:List Vl×Vl}(h:ij s (r.1.map (·.cN)) r.2.cN=some r)(k:Int):wO s (r.1.map (·.cN)) r.2.cN k=um (zA s) r.1 r.2 k:=by
 unfold wO;rw[h];rfl
def NW(s:Nm)(o:ZO):Nat->List AV->List Ob->Prop:=fun k ys ob=>match o with
 |some r=>k=1/\ys=[]/\∃pa,cI pa (r.1.map (·.cN))/\ob=[D5,.cells [.v (.string (mk s)),pa,.v (.string (mk r.2.cN))]]
 |none=>k=2/\ys=[.v (.bool false)]/\ob=[D5]
theorem Ln(s:Nm)(a:AV)(pl:List Int)(ha:eA a pl)(hl:pl.length<=50):∀(k i:Nat) (r:List Vl×Vl) (pa:AV),i+k=pl.length->HH s (some r)->cI pa (r.1.map (·.cN)) ->
 DT [a,.v (.int .i64 (i:Int))] [D5,.cells [.v (.string (mk s)),pa,.v (.string (mk r.2.cN))]] (NW s (zx (zA s) (pl.drop i) (some r)))
 |
  0,i,r,pa,hi,ho,hp=>by
  refine K9 _ _ _ _ _ _ _ _ ?_
  have:i=pl.length:=by omega
  subst this
  simp only[Ec,↓zq,zs,ac,zt,ac,bb,ha.len,List.drop_length]
  exact⟨ha.1,hp.1,ha.1,fun h=>by omega,fun _=>⟨rfl,rfl,pa,hp,rfl⟩⟩
 |
  k+1,i,r,pa,hi,ho,hp=>by
  have hlt:i<pl.length:=by omega
  refine K9 _ _ _ _ _ _ _ _ ?_
  simp only[Ec,↓zq,zs,ac,zt,ac,bb,ha.len,ha.idx hlt,cf]
  refine⟨ha.1,hp.1,ha.1,fun _=>⟨⟨ha.1,by omega,by omega⟩,by omega,?_⟩,fun h=>by omega⟩
  refine bC (O3 s pa _ hp r.2.cN (pl.getD i 0)) (qX.ne _ _) ?_
  rw[z7 (ho r rfl)]
  have hd:pl.drop i=pl.getD i 0::pl.drop (i+1):=by rw[aL hlt];simp[aa,hlt]
  rw[hd,rF]
  simp only[aK]
  have ho':=ho.dn (pl.getD i 0)
  simp only[aK]at ho'
  cases q:um (zA s) r.1 r.2 (pl.getD i 0)with
  |
   none =>
   rw[nP]
   rintro r' o ⟨rfl,pa',hp',rfl⟩
   simp only[↓zq,zs,ac,zt,bu,aT]
   exact⟨hp'.1,fun _=>⟨rfl,rfl,rfl⟩,fun h=>by simp at h⟩
  |
   some r1 =>
   rintro r' o ⟨rfl,pa',hp',rfl⟩
   simp only[↓zq,zs,ac,zt,bu,aP]
   refine⟨hp'.1,fun h=>by simp at h,fun _=>?_⟩
   rw[bq i (by omega)]
   rw[q]at ho'
   exact Ln s a pl ha hl k (i+1) r1 pa' (by omega) ho' hp'
theorem Qu(s f:Nm)(a:AV)(pl:List Int)(ha:eA a pl):an Tryz.prog 52 [.v (.string (mk s)),.v (.string (mk f)),a] [] (qX s (Hm s f pl)):=by
 refine OK _ _ _ ha.1 ?_
 unfold MY
 refine bC (Pc s f) (qX.ne _ _) ?_
 unfold Hm
 have ho:=Av s f
 cases q:rL s [] f with
 |
  none =>
  rw[nP]
  rintro r o ⟨rfl,pa,hp,rfl⟩
  simp only[↓zq,zs,ac,zt,bu,aT]
  exact⟨hp.1,fun _=>qX.none s,fun h=>by simp at h⟩
 |
  some r =>
  rw[q]at ho
  obtain⟨d,_,hs,hn,_⟩:=rA q
  have hn0:r.1=[]:=List.map_eq_nil_iff.1 hn.symm
  rintro r' o ⟨rfl,pa,hp,rfl⟩
  simp only[↓zq,zs,ac,zt,bu,aP,ha.len]
  refine⟨hp.1,fun h=>by simp at h,fun _=>⟨ha.1,fun h5=>?_,fun h5=>?_⟩⟩
  ·have:zx (zA s) pl (some r)=none:=by
    cases q2:zx (zA s) pl (some r)with
    |none=>rfl
    |
     some r2 =>
     obtain⟨h1,h2⟩:=xU (l:=r.1) (v:=r.2) (l':=r2.1) (w:=r2.2) q2 (by rw[hn0];simp)
     omega
   rw[this]
   exact qX.none s
  ·have hloop:=Ln s a pl ha (by omega) pl.length 0 r pa (by omega) ho hp
   rw[a6]at hloop
   refine kN hloop (fun ys o e=>?_) (fun ys o e=>?_)
   ·unfold NW at e
    cases q2:zx (zA s) pl (some r)with
    |none=>rw[q2]at e;exact absurd e.1 (by decide)
    |
     some r2 =>
     rw[q2]at e
     obtain⟨_,rfl,pa',hp',rfl⟩:=e
     simp only[↓zq,zs,ac,zt,ac,bb]
     exact⟨hp'.1,rfl,pa',hp',rfl⟩
   ·unfold NW at e
    cases q2:zx (zA s) pl (some r)with
    |some r2=>rw[q2]at e;exact absurd e.1 (by decide)
    |
     none =>
     rw[q2]at e
     obtain⟨_,rfl,rfl⟩:=e
     simp only[↓zq,zs,ac,zt,ac,bb]
     exact qX.none s
end Go.Proofs.Trees
namespace Go.Proofs.Trees
open Go Go.VL Go.RowKit
noncomputable def CV (s f:Nm) (pl:List Int) (x y:Nm):Option Nm:=(Hm s f pl).bind fun r=>if r.2.cN=x then(wi s (r.1.map (·.cN)) r.2.cN y).bind fun q=>qx s (q.1.map (·.cN)) q.2.cN else none
theorem O0(s f:Nm)(a:AV)(pl:List Int)(ha:eA a pl)(hl:pl.length<=2000000)(x y:Nm):an Tryz.prog 21 [.v (.string (mk s)),.v (.string (mk f)),.agg [a,.v (.string (mk x)),.v (.string (mk y))]] [] (bB (pu (CV s f pl x y))):=by
 refine Qh _ _ _ _ _ ha.1 ?_
 unfold H6
 refine aX (Nn s f a pl ha hl) ?_
 unfold CV
 cases q:Hm s f pl with
 |
  none =>
  simp only[↓zq,zs,ac,zt,bo,Ob.es,aU,aT,bc]
  exact⟨iF _,fun _=>⟨rfl,rfl⟩,fun h=>by simp at h⟩
 |
  some r =>
  simp only[↓zq,zs,ac,zt,bo,Ob.es,aU,aP,aK]
  refine⟨iF _,fun h=>by simp at h,fun _=>⟨fun hne=>?_,fun he=>?_⟩⟩
  ·rw[if_neg (by simpa using hne)];exact⟨rfl,rfl⟩
  ·rw[if_pos (by simpa using he)]
   refine aX (P6 s _ (r.1.map (·.cN)) (cI.of _) r.2.cN y) ?_
   cases q2:wi s (r.1.map (·.cN)) r.2.cN y with
   |
    none =>
    simp only[↓zq,zs,ac,zt,bo,Ob.es,aU,aT,bc]
    exact⟨iF _,fun _=>⟨rfl,rfl⟩,fun h=>by simp at h⟩
   |
    some r2 =>
    simp only[↓zq,zs,ac,zt,bo,Ob.es,aU,aP,aK]
    refine⟨iF _,fun h=>by simp at h,fun _=>?_⟩
    have h3:=PC s _ (r2.1.map (·.cN)) (cI.of _) r2.2.cN
    rw[j6]at h3
    refine ah h3 ?_
    simp only[↓zq,zs,ac,zt]
    rw[j6];exact⟨rfl,rfl⟩
theorem Qk(s f:Nm)(a:AV)(pl:List Int)(ha:eA a pl)(x y:Nm):an Tryz.prog 19 [.v (.string (mk s)),.v (.string (mk f)),.agg [a,.v (.string (mk x)),.v (.string (mk y))]] [] (bB (pu (CV s f pl x y))):=by
 refine Pt _ _ _ _ _ ha.1 ?_
 unfold J9
 refine bC (Qu s f a pl ha) (qX.ne _ _) ?_
 unfold CV
 cases q:Hm s f pl with
 |
  none =>
  rintro r' o ⟨rfl,w,hw,rfl⟩
  simp only[↓zq,zs,ac,zt,bu,aT,bc]
  exact⟨hw.1,fun _=>⟨rfl,rfl⟩,fun h=>by simp at h⟩
 |
  some r =>
  rintro r' o ⟨rfl,w,hw,rfl⟩
  simp only[↓zq,zs,ac,zt,bu,aP,aK]
  refine⟨hw.1,fun h=>by simp at h,fun _=>⟨fun hne=>?_,fun he=>?_⟩⟩
  ·rw[if_neg (by simpa using hne)];exact⟨rfl,rfl⟩
  ·rw[if_pos (by simpa using he)]
   refine bC (Nq s w (r.1.map (·.cN)) hw r.2.cN y) (qX.ne _ _) ?_
   cases q2:wi s (r.1.map (·.cN)) r.2.cN y with
   |
    none =>
    rintro r' o ⟨rfl,w,hw,rfl⟩
    simp only[↓zq,zs,ac,zt,bu,aT,bc]
    exact⟨hw.1,fun _=>⟨rfl,rfl⟩,fun h=>by simp at h⟩
   |
    some r2 =>
    rintro r' o ⟨rfl,w,hw,rfl⟩
    simp only[↓zq,zs,ac,zt,bu,aP,aK]
    refine⟨hw.1,fun h=>by simp at h,fun _=>?_⟩
    have h3:=Nl s w (r2.1.map (·.cN)) hw r2.2.cN
    rw[j6]at h3
    refine ah h3 ?_
    simp only[↓zq,zs,ac,zt]
    rw[j6];exact⟨rfl,rfl⟩
theorem N9(a:AV)(pl:List Int)(ha:eA a pl)(hpl:pl.length<=9223372036854775807)(x y:Nm):an Tryz.prog 18 [.agg [a,.v (.string (mk x)),.v (.string (mk y))],.v (.int .i64 1048576)] [] (Hr pl.length):=by
 refine Oa _ _ _ _ ha.1 ?_
 unfold L9
 have h:an Tryz.prog 51 [a,.v (.int .i64 1048576)] [] (Hr pl.length):=by
  refine Nk _ _ ha.1 ?_
  simp only[Kg,↓zq,zs,ac,ha.len]
  rw[wrap64 (1048576-(pl.length:Int)) (by omega) (by omega)]
  exact⟨ha.1,fun _=>⟨_,rfl,fun h=>by omega⟩,fun h=>⟨_,rfl,fun _=>by omega⟩⟩
 refine bC h (Hr.ne _) ?_
 rintro r o ⟨n,rfl,hn⟩
 simp only[↓zq,zs,ac,zt]
 exact⟨fun _=>⟨_,rfl,fun h=>by omega⟩,fun h1=>⟨fun _=>⟨_,rfl,fun h=>by omega⟩,fun _=>⟨fun _=>⟨_,rfl,fun h=>by omega⟩,fun _=>⟨_,rfl,fun _=>hn (by omega)⟩⟩⟩⟩
theorem OR(a:AV)(pl:List Int)(ha:eA a pl)(hpl:pl.length<=2000000)(x y:Nm):an Tryz.prog 20 [.agg [a,.v (.string (mk x)),.v (.string (mk y))]] [] (dh (.agg [.vec 0,.v (.string (mk x)),.v (.string (mk y))]) [.vec 1 (gj pl)]):=by
 refine PT _ _ _ ha.1 ?_
 unfold MF
 refine aX (QE a pl ha hpl) ?_
 simp only[↓zq,zs,ac,zt,Ob.es,aU]
 exact⟨jX _,rfl,rfl⟩
theorem OE(s f:Nm)(a:AV)(pl:List Int)(x y:Nm)(ha:eA a pl)(hpl:pl.length<=9223372036854775807):an Tryz.prog 4 [.v (.string (mk s)),.v (.string (mk f)),.agg [a,.v (.string (mk x)),.v (.string (mk y))]] [] (bB (.v (.bool true))):=by
 refine PF _ _ _ _ _ ha.1 ?_
 simp only[JS,↓zq,zs,ac,zt,bB]
 refine⟨fun _=>trivial,fun _=>⟨fun _=>trivial,fun _=>?_⟩⟩
 refine bC (N9 a pl ha hpl x y) (Hr.ne _) ?_
 rintro r o ⟨n,rfl,hn⟩
 simp only[↓zq,zs,ac]
 refine⟨fun _=>trivial,fun hn'=>?_⟩
 have hl:pl.length<=1048576:=hn (by omega)
 have toc:=OR a pl ha (by omega) x y
 have WS:=Qk s f _ pl (eA.of pl) x y
 have WI:=O0 s f _ pl (eA.of pl) (by omega) x y
 rw[j6]at WS WI
 refine aX toc ?_
 simp only[↓zq,zs,ac,zt,bo,Ob.es,aU]
 refine⟨jX _,?_⟩
 refine ah WS ?_
 simp only[↓zq,zs,ac,zt]
 refine aX toc ?_
 simp only[↓zq,zs,ac,zt,bo,Ob.es,aU]
 refine⟨jX _,?_⟩
 refine ah WI ?_
 simp only[↓zq,zs,ac,zt]
 refine⟨fun h=>by simp at h,fun _=>⟨fun h=>by simp at h,fun _=>?_⟩⟩
 refine aX toc ?_
 simp only[↓zq,zs,ac,zt,bo,Ob.es,aU]
 refine⟨jX _,?_⟩
 have heq:an Tryz.prog 22 [.agg [.sl (gj pl),.v (.string (mk x)),.v (.string (mk y))],.agg [.sl (gj pl),.v (.string (mk x)),.v (.string (mk y))]] [] (bB (.v (.bool true))):=by
  refine Oj _ _ _ _ _ _ ((cc _).mpr trivial) ((cc _).mpr trivial) ?_
  unfold JG
  refine ah (OI _ _ pl (eA.of pl) (eA.of pl) (by omega)) ?_
  simp[↓zq,zs,ac,zt,bB]
 refine ah heq ?_
 simp only[↓zq,zs,ac]
 refine⟨fun h=>by simp at h,fun _=>?_⟩
 first|rfl|trivial
end Go.Proofs.Trees
