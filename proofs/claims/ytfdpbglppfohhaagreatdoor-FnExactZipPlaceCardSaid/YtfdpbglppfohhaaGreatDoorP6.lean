/-
  Part of a proof: Go functions read by values, trees of functions, their contracts.
-/
import Derived.Test.YtfdpbglppfohhaaGreatDoorP5
set_option linter.unusedVariables false
set_option linter.unusedSimpArgs false
open Bool renaming and_eq_true→ap,eq_iff_iff→cz,or_eq_false_iff→cw,or_eq_true→bp,true_and→bQ
open ByteArray renaming toList→ae
open Int renaming toNat_natCast→bx
open List renaming all_cons→cY,all_eq_true→bR,append_assoc→aU,append_nil→cA,cons_append→aZ,drop_eq_getElem_cons→aN,drop_zero→a6,eq_nil_of_length_eq_zero→bT,getD_cons_zero→bh,getD_eq_getElem?_getD→aa,getElem?_eq_getElem→be,getElem_mem→bD,headD_cons→aP,length_append→ax,length_cons→aB,length_map→bH,length_nil→aJ,map_append→dP,map_cons→bM,mem_append→aI,mem_append_left→ay,mem_append_right→au,mem_cons→aF,mem_map→cd,mem_singleton→aL,nil_append→aM,tail_cons→bF
open Nat renaming le_add_right→dm,le_refl→aq,lt_of_lt_of_le→df,mul_add→cR,mul_one→dF,zero_add→aT
open Option renaming bind_eq_some_iff→bn,bind_none→bL,bind_some→a8,getD_some→cx,isSome_iff_exists→cm,isSome_none→bB,isSome_some→bf,map_some→ck
open UInt8 renaming ofNat→ba
namespace Go.Proofs.Trees
open Go Go.VL Go.RowKit
theorem Hy{e:E}(h:Wf e)(a:AV)(os:List E)(ha:LK.sl.has a/\a.aQ=E.bj os)(he:e.sz<=2000)(ho:∀o,o∈os->Wf o/\o.sz<=2000)(hl:os.length<=2) :
 an Tryz.prog 106 [.agg [.v (.string (mk e.at)),e.sp],a] [] (bA (.agg [.v (.string (mk (Ai e os).at)),(Ai e os).sp])):=by
 refine OX _ _ _ ((aY _).mpr trivial) ha.1 ?_
 unfold Mn
 have hfl:=ga e [] []
 simp only[aJ,aT]at hfl
 have hap:=Cd he ho hl
 have hats:(cO e []).az<=2000:=by
  rw[<-h.dB []]
  have:e.dB<=e.sz:=by
   clear hap hfl ha he ho hl
   induction h with
   |atom _=>simp[E.dB,E.sz]
   |plus _ _ i1 i2=>simp only[E.dB,E.fJ,E.sz,E.jP];omega
   |times _ _ i1 i2=>simp only[E.dB,E.fJ,E.sz,E.jP];omega
   |rc _ _ i=>simp only[E.dB,E.fJ,E.sz,E.jP];omega
  omega
 have hfre:=Cy h [] [] (.sl []) (.of []) (by simp;omega)
 simp only[↓zq,zs,ac,zt]
 refine aS hfre ?_
 simp only[↓zq,zs,ac,zt,aP,bF,Ob.es]
 have hlp:=Jn a os ha (fun o hq=>⟨(ho o hq).1,by have:=(ho o hq).2;omega⟩) (by omega) (mk e.at) e.sp ((aY _).mpr trivial) os.length 0 (j8 e [] []) (by omega) (by omega)
 rw[a6]at hlp
 refine cf hlp ?_
 simp only[↓zq,zs,ac,zt,ac,bm,bw,aY,aP,bF,Ob.es]
 have hmul:((zz e os).length+1)*(cO e []).az<=6001*2000:=Nat.mul_le_mul (by omega) hats
 have hren:=RD (zz e os) (by omega) h [] [] (.sl []) (.sl []) 0 (.of []) (.of []) rfl (fun w hw=>by cases hw) (by simp;omega) (by omega)
 refine aS hren ?_
 simp only[↓zq,zs,ac,zt,bm,aR]
 repeat refine⟨by omega,?_⟩
 exact⟨rfl,rfl⟩
end Go.Proofs.Trees
namespace Go.Proofs.Trees
open Go Go.VL Go.RowKit
def fU(t:Ty):Prop:=jX t 0/\∀y,bg y t=true->rJ y
theorem gv:∀(t:Ty) {i j:Nat},jX t i->i<=j->jX t j
 | .bO u,i,j,h,hj=>df h hj
 | .plus a b,i,j,h,hj=>⟨gv a h.1 hj,gv b h.2 hj⟩
 | .times a b,i,j,h,hj=>⟨gv a h.1 hj,gv b h.2 hj⟩
 | .rc a,i,j,h,hj=>gv (i:=i+1) (j:=j+1) a h (by omega)
 | .zero,_,_,_,_=>trivial
 | .one,_,_,_,_=>trivial
 | .name _,_,_,_,_=>trivial
theorem iG(x:Nm):∀(t:Ty) {i:Nat},jX t (i+1)->jX (dM (.name x) t i) i
 |
  .bO u,i,h=>by
  simp only[dM]
  split
  ·trivial
  ·have:u<i+1:=h
   show u<i;omega
 | .plus a b,i,h=>⟨iG x a h.1,iG x b h.2⟩
 | .times a b,i,h=>⟨iG x a h.1,iG x b h.2⟩
 | .rc a,i,h=>iG x (i:=i+1) a h
 | .zero,_,_=>trivial
 | .one,_,_=>trivial
 | .name _,_,_=>trivial
theorem kq{x:Nm}{u:Ty}(hu:jX u 0):∀(t:Ty) {i:Nat},jX t i->jX (sub x u t) i
 | .name s,i,_=>by simp only[sub];split;exact gv u hu (Nat.zero_le _);trivial
 | .plus a b,i,h=>⟨kq hu a h.1,kq hu b h.2⟩
 | .times a b,i,h=>⟨kq hu a h.1,kq hu b h.2⟩
 | .rc a,i,h=>kq hu (i:=i+1) a h
 | .zero,_,_=>trivial
 | .one,_,_=>trivial
 | .bO _,_,h=>h
theorem Dv.lc{t d:Ty}{s:Nm}(h:Dv t s d):jX t 0->jX d 0:=by
 induction h with
 |zero s=>exact fun _=>trivial
 |one s=>exact fun _=>trivial
 |bO k s=>exact fun _=>trivial
 |hit s=>exact fun _=>trivial
 |qL h=>exact fun _=>trivial
 |plus h1 h2 hl i1 i2=>exact fun h=>⟨i1 h.1,i2 h.2⟩
 |times h1 h2 hl i1 i2=>exact fun h=>⟨⟨i1 h.1,h.2⟩,h.1,i2 h.2⟩
 |
  rc x hx hs h1 h2 hl i1 i2 =>
  intro h
  have g1:=kq (x:=x) h _ (i1 (iG x _ h))
  have g2:=kq (x:=x) h _ (i2 (iG x _ h))
  exact⟨gv _ g1 (by omega),gv _ g2 (by omega),Nat.zero_lt_one⟩
theorem Wf.qX{e:E}(h:Wf e):fU (cO e []):=⟨sX h [],fun y hy=>(mT h [] y hy).1⟩
theorem fU.dv{t d:Ty}{s:Nm}(g:fU t)(h:Dv t s d):fU d:=⟨h.lc g.1,fun y hy=>g.2 y (h.names y hy)⟩
theorem fU.tree{t:Ty}(g:fU t):∃e,Wf e/\cO e []=t:=by
 obtain⟨h1,h2,_⟩:=kk (bG t []) t [] 0 (.nil _ _) g.1 fun y hy=>⟨(eG t [] y).2 (.inr hy),g.2 y hy⟩
 exact⟨_,h1,h2⟩
theorem fU.sub{x:Nm}{u t:Ty}(hu:fU u)(ht:fU t):fU (sub x u t):=⟨kq hu.1 t ht.1,fun y hy=>by
 rcases iW t hy with h|h
 ·exact hu.2 y h
 ·exact ht.2 y h.2⟩
def kR(o:Option Ty):AV->List Ob->Prop:=fun r ob=>ob=[]/\∃(c:Nm) (d:AV),LK.sl.has d/\r=.cN [.agg [.v (.string (mk c)),d],.v (.bool o.isSome)]/\∀t,o=some t->∃e,Wf e/\cO e []=t/\c=e.at/\d=e.sp
theorem kR.ne{o:Option Ty}(h:∀t,o=some t->fU t):∃r ob,kR o r ob:=by
 cases o with
 |none=>exact⟨_,_,rfl,[],zx,(bw).mpr trivial,rfl,fun t h=>by cases h⟩
 |
  some t =>
  obtain⟨e,h1,h2⟩:=(h t rfl).tree
  exact⟨_,_,rfl,e.at,e.sp,(aY _).mpr trivial,rfl,fun t' h'=>by cases h';exact⟨e,h1,h2,rfl,rfl⟩⟩
theorem kR.of{e:E}(h:Wf e):kR (some (cO e [])) (.cN [.agg [.v (.string (mk e.at)),e.sp],.v (.bool true)]) [] :=
 ⟨rfl,e.at,e.sp,(aY _).mpr trivial,rfl,fun t h'=>by cases h';exact⟨e,h,rfl,rfl,rfl⟩⟩
theorem kR.no(c:Nm)(d:AV)(hd:LK.sl.has d):kR none (.cN [.agg [.v (.string (mk c)),d],.v (.bool false)]) [] :=
 ⟨rfl,c,d,hd,rfl,fun t h'=>by cases h'⟩
theorem gr{c:ByteArray}{d:AV}(h:LK.sl.has d):bC [.str,.sl] [.v (.string c),d] 0=True:=by simp[bC,ej,h]
theorem z8{e:E}{os:List E}(h:Wf e):Wf (Ai e os)/\cO (Ai e os) []=cO e []/\tM (·∉zz e os) (Ai e os):=by
 obtain⟨h1,h2,_,_,h5⟩:=kk (zz e os) (cO e []) [] 0 (.nil _ _) (sX h []) fun y hy=>⟨ay _ ((kZ h [] [] y).2 (.inr hy)),(mT h [] y hy).1⟩
 exact⟨h1,h2,h5⟩
theorem ru{os:List E}{o:E}(ho:o∈os)(hw:Wf o){y:Nm}(hy:bg y (cO o [])=true):y∈qS os :=
 List.mem_flatMap.2 ⟨o,ho,(kZ hw [] [] y).2 (.inr hy)⟩
theorem qY{s:Nm}(hs:rJ s):cO (.atom s) []=.name s:=iQ hs (by simp)
theorem QZ{x:Nm}(hx:rJ x){e u:E}(h:Wf e)(hu:Wf u)(hl:e.dB<=400)(hlu:u.dB<=400):∃g,Wf g/\cO g []=sub x (cO u []) (cO e [])/\an Tryz.prog 172 [.agg [.v (.string (mk e.at)),e.sp],.v (.string (mk x)),.agg [.v (.string (mk u.at)),u.sp]] [] (bA (.agg [.v (.string (mk g.at)),g.sp])):=by
 obtain⟨w1,w2,w3⟩:=z8 (os:=[u,.atom x]) h
 have hap:tM (fun n=>n≠x/\bg n (cO u [])=false) (Ai e [u,.atom x]):=A5 (fun n hn=>⟨fun e1=>hn (by
  subst e1
  exact au _ (ru (o:=.atom n) (by simp) (.atom hx.1) (by rw[qY hx];simp[bg]))),by
  cases q:bg n (cO u [])with
  |false=>rfl
  |true=>exact absurd (au _ (ru (o:=u) (by simp) hu q)) hn⟩) w1 w3
 obtain⟨p1,p2⟩:=CD hx hu w1 hap [] (by simp) (fun y hy=>by cases hy)
 refine⟨_,p1,by rw[p2,w2],?_⟩
 refine Ra _ _ _ _ _ ((aY _).mpr trivial) ((aY _).mpr trivial) ?_
 unfold Lw
 have s1:=h.sz
 have s2:=hu.sz
 have hA:=Hy h (.sl [[.v (.string (mk u.at)),u.sp],[.v (.string (mk x)),zx]]) [u,.atom x] ⟨(ca _).mpr trivial,by simp only[fV,E.bj,fC];rfl⟩ (by omega) (fun o ho=>by
  simp only[aF,List.not_mem_nil,or_false]at ho
  rcases ho with rfl|rfl
  ·exact⟨hu,by omega⟩
  ·exact⟨.atom hx.1,by simp[E.sz]⟩) (by simp)
 refine ah hA ?_
 simp only[↓zq,zs,ac,zt,aR]
 repeat refine⟨by omega,?_⟩
 refine ah (Pf x u w1) ?_
 simp only[↓zq,zs,ac,zt,aR]
 repeat refine⟨by omega,?_⟩
 exact⟨rfl,rfl⟩
theorem FN{x:Nm}(hx:rJ x){e u:E}(h:Wf e)(hu:Wf u)(hl:e.dB<=400)(hlu:u.dB<=400):an Tryz.prog 167 [.agg [.v (.string (mk e.at)),e.sp],.v (.string (mk x)),.agg [.v (.string (mk u.at)),u.sp]] [] (kR (mX (sub x (cO u []) (cO e [])))):=by
 refine Q7 _ _ _ _ _ ((aY _).mpr trivial) ((aY _).mpr trivial) ?_
 unfold N3
 refine ah (Ru hx h hu (by omega) (by omega)) ?_
 simp only[↓zq,zs,ac,zt]
 refine⟨fun hn=>?_,fun hy=>?_⟩
 ·rw[show mX (sub x (cO u []) (cO e []))=none by unfold mX;rw[if_neg hn]]
  exact kR.no _ _ ((aY _).mpr trivial)
 ·rw[show mX (sub x (cO u []) (cO e []))=some (sub x (cO u []) (cO e [])) by unfold mX;rw[if_pos hy]]
  obtain⟨g,g1,g2,g3⟩:=QZ hx h hu hl hlu
  refine ah g3 ?_
  simp only[↓zq,zs,ac,zt,aR]
  repeat refine⟨by omega,?_⟩
  rw[<-g2]
  exact kR.of g1
end Go.Proofs.Trees
namespace Go.Proofs.Trees
open Go Go.VL Go.RowKit
theorem Ac(w:Nm)(c1 c2:Nm)(d1 d2:AV):an Tryz.prog 98 [.v (.string (mk w)),.sl [[.v (.string (mk c1)),d1],[.v (.string (mk c2)),d2]]] [] (bA (.agg [.v (.string (mk [])),.sl [[.v (.string (mk w)),zx],[.v (.string (mk c1)),d1],[.v (.string (mk c2)),d2]]])):=by
 refine HU _ _ ((ca _).mpr trivial) ?_
 simp only[FH,↓zq,zs,ac,bA]
 exact⟨⟨fun c hc=>by
  simp only[aF,List.not_mem_nil,or_false]at hc
  rcases hc with rfl|rfl<;>rfl,by omega⟩,rfl⟩
theorem Mt(F:List Nm)(hF:F.length<100000)(c1 c2:Nm)(d1 d2:AV)(h1:LK.sl.has d1)(h2:LK.sl.has d2):∀(n j:Nat),pJ F n j<j+n->j+n<100000000 ->
 Gl [.v (.int .i64 (j:Int))] [zE,.cells [.v (.string (mk c1)),d1],.cells [.v (.string (mk c2)),d2],.vec 1 (bo F)] (fX 1 [.v (.int .i64 (pJ F n j:Int))] [zE,.cells [.v (.string (mk c1)),d1],.cells [.v (.string (mk c2)),d2]])
 |0,j,h,_=>by simp only[pJ]at h;omega
 |
  n+1,j,h,hj=>by
  refine RG _ _ _ _ _ _ _ _ ?_
  simp only[Lc,↓zq,zs,ac,zt,ac,bw,h1,h2]
  refine ah (AN (j+1) j (by omega) (by omega)) ?_
  have hd:=lC (j+1) j (by omega)
  simp only[↓zq,zs,ac,zt,aZ,aM]
  refine⟨by simp[cy];omega,?_⟩
  refine ah (zb F _ (.of F) (tN j) (by omega)) ?_
  simp only[↓zq,zs,ac,zt]
  rw[pJ]at h |-
  refine⟨fun hm=>?_,fun hm=>?_⟩
  ·rw[if_pos hm]at h |-
   rw[a7 j (by omega)]
   exact Mt F hF c1 c2 d1 d2 h1 h2 n (j+1) (by omega) (by omega)
  ·rw[if_neg hm]
   exact⟨rfl,rfl,rfl⟩
theorem tK{x:Nm}{a c d:Ty}(h:(px a x c d).az<=400):(sub x (.rc a) c).az<=400/\(sub x (.rc a) d).az<=400:=by
 simp only[px,Ty.az]at h;omega
theorem Wf.iH{e:E}(h:Wf e){t:Ty}(ht:cO e []=t)(hl:t.az<=400):e.dB<=400:=by rw[h.dB [],ht];exact hl
def RJ(n:Nat):Prop:=∀(e:E) (s:Nm),Wf e->e.dB<=n->e.dB<=400->rJ s->an Tryz.prog 166 [.agg [.v (.string (mk e.at)),e.sp],.v (.string (mk s))] [] (kR (kU (cO e []) s))
theorem j1{e:E}{s:Nm}(h:Wf e):∀t,kU (cO e []) s=some t->fU t:=fun t ht=>h.qX.dv (cT.1 ht)
theorem rr{t:Ty}(h:fU t):∀d,mX t=some d->fU d:=fun d hd=>by obtain⟨_,rfl⟩:=eW.1 hd;exact h
theorem OM(n:Nat)(ih:RJ n)(m:Nm)(B:E)(hm:rJ m)(hB:Wf B)(hl:(E.list [.atom dY,.atom m,B]).dB<=n+1)(hl4:(E.list [.atom dY,.atom m,B]).dB<=400)(s:Nm)(hs:rJ s) :
 an Tryz.prog 190 [.agg [.v (.string (mk [])),(E.list [.atom dY,.atom m,B]).sp],.v (.string (mk s))] [] (kR (kU (cO (.list [.atom dY,.atom m,B]) []) s)):=by
 have hw:Wf (.list [.atom dY,.atom m,B]):=.rc hm hB
 have hsz:=hw.sz
 have hA:=Hy hw (.sl [[.v (.string (mk s)),zx]]) [.atom s] ⟨(ca _).mpr trivial,by simp only[fV,E.bj,fC];rfl⟩ (by omega) (fun o ho=>by
  simp only[aF,List.not_mem_nil,or_false]at ho
  subst ho
  exact⟨.atom hs.1,by simp[E.sz]⟩) (by simp)
 have hatsB:B.dB+2=(E.list [.atom dY,.atom m,B]).dB:=by simp only[E.dB,E.fJ];omega
 have hT:cO (.list [.atom dY,.atom m,B]) []=.rc (cO B [m]):=eV _ _ _
 obtain⟨w1,w2,_,_,w5⟩:=kk (zz (.list [.atom dY,.atom m,B]) [.atom s]) (cO (.list [.atom dY,.atom m,B]) []) [] 0 (.nil _ _) (sX hw []) fun y hy=>⟨ay _ ((kZ hw [] [] y).2 (.inr hy)),(mT hw [] y hy).1⟩
 have hsF:s∈zz (.list [.atom dY,.atom m,B]) [.atom s]:=au _ (ru (o:=.atom s) (by simp) (.atom hs.1) (by rw[qY hs];simp[bg]))
 have haF:∀y,bg y (cO B [m])=true->y∈zz (.list [.atom dY,.atom m,B]) [.atom s]:=fun y hy=>ay _ ((kZ hw [] [] y).2 (.inr (by rw[hT];exact hy)))
 unfold Ai at hA
 rw[hT]at hA w1 w2 w5
 rw[hT]
 generalize zz (.list [.atom dY,.atom m,B]) [.atom s]=F at *
 obtain⟨_,_,_,hxF⟩:=gu F 0
 simp only[gP,aM]at hA w1 w2 w5
 generalize hxd:tN (nx F 0)=x at *
 have hx:rJ x:=by rw[<-hxd];exact xk _
 generalize (gP F (cO B [m]) [x] (nx F 0+1)).1=b at *
 have hb:Wf b:=by cases w1;assumption
 rw[eV]at w2
 have hbt:cO b [x]=cO B [m]:=by injection w2
 have hxa:bg x (cO B [m])=false:=by
  cases q:bg x (cO B [m])with
  |false=>rfl
  |true=>exact absurd (haF x q) hxF
 have hxs:x≠s:=fun e=>hxF (by rw[e];exact hsF)
 generalize cO B [m]=a at *
 have hbo:cO b []=dM (.name x) a 0:=by
  have:=yi x hb []
  rw[cA,hbt]at this;exact this
 have hba:b.dB+2=(E.list [.atom dY,.atom m,B]).dB:=by
  rw[hw.dB [],hT,hb.dB [],hbo,fE];simp only[Ty.az];omega
 have i1:=ih b s hb (by omega) (by omega) hs
 have i2:=ih b x hb (by omega) (by omega) hx
 have n1:=j1 (s:=s) hb
 have n2:=j1 (s:=x) hb
 rw[hbo]at i1 i2 n1 n2
 have hP:=P3.of (.atom dY) (.atom x) b
 rw[Au hxa hxs]
 have hE1:Wf (.list [.atom dY,.atom x,b]):=w1
 have hE1t:cO (.list [.atom dY,.atom x,b]) []=.rc a:=by rw[eV];exact w2
 have hE1l:(E.list [.atom dY,.atom x,b]).dB<=400:=by
  have:(E.list [.atom dY,.atom x,b]).dB=b.dB+2:=by simp only[E.dB,E.fJ];omega
  omega
 refine Qj _ _ _ ((aY _).mpr trivial) ?_
 unfold K9
 refine ah hA ?_
 simp only[↓zq,zs,ac,zt,aR,bS,toNat_one,bi,hP.1,hP.2.1,hP.2.2.1,hP.2.2.2,er]
 repeat refine⟨by omega,?_⟩
 refine bU i1 (kR.ne n1) ?_
 rintro r o ⟨rfl,c1,d1,hd1,rfl,hc1⟩
 simp only[↓zq,zs,ac,zt,gr hd1]
 repeat refine⟨by omega,?_⟩
 refine bU i2 (kR.ne n2) ?_
 rintro r o ⟨rfl,c2,d2,hd2,rfl,hc2⟩
 simp only[↓zq,zs,ac,zt,gr hd2]
 cases q1:kU (dM (.name x) a 0) s with
 |
  none =>
  simp only[bB,bL]
  exact⟨fun _=>kR.no _ _ ((aY _).mpr trivial),fun h=>(by cases h)⟩
 |some c =>
 cases q2:kU (dM (.name x) a 0) x with
 |
  none =>
  simp only[bB,bf,bL,a8]
  exact⟨fun h=>(by cases h),fun _=>⟨fun _=>kR.no _ _ ((aY _).mpr trivial),fun h=>(by cases h)⟩⟩
 |some d =>
 simp only[bf,a8]
 refine⟨fun h=>(by cases h),fun _=>⟨fun h=>(by cases h),fun _=>?_⟩⟩
 obtain⟨ec,wc,tc,rfl,rfl⟩:=hc1 c q1
 obtain⟨ed,wd,td,rfl,rfl⟩:=hc2 d q2
 have lc:=(cT.1 q1).small
 have ld:=(cT.1 q2).small
 have p1:=FN hx wc hE1 (wc.iH tc lc) hE1l
 have p2:=FN hx wd hE1 (wd.iH td ld) hE1l
 have g1:=rr (hE1.qX.sub (x:=x) wc.qX)
 have g2:=rr (hE1.qX.sub (x:=x) wd.qX)
 rw[hE1t,tc]at p1 g1
 rw[hE1t,td]at p2 g2
 simp only[bS]at p1 p2
 repeat refine⟨by omega,?_⟩
 refine bU p1 (kR.ne g1) ?_
 rintro r o ⟨rfl,c3,d3,hd3,rfl,hc3⟩
 simp only[↓zq,zs,ac,zt,gr hd3]
 repeat refine⟨by omega,?_⟩
 refine bU p2 (kR.ne g2) ?_
 rintro r o ⟨rfl,c4,d4,hd4,rfl,hc4⟩
 simp only[↓zq,zs,ac,zt,gr hd4]
 have big:∀t:Ty,mX t=none->¬t.az<=400:=fun t ht hle=>by unfold mX at ht;rw[if_pos hle]at ht;cases ht
 have out0:(mX (sub x (.rc a) c)=none\/mX (sub x (.rc a) d)=none)->mX (px a x c d)=none:=fun h=>by
  unfold mX
  rw[if_neg fun hle=>?_]
  have:=tK hle
  rcases h with h|h
  ·exact big _ h this.1
  ·exact big _ h this.2
 cases q3:mX (sub x (.rc a) c)with
 |
  none =>
  rw[out0 (.inl q3)]
  simp only[bB]
  exact⟨fun _=>kR.no _ _ ((aY _).mpr trivial),fun h=>(by cases h)⟩
 |some c' =>
 cases q4:mX (sub x (.rc a) d)with
 |
  none =>
  rw[out0 (.inr q4)]
  simp only[bB,bf]
  exact⟨fun h=>(by cases h),fun _=>⟨fun _=>kR.no _ _ ((aY _).mpr trivial),fun h=>(by cases h)⟩⟩
 |some d' =>
 simp only[bf]
 refine⟨fun h=>(by cases h),fun _=>⟨fun h=>(by cases h),fun _=>?_⟩⟩
 obtain⟨ec',wc',tc',rfl,rfl⟩:=hc3 c' q3
 obtain⟨ed',wd',td',rfl,rfl⟩:=hc4 d' q4
 obtain⟨lc',e3⟩:=eW.1 q3
 obtain⟨ld',e4⟩:=eW.1 q4
 rw[e3]at lc';rw[e4]at ld'
 have z1:=wc'.sz
 have z2:=wd'.sz
 have k1:=wc'.iH tc' lc'
 have k2:=wd'.iH td' ld'
 have f1:=Cy wd' [] [] (.sl []) (.of []) (by simp;omega)
 have fl1:=ga ed' [] []
 have fl2:=ga ec' [] (j8 ed' [] [])
 simp only[aJ,aT]at fl1
 have f2:=Cy wc' [] (j8 ed' [] []) (.sl []) (.of []) (by simp;omega)
 refine aS f1 ?_
 simp only[↓zq,zs,ac,zt,aP,bF,Ob.es]
 refine aS f2 ?_
 simp only[↓zq,zs,ac,zt,aP,bF,Ob.es]
 have hF3:∀y,(bg y c'=true\/bg y d'=true)->y∈j8 ec' [] (j8 ed' [] []):=fun y hy=>by
  rw[kZ wc',kZ wd']
  rcases hy with hy|hy
  ·exact .inr (by rw[tc'];exact hy)
  ·exact .inl (.inr (by rw[td'];exact hy))
 generalize j8 ec' [] (j8 ed' [] [])=F3 at *
 obtain⟨_,y2,_,hyF⟩:=gu F3 0
 refine cf (Mt F3 (by omega) _ _ _ _ ((aY _).mpr trivial) ((aY _).mpr trivial) (F3.length+1) 0 (by show nx F3 0<_;omega) (by omega)) ?_
 have hnx:pJ F3 (F3.length+1) 0=nx F3 0:=rfl
 rw[hnx]
 simp only[↓zq,zs,ac,zt,ac,bm,bw,aY]
 refine ah (AN (nx F3 0+1) (nx F3 0) (by omega) (by omega)) ?_
 have hdl:=lC (nx F3 0+1) (nx F3 0) (by omega)
 simp only[↓zq,zs,ac,zt,aZ,aM]
 refine⟨by omega,?_⟩
 obtain⟨y,hyd⟩:∃y:Nm,(116::dd (nx F3 0):Nm)=y:=⟨_,rfl⟩
 rw[hyd]
 rw[show tN (nx F3 0)=y from hyd]at hyF
 have hy:rJ y:=by rw[<-hyd];exact xk _
 have hcy:cO ec' [y]=c':=by
  have:=tq [y] wc' [] (fun z hz hm=>hyF (by
   simp only[aL]at hm
   rw[<-hm];exact hF3 z (.inl (by rw[<-tc'];exact hz))))
  rw[cA,tc']at this;exact this
 have hdy:cO ed' [y]=d':=by
  have:=tq [y] wd' [] (fun z hz hm=>hyF (by
   simp only[aL]at hm
   rw[<-hm];exact hF3 z (.inr (by rw[<-td'];exact hz))))
  rw[cA,td']at this;exact this
 have hyb:cO (.atom y) [y]=.bO 0:=by
  simp only[cO];rw[if_neg hy.2.1,if_neg hy.2.2,show bI y [y] [y].length=some 0 from ff y []]
 let o1:E:=.list [.atom [42],ed',.atom y]
 let o2:E:=.list [.atom [43],ec',o1]
 let o3:E:=.list [.atom dY,.atom y,o2]
 have hw3:Wf o3:=.rc hy (.plus wc' (.times wd' (.atom hy.1)))
 have ht3:cO o3 []=px a x c d:=by
  show cO (.list [.atom dY,.atom y,o2]) []=_
  rw[eV]
  show Ty.rc (cO (.list [.atom [43],ec',o1]) [y])=_
  rw[dL]
  show Ty.rc (.plus (cO ec' [y]) (cO (.list [.atom [42],ed',.atom y]) [y]))=_
  rw[dk,hcy,hdy,hyb,px,e3,e4]
 have m1:=wP [42] ed' (.atom y)
 have m2:=wP [43] ec' o1
 have m3:=wP dY (.atom y) o2
 simp only[o1,bS,er]at m1 m2 m3
 refine ah m1 ?_
 simp only[↓zq,zs,ac,zt,aR]
 repeat refine⟨by omega,?_⟩
 refine ah m2 ?_
 simp only[↓zq,zs,ac,zt,aR]
 repeat refine⟨by omega,?_⟩
 refine ah m3 ?_
 simp only[↓zq,zs,ac,zt,aR]
 repeat refine⟨by omega,?_⟩
 have z3:=hw3.sz
 have hats3:o3.dB=ec'.dB+ed'.dB+5:=by simp only[o3,o2,o1,E.dB,E.fJ];omega
 have ma:=ET o3 hw3.ok (by omega)
 rw[dw]at ma
 simp only[o3,o2,o1,bS]at ma
 refine ah ma ?_
 simp only[↓zq,zs,ac,zt]
 have hd3:(px a x c d).az=o3.dB:=by rw[<-ht3,<-hw3.dB []]
 unfold mX
 by_cases hle:(px a x c d).az<=400
 ·rw[if_pos hle]
  have:=kR.of hw3
  rw[ht3]at this
  rw[show decide ((((E.list [.atom dY,.atom y,.list [.atom [43],ec',.list [.atom [42],ed',.atom y]]]).dB:Nat):Int)<=400)=true from decide_eq_true (by show ((o3.dB:Nat):Int)<=400;omega)]
  exact this
 ·rw[if_neg hle]
  rw[show decide ((((E.list [.atom dY,.atom y,.list [.atom [43],ec',.list [.atom [42],ed',.atom y]]]).dB:Nat):Int)<=400)=false from decide_eq_false (by show ¬((o3.dB:Nat):Int)<=400;omega)]
  exact kR.no _ _ ((aY o3).mpr trivial)
theorem yO:∀n,RJ n
 |0=>fun e s h hl=>by have:=eg (cO e []);rw[<-h.dB []]at this;omega
 |
  n+1=>by
  intro e s h hl h4 hs
  cases h with
  |
   @atom c hc =>
   refine C3 _ _ _ ((aY _).mpr trivial) ?_
   simp only[Ax,er,↓zq,zs,ac,zt]
   refine⟨fun _=>⟨fun he=>?_,fun hne=>?_⟩,fun h=>absurd h hc⟩
   ·have he:c=s:=he
    subst he
    rw[qY hs,nT,if_pos rfl]
    exact kR.of (e:=.atom [49]) (.atom (by simp))
   ·have hne:¬c=s:=hne
    have:kU (cO (.atom c) []) s=some .zero:=by
     simp only[cO]
     split
     ·exact vn _
     ·split
      ·exact xw _
      ·rw[show bI c [] ([]:List Nm).length=none from rfl,nT,if_neg hne]
    rw[this]
    exact kR.of (e:=.atom [48]) (.atom (by simp))
  |
   @plus x y hx hy =>
   have hxy:(E.list [.atom [43],x,y]).dB=x.dB+y.dB+1:=by simp only[E.dB,E.fJ];omega
   have p1:1<=x.dB:=by rw[hx.dB []];exact eg _
   have p2:1<=y.dB:=by rw[hy.dB []];exact eg _
   refine C3 _ _ _ ((aY _).mpr trivial) ?_
   have hP:=P3.of (.atom [43]) x y
   simp only[Ax,bS,toNat_one,bi,↓zq,zs,ac,zt,hP.1,hP.2.1,hP.2.2.1,hP.2.2.2,aR]
   refine⟨fun h=>absurd rfl h,fun _=>?_⟩
   refine ah (p9 [43] x y) ?_
   simp only[↓zq,zs,ac,zt]
   refine⟨fun h=>by simp at h,fun _=>?_⟩
   repeat refine⟨by omega,?_⟩
   rw[dL,vu]
   refine bU (yO n x s hx (by omega) (by omega) hs) (kR.ne (j1 hx)) ?_
   rintro r o ⟨rfl,c1,d1,hd1,rfl,hc1⟩
   simp only[↓zq,zs,ac,zt,gr hd1]
   repeat refine⟨by omega,?_⟩
   refine bU (yO n y s hy (by omega) (by omega) hs) (kR.ne (j1 hy)) ?_
   rintro r o ⟨rfl,c2,d2,hd2,rfl,hc2⟩
   simp only[↓zq,zs,ac,zt,gr hd2]
   refine ah (Ac [43] c1 c2 d1 d2) ?_
   simp only[↓zq,zs,ac,zt,bC,ej,ca]
   repeat refine⟨by omega,?_⟩
   refine ah (p9 [43] x y) ?_
   simp only[↓zq,zs,ac,zt]
   refine⟨fun h=>by simp at h,fun _=>?_⟩
   cases q1:kU (cO x []) s with
   |
    none =>
    simp only[bB,bL]
    exact⟨fun h=>(by cases h),fun _=>kR.no _ _ ((ca _).mpr trivial)⟩
   |some tx =>
   cases q2:kU (cO y []) s with
   |
    none =>
    simp only[bB,bf,bL,a8]
    exact⟨fun _=>⟨fun h=>(by cases h),fun _=>kR.no _ _ ((ca _).mpr trivial)⟩,fun h=>(by cases h)⟩
   |some t2 =>
   simp only[bf,a8]
   refine⟨fun _=>⟨fun _=>?_,fun h=>(by cases h)⟩,fun h=>(by cases h)⟩
   obtain⟨e1,w1,te1,rfl,rfl⟩:=hc1 tx q1
   obtain⟨e2,w2,te2,rfl,rfl⟩:=hc2 t2 q2
   have l1:=w1.iH te1 (cT.1 q1).small
   have l2:=w2.iH te2 (cT.1 q2).small
   have z1:=w1.sz
   have z2:=w2.sz
   have hw3:Wf (.list [.atom [43],e1,e2]):=.plus w1 w2
   have ht3:cO (.list [.atom [43],e1,e2]) []=.plus tx t2:=by rw[dL,te1,te2]
   have ma:=ET _ hw3.ok (by simp only[E.sz,E.jP];omega)
   rw[dw]at ma
   simp only[bS]at ma
   have e3:AV.sl [[.v (.string (mk [43])),zx],[.v (.string (mk e1.at)),e1.sp],[.v (.string (mk e2.at)),e2.sp]]=(E.list [.atom [43],e1,e2]).sp:=by simp only[E.sp,E.bj,fC];rfl
   rw[e3]
   refine ah ma ?_
   simp only[↓zq,zs,ac,zt]
   have hd3:(Ty.plus tx t2).az=(E.list [.atom [43],e1,e2]).dB:=by rw[<-ht3,<-hw3.dB []]
   unfold mX
   by_cases hle:(Ty.plus tx t2).az<=400
   ·rw[if_pos hle,show decide ((((E.list [.atom [43],e1,e2]).dB:Nat):Int)<=400)=true from decide_eq_true (by omega)]
    have:=kR.of hw3
    rw[ht3]at this
    exact this
   ·rw[if_neg hle,show decide ((((E.list [.atom [43],e1,e2]).dB:Nat):Int)<=400)=false from decide_eq_false (by omega)]
    exact kR.no _ _ ((aY _).mpr trivial)
  |
   @times x y hx hy =>
   have hxy:(E.list [.atom [42],x,y]).dB=x.dB+y.dB+1:=by simp only[E.dB,E.fJ];omega
   have p1:1<=x.dB:=by rw[hx.dB []];exact eg _
   have p2:1<=y.dB:=by rw[hy.dB []];exact eg _
   refine C3 _ _ _ ((aY _).mpr trivial) ?_
   have hP:=P3.of (.atom [42]) x y
   simp only[Ax,bS,toNat_one,bi,↓zq,zs,ac,zt,hP.1,hP.2.1,hP.2.2.1,hP.2.2.2,aR]
   refine⟨fun h=>absurd rfl h,fun _=>?_⟩
   refine ah (p9 [42] x y) ?_
   simp only[↓zq,zs,ac,zt]
   refine⟨fun h=>by simp at h,fun _=>?_⟩
   repeat refine⟨by omega,?_⟩
   rw[dk,so]
   refine bU (yO n x s hx (by omega) (by omega) hs) (kR.ne (j1 hx)) ?_
   rintro r o ⟨rfl,c1,d1,hd1,rfl,hc1⟩
   simp only[↓zq,zs,ac,zt,gr hd1]
   repeat refine⟨by omega,?_⟩
   refine bU (yO n y s hy (by omega) (by omega) hs) (kR.ne (j1 hy)) ?_
   rintro r o ⟨rfl,c2,d2,hd2,rfl,hc2⟩
   simp only[↓zq,zs,ac,zt,gr hd2]
   refine ah (Ac [43] c1 c2 d1 d2) ?_
   simp only[↓zq,zs,ac,zt,bC,ej,ca]
   repeat refine⟨by omega,?_⟩
   refine ah (p9 [42] x y) ?_
   simp only[↓zq,zs,ac,zt]
   refine⟨fun _=>?_,fun h=>by simp at h⟩
   repeat refine⟨by omega,?_⟩
   refine ah (Ac [42] c1 y.at d1 y.sp) ?_
   simp only[↓zq,zs,ac,zt,bC,ej,ca,aY]
   repeat refine⟨by omega,?_⟩
   refine ah (Ac [42] x.at c2 x.sp d2) ?_
   simp only[↓zq,zs,ac,zt,bC,ej,ca,aY]
   repeat refine⟨by omega,?_⟩
   refine ah (Ac [43] [] [] _ _) ?_
   simp only[↓zq,zs,ac,zt,bC,ej,ca]
   repeat refine⟨by omega,?_⟩
   cases q1:kU (cO x []) s with
   |
    none =>
    simp only[bB,bL]
    exact⟨fun h=>(by cases h),fun _=>kR.no _ _ ((ca _).mpr trivial)⟩
   |some tx =>
   cases q2:kU (cO y []) s with
   |
    none =>
    simp only[bB,bf,bL,a8]
    exact⟨fun _=>⟨fun h=>(by cases h),fun _=>kR.no _ _ ((ca _).mpr trivial)⟩,fun h=>(by cases h)⟩
   |some t2 =>
   simp only[bf,a8]
   refine⟨fun _=>⟨fun _=>?_,fun h=>(by cases h)⟩,fun h=>(by cases h)⟩
   obtain⟨e1,w1,te1,rfl,rfl⟩:=hc1 tx q1
   obtain⟨e2,w2,te2,rfl,rfl⟩:=hc2 t2 q2
   have l1:=w1.iH te1 (cT.1 q1).small
   have l2:=w2.iH te2 (cT.1 q2).small
   have z1:=w1.sz
   have z2:=w2.sz
   have z3:=hx.sz
   have z4:=hy.sz
   have hw3:Wf (.list [.atom [43],.list [.atom [42],e1,y],.list [.atom [42],x,e2]]):=.plus (.times w1 hy) (.times hx w2)
   have ht3:cO (.list [.atom [43],.list [.atom [42],e1,y],.list [.atom [42],x,e2]]) []=.plus (.times tx (cO y [])) (.times (cO x []) t2):=by rw[dL,dk,dk,te1,te2]
   have ma:=ET _ hw3.ok (by simp only[E.sz,E.jP];omega)
   rw[dw]at ma
   simp only[bS]at ma
   have e3:AV.sl [[.v (.string (mk [43])),zx],[.v (.string (mk [])),.sl [[.v (.string (mk [42])),zx],[.v (.string (mk e1.at)),e1.sp],[.v (.string (mk y.at)),y.sp]]],[.v (.string (mk [])),.sl [[.v (.string (mk [42])),zx],[.v (.string (mk x.at)),x.sp],[.v (.string (mk e2.at)),e2.sp]]]]=(E.list [.atom [43],.list [.atom [42],e1,y],.list [.atom [42],x,e2]]).sp:=by simp only[E.sp,E.bj,fC];rfl
   rw[e3]
   refine ah ma ?_
   simp only[↓zq,zs,ac,zt]
   have hd3:(Ty.plus (.times tx (cO y [])) (.times (cO x []) t2)).az=(E.list [.atom [43],.list [.atom [42],e1,y],.list [.atom [42],x,e2]]).dB:=by rw[<-ht3,<-hw3.dB []]
   unfold mX
   by_cases hle:(Ty.plus (.times tx (cO y [])) (.times (cO x []) t2)).az<=400
   ·rw[if_pos hle,show decide ((((E.list [.atom [43],.list [.atom [42],e1,y],.list [.atom [42],x,e2]]).dB:Nat):Int)<=400)=true from decide_eq_true (by omega)]
    have:=kR.of hw3
    rw[ht3]at this
    exact this
   ·rw[if_neg hle,show decide ((((E.list [.atom [43],.list [.atom [42],e1,y],.list [.atom [42],x,e2]]).dB:Nat):Int)<=400)=false from decide_eq_false (by omega)]
    exact kR.no _ _ ((aY _).mpr trivial)
  |
   @rc m B hm hB =>
   have hlp:=OM n (yO n) m B hm hB hl h4 s hs
   have hg:=j1 (s:=s) (Wf.rc hm hB)
   refine C3 _ _ _ ((aY _).mpr trivial) ?_
   have hP:=P3.of (.atom dY) (.atom m) B
   simp only[Ax,bS,toNat_one,bi,↓zq,zs,ac,zt,hP.1,hP.2.1,hP.2.2.1,hP.2.2.2,aR]
   refine⟨fun h=>absurd rfl h,fun _=>?_⟩
   refine ah (p9 dY (.atom m) B) ?_
   simp only[↓zq,zs,ac,zt]
   refine⟨fun _=>?_,fun h=>absurd rfl h⟩
   refine bU hlp (kR.ne hg) ?_
   rintro r o ⟨rfl,c1,d1,hd1,rfl,hc1⟩
   simp only[↓zq,zs,ac,zt,gr hd1]
   exact⟨rfl,c1,d1,hd1,rfl,hc1⟩
end Go.Proofs.Trees
namespace Go.Proofs.Trees
open Go Go.VL Go.RowKit
theorem nO:∀(n k:Nat),k<10 ^ (n+1)->(dd k).length<=n+1
 |0,k,h=>by rw[eE (by omega)];simp
 |
  n+1,k,h=>by
  by_cases h1:k<10
  ·rw[eE h1];simp
  ·rw[fk h1]
   have:=nO n (k/10) (by
    have:10 ^ (n+1+1)=10*10 ^ (n+1):=by rw[Nat.pow_succ,Nat.mul_comm]
    omega)
   simp;omega
inductive Sh:E->Prop
 |atom {s:Nm} (h:s.length<=20):Sh (.atom s)
 |l3 {h:Nm} {a b:E} (hh:h.length<=20) (ha:Sh a) (hb:Sh b):Sh (.list [.atom h,a,b])
theorem Sh.cV{e:E}(hw:Wf e)(h:Sh e):(fQ e).length<=50*e.dB:=by
 induction hw with
 |atom _=>cases h with|atom h=>simp only[fQ,E.dB];omega
 |
  plus _ _ i1 i2 =>
  cases h with|l3 hh ha hb =>
  have:=i1 ha
  have:=i2 hb
  simp only[fQ,en,aB,ax,aJ,E.dB,E.fJ];omega
 |
  times _ _ i1 i2 =>
  cases h with|l3 hh ha hb =>
  have:=i1 ha
  have:=i2 hb
  simp only[fQ,en,aB,ax,aJ,E.dB,E.fJ];omega
 |
  rc _ _ i =>
  cases h with|l3 hh ha hb =>
  cases ha with|atom ha =>
  have:=i hb
  simp only[fQ,en,aB,ax,aJ,E.dB,E.fJ];omega
def uj(t:Ty):Prop:=∀y,bg y t=true->y.length<=20
theorem wt{k:Nat}(h:k<100000000):(tN k).length<=20:=by
 have:=nO 7 k (by omega)
 simp;omega
theorem oS(F:List Nm)(hF:F.length<=10000):∀(t:Ty) (to:List Nm) (k:Nat),uj t->(∀w,w∈to->w.length<=20)->k+(F.length+1)*t.az<90000000->Sh (gP F t to k).1
 | .zero,_,_,_,_,_=>.atom (by simp)
 | .one,_,_,_,_,_=>.atom (by simp)
 | .name s,_,_,hn,_,_=>.atom (hn s (by simp[bg]))
 |
  .bO u,to,_,_,ht,_=>by
  refine .atom ?_
  show (gf to u).length<=20
  unfold gf
  by_cases h:to.length-1-u<to.length
  ·rw[aa,be h];exact ht _ (bD h)
  ·rw[aa,List.getElem?_eq_none (by omega)];simp
 |
  .plus a b,to,k,hn,ht,hk=>by
  have h1:=ik F a to k
  have:(F.length+1)*(1+a.az+b.az)=(F.length+1)+(F.length+1)*a.az+(F.length+1)*b.az:=by simp only[cR,dF]
  simp only[Ty.az]at hk
  exact .l3 (by simp) (oS F hF a to k (fun y hy=>hn y (by simp[bg,hy])) ht (by omega)) (oS F hF b to _ (fun y hy=>hn y (by simp[bg,hy])) ht (by omega))
 |
  .times a b,to,k,hn,ht,hk=>by
  have h1:=ik F a to k
  have:(F.length+1)*(1+a.az+b.az)=(F.length+1)+(F.length+1)*a.az+(F.length+1)*b.az:=by simp only[cR,dF]
  simp only[Ty.az]at hk
  exact .l3 (by simp) (oS F hF a to k (fun y hy=>hn y (by simp[bg,hy])) ht (by omega)) (oS F hF b to _ (fun y hy=>hn y (by simp[bg,hy])) ht (by omega))
 |
  .rc a,to,k,hn,ht,hk=>by
  obtain⟨g1,g2,_,_⟩:=gu F k
  have:(F.length+1)*(2+a.az)=(F.length+1)*2+(F.length+1)*a.az:=by simp only[cR]
  simp only[Ty.az]at hk
  have hl:=wt (k:=nx F k) (by omega)
  exact .l3 (by simp) (.atom hl) (oS F hF a _ _ hn (fun w hw=>by
   rcases aI.1 hw with hw|hw
   ·exact ht w hw
   ·simp only[aL]at hw;rw[hw];exact hl) (by omega))
def DA(t:Ty):Nm:=fQ (gP (bG t []) t [] 0).1
def told(t:Ty):Option Nm:=if t.az<=400/\(qg (DA t)).isSome=true then some (DA t)else none
theorem Cr{t:Ty}(g:fU t)(hs:uj t)(ha:t.az<=400):(DA t).length<=20000:=by
 obtain⟨h1,h2,_⟩:=kk (bG t []) t [] 0 (.nil _ _) g.1 fun y hy=>⟨(eG t [] y).2 (.inr hy),g.2 y hy⟩
 have hn:=ey t []
 simp only[aJ,aT]at hn
 have hm:((bG t []).length+1)*t.az<=401*400:=Nat.mul_le_mul (by omega) ha
 have:=(oS (bG t []) (by omega) t [] 0 hs (fun w hw=>by cases hw) (by omega)).cV h1
 have:=h1.iH h2 ha
 unfold DA;omega
theorem tt(s:Nm):(vF s).isSome=(qg s).isSome:=by
 rw[tV]
 cases he:vF s with
 |none=>rfl
 |
  some e =>
  obtain⟨h1,h2,h3⟩:=pn he
  simp only[iK e [],h2];rfl
theorem P1(s:Nm):an Tryz.prog 168 [.v (.string (mk s))] [] (bA (.v (.bool (qg s).isSome))):=by
 refine QF _ ?_
 unfold M9
 refine bU (Ha s) (jO.ne _ _ (fun h=>h)) ?_
 rintro r o ⟨c,d,hd,rfl,hh⟩
 have hhas:bC [.str,.sl] [.v (.string (mk c)),d] 0:=by simp[bC,ej,hd]
 simp only[↓zq,zs,ac,zt,tt]
 exact⟨hhas,rfl,rfl⟩
theorem Qg{e:E}(h:Wf e)(hl:e.dB<=400)(hs:uj (cO e [])):an Tryz.prog 134 [.agg [.v (.string (mk e.at)),e.sp]] [] (bA (s5 (told (cO e [])))):=by
 refine Rn _ _ ((aY _).mpr trivial) ?_
 unfold KW
 have z:=h.sz
 have ma:=ET e h.ok (by omega)
 rw[dw]at ma
 have hA:=Hy h zx [] ⟨(bw).mpr trivial,rfl⟩ (by omega) (fun o ho=>by cases ho) (by simp)
 have ha:(cO e []).az<=400:=by rw[<-h.dB []];exact hl
 have hc:Ai e []=(gP (bG (cO e []) []) (cO e []) [] 0).1:=by
  unfold Ai zz qS
  rw[List.flatMap_nil,cA,jC (F':=bG (cO e []) []) fun y=>by rw[kZ h,eG]]
 have hx:fQ (Ai e [])=DA (cO e []):=by rw[hc];rfl
 have hlen:=Cr h.qX hs ha
 have hT:=C6 (Ai e []) (z8 h).1.ok (by rw[hx];omega)
 rw[dw,hx]at hT
 refine ah ma ?_
 simp only[↓zq,zs,ac,zt]
 refine⟨fun h=>by omega,fun _=>?_⟩
 refine ah hA ?_
 simp only[↓zq,zs,ac,zt,aR]
 refine ah hT ?_
 simp only[↓zq,zs,ac,zt]
 refine ah (P1 _) ?_
 simp only[↓zq,zs,ac,zt]
 unfold told
 refine⟨fun hn=>?_,fun hy=>?_⟩
 ·rw[if_neg (by rw[hn];simp)];exact⟨rfl,rfl⟩
 ·rw[if_pos ⟨ha,hy⟩];exact⟨rfl,rfl⟩
abbrev lT:Nm:=[35,49]
noncomputable def cK (s:Nm):Option Nm:=match qg s with
 |some (.rc a)=>(oN a lT).bind told
 |_=>none
theorem o0{s:Nm}{t:Ty}(h:qg s=some t):∃e,vF s=some e/\Wf e/\cO e []=t/\e.dB<=400/\e.ok:=by
 rw[tV]at h
 cases he:vF s with
 |none=>rw[he]at h;cases h
 |
  some e =>
  rw[he]at h
  obtain⟨h1,h2,h3⟩:=pn he
  obtain⟨hok,_⟩:=ny h1
  obtain⟨w1,w2⟩:=lr e [] t hok (fun w hw=>by cases hw) h
  exact⟨e,rfl,w1,w2,h3,hok⟩
theorem qu{e:E}{x:Nm}{a d:Ty}(hw:Wf e)(ht:cO e []=.rc a)(hx:rJ x)(hd:oN a x=some d):fU d/\(uj (.rc a)->uj d):=by
 simp only[oN,bn,cT,eW]at hd
 obtain⟨d',h1,_,rfl⟩:=hd
 have g:fU (.rc a):=ht ▸ hw.qX
 have go:fU (dM (.name x) a 0):=⟨iG x a g.1,fun y hy=>by
  rcases gx a 0 hy with rfl|h
  ·exact hx
  ·exact g.2 y h⟩
 refine⟨g.sub (go.dv h1),fun hs y hy=>?_⟩
 rcases iW _ hy with h|⟨h,h'⟩
 ·exact hs y h
 ·rcases gx a 0 (h1.names y h')with e|e
  ·exact absurd e h
  ·exact hs y e
def K6(y:Nm):Prop:=gJ y=true\/dc y=true
theorem iN:∀(e:E) (ar:List Nm) (t:Ty),cP e ar=some t->∀y,bg y t=true->K6 y
 |
  .atom s,ar,t,ht,y,hy=>by
  simp only[cP]at ht
  split at ht
  ·cases ht;cases hy
  ·split at ht
   ·cases ht;cases hy
   ·split at ht
    ·rename_i hp
     cases ht
     simp only[bg,decide_eq_true_eq]at hy
     subst hy;exact .inl hp
    ·split at ht
     ·rename_i hq
      split at ht
      ·cases ht;cases hy
      ·cases ht
       simp only[bg,decide_eq_true_eq]at hy
       subst hy;exact .inr hq
     ·cases ht
 |
  .list [x,a,b],ar,t,ht,y,hy=>by
  by_cases h0:x.at=[43]
  ·obtain⟨t1,t2,h1,h2,rfl⟩:=fF h0 ht
   simp only[bg,bp]at hy
   rcases hy with hy|hy
   ·exact iN a ar t1 h1 y hy
   ·exact iN b ar t2 h2 y hy
  ·by_cases h1:x.at=[42]
   ·obtain⟨t1,t2,h2,h3,rfl⟩:=eU h1 ht
    simp only[bg,bp]at hy
    rcases hy with hy|hy
    ·exact iN a ar t1 h2 y hy
    ·exact iN b ar t2 h3 y hy
   ·by_cases h2:x.at=[114,101,99]
    ·obtain⟨t1,hla,h3,rfl⟩:=dA h2 ht
     exact iN b _ t1 h3 y hy
    ·rw[iP _ h0 h1 h2]at ht;cases ht
 | .list [],ar,t,ht,_,_=>by cases ht
 | .list [_],ar,t,ht,_,_=>by cases ht
 | .list [_,_],ar,t,ht,_,_=>by cases ht
 | .list (_::_::_::_::_),ar,t,ht,_,_=>by cases ht
theorem wj{y:Nm}(h:K6 y):y.length<=3/\∀r,y≠35::r:=by
 have key:∀lo hi,116<=lo->named lo hi y=true->y.length<=3/\∀r,y≠35::r:=fun lo hi hlo h=>by
  cases y with
  |nil=>cases h
  |
   cons c r =>
   simp only[named,ap,decide_eq_true_eq]at h
   refine⟨by simp;omega,fun r' e=>?_⟩
   have:c=35:=by injection e
   subst this
   have:=h.1.2.1
   have e35:(35:UInt8).toNat=35:=rfl
   omega
 rcases h with h|h
 ·exact key 120 122 (by omega) h
 ·exact key 116 116 (by omega) h
theorem mC{s:Nm}{t:Ty}(h:qg s=some t):∀y,bg y t=true->K6 y:=by
 rw[tV]at h
 cases he:vF s with
 |none=>rw[he]at h;cases h
 |some e=>rw[he]at h;exact iN e [] t h
theorem wH{s:Nm}{a:Ty}(h:qg s=some (.rc a)):bg lT a=false:=by
 cases q:bg lT a with
 |false=>rfl
 |true=>exact absurd rfl ((wj (mC h lT q)).2 [49])
theorem Bj{s:Nm}{t:Ty}(h:qg s=some t):uj t:=fun y hy=>by have:=(wj (mC h y hy)).1;omega
theorem Rj{m:Nm}{B:E}(hm:rJ m)(hB:Wf B)(hl:(E.list [.atom dY,.atom m,B]).dB<=400):an Tryz.prog 133 [.agg [.v (.string (mk [])),(E.list [.atom dY,.atom m,B]).sp]] [] (kR (oN (cO B [m]) m)):=by
 have hw:Wf (.list [.atom dY,.atom m,B]):=.rc hm hB
 have hT:cO (.list [.atom dY,.atom m,B]) []=.rc (cO B [m]):=eV _ _ _
 have hP:=P3.of (.atom dY) (.atom m) B
 have hbo:cO B []=dM (.name m) (cO B [m]) 0:=by
  have:=yi m hB []
  rw[cA]at this;exact this
 have hba:B.dB+2=(E.list [.atom dY,.atom m,B]).dB:=by simp only[E.dB,E.fJ];omega
 have i1:=yO 400 B m hB (by omega) (by omega) hm
 have n1:=j1 (s:=m) hB
 rw[hbo]at i1 n1
 refine Qi _ _ ((aY _).mpr trivial) ?_
 simp only[Ja,bS,toNat_one,bi,↓zq,zs,ac,zt,hP.1,hP.2.1,hP.2.2.1,hP.2.2.2,aR,er]
 repeat refine⟨by omega,?_⟩
 refine bU i1 (kR.ne n1) ?_
 rintro r o ⟨rfl,c1,d1,hd1,rfl,hc1⟩
 simp only[↓zq,zs,ac,zt,gr hd1,oN]
 cases q1:kU (dM (.name m) (cO B [m]) 0) m with
 |
  none =>
  simp only[bB,bL]
  exact⟨fun _=>kR.no _ _ ((aY _).mpr trivial),fun h=>(by cases h)⟩
 |
  some d =>
  simp only[bf,a8]
  refine⟨fun h=>(by cases h),fun _=>?_⟩
  obtain⟨ed,wd,td,rfl,rfl⟩:=hc1 d q1
  have p1:=FN hm wd hw (wd.iH td (cT.1 q1).small) hl
  have g1:=rr (hw.qX.sub (x:=m) wd.qX)
  rw[hT,td]at p1 g1
  simp only[bS]at p1
  repeat refine⟨by omega,?_⟩
  refine bU p1 (kR.ne g1) ?_
  rintro r o ⟨rfl,c2,d2,hd2,rfl,hc2⟩
  simp only[↓zq,zs,ac,zt,gr hd2]
  exact⟨rfl,c2,d2,hd2,rfl,hc2⟩
theorem Kl(s:Nm):an Tryz.prog 96 [.v (.string (mk s))] [] (bA (s5 (cK s))):=by
 refine P0 _ ?_
 unfold Ji
 refine bU (Ha s) (jO.ne _ _ (fun h=>h)) ?_
 rintro r o ⟨c,d,hd,rfl,hh⟩
 have hhas:bC [.str,.sl] [.v (.string (mk c)),d] 0:=by simp[bC,ej,hd]
 simp only[↓zq,zs,ac,zt]
 refine⟨hhas,fun h=>?_,fun h=>?_⟩
 ·rw[tt]at h
  have:qg s=none:=by cases hq:qg s<;>simp[hq]at h |-
  unfold cK;rw[this];exact⟨rfl,rfl⟩
 ·rw[tt]at h
  obtain⟨t,ht⟩:=cm.1 h
  obtain⟨e,he,hw,hte,hats,hok⟩:=o0 ht
  obtain⟨e',he',hce⟩:=hh (by rw[he];rfl)
  rw[he]at he';cases he'
  have notRec:(∀a,t≠.rc a)->cK s=none:=fun hn=>by
   unfold cK;rw[ht]
   cases t<;>first|rfl|exact absurd rfl (hn _)
  rw[hce,dw]
  cases hw with
  |
   @atom c hc =>
   have hn:cK s=none:=notRec fun a q=>by
    rw[<-hte]at q
    simp only[cO]at q
    split at q
    ·cases q
    ·split at q
     ·cases q
     ·split at q<;>cases q
   rw[hn]
   refine ah (Cv c _ ((aY _).mpr trivial) hc) ?_
   simp only[↓zq,zs,ac,zt]
   exact⟨fun _=>⟨rfl,rfl⟩,fun h=>by simp at h⟩
  |
   @plus x y hx hy =>
   have hn:cK s=none:=notRec fun a q=>by rw[<-hte,dL]at q;cases q
   rw[hn]
   simp only[bS]
   refine ah (p9 [43] x y) ?_
   simp only[↓zq,zs,ac,zt]
   exact⟨fun _=>⟨rfl,rfl⟩,fun h=>by simp at h⟩
  |
   @times x y hx hy =>
   have hn:cK s=none:=notRec fun a q=>by rw[<-hte,dk]at q;cases q
   rw[hn]
   simp only[bS]
   refine ah (p9 [42] x y) ?_
   simp only[↓zq,zs,ac,zt]
   exact⟨fun _=>⟨rfl,rfl⟩,fun h=>by simp at h⟩
  |
   @rc m B hm hB =>
   have hrt:cO (.list [.atom dY,.atom m,B]) []=.rc (cO B [m]):=eV _ _ _
   rw[hrt]at hte
   have hq:cK s=(oN (cO B [m]) m).bind told:=by
    unfold cK;rw[ht,<-hte]
    show (oN (cO B [m]) lT).bind told=_
    rw[FG (wH (by rw[ht,<-hte])) (by
     cases q:bg m (cO B [m])with
     |false=>rfl
     |true=>exact absurd (by simp) (mT hB [m] m q).2)]
   rw[hq]
   simp only[bS]
   refine ah (p9 dY (.atom m) B) ?_
   simp only[↓zq,zs,ac,zt]
   refine⟨fun h=>by simp at h,fun _=>?_⟩
   have hgood:∀d,oN (cO B [m]) m=some d->fU d/\(uj (.rc (cO B [m]))->uj d):=fun d hd=>qu (Wf.rc hm hB) hrt hm hd
   refine bU (Rj hm hB hats) (kR.ne fun t h=>(hgood t h).1) ?_
   rintro r o ⟨rfl,c1,d1,hd1,rfl,hc1⟩
   simp only[↓zq,zs,ac,zt,gr hd1]
   cases q1:oN (cO B [m]) m with
   |
    none =>
    simp only[bB,bL]
    exact⟨fun _=>⟨rfl,rfl⟩,fun h=>(by cases h)⟩
   |
    some d =>
    simp only[bf,a8]
    refine⟨fun h=>(by cases h),fun _=>?_⟩
    obtain⟨ed,wd,td,rfl,rfl⟩:=hc1 d q1
    have hl:d.az<=400:=by
     simp only[oN,bn,eW]at q1
     obtain⟨_,_,h1,h2⟩:=q1
     rw[<-h2];exact h1
    have hcn:=Qg wd (wd.iH td hl) (by rw[td];exact(hgood d q1).2 (hte ▸ Bj ht))
    rw[td]at hcn
    refine ah hcn ?_
    cases told d<;>simp only[s5,↓zq,zs,ac,zt]<;>exact⟨rfl,rfl⟩
end Go.Proofs.Trees
namespace Go.Proofs.Trees
open Go Go.VL Go.RowKit
def vT(n:Nat):Vl->Ty->Bool
 | .u,.one=>true
 | .el k,.name _=>decide (k<n)
 | .l w,.plus a _=>vT n w a
 | .r w,.plus _ b=>vT n w b
 | .p x y,.times a b=>vT n x a&&vT n y b
 | .f w,.rc a=>vT n w (dM (.rc a) a 0)
 |_,_=>false
def lU(us:List Ty):Ty->Nat->Ty
 | .bO k,i=>if k<i then .bO k else us.getD (k-i) .zero
 | .plus a b,i=>.plus (lU us a i) (lU us b i)
 | .times a b,i=>.times (lU us a i) (lU us b i)
 | .rc a,i=>.rc (lU us a (i+1))
 |t,_=>t
def xl:List Fr->List Ty
 |[]=>[]
 |f::r=>lU (xl r) (xH f.ex r) 0::xl r
theorem lM(u:Ty):∀(t:Ty) {i:Nat},jX t i->dM u t i=t
 | .bO k,i,h=>by simp only[dM];rw[if_neg (by have:k<i:=h;omega)]
 | .plus a b,i,h=>by simp only[dM];rw[lM u a h.1,lM u b h.2]
 | .times a b,i,h=>by simp only[dM];rw[lM u a h.1,lM u b h.2]
 | .rc a,i,h=>by simp only[dM];rw[lM u a (i:=i+1) h]
 | .zero,_,_=>rfl
 | .one,_,_=>rfl
 | .name _,_,_=>rfl
theorem pj(us:List Ty):∀(t:Ty) {i:Nat},jX t i->lU us t i=t
 | .bO k,i,h=>by simp only[lU];rw[if_pos (by have:k<i:=h;omega)]
 | .plus a b,i,h=>by simp only[lU];rw[pj us a h.1,pj us b h.2]
 | .times a b,i,h=>by simp only[lU];rw[pj us a h.1,pj us b h.2]
 | .rc a,i,h=>by simp only[lU];rw[pj us a (i:=i+1) h]
 | .zero,_,_=>rfl
 | .one,_,_=>rfl
 | .name _,_,_=>rfl
theorem xT{us:List Ty}(hu:∀u,u∈us->jX u 0)(k:Nat):jX (us.getD k .zero) 0:=by
 by_cases h:k<us.length
 ·rw[aa,be h];exact hu _ (bD h)
 ·rw[aa,List.getElem?_eq_none (by omega)];trivial
theorem oX{us:List Ty}(hu:∀u,u∈us->jX u 0):∀(t:Ty) (i:Nat),jX (lU us t i) i
 |
  .bO k,i=>by
  simp only[lU]
  split
  ·rename_i h;exact h
  ·exact gv _ (xT hu _) (Nat.zero_le _)
 | .plus a b,i=>⟨oX hu a i,oX hu b i⟩
 | .times a b,i=>⟨oX hu a i,oX hu b i⟩
 | .rc a,i=>oX hu a (i+1)
 | .zero,_=>trivial
 | .one,_=>trivial
 | .name _,_=>trivial
theorem mO{us:List Ty}(hu:∀u,u∈us->jX u 0)(U:Ty):∀(t:Ty) (i:Nat),dM U (lU us t (i+1)) i=lU (U::us) t i
 |
  .bO k,i=>by
  simp only[lU]
  by_cases h1:k<i
  ·rw[if_pos (by omega),if_pos h1];simp only[dM];rw[if_neg (by omega)]
  ·rw[if_neg h1]
   by_cases h2:k=i
   ·subst h2;rw[if_pos (by omega)];simp[dM]
   ·rw[if_neg (by omega),lM U _ (gv _ (xT hu _) (Nat.zero_le _)),show k-i=(k-(i+1))+1 by omega,List.getD_cons_succ]
 | .plus a b,i=>by simp only[lU,dM];rw[mO hu U a i,mO hu U b i]
 | .times a b,i=>by simp only[lU,dM];rw[mO hu U a i,mO hu U b i]
 | .rc a,i=>by simp only[lU,dM];rw[mO hu U a (i+1)]
 | .zero,_=>rfl
 | .one,_=>rfl
 | .name _,_=>rfl
theorem wB:∀env:List Fr,∀u,u∈xl env->jX u 0
 |[],u,h=>by cases h
 |
  f::r,u,h=>by
  rcases aF.1 h with rfl|h
  ·exact oX (wB r) _ 0
  ·exact wB r u h
theorem CP{env:List Fr}(h:WF env):∀{u:Nat} {g:Fr},env[u]?=some g->(xl env).getD u .zero=lU (xl g.out) (xH g.ex g.out) 0:=by
 induction h with
 |nil=>intro u g hg;simp at hg
 |
  cons hs hok hx ht hf hr ih =>
  intro u g hg
  cases u with
  |zero=>simp at hg;subst hg;rfl
  |
   succ u =>
   have:=ih (u:=u) (g:=g) (by simpa using hg)
   simpa[xl]using this
theorem pf(n:Nat):∀(m:Nat) (v:Vl),v.nodes<=m->∀(e:E) (env:List Fr) (t:Ty),Ask e env t->eQ n v (e,env)=vT n v (lU (xl env) t 0)
 |0,v,hm=>by have:=dE v;omega
 |
  m+1,v,hm=>by
  intro e env t A
  have recCase:∀(x a b:E) (env:List Fr) (t1:Ty),Ask (.list [x,a,b]) env (.rc t1)->x.at=[114,101,99]->eQ n v (.list [x,a,b],env)=vT n v (lU (xl env) (.rc t1) 0):=by
   intro x a b env t1 A hx
   have hhd:hd (.list [x,a,b]) env=(.list [x,a,b],env):=oV A.wf
   obtain⟨t1',he1,h1,f1,hw1⟩:=jd A.wf A.ok hx A.ty A.cl
   cases he1
   obtain⟨ok1,ok2,ok3,_⟩:=A.ok
   have A':Ask b (.mk a.at (.list [x,a,b]) env::env) t1:=⟨ok3,hw1,h1,f1⟩
   cases v with
   |
    f w =>
    simp only[Vl.nodes]at hm
    simp only[eQ,hhd,hx,beq_self_eq_true,bQ]
    rw[pf n m w (by omega) b _ t1 A']
    have hty:xH (.list [x,a,b]) env=.rc t1:=by unfold xH;rw[A.ty];rfl
    show vT n w (lU (lU (xl env) (xH (.list [x,a,b]) env) 0::xl env) t1 0)=vT n w (dM (.rc (lU (xl env) t1 1)) (lU (xl env) t1 1) 0)
    rw[hty,mO (wB env)]
    rfl
   |_=>simp[eQ,hhd,hx,lU,vT]
  rcases gl A.wf A.ty with⟨hb,hq⟩|⟨u,g,rfl,hq,hu⟩
  ·have hhd:hd e env=(e,env):=j6 hq
   rcases fD A.ty hb A.cl with⟨rfl,rfl⟩|⟨rfl,rfl⟩|⟨s,rfl,rfl,hp,h0,h1⟩|⟨x,a,b,t1,t2,rfl,hx,rfl,ha,hbb⟩|⟨x,a,b,t1,t2,rfl,hx,rfl,ha,hbb⟩|⟨x,a,b,t1,rfl,hx,rfl⟩
   ·have hp0:gJ [48]=false:=rfl
    cases v<;>simp[eQ,hhd,lU,vT,hp0]
   ·cases v<;>simp[eQ,hhd,lU,vT]
   ·cases v<;>simp[eQ,hhd,lU,vT,hp,h1]
   ·obtain⟨ok1,ok2,ok3,_⟩:=A.ok
    obtain⟨f1,f2⟩:=fm A.cl
    cases v with
    |
     l w =>
     simp only[Vl.nodes]at hm
     simp only[eQ,hhd,hx,beq_self_eq_true,bQ,lU,vT]
     exact pf n m w (by omega) a env t1 ⟨ok2,A.wf,ha,f1⟩
    |
     r w =>
     simp only[Vl.nodes]at hm
     simp only[eQ,hhd,hx,beq_self_eq_true,bQ,lU,vT]
     exact pf n m w (by omega) b env t2 ⟨ok3,A.wf,hbb,f2⟩
    |_=>simp[eQ,hhd,hx,lU,vT]
   ·obtain⟨ok1,ok2,ok3,_⟩:=A.ok
    obtain⟨f1,f2⟩:=eM A.cl
    cases v with
    |
     p w w' =>
     simp only[Vl.nodes]at hm
     simp only[eQ,hhd,hx,beq_self_eq_true,bQ,lU,vT]
     rw[pf n m w (by omega) a env t1 ⟨ok2,A.wf,ha,f1⟩,pf n m w' (by omega) b env t2 ⟨ok3,A.wf,hbb,f2⟩]
    |_=>simp[eQ,hhd,hx,lU,vT]
   ·exact recCase x a b env t1 A hx
  ·obtain⟨x,a,b,t',hfe,hok,hx,ht',hf',hwf,hlt⟩:=oe A.wf hq
   have hrec:hd g.ex g.out=(g.ex,g.out):=by rw[hfe];exact oV hwf
   rw[s6 n v (p7 hq) hrec]
   have hcl:lU (xl env) (.bO u) 0=lU (xl g.out) (xH g.ex g.out) 0:=by
    simp only[lU];rw[if_neg (by omega),Nat.sub_zero];exact CP A.wf hu
   rw[hcl]
   have hty:xH g.ex g.out=t':=by unfold xH;rw[ht'];rfl
   rw[hty,hfe]
   rw[hfe]at ht'
   obtain⟨t1,_,_,rfl⟩:=dA hx ht'
   exact recCase x a b g.out t1 ⟨hok,hwf,ht',hf'⟩ hx
theorem ov{n:Nat}{v:Vl}{e:E}{t:Ty}(A:Ask e [] t):eQ n v (e,[])=vT n v t:=by
 have:=pf n v.nodes v (aq _) e [] t A
 rw[this]
 obtain⟨w,ht⟩:=lr e [] t A.ok (fun w hw=>by cases hw) A.ty
 have hl:=sX w []
 rw[ht]at hl
 exact congrArg (vT n v) (pj _ t hl)
def eZ(σ:Nm->Option Ty):Ty->Ty
 | .name s=>(σ s).getD (.name s)
 | .plus a b=>.plus (eZ σ a) (eZ σ b)
 | .times a b=>.times (eZ σ a) (eZ σ b)
 | .rc a=>.rc (eZ σ a)
 |t=>t
def iY(σ:Nm->Option Ty)(x:Nm)(u:Ty):Nm->Option Ty:=fun s=>if s=x then some u else σ s
theorem iX(σ:Nm->Option Ty)(x:Nm)(u:Ty):∀t:Ty,eZ σ (sub x u t)=eZ (iY σ x (eZ σ u)) t
 |
  .name s=>by
  by_cases h:s=x
  ·simp[sub,eZ,iY,h]
  ·simp[sub,eZ,iY,h]
 | .plus a b=>by simp only[sub,eZ,iX σ x u a,iX σ x u b]
 | .times a b=>by simp only[sub,eZ,iX σ x u a,iX σ x u b]
 | .rc a=>by simp only[sub,eZ,iX σ x u a]
 | .zero=>rfl
 | .one=>rfl
 | .bO k=>rfl
def CA(σ:Nm->Option Ty):Prop:=∀s u,σ s=some u->jX u 0
theorem kw{σ:Nm->Option Ty}(hσ:CA σ):∀(t:Ty) {i:Nat},jX t i->jX (eZ σ t) i
 |
  .name s,i,_=>by
  simp only[eZ]
  cases q:σ s with
  |none=>trivial
  |some u=>exact gv u (hσ s u q) (Nat.zero_le _)
 | .plus a b,i,h=>⟨kw hσ a h.1,kw hσ b h.2⟩
 | .times a b,i,h=>⟨kw hσ a h.1,kw hσ b h.2⟩
 | .rc a,i,h=>kw hσ a (i:=i+1) h
 | .zero,_,_=>trivial
 | .one,_,_=>trivial
 | .bO k,_,h=>h
theorem jp{σ:Nm->Option Ty}(hσ:CA σ)(x:Nm)(U:Ty):∀(t:Ty) (i:Nat),bg x t=false->eZ (iY σ x U) (dM (.name x) t i)=dM U (eZ σ t) i
 |
  .name s,i,h=>by
  have hs:s≠x:=by simpa[bg]using h
  simp only[dM,eZ,iY,if_neg hs]
  cases q:σ s with
  |none=>rfl
  |some u=>exact(lM U u (gv u (hσ s u q) (Nat.zero_le _))).symm
 |
  .bO k,i,h=>by
  simp only[dM,eZ]
  split
  ·simp[eZ,iY]
  ·rfl
 |
  .plus a b,i,h=>by
  simp only[bg,cw]at h
  simp only[dM,eZ,jp hσ x U a i h.1,jp hσ x U b i h.2]
 |
  .times a b,i,h=>by
  simp only[bg,cw]at h
  simp only[dM,eZ,jp hσ x U a i h.1,jp hσ x U b i h.2]
 | .rc a,i,h=>by simp only[dM,eZ,jp hσ x U a (i+1) h]
 | .zero,_,_=>rfl
 | .one,_,_=>rfl
theorem nK{σ:Nm->Option Ty}(hσ:CA σ)(x:Nm){u:Ty}(hu:jX u 0):CA (iY σ x u):=fun s v h=>by
 unfold iY at h
 split at h
 ·cases h;exact hu
 ·exact hσ s v h
theorem iU(x:Nm):∀(n:Nat) (c:Vl) (t:Ty) (i:Nat),c.nodes<=n->dN (dM (.name x) t i) c=dN t c
 |0,c,_,_,h=>by have:=dE c;omega
 |
  n+1,c,t,i,hn=>by
  cases t with
  |bO k=>simp only[dM];split<;>(cases c<;>rfl)
  |
   plus a b =>
   cases c with
   |l c=>simp only[Vl.nodes]at hn;exact iU x n c a i (by omega)
   |r c=>simp only[Vl.nodes]at hn;exact iU x n c b i (by omega)
   |_=>rfl
  |
   times a b =>
   cases c with
   |
    l c =>
    cases c with
    |p y z=>simp only[Vl.nodes]at hn;exact iU x n y a i (by omega)
    |_=>rfl
   |
    r c =>
    cases c with
    |p y z=>simp only[Vl.nodes]at hn;exact iU x n z b i (by omega)
    |_=>rfl
   |_=>rfl
  |
   rc a =>
   cases c with
   |
    f c =>
    cases c with
    |l y=>simp only[Vl.nodes]at hn;exact iU x n y a (i+1) (by omega)
    |
     r c =>
     cases c with
     |
      p y z =>
      simp only[Vl.nodes]at hn
      have h1:=iU x n y a (i+1) (by omega)
      have h2:=iU x n z (.rc a) i (by omega)
      show (dN (dM (.name x) a (i+1)) y&&dN (.rc (dM (.name x) a (i+1))) z)=(dN a y&&dN (.rc a) z)
      rw[h1]
      exact congrArg _ h2
     |_=>rfl
    |_=>rfl
   |_=>rfl
  |_=>rfl
end Go.Proofs.Trees
namespace Go.Proofs.Trees
open Go Go.VL Go.RowKit
theorem e9(x:Nm):∀(n:Nat) (c:Vl) (t:Ty) (i:Nat) (v:Vl),c.nodes<=n->dC (dM (.name x) t i) c v=dC t c v
 |0,c,_,_,_,h=>by have:=dE c;omega
 |
  n+1,c,t,i,v,hn=>by
  cases t with
  |bO k=>simp only[dM];split<;>(cases c<;>rfl)
  |
   plus a b =>
   cases c with
   |l c=>simp only[Vl.nodes]at hn;exact congrArg Vl.l (e9 x n c a i v (by omega))
   |r c=>simp only[Vl.nodes]at hn;exact congrArg Vl.r (e9 x n c b i v (by omega))
   |_=>rfl
  |
   times a b =>
   cases c with
   |
    l c =>
    cases c with
    |p y z=>simp only[Vl.nodes]at hn;exact congrArg (fun q=>Vl.p q z) (e9 x n y a i v (by omega))
    |_=>rfl
   |
    r c =>
    cases c with
    |p y z=>simp only[Vl.nodes]at hn;exact congrArg (Vl.p y) (e9 x n z b i v (by omega))
    |_=>rfl
   |_=>rfl
  |
   rc a =>
   cases c with
   |
    f c =>
    cases c with
    |l y=>simp only[Vl.nodes]at hn;exact congrArg Vl.f (e9 x n y a (i+1) v (by omega))
    |
     r c =>
     cases c with
     |
      p y z =>
      simp only[Vl.nodes]at hn
      have h2:=e9 x n z (.rc a) i v (by omega)
      have h1:=e9 x n y a (i+1) (dC (.rc a) z v) (by omega)
      show Vl.f (dC (dM (.name x) a (i+1)) y (dC (.rc (dM (.name x) a (i+1))) z v))=Vl.f (dC a y (dC (.rc a) z v))
      have h3:dC (.rc (dM (.name x) a (i+1))) z v=dC (.rc a) z v:=h2
      rw[h3,h1]
     |_=>rfl
    |_=>rfl
   |_=>rfl
  |_=>rfl
theorem C2{n:Nat}{c:Vl}{a:Ty}(h:vT n c (.rc a)=true):∃w,c=.f w/\vT n w (dM (.rc a) a 0)=true:=by
 cases c with
 |f w=>exact⟨w,rfl,h⟩
 |_=>simp[vT]at h
theorem lB{n:Nat}{c:Vl}{a b:Ty}(h:vT n c (.plus a b)=true):(∃w,c=.l w/\vT n w a=true)\/∃w,c=.r w/\vT n w b=true:=by
 cases c with
 |l w=>exact .inl ⟨w,rfl,h⟩
 |r w=>exact .inr ⟨w,rfl,h⟩
 |_=>simp[vT]at h
theorem jL{n:Nat}{c:Vl}{a b:Ty}(h:vT n c (.times a b)=true):∃x y,c=.p x y/\vT n x a=true/\vT n y b=true:=by
 cases c with
 |p x y=>simp only[vT,ap]at h;exact⟨x,y,rfl,h.1,h.2⟩
 |_=>simp[vT]at h
theorem qy{σ:Nm->Option Ty}(hσ:CA σ){a c d:Ty}{x:Nm}(ha:jX (.rc a) 0)(hc:jX c 0)(hd:jX d 0):∃X,eZ σ (px a x c d)=.rc X/\dM (.rc X) X 0=.plus (eZ (iY σ x (eZ σ (.rc a))) c) (.times (eZ (iY σ x (eZ σ (.rc a))) d) (eZ σ (px a x c d))):=by
 refine⟨.plus (eZ σ (sub x (.rc a) c)) (.times (eZ σ (sub x (.rc a) d)) (.bO 0)),rfl,?_⟩
 have h1:=kw hσ (sub x (.rc a) c) (kq ha c hc)
 have h2:=kw hσ (sub x (.rc a) d) (kq ha d hd)
 simp only[dM,lM _ _ h1,lM _ _ h2,if_true]
 rw[iX,iX]
 simp only[px,eZ,iX]
theorem uA(n:Nat):∀(m:Nat) (c:Vl),c.nodes<=m->∀(t:Ty) (s:Nm) (d:Ty) (σ:Nm->Option Ty),Dv t s d->CA σ->jX t 0->vT n c (eZ σ d)=true->dN t c=true
 |0,c,h=>by have:=dE c;omega
 |
  m+1,c,hm=>by
  intro t s d σ hd hσ hl hv
  cases hd with
  |zero=>cases c<;>rfl
  |one=>cases c<;>rfl
  |bO=>cases c<;>rfl
  |hit=>cases c<;>rfl
  |qL=>cases c<;>rfl
  |
   plus h1 h2 _ =>
   rcases lB hv with⟨w,rfl,hw⟩|⟨w,rfl,hw⟩
   ·simp only[Vl.nodes]at hm;exact uA n m w (by omega) _ s _ σ h1 hσ hl.1 hw
   ·simp only[Vl.nodes]at hm;exact uA n m w (by omega) _ s _ σ h2 hσ hl.2 hw
  |
   times h1 h2 _ =>
   rcases lB hv with⟨w,rfl,hw⟩|⟨w,rfl,hw⟩
   ·obtain⟨x,y,rfl,hx,hy⟩:=jL hw
    simp only[Vl.nodes]at hm;exact uA n m x (by omega) _ s _ σ h1 hσ hl.1 hx
   ·obtain⟨x,y,rfl,hx,hy⟩:=jL hw
    simp only[Vl.nodes]at hm;exact uA n m y (by omega) _ s _ σ h2 hσ hl.2 hy
  |
   @rc a _ c0 d0 x hx hs h1 h2 hsz =>
   have lo:jX (dM (.name x) a 0) 0:=iG x a hl
   obtain⟨X,e1,e2⟩:=qy (x:=x) hσ hl (h1.lc lo) (h2.lc lo)
   have hv':=hv
   rw[e1]at hv'
   obtain⟨w,rfl,hw⟩:=C2 hv'
   rw[e2]at hw
   have hcl:=nK hσ x (kw hσ (.rc a) hl)
   rcases lB hw with⟨y,rfl,hy⟩|⟨y,rfl,hy⟩
   ·simp only[Vl.nodes]at hm
    have:=uA n m y (by omega) _ s _ _ h1 hcl lo hy
    rw[iU x y.nodes y a 0 (aq _)]at this
    exact this
   ·obtain⟨y,z,rfl,hy,hz⟩:=jL hy
    simp only[Vl.nodes]at hm
    have q1:=uA n m y (by omega) _ x _ _ h2 hcl lo hy
    rw[iU x y.nodes y a 0 (aq _)]at q1
    have q2:=uA n m z (by omega) (.rc a) s _ σ (.rc x hx hs h1 h2 hsz) hσ hl hz
    show (dN a y&&dN (.rc a) z)=true
    rw[q1,q2];rfl
theorem pD(n:Nat):∀(m:Nat) (c:Vl),c.nodes<=m->∀(t:Ty) (s:Nm) (d:Ty) (σ:Nm->Option Ty),Dv t s d->CA σ->jX t 0->vT n c (eZ σ d)=true->∀v,vT n v (eZ σ (.name s))=true->vT n (dC t c v) (eZ σ t)=true
 |0,c,h=>by have:=dE c;omega
 |
  m+1,c,hm=>by
  intro t s d σ hd hσ hl hv v hvv
  have no:∀c,vT n c .zero=false:=fun c=>by cases c<;>rfl
  cases hd with
  |zero=>rw[show eZ σ .zero=.zero from rfl,no]at hv;cases hv
  |one=>rw[show eZ σ .zero=.zero from rfl,no]at hv;cases hv
  |bO=>rw[show eZ σ .zero=.zero from rfl,no]at hv;cases hv
  |qL=>rw[show eZ σ .zero=.zero from rfl,no]at hv;cases hv
  |hit=>rw[mQ];exact hvv
  |
   plus h1 h2 _ =>
   rcases lB hv with⟨w,rfl,hw⟩|⟨w,rfl,hw⟩
   ·simp only[Vl.nodes]at hm;exact pD n m w (by omega) _ s _ σ h1 hσ hl.1 hw v hvv
   ·simp only[Vl.nodes]at hm;exact pD n m w (by omega) _ s _ σ h2 hσ hl.2 hw v hvv
  |
   times h1 h2 _ =>
   rcases lB hv with⟨w,rfl,hw⟩|⟨w,rfl,hw⟩
   ·obtain⟨x,y,rfl,hx,hy⟩:=jL hw
    simp only[Vl.nodes]at hm
    have:=pD n m x (by omega) _ s _ σ h1 hσ hl.1 hx v hvv
    show (vT n _ _&&vT n _ _)=true
    rw[this,hy];rfl
   ·obtain⟨x,y,rfl,hx,hy⟩:=jL hw
    simp only[Vl.nodes]at hm
    have:=pD n m y (by omega) _ s _ σ h2 hσ hl.2 hy v hvv
    show (vT n _ _&&vT n _ _)=true
    rw[this,hx];rfl
  |
   @rc a _ c0 d0 x hx hs h1 h2 hsz =>
   have lo:jX (dM (.name x) a 0) 0:=iG x a hl
   obtain⟨X,e1,e2⟩:=qy (x:=x) hσ hl (h1.lc lo) (h2.lc lo)
   have hv':=hv
   rw[e1]at hv'
   obtain⟨w,rfl,hw⟩:=C2 hv'
   rw[e2]at hw
   have hcl:=nK hσ x (kw hσ (.rc a) hl)
   have hop:eZ (iY σ x (eZ σ (.rc a))) (dM (.name x) a 0)=dM (eZ σ (.rc a)) (eZ σ a) 0:=jp hσ x _ a 0 hx
   have hns:eZ (iY σ x (eZ σ (.rc a))) (.name s)=eZ σ (.name s):=by simp only[eZ,iY,if_neg (Ne.symm hs)]
   have hnx:eZ (iY σ x (eZ σ (.rc a))) (.name x)=eZ σ (.rc a):=by simp[eZ,iY]
   rcases lB hw with⟨y,rfl,hy⟩|⟨y,rfl,hy⟩
   ·simp only[Vl.nodes]at hm
    have:=pD n m y (by omega) _ s _ _ h1 hcl lo hy v (by rw[hns];exact hvv)
    rw[hop,e9 x y.nodes y a 0 v (aq _)]at this
    exact this
   ·obtain⟨y,z,rfl,hy,hz⟩:=jL hy
    simp only[Vl.nodes]at hm
    have q2:=pD n m z (by omega) (.rc a) s _ σ (.rc x hx hs h1 h2 hsz) hσ hl hz v hvv
    have q1:=pD n m y (by omega) _ x _ _ h2 hcl lo hy (dC (.rc a) z v) (by rw[hnx];exact q2)
    rw[hop,e9 x y.nodes y a 0 _ (aq _)]at q1
    exact q1
def Gj:Nm->Option Ty:=fun _=>none
theorem tB:CA Gj:=fun _ _ h=>by cases h
theorem jH:∀t:Ty,eZ Gj t=t
 | .name s=>rfl
 | .plus a b=>by simp only[eZ,jH a,jH b]
 | .times a b=>by simp only[eZ,jH a,jH b]
 | .rc a=>by simp only[eZ,jH a]
 | .zero=>rfl
 | .one=>rfl
 | .bO k=>rfl
theorem Ho{n:Nat}{a D:Ty}{x:Nm}(hx:bg x a=false)(hl:jX (.rc a) 0)(h:oN a x=some D){c:Vl}(hc:vT n c D=true) :
 dN a c=true/\∀v,vT n v (.rc a)=true->vT n (.f (dC a c v)) (.rc a)=true:=by
 simp only[oN,bn,cT,eW]at h
 obtain⟨d,hd,_,rfl⟩:=h
 have lo:jX (dM (.name x) a 0) 0:=iG x a hl
 have hcl:=nK tB x hl
 have e1:sub x (.rc a) d=eZ (iY Gj x (.rc a)) d:=by
  have:=iX Gj x (.rc a) d
  rw[jH,jH]at this;exact this
 rw[e1]at hc
 have h1:=uA n c.nodes c (aq _) _ x _ _ hd hcl lo hc
 rw[iU x c.nodes c a 0 (aq _)]at h1
 refine⟨h1,fun v hv=>?_⟩
 have h2:=pD n c.nodes c (aq _) _ x _ _ hd hcl lo hc v (by simpa[eZ,iY]using hv)
 rw[e9 x c.nodes c a 0 v (aq _),jp tB x _ a 0 hx,jH]at h2
 exact h2
end Go.Proofs.Trees
namespace Go.Proofs.Trees
open Go Go.VL Go.RowKit
theorem zc{env:List Fr}(h:WF env):∀w,w∈names env->dc w=true:=by
 induction h with
 |nil=>intro w hw;cases hw
 |
  cons hs _ _ _ _ _ ih =>
  intro w hw
  simp only[names,aI,aL]at hw
  rcases hw with hw|rfl
  ·exact ih w hw
  ·exact hs
theorem zQ{ar:List (List UInt8)}{k:Nat}(h:k<ar.length):gf ar k∈ar:=by
 unfold gf
 have:ar.length-1-k<ar.length:=by omega
 simp[aa,this]
def BG(s:List UInt8)(ar:List (List UInt8)):Prop:=gJ s=true\/(bI s ar ar.length).isSome=true
theorem vg{s:List UInt8}{ar:List (List UInt8)}{u:Nat}(hl:∀w,w∈ar->dc w=true)(h:bI s ar ar.length=some u):dc s=true:=by
 obtain⟨h1,h2⟩:=fG _ _ (aq _) h
 rw[<-h2];exact hl _ (zQ h1)
theorem HG{s0 s:List UInt8}{ar:List (List UInt8)}{t:Ty}(ht:cP (.atom s0) ar=some t)(hl:∀w,w∈ar->dc w=true)(hs:BG s ar):fK t (oM s ar)=decide (s0=s):=by
 have h48:∀b:UInt8,gJ [b]=false->dc [b]=false->s≠[b]:=fun b h1 h2 e=>by
  subst e
  rcases hs with h|h
  ·rw[h1]at h;cases h
  ·obtain⟨u,hu⟩:=cm.1 h
   rw[vg hl hu]at h2;cases h2
 simp only[cP]at ht
 split at ht
 ·rename_i e;cases ht;subst e
  have:=h48 48 rfl rfl
  rw[decide_eq_false (fun h=>this h.symm)];cases oM s ar<;>rfl
 ·split at ht
  ·rename_i e;cases ht;subst e
   have:=h48 49 rfl rfl
   rw[decide_eq_false (fun h=>this h.symm)];cases oM s ar<;>rfl
  ·split at ht
   ·rename_i hp
    cases ht
    unfold oM
    cases e:bI s ar ar.length with
    |none=>rfl
    |
     some u =>
     have hloo:=vg hl e
     show false=_
     rw[decide_eq_false]
     rintro rfl
     rw[jZ hp]at hloo;cases hloo
   ·rename_i hnp
    split at ht
    ·split at ht
     ·rename_i u hu
      cases ht
      unfold oM
      cases e:bI s ar ar.length with
      |
       none =>
       show false=_
       rw[decide_eq_false]
       rintro rfl
       rw[hu]at e;cases e
      |
       some u' =>
       show decide (u=u')=_
       rw[cz,decide_eq_true_eq,decide_eq_true_eq]
       constructor
       ·rintro rfl
        rw[<-(fG _ _ (aq _) hu).2,<-(fG _ _ (aq _) e).2]
       ·rintro rfl
        rw[hu]at e;cases e;rfl
     ·rename_i hn
      cases ht
      unfold oM
      cases e:bI s ar ar.length with
      |none=>rfl
      |
       some u =>
       show false=_
       rw[decide_eq_false]
       rintro rfl
       rw[hn]at e;cases e
    ·cases ht
theorem Ci{b:E}{ar:List (List UInt8)}{w:List UInt8}{t:Ty}(hb:cP b (ar++[w])=some t)(hw:dc w=true)(hs:BG w ar):uq t (oM w ar).up=false:=by
 rcases hs with h|h
 ·rw[jZ h]at hw;cases hw
 ·obtain⟨u,hu⟩:=cm.1 h
  rw[oM,hu];exact FP hb hu
theorem zj{s w:List UInt8}{ar:List (List UInt8)}(h:w≠s)(hs:BG s ar):BG s (ar++[w]):=by
 rcases hs with h1|h1
 ·exact .inl h1
 ·right;rw[jw ar h];obtain⟨u,hu⟩:=cm.1 h1;rw[hu];rfl
def PT(e:E)(s:List UInt8)(t:Ty)(tg:Tg)(v:Vl):Prop:=an Tryz.prog 92 [.agg [.v (.string (mk e.at)),e.sp],.v (.string (mk s)),.agg [.v (.string (mk v.cG.at)),v.cG.sp]] [] (bA (.sl (lP (cg t tg v))))
theorem DP(n:Nat):∀(m:Nat) (v:Vl),v.nodes<=m->∀(e:E) (env:List Fr) (t:Ty),Ask e env t->eQ n v (e,env)=true->env.length+v.nodes<100000->∀(s:List UInt8),BG s (names env)->PT e s t (oM s (names env)) v
 |0,v,hm=>by have:=dE v;omega
 |
  m+1,v,hm=>by
  intro e env t A hv hl s hs
  have hloo:=zc A.wf
  unfold PT
  refine Ol _ _ _ _ _ ((aY _).mpr trivial) ((aY _).mpr trivial) ?_
  have hlen:=mI t (oM s (names env)) v
  have atomCase:∀s0,e=.atom s0->stuck t v=true->eN Tryz.prog 244 (Ey (mk e.at) e.sp (mk s) (mk v.cG.at) v.cG.sp) fun _ xs obs=>bA (.sl (lP (cg t (oM s (names env)) v))) (xs.headD .any) obs:=by
   rintro s0 rfl hst
   have hat:=HG A.ty hloo hs
   have hne:s0≠[]:=A.ok
   simp only[Ey,E.at,↓zq,zs,ac,zt]
   refine⟨fun _=>⟨fun h=>?_,fun h=>?_⟩,fun h=>absurd h hne⟩
   ·rw[decide_eq_true h]at hat
    rw[mj v hat]
    refine⟨⟨yP _ _ _ _,by omega⟩,?_⟩
    simp[bA,lP,Vl.cG,E.at,E.sp]
   ·rw[decide_eq_false h]at hat
    rw[dS hat hst]
    simp[bA,lP]
  have hvh:=zN v
  rw[dw]at hvh
  rcases gl A.wf A.ty with⟨hb,hq⟩|⟨u,g,rfl,hq,hu⟩
  ·have hhd:hd e env=(e,env):=j6 hq
   rcases fD A.ty hb A.cl with⟨rfl,rfl⟩|⟨rfl,rfl⟩|⟨s0,rfl,rfl,hp,h0,h1⟩|⟨x,a,b,t1,t2,rfl,hx,rfl,ha,hbb⟩|⟨x,a,b,t1,t2,rfl,hx,rfl,ha,hbb⟩|⟨x,a,b,t1,rfl,hx,rfl⟩
   ·exact atomCase _ rfl (by cases v<;>rfl)
   ·exact atomCase _ rfl (by cases v<;>rfl)
   ·exact atomCase _ rfl (by cases v<;>rfl)
   ·obtain⟨ok1,ok2,ok3,_⟩:=A.ok
    obtain⟨f1,f2⟩:=fm A.cl
    have hP:=P3.of x a b
    cases v with
    |
     l w =>
     simp only[eQ,hhd,hx,beq_self_eq_true,bQ]at hv
     simp only[Vl.nodes]at hm hl hlen
     rw[mS]at hlen |-
     rw[fM]at hlen
     have hW:=P2.of (.atom [108]) w.cG
     simp only[Ey,E.at,↓zq,zs,ac,zt]
     refine⟨fun h=>absurd rfl h,fun _=>ah hvh ?_⟩
     simp only[vh,Vl.cG,toNat_one,bi,↓zq,zs,ac,zt,hP.1,hP.2.1,hP.2.2.1,hP.2.2.2,hW.1,hW.2.1,hW.2.2,aR]
     refine⟨fun _=>?_,fun h=>absurd rfl h⟩
     repeat refine⟨by omega,?_⟩
     refine ah (DP n m w (by omega) a env t1 ⟨ok2,A.wf,ha,f1⟩ hv (by omega) s hs) ?_
     simp only[↓zq,zs,ac]
     refine aS (N2 [108] Vl.l (fun c=>rfl) (cg t1 (oM s (names env)) w) [] (by simp;omega)) ?_
     simp[↓zq,zs,ac,bA,aP,bF]
    |
     r w =>
     simp only[eQ,hhd,hx,beq_self_eq_true,bQ]at hv
     simp only[Vl.nodes]at hm hl hlen
     rw[mE]at hlen |-
     rw[fM]at hlen
     have hW:=P2.of (.atom [114]) w.cG
     simp only[Ey,E.at,↓zq,zs,ac,zt]
     refine⟨fun h=>absurd rfl h,fun _=>ah hvh ?_⟩
     simp only[vh,Vl.cG,toNat_one,bi,↓zq,zs,ac,zt,hP.1,hP.2.1,hP.2.2.1,hP.2.2.2,hW.1,hW.2.1,hW.2.2,aR]
     refine⟨fun h=>by simp at h,fun _=>⟨fun _=>?_,fun h=>absurd rfl h⟩⟩
     repeat refine⟨by omega,?_⟩
     refine ah (DP n m w (by omega) b env t2 ⟨ok3,A.wf,hbb,f2⟩ hv (by omega) s hs) ?_
     simp only[↓zq,zs,ac]
     refine aS (N2 [114] Vl.r (fun c=>rfl) (cg t2 (oM s (names env)) w) [] (by simp;omega)) ?_
     simp[↓zq,zs,ac,bA,aP,bF]
    |_=>simp[eQ,hhd,hx]at hv
   ·obtain⟨ok1,ok2,ok3,_⟩:=A.ok
    obtain⟨f1,f2⟩:=eM A.cl
    have hP:=P3.of x a b
    cases v with
    |
     p w w' =>
     simp only[eQ,hhd,hx,beq_self_eq_true,bQ,ap]at hv
     simp only[Vl.nodes]at hm hl hlen
     rw[mP]at hlen |-
     simp only[ax,fM]at hlen
     have hW:=P3.of (.atom [112]) w.cG w'.cG
     simp only[Ey,E.at,↓zq,zs,ac,zt]
     refine⟨fun h=>absurd rfl h,fun _=>ah hvh ?_⟩
     simp only[vh,Vl.cG,toNat_one,bi,↓zq,zs,ac,zt,hP.1,hP.2.1,hP.2.2.1,hP.2.2.2,hW.1,hW.2.1,hW.2.2.1,hW.2.2.2,aR]
     refine⟨fun h=>by simp at h,fun _=>⟨fun h=>by simp at h,fun _=>⟨fun _=>?_,fun h=>absurd rfl h⟩⟩⟩
     repeat refine⟨by omega,?_⟩
     refine ah (DP n m w (by omega) a env t1 ⟨ok2,A.wf,ha,f1⟩ hv.1 (by omega) s hs) ?_
     simp only[↓zq,zs,ac]
     have h1:=Ij s (mk []) (E.list [x,a,b]).sp ((aY _).mpr trivial) (mk []) (E.list [.atom [112],w.cG,w'.cG]).sp w w' (P3.of _ _ _) (cg t1 (oM s (names env)) w) (by omega) _ 0 [] (aT _) (by simp;omega)
     rw[a6,aM]at h1
     refine cf h1 ?_
     simp only[↓zq,zs,ac,aY,ac,bi,hP.1,hP.2.1,hP.2.2.2,hW.1,hW.2.1,hW.2.2.2,aR]
     repeat refine⟨by omega,?_⟩
     refine ah (DP n m w' (by omega) b env t2 ⟨ok3,A.wf,hbb,f2⟩ hv.2 (by omega) s hs) ?_
     simp only[↓zq,zs,ac]
     have h2:=KP (mk []) (E.list [.atom [112],w.cG,w'.cG]).sp w w' (P3.of _ _ _) (cg t2 (oM s (names env)) w') (by omega) _ 0 (jl (fun c=>Vl.l (.p c w')) (cg t1 (oM s (names env)) w)) (aT _) (by rw[fM];omega)
     rw[a6]at h2
     refine cf h2 ?_
     simp[↓zq,zs,ac,bA]
    |_=>simp[eQ,hhd,hx]at hv
   ·obtain⟨t1',he1,h1,f1,hw1⟩:=jd A.wf A.ok hx A.ty A.cl
    cases he1
    obtain⟨ok1,ok2,ok3,_⟩:=A.ok
    obtain⟨_,hla,_,_⟩:=dA hx A.ty
    have A':Ask b (.mk a.at (.list [x,a,b]) env::env) t1:=⟨ok3,hw1,h1,f1⟩
    have hnm:names (.mk a.at (.list [x,a,b]) env::env)=names env++[a.at]:=rfl
    have hP:=P3.of x a b
    cases v with
    |
     f w =>
     simp only[eQ,hhd,hx,beq_self_eq_true,bQ]at hv
     simp only[Vl.nodes]at hm hl hlen
     have hW:=P2.of (.atom [102]) w.cG
     simp only[Ey,E.at,↓zq,zs,ac,zt]
     refine⟨fun h=>absurd rfl h,fun _=>ah hvh ?_⟩
     simp only[vh,Vl.cG,toNat_one,bi,↓zq,zs,ac,zt,hP.1,hP.2.1,hP.2.2.1,hP.2.2.2,hW.1,hW.2.1,hW.2.2,aR]
     refine⟨fun h=>by simp at h,fun _=>⟨fun h=>by simp at h,fun _=>⟨fun h=>by simp at h,fun _=>?_⟩⟩⟩
     repeat refine⟨by omega,?_⟩
     refine⟨fun h=>?_,fun h=>?_⟩
     ·
      have hh:a.at=s:=h
      subst hh
      have:uq (.rc t1) (oM a.at (names env))=false:=Ci h1 hla hs
      rw[iB _ _ (aq _) _ _ this]
      simp[bA,lP]
     ·have hh:a.at≠s:=h
      rw[mJ]at hlen |-
      simp only[ax,fM]at hlen
      repeat refine⟨by omega,?_⟩
      have i1:=DP n m w (by omega) b _ t1 A' hv (by simp;omega) s (by rw[hnm];exact zj hh hs)
      rw[hnm,yk _ hh]at i1
      refine ah i1 ?_
      simp only[↓zq,zs,ac]
      have h3:=Kh s a.at (mk []) (E.list [x,a,b]).sp ((aY _).mpr trivial) (mk []) (E.list [.atom [102],w.cG]).sp ((aY _).mpr trivial) (cg t1 (oM s (names env)).up w) (by omega) _ 0 [] (aT _) (by simp;omega)
      rw[a6,aM]at h3
      refine cf h3 ?_
      simp only[↓zq,zs,ac,aY,ac,toNat_one,bi,hP.1,hP.2.1,hP.2.2.2,hW.1,hW.2.1,hW.2.2,aR]
      repeat refine⟨by omega,?_⟩
      have i2:=DP n m w (by omega) b _ t1 A' hv (by simp;omega) a.at (by rw[hnm];right;rw[ff];rfl)
      rw[hnm,uY]at i2
      refine ah i2 ?_
      simp only[↓zq,zs,ac]
      have hl2:=mI t1 (.bd 0) w
      have ih3:∀h,h∈cg t1 (.bd 0) w->PT (.list [x,a,b]) s (.rc t1) (oM s (names env)) h.2:=fun h hh=>by
       have h3:=(jh hh).1
       have h4:=hD n m w (by omega) b _ t1 A' hv 0 _ rfl h hh
       exact DP n m h.2 (by omega) (.list [x,a,b]) env (.rc t1) A h4 (by omega) s hs
      have h4:=Ig s (.list [x,a,b]) t1 (oM s (names env)) (cg t1 (.bd 0) w) (by omega) ih3 _ 0 (jl (fun c=>.f (.l c)) (cg t1 (oM s (names env)).up w)) (aT _) (by
       simp only[a6,ax,fM]
       have hlen2:(cg t1 (oM s (names env)).up w).length+((cg t1 (.bd 0) w).flatMap (zC t1 (oM s (names env)))).length<=1+w.nodes:=hlen
       omega)
      rw[a6]at h4
      simp only[E.at]at h4
      refine cf h4 ?_
      simp[↓zq,zs,ac,bA]
    |_=>simp[eQ,hhd,hx]at hv
  ·cases e with
   |atom s0=>exact atomCase _ rfl (by cases v<;>rfl)
   |list l=>exact absurd hq (by rw[show (E.list l).at=[] from rfl,kQ A.wf];simp)
end Go.Proofs.Trees
namespace Go.Proofs.Trees
open Go Go.VL Go.RowKit
def kp(s:List UInt8):Option Ty:=match vI s with
 |some (.rc a)=>some a
 |_=>none
def AD:Option Ty->AV
 |some a=>(Ty.rc a).av
 |none=>ij
theorem OY(s:List UInt8):an Tryz.prog 107 [.v (.string (mk s))] [] (bA (AD (kp s))):=by
 refine RB _ ?_
 unfold Ix
 refine ah (Jt s) ?_
 cases h:vI s with
 |none=>simp[↓zq,zs,ac,gZ,AD,kp,h,bA]
 |some t=>cases t<;>simp[↓zq,zs,ac,gZ,AD,kp,h,bA,Ty.av]
def pX(s v:List UInt8):Option Vl:=match kp s with
 |some _=>nH s v 100
 |none=>none
def Hd(s:List UInt8):AV:=match kp s with
 |some a=>(Ty.rc a).av
 |none=>ij
theorem tC{s:List UInt8}{a:Ty}(h:kp s=some a):vI s=some (.rc a):=by
 unfold kp at h
 split at h
 ·rename_i e;cases h;exact e
 ·cases h
theorem O1(s v:List UInt8):an Tryz.prog 84 [.v (.string (mk s)),.v (.string (mk v))] [] (bA (.cN [Hd s,i7 (pX s v)])):=by
 refine PL _ _ ?_
 unfold Lp
 refine ah (OY s) ?_
 cases h:kp s with
 |none=>simp[↓zq,zs,ac,AD,Hd,pX,h,bA,i7]
 |
  some a =>
  simp only[↓zq,zs,ac,AD,aC,fI]
  refine⟨fun h=>(by cases h),fun _=>?_⟩
  refine ah (H6 s v 100) ?_
  rw[tC h]
  simp[↓zq,zs,ac,gZ,gn,Hd,pX,h,bA,aC]
structure LV(s v:List UInt8)(w:Vl)(a:Ty)(x A B:E):Prop where
 l:kp s=some a
 ce:jt s=some (.list [x,A,B])
 v:rK v=some w
 ask:Ask (.list [x,A,B]) [] (.rc a)
 hx:x.at=[114,101,99]
 Sf:dc A.at=true
 body:Ask B [.mk A.at (.list [x,A,B]) []] a
 eQ:eQ 100 w (.list [x,A,B],[])=true
theorem sK{e:E}{env:List Fr}{a:Ty}(A:Ask e env (.rc a)):∃x y z,e=.list [x,y,z]/\x.at=[114,101,99]/\dc y.at=true/\Ask z (.mk y.at (.list [x,y,z]) env::env) a:=by
 rcases fD A.ty rfl A.cl with⟨_,h⟩|⟨_,h⟩|⟨s,_,h,_⟩|⟨x,y,z,t1,t2,_,_,h,_⟩|⟨x,y,z,t1,t2,_,_,h,_⟩|⟨x,y,z,t1,rfl,hx,h⟩
 ·cases h
 ·cases h
 ·cases h
 ·cases h
 ·cases h
 ·cases h
  obtain⟨t1',he1,h1,f1,hw1⟩:=jd A.wf A.ok hx A.ty A.cl
  cases he1
  obtain⟨_,_,ok3,_⟩:=A.ok
  obtain⟨_,hla,_,_⟩:=dA hx A.ty
  exact⟨x,y,z,rfl,hx,hla,ok3,hw1,h1,f1⟩
theorem oU{s v:List UInt8}{w:Vl}(h:pX s v=some w):∃a x A B,LV s v w a x A B:=by
 unfold pX at h
 split at h
 ·rename_i a hl
  obtain⟨e,t,m,h1,h2,h3,h4,h5,h6,h7⟩:=rB h
  rw[tC hl]at h3
  cases h3
  obtain⟨x,A,B,rfl,hx,hA,hB⟩:=sK h4
  have:m=100:=by omega
  subst this
  exact⟨a,x,A,B,hl,h1,h2,h4,hx,hA,hB,h7⟩
 ·cases h
theorem LV.ir{s v:List UInt8}{w:Vl}{a:Ty}{x A B:E}(h:LV s v w a x A B):w.ir 100:=(lL h.v).2.1
theorem LV.nodes{s v:List UInt8}{w:Vl}{a:Ty}{x A B:E}(h:LV s v w a x A B):w.nodes<=200:=(lL h.v).2.2
theorem ua{n:Nat}{v:Vl}{x A B:E}{env:List Fr}(hw:WF env)(hx:x.at=[114,101,99])(h:eQ n v (.list [x,A,B],env)=true):∃w,v=.f w/\eQ n w (B,.mk A.at (.list [x,A,B]) env::env)=true:=by
 have hd:=oV (x:=x) (a:=A) (b:=B) hw
 cases v<;>simp[eQ,hd,hx]at h |-
 exact h
theorem OU(n:Nat)(v:Vl)(x A B:E)(a:Ty)(hA:Ask B [.mk A.at (.list [x,A,B]) []] a)(hx:x.at=[114,101,99])(hv:eQ n v (.list [x,A,B],[])=true)(hl:v.nodes<90000):an Tryz.prog 68 [(Ty.rc a).av,v.cB] [] (bA (.sl (hJ (kids a v)))):=by
 obtain⟨w,rfl,hw⟩:=ua .nil hx hv
 refine Pa _ _ ((aC _).mpr trivial) ((aH _).mpr trivial) ?_
 unfold Le
 refine bU (C8 a ij [] .nil) (At.ne a ij []) ?_
 rintro r o ⟨⟨m,hm,rfl⟩,rfl⟩
 have he2:kh (.ptr [.pid m [(Ty.rc a).av,ij],ij]) [m]:=.cons hm .nil
 have hfr:LK.ptr.has (.pid m [(Ty.rc a).av,ij]):=.inr (.inr ⟨_,_,rfl⟩)
 simp only[Ty.av]at he2 hfr
 simp only[↓zq,zs,ac,bC,aC,he2.has,hfr,Vl.cB,aH,Ty.av]
 repeat refine⟨by omega,?_⟩
 simp only[Vl.nodes]at hl
 have i2:=Dz n w.nodes w (aq _) B _ a hA hw (by simp;omega) _ _ he2 (by simp) (.bd 0) [] _ (by have:=zD.bd (k:=0) (ids:=[m]) (by simp) [(Ty.rc a).av,ij] [];simpa only[bh,Ty.av]using this)
 unfold Gq at i2
 refine ah i2 ?_
 simp[↓zq,zs,ac,bA,kids]
def rh(l:List Nat):List (List AV):=l.map fun(k:Nat)=>[.v (.int .i64 (k:Int))]
theorem vP(l:List Nat):(rh l).length=l.length:=by simp[rh]
end Go.Proofs.Trees
namespace Go.Proofs.Trees
open Go Go.VL Go.RowKit
theorem E6{b:UInt8}(h:gY b=true):eS b=true:=by
 simp only[gY,eS,decide_eq_true_eq]at h |-;omega
theorem Co{y:Nm}(h:K6 y):y≠[]/\y.all eS=true:=by
 have key:∀lo hi,97<=lo->hi<=122->named lo hi y=true->y≠[]/\y.all eS=true:=fun lo hi h1 h2 h=>by
  cases y with
  |nil=>cases h
  |
   cons c r =>
   simp only[named,ap,decide_eq_true_eq]at h
   refine⟨by simp,?_⟩
   rw[cY,ap]
   refine⟨?_,?_⟩
   ·simp only[eS,decide_eq_true_eq];omega
   ·rw[bR]
    intro b hb
    exact E6 (bR.1 h.2 b hb)
 rcases h with h|h
 ·exact key 120 122 (by omega) (by omega) h
 ·exact key 116 116 (by omega) (by omega) h
theorem Ae(m:Nat):(tN m).all eS=true:=by
 rw[cY,vU (m+1) m (by omega)];rfl
theorem po(F:List Nm):∀(t:Ty) (to:List Nm) (k:Nat),(∀y,bg y t=true->y≠[]/\y.all eS=true)->(∀w,w∈to->w≠[]/\w.all eS=true)->jX t to.length->(gP F t to k).1.pr
 | .zero,_,_,_,_,_=>⟨by simp,by decide⟩
 | .one,_,_,_,_,_=>⟨by simp,by decide⟩
 | .name s,_,_,hn,_,_=>hn s (by simp[bg])
 |
  .bO u,to,_,_,ht,hl=>by
  have:to.length-1-u<to.length:=by have:u<to.length:=hl;omega
  show (E.atom (gf to u)).pr
  unfold gf
  rw[aa,be this]
  exact ht _ (bD this)
 | .plus a b,to,k,hn,ht,hl=>⟨by simp,⟨by simp,by decide⟩,po F a to k (fun y hy=>hn y (by simp[bg,hy])) ht hl.1,po F b to _ (fun y hy=>hn y (by simp[bg,hy])) ht hl.2,trivial⟩
 | .times a b,to,k,hn,ht,hl=>⟨by simp,⟨by simp,by decide⟩,po F a to k (fun y hy=>hn y (by simp[bg,hy])) ht hl.1,po F b to _ (fun y hy=>hn y (by simp[bg,hy])) ht hl.2,trivial⟩
 |
  .rc a,to,k,hn,ht,hl=>by
  refine⟨by simp,⟨by simp,by decide⟩,⟨by simp,Ae _⟩,po F a (to++[tN (nx F k)]) _ hn (fun w hw=>?_) (by rw[ax];exact hl),trivial⟩
  rcases aI.1 hw with hw|hw
  ·exact ht w hw
  ·simp only[aL]at hw;rw[hw];exact⟨by simp,Ae _⟩
theorem yB{D:Ty}{dt:Nm}(g:fU D)(hn:∀y,bg y D=true->K6 y)(h:told D=some dt):qg dt=some D:=by
 unfold told at h
 split at h
 ·rename_i hh
  cases h
  obtain⟨t,ht⟩:=cm.1 hh.2
  obtain⟨e,he,hw,hte,_,_⟩:=o0 ht
  obtain⟨h1,_,_⟩:=pn he
  obtain⟨hx,hpr,_⟩:=xL h1
  obtain⟨w1,w2,_⟩:=kk (bG D []) D [] 0 (.nil _ _) g.1 fun y hy=>⟨(eG D [] y).2 (.inr hy),g.2 y hy⟩
  have hp:=po (bG D []) D [] 0 (fun y hy=>Co (hn y hy)) (fun w hw=>by cases hw) g.1
  have:=Ab hp hpr hx
  rw[ht,<-hte,<-this,w2]
 ·cases h
theorem rT{a d:Ty}{x:Nm}(h:oN a x=some d):∀y,bg y d=true->bg y a=true:=by
 simp only[oN,bn,cT,eW]at h
 obtain⟨d',h1,_,rfl⟩:=h
 intro y hy
 rcases iW _ hy with h|⟨h,h'⟩
 ·exact h
 ·rcases gx a 0 (h1.names y h')with e|e
  ·exact absurd e h
  ·exact e
structure ZT(s d:Nm)(a:Ty)(x A B:E)(D:Ty):Prop where
 l:kp s=some a
 ce:jt s=some (.list [x,A,B])
 ask:Ask (.list [x,A,B]) [] (.rc a)
 hx:x.at=[114,101,99]
 body:Ask B [.mk A.at (.list [x,A,B]) []] a
 dl:cK s=some d
 y:qg s=some (.rc a)
 lp:oN a lT=some D
 bk:qg d=some D
theorem xn{s:Nm}{t:Ty}(h:vI s=some t):qg s=some t:=by
 unfold vI at h
 split at h
 ·cases h
 ·rename_i u hu
  split at h
  ·cases h;exact hu
  ·cases h
theorem ZT.of{s d:Nm}{a:Ty}(hl:kp s=some a)(hd:cK s=some d):∃x A B D,ZT s d a x A B D:=by
 have hc:=tC hl
 cases hce:jt s with
 |none=>rw[mD hce]at hc;cases hc
 |
  some e =>
  obtain⟨t,h1,hA,_⟩:=iE hce
  rw[hc]at h1;cases h1
  obtain⟨x,A,B,rfl,hx,hA',hB⟩:=sK hA
  have hy:=xn hc
  have hd':=hd
  unfold cK at hd'
  rw[hy]at hd'
  obtain⟨D,h2,h3⟩:=bn.1 hd'
  obtain⟨e2,he2,hw2,hte2,_,_⟩:=o0 hy
  have hg:=qu hw2 hte2 (x:=lT) ⟨by simp,by simp,by simp⟩ h2
  exact⟨x,A,B,D,hl,hce,hA,hx,hB,hd,hy,h2,yB hg.1 (fun y hy'=>mC hy y (rT h2 y hy')) h3⟩
structure Cx(a:Ty)(w:Vl):Prop where
 ok:dN a w=true
 ty:∀v,vT 100 v (.rc a)=true->vT 100 (.f (dC a w v)) (.rc a)=true
 ir:w.ir 100
 nd:w.nodes<=200
structure Fo(a:Ty)(v:Vl):Prop where
 ty:vT 100 v (.rc a)=true
 ir:v.ir 100
 nd:v.nodes<=200
theorem ZT.CU{s d:Nm}{a:Ty}{x A B:E}{D:Ty}(z:ZT s d a x A B D){c:Nm}{w:Vl}(h:nH d c 100=some w):Cx a w:=by
 obtain⟨e,t,m,h1,h2,h3,h4,h5,h6,h7⟩:=rB h
 have hm:m=100:=by omega
 subst hm
 have:=xn h3
 rw[z.bk]at this;cases this
 rw[ov h4]at h7
 obtain⟨e2,he2,hw2,hte2,_,_⟩:=o0 z.y
 have hlc:jX (.rc a) 0:=hte2 ▸ hw2.qX.1
 obtain⟨q1,q2⟩:=Ho (wH z.y) hlc z.lp h7
 exact⟨q1,q2,(lL h2).2.1,(lL h2).2.2⟩
theorem ZT.uR{s d:Nm}{a:Ty}{x A B:E}{D:Ty}(z:ZT s d a x A B D){f:Nm}{v:Vl}(h:pX s f=some v):Fo a v/\f=v.cV:=by
 obtain⟨a',x',A',B',L⟩:=oU h
 have:=L.l
 rw[z.l]at this;cases this
 exact⟨⟨by rw[<-ov L.ask];exact L.eQ,L.ir,L.nodes⟩,qo L.v⟩
theorem Fo.eQ{s d:Nm}{a:Ty}{x A B:E}{D:Ty}(z:ZT s d a x A B D){v:Vl}(h:Fo a v):eQ 100 v (.list [x,A,B],[])=true:=by rw[ov z.ask];exact h.ty
theorem ZT.cV{s d:Nm}{a:Ty}{x A B:E}{D:Ty}(z:ZT s d a x A B D){w:Vl}(hb:w.ir 100)(hv:vT 100 w (.rc a)=true):nH s w.cV 100=if w.nodes<=200 then some w else none:=by
 unfold nH
 rw[z.ce]
 by_cases hn:w.nodes<=200
 ·rw[qi hb hn,if_pos hn]
  simp only
  rw[if_pos ⟨by omega,by rw[show (100:Int).toNat=100 from rfl,ov z.ask];exact hv⟩]
 ·rw[if_neg hn]
  cases q:rK w.cV with
  |none=>rfl
  |
   some w' =>
   exfalso
   obtain⟨_,h2,h3⟩:=lL q
   have:=xY hb h2 (qo q)
   rw[this]at hn;exact hn h3
theorem ZT.lv{s d:Nm}{a:Ty}{x A B:E}{D:Ty}(z:ZT s d a x A B D)(f:Nm):pX s f=nH s f 100:=by
 unfold pX;rw[z.l]
def eJ(d:Nm):List Nm->Option (List Vl)
 |[]=>some []
 |
  c::r=>match nH d c 100,eJ d r with
  |some w,some l=>some (w::l)
  |_,_=>none
theorem qt{s d:Nm}{a:Ty}{x A B:E}{D:Ty}(z:ZT s d a x A B D):∀(p:List Nm) (l:List Vl),eJ d p=some l->p=l.map (·.cV)/\∀c,c∈l->Cx a c
 |[],l,h=>by cases h;exact⟨rfl,fun c hc=>by cases hc⟩
 |
  c::r,l,h=>by
  simp only[eJ]at h
  split at h
  ·rename_i w l' h1 h2
   cases h
   obtain⟨q1,q2⟩:=qt z r l' h2
   obtain⟨_,_,_,_,hv,_⟩:=rB h1
   refine⟨by rw[bM,<-q1,<-qo hv],fun c' hc'=>?_⟩
   rcases aF.1 hc' with rfl|hc'
   ·exact z.CU h1
   ·exact q2 c' hc'
  ·cases h
theorem sC(d:Nm):∀(p q:List Nm),eJ d (p++q)=(eJ d p).bind fun l=>(eJ d q).map (l++·)
 |[],q=>by cases h:eJ d q<;>simp[eJ,h]
 |
  c::p,q=>by
  simp only[aZ,eJ,sC d p q]
  cases nH d c 100 with
  |none=>rfl
  |
   some w =>
   cases eJ d p with
   |none=>rfl
   |some l=>cases eJ d q<;>rfl
noncomputable def yj (s:Nm) (p:List Nm) (f:Nm):Option (List Vl×Vl):=match pX s f,cK s with
 |some v,some d=>if p.length<=50 then(eJ d p).map fun l=>(l,v)else none
 |_,_=>none
def zA(s:Nm):Ty:=(kp s).getD .zero
def qf(a:Ty)(l:List Vl)(v:Vl):Option (List Vl×Vl):=match l.getLast? with
 |none=>none
 |some c=>if(Vl.f (dC a c v)).nodes<=200 then some (l.dropLast,.f (dC a c v))else none
def jq:Nat->Ty->List Vl->Vl->Option Vl
 |0,_,_,v=>some v
 |n+1,a,l,v=>(qf a l v).bind fun r=>jq n a r.1 r.2
def u7(a:Ty)(l:List Vl)(v:Vl):Option Vl:=jq l.length a l v
noncomputable def mf (s:Nm) (p:List Nm) (f:Nm):Option (List Vl×Vl):=(yj s p f).bind fun r=>if(u7 (zA s) r.1 r.2).isSome=true then some r else none
structure ZI(a:Ty)(l:List Vl)(v:Vl):Prop where
 CU:∀c,c∈l->Cx a c
 uR:Fo a v
theorem wh{a:Ty}{l l':List Vl}{v w:Vl}(h:ZI a l v)(hu:qf a l v=some (l',w)):ZI a l' w/\l'.length+1=l.length/\∃c,l=l'++[c]/\w=.f (dC a c v):=by
 unfold qf at hu
 cases q:l.getLast? with
 |none=>rw[q]at hu;cases hu
 |
  some c =>
  rw[q]at hu
  simp only at hu
  split at hu
  ·rename_i hn
   cases hu
   have hne:l≠[]:=by rintro rfl;cases q
   have hl:l.dropLast++[c]=l:=by
    have:=List.dropLast_concat_getLast hne
    rw[List.getLast?_eq_some_getLast hne]at q
    cases q;exact this
   have hc:c∈l:=by rw[<-hl];simp
   have hC:=h.CU c hc
   refine⟨⟨fun c' hc'=>h.CU c' (by rw[<-hl];exact ay _ hc'),hC.ty v h.uR.ty,qW 100 a c v hC.ir h.uR.ir,hn⟩,?_,c,hl.symm,rfl⟩
   have:=congrArg List.length hl
   simpa using this
  ·cases hu
end Go.Proofs.Trees
namespace Go.Proofs.Trees
open Go Go.VL Go.RowKit
theorem wF(w:World)(k:Nat)(os:Array Obj):Below w.heap.size w (Go.«Sort».grow (w.drewN k) os):=by
 refine⟨rfl,rfl,rfl,?_,fun b hb=>?_⟩
 ·simp[Go.«Sort».grow,World.drewN]
 ·simp only[Go.«Sort».grow,World.drewN]
  rw[Array.getElem?_append_left hb]
theorem GA(k:Nat)(hk:k<1000000000):an Tryz.prog 174 [.v (.int .i64 (k:Int))] [] (bA (.v (.string (mk (dd k))))):=by
 refine an.Rw (xs:=[.int .i64 (k:Int)]) ⟨pS,by kernel_rfl,by kernel_rfl,by kernel_rfl⟩ fun w ht=>?_
 have:=Any.strconv_Itoa Tryz.AS (k:Int) (by omega) (by omega) w ht
 refine Calls.mono this fun e w' ⟨h1,n,os,h2⟩=>⟨?_,?_⟩
 ·rw[h1,Lib.itoa_nonneg];rfl
 ·rw[h2];exact wF w n os
abbrev hN(k:Nat):Nm:=35::dd k
theorem uc{j k:Nat}(h:hN j=hN k):j=k:=vS (j+1) j k (by omega) (List.cons.inj h).2
theorem Ed(u:Ty):∀(t:Ty) (i:Nat),i+t.az<1000000->an Tryz.prog 149 [t.av,u.av,.v (.int .i64 (i:Int))] [] (bA (dM u t i).av)
 |
  .zero,i,_=>by
  refine vN _ _ _ ((aC _).mpr trivial) ((aC _).mpr trivial) ?_
  simp[DH,Ty.av,dM,↓zq,zs,ac,bA]
 |
  .one,i,_=>by
  refine vN _ _ _ ((aC _).mpr trivial) ((aC _).mpr trivial) ?_
  simp[DH,Ty.av,dM,↓zq,zs,ac,bA]
 |
  .name s,i,_=>by
  refine vN _ _ _ ((aC _).mpr trivial) ((aC _).mpr trivial) ?_
  simp[DH,Ty.av,dM,↓zq,zs,ac,bA]
 |
  .bO k,i,_=>by
  refine vN _ _ _ ((aC _).mpr trivial) ((aC _).mpr trivial) ?_
  simp only[DH,Ty.av,dM,↓zq,zs,ac,bA]
  refine⟨by omega,fun _=>⟨by omega,fun h=>?_,fun h=>?_⟩,fun h=>absurd rfl h⟩
  ·rw[if_pos (by omega)]
  ·rw[if_neg (by omega)];rfl
 |
  .plus a b,i,hl=>by
  simp only[Ty.az]at hl
  refine vN _ _ _ ((aC _).mpr trivial) ((aC _).mpr trivial) ?_
  simp only[DH,Ty.av,dM,↓zq,zs,ac,aC]
  refine⟨by omega,fun h=>by omega,fun _=>⟨fun _=>?_,fun h=>absurd rfl h⟩⟩
  repeat refine⟨by omega,?_⟩
  refine ah (Ed u a i (by omega)) ?_
  simp only[↓zq,zs,ac,aC]
  repeat refine⟨by omega,?_⟩
  refine ah (Ed u b i (by omega)) ?_
  simp only[↓zq,zs,ac,aC]
  exact⟨rfl,rfl⟩
 |
  .times a b,i,hl=>by
  simp only[Ty.az]at hl
  refine vN _ _ _ ((aC _).mpr trivial) ((aC _).mpr trivial) ?_
  simp only[DH,Ty.av,dM,↓zq,zs,ac,aC]
  refine⟨by omega,fun h=>by omega,fun _=>⟨fun h=>by omega,fun _=>⟨fun _=>?_,fun h=>absurd rfl h⟩⟩⟩
  repeat refine⟨by omega,?_⟩
  refine ah (Ed u a i (by omega)) ?_
  simp only[↓zq,zs,ac,aC]
  repeat refine⟨by omega,?_⟩
  refine ah (Ed u b i (by omega)) ?_
  simp only[↓zq,zs,ac,aC]
  exact⟨rfl,rfl⟩
 |
  .rc a,i,hl=>by
  simp only[Ty.az]at hl
  refine vN _ _ _ ((aC _).mpr trivial) ((aC _).mpr trivial) ?_
  simp only[DH,Ty.av,dM,↓zq,zs,ac,aC]
  refine⟨by omega,fun h=>by omega,fun _=>⟨fun h=>by omega,fun _=>⟨fun h=>by omega,fun _=>⟨fun _=>?_,fun h=>absurd rfl h⟩⟩⟩⟩
  repeat refine⟨by omega,?_⟩
  rw[a7 i (by omega)]
  refine ah (Ed u a (i+1) (by omega)) ?_
  simp only[↓zq,zs,ac,aC]
  exact⟨rfl,rfl⟩
theorem AG(x:Nm)(u:Ty):∀(t:Ty),an Tryz.prog 150 [t.av,.v (.string (mk x)),u.av] [] (bA (sub x u t).av)
 |
  .zero=>by
  refine wJ _ _ _ ((aC _).mpr trivial) ((aC _).mpr trivial) ?_
  simp[DB,Ty.av,sub,↓zq,zs,ac,bA]
 |
  .one=>by
  refine wJ _ _ _ ((aC _).mpr trivial) ((aC _).mpr trivial) ?_
  simp[DB,Ty.av,sub,↓zq,zs,ac,bA]
 |
  .bO k=>by
  refine wJ _ _ _ ((aC _).mpr trivial) ((aC _).mpr trivial) ?_
  simp[DB,Ty.av,sub,↓zq,zs,ac,bA]
 |
  .name s=>by
  refine wJ _ _ _ ((aC _).mpr trivial) ((aC _).mpr trivial) ?_
  simp only[DB,Ty.av,sub,↓zq,zs,ac,zt,bA]
  refine⟨by omega,fun _=>⟨by omega,fun h=>?_,fun h=>?_⟩,fun h=>absurd rfl h⟩
  ·rw[if_pos h]
  ·rw[if_neg h];rfl
 |
  .plus a b=>by
  refine wJ _ _ _ ((aC _).mpr trivial) ((aC _).mpr trivial) ?_
  simp only[DB,Ty.av,sub,↓zq,zs,ac,aC]
  refine⟨by omega,fun h=>by omega,fun _=>⟨fun _=>?_,fun h=>absurd rfl h⟩⟩
  repeat refine⟨by omega,?_⟩
  refine ah (AG x u a) ?_
  simp only[↓zq,zs,ac,aC]
  repeat refine⟨by omega,?_⟩
  refine ah (AG x u b) ?_
  simp only[↓zq,zs,ac,aC]
  exact⟨rfl,rfl⟩
 |
  .times a b=>by
  refine wJ _ _ _ ((aC _).mpr trivial) ((aC _).mpr trivial) ?_
  simp only[DB,Ty.av,sub,↓zq,zs,ac,aC]
  refine⟨by omega,fun h=>by omega,fun _=>⟨fun h=>by omega,fun _=>⟨fun _=>?_,fun h=>absurd rfl h⟩⟩⟩
  repeat refine⟨by omega,?_⟩
  refine ah (AG x u a) ?_
  simp only[↓zq,zs,ac,aC]
  repeat refine⟨by omega,?_⟩
  refine ah (AG x u b) ?_
  simp only[↓zq,zs,ac,aC]
  exact⟨rfl,rfl⟩
 |
  .rc a=>by
  refine wJ _ _ _ ((aC _).mpr trivial) ((aC _).mpr trivial) ?_
  simp only[DB,Ty.av,sub,↓zq,zs,ac,aC]
  refine⟨by omega,fun h=>by omega,fun _=>⟨fun h=>by omega,fun _=>⟨fun h=>by omega,fun _=>⟨fun _=>?_,fun h=>absurd rfl h⟩⟩⟩⟩
  repeat refine⟨by omega,?_⟩
  refine ah (AG x u a) ?_
  simp only[↓zq,zs,ac,aC]
  exact⟨rfl,rfl⟩
theorem xb(c:Int)(a b:Ty):an Tryz.prog 175 [.v (.int .u8 c),a.av,b.av] [] (bA (.ptr [.v (.int .u8 c),.v (.string (mk [])),.v (.int .i64 0),a.av,b.av])):=by
 refine PN _ _ _ ((aC _).mpr trivial) ((aC _).mpr trivial) ?_
 simp[H0,↓zq,zs,ac,bA]
abbrev B8(f:Nat)(g:Bool):Ob:=.cells [.v (.int .i64 (f:Int)),.v (.bool g)]
theorem HT(f:Nat)(g:Bool)(hf:f<100000000):an Tryz.prog 146 [.ref 0 0] [B8 f g] (cW (.v (.string (mk (hN (f+1))))) [B8 (f+1) g]):=by
 refine QD _ _ ?_
 simp only[Mr,↓zq,zs,ac,zt]
 rw[a7 f (by omega)]
 refine ah (GA (f+1) (by omega)) ?_
 have hd:=nO 8 (f+1) (by omega)
 simp only[↓zq,zs,ac,zt,aZ,aM]
 exact⟨by simp[cy];omega,rfl,rfl⟩
def uu(g:Bool)(t:Ty):Ty:=if g=true\/400<t.az then .zero else t
def zw(g:Bool)(t:Ty):Bool:=g||decide (400<t.az)
theorem xf(t:Ty):uu true t=.zero:=by simp[uu]
theorem uW(t:Ty):zw true t=true:=rfl
theorem uJ{t:Ty}(h:t.az<=400):uu false t=t:=by simp[uu,show ¬400<t.az by omega]
theorem vE{t:Ty}(h:t.az<=400):zw false t=false:=by simp[zw,show ¬400<t.az by omega]
theorem DT{t:Ty}(h:¬t.az<=400):zw false t=true:=by simp[zw,show 400<t.az by omega]
theorem Dw{t:Ty}(h:¬t.az<=400):uu false t=.zero:=by simp[uu,show 400<t.az by omega]
theorem ux(f:Nat)(g:Bool)(t:Ty)(hl:t.az<1000000):an Tryz.prog 147 [.ref 0 0,t.av] [B8 f g] (cW (uu g t).av [B8 f (zw g t)]):=by
 refine Q5 _ _ _ ((aC _).mpr trivial) ?_
 simp only[J7,↓zq,zs,ac,zt]
 cases g with
 |true=>exact⟨fun _=>⟨rfl,rfl⟩,fun h=>(by cases h)⟩
 |
  false =>
  refine⟨fun h=>(by cases h),fun _=>?_⟩
  refine ah (DL t hl) ?_
  simp only[↓zq,zs,ac,zt]
  refine⟨fun h=>?_,fun h=>?_⟩
  ·have h:400<t.az:=by omega
   simp[uu,zw,h,cW,Ty.av]
  ·have h:¬400<t.az:=by omega
   simp[uu,zw,h,cW]
theorem EM(t:Ty)(s:Nm)(f:Nat):an Tryz.prog 148 [.ref 0 0,t.av,.v (.string (mk s))] [B8 f true] (cW Ty.zero.av [B8 f true]):=by
 refine IT _ _ _ _ ((aC _).mpr trivial) ?_
 simp only[Cj,↓zq,zs,ac]
 exact⟨fun _=>⟨rfl,rfl⟩,fun h=>(by cases h)⟩
def BH(f:Nat)(t:Ty):Prop:=∀j,f<j->bg (hN j) t=false
def pG(o:Option Ty)(t:Ty):Nat:=match o with|some d=>d.az|none=>1000*t.az
def Ay(o:Option Ty)(f B:Nat):AV->List Ob->Prop:=fun r ob=>∃f':Nat,f<=f'/\f'<=f+B/\r=(o.getD .zero).av/\ob=[B8 f' o.isNone]
theorem Ay.ne(o:Option Ty)(f B:Nat):∃r ob,Ay o f B r ob:=⟨_,_,f,aq _,dm _ _,rfl,rfl⟩
theorem rp{f f':Nat}{t:Ty}(h:BH f t)(hf:f<=f'):BH f' t:=fun j hj=>h j (by omega)
theorem wv:∀(n:Nat) (t:Ty),t.az<=n->t.az<=400->∀(s:Nm) (f:Nat),BH f t->(∀j,f<j->s≠hN j)->f+1000*t.az<50000000->an Tryz.prog 148 [.ref 0 0,t.av,.v (.string (mk s))] [B8 f false] (Ay (kU t s) f (pG (kU t s) t))
 |0,t,h=>by have:=eg t;omega
 |
  n+1,t,hn=>by
  intro h4 s f hf hs hb
  refine IT _ _ _ _ ((aC _).mpr trivial) ?_
  have fin0:∀u:Ty,kU t s=some u->Ay (kU t s) f (pG (kU t s) t) u.av [B8 f false]:=fun u hu=>by
   rw[hu];exact⟨f,aq _,dm _ _,rfl,rfl⟩
  cases t with
  |
   zero =>
   have:=fin0 .zero (vn s)
   simpa[Cj,Ty.av,↓zq,zs,ac]using this
  |
   one =>
   have:=fin0 .zero (xw s)
   simpa[Cj,Ty.av,↓zq,zs,ac]using this
  |
   bO k =>
   have:=fin0 .zero (yX k s)
   simpa[Cj,Ty.av,↓zq,zs,ac]using this
  |
   name c =>
   simp only[Cj,Ty.av,↓zq,zs,ac,zt]
   refine⟨fun h=>(by cases h),fun _=>⟨by omega,fun _=>⟨by omega,fun h=>?_,fun h=>?_⟩,fun h=>absurd rfl h⟩⟩
   ·exact fin0 .one (by rw[nT,if_pos h])
   ·exact fin0 .zero (by rw[nT,if_neg h])
  |
   plus a b =>
   simp only[Ty.az]at hn h4 hb
   have pa:=eg a
   have pb:=eg b
   have fa:BH f a:=fun j hj=>by have:=hf j hj;simp only[bg,cw]at this;exact this.1
   have fb:BH f b:=fun j hj=>by have:=hf j hj;simp only[bg,cw]at this;exact this.2
   simp only[Cj,Ty.av,↓zq,zs,ac,zt,aC]
   refine⟨fun h=>(by cases h),fun _=>⟨by omega,fun h=>by omega,fun _=>⟨fun _=>?_,fun h=>absurd rfl h⟩⟩⟩
   repeat refine⟨by omega,?_⟩
   rw[vu]
   refine bU (wv n a (by omega) (by omega) s f fa hs (by omega)) (Ay.ne _ _ _) ?_
   rintro r ob ⟨f1,g1,g2,rfl,rfl⟩
   simp only[↓zq,zs,ac,zt,bm,aC]
   repeat refine⟨by omega,?_⟩
   cases q1:kU a s with
   |
    none =>
    rw[q1]at g2
    simp only[pG]at g2
    simp only[Option.isNone_none,Option.getD_none,bL]
    refine aS (EM b s f1) ?_
    simp only[↓zq,zs,ac,zt,bm,aC]
    repeat refine⟨by omega,?_⟩
    refine ah (xb 43 _ _) ?_
    simp only[↓zq,zs,ac,zt,bY]
    refine aS (ux f1 true (.plus .zero .zero) (by simp[Ty.az])) ?_
    simp only[↓zq,zs,ac,zt,bm,aC]
    exact⟨f1,g1,by simp only[pG,Ty.az];omega,rfl,rfl⟩
   |
    some a' =>
    rw[q1]at g2
    simp only[pG]at g2
    have la:=(cT.1 q1).small
    simp only[Option.isNone_some,cx,a8]
    refine bU (wv n b (by omega) (by omega) s f1 (rp fb g1) (fun j hj=>hs j (by omega)) (by omega)) (Ay.ne _ _ _) ?_
    rintro r ob ⟨f2,k1,k2,rfl,rfl⟩
    simp only[↓zq,zs,ac,zt,bm,aC]
    repeat refine⟨by omega,?_⟩
    refine ah (xb 43 _ _) ?_
    simp only[↓zq,zs,ac,zt,bY]
    cases q2:kU b s with
    |
     none =>
     rw[q2]at k2
     simp only[pG]at k2
     simp only[Option.isNone_none,Option.getD_none,bL]
     refine aS (ux f2 true (.plus a' .zero) (by simp[Ty.az];omega)) ?_
     simp only[↓zq,zs,ac,zt,bm,aC]
     exact⟨f2,by omega,by simp only[pG,Ty.az];omega,rfl,rfl⟩
    |
     some b' =>
     rw[q2]at k2
     simp only[pG]at k2
     have lb:=(cT.1 q2).small
     simp only[Option.isNone_some,cx,a8]
     refine aS (ux f2 false (.plus a' b') (by simp only[Ty.az];omega)) ?_
     simp only[↓zq,zs,ac,zt,bm,aC]
     unfold mX
     by_cases hle:(Ty.plus a' b').az<=400
     ·rw[if_pos hle]
      refine⟨f2,by omega,by simp only[pG,Ty.az];omega,?_,?_⟩
      ·simp[uu,show ¬400<(Ty.plus a' b').az by omega]
      ·simp[zw,show ¬400<(Ty.plus a' b').az by omega]
     ·rw[if_neg hle]
      refine⟨f2,by omega,by simp only[pG,Ty.az];omega,?_,?_⟩
      ·simp[uu,show 400<(Ty.plus a' b').az by omega]
      ·simp[zw,show 400<(Ty.plus a' b').az by omega]
  |
   times a b =>
   simp only[Ty.az]at hn h4 hb
   have pa:=eg a
   have pb:=eg b
   have fa:BH f a:=fun j hj=>by have:=hf j hj;simp only[bg,cw]at this;exact this.1
   have fb:BH f b:=fun j hj=>by have:=hf j hj;simp only[bg,cw]at this;exact this.2
   simp only[Cj,Ty.av,↓zq,zs,ac,zt,aC]
   refine⟨fun h=>(by cases h),fun _=>⟨by omega,fun h=>by omega,fun _=>⟨fun h=>by omega,fun _=>⟨fun _=>?_,fun h=>absurd rfl h⟩⟩⟩⟩
   repeat refine⟨by omega,?_⟩
   rw[so]
   refine bU (wv n a (by omega) (by omega) s f fa hs (by omega)) (Ay.ne _ _ _) ?_
   rintro r ob ⟨f1,g1,g2,rfl,rfl⟩
   simp only[↓zq,zs,ac,zt,bm,aC]
   repeat refine⟨by omega,?_⟩
   refine ah (xb 42 _ _) ?_
   simp only[↓zq,zs,ac,zt,bY]
   repeat refine⟨by omega,?_⟩
   cases q1:kU a s with
   |
    none =>
    rw[q1]at g2
    simp only[pG]at g2
    simp only[Option.isNone_none,Option.getD_none,bL]
    refine aS (EM b s f1) ?_
    simp only[↓zq,zs,ac,zt,bm,aC]
    repeat refine⟨by omega,?_⟩
    refine ah (xb 42 _ _) ?_
    simp only[↓zq,zs,ac,zt,bY]
    refine ah (xb 43 (.times .zero b) (.times a .zero)) ?_
    simp only[↓zq,zs,ac,zt,bY]
    refine aS (ux f1 true (.plus (.times .zero b) (.times a .zero)) (by simp only[Ty.az];omega)) ?_
    simp only[↓zq,zs,ac,zt,bm,aC]
    exact⟨f1,g1,by simp only[pG,Ty.az];omega,rfl,rfl⟩
   |
    some a' =>
    rw[q1]at g2
    simp only[pG]at g2
    have la:=(cT.1 q1).small
    simp only[Option.isNone_some,cx,a8]
    refine bU (wv n b (by omega) (by omega) s f1 (rp fb g1) (fun j hj=>hs j (by omega)) (by omega)) (Ay.ne _ _ _) ?_
    rintro r ob ⟨f2,k1,k2,rfl,rfl⟩
    simp only[↓zq,zs,ac,zt,bm,aC]
    repeat refine⟨by omega,?_⟩
    refine ah (xb 42 _ _) ?_
    simp only[↓zq,zs,ac,zt,bY]
    cases q2:kU b s with
    |
     none =>
     rw[q2]at k2
     simp only[pG]at k2
     simp only[Option.isNone_none,Option.getD_none,bL]
     refine ah (xb 43 (.times a' b) (.times a .zero)) ?_
     simp only[↓zq,zs,ac,zt,bY]
     refine aS (ux f2 true (.plus (.times a' b) (.times a .zero)) (by simp only[Ty.az];omega)) ?_
     simp only[↓zq,zs,ac,zt,bm,aC]
     exact⟨f2,by omega,by simp only[pG,Ty.az];omega,rfl,rfl⟩
    |
     some b' =>
     rw[q2]at k2
     simp only[pG]at k2
     have lb:=(cT.1 q2).small
     simp only[Option.isNone_some,cx,a8]
     refine ah (xb 43 (.times a' b) (.times a b')) ?_
     simp only[↓zq,zs,ac,zt,bY]
     refine aS (ux f2 false (.plus (.times a' b) (.times a b')) (by simp only[Ty.az];omega)) ?_
     simp only[↓zq,zs,ac,zt,bm,aC]
     unfold mX
     by_cases hle:(Ty.plus (.times a' b) (.times a b')).az<=400
     ·rw[if_pos hle]
      refine⟨f2,by omega,by simp only[pG,Ty.az];omega,?_,?_⟩
      ·simp[uu,show ¬400<(Ty.plus (.times a' b) (.times a b')).az by omega]
      ·simp[zw,show ¬400<(Ty.plus (.times a' b) (.times a b')).az by omega]
     ·rw[if_neg hle]
      refine⟨f2,by omega,by simp only[pG,Ty.az];omega,?_,?_⟩
      ·simp[uu,show 400<(Ty.plus (.times a' b) (.times a b')).az by omega]
      ·simp[zw,show 400<(Ty.plus (.times a' b) (.times a b')).az by omega]
  |
   rc a =>
   simp only[Ty.az]at hn h4 hb
   have pa:=eg a
   have fa:BH f a:=fun j hj=>hf j hj
   have hxa:bg (hN (f+1)) a=false:=fa _ (by omega)
   have hxs:hN (f+1)≠s:=fun e=>hs _ (by omega) e.symm
   have fo:BH (f+1) (dM (.name (hN (f+1))) a 0):=fun j hj=>by
    cases q:bg (hN j) (dM (.name (hN (f+1))) a 0)with
    |false=>rfl
    |
     true =>
     rcases gx a 0 q with e|e
     ·have:=uc e;omega
     ·rw[fa j (by omega)]at e;cases e
   have hoa:(dM (.name (hN (f+1))) a 0).az=a.az:=fE _ _ _
   have hop:=Ed (.name (hN (f+1))) a 0 (by omega)
   rw[Au hxa hxs]
   simp only[Cj,Ty.av,↓zq,zs,ac,zt,aC]
   refine⟨fun h=>(by cases h),fun _=>⟨by omega,fun h=>by omega,fun _=>⟨fun h=>by omega,fun _=>⟨fun h=>by omega,fun _=>⟨fun _=>?_,fun h=>absurd rfl h⟩⟩⟩⟩⟩
   refine aS (HT f false (by omega)) ?_
   simp only[↓zq,zs,ac,zt,bm,aC]
   repeat refine⟨by omega,?_⟩
   simp only[Ty.av]at hop
   refine ah hop ?_
   simp only[↓zq,zs,ac,zt,bm,aC]
   refine bU (wv n (dM (.name (hN (f+1))) a 0) (by omega) (by omega) s (f+1) fo (fun j hj=>hs j (by omega)) (by omega)) (Ay.ne _ _ _) ?_
   rintro r ob ⟨f1,g1,g2,rfl,rfl⟩
   simp only[↓zq,zs,ac,zt,bm,aC]
   generalize hx:hN (f+1)=x at *
   generalize hin:dM (.name x) a 0=i at *
   have hrc:(Ty.rc a).av=.ptr [.v (.int .u8 114),.v (.string (mk [])),.v (.int .i64 0),a.av,.v (.pointer none)]:=rfl
   cases q1:kU i s with
   |
    none =>
    rw[q1]at g2
    simp only[pG]at g2
    simp only[Option.isNone_none,Option.getD_none,bL]
    refine aS (ux f1 true .zero (by simp[Ty.az])) ?_
    simp only[↓zq,zs,ac,zt,bm,aC]
    rw[<-hrc]
    refine ah (AG x (.rc a) _) ?_
    simp only[↓zq,zs,ac,zt,aC]
    refine aS (EM i x f1) ?_
    simp only[↓zq,zs,ac,zt,bm,aC]
    refine aS (ux f1 true .zero (by simp[Ty.az])) ?_
    simp only[↓zq,zs,ac,zt,bm,aC]
    refine ah (AG x (.rc a) _) ?_
    simp only[↓zq,zs,ac,zt,aC]
    refine ah (xb 42 _ (.bO 0)) ?_
    simp only[↓zq,zs,ac,zt,bY]
    refine ah (xb 43 (sub x (.rc a) (uu true .zero)) (.times (sub x (.rc a) (uu true .zero)) (.bO 0))) ?_
    simp only[↓zq,zs,ac,zt,bY,uW]
    have hz:sub x (.rc a) (uu true .zero)=.zero:=by rw[xf];rfl
    refine aS (ux f1 true (.rc (.plus (sub x (.rc a) (uu true .zero)) (.times (sub x (.rc a) (uu true .zero)) (.bO 0)))) (by rw[hz];simp only[Ty.az];omega)) ?_
    simp only[↓zq,zs,ac,zt,bm,aC]
    rw[xf,uW]
    exact⟨f1,by omega,by simp only[pG,Ty.az];omega,rfl,rfl⟩
   |
    some c =>
    rw[q1]at g2
    simp only[pG]at g2
    have lc:=(cT.1 q1).small
    simp only[Option.isNone_some,cx,a8]
    refine aS (ux f1 false c (by omega)) ?_
    simp only[↓zq,zs,ac,zt,bm,aC]
    rw[uJ lc,vE lc,<-hrc]
    refine ah (AG x (.rc a) c) ?_
    simp only[↓zq,zs,ac,zt,aC]
    refine bU (wv n i (by omega) (by omega) x f1 (rp fo g1) (fun j hj=>by rw[<-hx];exact fun e=>by have:=uc e;omega) (by omega)) (Ay.ne _ _ _) ?_
    rintro r ob ⟨f2,k1,k2,rfl,rfl⟩
    simp only[↓zq,zs,ac,zt,bm,aC]
    have hsc:(sub x (.rc a) c).az+fp x c=c.az+fp x c*(Ty.rc a).az:=dU x (.rc a) c
    have hcc:∀t:Ty,fp x t<=t.az:=fun t=>by
     have h1:=dU x .zero t
     have h2:=gS x .zero t
     simp only[Ty.az,dF]at h1
     have h3:∀t:Ty,fp x t<=t.az:=by
      intro t
      induction t with
      |name s=>simp only[fp,Ty.az];split<;>omega
      |plus a b i1 i2=>simp only[fp,Ty.az];omega
      |times a b i1 i2=>simp only[fp,Ty.az];omega
      |rc a i=>simp only[fp,Ty.az];omega
      |_=>simp[fp,Ty.az]
     exact h3 t
    have hbig:∀t:Ty,t.az<=400->(sub x (.rc a) t).az<=400+400*402:=fun t ht=>by
     have h1:=dU x (.rc a) t
     have h2:=hcc t
     have h3:fp x t*(Ty.rc a).az<=400*402:=Nat.mul_le_mul (by omega) (by simp only[Ty.az];omega)
     omega
    have b1:=hbig c lc
    cases q2:kU i x with
    |
     none =>
     rw[q2]at k2
     simp only[pG]at k2
     simp only[Option.isNone_none,Option.getD_none,bL]
     refine aS (ux f2 true .zero (by simp[Ty.az])) ?_
     simp only[↓zq,zs,ac,zt,bm,aC]
     rw[xf,uW]
     refine ah (AG x (.rc a) .zero) ?_
     simp only[↓zq,zs,ac,zt,aC]
     refine ah (xb 42 _ (.bO 0)) ?_
     simp only[↓zq,zs,ac,zt,bY]
     refine ah (xb 43 (sub x (.rc a) c) (.times (sub x (.rc a) .zero) (.bO 0))) ?_
     simp only[↓zq,zs,ac,zt,bY]
     refine aS (ux f2 true (.rc (.plus (sub x (.rc a) c) (.times (sub x (.rc a) .zero) (.bO 0)))) (by simp only[sub,Ty.az];omega)) ?_
     simp only[↓zq,zs,ac,zt,bm,aC]
     rw[xf,uW]
     exact⟨f2,by omega,by simp only[pG,Ty.az];omega,rfl,rfl⟩
    |
     some d =>
     rw[q2]at k2
     simp only[pG]at k2
     have ld:=(cT.1 q2).small
     have b2:=hbig d ld
     simp only[Option.isNone_some,cx,a8]
     refine aS (ux f2 false d (by omega)) ?_
     simp only[↓zq,zs,ac,zt,bm,aC]
     rw[uJ ld,vE ld]
     refine ah (AG x (.rc a) d) ?_
     simp only[↓zq,zs,ac,zt,aC]
     refine ah (xb 42 _ (.bO 0)) ?_
     simp only[↓zq,zs,ac,zt,bY]
     refine ah (xb 43 (sub x (.rc a) c) (.times (sub x (.rc a) d) (.bO 0))) ?_
     simp only[↓zq,zs,ac,zt,bY]
     have hdrc:px a x c d=.rc (.plus (sub x (.rc a) c) (.times (sub x (.rc a) d) (.bO 0))):=rfl
     refine aS (ux f2 false (px a x c d) (by rw[hdrc];simp only[Ty.az];omega)) ?_
     simp only[↓zq,zs,ac,zt,bm,aC]
     have s1:=gS x (.rc a) c
     have s2:=gS x (.rc a) d
     unfold mX
     by_cases hle:(px a x c d).az<=400
     ·rw[if_pos hle,uJ hle,vE hle]
      exact⟨f2,by omega,by simp only[pG,hdrc,Ty.az];omega,rfl,rfl⟩
     ·rw[if_neg hle,Dw hle,DT hle]
      exact⟨f2,by omega,by simp only[pG,Ty.az];omega,rfl,rfl⟩
def N8(o:Option Ty):AV->List Ob->Prop:=fun r ob=>ob=[]/\∃p,LK.ptr.has p/\r=.cN [p,.v (.bool o.isSome)]/\∀d,o=some d->p=d.av
theorem N8.ne(o:Option Ty):∃r ob,N8 o r ob:=by
 cases o with
 |none=>exact⟨_,_,rfl,ij,(iT).mpr trivial,rfl,fun d h=>by cases h⟩
 |some d=>exact⟨_,_,rfl,d.av,(aC _).mpr trivial,rfl,fun d' h=>by cases h;rfl⟩
theorem Gb:hN 1=lT:=by show (35::dd 1:Nm)=_;rw[eE (by omega)];rfl
theorem P5(a:Ty)(h4:a.az+2<=400)(hf:∀j,bg (hN j) a=false):an Tryz.prog 109 [(Ty.rc a).av] [] (N8 (oN a lT)):=by
 have hxa:bg (hN 1) a=false:=hf 1
 have fo:BH 1 (dM (.name (hN 1)) a 0):=fun j hj=>by
  cases q:bg (hN j) (dM (.name (hN 1)) a 0)with
  |false=>rfl
  |
   true =>
   rcases gx a 0 q with e|e
   ·have:=uc e;omega
   ·rw[hf j]at e;cases e
 have hoa:(dM (.name (hN 1)) a 0).az=a.az:=fE _ _ _
 have hop:=Ed (.name (hN 1)) a 0 (by omega)
 rw[<-Gb]
 have hrc:(Ty.rc a).av=.ptr [.v (.int .u8 114),.v (.string (mk [])),.v (.int .i64 0),a.av,.v (.pointer none)]:=rfl
 refine Ot _ ((aC _).mpr trivial) ?_
 unfold N0
 refine aS (HT 0 false (by omega)) ?_
 simp only[Ty.av,↓zq,zs,ac,zt,bm,aC]
 repeat refine⟨by omega,?_⟩
 simp only[Ty.av]at hop
 refine ah hop ?_
 simp only[↓zq,zs,ac,zt,bm,aC]
 refine bU (wv 400 (dM (.name (hN 1)) a 0) (by omega) (by omega) (hN 1) 1 fo (fun j hj e=>by have:=uc e;omega) (by omega)) (Ay.ne _ _ _) ?_
 rintro r ob ⟨f1,g1,g2,rfl,rfl⟩
 simp only[↓zq,zs,ac,zt,bm,aC]
 unfold oN
 cases q1:kU (dM (.name (hN 1)) a 0) (hN 1)with
 |
  none =>
  simp only[Option.isNone_none,Option.getD_none,bL]
  refine aS (ux f1 true .zero (by simp[Ty.az])) ?_
  simp only[↓zq,zs,ac,zt,bm,aC,uW]
  exact⟨fun _=>⟨rfl,ij,(iT).mpr trivial,rfl,fun d h=>(by cases h)⟩,fun h=>(by cases h)⟩
 |
  some d =>
  have ld:=(cT.1 q1).small
  simp only[Option.isNone_some,cx,a8]
  refine aS (ux f1 false d (by omega)) ?_
  simp only[↓zq,zs,ac,zt,bm,aC]
  rw[uJ ld,vE ld]
  refine⟨fun h=>(by cases h),fun _=>?_⟩
  rw[<-hrc]
  refine ah (AG (hN 1) (.rc a) d) ?_
  simp only[↓zq,zs,ac,zt,aC]
  have h1:=dU (hN 1) (.rc a) d
  have hcn:fp (hN 1) d<=d.az:=by
   have h3:∀t:Ty,fp (hN 1) t<=t.az:=by
    intro t
    induction t with
    |name s=>simp only[fp,Ty.az];split<;>omega
    |plus a b i1 i2=>simp only[fp,Ty.az];omega
    |times a b i1 i2=>simp only[fp,Ty.az];omega
    |rc a i=>simp only[fp,Ty.az];omega
    |_=>simp[fp,Ty.az]
   exact h3 d
  have h3:fp (hN 1) d*(Ty.rc a).az<=400*402:=Nat.mul_le_mul (by omega) (by simp only[Ty.az];omega)
  refine aS (ux f1 false (sub (hN 1) (.rc a) d) (by omega)) ?_
  simp only[↓zq,zs,ac,zt,bm,aC]
  unfold mX
  by_cases hle:(sub (hN 1) (.rc a) d).az<=400
  ·rw[if_pos hle,uJ hle,vE hle]
   exact⟨rfl,_,(aC _).mpr trivial,rfl,fun d' h=>by cases h;rfl⟩
  ·rw[if_neg hle,Dw hle,DT hle]
   exact⟨rfl,_,(aC _).mpr trivial,rfl,fun d' h=>(by cases h)⟩
end Go.Proofs.Trees
namespace Go.Proofs.Trees
open Go Go.VL Go.RowKit
theorem rj(h:Nm)(a b:E):(fQ (.list [.atom h,a,b])).length=h.length+(fQ a).length+(fQ b).length+4:=by
 simp only[fQ,en,aB,ax,aJ];omega
theorem iO(F:List Nm)(hF:F.length<=10000):∀(t:Ty) (to:List Nm) (k:Nat),uj t->(∀w,w∈to->w.length<=20)->k+(F.length+1)*t.az<90000000->(fQ (gP F t to k).1).length<=50*t.az
 | .zero,_,_,_,_,_=>by simp[gP,fQ,Ty.az]
 | .one,_,_,_,_,_=>by simp[gP,fQ,Ty.az]
 | .name s,_,_,hn,_,_=>by have:=hn s (by simp[bg]);simp only[gP,fQ,Ty.az];omega
 |
  .bO u,to,_,_,ht,_=>by
  show (gf to u).length<=50*1
  unfold gf
  by_cases h:to.length-1-u<to.length
  ·rw[aa,be h];have:=ht _ (bD h);simp only[cx];omega
  ·rw[aa,List.getElem?_eq_none (by omega)];simp
 |
  .plus a b,to,k,hn,ht,hk=>by
  have h1:=ik F a to k
  have:(F.length+1)*(1+a.az+b.az)=(F.length+1)+(F.length+1)*a.az+(F.length+1)*b.az:=by simp only[cR,dF]
  simp only[Ty.az]at hk
  have i1:=iO F hF a to k (fun y hy=>hn y (by simp[bg,hy])) ht (by omega)
  have i2:=iO F hF b to _ (fun y hy=>hn y (by simp[bg,hy])) ht (show (gP F a to k).2+_<_ by omega)
  simp only[gP,rj,Ty.az,aB,aJ];omega
 |
  .times a b,to,k,hn,ht,hk=>by
  have h1:=ik F a to k
  have:(F.length+1)*(1+a.az+b.az)=(F.length+1)+(F.length+1)*a.az+(F.length+1)*b.az:=by simp only[cR,dF]
  simp only[Ty.az]at hk
  have i1:=iO F hF a to k (fun y hy=>hn y (by simp[bg,hy])) ht (by omega)
  have i2:=iO F hF b to _ (fun y hy=>hn y (by simp[bg,hy])) ht (show (gP F a to k).2+_<_ by omega)
  simp only[gP,rj,Ty.az,aB,aJ];omega
 |
  .rc a,to,k,hn,ht,hk=>by
  obtain⟨g1,g2,_,_⟩:=gu F k
  have:(F.length+1)*(2+a.az)=(F.length+1)*2+(F.length+1)*a.az:=by simp only[cR]
  simp only[Ty.az]at hk
  have hl:=wt (k:=nx F k) (by omega)
  have i1:=iO F hF a (to++[tN (nx F k)]) (nx F k+1) hn (fun w hw=>by
   rcases aI.1 hw with hw|hw
   ·exact ht w hw
   ·simp only[aL]at hw;rw[hw];exact hl) (by omega)
  simp only[gP,rj,Ty.az,aB,aJ]
  simp only[fQ]
  simp only[aB]at hl |-
  omega
theorem JU(x0 a fv:AV)(F:List Nm)(h0:LK.ptr.has x0)(ha:LK.sl.has a)(hfv:cv fv F)(hF:F.length<100000):∀(n j:Nat),pJ F n j<j+n->j+n<100000000 ->
 BP [x0,a,.v (.string (mk (tN j)))] [.cells [fv],.cells [.v (.int .i64 ((j+1:Nat):Int))]] (fX 1 [x0,a,.v (.string (mk (tN (pJ F n j))))] [.cells [fv],.cells [.v (.int .i64 ((pJ F n j+1:Nat):Int))]])
 |0,j,h,_=>by simp only[pJ]at h;omega
 |
  n+1,j,h,hj=>by
  refine Jz _ _ _ _ _ ?_
  simp only[GB,↓zq,zs,ac,zt,ac,hfv.1,h0,ha]
  refine⟨fun h=>(by simp at h),fun _=>?_⟩
  refine ah (Md F fv hfv (tN j) (by omega)) ?_
  simp only[↓zq,zs,ac,zt]
  rw[pJ]at h |-
  refine⟨fun hm=>?_,fun hm=>?_⟩
  ·rw[if_pos hm]at h |-
   refine ah (GA (j+1) (by omega)) ?_
   have hd:=nO 8 (j+1) (by omega)
   simp only[↓zq,zs,ac,zt,aZ,aM]
   rw[a7 (j+1) (by omega)]
   exact⟨by simp[cy];omega,JU x0 a fv F h0 ha hfv hF n (j+1) (by omega) (by omega)⟩
  ·rw[if_neg hm]
   exact⟨rfl,rfl,rfl⟩
theorem PP(x0 a fv:AV)(F:List Nm)(h0:LK.ptr.has x0)(ha:LK.sl.has a)(hfv:cv fv F)(hF:F.length<10000)(k:Nat)(hk:k<90000000) :
 BP [x0,a,.v (.string (mk []))] [.cells [fv],.cells [.v (.int .i64 (k:Int))]] (fX 1 [x0,a,.v (.string (mk (tN (nx F k))))] [.cells [fv],.cells [.v (.int .i64 ((nx F k+1:Nat):Int))]]):=by
 obtain⟨g1,g2,_,_⟩:=gu F k
 refine Jz _ _ _ _ _ ?_
 simp only[GB,↓zq,zs,ac,zt,ac,hfv.1,h0,ha]
 refine⟨fun _=>?_,fun h=>(by simp at h)⟩
 refine ah (GA k (by omega)) ?_
 have hd:=nO 8 k (by omega)
 simp only[↓zq,zs,ac,zt,aZ,aM]
 rw[a7 k (by omega)]
 exact⟨by simp[cy];omega,JU x0 a fv F h0 ha hfv (by omega) (F.length+1) k (by show nx F k<_;omega) (by omega)⟩
theorem yC(F:List Nm)(fv:AV)(hfv:cv fv F)(hF:F.length<=1000):∀(t:Ty) (to:List Nm) (a:AV) (k:Nat),cv a to->to.length+t.az<10000->jX t to.length->uj t->(∀w,w∈to->w.length<=20)->k+(F.length+1)*t.az<80000000 ->
 an Tryz.prog 176 [t.av,a,.gG 176 [none,some 0,some 1],.ref 0 0,.ref 1 0] [.cells [fv],.cells [.v (.int .i64 (k:Int))]] (cW (.v (.string (mk (fQ (gP F t to k).1)))) [.cells [fv],.cells [.v (.int .i64 ((gP F t to k).2:Int))]])
 |
  .zero,to,a,k,ha,hl,hlc,hs,ht,hk=>by
  refine GL _ _ _ _ ((aC _).mpr trivial) ha.1 hfv.1 ?_
  simp only[DD,Ty.av,↓zq,zs,ac,zt,aC]
  refine⟨by omega,fun h=>by omega,fun _=>⟨fun h=>by omega,fun _=>⟨fun h=>by omega,fun _=>⟨fun h=>by omega,fun _=>⟨fun h=>by omega,fun _=>?_⟩⟩⟩⟩⟩
  repeat refine⟨by omega,?_⟩
  exact⟨⟨rfl,(mK _ _).mpr trivial,trivial⟩,rfl,rfl⟩
 |
  .one,to,a,k,ha,hl,hlc,hs,ht,hk=>by
  refine GL _ _ _ _ ((aC _).mpr trivial) ha.1 hfv.1 ?_
  simp only[DD,Ty.av,↓zq,zs,ac,zt,aC]
  refine⟨by omega,fun h=>by omega,fun _=>⟨fun h=>by omega,fun _=>⟨fun h=>by omega,fun _=>⟨fun h=>by omega,fun _=>⟨fun h=>by omega,fun _=>?_⟩⟩⟩⟩⟩
  repeat refine⟨by omega,?_⟩
  exact⟨⟨rfl,(mK _ _).mpr trivial,trivial⟩,rfl,rfl⟩
 |
  .name s,to,a,k,ha,hl,hlc,hs,ht,hk=>by
  refine GL _ _ _ _ ((aC _).mpr trivial) ha.1 hfv.1 ?_
  simp[DD,Ty.av,↓zq,zs,ac,cW,gP,fQ]
 |
  .bO u,to,a,k,ha,hl,hlc,hs,ht,hk=>by
  have hu:u<to.length:=hlc
  refine GL _ _ _ _ ((aC _).mpr trivial) ha.1 hfv.1 ?_
  simp only[DD,Ty.av,↓zq,zs,ac,zt,ha.len]
  rw[wrap64 ((to.length:Int)-1) (by omega) (by omega),wrap64 _ (by omega) (by omega)]
  have e1:(to.length:Int)-1-(u:Int)=((to.length-1-u:Nat):Int):=by omega
  rw[e1]
  simp only[bx,ha.idx (show to.length-1-u<to.length by omega),↓zq,zs,ac,zt]
  refine⟨by omega,fun h=>by omega,fun _=>⟨fun _=>⟨ha.1,by omega,⟨ha.1,by omega,by omega⟩,by omega,rfl,rfl⟩,fun h=>absurd rfl h⟩⟩
 |
  .plus x y,to,a,k,ha,hl,hlc,hs,ht,hk=>by
  simp only[Ty.az]at hl hk
  have h1:=ik F x to k
  have hm:(F.length+1)*(1+x.az+y.az)=(F.length+1)+(F.length+1)*x.az+(F.length+1)*y.az:=by simp only[cR,dF]
  have sx:uj x:=fun z hz=>hs z (by simp[bg,hz])
  have sy:uj y:=fun z hz=>hs z (by simp[bg,hz])
  have t1:=iO F (by omega) x to k sx ht (by omega)
  have t2:=iO F (by omega) y to (gP F x to k).2 sy ht (by omega)
  have hb:(⟨(bytesOf [[.v (.int .u8 43)]]).toArray⟩:ByteArray)=mk [43]:=rfl
  have h8:i6 [[AV.v (.int .u8 43)]]:=⟨rfl,(mK _ _).mpr trivial,trivial⟩
  refine GL _ _ _ _ ((aC _).mpr trivial) ha.1 hfv.1 ?_
  simp only[DD,Ty.av,↓zq,zs,ac,zt,aC,hb]
  refine⟨by omega,fun h=>by omega,fun _=>⟨fun h=>by omega,fun _=>⟨fun _=>?_,fun h=>absurd rfl h⟩⟩⟩
  repeat refine⟨by omega,?_⟩
  refine aS (yC F fv hfv hF x to a k ha (by omega) hlc.1 sx ht (by omega)) ?_
  simp only[↓zq,zs,ac,zt,bm,hfv.1,hb,aZ,aM]
  repeat (first|refine⟨by omega,?_⟩|refine⟨h8,?_⟩|refine⟨by simp[cy];omega,?_⟩)
  refine aS (yC F fv hfv hF y to a _ ha (by omega) hlc.2 sy ht (by omega)) ?_
  simp only[↓zq,zs,ac,zt,bm,hfv.1,hb,aZ,aM]
  repeat (first|refine⟨by omega,?_⟩|refine⟨h8,?_⟩|refine⟨by simp[cy];omega,?_⟩)
  refine⟨?_,rfl⟩
  simp[gP,fQ,en]
 |
  .times x y,to,a,k,ha,hl,hlc,hs,ht,hk=>by
  simp only[Ty.az]at hl hk
  have h1:=ik F x to k
  have hm:(F.length+1)*(1+x.az+y.az)=(F.length+1)+(F.length+1)*x.az+(F.length+1)*y.az:=by simp only[cR,dF]
  have sx:uj x:=fun z hz=>hs z (by simp[bg,hz])
  have sy:uj y:=fun z hz=>hs z (by simp[bg,hz])
  have t1:=iO F (by omega) x to k sx ht (by omega)
  have t2:=iO F (by omega) y to (gP F x to k).2 sy ht (by omega)
  have hb:(⟨(bytesOf [[.v (.int .u8 42)]]).toArray⟩:ByteArray)=mk [42]:=rfl
  have h8:i6 [[AV.v (.int .u8 42)]]:=⟨rfl,(mK _ _).mpr trivial,trivial⟩
  refine GL _ _ _ _ ((aC _).mpr trivial) ha.1 hfv.1 ?_
  simp only[DD,Ty.av,↓zq,zs,ac,zt,aC,hb]
  refine⟨by omega,fun h=>by omega,fun _=>⟨fun h=>by omega,fun _=>⟨fun h=>by omega,fun _=>⟨fun _=>?_,fun h=>absurd rfl h⟩⟩⟩⟩
  repeat refine⟨by omega,?_⟩
  refine aS (yC F fv hfv hF x to a k ha (by omega) hlc.1 sx ht (by omega)) ?_
  simp only[↓zq,zs,ac,zt,bm,hfv.1,hb,aZ,aM]
  repeat (first|refine⟨by omega,?_⟩|refine⟨h8,?_⟩|refine⟨by simp[cy];omega,?_⟩)
  refine aS (yC F fv hfv hF y to a _ ha (by omega) hlc.2 sy ht (by omega)) ?_
  simp only[↓zq,zs,ac,zt,bm,hfv.1,hb,aZ,aM]
  repeat (first|refine⟨by omega,?_⟩|refine⟨h8,?_⟩|refine⟨by simp[cy];omega,?_⟩)
  refine⟨?_,rfl⟩
  simp[gP,fQ,en]
 |
  .rc x,to,a,k,ha,hl,hlc,hs,ht,hk=>by
  simp only[Ty.az]at hl hk
  obtain⟨g1,g2,_,_⟩:=gu F k
  have hm:(F.length+1)*(2+x.az)=(F.length+1)*2+(F.length+1)*x.az:=by simp only[cR]
  have hln:=wt (k:=nx F k) (by omega)
  have ht':∀w,w∈to++[tN (nx F k)]->w.length<=20:=fun w hw=>by
   rcases aI.1 hw with hw|hw
   ·exact ht w hw
   ·simp only[aL]at hw;rw[hw];exact hln
  have t1:=iO F (by omega) x (to++[tN (nx F k)]) (nx F k+1) hs ht' (by omega)
  have hrc:(Ty.rc x).av=.ptr [.v (.int .u8 114),.v (.string (mk [])),.v (.int .i64 0),x.av,.v (.pointer none)]:=rfl
  refine GL _ _ _ _ ((aC _).mpr trivial) ha.1 hfv.1 ?_
  simp only[DD,Ty.av,↓zq,zs,ac,zt,aC]
  refine⟨by omega,fun h=>by omega,fun _=>⟨fun h=>by omega,fun _=>⟨fun h=>by omega,fun _=>⟨fun h=>by omega,fun _=>⟨fun _=>?_,fun h=>absurd rfl h⟩⟩⟩⟩⟩
  rw[<-hrc]
  repeat refine⟨by omega,?_⟩
  refine cf (PP (Ty.rc x).av a fv F ((aC _).mpr trivial) ha.1 hfv (by omega) k (by omega)) ?_
  simp only[Ty.av,↓zq,zs,ac,zt,ac,bm,hfv.1,ha.1,aC,ha.2,yo,aM,mw,kf]
  have hl2:(dd (nx F k)).length+1<=20:=hln
  have hl3:(tN (nx F k)).length=(dd (nx F k)).length+1:=rfl
  refine⟨by omega,by simp only[ax,aB,aJ,hl3];omega,by omega,by omega,⟨fun c hc=>by simp at hc;rw[hc];rfl,by omega⟩,?_⟩
  refine aS (yC F fv hfv hF x (to++[tN (nx F k)]) _ (nx F k+1) (.of _) (by simp;omega) (by rw[ax];exact hlc) hs ht' (by omega)) ?_
  simp only[↓zq,zs,ac,zt,bm,hfv.1]
  repeat refine⟨by omega,?_⟩
  refine⟨by simp only[ax,aB,aJ,hl3];omega,by simp only[ax,aB,aJ,hl3];omega,?_,rfl⟩
  simp[gP,fQ,en]
theorem Pj(t:Ty)(g:fU t)(hs:uj t)(h4:t.az<=400):an Tryz.prog 151 [t.av] [] (bA (.v (.string (mk (DA t))))):=by
 refine P7 _ ((aC _).mpr trivial) ?_
 unfold Ky
 have hn:=ey t []
 simp only[aJ,aT]at hn
 have hm:((bG t []).length+1)*t.az<=401*400:=Nat.mul_le_mul (by omega) h4
 refine ah (Il t (by omega)) ?_
 simp only[↓zq,zs,ac,zt,ca]
 refine aS (yC (bG t []) _ (.of _) (by omega) t [] zx 0 .nil (by simp;omega) g.1 hs (fun w hw=>by cases hw) (by omega)) ?_
 simp only[↓zq,zs,ac,zt,bm,ca]
 exact⟨rfl,rfl⟩
theorem Od(t:Ty)(g:fU t)(hs:uj t)(hl:t.az<1000000):an Tryz.prog 110 [t.av] [] (bA (s5 (told t))):=by
 refine Ov _ ((aC _).mpr trivial) ?_
 unfold ML
 refine ah (DL t hl) ?_
 simp only[↓zq,zs,ac,zt]
 refine⟨fun h=>?_,fun h=>?_⟩
 ·have:told t=none:=by unfold told;rw[if_neg fun h'=>by have:=h'.1;omega]
  rw[this];exact⟨rfl,rfl⟩
 ·have h4:t.az<=400:=by omega
  refine ah (Pj t g hs h4) ?_
  simp only[↓zq,zs,ac,zt]
  refine ah (FF (DA t)) ?_
  simp only[↓zq,zs,ac,zt,hG]
  unfold told
  cases q:qg (DA t)with
  |
   none =>
   simp only[gZ,↓zq,zs,ac]
   rw[if_neg (by simp)]
   exact⟨fun _=>⟨rfl,rfl⟩,fun h=>(by cases h)⟩
  |
   some u =>
   simp only[gZ,↓zq,zs,ac,fI]
   rw[if_pos ⟨h4,rfl⟩]
   exact⟨fun h=>(by cases h),fun _=>⟨rfl,rfl⟩⟩
theorem QC(s:Nm):an Tryz.prog 85 [.v (.string (mk s))] [] (bA (s5 (cK s))):=by
 refine Oy _ ?_
 unfold IM
 refine ah (FF s) ?_
 simp only[↓zq,zs,ac,zt,hG]
 cases q:qg s with
 |
  none =>
  have:cK s=none:=by unfold cK;rw[q]
  rw[this]
  simp only[gZ,↓zq,zs,ac]
  exact⟨fun _=>⟨rfl,rfl⟩,fun h=>(by cases h)⟩
 |
  some t =>
  simp only[gZ,↓zq,zs,ac,fI]
  have notRec:(∀a,t≠.rc a)->cK s=none:=fun hn=>by
   unfold cK;rw[q]
   cases t<;>first|rfl|exact absurd rfl (hn _)
  refine⟨fun h=>(by cases h),fun _=>?_⟩
  cases t with
  |
   rc a =>
   have h4:=sH q
   simp only[Ty.az]at h4
   have hq:cK s=(oN a lT).bind told:=by unfold cK;rw[q]
   obtain⟨e,he,hw,hte,hats,hok⟩:=o0 q
   have hgood:∀d,oN a lT=some d->fU d/\(uj (.rc a)->uj d):=fun d hd=>qu hw hte ⟨by simp,by simp,by simp⟩ hd
   rw[hq]
   simp only[Ty.av,↓zq,zs,ac]
   refine⟨by omega,fun h=>by omega,fun _=>?_⟩
   have hld:=P5 a (by omega) (fun j=>by
    cases q2:bg (hN j) a with
    |false=>rfl
    |true=>exact absurd rfl ((wj (mC q (hN j) q2)).2 (dd j)))
   simp only[Ty.av]at hld
   refine bU hld (N8.ne _) ?_
   rintro r ob ⟨rfl,p,hp,rfl,hpe⟩
   simp only[↓zq,zs,ac,zt,eq_true hp]
   cases q1:oN a lT with
   |
    none =>
    simp only[bB,bL]
    exact⟨fun _=>⟨rfl,rfl⟩,fun h=>(by cases h)⟩
   |
    some d =>
    simp only[bf,a8]
    refine⟨fun h=>(by cases h),fun _=>?_⟩
    rw[hpe d q1]
    have hl:d.az<=400:=by
     simp only[oN,bn,eW]at q1
     obtain⟨_,_,h1,h2⟩:=q1
     rw[<-h2];exact h1
    refine ah (Od d (hgood d q1).1 ((hgood d q1).2 (Bj q)) (by omega)) ?_
    cases told d<;>simp only[s5,↓zq,zs,ac,zt]<;>exact⟨rfl,rfl⟩
  |
   _ =>
   rw[notRec fun a h=>by cases h]
   simp only[Ty.av,↓zq,zs,ac]
   exact⟨by omega,fun _=>⟨rfl,rfl⟩,fun h=>by omega⟩
end Go.Proofs.Trees
namespace Go.Proofs.Trees
open Go Go.VL Go.RowKit
theorem Du:∀(m:Nat) (c:Vl),c.nodes<=m->∀(t:Ty) (v:Vl),dN t c=true->∀(ea:AV) (ids:List Nat),kh ea ids->∀(s:List UInt8) (fr:AV),LK.has .ptr fr->an Tryz.prog 101 [.agg [t.av,ea],c.cB,.agg [.v (.string (mk s)),fr],v.cB] [] (bA (dC t c v).cB)
 |0,c,hm=>by have:=dE c;omega
 |
  m+1,c,hm=>by
  intro t v hc ea ids he s fr hf
  refine QR _ _ _ _ _ _ ((aC _).mpr trivial) he.has ((aH _).mpr trivial) hf ((aH _).mpr trivial) ?_
  have fin:∀x:AV,LK.has .ptr x->LK.has .ptr x=True:=fun x h=>eq_true h
  cases t with
  |zero=>rw[sO];simp[Ag,Ty.av,↓zq,zs,ac,bA]
  |one=>rw[vr];simp[Ag,Ty.av,↓zq,zs,ac,bA]
  |name n=>rw[mQ];simp[Ag,Ty.av,↓zq,zs,ac,bA]
  |bO u=>rw[qO];simp[Ag,Ty.av,↓zq,zs,ac,bA]
  |
   plus a b =>
   have hL:=zl a.av b.av ea 43 (mk []) 0 ((aC _).mpr trivial) he.has
   have hR:=yN a.av b.av ea 43 (mk []) 0 ((aC _).mpr trivial) he.has
   rcases u6 hc with⟨x,rfl,hx⟩|⟨x,rfl,hx⟩
   ·simp only[Vl.nodes]at hm
    simp only[Ag,Ty.av,↓zq,zs,ac]
    refine⟨by omega,fun _=>?_,fun h=>absurd rfl h⟩
    refine ah hL ?_
    simp only[↓zq,zs,ac,bC,aC,he.has,Vl.cB,aH]
    refine⟨by omega,fun h=>by omega,fun _=>⟨by omega,by omega,?_⟩⟩
    refine ah (Du m x (by omega) a v hx ea ids he s fr hf) ?_
    simp only[↓zq,zs,ac,aH]
    refine ah (yK 108 _ ((aH _).mpr trivial)) ?_
    simp[↓zq,zs,ac,bA,dC,Vl.cB,bY]
   ·simp only[Vl.nodes]at hm
    simp only[Ag,Ty.av,↓zq,zs,ac]
    refine⟨by omega,fun _=>?_,fun h=>absurd rfl h⟩
    refine ah hL ?_
    simp only[↓zq,zs,ac,bC,aC,he.has,Vl.cB,aH]
    refine⟨by omega,fun _=>?_,fun h=>absurd rfl h⟩
    refine ah hR ?_
    simp only[↓zq,zs,ac,bC,aC,he.has,Vl.cB,aH]
    refine⟨by omega,by omega,?_⟩
    refine ah (Du m x (by omega) b v hx ea ids he s fr hf) ?_
    simp only[↓zq,zs,ac,aH]
    refine ah (yK 114 _ ((aH _).mpr trivial)) ?_
    simp[↓zq,zs,ac,bA,dC,Vl.cB,bY]
  |
   times a b =>
   have hL:=zl a.av b.av ea 42 (mk []) 0 ((aC _).mpr trivial) he.has
   have hR:=yN a.av b.av ea 42 (mk []) 0 ((aC _).mpr trivial) he.has
   rcases ss hc with⟨x,y,rfl,hx⟩|⟨x,y,rfl,hx⟩
   ·simp only[Vl.nodes]at hm
    simp only[Ag,Ty.av,↓zq,zs,ac,Vl.cB]
    refine⟨by omega,fun h=>by omega,fun _=>⟨fun _=>⟨by omega,fun _=>?_,fun h=>absurd rfl h⟩,fun h=>absurd rfl h⟩⟩
    refine ah hL ?_
    simp only[↓zq,zs,ac,bC,aC,he.has,Vl.cB,aH]
    repeat refine⟨by omega,?_⟩
    refine ah (Du m x (by omega) a v hx ea ids he s fr hf) ?_
    simp only[↓zq,zs,ac,aH]
    repeat refine⟨by omega,?_⟩
    refine ah (ym _ _ ((aH _).mpr trivial) ((aH _).mpr trivial)) ?_
    simp[↓zq,zs,ac,bA,dC,Vl.cB,bY]
   ·simp only[Vl.nodes]at hm
    simp only[Ag,Ty.av,↓zq,zs,ac,Vl.cB,aH]
    refine⟨by omega,fun h=>by omega,fun _=>⟨fun _=>⟨by omega,fun h=>by omega,fun _=>?_⟩,fun h=>absurd rfl h⟩⟩
    repeat refine⟨by omega,?_⟩
    refine ah hR ?_
    simp only[↓zq,zs,ac,bC,aC,he.has,Vl.cB,aH]
    repeat refine⟨by omega,?_⟩
    refine ah (Du m y (by omega) b v hx ea ids he s fr hf) ?_
    simp only[↓zq,zs,ac,aH]
    refine ah (ym _ _ ((aH _).mpr trivial) ((aH _).mpr trivial)) ?_
    simp[↓zq,zs,ac,bA,dC,Vl.cB,bY]
  |
   rc a =>
   have hin:=C8 a ea ids he
   simp only[Ty.av]at hin
   rcases Av hc with⟨x,rfl,hx⟩|⟨x,y,rfl,hx,hy⟩
   ·simp only[Vl.nodes]at hm
    simp only[Ag,Ty.av,↓zq,zs,ac,Vl.cB,aH]
    refine⟨by omega,fun h=>by omega,fun _=>⟨fun h=>by omega,fun _=>⟨fun _=>?_,fun h=>absurd rfl h⟩⟩⟩
    refine bU hin (by have:=At.ne a ea ids;simpa only[At,Ty.av]using this) ?_
    intro r o hr
    obtain⟨⟨q,hq,rfl⟩,rfl⟩:=hr
    have he2:kh (.ptr [.pid q [(Ty.rc a).av,ea],ea]) (q::ids):=.cons hq he
    have hfr:LK.ptr.has (.pid q [(Ty.rc a).av,ea]):=.inr (.inr ⟨_,_,rfl⟩)
    simp only[Ty.av]at he2 hfr
    simp only[↓zq,zs,ac,bC,aC,he2.has,hfr,Vl.cB,aH,Ty.av]
    repeat refine⟨by omega,?_⟩
    refine⟨fun _=>?_,fun h=>absurd rfl h⟩
    repeat refine⟨by omega,?_⟩
    refine ah (Du m x (by omega) a v hx _ _ he2 s fr hf) ?_
    simp only[↓zq,zs,ac,aH]
    refine ah (yK 102 _ ((aH _).mpr trivial)) ?_
    simp[↓zq,zs,ac,bA,dC,Vl.cB,bY]
   ·simp only[Vl.nodes]at hm
    simp only[Ag,Ty.av,↓zq,zs,ac,Vl.cB,aH]
    refine⟨by omega,fun h=>by omega,fun _=>⟨fun h=>by omega,fun _=>⟨fun _=>?_,fun h=>absurd rfl h⟩⟩⟩
    refine bU hin (by have:=At.ne a ea ids;simpa only[At,Ty.av]using this) ?_
    intro r o hr
    obtain⟨⟨q,hq,rfl⟩,rfl⟩:=hr
    have he2:kh (.ptr [.pid q [(Ty.rc a).av,ea],ea]) (q::ids):=.cons hq he
    have hfr:LK.ptr.has (.pid q [(Ty.rc a).av,ea]):=.inr (.inr ⟨_,_,rfl⟩)
    simp only[Ty.av]at he2 hfr
    simp only[↓zq,zs,ac,bC,aC,he2.has,hfr,Vl.cB,aH,Ty.av]
    repeat refine⟨by omega,?_⟩
    refine fun _=>?_
    repeat refine⟨by omega,?_⟩
    have i1:=Du m y (by omega) (.rc a) v hy ea ids he s fr hf
    simp only[Ty.av]at i1
    refine ah i1 ?_
    simp only[↓zq,zs,ac,aH]
    repeat refine⟨by omega,?_⟩
    refine ah (Du m x (by omega) a (dC (.rc a) y v) hx _ _ he2 [] _ hfr) ?_
    simp only[↓zq,zs,ac,aH]
    refine ah (yK 102 _ ((aH _).mpr trivial)) ?_
    simp[↓zq,zs,ac,bA,dC,Vl.cB,bY]
theorem OQ(a:Ty)(c v:Vl)(hc:dN a c=true):an Tryz.prog 74 [(Ty.rc a).av,c.cB,v.cB] [] (bA (Vl.f (dC a c v)).cB):=by
 refine P8 _ _ _ ((aC _).mpr trivial) ((aH _).mpr trivial) ((aH _).mpr trivial) ?_
 unfold Ii
 refine bU (C8 a ij [] .nil) (At.ne a ij []) ?_
 rintro r o ⟨⟨m,hm,rfl⟩,rfl⟩
 have he2:kh (.ptr [.pid m [(Ty.rc a).av,ij],ij]) [m]:=.cons hm .nil
 have hfr:LK.ptr.has (.pid m [(Ty.rc a).av,ij]):=.inr (.inr ⟨_,_,rfl⟩)
 simp only[Ty.av]at he2 hfr
 simp only[↓zq,zs,ac,bC,aC,he2.has,hfr,Ty.av]
 repeat refine⟨by omega,?_⟩
 refine ah (Du c.nodes c (aq _) a v hc _ _ he2 [] _ hfr) ?_
 simp only[↓zq,zs,ac,aH]
 refine ah (yK 102 _ ((aH _).mpr trivial)) ?_
 simp[↓zq,zs,ac,bA,Vl.cB,bY]
end Go.Proofs.Trees
namespace Go.Proofs.Trees
open Go Go.VL Go.RowKit
def xO(l:List Vl):List (List AV):=l.map fun c=>[c.cB]
theorem lD(l:List Vl):(xO l).length=l.length:=by simp[xO]
theorem xW{l:List Vl}{i:Nat}(h:i<l.length):(xO l).getD i []=[(l[i]).cB]:=by simp[xO,aa,h]
theorem Da(l:List Vl)(c:Vl):xO l++[[c.cB]]=xO (l++[c]):=by simp[xO]
def uk(s:Nm)(a:Ty)(l:List Vl)(v:Vl):AV:=.ptr [.v (.string (mk s)),(Ty.rc a).av,.sl (xO l),v.cB]
def oZ(s:Nm)(a:Ty):Option (List Vl×Vl)->AV
 |some r=>uk s a r.1 r.2
 |none=>ij
theorem ww(s:Nm)(a:Ty)(o:Option (List Vl×Vl)):LK.has .ptr (oZ s a o)=True:=by cases o<;>simp[oZ,uk,iT,bY]
theorem C9(v:Vl):(Vl.f v).nodes=v.nodes+1:=by simp only[Vl.nodes];omega
theorem L4(s:Nm)(a:Ty)(l:List Vl)(v:Vl)(h:ZI a l v)(hl:l.length<=50):an Tryz.prog 46 [uk s a l v] [] (bA (oZ s a (qf a l v))):=by
 refine Rs _ ((bY _).mpr trivial) ?_
 simp only[LB,uk,↓zq,zs,ac,lD]
 refine⟨fun h=>(by cases h),fun _=>?_⟩
 repeat refine⟨by omega,?_⟩
 unfold qf
 refine⟨fun h0=>?_,fun h0=>?_⟩
 ·have:l=[]:=bT (by omega)
  subst this
  exact⟨rfl,rfl⟩
 ·have hpos:0<l.length:=by omega
  have hne:l≠[]:=by rintro rfl;simp at hpos
  rw[wrap64 ((l.length:Int)-1) (by omega) (by omega)]
  have e1:((l.length:Int)-1).toNat=l.length-1:=by omega
  have hlt:l.length-1<l.length:=by omega
  have hlast:l.getLast?=some (l[l.length-1]):=by rw[List.getLast?_eq_some_getLast hne,List.getLast_eq_getElem]
  rw[hlast]
  have hC:=h.CU _ (bD hlt)
  generalize hc:l[l.length-1]=c at *
  simp only[e1,xW hlt,hc,↓zq,zs,ac,aH,aC]
  repeat refine⟨by omega,?_⟩
  refine ah (OQ a c v hC.ok) ?_
  simp only[↓zq,zs,ac,aH]
  have hn:=rl a c v
  have h1:=hC.nd
  have h2:=h.uR.nd
  refine ah (D8 (.f (dC a c v)) (by rw[C9];omega)) ?_
  simp only[↓zq,zs,ac,aH,aC]
  refine⟨fun hb=>?_,fun hb=>?_⟩
  ·rw[if_neg (by omega)];exact⟨rfl,rfl⟩
  ·rw[if_pos (by omega)]
   repeat refine⟨by omega,?_⟩
   refine⟨?_,rfl⟩
   have:(xO l).take (l.length-1)=xO l.dropLast:=by rw[List.dropLast_eq_take];simp[xO]
   simp only[oZ,uk,Int.toNat_zero,a6,this]
theorem Kp{s d:Nm}{a:Ty}{x A B:E}{D:Ty}(z:ZT s d a x A B D)(pa:AV)(p:List Nm)(hp:cv pa p)(hl:p.length<=50)(v:Vl):∀(k i:Nat) (l0:List Vl),i+k=p.length->l0.length<=i ->
 Ee [.v (.string (mk d)),pa,.v (.int .i64 (p.length:Int)),.v (.int .i64 (i:Int))] [.cells [.v (.string (mk s)),(Ty.rc a).av,.any,v.cB],.vec 1 (xO l0)]
  (nr (match eJ d (p.drop i)with|some l=>(1,[],[.cells [.v (.string (mk s)),(Ty.rc a).av,.any,v.cB],.vec 1 (xO (l0++l))])|none=>(2,[ij],[])))
 |
  0,i,l0,hi,HM=>by
  refine Is _ _ _ _ _ _ _ _ ?_
  have:i=p.length:=by omega
  subst this
  simp only[EX,↓zq,zs,ac,ac,aC,aH,List.drop_length]
  exact⟨hp.1,fun h=>by omega,fun _=>by simp[nr,eJ]⟩
 |
  k+1,i,l0,hi,HM=>by
  have hlt:i<p.length:=by omega
  have hd:p.drop i=p.getD i []::p.drop (i+1):=by rw[aN hlt];simp[aa,hlt]
  refine Is _ _ _ _ _ _ _ _ ?_
  simp only[EX,↓zq,zs,ac,zt,ac,aC,aH,hp.len,hp.idx hlt,bx]
  refine⟨hp.1,fun _=>⟨⟨hp.1,by omega,by omega⟩,by omega,?_⟩,fun h=>by omega⟩
  refine ah (H6 d (p.getD i []) 100) ?_
  rw[hd,eJ]
  simp only[↓zq,zs,ac,zt,hG,gn]
  cases q:nH d (p.getD i []) 100 with
  |
   none =>
   simp only[i7,↓zq,zs,ac]
   exact⟨fun _=>by first|trivial|rfl,fun h=>(by cases h)⟩
  |
   some w =>
   simp only[i7,↓zq,zs,ac,fu,Da]
   refine⟨fun h=>(by cases h),fun _=>?_⟩
   rw[a7 i (by omega)]
   have ih:=Kp z pa p hp hl v k (i+1) (l0++[w]) (by omega) (by simp;omega)
   refine⟨⟨fun c hc=>by simp at hc;rw[hc];rfl,by rw[lD];omega⟩,?_⟩
   cases q2:eJ d (p.drop (i+1))with
   |none=>rw[q2]at ih;exact ih
   |some l=>rw[q2]at ih;simp only[aU,aZ,aM]at ih;exact ih
theorem ri{s:Nm}{p:List Nm}{f:Nm}{l:List Vl}{v:Vl}(h:yj s p f=some (l,v)):∃d a x A B D,ZT s d a x A B D/\ZI a l v/\p=l.map (·.cV)/\f=v.cV/\p.length<=50/\zA s=a/\pX s f=some v/\eJ d p=some l:=by
 unfold yj at h
 split at h
 ·rename_i v' d h1 h2
  split at h
  ·rename_i hl
   obtain⟨l',h3,h4⟩:=Option.map_eq_some_iff.1 h
   cases h4
   obtain⟨a,_,_,_,L⟩:=oU h1
   obtain⟨x,A,B,D,z⟩:=ZT.of L.l h2
   obtain⟨q1,q2⟩:=qt z p l h3
   obtain⟨q3,q4⟩:=z.uR h1
   exact⟨d,a,x,A,B,D,z,⟨q2,q3⟩,q1,q4,hl,by unfold zA;rw[L.l];rfl,h1,h3⟩
  ·cases h
 ·cases h
theorem Po(s:Nm)(pa:AV)(p:List Nm)(hp:cv pa p)(f:Nm):an Tryz.prog 63 [.agg [.v (.string (mk s)),pa,.v (.string (mk f))]] [] (bA (oZ s (zA s) (yj s p f))):=by
 refine PE _ _ _ hp.1 ?_
 unfold NH
 refine ah (O1 s f) ?_
 have hlt:LK.has .ptr (Hd s)=True:=by unfold Hd;split<;>simp[aC,iT]
 simp only[↓zq,zs,ac,zt,hlt,gn]
 refine ah (QC s) ?_
 have ho:∀o:Option Nm,s5 o=.cN [.v (.string (mk (o.getD []))),.v (.bool o.isSome)]:=fun o=>by cases o<;>rfl
 rw[ho]
 simp only[↓zq,zs,ac,zt]
 unfold yj
 cases h1:pX s f with
 |
  none =>
  simp only[i7,↓zq,zs,ac]
  exact⟨fun _=>⟨rfl,rfl⟩,fun h=>(by cases h)⟩
 |
  some v =>
  simp only[i7,↓zq,zs,ac,fu]
  refine⟨fun h=>(by cases h),fun _=>?_⟩
  cases h2:cK s with
  |
   none =>
   simp only[bB]
   exact⟨fun _=>⟨rfl,rfl⟩,fun h=>(by cases h)⟩
  |
   some d =>
   simp only[bf,cx,hp.len]
   refine⟨fun h=>(by cases h),fun _=>⟨hp.1,fun h=>?_,fun h=>?_⟩⟩
   ·rw[if_neg (by omega)];exact⟨rfl,rfl⟩
   ·have hl:p.length<=50:=by omega
    rw[if_pos hl]
    obtain⟨a,_,_,_,L⟩:=oU h1
    obtain⟨x,A,B,D,z⟩:=ZT.of L.l h2
    have ht:Hd s=(Ty.rc a).av:=by unfold Hd;rw[L.l]
    have hza:zA s=a:=by unfold zA;rw[L.l];rfl
    rw[ht,hza]
    refine⟨hp.1,?_⟩
    have hloop:=Kp z pa p hp hl v p.length 0 [] (by omega) (by simp)
    rw[a6]at hloop
    refine eX hloop (fun ys o e=>?_) (fun ys o e=>?_)
    ·cases q:eJ d p with
     |none=>rw[q]at e;cases e
     |
      some l =>
      rw[q]at e
      cases e
      simp only[↓zq,zs,ac,zt,ac,bm,aC,aH,ck]
      exact⟨rfl,rfl⟩
    ·cases q:eJ d p with
     |
      none =>
      rw[q]at e
      cases e
      simp only[↓zq,zs,ac,zt,ac,bm,Option.map_none]
      exact⟨rfl,rfl⟩
     |some l=>rw[q]at e;cases e
theorem Kd(s:Nm)(a:Ty)(x3:AV)(h3:LK.ptr.has x3):∀(n:Nat) (l:List Vl) (v:Vl),l.length=n->ZI a l v->n<=50 ->
 D3 [x3,uk s a l v] [] (nr (if(jq n a l v).isSome=true then(1,[x3],[])else(2,[ij],[])))
 |
  0,l,v,hl,h,hn=>by
  refine MI _ _ ?_
  simp only[Fx,uk,↓zq,zs,ac,h3,lD,hl,jq]
  repeat refine⟨by omega,?_⟩
  exact fun _=>by simp[nr]
 |
  n+1,l,v,hl,h,hn=>by
  refine MI _ _ ?_
  have hup:=L4 s a l v h (by omega)
  simp only[Fx,↓zq,zs,ac,h3]
  simp only[uk,↓zq,zs,ac,lD,hl]at hup |-
  repeat refine⟨by omega,?_⟩
  refine⟨fun _=>?_,fun h=>by omega⟩
  refine ah hup ?_
  simp only[↓zq,zs,ac,ww]
  rw[jq]
  cases q:qf a l v with
  |
   none =>
   simp only[oZ,↓zq,zs,ac,bL]
   exact⟨fun _=>by simp[nr],fun h=>(by cases h)⟩
  |
   some r =>
   obtain⟨hz,hlen,_⟩:=wh h q
   have ih:=Kd s a x3 h3 n r.1 r.2 (by omega) hz (by omega)
   simp only[oZ,uk,↓zq,zs,ac,a8]at ih |-
   exact⟨fun h=>(by cases h),fun _=>ih⟩
theorem RX(s:Nm)(pa:AV)(p:List Nm)(hp:cv pa p)(f:Nm):an Tryz.prog 45 [.agg [.v (.string (mk s)),pa,.v (.string (mk f))]] [] (bA (oZ s (zA s) (mf s p f))):=by
 refine PO _ _ _ hp.1 ?_
 unfold Mg
 refine ah (Po s pa p hp f) ?_
 simp only[↓zq,zs,ac,zt,ww]
 unfold mf
 cases q:yj s p f with
 |
  none =>
  simp only[oZ,↓zq,zs,ac,bL]
  exact⟨fun _=>⟨rfl,rfl⟩,fun h=>(by cases h)⟩
 |
  some r =>
  obtain⟨l,v⟩:=r
  obtain⟨d,a,x,A,B,D,z,hz,hpt,hft,hl,hza,_,_⟩:=ri q
  rw[hza]
  have hll:l.length<=50:=by rw[hpt]at hl;simpa using hl
  have hloop:=Kd s a (uk s a l v) ((bY _).mpr trivial) l.length l v rfl hz hll
  simp only[oZ,a8]
  refine⟨fun h=>(by cases h),fun _=>?_⟩
  unfold u7
  refine eX hloop (fun ys o e=>?_) (fun ys o e=>?_)
  ·split at e
   ·rename_i hc
    cases e
    rw[if_pos hc]
    simp only[↓zq,zs,ac,uk,bY]
    exact⟨rfl,rfl⟩
   ·cases e
  ·split at e
   ·cases e
   ·rename_i hc
    cases e
    rw[if_neg hc]
    simp only[↓zq,zs,ac]
    exact⟨rfl,rfl⟩
end Go.Proofs.Trees
namespace Go.Proofs.Trees
open Go Go.VL
theorem jI(l:List (List UInt8)):∀x,x∈[Ob.vec 1 (bo l)]->gz x:=by
 intro x hx
 simp only[aL]at hx
 subst hx
 intro e he c hc
 simp only[bo,cd]at he
 obtain⟨k,_,rfl⟩:=he
 simp only[aL]at hc
 exact⟨_,hc⟩
def dz(k:Nat):List UInt8:=if k=0 then []else dd k
theorem Df{k:Nat}(h:0<k)(s:List UInt8):dz (k/10)++([ba (48+k%10)]++s)=dz k++s:=by
 have e:dz k=dd k:=if_neg (by omega)
 rw[e]
 by_cases hk:k<10
 ·have e2:dz (k/10)=[]:=if_pos (by omega)
  rw[e2,eE hk,show k%10=k by omega];rfl
 ·have e2:dz (k/10)=dd (k/10):=if_neg (by omega)
  rw[e2,fk hk,aU]
def HR(k:Nat):List UInt8:=109::(if k=0 then [48]else dd k)
theorem Im:∀(n k:Nat) (s:List UInt8),k<n->k<1000000000->s.length+k<=2000000000->Dg [.v (.int .i64 (k:Int)),.v (.string (mk s))] [] (fX 1 [.v (.string (mk (dz k++s)))] [])
 |0,k,s,h,_,_=>by omega
 |
  n+1,k,s,h,hk,hs=>by
  refine OP _ _ ?_
  simp only[Jp,↓zq,zs,ac]
  have e1:IntKind.wrap .i64 (Int.tdiv (k:Int) 10)=((k/10:Nat):Int):=by
   rw[show Int.tdiv (k:Int) 10=((k/10:Nat):Int) from (Int.ofNat_tdiv k 10).symm,wrap64 _ (by omega) (by omega)]
  have e2:Int.tmod (k:Int) 10=((k%10:Nat):Int):=(Int.ofNat_tmod k 10).symm
  rw[e1,e2,ub (k%10) (by omega)]
  refine⟨fun hp=>⟨by omega,jx _,?_,by omega,?_⟩,fun hp=>?_⟩
  ·rw[ka]
   show (mk [_]).size+(mk s).size<=_
   rw[cy,cy];simp;omega
  ·rw[ka]
   have:=Im n (k/10) ([ba (48+k%10)]++s) (by omega) (by omega) (by simp;omega)
   rw[Df (by omega)]at this
   show Dg [_,.v (.string (mk [_]++mk s))] [] _
   rw[jB];exact this
  ·have:k=0:=by omega
   subst this
   simp[fX,dz]
theorem Cu(k:Nat):(dd k).length<=k+1:=lC (k+1) k (by omega)
theorem QU(k:Nat)(hk:k<1000000000):an Tryz.prog 78 [.v (.int .i64 (k:Int))] [] (bA (.v (.string (mk (HR k))))):=by
 refine O9 _ ?_
 simp only[J6,↓zq,zs,ac,bA]
 refine⟨fun h=>?_,fun h=>?_⟩
 ·have:k=0:=by omega
  subst this;rfl
 ·refine cf (Im (k+1) k [] (by omega) hk (by simp;omega)) ?_
  have hl:=Cu k
  simp only[cA,dz,↓zq,zs,ac,zt,if_neg (show ¬k=0 by omega)]
  refine⟨?_,?_⟩
  ·simp[cy];omega
  ·rw[HR,if_neg (by omega)];rfl
def CQ(k n:Nat):List (List UInt8):=(List.range' k n).map HR
theorem zX(k n:Nat):CQ k (n+1)=HR k::CQ (k+1) n:=by simp[CQ,List.range'_succ]
theorem nk(l:List (List UInt8)):(bo l).length=l.length:=by simp[bo]
theorem qv{l:List (List UInt8)}{i:Nat}(hi:i<l.length)(s:List UInt8):(bo l).set i (((bo l).getD i []).set 0 (.v (.string (mk s))))=bo (l.set i s):=by
 have:(bo l).getD i []=[.v (.string (mk (l[i])))]:=by simp[bo,aa,hi]
 rw[this];simp[bo,List.map_set]
theorem JS:∀(m i k:Nat) (l:List (List UInt8)),i+m=l.length->l.length<=2000000->k+m<=4000000->HD [.v (.int .i64 (k:Int)),.v (.int .i64 (i:Int))] [.vec 1 (bo l)] (fX 1 [.v (.int .i64 ((k+m:Nat):Int))] [.vec 1 (bo (l.take i++CQ k m))])
 |
  0,i,k,l,hi,hl,hk=>by
  refine Ls _ _ _ ?_
  simp only[Fl,↓zq,zs,ac,nk]
  refine⟨fun h=>by omega,fun _=>?_⟩
  have:l.take i=l:=List.take_of_length_le (by omega)
  simp[fX,this,CQ]
 |
  m+1,i,k,l,hi,hl,hk=>by
  have hlt:i<l.length:=by omega
  refine Ls _ _ _ ?_
  simp only[Fl,↓zq,zs,ac,nk]
  refine⟨fun _=>?_,fun h=>by omega⟩
  refine ah (QU k (by omega)) ?_
  simp only[↓zq,zs,ac,zt,bx,qv hlt]
  refine⟨⟨by omega,by omega⟩,⟨hlt,by omega⟩,?_⟩
  have:=JS m (i+1) (k+1) (l.set i (HR k)) (by simp;omega) (by simpa using hl) (by omega)
  rw[a7 i (by omega),a7 k (by omega)]
  have e:(l.set i (HR k)).take (i+1)++CQ (k+1) m=l.take i++CQ k (m+1):=by
   rw[zX,List.take_succ_eq_append_getElem (by simpa using hlt),List.take_set_of_le (aq _)];simp
  rw[e,show k+1+m=k+(m+1) by omega]at this
  exact this
theorem Og(k:Nat)(l:List (List UInt8))(hl:l.length<=2000000)(hk:k<=1000000):an Tryz.prog 50 [.vec 0,.v (.int .i64 (k:Int))] [.vec 1 (bo l)] (cW (.v (.int .i64 ((k+l.length:Nat):Int))) [.gm 1 (bo (CQ k l.length))]):=by
 refine Px _ _ ?_
 unfold Nd
 have:=JS l.length 0 k l (by omega) hl (by omega)
 rw[List.take_zero,aM]at this
 refine cf this ?_
 simp[↓zq,zs,ac,cW,Ob.es]
theorem K4(a b:AV)(l:List (List UInt8))(ha:cv a l)(hb:cv b l)(hl:l.length<=2000000):∀(m i:Nat),i+m=l.length->GH [a,b,.v (.int .i64 (i:Int))] [] (fX 1 [] [])
 |
  0,i,hi=>by
  refine Lb _ _ _ ?_
  simp only[Hh,↓zq,zs,ac,ha.len]
  exact⟨ha.1,hb.1,ha.1,fun h=>by omega,fun _=>⟨rfl,rfl,rfl⟩⟩
 |
  m+1,i,hi=>by
  have hlt:i<l.length:=by omega
  refine Lb _ _ _ ?_
  simp only[Hh,↓zq,zs,ac,zt,ha.len,hb.len,ha.idx hlt,hb.idx hlt,bx]
  refine⟨ha.1,hb.1,ha.1,fun _=>⟨⟨ha.1,by omega,by omega⟩,by omega,⟨hb.1,by omega,by omega⟩,by omega,fun h=>by simp at h,fun _=>?_⟩,fun h=>by omega⟩
  rw[a7 i (by omega)]
  exact K4 a b l ha hb hl m (i+1) (by omega)
theorem Qt(a b:AV)(l:List (List UInt8))(ha:cv a l)(hb:cv b l)(hl:l.length<=2000000):an Tryz.prog 49 [a,b] [] (bA (.v (.bool true))):=by
 refine Om _ _ ha.1 hb.1 ?_
 simp only[L3,↓zq,zs,ac,ha.len,hb.len]
 refine⟨ha.1,hb.1,fun h=>by simp at h,fun _=>?_⟩
 refine cf (K4 a b l ha hb hl l.length 0 (by omega)) ?_
 simp[bA,↓zq,zs,ac]
end Go.Proofs.Trees
namespace Go.Proofs.Trees
open Go Go.VL Go.RowKit
abbrev tZ(s:Nm):Option (List Vl×Vl)->Nm×List Nm×Nm
 |some r=>(s,r.1.map (·.cV),r.2.cV)
 |none=>([],[],[])
def GZ(o:Option (List Vl×Vl)):Prop:=∀r,o=some r->(∀c,c∈r.1->c.cV.length<=900000)/\r.2.cV.length<=900000/\r.1.length<=51
theorem Cx.cV{a:Ty}{c:Vl}(h:Cx a c):c.cV.length<=900000:=by have:=iV c h.ir;have:=h.nd;omega
theorem Fo.cV{a:Ty}{c:Vl}(h:Fo a c):c.cV.length<=900000:=by have:=iV c h.ir;have:=h.nd;omega
theorem GZ.none:GZ none:=fun r hr=>by cases hr
theorem jz{s:Nm}{p:List Nm}{f:Nm}{l:List Vl}{v:Vl}(h:mf s p f=some (l,v)):yj s p f=some (l,v)/\(u7 (zA s) l v).isSome=true:=by
 unfold mf at h
 obtain⟨r,h1,h2⟩:=bn.1 h
 split at h2
 ·rename_i hc
  cases h2
  exact⟨h1,hc⟩
 ·cases h2
end Go.Proofs.Trees
namespace Go.Proofs.Trees
open Go Go.VL Go.RowKit
def lF:E->Option E
 | .list [x,a,b]=>if x.at=[114,101,99]then some (.list [x,a,b])else none
 |_=>none
def oc(s:List UInt8):Option E:=match jt s with
 |some e=>lF e
 |none=>none
theorem GY(s:List UInt8):an Tryz.prog 88 [.v (.string (mk s))] [] (jO (oc s) (oc s).isSome):=by
 refine Qu _ ?_
 unfold Mq
 refine bU (Np s) (jO.ne _ _ (fun h=>h)) ?_
 rintro r o ⟨c,d,hd,rfl,hh⟩
 have hhas:bC [.str,.sl] [.v (.string (mk c)),d] 0:=by simp[bC,ej,hd]
 simp only[↓zq,zs,ac,zt]
 refine⟨hhas,fun h=>?_,fun h=>?_⟩
 ·obtain⟨e,he,hce⟩:=hh h
  obtain⟨t,h1,hA,h3,h4,h5,_⟩:=iE he
  have hce':=hce
  rw[dw]at hce'
  simp only[AV.agg.injEq,List.cons.injEq,AV.v.injEq,Value.string.injEq,and_true]at hce'
  obtain⟨hc1,rfl⟩:=hce'
  have hc2:=Bg hc1
  subst hc2
  have head:∀w:List UInt8,an Tryz.prog 121 [.agg [.v (.string (mk e.at)),e.sp]] [] (bA (.v (.string (mk w))))->(w=[114,101,99]↔(lF e).isSome=true)->((lF e).isSome=true->lF e=some e) ->
   eN Tryz.prog 18 (Tree.call 121 [.agg [.v (.string (mk e.at)),e.sp]] [] fun r2 o2=>Tree.al (LK.str.has r2) (Tree.done 0 [.cN [.agg [.v (.string (mk e.at)),e.sp],.v (.bool (ae r2.ai==[114,101,99]))]] [])) fun _ xs obs=>jO (oc s) (oc s).isSome (xs.headD .any) obs:=by
   intro w hw h1 h2
   refine ah hw ?_
   simp only[↓zq,zs,ac,zt]
   refine⟨e.at,e.sp,hd,?_,fun hs=>⟨e,?_,(dw e).symm⟩⟩
   ·congr 3
    simp only[oc,he,AV.v.injEq,Value.bool.injEq,List.cons.injEq,and_true]
    rw[cz];simpa using h1
   ·simp only[oc,he]at hs |-;exact h2 hs
  have hl:∀x l,e=.list (x::l)->an Tryz.prog 121 [.agg [.v (.string (mk e.at)),e.sp]] [] (bA (.v (.string (mk x.at)))):=by
   rintro x l rfl;exact ur x l
  have ha:∀s0,e=.atom s0->an Tryz.prog 121 [.agg [.v (.string (mk e.at)),e.sp]] [] (bA (.v (.string (mk [])))):=by
   rintro s0 rfl;exact Cv s0 _ ((bw).mpr trivial) hA.ok
  rcases gl hA.wf hA.ty with⟨hb,_⟩|⟨u,g,rfl,_,hg⟩
  ·rcases fD hA.ty hb hA.cl with⟨rfl,rfl⟩|⟨rfl,rfl⟩|⟨s0,rfl,rfl,hp,h0,h1⟩|⟨x,a,b,t1,t2,rfl,hx,rfl,ha',hbb⟩|⟨x,a,b,t1,t2,rfl,hx,rfl,ha',hbb⟩|⟨x,a,b,t1,rfl,hx,rfl⟩
   ·exact head _ (ha _ rfl) (by simp[lF]) (by simp[lF])
   ·exact head _ (ha _ rfl) (by simp[lF]) (by simp[lF])
   ·exact head _ (ha _ rfl) (by simp[lF]) (by simp[lF])
   ·exact head _ (hl _ _ rfl) (by simp[lF,hx]) (by simp[lF,hx])
   ·exact head _ (hl _ _ rfl) (by simp[lF,hx]) (by simp[lF,hx])
   ·exact head _ (hl _ _ rfl) (by simp[lF,hx]) (by simp[lF,hx])
  ·simp at hg
 ·have hn:jt s=none:=by cases hq:jt s<;>simp[hq]at h |-
  refine⟨c,d,hd,?_,fun h=>?_⟩
  ·simp[oc,hn]
  ·simp[oc,hn]at h
theorem AT(s:List UInt8):(oc s).isSome=(kp s).isSome:=by
 unfold oc kp
 cases h:jt s with
 |none=>rw[mD h];rfl
 |
  some e =>
  obtain⟨t,h1,hA,h3,h4,h5,_⟩:=iE h
  rw[h1]
  simp only
  rcases gl hA.wf hA.ty with⟨hb,_⟩|⟨u,g,rfl,_,hg⟩
  ·rcases fD hA.ty hb hA.cl with⟨rfl,rfl⟩|⟨rfl,rfl⟩|⟨s0,rfl,rfl,hp,h0,h1⟩|⟨x,a,b,t1,t2,rfl,hx,rfl,ha',hbb⟩|⟨x,a,b,t1,t2,rfl,hx,rfl,ha',hbb⟩|⟨x,a,b,t1,rfl,hx,rfl⟩<;>simp_all[lF]
  ·simp at hg
theorem LV.le{s v:List UInt8}{w:Vl}{a:Ty}{x A B:E}(h:LV s v w a x A B):oc s=some (.list [x,A,B]):=by
 unfold oc;rw[h.ce];simp[lF,h.hx]
theorem Qp(n:Nat)(v:Vl)(x A B:E)(a:Ty)(hA:Ask B [.mk A.at (.list [x,A,B]) []] a)(hx:x.at=[114,101,99])(w:Vl)(hw:v=.f w)(hv:eQ n v (.list [x,A,B],[])=true)(hl:v.nodes<90000) :
 an Tryz.prog 92 [.agg [.v (.string (mk B.at)),B.sp],.v (.string (mk A.at)),.agg [.v (.string (mk w.cG.at)),w.cG.sp]] [] (bA (.sl (lP (kids a v)))):=by
 subst hw
 obtain⟨w',e,hw'⟩:=ua .nil hx hv
 cases e
 simp only[Vl.nodes]at hl
 have hnm:names [Fr.mk A.at (.list [x,A,B]) []]=[]++[A.at]:=rfl
 have h:=DP n w.nodes w (aq _) B _ a hA hw' (by simp;omega) A.at (by rw[hnm];right;rw[ff];rfl)
 rw[hnm,uY]at h
 exact h
end Go.Proofs.Trees
namespace Go.Proofs.Trees
open Go Go.VL Go.RowKit
def PZ(e:E)(s:List UInt8)(t:Ty)(c v:Vl):Prop:=an Tryz.prog 99 [.agg [.v (.string (mk e.at)),e.sp],.v (.string (mk s)),.agg [.v (.string (mk c.cG.at)),c.cG.sp],.agg [.v (.string (mk v.cG.at)),v.cG.sp]] [] (bA (.agg [.v (.string (mk (dC t c v).cG.at)),(dC t c v).cG.sp]))
theorem DU:∀(m:Nat) (c:Vl),c.nodes<=m->∀(e:E) (env:List Fr) (t:Ty),Ask e env t->dN t c=true->∀(s:List UInt8) (v:Vl),PZ e s t c v
 |0,c,hm=>by have:=dE c;omega
 |
  m+1,c,hm=>by
  intro e env t A hc s v
  unfold PZ
  refine RE _ _ _ _ _ _ _ ((aY _).mpr trivial) ((aY _).mpr trivial) ((aY _).mpr trivial) ?_
  have atomCase:∀s0,e=.atom s0->dC t c v=v->eN Tryz.prog 244 (CY (mk e.at) e.sp (mk s) (mk c.cG.at) c.cG.sp (mk v.cG.at) v.cG.sp) fun _ xs obs=>bA (.agg [.v (.string (mk (dC t c v).cG.at)),(dC t c v).cG.sp]) (xs.headD .any) obs:=by
   rintro s0 rfl hp
   have hne:s0≠[]:=A.ok
   rw[hp]
   simp only[CY,E.at,↓zq,zs,ac,zt,bA]
   exact⟨fun _=>trivial,fun h=>absurd h hne⟩
  have hvh:=zN c
  rw[dw]at hvh
  rcases gl A.wf A.ty with⟨hb,hq⟩|⟨u,g,rfl,hq,hu⟩
  ·rcases fD A.ty hb A.cl with⟨rfl,rfl⟩|⟨rfl,rfl⟩|⟨s0,rfl,rfl,hp,h0,h1⟩|⟨x,a,b,t1,t2,rfl,hx,rfl,ha,hbb⟩|⟨x,a,b,t1,t2,rfl,hx,rfl,ha,hbb⟩|⟨x,a,b,t1,rfl,hx,rfl⟩
   ·exact atomCase _ rfl (sO _ _)
   ·exact atomCase _ rfl (vr _ _)
   ·exact atomCase _ rfl (mQ _ _ _)
   ·obtain⟨ok1,ok2,ok3,_⟩:=A.ok
    obtain⟨f1,f2⟩:=fm A.cl
    have hP:=P3.of x a b
    have hH:an Tryz.prog 121 [.agg [.v (.string (mk [])),(E.list [x,a,b]).sp]] [] (bA (.v (.string (mk [43])))):=by rw[<-hx];exact ur x [a,b]
    rcases u6 hc with⟨y,rfl,hy⟩|⟨y,rfl,hy⟩
    ·simp only[Vl.nodes]at hm
     have hW:=P2.of (.atom [108]) y.cG
     simp only[Vl.cG,bS]at hvh
     simp only[CY,bS,Vl.cG,toNat_one,bi,↓zq,zs,ac,zt,hP.1,hP.2.1,hP.2.2.1,hP.2.2.2,hW.1,hW.2.1,hW.2.2,aR]
     refine⟨fun h=>absurd rfl h,fun _=>?_⟩
     repeat refine⟨by omega,?_⟩
     refine ah hH ?_
     simp only[↓zq,zs,ac,zt]
     refine ah hvh ?_
     simp only[vh,↓zq,zs,ac,zt,aZ,aM]
     refine⟨by simp[cy],fun _=>?_,fun h=>absurd rfl h⟩
     repeat refine⟨by omega,?_⟩
     refine ah (DU m y (by omega) a env t1 ⟨ok2,A.wf,ha,f1⟩ hy s v) ?_
     simp only[↓zq,zs,ac,zt,aR]
     repeat refine⟨by omega,?_⟩
     refine ah (zB _ _) ?_
     simp only[↓zq,zs,ac,zt,aR]
     repeat refine⟨by omega,?_⟩
     exact⟨rfl,rfl⟩
    ·simp only[Vl.nodes]at hm
     have hW:=P2.of (.atom [114]) y.cG
     simp only[Vl.cG,bS]at hvh
     simp only[CY,bS,Vl.cG,toNat_one,bi,↓zq,zs,ac,zt,hP.1,hP.2.1,hP.2.2.1,hP.2.2.2,hW.1,hW.2.1,hW.2.2,aR]
     refine⟨fun h=>absurd rfl h,fun _=>?_⟩
     repeat refine⟨by omega,?_⟩
     refine ah hH ?_
     simp only[↓zq,zs,ac,zt]
     refine ah hvh ?_
     simp only[vh,↓zq,zs,ac,zt,aZ,aM]
     refine⟨by simp[cy],fun h=>by simp at h,fun _=>⟨fun _=>?_,fun h=>absurd rfl h⟩⟩
     repeat refine⟨by omega,?_⟩
     refine ah (DU m y (by omega) b env t2 ⟨ok3,A.wf,hbb,f2⟩ hy s v) ?_
     simp only[↓zq,zs,ac,zt,aR]
     repeat refine⟨by omega,?_⟩
     refine ah (zB _ _) ?_
     simp only[↓zq,zs,ac,zt,aR]
     repeat refine⟨by omega,?_⟩
     exact⟨rfl,rfl⟩
   ·obtain⟨ok1,ok2,ok3,_⟩:=A.ok
    obtain⟨f1,f2⟩:=eM A.cl
    have hP:=P3.of x a b
    have hH:an Tryz.prog 121 [.agg [.v (.string (mk [])),(E.list [x,a,b]).sp]] [] (bA (.v (.string (mk [42])))):=by rw[<-hx];exact ur x [a,b]
    rcases ss hc with⟨y,z,rfl,hy⟩|⟨y,z,rfl,hy⟩
    ·simp only[Vl.nodes]at hm
     have hW:=P2.of (.atom [108]) (E.list [.atom [112],y.cG,z.cG])
     have hQ:=P3.of (.atom [112]) y.cG z.cG
     simp only[Vl.cG,bS]at hvh
     simp only[CY,bS,Vl.cG,toNat_one,bi,↓zq,zs,ac,zt,hP.1,hP.2.1,hP.2.2.1,hP.2.2.2,hW.1,hW.2.1,hW.2.2,hQ.1,hQ.2.1,hQ.2.2.1,hQ.2.2.2,aR]
     refine⟨fun h=>absurd rfl h,fun _=>?_⟩
     repeat refine⟨by omega,?_⟩
     refine ah hH ?_
     simp only[↓zq,zs,ac,zt]
     refine ah hvh ?_
     simp only[vh,↓zq,zs,ac,zt,aZ,aM]
     refine⟨by simp[cy],fun h=>by simp at h,fun _=>⟨fun h=>by simp at h,fun _=>⟨fun _=>?_,fun h=>absurd rfl h⟩⟩⟩
     repeat refine⟨by omega,?_⟩
     refine ah (DU m y (by omega) a env t1 ⟨ok2,A.wf,ha,f1⟩ hy s v) ?_
     simp only[↓zq,zs,ac,zt,aR]
     repeat refine⟨by omega,?_⟩
     refine ah (wP _ _ _) ?_
     simp only[↓zq,zs,ac,zt,aR]
     repeat refine⟨by omega,?_⟩
     exact⟨rfl,rfl⟩
    ·simp only[Vl.nodes]at hm
     have hW:=P2.of (.atom [114]) (E.list [.atom [112],y.cG,z.cG])
     have hQ:=P3.of (.atom [112]) y.cG z.cG
     simp only[Vl.cG,bS]at hvh
     simp only[CY,bS,Vl.cG,toNat_one,bi,↓zq,zs,ac,zt,hP.1,hP.2.1,hP.2.2.1,hP.2.2.2,hW.1,hW.2.1,hW.2.2,hQ.1,hQ.2.1,hQ.2.2.1,hQ.2.2.2,aR]
     refine⟨fun h=>absurd rfl h,fun _=>?_⟩
     repeat refine⟨by omega,?_⟩
     refine ah hH ?_
     simp only[↓zq,zs,ac,zt]
     refine ah hvh ?_
     simp only[vh,↓zq,zs,ac,zt,aZ,aM]
     refine⟨by simp[cy],fun h=>by simp at h,fun _=>⟨fun h=>by simp at h,fun _=>⟨fun h=>by simp at h,fun _=>⟨fun _=>?_,fun h=>absurd rfl h⟩⟩⟩⟩
     repeat refine⟨by omega,?_⟩
     refine ah (DU m z (by omega) b env t2 ⟨ok3,A.wf,hbb,f2⟩ hy s v) ?_
     simp only[↓zq,zs,ac,zt,aR]
     repeat refine⟨by omega,?_⟩
     refine ah (wP _ _ _) ?_
     simp only[↓zq,zs,ac,zt,aR]
     repeat refine⟨by omega,?_⟩
     exact⟨rfl,rfl⟩
   ·obtain⟨t1',he1,h1,f1,hw1⟩:=jd A.wf A.ok hx A.ty A.cl
    cases he1
    obtain⟨ok1,ok2,ok3,_⟩:=A.ok
    have A':Ask b (.mk a.at (.list [x,a,b]) env::env) t1:=⟨ok3,hw1,h1,f1⟩
    have hP:=P3.of x a b
    have hH:an Tryz.prog 121 [.agg [.v (.string (mk [])),(E.list [x,a,b]).sp]] [] (bA (.v (.string (mk [114,101,99])))):=by rw[<-hx];exact ur x [a,b]
    rcases Av hc with⟨y,rfl,hy⟩|⟨y,z,rfl,hy,hz⟩
    ·simp only[Vl.nodes]at hm
     have hW:=P2.of (.atom [102]) (E.list [.atom [108],y.cG])
     have hQ:=P2.of (.atom [108]) y.cG
     have hvi:=zN (.l y)
     rw[dw]at hvi
     simp only[Vl.cG,bS]at hvh hvi
     simp only[CY,bS,Vl.cG,toNat_one,bi,↓zq,zs,ac,zt,hP.1,hP.2.1,hP.2.2.1,hP.2.2.2,hW.1,hW.2.1,hW.2.2,hQ.1,hQ.2.1,hQ.2.2,aR]
     refine⟨fun h=>absurd rfl h,fun _=>?_⟩
     repeat refine⟨by omega,?_⟩
     refine ah hH ?_
     simp only[↓zq,zs,ac,zt]
     refine ah hvh ?_
     simp only[vh,↓zq,zs,ac,zt,aZ,aM]
     refine⟨by simp[cy],fun h=>by simp at h,fun _=>⟨fun h=>by simp at h,fun _=>⟨fun h=>by simp at h,fun _=>⟨fun h=>by simp at h,fun _=>?_⟩⟩⟩⟩
     repeat refine⟨by omega,?_⟩
     refine ah hvi ?_
     simp only[vh,↓zq,zs,ac,zt]
     refine⟨fun _=>?_,fun h=>absurd rfl h⟩
     repeat refine⟨by omega,?_⟩
     refine ah (DU m y (by omega) b _ t1 A' hy s v) ?_
     simp only[↓zq,zs,ac,zt,aR]
     repeat refine⟨by omega,?_⟩
     refine ah (zB _ _) ?_
     simp only[↓zq,zs,ac,zt,aR]
     repeat refine⟨by omega,?_⟩
     exact⟨rfl,rfl⟩
    ·simp only[Vl.nodes]at hm
     have hW:=P2.of (.atom [102]) (E.list [.atom [114],E.list [.atom [112],y.cG,z.cG]])
     have hQ:=P2.of (.atom [114]) (E.list [.atom [112],y.cG,z.cG])
     have hR:=P3.of (.atom [112]) y.cG z.cG
     have hvi:=zN (.r (.p y z))
     rw[dw]at hvi
     simp only[Vl.cG,bS]at hvh hvi
     simp only[CY,bS,Vl.cG,toNat_one,bi,↓zq,zs,ac,zt,hP.1,hP.2.1,hP.2.2.1,hP.2.2.2,hW.1,hW.2.1,hW.2.2,hQ.1,hQ.2.1,hQ.2.2,hR.1,hR.2.1,hR.2.2.1,hR.2.2.2,aR]
     refine⟨fun h=>absurd rfl h,fun _=>?_⟩
     repeat refine⟨by omega,?_⟩
     refine ah hH ?_
     simp only[↓zq,zs,ac,zt]
     refine ah hvh ?_
     simp only[vh,↓zq,zs,ac,zt,aZ,aM]
     refine⟨by simp[cy],fun h=>by simp at h,fun _=>⟨fun h=>by simp at h,fun _=>⟨fun h=>by simp at h,fun _=>⟨fun h=>by simp at h,fun _=>?_⟩⟩⟩⟩
     repeat refine⟨by omega,?_⟩
     refine ah hvi ?_
     simp only[vh,↓zq,zs,ac,zt]
     refine⟨fun h=>by simp at h,fun _=>?_⟩
     repeat refine⟨by omega,?_⟩
     have i1:=DU m z (by omega) (.list [x,a,b]) env (.rc t1) A hz s v
     unfold PZ at i1
     simp only[bS]at i1
     refine ah i1 ?_
     simp only[↓zq,zs,ac,zt,aR]
     repeat refine⟨by omega,?_⟩
     refine ah (DU m y (by omega) b _ t1 A' hy a.at (dC (.rc t1) z v)) ?_
     simp only[↓zq,zs,ac,zt,aR]
     repeat refine⟨by omega,?_⟩
     refine ah (zB _ _) ?_
     simp only[↓zq,zs,ac,zt,aR]
     repeat refine⟨by omega,?_⟩
     exact⟨rfl,rfl⟩
  ·cases e with
   |atom s0=>exact atomCase _ rfl (qO _ _ _)
   |list l=>exact absurd hq (by rw[show (E.list l).at=[] from rfl,kQ A.wf];simp)
end Go.Proofs.Trees
namespace Go.Proofs.Trees
open Go Go.VL Go.RowKit
abbrev RQ:Ob:=.cells [.v (.string (mk [])),.v (.slice none 0 0),.v (.string (mk []))]
theorem ZT.le{s d:Nm}{a:Ty}{x A B:E}{D:Ty}(z:ZT s d a x A B D):oc s=some (.list [x,A,B]):=by
 unfold oc;rw[z.ce];simp[lF,z.hx]
theorem s9(o:Option Nm):s5 o=.cN [.v (.string (mk (o.getD []))),.v (.bool o.isSome)]:=by cases o<;>rfl
theorem yl{a:Ty}{w v:Vl}(hw:Cx a w)(hv:Fo a v):(Vl.f (dC a w v)).cV.length<=900000:=by
 have h1:=iV (Vl.f (dC a w v)) (by exact qW 100 a w v hw.ir hv.ir)
 have h2:=rl a w v
 have:=hw.nd
 have:=hv.nd
 simp only[Vl.nodes]at h1
 omega
abbrev yM(a:Ty)(w v:Vl):Option Nm:=if(Vl.f (dC a w v)).nodes<=200 then some (Vl.f (dC a w v)).cV else none
theorem Ql{s d:Nm}{a:Ty}{x A B:E}{D:Ty}(z:ZT s d a x A B D)(w v:Vl)(hw:nH d w.cV 100=some w)(hv:Fo a v):an Tryz.prog 73 [.v (.string (mk s)),.v (.string (mk w.cV)),.v (.string (mk v.cV))] [] (bA (s5 (yM a w v))):=by
 have hC:=z.CU hw
 have hv2:nH s v.cV 100=some v:=by rw[z.cV hv.ir hv.ty,if_pos hv.nd]
 refine RH _ _ _ ?_
 unfold IA
 refine bU (GY s) (jO.ne _ _ (fun h=>h)) ?_
 rintro r o ⟨c,e,he,rfl,hh⟩
 rw[z.le]at hh
 obtain⟨e',he',hce⟩:=hh rfl
 cases he'
 rw[dw]at hce
 simp only[AV.agg.injEq,List.cons.injEq,AV.v.injEq,Value.string.injEq,and_true]at hce
 obtain⟨hc1,rfl⟩:=hce
 rw[z.le,hc1]
 simp only[↓zq,zs,ac,zt,aR,bS]
 repeat refine⟨by omega,?_⟩
 refine ah (Kl s) ?_
 rw[s9,z.dl]
 simp only[↓zq,zs,ac,zt,bf,cx]
 refine⟨fun h=>by simp at h,fun _=>⟨fun h=>by simp at h,fun _=>?_⟩⟩
 refine ah (zm d w.cV 100) ?_
 rw[hw]
 simp only[↓zq,zs,ac,bf]
 refine⟨fun h=>by simp at h,fun _=>?_⟩
 refine ah (zm s v.cV 100) ?_
 rw[hv2]
 simp only[↓zq,zs,ac,bf]
 refine⟨fun h=>by simp at h,fun _=>?_⟩
 have hP:=P3.of x A B
 have rd:∀q:Vl,q.ir 100->q.nodes<=200->∀{Q:AV->List Ob->Prop},(∀o,Q (.cN [.agg [.v (.string (mk q.cG.at)),q.cG.sp],.v (.bool true)]) o)->∀r o,jO ((rK q.cV).map Vl.cG) (rK q.cV).isSome r o->Q r o:=by
  intro q hu hn Q hQ r o
  rw[qi hu hn]
  rintro⟨c,e,he,rfl,hh⟩
  obtain⟨e',he',hce⟩:=hh rfl
  cases he'
  rw[dw]at hce
  rw[hce]
  exact hQ o
 refine bU (C0 w.cV) (jO.ne _ _ (fun h=>by simpa using h)) (rd w hC.ir hC.nd fun o=>?_)
 simp only[↓zq,zs,ac,zt,aR]
 repeat refine⟨by omega,?_⟩
 refine bU (C0 v.cV) (jO.ne _ _ (fun h=>by simpa using h)) (rd v hv.ir hv.nd fun o=>?_)
 simp only[toNat_one,bi,↓zq,zs,ac,zt,hP.1,hP.2.1,hP.2.2.1,hP.2.2.2,aR,aY]
 repeat refine⟨by omega,?_⟩
 refine ah (DU w.nodes w (aq _) B _ a z.body hC.ok A.at v) ?_
 simp only[↓zq,zs,ac,zt,aR]
 repeat refine⟨by omega,?_⟩
 refine ah (zB _ _) ?_
 simp only[↓zq,zs,ac,zt,aR]
 repeat refine⟨by omega,?_⟩
 have htx:=C6 (Vl.f (dC a w v)).cG (mq _) (yl hC hv)
 rw[dw]at htx
 simp only[Vl.cG,bS]at htx
 refine ah htx ?_
 simp only[↓zq,zs,ac,zt]
 refine ah (zm s (Vl.f (dC a w v)).cV 100) ?_
 rw[z.cV (w:=Vl.f (dC a w v)) (by exact qW 100 a w v hC.ir hv.ir) (hC.ty v hv.ty)]
 unfold yM
 by_cases hn:(Vl.f (dC a w v)).nodes<=200
 ·rw[if_pos hn,if_pos hn]
  simp only[↓zq,zs,ac,bf]
  exact⟨fun h=>by simp at h,fun _=>⟨rfl,rfl⟩⟩
 ·rw[if_neg hn,if_neg hn]
  simp only[↓zq,zs,ac,bB]
  exact⟨fun _=>⟨rfl,rfl⟩,fun h=>by simp at h⟩
theorem nE{d:Nm}:∀{p:List Nm} {l:List Vl},eJ d p=some l->p=l.map (·.cV)->∀c,c∈l->nH d c.cV 100=some c
 |[],l,h,_,c,hc=>by cases h;cases hc
 |
  q::r,l,h,hp,c,hc=>by
  simp only[eJ]at h
  split at h
  ·rename_i w l' h1 h2
   cases h
   simp only[bM,List.cons.injEq]at hp
   rcases aF.1 hc with rfl|hc
   ·rw[<-hp.1];exact h1
   ·exact nE h2 hp.2 c hc
  ·cases h
structure St(s d:Nm)(a:Ty)(l:List Vl)(v:Vl):Prop where
 z:∃x A B D,ZT s d a x A B D
 i:ZI a l v
 each:∀c,c∈l->nH d c.cV 100=some c
 len:l.length<=50
def yS(s:Nm)(pa:AV)(a:Ty)(l:List Vl)(v:Vl):AV:=match l.getLast? with
 |none=>.cN [.agg [.v (.string (mk s)),pa,.v (.string (mk v.cV))],.v (.bool false)]
 |some c=>.cN [.agg [.v (.string (mk s)),.sl (bo (l.dropLast.map (·.cV))),.v (.string (mk ((yM a c v).getD [])))],.v (.bool (yM a c v).isSome)]
theorem Fh{s d:Nm}{a:Ty}{l:List Vl}{v:Vl}(h:St s d a l v)(pa:AV)(hp:cv pa (l.map (·.cV))):an Tryz.prog 43 [.agg [.v (.string (mk s)),pa,.v (.string (mk v.cV))]] [] (bA (yS s pa a l v)):=by
 refine QE _ _ _ hp.1 ?_
 unfold Lg
 have hlen:=h.len
 simp only[↓zq,zs,ac,zt,hp.len,bH,mw]
 unfold yS
 refine⟨hp.1,fun h0=>?_,fun h0=>?_⟩
 ·have:l=[]:=bT (by omega)
  subst this
  exact⟨rfl,rfl⟩
 ·have hpos:0<l.length:=by omega
  have hne:l≠[]:=by rintro rfl;simp at hpos
  rw[wrap64 ((l.length:Int)-1) (by omega) (by omega)]
  have e1:((l.length:Int)-1).toNat=l.length-1:=by omega
  have hlt:l.length-1<(l.map (·.cV)).length:=by rw[bH];omega
  have hlt':l.length-1<l.length:=by omega
  have hlast:l.getLast?=some (l[l.length-1]):=by rw[List.getLast?_eq_some_getLast hne,List.getLast_eq_getElem]
  rw[hlast]
  have hm:=bD hlt'
  have hg:(l.map (·.cV)).getD (l.length-1) []=(l[l.length-1]).cV:=by rw[aa,be hlt,List.getElem_map];rfl
  obtain⟨x,A,B,D,z⟩:=h.z
  rw[e1,hp.idx hlt,hg]
  generalize l[l.length-1]=c at *
  simp only[↓zq,zs,ac,zt]
  refine⟨⟨hp.1,by omega⟩,by omega,?_⟩
  refine ah (Ql z c v (h.each c hm) h.i.uR) ?_
  rw[s9]
  simp only[↓zq,zs,ac,zt]
  refine⟨⟨hp.1,by omega⟩,⟨fun y hy=>?_,?_⟩,?_,rfl⟩
  ·rw[hp.2]at hy
   have:=List.mem_of_mem_take hy
   obtain⟨t,_,rfl⟩:=cd.1 this
   rfl
  ·rw[hp.2];simp[bo];omega
  ·have:pa.aQ.take (l.length-1)=bo (l.dropLast.map (·.cV)):=by
    rw[hp.2,List.dropLast_eq_take,List.map_take];simp[bo,List.map_take]
   rw[this];rfl
theorem St.up{s d:Nm}{a:Ty}{l l':List Vl}{v w:Vl}(h:St s d a l v)(hu:qf a l v=some (l',w)):St s d a l' w:=by
 obtain⟨h1,h2,c,h3,_⟩:=wh h.i hu
 have hl:=h.len
 exact⟨h.z,h1,fun c' hc'=>h.each c' (by rw[h3];exact ay _ hc'),by omega⟩
theorem pw{s:Nm}{pa:AV}{a:Ty}{l l':List Vl}{v w:Vl}(hu:qf a l v=some (l',w)):yS s pa a l v=.cN [.agg [.v (.string (mk s)),.sl (bo (l'.map (·.cV))),.v (.string (mk w.cV))],.v (.bool true)]:=by
 unfold qf at hu
 unfold yS
 cases q:l.getLast? with
 |none=>rw[q]at hu;cases hu
 |
  some c =>
  rw[q]at hu
  simp only at hu |-
  unfold yM
  split at hu
  ·rename_i hn
   cases hu
   rw[if_pos hn];rfl
  ·cases hu
theorem yq{s:Nm}{pa:AV}{a:Ty}{l:List Vl}{v:Vl}(hpa:LK.sl.has pa)(hu:qf a l v=none):∃p f,LK.sl.has p/\yS s pa a l v=.cN [.agg [.v (.string (mk s)),p,.v (.string (mk f))],.v (.bool false)]:=by
 unfold qf at hu
 unfold yS
 cases q:l.getLast? with
 |none=>exact⟨_,_,hpa,rfl⟩
 |
  some c =>
  rw[q]at hu
  simp only at hu |-
  unfold yM
  split at hu
  ·cases hu
  ·rename_i hn
   rw[if_neg hn];exact⟨_,_,(ca _).mpr trivial,rfl⟩
def FQ(s:Nm)(o:Option Vl):Nat->List AV->List Ob->Prop:=fun k ys ob=>match o with
 |some w=>k=1/\ys=[]/\∃pa,LK.sl.has pa/\ob=[.cells [.v (.string (mk s)),pa,.v (.string (mk w.cV))],RQ]
 |none=>k=2/\ys=[.v (.bool false)]/\∃pa f,LK.sl.has pa/\ob=[.cells [.v (.string (mk s)),pa,.v (.string (mk f))]]
theorem LQ(s d:Nm)(a:Ty):∀(n:Nat) (l:List Vl) (v:Vl) (pa:AV),l.length=n->St s d a l v->cv pa (l.map (·.cV))->FV [] [.cells [.v (.string (mk s)),pa,.v (.string (mk v.cV))],RQ] (FQ s (jq n a l v))
 |
  0,l,v,pa,hl,h,hp=>by
  refine KS _ _ _ _ _ _ ?_
  simp only[HI,↓zq,zs,ac,zt,ac,bw,hp.len,bH,hl,jq]
  refine⟨hp.1,hp.1,fun h=>by omega,fun _=>?_⟩
  exact⟨rfl,rfl,pa,hp.1,rfl⟩
 |
  n+1,l,v,pa,hl,h,hp=>by
  refine KS _ _ _ _ _ _ ?_
  simp only[HI,↓zq,zs,ac,zt,ac,bw,hp.len,bH,hl]
  refine⟨hp.1,hp.1,fun _=>?_,fun h=>by omega⟩
  refine ah (Fh h pa hp) ?_
  rw[jq]
  cases q:qf a l v with
  |
   none =>
   obtain⟨p',f',h1,h2⟩:=yq (s:=s) hp.1 q
   rw[h2]
   simp only[↓zq,zs,ac,zt,bC,bL]
   exact⟨h1,fun _=>⟨rfl,rfl,pa,v.cV,hp.1,rfl⟩,fun h=>by simp at h⟩
  |
   some r =>
   obtain⟨l',w⟩:=r
   obtain⟨_,hlen,_⟩:=wh h.i q
   rw[pw q]
   simp only[↓zq,zs,ac,zt,bC,a8,ca]
   refine⟨fun h=>by simp at h,fun _=>?_⟩
   exact LQ s d a n l' w _ (by omega) (h.up q) (cv.of _)
def CM(o:Option Vl):AV->List Ob->Prop:=fun r ob=>ob=[]/\∃c0 pa c2,LK.sl.has pa/\r=.cN [.agg [.v (.string c0),pa,.v (.string c2)],.v (.bool o.isSome)]/\∀w,o=some w->c2=mk w.cV
theorem CM.ne(o:Option Vl):∃r ob,CM o r ob:=⟨_,[],rfl,mk [],.sl [],mk ((o.map (·.cV)).getD []),(ca _).mpr trivial,rfl,fun w h=>by rw[h];rfl⟩
theorem OF{s d:Nm}{a:Ty}{l:List Vl}{v:Vl}(h:St s d a l v)(pa:AV)(hp:cv pa (l.map (·.cV))):an Tryz.prog 70 [.agg [.v (.string (mk s)),pa,.v (.string (mk v.cV))]] [] (CM (u7 a l v)):=by
 refine Qk _ _ _ hp.1 ?_
 unfold Ln
 have hloop:=LQ s d a l.length l v pa rfl h hp
 refine kB hloop (fun ys o e=>?_) (fun ys o e=>?_)
 ·unfold FQ at e
  unfold u7
  cases q:jq l.length a l v with
  |none=>rw[q]at e;exact absurd e.1 (by decide)
  |
   some w =>
   rw[q]at e
   obtain⟨_,rfl,p',h1,rfl⟩:=e
   simp only[↓zq,zs,ac,zt,ac,bw]
   exact⟨h1,rfl,_,_,_,h1,rfl,fun w' h=>by cases h;rfl⟩
 ·unfold FQ at e
  unfold u7
  cases q:jq l.length a l v with
  |some w=>rw[q]at e;exact absurd e.1 (by decide)
  |
   none =>
   rw[q]at e
   obtain⟨_,rfl,p',f',h1,rfl⟩:=e
   simp only[↓zq,zs,ac,zt,ac]
   exact⟨h1,rfl,_,_,_,h1,rfl,fun w' h=>by cases h⟩
theorem JB(s d f:Nm)(pa:AV)(p:List Nm)(hp:cv pa p)(hl:p.length<=50):∀(k i:Nat),i+k=p.length->Eo [.v (.string (mk d)),.v (.int .i64 (i:Int))] [.cells [.v (.string (mk s)),pa,.v (.string (mk f))]] (nr (if(eJ d (p.drop i)).isSome=true then(1,[],[])else(2,[.v (.bool false)],[])))
 |
  0,i,hi=>by
  refine KN _ _ _ _ _ ?_
  have:i=p.length:=by omega
  subst this
  simp only[Gf,↓zq,zs,ac,zt,ac,hp.len,List.drop_length]
  exact⟨hp.1,hp.1,fun h=>by omega,fun _=>rfl⟩
 |
  k+1,i,hi=>by
  have hlt:i<p.length:=by omega
  have hd:p.drop i=p.getD i []::p.drop (i+1):=by rw[aN hlt];simp[aa,hlt]
  refine KN _ _ _ _ _ ?_
  simp only[Gf,↓zq,zs,ac,zt,ac,hp.len,hp.idx hlt,bx]
  refine⟨hp.1,hp.1,fun _=>⟨⟨hp.1,by omega,by omega⟩,by omega,?_⟩,fun h=>by omega⟩
  refine ah (zm d (p.getD i []) 100) ?_
  rw[hd,eJ]
  simp only[↓zq,zs,ac]
  cases q:nH d (p.getD i []) 100 with
  |
   none =>
   simp only[bB]
   exact⟨fun _=>rfl,fun h=>by simp at h⟩
  |
   some w =>
   simp only[bf]
   refine⟨fun h=>by simp at h,fun _=>?_⟩
   rw[a7 i (by omega)]
   have ih:=JB s d f pa p hp hl k (i+1) (by omega)
   cases q2:eJ d (p.drop (i+1))with
   |none=>rw[q2]at ih;exact ih
   |some l=>rw[q2]at ih;exact ih
theorem vZ(s:Nm)(p:List Nm)(f:Nm):yj s p f=(cK s).bind fun d=>(kp s).bind fun _=>(nH s f 100).bind fun v=>if p.length<=50 then(eJ d p).map fun l=>(l,v)else none:=by
 unfold yj pX
 cases kp s with
 |none=>cases cK s<;>rfl
 |some a=>cases nH s f 100<;>cases cK s<;>rfl
theorem OC(s:Nm)(pa:AV)(p:List Nm)(hp:cv pa p)(f:Nm):an Tryz.prog 72 [.agg [.v (.string (mk s)),pa,.v (.string (mk f))]] [] (bA (.v (.bool (yj s p f).isSome))):=by
 refine O6 _ _ _ hp.1 ?_
 unfold NF
 refine ah (Kl s) ?_
 rw[s9]
 simp only[↓zq,zs,ac,zt]
 refine bU (GY s) (jO.ne _ _ (fun h=>h)) ?_
 rintro r o ⟨c,e,he,rfl,_⟩
 rw[AT]
 simp only[↓zq,zs,ac,zt,bC,hp.len]
 rw[vZ]
 refine⟨he,fun h=>?_,fun h=>⟨fun h'=>?_,fun h'=>⟨hp.1,fun h''=>?_,fun h''=>?_⟩⟩⟩
 ·have:cK s=none:=by cases q:cK s with|none=>rfl|some d=>simp[q]at h
  rw[this]
  exact⟨rfl,rfl⟩
 ·have:kp s=none:=by cases q:kp s with|none=>rfl|some d=>simp[q]at h'
  rw[this]
  cases cK s<;>exact⟨rfl,rfl⟩
 ·simp only[if_neg (show ¬p.length<=50 by omega)]
  exact⟨by cases cK s<;>cases kp s<;>cases nH s f 100<;>rfl,rfl⟩
 ·obtain⟨d,hd⟩:∃d,cK s=some d:=by cases q:cK s with|none=>simp[q]at h|some d=>exact⟨d,rfl⟩
  obtain⟨a,ha⟩:∃a,kp s=some a:=by cases q:kp s with|none=>simp[q]at h'|some d=>exact⟨d,rfl⟩
  rw[hd,ha]
  refine ah (zm s f 100) ?_
  simp only[↓zq,zs,ac]
  cases q:nH s f 100 with
  |none=>simp only[bB];exact⟨fun _=>⟨rfl,rfl⟩,fun h=>by simp at h⟩
  |
   some v =>
   simp only[bf,cx,a8]
   refine⟨fun h=>by simp at h,fun _=>?_⟩
   have hl:p.length<=50:=by omega
   have hloop:=JB s d f pa p hp hl p.length 0 (by omega)
   rw[a6]at hloop
   rw[if_pos hl]
   refine eX hloop (fun ys o e=>?_) (fun ys o e=>?_)
   ·cases q2:eJ d p with
    |none=>rw[q2]at e;cases e
    |some l=>exact⟨rfl,rfl⟩
   ·cases q2:eJ d p with
    |none=>rw[q2]at e;cases e;simp only[↓zq,zs,ac];exact⟨rfl,rfl⟩
    |some l=>rw[q2]at e;cases e
theorem Bb{s:Nm}{p:List Nm}{f:Nm}{l:List Vl}{v:Vl}(h:yj s p f=some (l,v)):∃d,St s d (zA s) l v/\p=l.map (·.cV)/\f=v.cV:=by
 obtain⟨d,a,x,A,B,D,z,hz,hp,hf,hl,hza,_,hr⟩:=ri h
 rw[hza]
 exact⟨d,⟨⟨x,A,B,D,z⟩,hz,nE hr hp,by rw[hp]at hl;simpa using hl⟩,hp,hf⟩
theorem PU(s:Nm)(pa:AV)(p:List Nm)(hp:cv pa p)(f:Nm):an Tryz.prog 41 [.agg [.v (.string (mk s)),pa,.v (.string (mk f))]] [] (bA (.v (.bool (mf s p f).isSome))):=by
 refine Pr _ _ _ hp.1 ?_
 unfold LM
 refine ah (OC s pa p hp f) ?_
 simp only[↓zq,zs,ac]
 unfold mf
 cases q:yj s p f with
 |none=>simp only[bB];exact⟨fun _=>⟨rfl,rfl⟩,fun h=>by simp at h⟩
 |
  some r =>
  obtain⟨l,v⟩:=r
  obtain⟨d,hs,rfl,rfl⟩:=Bb q
  simp only[bf,a8]
  refine⟨fun h=>by simp at h,fun _=>?_⟩
  refine bU (OF hs pa hp) (CM.ne _) ?_
  rintro r o ⟨rfl,c0,p',c2,h1,rfl,_⟩
  simp only[↓zq,zs,ac,zt,bC]
  refine⟨h1,?_,rfl⟩
  congr 2
  cases u7 (zA s) l v<;>rfl
end Go.Proofs.Trees
namespace Go.Proofs.Trees
open Go Go.VL Go.RowKit
inductive Rl(x:Nm):Nat->Tg->Tg->Prop
 |nm (i):Rl x i (.nm x) (.bd i)
 |j4 (i s) (h:s≠x):Rl x i (.nm s) (.nm s)
 |bd (i j) (h:j≠i):Rl x i (.bd j) (.bd j)
theorem Rl.up{x:Nm}{i:Nat}{a b:Tg}(h:Rl x i a b):Rl x (i+1) a.up b.up:=by
 cases h with
 |nm=>exact .nm _
 |j4 s h=>exact .j4 _ _ h
 |bd j h=>exact .bd _ _ (by omega)
theorem Rl.at{x:Nm}{i:Nat}{a b:Tg}(h:Rl x i a b):∀t:Ty,bg x t=false->fK (dM (.name x) t i) a=fK t b
 |
  .bO k,_=>by
  simp only[dM]
  cases h with
  |
   nm =>
   by_cases e:k=i
   ·simp[e,fK]
   ·simp[e,fK]
  |
   j4 s h =>
   by_cases e:k=i
   ·simp[e,fK,Ne.symm h]
   ·simp[e,fK]
  |
   bd j h =>
   by_cases e:k=i
   ·simp[e,fK,Ne.symm h]
   ·simp[e,fK]
 |
  .name s,hn=>by
  have hs:s≠x:=by simpa[bg]using hn
  cases h with
  |nm=>simp[dM,fK,hs]
  |j4=>rfl
  |bd=>rfl
 | .plus _ _,_=>by cases h<;>rfl
 | .times _ _,_=>by cases h<;>rfl
 | .rc _,_=>by cases h<;>rfl
 | .zero,_=>by cases h<;>rfl
 | .one,_=>by cases h<;>rfl
theorem gI(x:Nm):∀(n:Nat) (t:Ty) (i:Nat) (a b:Tg) (v:Vl),bg x t=false->Rl x i a b->eC n (dM (.name x) t i) a v=eC n t b v
 |0,_,_,_,_,_,_,_=>rfl
 |
  n+1,t,i,a,b,v,hn,h=>by
  rw[eC,eC,h.at t hn]
  by_cases ht:fK t b=true
  ·rw[if_pos ht,if_pos ht]
  ·rw[if_neg ht,if_neg ht]
   cases t with
   |
    plus p q =>
    simp only[bg,cw]at hn
    cases v<;>simp only[dM,ki,gI x n p i a b _ hn.1 h,gI x n q i a b _ hn.2 h]
   |
    times p q =>
    simp only[bg,cw]at hn
    cases v<;>simp only[dM,ki,gI x n p i a b _ hn.1 h,gI x n q i a b _ hn.2 h]
   |
    rc p =>
    have h0:Rl x (i+1) (.bd 0) (.bd 0):=.bd _ _ (by omega)
    cases v<;>simp only[dM,ki]
    rename_i w
    rw[gI x n p (i+1) a.up b.up w hn h.up,gI x n p (i+1) (.bd 0) (.bd 0) w hn h0]
    congr 1
    apply jJ
    intro k _
    have:=gI x n (.rc p) i a b k.2 hn h
    simp only[dM]at this
    rw[this]
   |
    bO k =>
    simp only[dM]
    by_cases e:k=i
    ·rw[if_pos e];cases v<;>rfl
    ·rw[if_neg e];cases v<;>rfl
   |name s=>rfl
   |zero=>rfl
   |one=>rfl
theorem nB(x:Nm){t:Ty}{i:Nat}{a b:Tg}(v:Vl)(hn:bg x t=false)(h:Rl x i a b):cg (dM (.name x) t i) a v=cg t b v:=gI x _ t i a b v hn h
theorem l6(n:Nat):∀(m:Nat) (v:Vl),v.nodes<=m->∀(t:Ty) (s:Nm) (d:Ty) (σ:Nm->Option Ty),Dv t s d->CA σ->jX t 0->vT n v (eZ σ t)=true->∀h,h∈cg t (.nm s) v ->
 vT n h.1 (eZ σ d)=true/\vT n h.2 (eZ σ (.name s))=true/\dC t h.1 h.2=v
 |0,v,hm=>by have:=dE v;omega
 |
  m+1,v,hm=>by
  intro t s d σ hd hσ hl hv h hh
  cases hd with
  |zero=>rw[dS rfl (by cases v<;>rfl)]at hh;cases hh
  |one=>rw[dS rfl (by cases v<;>rfl)]at hh;cases hh
  |bO=>rw[dS rfl (by cases v<;>rfl)]at hh;cases hh
  |qL hne=>rw[dS (by simp[fK,hne]) (by cases v<;>rfl)]at hh;cases hh
  |
   hit =>
   rw[mj v (by simp[fK])]at hh
   simp only[aL]at hh
   subst hh
   exact⟨rfl,hv,mQ _ _ _⟩
  |
   @plus a b _ a' b' h1 h2 _ =>
   rcases lB hv with⟨w,rfl,hw⟩|⟨w,rfl,hw⟩
   ·simp only[Vl.nodes]at hm
    rw[mS]at hh
    obtain⟨k,hk,rfl⟩:=dG hh
    obtain⟨q1,q2,q3⟩:=l6 n m w (by omega) _ s _ σ h1 hσ hl.1 hw k hk
    exact⟨q1,q2,congrArg Vl.l q3⟩
   ·simp only[Vl.nodes]at hm
    rw[mE]at hh
    obtain⟨k,hk,rfl⟩:=dG hh
    obtain⟨q1,q2,q3⟩:=l6 n m w (by omega) _ s _ σ h2 hσ hl.2 hw k hk
    exact⟨q1,q2,congrArg Vl.r q3⟩
  |
   @times a b _ a' b' h1 h2 _ =>
   obtain⟨x,y,rfl,hx,hy⟩:=jL hv
   simp only[Vl.nodes]at hm
   rw[mP]at hh
   rcases aI.1 hh with hh|hh
   ·obtain⟨k,hk,rfl⟩:=dG hh
    obtain⟨q1,q2,q3⟩:=l6 n m x (by omega) _ s _ σ h1 hσ hl.1 hx k hk
    refine⟨?_,q2,congrArg (fun q=>Vl.p q y) q3⟩
    show (vT n k.1 (eZ σ a')&&vT n y (eZ σ b))=true
    rw[q1,hy];rfl
   ·obtain⟨k,hk,rfl⟩:=dG hh
    obtain⟨q1,q2,q3⟩:=l6 n m y (by omega) _ s _ σ h2 hσ hl.2 hy k hk
    refine⟨?_,q2,congrArg (Vl.p x) q3⟩
    show (vT n x (eZ σ a)&&vT n k.1 (eZ σ b'))=true
    rw[q1,hx];rfl
  |
   @rc a _ c0 d0 x hx hs h1 h2 hsz =>
   have lo:jX (dM (.name x) a 0) 0:=iG x a hl
   obtain⟨X,e1,e2⟩:=qy (x:=x) hσ hl (h1.lc lo) (h2.lc lo)
   obtain⟨w,rfl,hw⟩:=C2 hv
   simp only[Vl.nodes]at hm
   have hcl:=nK hσ x (kw hσ (.rc a) hl)
   have hop:eZ (iY σ x (eZ σ (.rc a))) (dM (.name x) a 0)=dM (eZ σ (.rc a)) (eZ σ a) 0:=jp hσ x _ a 0 hx
   have hns:eZ (iY σ x (eZ σ (.rc a))) (.name s)=eZ σ (.name s):=by simp only[eZ,iY,if_neg (Ne.symm hs)]
   have hnx:eZ (iY σ x (eZ σ (.rc a))) (.name x)=eZ σ (.rc a):=by simp[eZ,iY]
   have hw':vT n w (eZ (iY σ x (eZ σ (.rc a))) (dM (.name x) a 0))=true:=by rw[hop];exact hw
   have ty:∀y,vT n y (dM (.rc X) X 0)=true->vT n (.f y) (eZ σ (px a x c0 d0))=true:=fun y hy=>by rw[e1];exact hy
   rw[mJ]at hh
   rcases aI.1 hh with hh|hh
   ·obtain⟨k,hk,rfl⟩:=dG hh
    have hk':k∈cg (dM (.name x) a 0) (.nm s) w:=by rw[nB x w hx (.j4 0 s (Ne.symm hs))];exact hk
    obtain⟨q1,q2,q3⟩:=l6 n m w (by omega) _ s _ _ h1 hcl lo hw' k hk'
    rw[e9 x k.1.nodes k.1 a 0 k.2 (aq _)]at q3
    refine⟨ty _ ?_,by rw[<-hns];exact q2,congrArg Vl.f q3⟩
    rw[e2];exact q1
   ·obtain⟨k,hk,hh⟩:=List.mem_flatMap.1 hh
    obtain⟨k2,hk2,rfl⟩:=dG hh
    have hk':k∈cg (dM (.name x) a 0) (.nm x) w:=by rw[nB x w hx (.nm 0)];exact hk
    obtain⟨q1,q2,q3⟩:=l6 n m w (by omega) _ x _ _ h2 hcl lo hw' k hk'
    rw[e9 x k.1.nodes k.1 a 0 k.2 (aq _)]at q3
    rw[hnx]at q2
    have hsz2:=(jh hk).1
    obtain⟨r1,r2,r3⟩:=l6 n m k.2 (by omega) (.rc a) s _ σ (.rc x hx hs h1 h2 hsz) hσ hl q2 k2 hk2
    refine⟨ty _ ?_,r2,?_⟩
    ·rw[e2]
     show (vT n k.1 _&&vT n k2.1 _)=true
     rw[q1,r1];rfl
    ·show Vl.f (dC a k.1 (dC (.rc a) k2.1 k2.2))=.f w
     rw[r3,q3]
theorem Cn{n:Nat}{a D:Ty}{x:Nm}(hx:bg x a=false)(hl:jX (.rc a) 0)(h:oN a x=some D){v:Vl}(hv:vT n v (.rc a)=true){k:Hl}(hk:k∈kids a v) :
 vT n k.1 D=true/\vT n k.2 (.rc a)=true/\.f (dC a k.1 k.2)=v:=by
 simp only[oN,bn,cT,eW]at h
 obtain⟨d,hd,_,rfl⟩:=h
 have lo:jX (dM (.name x) a 0) 0:=iG x a hl
 have hcl:=nK tB x hl
 have e1:sub x (.rc a) d=eZ (iY Gj x (.rc a)) d:=by
  have:=iX Gj x (.rc a) d
  rw[jH,jH]at this;exact this
 obtain⟨w,rfl,hw⟩:=C2 hv
 have hk':k∈cg (dM (.name x) a 0) (.nm x) w:=by rw[nB x w hx (.nm 0)];exact hk
 have hop:eZ (iY Gj x (.rc a)) (dM (.name x) a 0)=dM (.rc a) a 0:=by rw[jp tB x _ a 0 hx,jH]
 obtain⟨q1,q2,q3⟩:=l6 n w.nodes w (aq _) _ x _ _ hd hcl lo (by rw[hop];exact hw) k hk'
 rw[e9 x k.1.nodes k.1 a 0 k.2 (aq _)]at q3
 refine⟨by rw[e1];exact q1,?_,congrArg Vl.f q3⟩
 simpa[eZ,iY]using q2
theorem gV:∀{t:Ty},bV t=true->∃y,bg y t=true/\dc y=true
 | .name s,h=>⟨s,by simp[bg],h⟩
 |
  .plus a b,h=>by
  simp only[bV,bp]at h
  rcases h with h|h
  ·obtain⟨y,h1,h2⟩:=gV h;exact⟨y,by simp[bg,h1],h2⟩
  ·obtain⟨y,h1,h2⟩:=gV h;exact⟨y,by simp[bg,h1],h2⟩
 |
  .times a b,h=>by
  simp only[bV,bp]at h
  rcases h with h|h
  ·obtain⟨y,h1,h2⟩:=gV h;exact⟨y,by simp[bg,h1],h2⟩
  ·obtain⟨y,h1,h2⟩:=gV h;exact⟨y,by simp[bg,h1],h2⟩
 |
  .rc a,h=>by
  obtain⟨y,h1,h2⟩:=gV (t:=a) h;exact⟨y,by simp[bg,h1],h2⟩
theorem gW:∀{t:Ty} {y:Nm},bg y t=true->dc y=true->bV t=true
 |
  .name s,y,h,hl=>by
  have:s=y:=by simpa[bg]using h
  rw[this];exact hl
 |
  .plus a b,y,h,hl=>by
  simp only[bg,bp]at h
  simp only[bV,bp]
  exact h.imp (gW · hl) (gW · hl)
 |
  .times a b,y,h,hl=>by
  simp only[bg,bp]at h
  simp only[bV,bp]
  exact h.imp (gW · hl) (gW · hl)
 | .rc a,y,h,hl=>gW (t:=a) h hl
 | .zero,y,h,_=>by simp[bg]at h
 | .one,y,h,_=>by simp[bg]at h
 | .bO k,y,h,_=>by simp[bg]at h
theorem ZT.R8{s d:Nm}{a:Ty}{x A B:E}{D:Ty}(z:ZT s d a x A B D):∃e,jt d=some e/\Ask e [] D:=by
 have hcl:bV D=false:=by
  cases q:bV D with
  |false=>rfl
  |
   true =>
   obtain⟨y,h1,h2⟩:=gV q
   have:=gW (t:=.rc a) (rT z.lp y h1) h2
   rw[z.ask.cl]at this;cases this
 have hc:vI d=some D:=by unfold vI;rw[z.bk];simp only;rw[if_pos (by rw[rV,hcl];rfl)]
 cases q:jt d with
 |none=>rw[mD q]at hc;cases hc
 |
  some e =>
  obtain⟨t,h1,hA,_⟩:=iE q
  rw[hc]at h1;cases h1
  exact⟨e,rfl,hA⟩
theorem ZT.RO{s d:Nm}{a:Ty}{x A B:E}{D:Ty}(z:ZT s d a x A B D){w:Vl}(hb:w.ir 100)(hv:vT 100 w D=true):nH d w.cV 100=if w.nodes<=200 then some w else none:=by
 obtain⟨e,he,hA⟩:=z.R8
 unfold nH
 rw[he]
 by_cases hn:w.nodes<=200
 ·rw[qi hb hn,if_pos hn]
  simp only
  rw[if_pos ⟨by omega,by rw[show (100:Int).toNat=100 from rfl,ov hA];exact hv⟩]
 ·rw[if_neg hn]
  cases q:rK w.cV with
  |none=>rfl
  |
   some w' =>
   exfalso
   obtain⟨_,h2,h3⟩:=lL q
   have:=xY hb h2 (qo q)
   rw[this]at hn;exact hn h3
theorem ZT.RP{s d:Nm}{a:Ty}{x A B:E}{D:Ty}(z:ZT s d a x A B D){v:Vl}(hv:Fo a v){k:Hl}(hk:k∈kids a v):vT 100 k.1 D=true/\Fo a k.2/\.f (dC a k.1 k.2)=v:=by
 obtain⟨e2,he2,hw2,hte2,_,_⟩:=o0 z.y
 have hlc:jX (.rc a) 0:=hte2 ▸ hw2.qX.1
 obtain⟨q1,q2,q3⟩:=Cn (wH z.y) hlc z.lp hv.ty hk
 have:=w6 hk
 have:=hv.nd
 exact⟨q1,⟨q2,(oi hv.ir hk).2,by omega⟩,q3⟩
def DQ(a:Ty)(l:List Vl)(v:Vl)(k:Int):Option (List Vl×Vl) :=
 if l.length=50 then none else if 0<=k/\k.toNat<(kids a v).length then
  (if((kids a v).getD k.toNat (.u,.u)).1.nodes<=200 then some (l++[((kids a v).getD k.toNat (.u,.u)).1],((kids a v).getD k.toNat (.u,.u)).2)else none)else none
theorem uv{a:Ty}{l:List Vl}{c e v:Vl}(h:.f (dC a c e)=v)(hn:v.nodes<=200):qf a (l++[c]) e=some (l,v)/\u7 a (l++[c]) e=u7 a l v:=by
 have hu:qf a (l++[c]) e=some (l,v):=by
  unfold qf
  rw[List.getLast?_concat]
  simp only
  rw[h,if_pos hn,List.dropLast_concat]
 refine⟨hu,?_⟩
 unfold u7
 rw[ax,List.length_singleton,jq,hu]
 rfl
theorem yn{s d:Nm}{l:List Vl}{v:Vl}(hs:St s d (zA s) l v)(hd:cK s=some d)(hv:mf s (l.map (·.cV)) v.cV=some (l,v)){k:Hl}(hk:k∈kids (zA s) v) :
 mf s (l.map (·.cV)++[k.1.cV]) k.2.cV=if l.length=50 then none else if k.1.nodes<=200 then some (l++[k.1],k.2)else none:=by
 obtain⟨x,A,B,D,z⟩:=hs.z
 obtain⟨t1,t2,t3⟩:=z.RP hs.i.uR hk
 have hb:=(oi hs.i.uR.ir hk).1
 have hz:=(jz hv).1
 have hclo:=(jz hv).2
 have hlen:=hs.len
 have hlp:eJ d (l.map (·.cV))=some l:=by
  rw[vZ,hd]at hz
  simp only[a8,z.l]at hz
  obtain⟨_,h1,h2⟩:=bn.1 hz
  split at h2
  ·obtain⟨l',h3,h4⟩:=Option.map_eq_some_iff.1 h2
   cases h4;exact h3
  ·cases h2
 have e1:nH s k.2.cV 100=some k.2:=by rw[z.cV t2.ir t2.ty,if_pos t2.nd]
 unfold mf
 rw[vZ,hd]
 simp only[a8,z.l,e1,sC,hlp,eJ,z.RO hb t1,ax,bH,List.length_singleton]
 by_cases h50:l.length=50
 ·rw[if_neg (by omega),if_pos h50];rfl
 ·rw[if_pos (by omega),if_neg h50]
  by_cases hn:k.1.nodes<=200
  ·rw[if_pos hn,if_pos hn]
   simp only[ck,a8,(uv (l:=l) t3 hs.i.uR.nd).2]
   rw[if_pos hclo]
  ·rw[if_neg hn,if_neg hn];rfl
end Go.Proofs.Trees
namespace Go.Proofs.Trees
open Go Go.VL Go.RowKit
def N4(s:Nm)(o:Option (List Vl×Vl)):AV->List Ob->Prop:=fun r obs=>obs=[]/\∃pa,cv pa (tZ s o).2.1/\r=.cN [.agg [.v (.string (mk (tZ s o).1)),pa,.v (.string (mk (tZ s o).2.2))],.v (.bool o.isSome)]
theorem N4.ne(s:Nm)(o:Option (List Vl×Vl)):∃r ob,N4 s o r ob:=⟨_,[],rfl,_,cv.of _,rfl⟩
theorem N4.none(s:Nm):N4 s none (.cN [.agg [.v (.string (mk [])),.v (.slice none 0 0),.v (.string (mk []))],.v (.bool false)]) []:=⟨rfl,_,cv.nil,rfl⟩
theorem tW{s:Nm}{p:List Nm}{f:Nm}{l:List Vl}{v:Vl}(h:mf s p f=some (l,v)):∃d,St s d (zA s) l v/\p=l.map (·.cV)/\f=v.cV:=Bb (jz h).1
def kj(l:List Hl):List (List AV):=l.map fun h=>[.v (.string (mk h.1.cV)),.v (.string (mk h.2.cV))]
theorem nq(l:List Hl):(kj l).length=l.length:=by simp[kj]
theorem KO(l:List Hl)(hl:l.length<=1000)(h1:∀h,h∈l->h.1.cV.length<=900000)(h2:∀h,h∈l->h.2.cV.length<=900000):∀(k i:Nat) (out:List Hl),i+k=l.length->out.length<=i ->
 Er [.sl (lP l),.v (.int .i64 (i:Int))] [.vec 2 (kj out)] (fX 1 [] [.vec 2 (kj (out++l.drop i))])
 |
  0,i,out,hi,ho=>by
  refine Ns _ _ _ ?_
  have:i=l.length:=by omega
  subst this
  simp only[Hb,↓zq,zs,ac,fq,List.drop_length]
  exact⟨fun h=>by omega,fun _=>by simp[fX]⟩
 |
  k+1,i,out,hi,ho=>by
  have hlt:i<l.length:=by omega
  have hm:=bD hlt
  have t1:=C6 (l[i]).1.cG (mq _) (h1 _ hm)
  have t2:=C6 (l[i]).2.cG (mq _) (h2 _ hm)
  rw[dw]at t1 t2
  refine Ns _ _ _ ?_
  simp only[Hb,↓zq,zs,ac,zt,fq,gy hlt,bC,aY]
  refine⟨fun _=>?_,fun h=>by omega⟩
  repeat refine⟨by omega,?_⟩
  refine ah t1 ?_
  simp only[↓zq,zs,ac,zt]
  repeat refine⟨by omega,?_⟩
  refine ah t2 ?_
  simp only[↓zq,zs,ac,zt,nq]
  refine⟨⟨fun c hc=>by simp at hc;rw[hc];rfl,by omega⟩,?_⟩
  rw[a7 i (by omega),aN hlt]
  have:=KO l hl h1 h2 k (i+1) (out++[l[i]]) (by omega) (by simp;omega)
  rw[aU]at this
  simpa[kj]using this
theorem O8(l:List Hl)(hl:l.length<=1000)(h1:∀h,h∈l->h.1.cV.length<=900000)(h2:∀h,h∈l->h.2.cV.length<=900000):an Tryz.prog 91 [.sl (lP l)] [] (bA (.sl (kj l))):=by
 refine Qo _ ((ca _).mpr trivial) ?_
 unfold LR
 refine cf (KO l hl h1 h2 l.length 0 [] (by omega) (by simp)) ?_
 simp only[↓zq,zs,ac]
 exact⟨rfl,rfl⟩
theorem rz{a:Ty}{v:Vl}(h:Fo a v){k:Hl}(hk:k∈kids a v):k.1.cV.length<=900000/\k.2.cV.length<=900000:=by
 obtain⟨b1,b2⟩:=oi h.ir hk
 have h1:=iV _ b1
 have h2:=iV _ b2
 have h3:=w6 hk
 have h4:=h.nd
 have h5:k.1.nodes<=4*v.nodes:=by
  cases v with
  |f w=>have:=(jh hk).2;simp only[Vl.nodes];omega
  |_=>cases hk
 omega
theorem Pd{s d:Nm}{a:Ty}{x A B:E}{D:Ty}(z:ZT s d a x A B D)(v:Vl)(hv:Fo a v):an Tryz.prog 69 [.v (.string (mk s)),.v (.string (mk v.cV))] [] (bA (.cN [.sl (kj (kids a v)),.v (.bool true)])):=by
 have hv2:nH s v.cV 100=some v:=by rw[z.cV hv.ir hv.ty,if_pos hv.nd]
 have hP:=P3.of x A B
 have hn:=hv.nd
 obtain⟨v0,hv0,_⟩:=ua .nil z.hx (hv.eQ z)
 have hkids:=Qp 100 v x A B a z.body z.hx v0 hv0 (hv.eQ z) (by omega)
 have hV:=P2.of (.atom [102]) v0.cG
 refine O3 _ _ ?_
 unfold M8
 refine bU (GY s) (jO.ne _ _ (fun h=>h)) ?_
 rintro r o ⟨c,e,he,rfl,hh⟩
 rw[z.le]at hh
 obtain⟨e',he',hce⟩:=hh rfl
 cases he'
 rw[dw]at hce
 rw[hce,z.le]
 simp only[↓zq,zs,ac,zt,aR,bS]
 repeat refine⟨by omega,?_⟩
 refine bU (C0 v.cV) (jO.ne _ _ (fun h=>by simpa using h)) ?_
 rw[qi hv.ir hn]
 rintro r o ⟨c,e,he,rfl,hh⟩
 obtain⟨e',he',hce⟩:=hh rfl
 cases he'
 rw[dw]at hce
 rw[hce]
 simp only[↓zq,zs,ac,zt,aR,bf]
 repeat refine⟨by omega,?_⟩
 refine⟨fun h=>by simp at h,fun _=>?_⟩
 refine ah (zm s v.cV 100) ?_
 rw[hv2,hv0]
 simp only[toNat_one,bi,Vl.cG,bS,↓zq,zs,ac,zt,hP.1,hP.2.1,hP.2.2.1,hP.2.2.2,hV.1,hV.2.1,hV.2.2,aR,aY,bf]
 refine⟨fun h=>by simp at h,fun _=>?_⟩
 repeat refine⟨by omega,?_⟩
 refine ah hkids ?_
 simp only[↓zq,zs,ac]
 repeat refine⟨by omega,?_⟩
 have hlen:=sN a v
 have:=nI (kids a v)
 refine ah (O8 (kids a v) (by omega) (fun h hh=>(rz hv hh).1) (fun h hh=>(rz hv hh).2)) ?_
 rw[<-hv0]
 simp only[↓zq,zs,ac]
 exact⟨rfl,rfl⟩
end Go.Proofs.Trees
namespace Go.Proofs.Trees
open Go Go.VL Go.RowKit
theorem vj{a:Ty}{l l':List Vl}{v w:Vl}{k:Int}(h:DQ a l v k=some (l',w)):∃q,q∈kids a v/\l'=l++[q.1]/\w=q.2/\q.1.nodes<=200/\l.length≠50/\0<=k/\(kids a v)[k.toNat]?=some q:=by
 unfold DQ at h
 split at h
 ·cases h
 ·rename_i h0
  split at h
  ·rename_i h1
   split at h
   ·rename_i h2
    cases h
    have e:(kids a v).getD k.toNat (.u,.u)=(kids a v)[k.toNat]'h1.2:=by simp[aa,h1.2]
    rw[e]at h2 |-
    exact⟨_,bD _,rfl,rfl,h2,h0,h1.1,by simp[h1.2]⟩
   ·cases h
  ·cases h
theorem St.dn{s d:Nm}{a:Ty}{l l':List Vl}{v w:Vl}{k:Int}(h:St s d a l v)(hu:DQ a l v k=some (l',w)):St s d a l' w/\qf a l' w=some (l,v)/\l'.length=l.length+1:=by
 obtain⟨q,hq,rfl,rfl,hn,h50,_,_⟩:=vj hu
 obtain⟨x,A,B,D,z⟩:=h.z
 obtain⟨t1,t2,t3⟩:=z.RP h.i.uR hq
 have hv:nH d q.1.cV 100=some q.1:=by rw[z.RO (oi h.i.uR.ir hq).1 t1,if_pos hn]
 have hlen:=h.len
 refine⟨⟨⟨x,A,B,D,z⟩,⟨fun c hc=>?_,t2⟩,fun c hc=>?_,by simp;omega⟩,(uv t3 h.i.uR.nd).1,by simp⟩
 ·rcases aI.1 hc with hc|hc
  ·exact h.i.CU c hc
  ·simp only[aL]at hc;subst hc;exact z.CU hv
 ·rcases aI.1 hc with hc|hc
  ·exact h.each c hc
  ·simp only[aL]at hc;subst hc;exact hv
theorem wk{l:List Hl}{i:Nat}(h:i<l.length):(kj l).getD i []=[.v (.string (mk (l[i]).1.cV)),.v (.string (mk (l[i]).2.cV))]:=by simp[kj,aa,h]
theorem Hx{s:Nm}{p:List Nm}{f:Nm}{r:List Vl×Vl}(h:yj s p f=some r):∃d,cK s=some d/\St s d (zA s) r.1 r.2/\p=r.1.map (·.cV)/\f=r.2.cV:=by
 obtain⟨d,a,x,A,B,D,z,hz,hp,hf,hl,hza,_,hr⟩:=ri (l:=r.1) (v:=r.2) h
 rw[hza]
 exact⟨d,z.dl,⟨⟨x,A,B,D,z⟩,hz,nE hr hp,by rw[hp]at hl;simpa using hl⟩,hp,hf⟩
theorem Ly{s d:Nm}{l:List Vl}{v:Vl}(hs:St s d (zA s) l v)(hd:cK s=some d)(hv:mf s (l.map (·.cV)) v.cV=some (l,v)){k:Int}(h0:0<=k)(hk:k.toNat<(kids (zA s) v).length) :
 mf s (l.map (·.cV)++[((kids (zA s) v)[k.toNat]).1.cV]) ((kids (zA s) v)[k.toNat]).2.cV=DQ (zA s) l v k:=by
 rw[yn hs hd hv (bD hk)]
 unfold DQ
 by_cases h5:l.length=50
 ·rw[if_pos h5,if_pos h5]
 ·rw[if_neg h5,if_neg h5,if_pos (show 0<=k/\k.toNat<(kids (zA s) v).length from ⟨h0,hk⟩)]
  have hg2:(kids (zA s) v).getD k.toNat (.u,.u)=(kids (zA s) v)[k.toNat]:=by simp[aa,hk]
  rw[hg2]
end Go.Proofs.Trees
namespace Go.Proofs.Trees
open Go Go.VL Go.RowKit
theorem KG(x:AV)(l:List (List UInt8))(hx:cv x l)(hl:l.length<=2000000):∀(m i:Nat) (q:List (List UInt8)),i+m=l.length->q.length=l.length->GC [x,.v (.int .i64 (i:Int))] [.vec 1 (bo q)] (fX 1 [] [.vec 1 (bo (q.take i++l.drop i))])
 |
  0,i,q,hi,hq=>by
  refine MD _ _ _ ?_
  simp only[EB,↓zq,zs,ac,hx.len]
  refine⟨hx.1,hx.1,fun h=>by omega,fun _=>?_⟩
  rw[List.drop_of_length_le (by omega),cA,List.take_of_length_le (by omega)]
  exact⟨rfl,rfl,rfl⟩
 |
  m+1,i,q,hi,hq=>by
  have hlt:i<l.length:=by omega
  have hlq:i<q.length:=by omega
  refine MD _ _ _ ?_
  simp only[EB,↓zq,zs,ac,zt,hx.len,hx.idx hlt,bx,nk,qv hlq]
  refine⟨hx.1,hx.1,fun _=>⟨⟨hx.1,by omega,by omega⟩,by omega,⟨by omega,by omega⟩,⟨hlq,by omega⟩,?_⟩,fun h=>by omega⟩
  rw[a7 i (by omega)]
  have:=KG x l hx hl m (i+1) (q.set i (l.getD i [])) (by omega) (by simpa using hq)
  have e:(q.set i (l.getD i [])).take (i+1)++l.drop (i+1)=q.take i++l.drop i:=by
   rw[List.take_succ_eq_append_getElem (by simpa using hlq),List.take_set_of_le (aq _),aN hlt]
   simp[aa,hlt]
  rw[e]at this
  exact this
theorem OJ(x:AV)(l:List (List UInt8))(hx:cv x l)(hl:l.length<=2000000):an Tryz.prog 44 [x] [] (cW (.vec 0) [.vec 1 (bo l)]):=by
 refine Qm _ hx.1 ?_
 simp only[Kr,↓zq,zs,ac,hx.len]
 refine⟨hx.1,⟨by omega,by omega⟩,?_⟩
 have:=KG x l hx hl l.length 0 (List.replicate l.length []) (by omega) (by simp)
 rw[List.take_zero,a6,aM]at this
 have e:bo (List.replicate l.length [])=List.replicate l.length [.v (.string (mk []))]:=by simp[bo]
 rw[e]at this
 rw[bx]
 refine cf this ?_
 simp[↓zq,zs,ac,cW,Ob.es]
theorem Qx(s f:(List UInt8))(x:AV)(l:List (List UInt8))(hx:cv x l)(hl:l.length<=2000000):an Tryz.prog 11 [.agg [.v (.string (mk s)),x,.v (.string (mk f))]] [] (cW (.agg [.v (.string (mk s)),.vec 0,.v (.string (mk f))]) [.vec 1 (bo l)]):=by
 refine Qf _ _ _ hx.1 ?_
 unfold KI
 refine aS (OJ x l hx hl) ?_
 simp only[↓zq,zs,ac,zt,Ob.es,aP]
 exact⟨jI _,rfl,rfl⟩
theorem Pw(s f:(List UInt8))(x y:AV)(l:List (List UInt8))(hx:cv x l)(hy:cv y l)(hl:l.length<=2000000):an Tryz.prog 14 [.agg [.v (.string (mk s)),x,.v (.string (mk f))],.agg [.v (.string (mk s)),y,.v (.string (mk f))]] [] (bA (.v (.bool true))):=by
 refine P6 _ _ _ _ _ _ hx.1 hy.1 ?_
 simp only[MJ,↓zq,zs,ac,zt]
 refine⟨fun h=>by simp at h,fun _=>?_⟩
 refine ah (Qt x y l hx hy hl) ?_
 simp[↓zq,zs,ac,zt,bA]
theorem OS(s f:(List UInt8))(k:Nat)(l:List (List UInt8))(hl:l.length<=2000000)(hk:k<=1000000):an Tryz.prog 15 [.agg [.v (.string (mk s)),.vec 0,.v (.string (mk f))],.v (.int .i64 (k:Int))] [.vec 1 (bo l)] (cW (.v (.int .i64 ((k+l.length:Nat):Int))) [.gm 1 (bo (CQ k l.length))]):=by
 refine Qz _ _ _ _ ?_
 unfold IQ
 refine aS (Og k l hl hk) ?_
 simp[↓zq,zs,ac,cW,Ob.es]
def HL(n:Nat):AV->List Ob->Prop:=fun r o=>∃x:Int,r=.v (.int .i64 x)/\(0<=x->n<=1048576)
theorem HL.ne(n:Nat):∃r o,HL n r o:=⟨_,[],-1,rfl,fun h=>by omega⟩
theorem LY(x:AV)(l:List (List UInt8))(hx:cv x l)(hl:l.length<=1048576):∀(m i:Nat) (n:Int),i+m=l.length->Fj [x,.v (.int .i64 n),.v (.int .i64 (i:Int))] [] (fun t ys o=>(t=1\/t=2)/\∃y:Int,ys=[.v (.int .i64 y)])
 |
  0,i,n,hi=>by
  refine Ku _ _ _ ?_
  simp only[EL,↓zq,zs,ac,hx.len]
  exact⟨hx.1,hx.1,fun h=>by omega,fun _=>⟨.inl (by first|rfl|trivial),_,rfl⟩⟩
 |
  m+1,i,n,hi=>by
  have hlt:i<l.length:=by omega
  refine Ku _ _ _ ?_
  simp only[EL,↓zq,zs,ac,zt,hx.len,hx.idx hlt,bx]
  refine⟨hx.1,hx.1,fun _=>⟨⟨hx.1,by omega,by omega⟩,by omega,fun _=>⟨.inr (by first|rfl|trivial),_,rfl⟩,fun _=>?_⟩,fun h=>by omega⟩
  rw[a7 i (by omega)]
  exact LY x l hx hl m (i+1) _ (by omega)
theorem O7(s f:(List UInt8))(x:AV)(l:List (List UInt8))(hx:cv x l)(hs:s.length<=9223372036854775807)(hl:l.length<=9223372036854775807):an Tryz.prog 9 [.agg [.v (.string (mk s)),x,.v (.string (mk f))],.v (.int .i64 1048576)] [] (HL l.length):=by
 refine QT _ _ _ _ hx.1 ?_
 simp only[Mb,↓zq,zs,ac,zt,cy]
 rw[wrap64 (1048576-(s.length:Int)) (by omega) (by omega)]
 refine⟨fun _=>⟨_,rfl,fun h=>by omega⟩,fun hp=>?_⟩
 have hsz:an Tryz.prog 40 [x,.v (.int .i64 (1048576-(s.length:Int)))] [] (HL l.length):=by
  refine RA _ _ hx.1 ?_
  simp only[K3,↓zq,zs,ac,hx.len]
  rw[wrap64 (1048576-(s.length:Int)-(l.length:Int)) (by omega) (by omega)]
  refine⟨hx.1,fun _=>⟨_,rfl,fun h=>by omega⟩,fun hq=>?_⟩
  have hl':l.length<=1048576:=by omega
  refine kB (LY x l hx hl' l.length 0 _ (by omega)) ?_ ?_
  ·rintro ys o ⟨_,y,rfl⟩
   simp only[↓zq,zs,ac]
   exact⟨_,rfl,fun _=>hl'⟩
  ·rintro ys o ⟨_,y,rfl⟩
   simp only[↓zq,zs,ac]
   exact⟨_,rfl,fun _=>hl'⟩
 refine bU hsz (HL.ne _) ?_
 rintro r o ⟨n,rfl,hn⟩
 simp only[↓zq,zs,ac,zt]
 exact⟨fun _=>⟨_,rfl,fun h=>by omega⟩,fun h1=>⟨fun _=>⟨_,rfl,fun h=>by omega⟩,fun h2=>⟨_,rfl,fun _=>hn (by omega)⟩⟩⟩
end Go.Proofs.Trees
namespace Go.Proofs.Trees
open Go Go.VL Go.RowKit
def pI(a:AV)(l:List Nat):Prop:=LK.sl.has a/\a.aQ=rh l
theorem pI.of(l:List Nat):pI (.sl (rh l)) l:=⟨(ca _).mpr trivial,rfl⟩
theorem pI.nil:pI (.v (.slice none 0 0)) []:=⟨(bw).mpr trivial,rfl⟩
theorem pI.len{a:AV}{l:List Nat}(h:pI a l):a.aQ.length=l.length:=by rw[h.2,vP]
theorem pI.idx{a:AV}{l:List Nat}(h:pI a l){i:Nat}(hi:i<l.length):a.aQ.getD i []=[.v (.int .i64 (l.getD i 0:Nat))]:=by
 rw[h.2];simp[rh,aa,hi]
def vL(k n:Nat):List Nat:=List.range' k n
theorem ug(k n:Nat):(vL k n).length=n:=by simp[vL]
theorem Bq(k n:Nat):vL k (n+1)=k::vL (k+1) n:=by simp[vL,List.range'_succ]
end Go.Proofs.Trees
namespace Go.Proofs.Trees
open Go Go.VL Go.RowKit
def dj(l:List Int):List (List AV):=l.map fun k=>[.v (.int .i64 k)]
def je(a:AV)(l:List Int):Prop:=LK.sl.has a/\a.aQ=dj l
theorem iM(l:List Int):(dj l).length=l.length:=by simp[dj]
theorem je.of(l:List Int):je (.sl (dj l)) l:=⟨(ca _).mpr trivial,rfl⟩
theorem je.nil:je (.v (.slice none 0 0)) []:=⟨(bw).mpr trivial,rfl⟩
theorem je.len{a:AV}{l:List Int}(h:je a l):a.aQ.length=l.length:=by rw[h.2,iM]
theorem je.idx{a:AV}{l:List Int}(h:je a l){i:Nat}(hi:i<l.length):a.aQ.getD i []=[.v (.int .i64 (l.getD i 0))]:=by
 rw[h.2];simp[dj,aa,hi]
theorem yE{l:List Int}{i:Nat}(hi:i<l.length)(s:Int):(dj l).set i (((dj l).getD i []).set 0 (.v (.int .i64 s)))=dj (l.set i s):=by
 have:(dj l).getD i []=[.v (.int .i64 l[i])]:=by simp[dj,aa,hi]
 rw[this];simp[dj,List.map_set]
theorem pE(l:List Int):∀x,x∈[Ob.vec 1 (dj l)]->gz x:=by
 intro x hx
 simp only[aL]at hx
 subst hx
 intro e he c hc
 simp only[dj,cd]at he
 obtain⟨k,_,rfl⟩:=he
 simp only[aL]at hc
 exact⟨_,hc⟩
theorem NU(a b:AV)(l:List Int)(ha:je a l)(hb:je b l)(hl:l.length<=2000000):∀(m i:Nat),i+m=l.length->Fi [a,b,.v (.int .i64 (i:Int))] [] (fX 1 [] [])
 |
  0,i,hi=>by
  refine LH _ _ _ ?_
  simp only[G3,↓zq,zs,ac,ha.len]
  exact⟨ha.1,hb.1,ha.1,fun h=>by omega,fun _=>⟨rfl,rfl,rfl⟩⟩
 |
  m+1,i,hi=>by
  have hlt:i<l.length:=by omega
  refine LH _ _ _ ?_
  simp only[G3,↓zq,zs,ac,zt,ha.len,hb.len,ha.idx hlt,hb.idx hlt,bx]
  refine⟨ha.1,hb.1,ha.1,fun _=>⟨⟨ha.1,by omega,by omega⟩,by omega,⟨hb.1,by omega,by omega⟩,by omega,fun h=>by simp at h,fun _=>?_⟩,fun h=>by omega⟩
  rw[a7 i (by omega)]
  exact NU a b l ha hb hl m (i+1) (by omega)
theorem Rx(a b:AV)(l:List Int)(ha:je a l)(hb:je b l)(hl:l.length<=2000000):an Tryz.prog 13 [a,b] [] (bA (.v (.bool true))):=by
 refine QL _ _ ha.1 hb.1 ?_
 simp only[HV,↓zq,zs,ac,ha.len,hb.len]
 refine⟨ha.1,hb.1,fun h=>by simp at h,fun _=>?_⟩
 refine cf (NU a b l ha hb hl l.length 0 (by omega)) ?_
 simp[bA,↓zq,zs,ac]
theorem Mz:∀(m i k:Nat) (l:List Int),i+m=l.length->l.length<=2000000->k+m<=4000000->HJ [.v (.int .i64 (k:Int)),.v (.int .i64 (i:Int))] [.vec 1 (dj l)] (fX 1 [.v (.int .i64 ((k+m:Nat):Int))] [.vec 1 (dj (l.take i++(vL k m).map Int.ofNat))])
 |
  0,i,k,l,hi,hl,hk=>by
  refine Ll _ _ _ ?_
  simp only[Ei,↓zq,zs,ac,iM]
  refine⟨fun h=>by omega,fun _=>?_⟩
  have:l.take i=l:=List.take_of_length_le (by omega)
  simp[fX,this,vL]
 |
  m+1,i,k,l,hi,hl,hk=>by
  have hlt:i<l.length:=by omega
  refine Ll _ _ _ ?_
  simp only[Ei,↓zq,zs,ac,iM,bx,yE hlt]
  refine⟨fun _=>?_,fun h=>by omega⟩
  refine⟨⟨by omega,by omega⟩,⟨hlt,by omega⟩,?_⟩
  have:=Mz m (i+1) (k+1) (l.set i k) (by simp;omega) (by simpa using hl) (by omega)
  rw[a7 i (by omega),a7 k (by omega)]
  have e:(l.set i (k:Int)).take (i+1)++((vL (k+1) m).map Int.ofNat)=l.take i++(vL k (m+1)).map Int.ofNat:=by
   rw[Bq,List.take_succ_eq_append_getElem (by simpa using hlt),List.take_set_of_le (aq _)];simp
  rw[e,show k+1+m=k+(m+1) by omega]at this
  exact this
theorem PY(k:Nat)(l:List Int)(hl:l.length<=2000000)(hk:k<=1000000):an Tryz.prog 16 [.vec 0,.v (.int .i64 (k:Int))] [.vec 1 (dj l)] (cW (.v (.int .i64 ((k+l.length:Nat):Int))) [.gm 1 (dj ((vL k l.length).map Int.ofNat))]):=by
 refine PD _ _ ?_
 unfold L8
 have:=Mz l.length 0 k l (by omega) hl (by omega)
 rw[List.take_zero,aM]at this
 refine cf this ?_
 simp[↓zq,zs,ac,cW,Ob.es]
end Go.Proofs.Trees
namespace Go.Proofs.Trees
open Go Go.VL Go.RowKit
abbrev ZO:=Option (List Vl×Vl)
def G7(s:Nm)(o:ZO):Prop:=∀r,o=some r->∃d,St s d (zA s) r.1 r.2
def R6(a:Ty)(pl:List Int)(o:ZO):ZO:=pl.foldl (fun o k=>o.bind fun r=>DQ a r.1 r.2 k) o
theorem G7.dn{s:Nm}{o:ZO}(h:G7 s o)(k:Int):G7 s (o.bind fun r=>DQ (zA s) r.1 r.2 k):=fun r hr=>by
 obtain⟨q,h1,h2⟩:=bn.1 hr
 obtain⟨d,hs⟩:=h q h1
 exact⟨d,(hs.dn (l':=r.1) (w:=r.2) h2).1⟩
theorem G7.go{s:Nm}:∀{pl:List Int} {o:ZO},G7 s o->G7 s (R6 (zA s) pl o)
 |[],o,h=>h
 |k::pl,o,h=>G7.go (pl:=pl) (h.dn k)
def Qe(s:Nm)(o:ZO):Prop:=∀r,o=some r->mf s (r.1.map (·.cV)) r.2.cV=some r
theorem Qe.dn{s:Nm}{o:ZO}(h:Qe s o)(k:Int):Qe s (o.bind fun r=>DQ (zA s) r.1 r.2 k):=fun r hr=>by
 obtain⟨q,h1,h2⟩:=bn.1 hr
 have hq:=h q h1
 obtain⟨d,hd,hs,_⟩:=Hx (jz (l:=q.1) (v:=q.2) hq).1
 obtain⟨e,_,h3,h4,_,_,h0,h5⟩:=vj (l':=r.1) (w:=r.2) h2
 have hk:k.toNat<(kids (zA s) q.2).length:=by
  rcases Nat.lt_or_ge k.toNat (kids (zA s) q.2).length with h|h
  ·exact h
  ·rw[List.getElem?_eq_none h]at h5;cases h5
 have he:(kids (zA s) q.2)[k.toNat]=e:=by rw[be hk]at h5;cases h5;rfl
 have:=Ly hs hd hq h0 hk
 rw[h2,he]at this
 obtain⟨l1,v1⟩:=r
 simp only at h3 h4 |-
 subst h3 h4
 rw[dP]
 exact this
end Go.Proofs.Trees
namespace Go.Proofs.Trees
open Go Go.VL Go.RowKit
def tj(c:Nm):List Hl->Nat->Int
 |[],_=>-1
 |h::l,i=>if h.1.cV=c then(i:Int)else tj c l (i+1)
theorem QV(q:Vl)(w:AV)(hw:LK.ptr.has w)(c:Nm)(hq:q.cV.length<=900000):an Tryz.prog 77 [.agg [q.cB,w],.ref 0 0] [.cells [.v (.string (mk c))]] (cW (.v (.bool (decide (q.cV=c)))) [.cells [.v (.string (mk c))]]):=by
 refine O2 _ _ _ ((aH _).mpr trivial) hw ?_
 unfold Jc
 refine ah (Fv q hq) ?_
 simp only[↓zq,zs,ac,zt]
 refine⟨?_,rfl⟩
 congr 2
 rw[cz];simp
theorem K2(c:Nm)(l:List Hl)(hl:l.length<=1000)(ht:∀h,h∈l->h.1.cV.length<=900000):∀(k i:Nat),i+k=l.length->Eu [.sl (hJ l),.v (.int .i64 (l.length:Int)),.v (.int .i64 (i:Int))] [.cells [.v (.string (mk c))]]
 (nr (if tj c (l.drop i) i = -1 then(1,[],[.cells [.v (.string (mk c))]])else(2,[.v (.int .i64 (tj c (l.drop i) i))],[.cells [.v (.string (mk c))]])))
 |
  0,i,hi=>by
  refine M4 _ _ _ _ ?_
  have:i=l.length:=by omega
  subst this
  simp only[Gv,↓zq,zs,ac,zt,ac,List.drop_length,tj]
  exact⟨fun h=>by omega,fun _=>by simp[nr]⟩
 |
  k+1,i,hi=>by
  have hlt:i<l.length:=by omega
  refine M4 _ _ _ _ ?_
  simp only[Gv,↓zq,zs,ac,zt,ac,bC,ei,lh hlt,aH,bx]
  refine⟨fun _=>?_,fun h=>by omega⟩
  repeat refine⟨by first|trivial|omega,?_⟩
  refine aS (QV (l[i]).1 _ ((aH _).mpr trivial) c (ht _ (bD hlt))) ?_
  simp only[↓zq,zs,ac,zt,bm]
  rw[aN hlt,tj]
  by_cases h:(l[i]).1.cV=c
  ·simp only[if_pos h]
   refine⟨fun _=>?_,fun hn=>absurd h (by simpa using hn)⟩
   rw[if_neg (by omega)]
  ·simp only[if_neg h]
   refine⟨fun hp=>absurd (by simpa using hp) h,fun _=>?_⟩
   rw[a7 i (by omega)]
   exact K2 c l hl ht k (i+1) (by omega)
theorem Pu(c:Nm)(l:List Hl)(hl:l.length<=1000)(ht:∀h,h∈l->h.1.cV.length<=900000):an Tryz.prog 76 [.sl (hJ l),.fn 77 [.ref 0 0]] [.cells [.v (.string (mk c))]] (cW (.v (.int .i64 (tj c l 0))) [.cells [.v (.string (mk c))]]):=by
 refine ON _ _ ((ca _).mpr trivial) ?_
 simp only[JC,↓zq,zs,ac,ei]
 have hloop:=K2 c l hl ht l.length 0 (by omega)
 rw[a6]at hloop
 refine eX hloop (fun ys o e=>?_) (fun ys o e=>?_)
 ·split at e
  ·rename_i h
   cases e
   simp only[↓zq,zs,ac,zt,ac]
   rw[h];exact⟨rfl,rfl⟩
  ·cases e
 ·split at e
  ·cases e
  ·cases e
   simp only[↓zq,zs,ac,zt,ac]
   exact⟨rfl,rfl⟩
theorem Fo.kt{a:Ty}{v:Vl}(h:Fo a v):(kids a v).length<=199/\(∀k,k∈kids a v->k.1.cV.length<=900000):=by
 refine⟨?_,fun k hk=>(rz h hk).1⟩
 have h1:=sN a v
 have h2:=nI (kids a v)
 have:=h.nd
 omega
theorem Oe{s d:Nm}{a:Ty}{l l':List Vl}{v w c:Vl}(h:St s d a l v)(hu:qf a l v=some (l',w))(hc:l=l'++[c]):an Tryz.prog 47 [uk s a l v,uk s a l' w] [] (bA (.v (.int .i64 (tj c.cV (kids a w) 0)))):=by
 have h':=h.up hu
 obtain⟨x,A,B,D,z⟩:=h.z
 have hlen:=h.len
 have hl1:l.length=l'.length+1:=by rw[hc];simp
 refine QN _ _ ((bY _).mpr trivial) ((bY _).mpr trivial) ?_
 simp only[No,uk,↓zq,zs,ac,lD,aH,aC]
 repeat refine⟨by first|trivial|omega,?_⟩
 rw[wrap64 ((l.length:Int)-1) (by omega) (by omega)]
 have e1:((l.length:Int)-1).toNat=l'.length:=by omega
 have hg:(xO l).getD l'.length []=[c.cB]:=by rw[xW (by omega)];simp[hc]
 simp only[e1,hg,↓zq,zs,ac,aH]
 repeat refine⟨by first|trivial|omega,?_⟩
 have hcx:=h.i.CU c (by rw[hc];simp)
 refine ah (Fv c hcx.cV) ?_
 simp only[↓zq,zs,ac,zt,aH,aC]
 repeat refine⟨by first|trivial|omega,?_⟩
 have hnd:=h'.i.uR.nd
 refine ah (OU 100 w x A B a z.body z.hx (h'.i.uR.eQ z) (by omega)) ?_
 simp only[↓zq,zs,ac,zt]
 have hk:=h'.i.uR.kt
 refine aS (Pu c.cV (kids a w) (by omega) hk.2) ?_
 simp only[↓zq,zs,ac,zt,bm]
 exact⟨rfl,rfl⟩
def oY:Nat->Ty->List Vl->Vl->List Int
 |0,_,_,_=>[]
 |
  n+1,a,l,v=>match qf a l v with
  |some r=>oY n a r.1 r.2++[tj ((l.getLast?).getD .u).cV (kids a r.2) 0]
  |none=>[]
theorem rF:∀(n:Nat) (a:Ty) (l:List Vl) (v:Vl),(oY n a l v).length<=n
 |0,_,_,_=>by simp[oY]
 |
  n+1,a,l,v=>by
  unfold oY
  cases qf a l v with
  |none=>simp
  |some r=>have:=rF n a r.1 r.2;simp;omega
def QQ(p q:List Int)(i:Nat):Prop:=q.length=p.length/\∀k,k<p.length->q.getD k 0=if k<i\/p.length-1-k<i then p.getD (p.length-1-k) 0 else p.getD k 0
theorem uH{l:List Int}{i j:Nat}(x:Int)(hj:j<l.length):(l.set i x).getD j 0=if i=j then x else l.getD j 0:=by
 simp only[aa,List.getElem?_set]
 split
 ·rename_i e;subst e;simp[hj]
 ·rfl
theorem JH(p:List Int)(hp:p.length<=1000000):∀(m i:Nat) (q:List Int),p.length<=m+2*i->i<=p.length->QQ p q i->Ge [.v (.int .i64 (i:Int)),.v (.int .i64 ((p.length:Int)-1-(i:Int)))] [.vec 1 (dj q)] (fX 1 [] [.vec 1 (dj p.reverse)])
 |
  m,i,q,hm,hi,hR=>by
  refine Pe _ _ _ ?_
  by_cases hlt:(i:Int)<(p.length:Int)-1-(i:Int)
  ·have e2:((p.length:Int)-1-(i:Int)).toNat=p.length-1-i:=by omega
   have h1:i<q.length:=by rw[hR.1];omega
   have h2:p.length-1-i<q.length:=by rw[hR.1];omega
   have g1:(dj q).getD i []=[.v (.int .i64 (q.getD i 0))]:=by simp[dj,aa,h1]
   have g2:(dj q).getD (p.length-1-i) []=[.v (.int .i64 (q.getD (p.length-1-i) 0))]:=by simp[dj,aa,h2]
   have s1:(dj q).set i [.v (.int .i64 (q.getD (p.length-1-i) 0))]=dj (q.set i (q.getD (p.length-1-i) 0)):=by simp[dj,List.map_set]
   have g3:(dj (q.set i (q.getD (p.length-1-i) 0))).getD (p.length-1-i) []=[.v (.int .i64 (q.getD (p.length-1-i) 0))]:=by
    have hne:i≠p.length-1-i:=by omega
    simp[dj,aa,List.getElem?_set,hne,h2]
   simp only[GF,↓zq,zs,ac,iM,bx,e2,g1,g2,List.set_cons_zero,bh,s1,g3]
   have s2:(dj (q.set i (q.getD (p.length-1-i) 0))).set (p.length-1-i) [.v (.int .i64 (q.getD i 0))]=dj ((q.set i (q.getD (p.length-1-i) 0)).set (p.length-1-i) (q.getD i 0)):=by simp[dj,List.map_set]
   simp only[s2,List.length_set]
   have hl:=hR.1
   refine⟨fun _=>⟨⟨by omega,by omega⟩,⟨h2,by first|trivial|simp⟩,⟨by omega,by omega⟩,⟨h1,by first|trivial|simp⟩,⟨by omega,by omega⟩,⟨h1,by omega⟩,⟨by omega,by omega⟩,⟨h2,by omega⟩,?_⟩,fun h=>absurd hlt h⟩
   rw[a7 i (by omega),wrap64 ((p.length:Int)-1-(i:Int)-1) (by omega) (by omega),show (p.length:Int)-1-(i:Int)-1=(p.length:Int)-1-((i+1:Nat):Int) by omega]
   match m,hm with
   |0,hm=>omega
   |
    m+1,hm =>
    refine JH p hp m (i+1) _ (by omega) (by omega) ⟨by simp[hl],fun k hk=>?_⟩
    rw[uH _ (by rw[List.length_set,hl];exact hk),uH _ (by rw[hl];exact hk)]
    have hi1:=hR.2 i (by omega)
    have hi2:=hR.2 (p.length-1-i) (by omega)
    have hi3:=hR.2 k hk
    rw[if_neg (by omega)]at hi1 hi2
    by_cases c1:p.length-1-i=k
    ·subst c1
     rw[if_pos rfl,if_pos (by omega),hi1]
     congr 1;omega
    ·rw[if_neg c1]
     by_cases c2:i=k
     ·subst c2
      rw[if_pos rfl,if_pos (by omega),hi2]
     ·rw[if_neg c2,hi3]
      by_cases c3:k<i\/p.length-1-k<i
      ·rw[if_pos c3,if_pos (by omega)]
      ·rw[if_neg c3,if_neg (by omega)]
  ·simp only[GF,↓zq,zs,ac]
   refine⟨fun h=>absurd h hlt,fun _=>?_⟩
   have:q=p.reverse:=by
    apply List.ext_getElem
    ·rw[hR.1,List.length_reverse]
    ·intro k h1 h2
     have hk:k<p.length:=by rw[<-hR.1];exact h1
     have:=hR.2 k hk
     have e1:q.getD k 0=q[k]:=by simp[aa,h1]
     rw[e1]at this
     rw[this,List.getElem_reverse]
     have e2:p.getD (p.length-1-k) 0=p[p.length-1-k]:=by simp[aa,show p.length-1-k<p.length by omega]
     split
     ·exact e2
     ·rename_i hn
      have:k=p.length-1-k:=by omega
      rw[<-e2,<-this]
   rw[this];exact⟨rfl,rfl,rfl⟩
theorem Rq(p:List Int)(hp:p.length<=1000000):an Tryz.prog 48 [.vec 0] [.vec 1 (dj p)] (cW .any [.gm 1 (dj p.reverse)]):=by
 refine Pb _ ?_
 unfold Nk
 rw[iM,wrap64 ((p.length:Int)-1) (by omega) (by omega)]
 have hloop:=JH p hp p.length 0 p (by omega) (by omega) ⟨rfl,fun k hk=>by rw[if_neg (by omega)]⟩
 rw[show (p.length:Int)-1-((0:Nat):Int)=(p.length:Int)-1 by omega]at hloop
 refine cf hloop ?_
 simp only[↓zq,zs,ac,Ob.es,aP]
 exact⟨rfl,rfl⟩
end Go.Proofs.Trees
namespace Go.Proofs.Trees
open Go Go.VL Go.RowKit
theorem xP{a:Ty}:∀(n:Nat) (l:List Vl) (v:Vl),l.length=n->(jq n a l v).isSome=true->∀c l',l=l'++[c]->∃w,qf a l v=some (l',w)/\(jq l'.length a l' w).isSome=true
 |0,l,v,hl,_,c,l',h=>by rw[h]at hl;simp at hl
 |
  n+1,l,v,hl,hs,c,l',h=>by
  rw[jq]at hs
  cases q:qf a l v with
  |none=>rw[q]at hs;cases hs
  |
   some r =>
   obtain⟨l1,w⟩:=r
   rw[q]at hs
   have h2:l1=l':=by
    unfold qf at q
    rw[h,List.getLast?_concat]at q
    simp only at q
    split at q
    ·cases q;simp
    ·cases q
   subst h2
   have hn:l1.length=n:=by rw[h]at hl;simpa using hl
   exact⟨w,rfl,by rw[hn];exact hs⟩
theorem vi(l:List Vl)(c:Vl):((l++[c]).getLast?).getD .u=c:=by rw[List.getLast?_concat];rfl
theorem xR{a:Ty}{l l':List Vl}{v w c:Vl}(n:Nat)(hu:qf a l v=some (l',w))(hc:l=l'++[c]):oY (n+1) a l v=oY n a l' w++[tj c.cV (kids a w) 0]:=by
 rw[oY,hu];simp only[hc,vi]
noncomputable def rN (s:Nm) (p:List Nm) (f:Nm):Option (List Int):=(mf s p f).map fun r=>oY r.1.length (zA s) r.1 r.2
def EJ(o:Option (List Int)):List Int:=o.getD []
theorem BB(s:Nm)(p:List Nm)(f:Nm):(EJ (rN s p f)).length<=50:=by
 unfold rN
 cases q:mf s p f with
 |none=>simp[EJ]
 |
  some r =>
  obtain⟨d,hs,_⟩:=tW (l:=r.1) (v:=r.2) q
  have:=rF r.1.length (zA s) r.1 r.2
  have:=hs.len
  simp only[EJ,ck,cx]
  omega
theorem JV(s d:Nm)(a:Ty):∀(n:Nat) (l:List Vl) (v:Vl) (out:List Int),l.length=n->St s d a l v->(jq n a l v).isSome=true->out.length+n<=1000 ->
 Fe [uk s a l v] [.vec 1 (dj out)] (fX 1 [] [.vec 1 (dj (out++(oY n a l v).reverse))])
 |
  0,l,v,out,hl,h,_,ho=>by
  have:l=[]:=bT hl
  subst this
  refine Lh _ _ ?_
  simp only[FW,uk,↓zq,zs,ac,lD,aJ]
  refine⟨by omega,fun h=>by omega,fun _=>by simp[fX,oY]⟩
 |
  n+1,l,v,out,hl,h,hs,ho=>by
  have hne:l≠[]:=by rintro rfl;simp at hl
  have hlc:l=l.dropLast++[l.getLast hne]:=(List.dropLast_concat_getLast hne).symm
  obtain⟨w,hu,hs'⟩:=xP (n+1) l v hl hs _ _ hlc
  have hn:l.dropLast.length=n:=by rw[List.length_dropLast];omega
  rw[hn]at hs'
  refine Lh _ _ ?_
  have hup:=L4 s a l v h.i h.len
  rw[hu]at hup
  have hix:=Oe h hu hlc
  rw[xR n hu hlc]
  generalize l.dropLast=l' at *
  generalize l.getLast hne=c at *
  simp only[FW,oZ]at hup |-
  simp only[uk,↓zq,zs,ac,lD,hl]at hup hix |-
  refine⟨by omega,fun _=>?_,fun h=>by omega⟩
  refine ah hup ?_
  simp only[↓zq,zs,ac]
  refine ah hix ?_
  simp only[↓zq,zs,ac,iM]
  refine⟨⟨fun x hx=>by simp at hx;rw[hx];rfl,by simp;omega⟩,?_⟩
  have e:dj out++[[.v (.int .i64 (tj c.cV (kids a w) 0))]]=dj (out++[tj c.cV (kids a w) 0]):=by simp[dj]
  rw[e,List.reverse_append,List.reverse_singleton,<-aU]
  exact JV s d a n l' w _ hn (h.up hu) hs' (by simp;omega)
theorem Oc(s:Nm)(pa:AV)(p:List Nm)(hp:cv pa p)(f:Nm):an Tryz.prog 12 [.agg [.v (.string (mk s)),pa,.v (.string (mk f))]] [] (cW (.cN [.vec 0,.v (.bool (rN s p f).isSome)]) [.vec 1 (dj (EJ (rN s p f)))]):=by
 refine Pn _ _ _ hp.1 ?_
 unfold IB
 refine ah (RX s pa p hp f) ?_
 simp only[↓zq,zs,ac,ww]
 unfold rN
 cases q:mf s p f with
 |
  none =>
  simp only[oZ,↓zq,zs,ac,Option.map_none]
  exact⟨fun _=>⟨rfl,rfl⟩,fun h=>(by cases h)⟩
 |
  some r =>
  obtain⟨l,v⟩:=r
  obtain⟨d,hs,_⟩:=tW q
  have hlen:=hs.len
  have hcl:=(jz q).2
  have hloop:=JV s d (zA s) l.length l v [] rfl hs hcl (by simp;omega)
  have hpl:=rF l.length (zA s) l v
  simp only[oZ,ck]
  have hn:(uk s (zA s) l v).isNil=false:=rfl
  simp only[hn]
  refine⟨fun h=>(by cases h),fun _=>?_⟩
  refine cf hloop ?_
  simp only[↓zq,zs,ac,Ob.es,aP,aM]
  refine aS (Rq (oY l.length (zA s) l v).reverse (by rw[List.length_reverse];omega)) ?_
  rw[List.reverse_reverse]
  simp only[↓zq,zs,ac,Ob.es,aP]
  exact⟨rfl,rfl⟩
theorem IW(s c f:Nm)(pa:AV)(p:List Nm)(hp:cv pa (p++[c]))(hpl:p.length<=1000)(l:List Hl)(hl:l.length<=1000):∀(k i:Nat),i+k=l.length->F8 [.sl (kj l),.v (.int .i64 (i:Int))] [.cells [.v (.string (mk s)),pa,.v (.string (mk f))]]
 (nr (if tj c (l.drop i) i = -1 then(1,[],[])else(2,[.v (.int .i64 (tj c (l.drop i) i))],[])))
 |
  0,i,hi=>by
  refine Jv _ _ _ _ _ ?_
  have:i=l.length:=by omega
  subst this
  simp only[FK,↓zq,zs,ac,zt,ac,nq,List.drop_length,tj]
  exact⟨hp.1,fun h=>by omega,fun _=>by simp[nr]⟩
 |
  k+1,i,hi=>by
  have hlt:i<l.length:=by omega
  refine Jv _ _ _ _ _ ?_
  have hpl2:(p++[c]).length=p.length+1:=by simp
  have e1:(((p.length+1:Nat):Int)-1).toNat=p.length:=by omega
  have hg:(p++[c]).getD p.length []=c:=by simp[aa]
  simp only[FK,↓zq,zs,ac,zt,ac,nq,wk hlt,bx,hp.len,hpl2]
  rw[wrap64 (((p.length+1:Nat):Int)-1) (by omega) (by omega),e1,hp.idx (by rw[hpl2];omega),hg]
  simp only[↓zq,zs,ac,zt]
  refine⟨hp.1,fun _=>?_,fun h=>by omega⟩
  refine⟨by omega,by omega,hp.1,⟨hp.1,by omega,by omega⟩,by omega,?_⟩
  rw[aN hlt,tj]
  by_cases h:(l[i]).1.cV=c
  ·simp only[if_pos h]
   refine⟨fun _=>?_,fun hn=>absurd h (by simpa using hn)⟩
   rw[if_neg (by omega)]
  ·simp only[if_neg h]
   refine⟨fun hp=>absurd (by simpa using hp) h,fun _=>?_⟩
   rw[a7 i (by omega)]
   exact IW s c f pa p hp hpl l hl k (i+1) (by omega)
theorem OD{s d:Nm}{a:Ty}{l l':List Vl}{v w c:Vl}(h:St s d a l v)(hu:qf a l v=some (l',w))(hc:l=l'++[c])(pa:AV)(hp:cv pa (l.map (·.cV))):an Tryz.prog 42 [.agg [.v (.string (mk s)),pa,.v (.string (mk v.cV))]] [] (bA (.v (.int .i64 (tj c.cV (kids a w) 0)))):=by
 have h':=h.up hu
 obtain⟨x,A,B,D,z⟩:=h.z
 have hlen':=h'.len
 have hk:=h'.i.uR.kt
 refine PS _ _ _ hp.1 ?_
 unfold KZ
 refine ah (Fh h pa hp) ?_
 rw[pw hu]
 simp only[↓zq,zs,ac,zt,bC,ca]
 refine ah (Pd z w h'.i.uR) ?_
 simp only[↓zq,zs,ac]
 have hp':cv pa (l'.map (·.cV)++[c.cV]):=by rw[hc,dP]at hp;exact hp
 have hloop:=IW s c.cV v.cV pa _ hp' (by simp;omega) (kids a w) (by omega) (kids a w).length 0 (by omega)
 rw[a6]at hloop
 refine eX hloop (fun ys o e=>?_) (fun ys o e=>?_)
 ·split at e
  ·rename_i hh
   cases e
   rw[hh];exact⟨rfl,rfl⟩
  ·cases e
 ·split at e
  ·cases e
  ·cases e
   simp only[↓zq,zs,ac]
   exact⟨rfl,rfl⟩
theorem Jd(s d:Nm)(a:Ty):∀(n:Nat) (l:List Vl) (v:Vl) (pa:AV) (out:List Int),l.length=n->St s d a l v->(jq n a l v).isSome=true->out.length+n<=1000->cv pa (l.map (·.cV)) ->
 ED [] [.cells [.v (.string (mk s)),pa,.v (.string (mk v.cV))],.vec 1 (dj out)] (fX 1 [] [.vec 1 (dj (oY n a l v++out))])
 |
  0,l,v,pa,out,hl,h,_,ho,hp=>by
  refine IY _ _ _ _ ?_
  simp only[GI,↓zq,zs,ac,zt,ac,hp.len,bH,hl]
  exact⟨hp.1,hp.1,fun h=>by omega,fun _=>by simp[fX,oY]⟩
 |
  n+1,l,v,pa,out,hl,h,hs,ho,hp=>by
  have hne:l≠[]:=by rintro rfl;simp at hl
  have hlc:l=l.dropLast++[l.getLast hne]:=(List.dropLast_concat_getLast hne).symm
  obtain⟨w,hu,hs'⟩:=xP (n+1) l v hl hs _ _ hlc
  have hn:l.dropLast.length=n:=by rw[List.length_dropLast];omega
  rw[hn]at hs'
  refine IY _ _ _ _ ?_
  have hix:=OD h hu hlc pa hp
  have hup:=Fh h pa hp
  rw[pw hu]at hup
  rw[xR n hu hlc]
  generalize l.dropLast=l' at *
  generalize l.getLast hne=c at *
  simp only[GI,↓zq,zs,ac,zt,ac,hp.len,bH,hl]
  refine⟨hp.1,hp.1,fun _=>?_,fun h=>by omega⟩
  refine ah hix ?_
  simp only[↓zq,zs,ac,iM]
  refine⟨⟨fun x hx=>?_,by simp;omega⟩,?_⟩
  ·simp only[dj,cd]at hx
   obtain⟨y,_,rfl⟩:=hx;rfl
  refine ah hup ?_
  simp only[↓zq,zs,ac,zt,bC,ca]
  have e:[[.v (.int .i64 (tj c.cV (kids a w) 0))]]++dj out=dj (tj c.cV (kids a w) 0::out):=by simp[dj]
  have ih:=Jd s d a n l' w (.sl (bo (l'.map (·.cV)))) (tj c.cV (kids a w) 0::out) hn (h.up hu) hs' (by simp;omega) (cv.of _)
  rw[aU,List.singleton_append,<-e]at *
  exact ih
theorem Ri(s:Nm)(pa:AV)(p:List Nm)(hp:cv pa p)(f:Nm):an Tryz.prog 10 [.agg [.v (.string (mk s)),pa,.v (.string (mk f))]] [] (bA (.cN [.sl (dj (EJ (rN s p f))),.v (.bool (rN s p f).isSome)])):=by
 refine Qv _ _ _ hp.1 ?_
 unfold J4
 refine ah (PU s pa p hp f) ?_
 simp only[↓zq,zs,ac]
 unfold rN
 cases q:mf s p f with
 |none=>simp only[bB,Option.map_none];exact⟨fun _=>⟨rfl,rfl⟩,fun h=>by simp at h⟩
 |
  some r =>
  obtain⟨l,v⟩:=r
  obtain⟨d,hs,rfl,rfl⟩:=tW q
  have hlen:=hs.len
  have hcl:=(jz q).2
  simp only[bf,ck]
  refine⟨fun h=>by simp at h,fun _=>?_⟩
  refine cf (Jd s d (zA s) l.length l v pa [] rfl hs hcl (by simp;omega) hp) ?_
  rw[cA]
  simp only[↓zq,zs,ac,Ob.es,aP]
  exact⟨rfl,rfl⟩
end Go.Proofs.Trees
namespace Go.Proofs.Trees
open Go Go.VL Go.RowKit
theorem Me(a:AV)(k n:Nat)(ha:je a ((vL k n).map Int.ofNat))(hn:n<=1000000)(hk:k<=1000000):∀(m i:Nat),i+m=n->GX [a,.v (.int .i64 ((k+i:Nat):Int)),.v (.int .i64 (i:Int))] [] (fX 1 [.v (.int .i64 ((k+n:Nat):Int))] [])
 |
  0,i,hi=>by
  refine JF _ _ _ ?_
  simp only[Gr,↓zq,zs,ac,ha.len,bH,ug]
  refine⟨ha.1,ha.1,fun h=>by omega,fun _=>?_⟩
  rw[show i=n by omega];exact⟨rfl,rfl,rfl⟩
 |
  m+1,i,hi=>by
  have hlt:i<n:=by omega
  have hg:((vL k n).map Int.ofNat).getD i 0=((k+i:Nat):Int):=by simp[vL,aa,hlt]
  refine JF _ _ _ ?_
  simp only[Gr,↓zq,zs,ac,zt,ha.len,bH,ug,ha.idx (show i<((vL k n).map Int.ofNat).length by rw[bH,ug];exact hlt),hg,bx]
  refine⟨ha.1,ha.1,fun _=>⟨⟨ha.1,by omega,by omega⟩,by omega,fun h=>by simp at h,fun _=>?_⟩,fun h=>by omega⟩
  rw[a7 i (by omega),a7 (k+i) (by omega)]
  exact Me a k n ha hn hk m (i+1) (by omega)
theorem OB(a:AV)(k n:Nat)(ha:je a ((vL k n).map Int.ofNat))(hn:n<=1000000)(hk:k<=1000000):an Tryz.prog 17 [a,.v (.int .i64 (k:Int))] [] (bA (.v (.int .i64 ((k+n:Nat):Int)))):=by
 refine Ok _ _ ha.1 ?_
 unfold Mw
 have:=Me a k n ha hn hk n 0 (by omega)
 refine cf this ?_
 simp[↓zq,zs,ac,bA]
theorem PW(s:Nm)(pa:AV)(p:List Nm)(hp:cv pa p)(f:Nm)(hs:s.length<=9223372036854775807)(hpl:p.length<=9223372036854775807):an Tryz.prog 3 [.agg [.v (.string (mk s)),pa,.v (.string (mk f))]] [] (bA (.v (.bool true))):=by
 refine Qy _ _ _ hp.1 ?_
 simp only[KH,↓zq,zs,ac,zt,bA]
 refine bU (O7 s f pa p hp hs hpl) (HL.ne _) ?_
 rintro r o ⟨n,rfl,hn⟩
 simp only[↓zq,zs,ac]
 refine⟨fun _=>trivial,fun hn'=>?_⟩
 have hl:p.length<=1048576:=hn (by omega)
 have toz:=Qx s f pa p hp (by omega)
 have eqz:=Pw s f _ _ p (cv.of p) (cv.of p) (by omega)
 have hq:=BB s p f
 have WS:=Ri s (.sl (bo p)) p (cv.of p) f
 have WI:=Oc s (.sl (bo p)) p (cv.of p) f
 have EQ:=Rx _ _ (EJ (rN s p f)) (je.of _) (je.of _) (by omega)
 have HE:=OB _ 1 (EJ (rN s p f)).length (je.of _) (by omega) (by omega)
 refine aS toz ?_
 simp only[↓zq,zs,ac,zt,bm,Ob.es,aP]
 refine⟨jI _,?_⟩
 refine ah WS ?_
 simp only[↓zq,zs,ac]
 refine aS toz ?_
 simp only[↓zq,zs,ac,zt,bm,Ob.es,aP]
 refine⟨jI _,?_⟩
 refine aS WI ?_
 simp only[↓zq,zs,ac,Ob.es,aP]
 refine⟨pE _,?_⟩
 refine ah EQ ?_
 simp only[↓zq,zs,ac]
 refine⟨fun h=>by simp at h,fun _=>⟨fun h=>by simp at h,fun _=>?_⟩⟩
 refine aS toz ?_
 simp only[↓zq,zs,ac,zt,bm,Ob.es,aP]
 refine⟨jI _,?_⟩
 refine ah eqz ?_
 simp only[↓zq,zs,ac]
 refine⟨fun h=>by simp at h,fun _=>?_⟩
 refine aS (OS s f 1 p (by omega) (by omega)) ?_
 simp only[↓zq,zs,ac,Ob.es,aP]
 refine⟨fun h=>by omega,fun _=>?_⟩
 refine ah EQ ?_
 simp only[↓zq,zs,ac]
 refine⟨fun h=>by simp at h,fun _=>⟨fun h=>by simp at h,fun _=>?_⟩⟩
 refine aS (PY 1 _ (by omega) (by omega)) ?_
 simp only[↓zq,zs,ac,Ob.es,aP]
 refine ah HE ?_
 simp only[↓zq,zs,ac]
 refine⟨fun h=>by omega,fun _=>⟨fun h=>by simp at h,fun _=>?_⟩⟩
 refine aS toz ?_
 simp only[↓zq,zs,ac,zt,bm,Ob.es,aP]
 refine⟨jI _,?_⟩
 refine aS WI ?_
 simp only[↓zq,zs,ac,Ob.es,aP]
 refine⟨pE _,?_⟩
 refine ah EQ ?_
 simp only[↓zq,zs,ac]
 refine⟨fun h=>by simp at h,fun _=>⟨fun h=>by simp at h,fun _=>?_⟩⟩
 refine ah HE ?_
 simp only[↓zq,zs,ac]
 refine⟨fun h=>by omega,fun _=>⟨fun h=>by simp at h,fun _=>?_⟩⟩
 first|rfl|trivial
end Go.Proofs.Trees
