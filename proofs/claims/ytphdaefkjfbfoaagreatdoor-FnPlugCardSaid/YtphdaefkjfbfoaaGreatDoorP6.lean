/-
  Part of a proof: Go functions read by values, trees of functions, their contracts.
-/
import Derived.Test.YtphdaefkjfbfoaaGreatDoorP5
set_option linter.unusedVariables false
set_option linter.unusedSimpArgs false
open And renaming intro→aH
open Bool renaming and_eq_true→au,eq_iff_iff→cu,or_eq_false_iff→bU,or_eq_true→bn,true_and→bL
open Int renaming tmod→dB,toNat_natCast→ca
open List renaming all_cons→cU,all_eq_true→bM,any_eq_true→bS,append_assoc→bb,append_nil→cS,cons_append→ba,drop_eq_getElem_cons→aY,drop_zero→bo,getD_eq_getElem?_getD→aa,getElem?_eq_getElem→bm,getElem_mem→bN,headD_cons→bg,length_append→an,length_cons→aw,length_map→cR,length_nil→aF,map_cons→bI,mem_append→aK,mem_append_left→aB,mem_append_right→az,mem_cons→aI,mem_cons_of_mem→al,mem_cons_self→ai,mem_map→cj,mem_singleton→aS,nil_append→aT,tail_cons→bx
open Nat renaming le_add_right→cV,le_refl→ap,lt_of_lt_of_le→df,mod_lt→ep,mul_add→cM,mul_le_mul_right→aX,mul_one→dC,zero_add→aU,zero_le→dP
open Option renaming bind_eq_some_iff→a7,bind_none→bO,bind_some→aZ,getD_some→cT,isSome_iff_exists→bz,isSome_none→cn,isSome_some→co,map_some→cv
open UInt8 renaming ofNat→a8
namespace Go.Proofs.Trees
open Go Go.VL Go.RowKit
theorem ir(F:List Nm):∀(t:Ty) (to:List Nm) (k:Nat),k<=(gS F t to k).2/\(gS F t to k).2<=k+(F.length+1)*t.aC
 | .zero,_,k=>⟨ap _,cV _ _⟩
 | .one,_,k=>⟨ap _,cV _ _⟩
 | .name _,_,k=>⟨ap _,cV _ _⟩
 | .bH _,_,k=>⟨ap _,cV _ _⟩
 |
  .plus a b,to,k=>by
  have h1:=ir F a to k
  have h2:=ir F b to (gS F a to k).2
  simp only[gS,Ty.aC]
  have:(F.length+1)*(1+a.aC+b.aC)=(F.length+1)+(F.length+1)*a.aC+(F.length+1)*b.aC:=by simp only[cM,dC]
  omega
 |
  .times a b,to,k=>by
  have h1:=ir F a to k
  have h2:=ir F b to (gS F a to k).2
  simp only[gS,Ty.aC]
  have:(F.length+1)*(1+a.aC+b.aC)=(F.length+1)+(F.length+1)*a.aC+(F.length+1)*b.aC:=by simp only[cM,dC]
  omega
 |
  .rc a,to,k=>by
  obtain⟨g1,g2,_,_⟩:=gA F k
  have h1:=ir F a (to++[tN (nx F k)]) (nx F k+1)
  simp only[gS,Ty.aC]
  have:(F.length+1)*(2+a.aC)=(F.length+1)*2+(F.length+1)*a.aC:=by simp only[cM]
  omega
theorem p5(l:List Nm):(ck l).length=l.length:=by simp[ck]
theorem OV(F:List Nm)(hF:F.length<10000){e:E}(h:Wf e):∀(fr to:List Nm) (a b:AV) (k:Nat),dT a fr->dT b to->fr.length=to.length->(∀w,w∈fr->qh w)->fr.length+e.sz<10000->k+(F.length+1)*(cX e fr).aC<99000000 ->
 aq Tryz.prog 131 [.agg [.v (.string (mk e.at)),e.sp],a,b,.ref 0 0] [.cells [.vec 1,.v (.int .i64 (k:Int))],.vec 1 (ck F)] (dx (.agg [.v (.string (mk (gS F (cX e fr) to k).1.at)),(gS F (cX e fr) to k).1.sp]) [.cells [.vec 1,.v (.int .i64 ((gS F (cX e fr) to k).2:Int))],.vec 1 (ck F)]):=by
 induction h with
 |
  @atom s hs =>
  intro fr to a b k ha hb hft hfr hl hk
  simp only[E.sz]at hl
  refine Dl _ _ _ _ _ _ ((aV _).mpr trivial) ha.1 hb.1 ?_
  have hz:∀c,(c=[48]\/c=[49])->bE c fr fr.length=none:=fun c hc=>(fy c fr).2 fun hm=>by
   obtain⟨h1,h2,h3⟩:=hfr c hm
   rcases hc with rfl|rfl
   ·exact h2 rfl
   ·exact h3 rfl
  have hq:gS F (cX (.atom s) fr) to k=(match bE s fr fr.length with|some u=>.atom (gn to u)|none=>.atom s,k):=by
   simp only[cX]
   by_cases h0:s=[48]
   ·rw[if_pos h0,hz s (.inl h0),h0];rfl
   ·rw[if_neg h0]
    by_cases h1:s=[49]
    ·rw[if_pos h1,hz s (.inr h1),h1];rfl
    ·rw[if_neg h1]
     cases bE s fr fr.length<;>rfl
  simp only[Bm,dZ,↓zq,zs,af,zt]
  refine⟨fun _=>⟨ha.1,?_⟩,fun h=>absurd h hs⟩
  rw[ha.len,wrap64 _ (by omega) (by omega)]
  refine jp (Kp s _ a b ((aV _).mpr trivial) F fr to (k:Int) ha hb hft (by omega) fr.length (ap _)) (fun ys o e=>?_) (fun ys o e=>?_)
  ·rw[hq]
   cases q:bE s fr fr.length<;>rw[q]at e<;>cases e
   simp only[↓zq,zs,af,zt,af,aM,bq,aV]
   exact⟨rfl,rfl⟩
  ·rw[hq]
   cases q:bE s fr fr.length<;>rw[q]at e<;>cases e
   simp only[↓zq,zs,af,zt,af,aM,bq]
   exact⟨rfl,rfl⟩
 |
  @plus x y hx hy i1 i2 =>
  intro fr to a b k ha hb hft hfr hl hk
  simp only[E.sz,E.jk]at hl
  rw[dU]at hk |-
  simp only[Ty.aC]at hk
  have hm:(F.length+1)*(1+(cX x fr).aC+(cX y fr).aC)=(F.length+1)+(F.length+1)*(cX x fr).aC+(F.length+1)*(cX y fr).aC:=by simp only[cM,dC]
  have hc:=ir F (cX x fr) to k
  refine Dl _ _ _ _ _ _ ((aV _).mpr trivial) ha.1 hb.1 ?_
  have hP:=P3.of (.atom [43]) x y
  simp only[Bm,bR,toNat_one,be,↓zq,zs,af,zt,hP.1,hP.2.1,hP.2.2.1,hP.2.2.2,aL]
  refine⟨fun h=>absurd rfl h,fun _=>?_⟩
  refine aj (pg [43] x y) ?_
  simp only[↓zq,zs,af,zt]
  refine⟨fun h=>by simp at h,fun _=>?_⟩
  repeat refine⟨by omega,?_⟩
  refine bi (i1 fr to a b k ha hb hft hfr (by omega) (by omega)) ?_
  simp only[↓zq,zs,af,zt,aM,aL,bg,bx,Ob.es]
  repeat refine⟨by omega,?_⟩
  refine aj (pg [43] x y) ?_
  simp only[↓zq,zs,af,zt]
  repeat refine⟨by omega,?_⟩
  refine bi (i2 fr to a b _ ha hb hft hfr (by omega) (by omega)) ?_
  simp only[↓zq,zs,af,zt,aM,aL,bg,bx,Ob.es]
  repeat refine⟨by omega,?_⟩
  refine aj (vW _ _ _) ?_
  simp only[↓zq,zs,af,zt,aL,bR]
  repeat refine⟨by omega,?_⟩
  exact⟨rfl,rfl⟩
 |
  @times x y hx hy i1 i2 =>
  intro fr to a b k ha hb hft hfr hl hk
  simp only[E.sz,E.jk]at hl
  rw[dm]at hk |-
  simp only[Ty.aC]at hk
  have hm:(F.length+1)*(1+(cX x fr).aC+(cX y fr).aC)=(F.length+1)+(F.length+1)*(cX x fr).aC+(F.length+1)*(cX y fr).aC:=by simp only[cM,dC]
  have hc:=ir F (cX x fr) to k
  refine Dl _ _ _ _ _ _ ((aV _).mpr trivial) ha.1 hb.1 ?_
  have hP:=P3.of (.atom [42]) x y
  simp only[Bm,bR,toNat_one,be,↓zq,zs,af,zt,hP.1,hP.2.1,hP.2.2.1,hP.2.2.2,aL]
  refine⟨fun h=>absurd rfl h,fun _=>?_⟩
  refine aj (pg [42] x y) ?_
  simp only[↓zq,zs,af,zt]
  refine⟨fun h=>by simp at h,fun _=>?_⟩
  repeat refine⟨by omega,?_⟩
  refine bi (i1 fr to a b k ha hb hft hfr (by omega) (by omega)) ?_
  simp only[↓zq,zs,af,zt,aM,aL,bg,bx,Ob.es]
  repeat refine⟨by omega,?_⟩
  refine aj (pg [42] x y) ?_
  simp only[↓zq,zs,af,zt]
  repeat refine⟨by omega,?_⟩
  refine bi (i2 fr to a b _ ha hb hft hfr (by omega) (by omega)) ?_
  simp only[↓zq,zs,af,zt,aM,aL,bg,bx,Ob.es]
  repeat refine⟨by omega,?_⟩
  refine aj (vW _ _ _) ?_
  simp only[↓zq,zs,af,zt,aL,bR]
  repeat refine⟨by omega,?_⟩
  exact⟨rfl,rfl⟩
 |
  @rc n y hn hy i =>
  intro fr to a b k ha hb hft hfr hl hk
  simp only[E.sz,E.jk]at hl
  rw[fL]at hk |-
  simp only[Ty.aC,dZ]at hk
  have hm:(F.length+1)*(2+(cX y (fr++[n])).aC)=(F.length+1)*2+(F.length+1)*(cX y (fr++[n])).aC:=by simp only[cM]
  have hc:=ir F (cX y (fr++[n])) (to++[tN (nx F k)]) (nx F k+1)
  obtain⟨g1,g2,_,_⟩:=gA F k
  refine Dl _ _ _ _ _ _ ((aV _).mpr trivial) ha.1 hb.1 ?_
  have hP:=P3.of (.atom dY) (.atom n) y
  simp only[Bm,bR,toNat_one,be,↓zq,zs,af,zt,hP.1,hP.2.1,hP.2.2.1,hP.2.2.2,aL]
  refine⟨fun h=>absurd rfl h,fun _=>?_⟩
  refine aj (pg dY (.atom n) y) ?_
  simp only[↓zq,zs,af,zt]
  refine⟨fun _=>?_,fun h=>absurd rfl h⟩
  refine aj (F4 (k+1) k (by omega) (by omega)) ?_
  have hd:=mv (k+1) k (by omega)
  simp only[↓zq,zs,af,zt,ba,aT]
  refine⟨by simp[cz];omega,?_⟩
  refine cw (Iw a b ha.1 hb.1 F (by omega) (mk []) _ ((aV _).mpr trivial) (F.length+1) k (by show nx F k<_;omega) (by omega)) ?_
  simp only[↓zq,zs,af,zt,af,aM,bq,aV,ha.1,hb.1,hP.1,hP.2.1,hP.2.2.1,hP.2.2.2,toNat_one,be,aL]
  repeat refine⟨by omega,?_⟩
  have hnx:pX F (F.length+1) k=nx F k:=rfl
  rw[hnx]
  refine aj (yW fr a ha n (by omega)) ?_
  simp only[↓zq,zs,af,zt]
  refine aj (yW to b hb (tN (nx F k)) (by omega)) ?_
  simp only[↓zq,zs,af,zt]
  rw[bA (nx F k) (by omega)]
  have hmk:=vW dY (.atom (tN (nx F k))) (gS F (cX y (fr++[n])) (to++[tN (nx F k)]) (nx F k+1)).1
  simp only[dZ]at hmk
  refine bi (i (fr++[n]) (to++[tN (nx F k)]) _ _ (nx F k+1) (.of _) (.of _) (by simp[hft]) (fun w hw=>by
   rcases aK.1 hw with hw|hw
   ·exact hfr w hw
   ·simp only[aS]at hw;rw[hw];exact hn) (by simp;omega) (by omega)) ?_
  simp only[↓zq,zs,af,zt,aM,aL,bg,bx,Ob.es]
  repeat refine⟨by omega,?_⟩
  refine aj hmk ?_
  simp only[↓zq,zs,af,zt,aL,bR]
  repeat refine⟨by omega,?_⟩
  exact⟨rfl,rfl⟩
theorem wg(l r:List Nm):ck (l++r)=ck l++ck r:=by simp[ck]
def qS(os:List E):List Nm:=os.flatMap fun o=>kf o [] []
theorem u9{os:List E}{i:Nat}(h:i<os.length):(E.bj os).getD i []=[.v (.string (mk (os[i]).at)),(os[i]).sp]:=by
 have:∀(os:List E) (i:Nat) (h:i<os.length),(E.bj os).getD i []=(os[i]).iw:=by
  intro os
  induction os with
  |nil=>intro i h;simp at h
  |
   cons o os ih =>
   intro i h
   cases i with
   |zero=>simp[E.bj]
   |succ i=>simpa[E.bj]using ih i (by simpa using h)
 rw[this os i h,fJ]
theorem yr(os:List E){i:Nat}(h:i<os.length):qS (os.drop i)=kf (os[i]) [] []++qS (os.drop (i+1)):=by
 unfold qS;rw[aY h,List.flatMap_cons]
theorem H0(a:AV)(os:List E)(ha:LK.sl.has a/\a.aR=E.bj os)(ho:∀o,o∈os->Wf o/\o.sz<5000)(hl:os.length<100)(t:ByteArray)(p:AV)(hp:LK.sl.has p):∀(k i:Nat) (F:List Nm),i+k=os.length->F.length<=5000+5000*i ->
 Eu [a,.v (.int .i64 (i:Int))] [.cells [.v (.string t),p],zE,.vec 1 (ck F)] (iG 1 [] [.cells [.v (.string t),p],zE,.vec 1 (ck (F++qS (os.drop i)))])
 |
  0,i,F,hi,hF=>by
  refine JP _ _ _ _ _ _ _ ?_
  have:i=os.length:=by omega
  subst this
  simp only[FO,↓zq,zs,af,zt,af,hp,bq,ha.1,ha.2,eg,List.drop_length]
  exact⟨fun h=>by omega,fun _=>by simp[iG,qS]⟩
 |
  k+1,i,F,hi,hF=>by
  have hlt:i<os.length:=by omega
  obtain⟨hw,hsz⟩:=ho _ (bN hlt)
  have hfl:=gb (os[i]) [] []
  refine JP _ _ _ _ _ _ _ ?_
  simp only[FO,↓zq,zs,af,zt,af,hp,bq,ha.1,ha.2,eg,u9 hlt,aL,ca]
  refine⟨fun _=>?_,fun h=>by omega⟩
  repeat refine⟨by omega,?_⟩
  have hfre:=B5 hw [] [] (.sl []) (.of []) (by simp;omega)
  refine bi hfre ?_
  simp only[↓zq,zs,af,zt,bg,bx,Ob.es,p5,<-wg]
  rw[bA i (by omega),yr os hlt,<-bb]
  simp only[aF,aU]at hfl
  refine⟨⟨kj _,by omega⟩,?_⟩
  exact H0 a os ha ho hl t p hp k (i+1) _ (by omega) (by simp;omega)
def zw(e:E)(os:List E):List Nm:=kf e [] []++qS os
def zm(e:E)(os:List E):E:=(gS (zw e os) (cX e []) [] 0).1
theorem Ce{e:E}{os:List E}(h:e.sz<=2000)(ho:∀o,o∈os->Wf o/\o.sz<=2000)(hl:os.length<=2):(zw e os).length<=6000:=by
 have h1:=gb e [] []
 have h2:∀(l:List E),(∀o,o∈l->o.sz<=2000)->(qS l).length<=2000*l.length:=by
  intro l
  induction l with
  |nil=>intro _;simp[qS]
  |
   cons o l ih =>
   intro hl
   have:=ih fun q hq=>hl q (al _ hq)
   have:=hl o ai
   have:=gb o [] []
   simp only[qS,List.flatMap_cons,an,aw,aF]at *
   omega
 have:=h2 os fun o ho'=>(ho o ho').2
 simp only[zw,an,aF]at *
 omega
theorem CE{e:E}(h:Wf e)(a:AV)(os:List E)(ha:LK.sl.has a/\a.aR=E.bj os)(he:e.sz<=2000)(ho:∀o,o∈os->Wf o/\o.sz<=2000)(hl:os.length<=2) :
 aq Tryz.prog 78 [.agg [.v (.string (mk e.at)),e.sp],a] [] (bC (.agg [.v (.string (mk (zm e os).at)),(zm e os).sp])):=by
 refine Oz _ _ _ ((aV _).mpr trivial) ha.1 ?_
 unfold KB
 have hfl:=gb e [] []
 simp only[aF,aU]at hfl
 have hap:=Ce he ho hl
 have hats:(cX e []).aC<=2000:=by
  rw[<-h.cZ []]
  have:e.cZ<=e.sz:=by
   clear hap hfl ha he ho hl
   induction h with
   |atom _=>simp[E.cZ,E.sz]
   |plus _ _ i1 i2=>simp only[E.cZ,E.eX,E.sz,E.jk];omega
   |times _ _ i1 i2=>simp only[E.cZ,E.eX,E.sz,E.jk];omega
   |rc _ _ i=>simp only[E.cZ,E.eX,E.sz,E.jk];omega
  omega
 have hfre:=B5 h [] [] (.sl []) (.of []) (by simp;omega)
 simp only[↓zq,zs,af,zt]
 refine bi hfre ?_
 simp only[↓zq,zs,af,zt,bg,bx,Ob.es]
 have hlp:=H0 a os ha (fun o hq=>⟨(ho o hq).1,by have:=(ho o hq).2;omega⟩) (by omega) (mk e.at) e.sp ((aV _).mpr trivial) os.length 0 (kf e [] []) (by omega) (by omega)
 rw[bo]at hlp
 refine cw hlp ?_
 simp only[↓zq,zs,af,zt,af,aM,bq,aV,bg,bx,Ob.es]
 have hmul:((zw e os).length+1)*(cX e []).aC<=6001*2000:=Nat.mul_le_mul (by omega) hats
 have hren:=OV (zw e os) (by omega) h [] [] (.sl []) (.sl []) 0 (.of []) (.of []) rfl (fun w hw=>by cases hw) (by simp;omega) (by omega)
 refine bi hren ?_
 simp only[↓zq,zs,af,zt,aM,aL]
 repeat refine⟨by omega,?_⟩
 exact⟨rfl,rfl⟩
end Go.Proofs.Trees
namespace Go.Proofs.Trees
open Go Go.VL Go.RowKit
def fC(t:Ty):Prop:=jv t 0/\∀y,bh y t=true->qh y
theorem gC:∀(t:Ty) {i j:Nat},jv t i->i<=j->jv t j
 | .bH u,i,j,h,hj=>df h hj
 | .plus a b,i,j,h,hj=>⟨gC a h.1 hj,gC b h.2 hj⟩
 | .times a b,i,j,h,hj=>⟨gC a h.1 hj,gC b h.2 hj⟩
 | .rc a,i,j,h,hj=>gC (i:=i+1) (j:=j+1) a h (by omega)
 | .zero,_,_,_,_=>trivial
 | .one,_,_,_,_=>trivial
 | .name _,_,_,_,_=>trivial
theorem gJ(x:Nm):∀(t:Ty) {i:Nat},jv t (i+1)->jv (dE (.name x) t i) i
 |
  .bH u,i,h=>by
  simp only[dE]
  split
  ·trivial
  ·have:u<i+1:=h
   show u<i;omega
 | .plus a b,i,h=>⟨gJ x a h.1,gJ x b h.2⟩
 | .times a b,i,h=>⟨gJ x a h.1,gJ x b h.2⟩
 | .rc a,i,h=>gJ x (i:=i+1) a h
 | .zero,_,_=>trivial
 | .one,_,_=>trivial
 | .name _,_,_=>trivial
theorem kt{x:Nm}{u:Ty}(hu:jv u 0):∀(t:Ty) {i:Nat},jv t i->jv (sub x u t) i
 | .name s,i,_=>by simp only[sub];split;exact gC u hu (dP _);trivial
 | .plus a b,i,h=>⟨kt hu a h.1,kt hu b h.2⟩
 | .times a b,i,h=>⟨kt hu a h.1,kt hu b h.2⟩
 | .rc a,i,h=>kt hu (i:=i+1) a h
 | .zero,_,_=>trivial
 | .one,_,_=>trivial
 | .bH _,_,h=>h
theorem Dv.lc{t d:Ty}{s:Nm}(h:Dv t s d):jv t 0->jv d 0:=by
 induction h with
 |zero s=>exact fun _=>trivial
 |one s=>exact fun _=>trivial
 |bH k s=>exact fun _=>trivial
 |hit s=>exact fun _=>trivial
 |qg h=>exact fun _=>trivial
 |plus h1 h2 hl i1 i2=>exact fun h=>⟨i1 h.1,i2 h.2⟩
 |times h1 h2 hl i1 i2=>exact fun h=>⟨⟨i1 h.1,h.2⟩,h.1,i2 h.2⟩
 |
  rc x hx hs h1 h2 hl i1 i2 =>
  intro h
  have g1:=kt (x:=x) h _ (i1 (gJ x _ h))
  have g2:=kt (x:=x) h _ (i2 (gJ x _ h))
  exact⟨gC _ g1 (by omega),gC _ g2 (by omega),Nat.zero_lt_one⟩
theorem Wf.pu{e:E}(h:Wf e):fC (cX e []):=⟨ud h [],fun y hy=>(pD h [] y hy).1⟩
theorem fC.dv{t d:Ty}{s:Nm}(g:fC t)(h:Dv t s d):fC d:=⟨h.lc g.1,fun y hy=>g.2 y (h.names y hy)⟩
theorem fC.tree{t:Ty}(g:fC t):∃e,Wf e/\cX e []=t:=by
 obtain⟨h1,h2,_⟩:=kz (bD t []) t [] 0 (.nil _ _) g.1 fun y hy=>⟨(eQ t [] y).2 (.inr hy),g.2 y hy⟩
 exact⟨_,h1,h2⟩
theorem fC.sub{x:Nm}{u t:Ty}(hu:fC u)(ht:fC t):fC (sub x u t):=⟨kt hu.1 t ht.1,fun y hy=>by
 rcases jf t hy with h|h
 ·exact hu.2 y h
 ·exact ht.2 y h.2⟩
def l7(o:Option Ty):AV->List Ob->Prop:=fun r ob=>ob=[]/\∃(c:Nm) (d:AV),LK.sl.has d/\r=.cG [.agg [.v (.string (mk c)),d],.v (.bool o.isSome)]/\∀t,o=some t->∃e,Wf e/\cX e []=t/\c=e.at/\d=e.sp
theorem l7.ne{o:Option Ty}(h:∀t,o=some t->fC t):∃r ob,l7 o r ob:=by
 cases o with
 |none=>exact⟨_,_,rfl,[],zF,(bq).mpr trivial,rfl,fun t h=>by cases h⟩
 |
  some t =>
  obtain⟨e,h1,h2⟩:=(h t rfl).tree
  exact⟨_,_,rfl,e.at,e.sp,(aV _).mpr trivial,rfl,fun t' h'=>by cases h';exact⟨e,h1,h2,rfl,rfl⟩⟩
theorem l7.of{e:E}(h:Wf e):l7 (some (cX e [])) (.cG [.agg [.v (.string (mk e.at)),e.sp],.v (.bool true)]) [] :=
 ⟨rfl,e.at,e.sp,(aV _).mpr trivial,rfl,fun t h'=>by cases h';exact⟨e,h,rfl,rfl,rfl⟩⟩
theorem l7.no(c:Nm)(d:AV)(hd:LK.sl.has d):l7 none (.cG [.agg [.v (.string (mk c)),d],.v (.bool false)]) [] :=
 ⟨rfl,c,d,hd,rfl,fun t h'=>by cases h'⟩
theorem iY{c:ByteArray}{d:AV}(h:LK.sl.has d):bB [.str,.sl] [.v (.string c),d] 0=True:=by simp[bB,dq,h]
theorem wj{e:E}{os:List E}(h:Wf e):Wf (zm e os)/\cX (zm e os) []=cX e []/\tO (·∉zw e os) (zm e os):=by
 obtain⟨h1,h2,_,_,h5⟩:=kz (zw e os) (cX e []) [] 0 (.nil _ _) (ud h []) fun y hy=>⟨aB _ ((lz h [] [] y).2 (.inr hy)),(pD h [] y hy).1⟩
 exact⟨h1,h2,h5⟩
theorem qR{os:List E}{o:E}(ho:o∈os)(hw:Wf o){y:Nm}(hy:bh y (cX o [])=true):y∈qS os :=
 List.mem_flatMap.2 ⟨o,ho,(lz hw [] [] y).2 (.inr hy)⟩
theorem rB{s:Nm}(hs:qh s):cX (.atom s) []=.name s:=ja hs (by simp)
theorem KP{x:Nm}(hx:qh x){e u:E}(h:Wf e)(hu:Wf u)(hl:e.cZ<=400)(hlu:u.cZ<=400):∃g,Wf g/\cX g []=sub x (cX u []) (cX e [])/\aq Tryz.prog 163 [.agg [.v (.string (mk e.at)),e.sp],.v (.string (mk x)),.agg [.v (.string (mk u.at)),u.sp]] [] (bC (.agg [.v (.string (mk g.at)),g.sp])):=by
 obtain⟨w1,w2,w3⟩:=wj (os:=[u,.atom x]) h
 have hap:tO (fun n=>n≠x/\bh n (cX u [])=false) (zm e [u,.atom x]):=BE (fun n hn=>⟨fun e1=>hn (by
  subst e1
  exact az _ (qR (o:=.atom n) (by simp) (.atom hx.1) (by rw[rB hx];simp[bh]))),by
  cases q:bh n (cX u [])with
  |false=>rfl
  |true=>exact absurd (az _ (qR (o:=u) (by simp) hu q)) hn⟩) w1 w3
 obtain⟨p1,p2⟩:=Cn hx hu w1 hap [] (by simp) (fun y hy=>by cases hy)
 refine⟨_,p1,by rw[p2,w2],?_⟩
 refine Ny _ _ _ _ _ ((aV _).mpr trivial) ((aV _).mpr trivial) ?_
 unfold KE
 have s1:=h.sz
 have s2:=hu.sz
 have hA:=CE h (.sl [[.v (.string (mk u.at)),u.sp],[.v (.string (mk x)),zF]]) [u,.atom x] ⟨(cb _).mpr trivial,by simp only[fF,E.bj,fJ];rfl⟩ (by omega) (fun o ho=>by
  simp only[aI,List.not_mem_nil,or_false]at ho
  rcases ho with rfl|rfl
  ·exact⟨hu,by omega⟩
  ·exact⟨.atom hx.1,by simp[E.sz]⟩) (by simp)
 refine aj hA ?_
 simp only[↓zq,zs,af,zt,aL]
 repeat refine⟨by omega,?_⟩
 refine aj (Pt x u w1) ?_
 simp only[↓zq,zs,af,zt,aL]
 repeat refine⟨by omega,?_⟩
 exact⟨rfl,rfl⟩
theorem Iz{x:Nm}(hx:qh x){e u:E}(h:Wf e)(hu:Wf u)(hl:e.cZ<=400)(hlu:u.cZ<=400):aq Tryz.prog 161 [.agg [.v (.string (mk e.at)),e.sp],.v (.string (mk x)),.agg [.v (.string (mk u.at)),u.sp]] [] (l7 (nC (sub x (cX u []) (cX e [])))):=by
 refine Oq _ _ _ _ _ ((aV _).mpr trivial) ((aV _).mpr trivial) ?_
 unfold Iu
 refine aj (HT hx h hu (by omega) (by omega)) ?_
 simp only[↓zq,zs,af,zt]
 refine⟨fun hn=>?_,fun hy=>?_⟩
 ·rw[show nC (sub x (cX u []) (cX e []))=none by unfold nC;rw[if_neg hn]]
  exact l7.no _ _ ((aV _).mpr trivial)
 ·rw[show nC (sub x (cX u []) (cX e []))=some (sub x (cX u []) (cX e [])) by unfold nC;rw[if_pos hy]]
  obtain⟨g,g1,g2,g3⟩:=KP hx h hu hl hlu
  refine aj g3 ?_
  simp only[↓zq,zs,af,zt,aL]
  repeat refine⟨by omega,?_⟩
  rw[<-g2]
  exact l7.of g1
end Go.Proofs.Trees
namespace Go.Proofs.Trees
open Go Go.VL Go.RowKit
theorem A0(w:Nm)(c1 c2:Nm)(d1 d2:AV):aq Tryz.prog 69 [.v (.string (mk w)),.sl [[.v (.string (mk c1)),d1],[.v (.string (mk c2)),d2]]] [] (bC (.agg [.v (.string (mk [])),.sl [[.v (.string (mk w)),zF],[.v (.string (mk c1)),d1],[.v (.string (mk c2)),d2]]])):=by
 refine LB _ _ ((cb _).mpr trivial) ?_
 simp only[Gy,↓zq,zs,af,bC]
 exact⟨⟨fun c hc=>by
  simp only[aI,List.not_mem_nil,or_false]at hc
  rcases hc with rfl|rfl<;>rfl,by omega⟩,rfl⟩
theorem HV(F:List Nm)(hF:F.length<100000)(c1 c2:Nm)(d1 d2:AV)(h1:LK.sl.has d1)(h2:LK.sl.has d2):∀(n j:Nat),pX F n j<j+n->j+n<100000000 ->
 G6 [.v (.int .i64 (j:Int))] [zE,.cells [.v (.string (mk c1)),d1],.cells [.v (.string (mk c2)),d2],.vec 1 (ck F)] (iG 1 [.v (.int .i64 (pX F n j:Int))] [zE,.cells [.v (.string (mk c1)),d1],.cells [.v (.string (mk c2)),d2]])
 |0,j,h,_=>by simp only[pX]at h;omega
 |
  n+1,j,h,hj=>by
  refine NC _ _ _ _ _ _ _ _ ?_
  simp only[KW,↓zq,zs,af,zt,af,bq,h1,h2]
  refine aj (F4 (j+1) j (by omega) (by omega)) ?_
  have hd:=mv (j+1) j (by omega)
  simp only[↓zq,zs,af,zt,ba,aT]
  refine⟨by simp[cz];omega,?_⟩
  refine aj (wl F _ (.of F) (tN j) (by omega)) ?_
  simp only[↓zq,zs,af,zt]
  rw[pX]at h |-
  refine⟨fun hm=>?_,fun hm=>?_⟩
  ·rw[if_pos hm]at h |-
   rw[bA j (by omega)]
   exact HV F hF c1 c2 d1 d2 h1 h2 n (j+1) (by omega) (by omega)
  ·rw[if_neg hm]
   exact⟨rfl,rfl,rfl⟩
theorem tY{x:Nm}{a c d:Ty}(h:(pw a x c d).aC<=400):(sub x (.rc a) c).aC<=400/\(sub x (.rc a) d).aC<=400:=by
 simp only[pw,Ty.aC]at h;omega
theorem Wf.jx{e:E}(h:Wf e){t:Ty}(ht:cX e []=t)(hl:t.aC<=400):e.cZ<=400:=by rw[h.cZ [],ht];exact hl
def PE(n:Nat):Prop:=∀(e:E) (s:Nm),Wf e->e.cZ<=n->e.cZ<=400->qh s->aq Tryz.prog 101 [.agg [.v (.string (mk e.at)),e.sp],.v (.string (mk s))] [] (l7 (j5 (cX e []) s))
theorem kb{e:E}{s:Nm}(h:Wf e):∀t,j5 (cX e []) s=some t->fC t:=fun t ht=>h.pu.dv (cJ.1 ht)
theorem vd{t:Ty}(h:fC t):∀d,nC t=some d->fC d:=fun d hd=>by obtain⟨_,rfl⟩:=fU.1 hd;exact h
theorem M4(n:Nat)(ih:PE n)(m:Nm)(B:E)(hm:qh m)(hB:Wf B)(hl:(E.list [.atom dY,.atom m,B]).cZ<=n+1)(hl4:(E.list [.atom dY,.atom m,B]).cZ<=400)(s:Nm)(hs:qh s) :
 aq Tryz.prog 145 [.agg [.v (.string (mk [])),(E.list [.atom dY,.atom m,B]).sp],.v (.string (mk s))] [] (l7 (j5 (cX (.list [.atom dY,.atom m,B]) []) s)):=by
 have hw:Wf (.list [.atom dY,.atom m,B]):=.rc hm hB
 have hsz:=hw.sz
 have hA:=CE hw (.sl [[.v (.string (mk s)),zF]]) [.atom s] ⟨(cb _).mpr trivial,by simp only[fF,E.bj,fJ];rfl⟩ (by omega) (fun o ho=>by
  simp only[aI,List.not_mem_nil,or_false]at ho
  subst ho
  exact⟨.atom hs.1,by simp[E.sz]⟩) (by simp)
 have hatsB:B.cZ+2=(E.list [.atom dY,.atom m,B]).cZ:=by simp only[E.cZ,E.eX];omega
 have hT:cX (.list [.atom dY,.atom m,B]) []=.rc (cX B [m]):=fL _ _ _
 obtain⟨w1,w2,_,_,w5⟩:=kz (zw (.list [.atom dY,.atom m,B]) [.atom s]) (cX (.list [.atom dY,.atom m,B]) []) [] 0 (.nil _ _) (ud hw []) fun y hy=>⟨aB _ ((lz hw [] [] y).2 (.inr hy)),(pD hw [] y hy).1⟩
 have hsF:s∈zw (.list [.atom dY,.atom m,B]) [.atom s]:=az _ (qR (o:=.atom s) (by simp) (.atom hs.1) (by rw[rB hs];simp[bh]))
 have haF:∀y,bh y (cX B [m])=true->y∈zw (.list [.atom dY,.atom m,B]) [.atom s]:=fun y hy=>aB _ ((lz hw [] [] y).2 (.inr (by rw[hT];exact hy)))
 unfold zm at hA
 rw[hT]at hA w1 w2 w5
 rw[hT]
 generalize zw (.list [.atom dY,.atom m,B]) [.atom s]=F at *
 obtain⟨_,_,_,hxF⟩:=gA F 0
 simp only[gS,aT]at hA w1 w2 w5
 generalize hxd:tN (nx F 0)=x at *
 have hx:qh x:=by rw[<-hxd];exact xF _
 generalize (gS F (cX B [m]) [x] (nx F 0+1)).1=b at *
 have hb:Wf b:=by cases w1;assumption
 rw[fL]at w2
 have hbt:cX b [x]=cX B [m]:=by injection w2
 have hxa:bh x (cX B [m])=false:=by
  cases q:bh x (cX B [m])with
  |false=>rfl
  |true=>exact absurd (haF x q) hxF
 have hxs:x≠s:=fun e=>hxF (by rw[e];exact hsF)
 generalize cX B [m]=a at *
 have hbo:cX b []=dE (.name x) a 0:=by
  have:=CW x hb []
  rw[cS,hbt]at this;exact this
 have hba:b.cZ+2=(E.list [.atom dY,.atom m,B]).cZ:=by
  rw[hw.cZ [],hT,hb.cZ [],hbo,ga];simp only[Ty.aC];omega
 have i1:=ih b s hb (by omega) (by omega) hs
 have i2:=ih b x hb (by omega) (by omega) hx
 have n1:=kb (s:=s) hb
 have n2:=kb (s:=x) hb
 rw[hbo]at i1 i2 n1 n2
 have hP:=P3.of (.atom dY) (.atom x) b
 rw[zI hxa hxs]
 have hE1:Wf (.list [.atom dY,.atom x,b]):=w1
 have hE1t:cX (.list [.atom dY,.atom x,b]) []=.rc a:=by rw[fL];exact w2
 have hE1l:(E.list [.atom dY,.atom x,b]).cZ<=400:=by
  have:(E.list [.atom dY,.atom x,b]).cZ=b.cZ+2:=by simp only[E.cZ,E.eX];omega
  omega
 refine Ov _ _ _ ((aV _).mpr trivial) ?_
 unfold Mc
 refine aj hA ?_
 simp only[↓zq,zs,af,zt,aL,bR,toNat_one,be,hP.1,hP.2.1,hP.2.2.1,hP.2.2.2,dZ]
 repeat refine⟨by omega,?_⟩
 refine aP i1 (l7.ne n1) ?_
 rintro r o ⟨rfl,c1,d1,hd1,rfl,hc1⟩
 simp only[↓zq,zs,af,zt,iY hd1]
 repeat refine⟨by omega,?_⟩
 refine aP i2 (l7.ne n2) ?_
 rintro r o ⟨rfl,c2,d2,hd2,rfl,hc2⟩
 simp only[↓zq,zs,af,zt,iY hd2]
 cases q1:j5 (dE (.name x) a 0) s with
 |
  none =>
  simp only[cn,bO]
  exact⟨fun _=>l7.no _ _ ((aV _).mpr trivial),fun h=>(by cases h)⟩
 |some c =>
 cases q2:j5 (dE (.name x) a 0) x with
 |
  none =>
  simp only[cn,co,bO,aZ]
  exact⟨fun h=>(by cases h),fun _=>⟨fun _=>l7.no _ _ ((aV _).mpr trivial),fun h=>(by cases h)⟩⟩
 |some d =>
 simp only[co,aZ]
 refine⟨fun h=>(by cases h),fun _=>⟨fun h=>(by cases h),fun _=>?_⟩⟩
 obtain⟨ec,wc,tc,rfl,rfl⟩:=hc1 c q1
 obtain⟨ed,wd,td,rfl,rfl⟩:=hc2 d q2
 have lc:=(cJ.1 q1).small
 have ld:=(cJ.1 q2).small
 have p1:=Iz hx wc hE1 (wc.jx tc lc) hE1l
 have p2:=Iz hx wd hE1 (wd.jx td ld) hE1l
 have g1:=vd (hE1.pu.sub (x:=x) wc.pu)
 have g2:=vd (hE1.pu.sub (x:=x) wd.pu)
 rw[hE1t,tc]at p1 g1
 rw[hE1t,td]at p2 g2
 simp only[bR]at p1 p2
 repeat refine⟨by omega,?_⟩
 refine aP p1 (l7.ne g1) ?_
 rintro r o ⟨rfl,c3,d3,hd3,rfl,hc3⟩
 simp only[↓zq,zs,af,zt,iY hd3]
 repeat refine⟨by omega,?_⟩
 refine aP p2 (l7.ne g2) ?_
 rintro r o ⟨rfl,c4,d4,hd4,rfl,hc4⟩
 simp only[↓zq,zs,af,zt,iY hd4]
 have big:∀t:Ty,nC t=none->¬t.aC<=400:=fun t ht hle=>by unfold nC at ht;rw[if_pos hle]at ht;cases ht
 have out0:(nC (sub x (.rc a) c)=none\/nC (sub x (.rc a) d)=none)->nC (pw a x c d)=none:=fun h=>by
  unfold nC
  rw[if_neg fun hle=>?_]
  have:=tY hle
  rcases h with h|h
  ·exact big _ h this.1
  ·exact big _ h this.2
 cases q3:nC (sub x (.rc a) c)with
 |
  none =>
  rw[out0 (.inl q3)]
  simp only[cn]
  exact⟨fun _=>l7.no _ _ ((aV _).mpr trivial),fun h=>(by cases h)⟩
 |some c' =>
 cases q4:nC (sub x (.rc a) d)with
 |
  none =>
  rw[out0 (.inr q4)]
  simp only[cn,co]
  exact⟨fun h=>(by cases h),fun _=>⟨fun _=>l7.no _ _ ((aV _).mpr trivial),fun h=>(by cases h)⟩⟩
 |some d' =>
 simp only[co]
 refine⟨fun h=>(by cases h),fun _=>⟨fun h=>(by cases h),fun _=>?_⟩⟩
 obtain⟨ec',wc',tc',rfl,rfl⟩:=hc3 c' q3
 obtain⟨ed',wd',td',rfl,rfl⟩:=hc4 d' q4
 obtain⟨lc',e3⟩:=fU.1 q3
 obtain⟨ld',e4⟩:=fU.1 q4
 rw[e3]at lc';rw[e4]at ld'
 have z1:=wc'.sz
 have z2:=wd'.sz
 have k1:=wc'.jx tc' lc'
 have k2:=wd'.jx td' ld'
 have f1:=B5 wd' [] [] (.sl []) (.of []) (by simp;omega)
 have fl1:=gb ed' [] []
 have fl2:=gb ec' [] (kf ed' [] [])
 simp only[aF,aU]at fl1
 have f2:=B5 wc' [] (kf ed' [] []) (.sl []) (.of []) (by simp;omega)
 refine bi f1 ?_
 simp only[↓zq,zs,af,zt,bg,bx,Ob.es]
 refine bi f2 ?_
 simp only[↓zq,zs,af,zt,bg,bx,Ob.es]
 have hF3:∀y,(bh y c'=true\/bh y d'=true)->y∈kf ec' [] (kf ed' [] []):=fun y hy=>by
  rw[lz wc',lz wd']
  rcases hy with hy|hy
  ·exact .inr (by rw[tc'];exact hy)
  ·exact .inl (.inr (by rw[td'];exact hy))
 generalize kf ec' [] (kf ed' [] [])=F3 at *
 obtain⟨_,y2,_,hyF⟩:=gA F3 0
 refine cw (HV F3 (by omega) _ _ _ _ ((aV _).mpr trivial) ((aV _).mpr trivial) (F3.length+1) 0 (by show nx F3 0<_;omega) (by omega)) ?_
 have hnx:pX F3 (F3.length+1) 0=nx F3 0:=rfl
 rw[hnx]
 simp only[↓zq,zs,af,zt,af,aM,bq,aV]
 refine aj (F4 (nx F3 0+1) (nx F3 0) (by omega) (by omega)) ?_
 have hdl:=mv (nx F3 0+1) (nx F3 0) (by omega)
 simp only[↓zq,zs,af,zt,ba,aT]
 refine⟨by omega,?_⟩
 obtain⟨y,hyd⟩:∃y:Nm,(116::dd (nx F3 0):Nm)=y:=⟨_,rfl⟩
 rw[hyd]
 rw[show tN (nx F3 0)=y from hyd]at hyF
 have hy:qh y:=by rw[<-hyd];exact xF _
 have hcy:cX ec' [y]=c':=by
  have:=tE [y] wc' [] (fun z hz hm=>hyF (by
   simp only[aS]at hm
   rw[<-hm];exact hF3 z (.inl (by rw[<-tc'];exact hz))))
  rw[cS,tc']at this;exact this
 have hdy:cX ed' [y]=d':=by
  have:=tE [y] wd' [] (fun z hz hm=>hyF (by
   simp only[aS]at hm
   rw[<-hm];exact hF3 z (.inr (by rw[<-td'];exact hz))))
  rw[cS,td']at this;exact this
 have hyb:cX (.atom y) [y]=.bH 0:=by
  simp only[cX];rw[if_neg hy.2.1,if_neg hy.2.2,show bE y [y] [y].length=some 0 from fW y []]
 let o1:E:=.list [.atom [42],ed',.atom y]
 let o2:E:=.list [.atom [43],ec',o1]
 let o3:E:=.list [.atom dY,.atom y,o2]
 have hw3:Wf o3:=.rc hy (.plus wc' (.times wd' (.atom hy.1)))
 have ht3:cX o3 []=pw a x c d:=by
  show cX (.list [.atom dY,.atom y,o2]) []=_
  rw[fL]
  show Ty.rc (cX (.list [.atom [43],ec',o1]) [y])=_
  rw[dU]
  show Ty.rc (.plus (cX ec' [y]) (cX (.list [.atom [42],ed',.atom y]) [y]))=_
  rw[dm,hcy,hdy,hyb,pw,e3,e4]
 have m1:=vW [42] ed' (.atom y)
 have m2:=vW [43] ec' o1
 have m3:=vW dY (.atom y) o2
 simp only[o1,bR,dZ]at m1 m2 m3
 refine aj m1 ?_
 simp only[↓zq,zs,af,zt,aL]
 repeat refine⟨by omega,?_⟩
 refine aj m2 ?_
 simp only[↓zq,zs,af,zt,aL]
 repeat refine⟨by omega,?_⟩
 refine aj m3 ?_
 simp only[↓zq,zs,af,zt,aL]
 repeat refine⟨by omega,?_⟩
 have z3:=hw3.sz
 have hats3:o3.cZ=ec'.cZ+ed'.cZ+5:=by simp only[o3,o2,o1,E.cZ,E.eX];omega
 have ma:=C8 o3 hw3.ok (by omega)
 rw[dz]at ma
 simp only[o3,o2,o1,bR]at ma
 refine aj ma ?_
 simp only[↓zq,zs,af,zt]
 have hd3:(pw a x c d).aC=o3.cZ:=by rw[<-ht3,<-hw3.cZ []]
 unfold nC
 by_cases hle:(pw a x c d).aC<=400
 ·rw[if_pos hle]
  have:=l7.of hw3
  rw[ht3]at this
  rw[show decide ((((E.list [.atom dY,.atom y,.list [.atom [43],ec',.list [.atom [42],ed',.atom y]]]).cZ:Nat):Int)<=400)=true from decide_eq_true (by show ((o3.cZ:Nat):Int)<=400;omega)]
  exact this
 ·rw[if_neg hle]
  rw[show decide ((((E.list [.atom dY,.atom y,.list [.atom [43],ec',.list [.atom [42],ed',.atom y]]]).cZ:Nat):Int)<=400)=false from decide_eq_false (by show ¬((o3.cZ:Nat):Int)<=400;omega)]
  exact l7.no _ _ ((aV o3).mpr trivial)
theorem zr:∀n,PE n
 |0=>fun e s h hl=>by have:=ek (cX e []);rw[<-h.cZ []]at this;omega
 |
  n+1=>by
  intro e s h hl h4 hs
  cases h with
  |
   @atom c hc =>
   refine C4 _ _ _ ((aV _).mpr trivial) ?_
   simp only[Af,dZ,↓zq,zs,af,zt]
   refine⟨fun _=>⟨fun he=>?_,fun hne=>?_⟩,fun h=>absurd h hc⟩
   ·have he:c=s:=he
    subst he
    rw[rB hs,nZ,if_pos rfl]
    exact l7.of (e:=.atom [49]) (.atom (by simp))
   ·have hne:¬c=s:=hne
    have:j5 (cX (.atom c) []) s=some .zero:=by
     simp only[cX]
     split
     ·exact vc _
     ·split
      ·exact xS _
      ·rw[show bE c [] ([]:List Nm).length=none from rfl,nZ,if_neg hne]
    rw[this]
    exact l7.of (e:=.atom [48]) (.atom (by simp))
  |
   @plus x y hx hy =>
   have hxy:(E.list [.atom [43],x,y]).cZ=x.cZ+y.cZ+1:=by simp only[E.cZ,E.eX];omega
   have p1:1<=x.cZ:=by rw[hx.cZ []];exact ek _
   have p2:1<=y.cZ:=by rw[hy.cZ []];exact ek _
   refine C4 _ _ _ ((aV _).mpr trivial) ?_
   have hP:=P3.of (.atom [43]) x y
   simp only[Af,bR,toNat_one,be,↓zq,zs,af,zt,hP.1,hP.2.1,hP.2.2.1,hP.2.2.2,aL]
   refine⟨fun h=>absurd rfl h,fun _=>?_⟩
   refine aj (pg [43] x y) ?_
   simp only[↓zq,zs,af,zt]
   refine⟨fun h=>by simp at h,fun _=>?_⟩
   repeat refine⟨by omega,?_⟩
   rw[dU,u4]
   refine aP (zr n x s hx (by omega) (by omega) hs) (l7.ne (kb hx)) ?_
   rintro r o ⟨rfl,c1,d1,hd1,rfl,hc1⟩
   simp only[↓zq,zs,af,zt,iY hd1]
   repeat refine⟨by omega,?_⟩
   refine aP (zr n y s hy (by omega) (by omega) hs) (l7.ne (kb hy)) ?_
   rintro r o ⟨rfl,c2,d2,hd2,rfl,hc2⟩
   simp only[↓zq,zs,af,zt,iY hd2]
   refine aj (A0 [43] c1 c2 d1 d2) ?_
   simp only[↓zq,zs,af,zt,bB,dq,cb]
   repeat refine⟨by omega,?_⟩
   refine aj (pg [43] x y) ?_
   simp only[↓zq,zs,af,zt]
   refine⟨fun h=>by simp at h,fun _=>?_⟩
   cases q1:j5 (cX x []) s with
   |
    none =>
    simp only[cn,bO]
    exact⟨fun h=>(by cases h),fun _=>l7.no _ _ ((cb _).mpr trivial)⟩
   |some tx =>
   cases q2:j5 (cX y []) s with
   |
    none =>
    simp only[cn,co,bO,aZ]
    exact⟨fun _=>⟨fun h=>(by cases h),fun _=>l7.no _ _ ((cb _).mpr trivial)⟩,fun h=>(by cases h)⟩
   |some t2 =>
   simp only[co,aZ]
   refine⟨fun _=>⟨fun _=>?_,fun h=>(by cases h)⟩,fun h=>(by cases h)⟩
   obtain⟨e1,w1,te1,rfl,rfl⟩:=hc1 tx q1
   obtain⟨e2,w2,te2,rfl,rfl⟩:=hc2 t2 q2
   have l1:=w1.jx te1 (cJ.1 q1).small
   have l2:=w2.jx te2 (cJ.1 q2).small
   have z1:=w1.sz
   have z2:=w2.sz
   have hw3:Wf (.list [.atom [43],e1,e2]):=.plus w1 w2
   have ht3:cX (.list [.atom [43],e1,e2]) []=.plus tx t2:=by rw[dU,te1,te2]
   have ma:=C8 _ hw3.ok (by simp only[E.sz,E.jk];omega)
   rw[dz]at ma
   simp only[bR]at ma
   have e3:AV.sl [[.v (.string (mk [43])),zF],[.v (.string (mk e1.at)),e1.sp],[.v (.string (mk e2.at)),e2.sp]]=(E.list [.atom [43],e1,e2]).sp:=by simp only[E.sp,E.bj,fJ];rfl
   rw[e3]
   refine aj ma ?_
   simp only[↓zq,zs,af,zt]
   have hd3:(Ty.plus tx t2).aC=(E.list [.atom [43],e1,e2]).cZ:=by rw[<-ht3,<-hw3.cZ []]
   unfold nC
   by_cases hle:(Ty.plus tx t2).aC<=400
   ·rw[if_pos hle,show decide ((((E.list [.atom [43],e1,e2]).cZ:Nat):Int)<=400)=true from decide_eq_true (by omega)]
    have:=l7.of hw3
    rw[ht3]at this
    exact this
   ·rw[if_neg hle,show decide ((((E.list [.atom [43],e1,e2]).cZ:Nat):Int)<=400)=false from decide_eq_false (by omega)]
    exact l7.no _ _ ((aV _).mpr trivial)
  |
   @times x y hx hy =>
   have hxy:(E.list [.atom [42],x,y]).cZ=x.cZ+y.cZ+1:=by simp only[E.cZ,E.eX];omega
   have p1:1<=x.cZ:=by rw[hx.cZ []];exact ek _
   have p2:1<=y.cZ:=by rw[hy.cZ []];exact ek _
   refine C4 _ _ _ ((aV _).mpr trivial) ?_
   have hP:=P3.of (.atom [42]) x y
   simp only[Af,bR,toNat_one,be,↓zq,zs,af,zt,hP.1,hP.2.1,hP.2.2.1,hP.2.2.2,aL]
   refine⟨fun h=>absurd rfl h,fun _=>?_⟩
   refine aj (pg [42] x y) ?_
   simp only[↓zq,zs,af,zt]
   refine⟨fun h=>by simp at h,fun _=>?_⟩
   repeat refine⟨by omega,?_⟩
   rw[dm,sj]
   refine aP (zr n x s hx (by omega) (by omega) hs) (l7.ne (kb hx)) ?_
   rintro r o ⟨rfl,c1,d1,hd1,rfl,hc1⟩
   simp only[↓zq,zs,af,zt,iY hd1]
   repeat refine⟨by omega,?_⟩
   refine aP (zr n y s hy (by omega) (by omega) hs) (l7.ne (kb hy)) ?_
   rintro r o ⟨rfl,c2,d2,hd2,rfl,hc2⟩
   simp only[↓zq,zs,af,zt,iY hd2]
   refine aj (A0 [43] c1 c2 d1 d2) ?_
   simp only[↓zq,zs,af,zt,bB,dq,cb]
   repeat refine⟨by omega,?_⟩
   refine aj (pg [42] x y) ?_
   simp only[↓zq,zs,af,zt]
   refine⟨fun _=>?_,fun h=>by simp at h⟩
   repeat refine⟨by omega,?_⟩
   refine aj (A0 [42] c1 y.at d1 y.sp) ?_
   simp only[↓zq,zs,af,zt,bB,dq,cb,aV]
   repeat refine⟨by omega,?_⟩
   refine aj (A0 [42] x.at c2 x.sp d2) ?_
   simp only[↓zq,zs,af,zt,bB,dq,cb,aV]
   repeat refine⟨by omega,?_⟩
   refine aj (A0 [43] [] [] _ _) ?_
   simp only[↓zq,zs,af,zt,bB,dq,cb]
   repeat refine⟨by omega,?_⟩
   cases q1:j5 (cX x []) s with
   |
    none =>
    simp only[cn,bO]
    exact⟨fun h=>(by cases h),fun _=>l7.no _ _ ((cb _).mpr trivial)⟩
   |some tx =>
   cases q2:j5 (cX y []) s with
   |
    none =>
    simp only[cn,co,bO,aZ]
    exact⟨fun _=>⟨fun h=>(by cases h),fun _=>l7.no _ _ ((cb _).mpr trivial)⟩,fun h=>(by cases h)⟩
   |some t2 =>
   simp only[co,aZ]
   refine⟨fun _=>⟨fun _=>?_,fun h=>(by cases h)⟩,fun h=>(by cases h)⟩
   obtain⟨e1,w1,te1,rfl,rfl⟩:=hc1 tx q1
   obtain⟨e2,w2,te2,rfl,rfl⟩:=hc2 t2 q2
   have l1:=w1.jx te1 (cJ.1 q1).small
   have l2:=w2.jx te2 (cJ.1 q2).small
   have z1:=w1.sz
   have z2:=w2.sz
   have z3:=hx.sz
   have z4:=hy.sz
   have hw3:Wf (.list [.atom [43],.list [.atom [42],e1,y],.list [.atom [42],x,e2]]):=.plus (.times w1 hy) (.times hx w2)
   have ht3:cX (.list [.atom [43],.list [.atom [42],e1,y],.list [.atom [42],x,e2]]) []=.plus (.times tx (cX y [])) (.times (cX x []) t2):=by rw[dU,dm,dm,te1,te2]
   have ma:=C8 _ hw3.ok (by simp only[E.sz,E.jk];omega)
   rw[dz]at ma
   simp only[bR]at ma
   have e3:AV.sl [[.v (.string (mk [43])),zF],[.v (.string (mk [])),.sl [[.v (.string (mk [42])),zF],[.v (.string (mk e1.at)),e1.sp],[.v (.string (mk y.at)),y.sp]]],[.v (.string (mk [])),.sl [[.v (.string (mk [42])),zF],[.v (.string (mk x.at)),x.sp],[.v (.string (mk e2.at)),e2.sp]]]]=(E.list [.atom [43],.list [.atom [42],e1,y],.list [.atom [42],x,e2]]).sp:=by simp only[E.sp,E.bj,fJ];rfl
   rw[e3]
   refine aj ma ?_
   simp only[↓zq,zs,af,zt]
   have hd3:(Ty.plus (.times tx (cX y [])) (.times (cX x []) t2)).aC=(E.list [.atom [43],.list [.atom [42],e1,y],.list [.atom [42],x,e2]]).cZ:=by rw[<-ht3,<-hw3.cZ []]
   unfold nC
   by_cases hle:(Ty.plus (.times tx (cX y [])) (.times (cX x []) t2)).aC<=400
   ·rw[if_pos hle,show decide ((((E.list [.atom [43],.list [.atom [42],e1,y],.list [.atom [42],x,e2]]).cZ:Nat):Int)<=400)=true from decide_eq_true (by omega)]
    have:=l7.of hw3
    rw[ht3]at this
    exact this
   ·rw[if_neg hle,show decide ((((E.list [.atom [43],.list [.atom [42],e1,y],.list [.atom [42],x,e2]]).cZ:Nat):Int)<=400)=false from decide_eq_false (by omega)]
    exact l7.no _ _ ((aV _).mpr trivial)
  |
   @rc m B hm hB =>
   have hlp:=M4 n (zr n) m B hm hB hl h4 s hs
   have hg:=kb (s:=s) (Wf.rc hm hB)
   refine C4 _ _ _ ((aV _).mpr trivial) ?_
   have hP:=P3.of (.atom dY) (.atom m) B
   simp only[Af,bR,toNat_one,be,↓zq,zs,af,zt,hP.1,hP.2.1,hP.2.2.1,hP.2.2.2,aL]
   refine⟨fun h=>absurd rfl h,fun _=>?_⟩
   refine aj (pg dY (.atom m) B) ?_
   simp only[↓zq,zs,af,zt]
   refine⟨fun _=>?_,fun h=>absurd rfl h⟩
   refine aP hlp (l7.ne hg) ?_
   rintro r o ⟨rfl,c1,d1,hd1,rfl,hc1⟩
   simp only[↓zq,zs,af,zt,iY hd1]
   exact⟨rfl,c1,d1,hd1,rfl,hc1⟩
end Go.Proofs.Trees
namespace Go.Proofs.Trees
open Go Go.VL Go.RowKit
theorem nU:∀(n k:Nat),k<10 ^ (n+1)->(dd k).length<=n+1
 |0,k,h=>by rw[eH (by omega)];simp
 |
  n+1,k,h=>by
  by_cases h1:k<10
  ·rw[eH h1];simp
  ·rw[fM h1]
   have:=nU n (k/10) (by
    have:10 ^ (n+1+1)=10*10 ^ (n+1):=by rw[Nat.pow_succ,Nat.mul_comm]
    omega)
   simp;omega
inductive Sh:E->Prop
 |atom {s:Nm} (h:s.length<=20):Sh (.atom s)
 |l3 {h:Nm} {a b:E} (hh:h.length<=20) (ha:Sh a) (hb:Sh b):Sh (.list [.atom h,a,b])
theorem Sh.dN{e:E}(hw:Wf e)(h:Sh e):(eT e).length<=50*e.cZ:=by
 induction hw with
 |atom _=>cases h with|atom h=>simp only[eT,E.cZ];omega
 |
  plus _ _ i1 i2 =>
  cases h with|l3 hh ha hb =>
  have:=i1 ha
  have:=i2 hb
  simp only[eT,ei,aw,an,aF,E.cZ,E.eX];omega
 |
  times _ _ i1 i2 =>
  cases h with|l3 hh ha hb =>
  have:=i1 ha
  have:=i2 hb
  simp only[eT,ei,aw,an,aF,E.cZ,E.eX];omega
 |
  rc _ _ i =>
  cases h with|l3 hh ha hb =>
  cases ha with|atom ha =>
  have:=i hb
  simp only[eT,ei,aw,an,aF,E.cZ,E.eX];omega
def xX(t:Ty):Prop:=∀y,bh y t=true->y.length<=20
theorem vY{k:Nat}(h:k<100000000):(tN k).length<=20:=by
 have:=nU 7 k (by omega)
 simp;omega
theorem pf(F:List Nm)(hF:F.length<=10000):∀(t:Ty) (to:List Nm) (k:Nat),xX t->(∀w,w∈to->w.length<=20)->k+(F.length+1)*t.aC<90000000->Sh (gS F t to k).1
 | .zero,_,_,_,_,_=>.atom (by simp)
 | .one,_,_,_,_,_=>.atom (by simp)
 | .name s,_,_,hn,_,_=>.atom (hn s (by simp[bh]))
 |
  .bH u,to,_,_,ht,_=>by
  refine .atom ?_
  show (gn to u).length<=20
  unfold gn
  by_cases h:to.length-1-u<to.length
  ·rw[aa,bm h];exact ht _ (bN h)
  ·rw[aa,List.getElem?_eq_none (by omega)];simp
 |
  .plus a b,to,k,hn,ht,hk=>by
  have h1:=ir F a to k
  have:(F.length+1)*(1+a.aC+b.aC)=(F.length+1)+(F.length+1)*a.aC+(F.length+1)*b.aC:=by simp only[cM,dC]
  simp only[Ty.aC]at hk
  exact .l3 (by simp) (pf F hF a to k (fun y hy=>hn y (by simp[bh,hy])) ht (by omega)) (pf F hF b to _ (fun y hy=>hn y (by simp[bh,hy])) ht (by omega))
 |
  .times a b,to,k,hn,ht,hk=>by
  have h1:=ir F a to k
  have:(F.length+1)*(1+a.aC+b.aC)=(F.length+1)+(F.length+1)*a.aC+(F.length+1)*b.aC:=by simp only[cM,dC]
  simp only[Ty.aC]at hk
  exact .l3 (by simp) (pf F hF a to k (fun y hy=>hn y (by simp[bh,hy])) ht (by omega)) (pf F hF b to _ (fun y hy=>hn y (by simp[bh,hy])) ht (by omega))
 |
  .rc a,to,k,hn,ht,hk=>by
  obtain⟨g1,g2,_,_⟩:=gA F k
  have:(F.length+1)*(2+a.aC)=(F.length+1)*2+(F.length+1)*a.aC:=by simp only[cM]
  simp only[Ty.aC]at hk
  have hl:=vY (k:=nx F k) (by omega)
  exact .l3 (by simp) (.atom hl) (pf F hF a _ _ hn (fun w hw=>by
   rcases aK.1 hw with hw|hw
   ·exact ht w hw
   ·simp only[aS]at hw;rw[hw];exact hl) (by omega))
def D4(t:Ty):Nm:=eT (gS (bD t []) t [] 0).1
def told(t:Ty):Option Nm:=if t.aC<=400/\(py (D4 t)).isSome=true then some (D4 t)else none
theorem C9{t:Ty}(g:fC t)(hs:xX t)(ha:t.aC<=400):(D4 t).length<=20000:=by
 obtain⟨h1,h2,_⟩:=kz (bD t []) t [] 0 (.nil _ _) g.1 fun y hy=>⟨(eQ t [] y).2 (.inr hy),g.2 y hy⟩
 have hn:=eB t []
 simp only[aF,aU]at hn
 have hm:((bD t []).length+1)*t.aC<=401*400:=Nat.mul_le_mul (by omega) ha
 have:=(pf (bD t []) (by omega) t [] 0 hs (fun w hw=>by cases hw) (by omega)).dN h1
 have:=h1.jx h2 ha
 unfold D4;omega
theorem tt(s:Nm):(vD s).isSome=(py s).isSome:=by
 rw[tQ]
 cases he:vD s with
 |none=>rfl
 |
  some e =>
  obtain⟨h1,h2,h3⟩:=ph he
  simp only[iP e [],h2];rfl
theorem O8(s:Nm):aq Tryz.prog 146 [.v (.string (mk s))] [] (bC (.v (.bool (py s).isSome))):=by
 refine OR _ ?_
 unfold L3
 refine aP (Eh s) (lO.ne _ _ (fun h=>h)) ?_
 rintro r o ⟨c,d,hd,rfl,hh⟩
 have hhas:bB [.str,.sl] [.v (.string (mk c)),d] 0:=by simp[bB,dq,hd]
 simp only[↓zq,zs,af,zt,tt]
 exact⟨hhas,rfl,rfl⟩
theorem Nu{e:E}(h:Wf e)(hl:e.cZ<=400)(hs:xX (cX e [])):aq Tryz.prog 102 [.agg [.v (.string (mk e.at)),e.sp]] [] (bC (j4 (told (cX e [])))):=by
 refine Nv _ _ ((aV _).mpr trivial) ?_
 unfold Kf
 have z:=h.sz
 have ma:=C8 e h.ok (by omega)
 rw[dz]at ma
 have hA:=CE h zF [] ⟨(bq).mpr trivial,rfl⟩ (by omega) (fun o ho=>by cases ho) (by simp)
 have ha:(cX e []).aC<=400:=by rw[<-h.cZ []];exact hl
 have hc:zm e []=(gS (bD (cX e []) []) (cX e []) [] 0).1:=by
  unfold zm zw qS
  rw[List.flatMap_nil,cS,jJ (F':=bD (cX e []) []) fun y=>by rw[lz h,eQ]]
 have hx:eT (zm e [])=D4 (cX e []):=by rw[hc];rfl
 have hlen:=C9 h.pu hs ha
 have hT:=Cv (zm e []) (wj h).1.ok (by rw[hx];omega)
 rw[dz,hx]at hT
 refine aj ma ?_
 simp only[↓zq,zs,af,zt]
 refine⟨fun h=>by omega,fun _=>?_⟩
 refine aj hA ?_
 simp only[↓zq,zs,af,zt,aL]
 refine aj hT ?_
 simp only[↓zq,zs,af,zt]
 refine aj (O8 _) ?_
 simp only[↓zq,zs,af,zt]
 unfold told
 refine⟨fun hn=>?_,fun hy=>?_⟩
 ·rw[if_neg (by rw[hn];simp)];exact⟨rfl,rfl⟩
 ·rw[if_pos ⟨ha,hy⟩];exact⟨rfl,rfl⟩
abbrev sM:Nm:=[35,49]
noncomputable def jh (s:Nm):Option Nm:=match py s with
 |some (.rc a)=>(zC a sM).bind told
 |_=>none
theorem lN{s:Nm}{t:Ty}(h:py s=some t):∃e,vD s=some e/\Wf e/\cX e []=t/\e.cZ<=400/\e.ok:=by
 rw[tQ]at h
 cases he:vD s with
 |none=>rw[he]at h;cases h
 |
  some e =>
  rw[he]at h
  obtain⟨h1,h2,h3⟩:=ph he
  obtain⟨hok,_⟩:=nK h1
  obtain⟨w1,w2⟩:=kk e [] t hok (fun w hw=>by cases hw) h
  exact⟨e,rfl,w1,w2,h3,hok⟩
theorem Bk{e:E}{x:Nm}{a d:Ty}(hw:Wf e)(ht:cX e []=.rc a)(hx:qh x)(hd:zC a x=some d):fC d/\(xX (.rc a)->xX d):=by
 simp only[zC,a7,cJ,fU]at hd
 obtain⟨d',h1,_,rfl⟩:=hd
 have g:fC (.rc a):=ht ▸ hw.pu
 have go:fC (dE (.name x) a 0):=⟨gJ x a g.1,fun y hy=>by
  rcases iv a 0 hy with rfl|h
  ·exact hx
  ·exact g.2 y h⟩
 refine⟨g.sub (go.dv h1),fun hs y hy=>?_⟩
 rcases jf _ hy with h|⟨h,h'⟩
 ·exact hs y h
 ·rcases iv a 0 (h1.names y h')with e|e
  ·exact absurd e h
  ·exact hs y e
def Hg(y:Nm):Prop:=fj y=true\/da y=true
theorem iS:∀(e:E) (ar:List Nm) (t:Ty),cK e ar=some t->∀y,bh y t=true->Hg y
 |
  .atom s,ar,t,ht,y,hy=>by
  simp only[cK]at ht
  split at ht
  ·cases ht;cases hy
  ·split at ht
   ·cases ht;cases hy
   ·split at ht
    ·rename_i hp
     cases ht
     simp only[bh,decide_eq_true_eq]at hy
     subst hy;exact .inl hp
    ·split at ht
     ·rename_i hq
      split at ht
      ·cases ht;cases hy
      ·cases ht
       simp only[bh,decide_eq_true_eq]at hy
       subst hy;exact .inr hq
     ·cases ht
 |
  .list [x,a,b],ar,t,ht,y,hy=>by
  by_cases h0:x.at=[43]
  ·obtain⟨t1,t2,h1,h2,rfl⟩:=fG h0 ht
   simp only[bh,bn]at hy
   rcases hy with hy|hy
   ·exact iS a ar t1 h1 y hy
   ·exact iS b ar t2 h2 y hy
  ·by_cases h1:x.at=[42]
   ·obtain⟨t1,t2,h2,h3,rfl⟩:=fe h1 ht
    simp only[bh,bn]at hy
    rcases hy with hy|hy
    ·exact iS a ar t1 h2 y hy
    ·exact iS b ar t2 h3 y hy
   ·by_cases h2:x.at=[114,101,99]
    ·obtain⟨t1,hla,h3,rfl⟩:=dy h2 ht
     exact iS b _ t1 h3 y hy
    ·rw[iZ _ h0 h1 h2]at ht;cases ht
 | .list [],ar,t,ht,_,_=>by cases ht
 | .list [_],ar,t,ht,_,_=>by cases ht
 | .list [_,_],ar,t,ht,_,_=>by cases ht
 | .list (_::_::_::_::_),ar,t,ht,_,_=>by cases ht
theorem v7{y:Nm}(h:Hg y):y.length<=3/\∀r,y≠35::r:=by
 have key:∀lo hi,116<=lo->named lo hi y=true->y.length<=3/\∀r,y≠35::r:=fun lo hi hlo h=>by
  cases y with
  |nil=>cases h
  |
   cons c r =>
   simp only[named,au,decide_eq_true_eq]at h
   refine⟨by simp;omega,fun r' e=>?_⟩
   have:c=35:=by injection e
   subst this
   have:=h.1.2.1
   have e35:(35:UInt8).toNat=35:=rfl
   omega
 rcases h with h|h
 ·exact key 120 122 (by omega) h
 ·exact key 116 116 (by omega) h
theorem kX{s:Nm}{t:Ty}(h:py s=some t):∀y,bh y t=true->Hg y:=by
 rw[tQ]at h
 cases he:vD s with
 |none=>rw[he]at h;cases h
 |some e=>rw[he]at h;exact iS e [] t h
theorem wB{s:Nm}{a:Ty}(h:py s=some (.rc a)):bh sM a=false:=by
 cases q:bh sM a with
 |false=>rfl
 |true=>exact absurd rfl ((v7 (kX h sM q)).2 [49])
theorem Ap{s:Nm}{t:Ty}(h:py s=some t):xX t:=fun y hy=>by have:=(v7 (kX h y hy)).1;omega
end Go.Proofs.Trees
namespace Go.Proofs.Trees
open Go Go.VL Go.RowKit
theorem wy(w:World)(k:Nat)(os:Array Obj):Below w.heap.size w (Go.«Sort».grow (w.drewN k) os):=by
 refine⟨rfl,rfl,rfl,?_,fun b hb=>?_⟩
 ·simp[Go.«Sort».grow,World.drewN]
 ·simp only[Go.«Sort».grow,World.drewN]
  rw[Array.getElem?_append_left hb]
theorem EA(k:Nat)(hk:k<1000000000):aq Tryz.prog 94 [.v (.int .i64 (k:Int))] [] (bC (.v (.string (mk (dd k))))):=by
 refine aq.N0 (xs:=[.int .i64 (k:Int)]) ⟨qe,by kernel_rfl,by kernel_rfl,by kernel_rfl⟩ fun w ht=>?_
 have:=Any.strconv_Itoa Tryz.An (k:Int) (by omega) (by omega) w ht
 refine Calls.mono this fun e w' ⟨h1,n,os,h2⟩=>⟨?_,?_⟩
 ·rw[h1,Lib.itoa_nonneg];rfl
 ·rw[h2];exact wy w n os
abbrev hN(k:Nat):Nm:=35::dd k
theorem A1{j k:Nat}(h:hN j=hN k):j=k:=vN (j+1) j k (by omega) (List.cons.inj h).2
theorem yF(u:Ty):∀(t:Ty) (i:Nat),i+t.aC<1000000->aq Tryz.prog 158 [t.av,u.av,.v (.int .i64 (i:Int))] [] (bC (dE u t i).av)
 |
  .zero,i,_=>by
  refine wA _ _ _ ((aG _).mpr trivial) ((aG _).mpr trivial) ?_
  simp[DS,Ty.av,dE,↓zq,zs,af,bC]
 |
  .one,i,_=>by
  refine wA _ _ _ ((aG _).mpr trivial) ((aG _).mpr trivial) ?_
  simp[DS,Ty.av,dE,↓zq,zs,af,bC]
 |
  .name s,i,_=>by
  refine wA _ _ _ ((aG _).mpr trivial) ((aG _).mpr trivial) ?_
  simp[DS,Ty.av,dE,↓zq,zs,af,bC]
 |
  .bH k,i,_=>by
  refine wA _ _ _ ((aG _).mpr trivial) ((aG _).mpr trivial) ?_
  simp only[DS,Ty.av,dE,↓zq,zs,af,bC]
  refine⟨by omega,fun _=>⟨by omega,fun h=>?_,fun h=>?_⟩,fun h=>absurd rfl h⟩
  ·rw[if_pos (by omega)]
  ·rw[if_neg (by omega)];rfl
 |
  .plus a b,i,hl=>by
  simp only[Ty.aC]at hl
  refine wA _ _ _ ((aG _).mpr trivial) ((aG _).mpr trivial) ?_
  simp only[DS,Ty.av,dE,↓zq,zs,af,aG]
  refine⟨by omega,fun h=>by omega,fun _=>⟨fun _=>?_,fun h=>absurd rfl h⟩⟩
  repeat refine⟨by omega,?_⟩
  refine aj (yF u a i (by omega)) ?_
  simp only[↓zq,zs,af,aG]
  repeat refine⟨by omega,?_⟩
  refine aj (yF u b i (by omega)) ?_
  simp only[↓zq,zs,af,aG]
  exact⟨rfl,rfl⟩
 |
  .times a b,i,hl=>by
  simp only[Ty.aC]at hl
  refine wA _ _ _ ((aG _).mpr trivial) ((aG _).mpr trivial) ?_
  simp only[DS,Ty.av,dE,↓zq,zs,af,aG]
  refine⟨by omega,fun h=>by omega,fun _=>⟨fun h=>by omega,fun _=>⟨fun _=>?_,fun h=>absurd rfl h⟩⟩⟩
  repeat refine⟨by omega,?_⟩
  refine aj (yF u a i (by omega)) ?_
  simp only[↓zq,zs,af,aG]
  repeat refine⟨by omega,?_⟩
  refine aj (yF u b i (by omega)) ?_
  simp only[↓zq,zs,af,aG]
  exact⟨rfl,rfl⟩
 |
  .rc a,i,hl=>by
  simp only[Ty.aC]at hl
  refine wA _ _ _ ((aG _).mpr trivial) ((aG _).mpr trivial) ?_
  simp only[DS,Ty.av,dE,↓zq,zs,af,aG]
  refine⟨by omega,fun h=>by omega,fun _=>⟨fun h=>by omega,fun _=>⟨fun h=>by omega,fun _=>⟨fun _=>?_,fun h=>absurd rfl h⟩⟩⟩⟩
  repeat refine⟨by omega,?_⟩
  rw[bA i (by omega)]
  refine aj (yF u a (i+1) (by omega)) ?_
  simp only[↓zq,zs,af,aG]
  exact⟨rfl,rfl⟩
theorem BS(x:Nm)(u:Ty):∀(t:Ty),aq Tryz.prog 159 [t.av,.v (.string (mk x)),u.av] [] (bC (sub x u t).av)
 |
  .zero=>by
  refine wE _ _ _ ((aG _).mpr trivial) ((aG _).mpr trivial) ?_
  simp[DV,Ty.av,sub,↓zq,zs,af,bC]
 |
  .one=>by
  refine wE _ _ _ ((aG _).mpr trivial) ((aG _).mpr trivial) ?_
  simp[DV,Ty.av,sub,↓zq,zs,af,bC]
 |
  .bH k=>by
  refine wE _ _ _ ((aG _).mpr trivial) ((aG _).mpr trivial) ?_
  simp[DV,Ty.av,sub,↓zq,zs,af,bC]
 |
  .name s=>by
  refine wE _ _ _ ((aG _).mpr trivial) ((aG _).mpr trivial) ?_
  simp only[DV,Ty.av,sub,↓zq,zs,af,zt,bC]
  refine⟨by omega,fun _=>⟨by omega,fun h=>?_,fun h=>?_⟩,fun h=>absurd rfl h⟩
  ·rw[if_pos h]
  ·rw[if_neg h];rfl
 |
  .plus a b=>by
  refine wE _ _ _ ((aG _).mpr trivial) ((aG _).mpr trivial) ?_
  simp only[DV,Ty.av,sub,↓zq,zs,af,aG]
  refine⟨by omega,fun h=>by omega,fun _=>⟨fun _=>?_,fun h=>absurd rfl h⟩⟩
  repeat refine⟨by omega,?_⟩
  refine aj (BS x u a) ?_
  simp only[↓zq,zs,af,aG]
  repeat refine⟨by omega,?_⟩
  refine aj (BS x u b) ?_
  simp only[↓zq,zs,af,aG]
  exact⟨rfl,rfl⟩
 |
  .times a b=>by
  refine wE _ _ _ ((aG _).mpr trivial) ((aG _).mpr trivial) ?_
  simp only[DV,Ty.av,sub,↓zq,zs,af,aG]
  refine⟨by omega,fun h=>by omega,fun _=>⟨fun h=>by omega,fun _=>⟨fun _=>?_,fun h=>absurd rfl h⟩⟩⟩
  repeat refine⟨by omega,?_⟩
  refine aj (BS x u a) ?_
  simp only[↓zq,zs,af,aG]
  repeat refine⟨by omega,?_⟩
  refine aj (BS x u b) ?_
  simp only[↓zq,zs,af,aG]
  exact⟨rfl,rfl⟩
 |
  .rc a=>by
  refine wE _ _ _ ((aG _).mpr trivial) ((aG _).mpr trivial) ?_
  simp only[DV,Ty.av,sub,↓zq,zs,af,aG]
  refine⟨by omega,fun h=>by omega,fun _=>⟨fun h=>by omega,fun _=>⟨fun h=>by omega,fun _=>⟨fun _=>?_,fun h=>absurd rfl h⟩⟩⟩⟩
  repeat refine⟨by omega,?_⟩
  refine aj (BS x u a) ?_
  simp only[↓zq,zs,af,aG]
  exact⟨rfl,rfl⟩
theorem yj(c:Int)(a b:Ty):aq Tryz.prog 183 [.v (.int .u8 c),a.av,b.av] [] (bC (.ptr [.v (.int .u8 c),.v (.string (mk [])),.v (.int .i64 0),a.av,b.av])):=by
 refine Mr _ _ _ ((aG _).mpr trivial) ((aG _).mpr trivial) ?_
 simp[IN,↓zq,zs,af,bC]
abbrev Dg(f:Nat)(g:Bool):Ob:=.cells [.v (.int .i64 (f:Int)),.v (.bool g)]
theorem NX(f:Nat)(g:Bool)(hf:f<100000000):aq Tryz.prog 155 [.ref 0 0] [Dg f g] (dx (.v (.string (mk (hN (f+1))))) [Dg (f+1) g]):=by
 refine Nc _ _ ?_
 simp only[Js,↓zq,zs,af,zt]
 rw[bA f (by omega)]
 refine aj (EA (f+1) (by omega)) ?_
 have hd:=nU 8 (f+1) (by omega)
 simp only[↓zq,zs,af,zt,ba,aT]
 exact⟨by simp[cz];omega,rfl,rfl⟩
def ur(g:Bool)(t:Ty):Ty:=if g=true\/400<t.aC then .zero else t
def zy(g:Bool)(t:Ty):Bool:=g||decide (400<t.aC)
theorem xb(t:Ty):ur true t=.zero:=by simp[ur]
theorem xg(t:Ty):zy true t=true:=rfl
theorem Ac{t:Ty}(h:t.aC<=400):ur false t=t:=by simp[ur,show ¬400<t.aC by omega]
theorem AN{t:Ty}(h:t.aC<=400):zy false t=false:=by simp[zy,show ¬400<t.aC by omega]
theorem Ik{t:Ty}(h:¬t.aC<=400):zy false t=true:=by simp[zy,show 400<t.aC by omega]
theorem JE{t:Ty}(h:¬t.aC<=400):ur false t=.zero:=by simp[ur,show 400<t.aC by omega]
theorem xq(f:Nat)(g:Bool)(t:Ty)(hl:t.aC<1000000):aq Tryz.prog 156 [.ref 0 0,t.av] [Dg f g] (dx (ur g t).av [Dg f (zy g t)]):=by
 refine M7 _ _ _ ((aG _).mpr trivial) ?_
 simp only[Hk,↓zq,zs,af,zt]
 cases g with
 |true=>exact⟨fun _=>⟨rfl,rfl⟩,fun h=>(by cases h)⟩
 |
  false =>
  refine⟨fun h=>(by cases h),fun _=>?_⟩
  refine aj (DZ t hl) ?_
  simp only[↓zq,zs,af,zt]
  refine⟨fun h=>?_,fun h=>?_⟩
  ·have h:400<t.aC:=by omega
   simp[ur,zy,h,dx,Ty.av]
  ·have h:¬400<t.aC:=by omega
   simp[ur,zy,h,dx]
theorem Gj(t:Ty)(s:Nm)(f:Nat):aq Tryz.prog 157 [.ref 0 0,t.av,.v (.string (mk s))] [Dg f true] (dx Ty.zero.av [Dg f true]):=by
 refine Jh _ _ _ _ ((aG _).mpr trivial) ?_
 simp only[Cl,↓zq,zs,af]
 exact⟨fun _=>⟨rfl,rfl⟩,fun h=>(by cases h)⟩
def B4(f:Nat)(t:Ty):Prop:=∀j,f<j->bh (hN j) t=false
def pM(o:Option Ty)(t:Ty):Nat:=match o with|some d=>d.aC|none=>1000*t.aC
def A2(o:Option Ty)(f B:Nat):AV->List Ob->Prop:=fun r ob=>∃f':Nat,f<=f'/\f'<=f+B/\r=(o.getD .zero).av/\ob=[Dg f' o.isNone]
theorem A2.ne(o:Option Ty)(f B:Nat):∃r ob,A2 o f B r ob:=⟨_,_,f,ap _,cV _ _,rfl,rfl⟩
theorem qY{f f':Nat}{t:Ty}(h:B4 f t)(hf:f<=f'):B4 f' t:=fun j hj=>h j (by omega)
theorem F1:∀(n:Nat) (t:Ty),t.aC<=n->t.aC<=400->∀(s:Nm) (f:Nat),B4 f t->(∀j,f<j->s≠hN j)->f+1000*t.aC<50000000->aq Tryz.prog 157 [.ref 0 0,t.av,.v (.string (mk s))] [Dg f false] (A2 (j5 t s) f (pM (j5 t s) t))
 |0,t,h=>by have:=ek t;omega
 |
  n+1,t,hn=>by
  intro h4 s f hf hs hb
  refine Jh _ _ _ _ ((aG _).mpr trivial) ?_
  have fin0:∀u:Ty,j5 t s=some u->A2 (j5 t s) f (pM (j5 t s) t) u.av [Dg f false]:=fun u hu=>by
   rw[hu];exact⟨f,ap _,cV _ _,rfl,rfl⟩
  cases t with
  |
   zero =>
   have:=fin0 .zero (vc s)
   simpa[Cl,Ty.av,↓zq,zs,af]using this
  |
   one =>
   have:=fin0 .zero (xS s)
   simpa[Cl,Ty.av,↓zq,zs,af]using this
  |
   bH k =>
   have:=fin0 .zero (yH k s)
   simpa[Cl,Ty.av,↓zq,zs,af]using this
  |
   name c =>
   simp only[Cl,Ty.av,↓zq,zs,af,zt]
   refine⟨fun h=>(by cases h),fun _=>⟨by omega,fun _=>⟨by omega,fun h=>?_,fun h=>?_⟩,fun h=>absurd rfl h⟩⟩
   ·exact fin0 .one (by rw[nZ,if_pos h])
   ·exact fin0 .zero (by rw[nZ,if_neg h])
  |
   plus a b =>
   simp only[Ty.aC]at hn h4 hb
   have pa:=ek a
   have pb:=ek b
   have fa:B4 f a:=fun j hj=>by have:=hf j hj;simp only[bh,bU]at this;exact this.1
   have fb:B4 f b:=fun j hj=>by have:=hf j hj;simp only[bh,bU]at this;exact this.2
   simp only[Cl,Ty.av,↓zq,zs,af,zt,aG]
   refine⟨fun h=>(by cases h),fun _=>⟨by omega,fun h=>by omega,fun _=>⟨fun _=>?_,fun h=>absurd rfl h⟩⟩⟩
   repeat refine⟨by omega,?_⟩
   rw[u4]
   refine aP (F1 n a (by omega) (by omega) s f fa hs (by omega)) (A2.ne _ _ _) ?_
   rintro r ob ⟨f1,g1,g2,rfl,rfl⟩
   simp only[↓zq,zs,af,zt,aM,aG]
   repeat refine⟨by omega,?_⟩
   cases q1:j5 a s with
   |
    none =>
    rw[q1]at g2
    simp only[pM]at g2
    simp only[Option.isNone_none,Option.getD_none,bO]
    refine bi (Gj b s f1) ?_
    simp only[↓zq,zs,af,zt,aM,aG]
    repeat refine⟨by omega,?_⟩
    refine aj (yj 43 _ _) ?_
    simp only[↓zq,zs,af,zt,ci]
    refine bi (xq f1 true (.plus .zero .zero) (by simp[Ty.aC])) ?_
    simp only[↓zq,zs,af,zt,aM,aG]
    exact⟨f1,g1,by simp only[pM,Ty.aC];omega,rfl,rfl⟩
   |
    some a' =>
    rw[q1]at g2
    simp only[pM]at g2
    have la:=(cJ.1 q1).small
    simp only[Option.isNone_some,cT,aZ]
    refine aP (F1 n b (by omega) (by omega) s f1 (qY fb g1) (fun j hj=>hs j (by omega)) (by omega)) (A2.ne _ _ _) ?_
    rintro r ob ⟨f2,k1,k2,rfl,rfl⟩
    simp only[↓zq,zs,af,zt,aM,aG]
    repeat refine⟨by omega,?_⟩
    refine aj (yj 43 _ _) ?_
    simp only[↓zq,zs,af,zt,ci]
    cases q2:j5 b s with
    |
     none =>
     rw[q2]at k2
     simp only[pM]at k2
     simp only[Option.isNone_none,Option.getD_none,bO]
     refine bi (xq f2 true (.plus a' .zero) (by simp[Ty.aC];omega)) ?_
     simp only[↓zq,zs,af,zt,aM,aG]
     exact⟨f2,by omega,by simp only[pM,Ty.aC];omega,rfl,rfl⟩
    |
     some b' =>
     rw[q2]at k2
     simp only[pM]at k2
     have lb:=(cJ.1 q2).small
     simp only[Option.isNone_some,cT,aZ]
     refine bi (xq f2 false (.plus a' b') (by simp only[Ty.aC];omega)) ?_
     simp only[↓zq,zs,af,zt,aM,aG]
     unfold nC
     by_cases hle:(Ty.plus a' b').aC<=400
     ·rw[if_pos hle]
      refine⟨f2,by omega,by simp only[pM,Ty.aC];omega,?_,?_⟩
      ·simp[ur,show ¬400<(Ty.plus a' b').aC by omega]
      ·simp[zy,show ¬400<(Ty.plus a' b').aC by omega]
     ·rw[if_neg hle]
      refine⟨f2,by omega,by simp only[pM,Ty.aC];omega,?_,?_⟩
      ·simp[ur,show 400<(Ty.plus a' b').aC by omega]
      ·simp[zy,show 400<(Ty.plus a' b').aC by omega]
  |
   times a b =>
   simp only[Ty.aC]at hn h4 hb
   have pa:=ek a
   have pb:=ek b
   have fa:B4 f a:=fun j hj=>by have:=hf j hj;simp only[bh,bU]at this;exact this.1
   have fb:B4 f b:=fun j hj=>by have:=hf j hj;simp only[bh,bU]at this;exact this.2
   simp only[Cl,Ty.av,↓zq,zs,af,zt,aG]
   refine⟨fun h=>(by cases h),fun _=>⟨by omega,fun h=>by omega,fun _=>⟨fun h=>by omega,fun _=>⟨fun _=>?_,fun h=>absurd rfl h⟩⟩⟩⟩
   repeat refine⟨by omega,?_⟩
   rw[sj]
   refine aP (F1 n a (by omega) (by omega) s f fa hs (by omega)) (A2.ne _ _ _) ?_
   rintro r ob ⟨f1,g1,g2,rfl,rfl⟩
   simp only[↓zq,zs,af,zt,aM,aG]
   repeat refine⟨by omega,?_⟩
   refine aj (yj 42 _ _) ?_
   simp only[↓zq,zs,af,zt,ci]
   repeat refine⟨by omega,?_⟩
   cases q1:j5 a s with
   |
    none =>
    rw[q1]at g2
    simp only[pM]at g2
    simp only[Option.isNone_none,Option.getD_none,bO]
    refine bi (Gj b s f1) ?_
    simp only[↓zq,zs,af,zt,aM,aG]
    repeat refine⟨by omega,?_⟩
    refine aj (yj 42 _ _) ?_
    simp only[↓zq,zs,af,zt,ci]
    refine aj (yj 43 (.times .zero b) (.times a .zero)) ?_
    simp only[↓zq,zs,af,zt,ci]
    refine bi (xq f1 true (.plus (.times .zero b) (.times a .zero)) (by simp only[Ty.aC];omega)) ?_
    simp only[↓zq,zs,af,zt,aM,aG]
    exact⟨f1,g1,by simp only[pM,Ty.aC];omega,rfl,rfl⟩
   |
    some a' =>
    rw[q1]at g2
    simp only[pM]at g2
    have la:=(cJ.1 q1).small
    simp only[Option.isNone_some,cT,aZ]
    refine aP (F1 n b (by omega) (by omega) s f1 (qY fb g1) (fun j hj=>hs j (by omega)) (by omega)) (A2.ne _ _ _) ?_
    rintro r ob ⟨f2,k1,k2,rfl,rfl⟩
    simp only[↓zq,zs,af,zt,aM,aG]
    repeat refine⟨by omega,?_⟩
    refine aj (yj 42 _ _) ?_
    simp only[↓zq,zs,af,zt,ci]
    cases q2:j5 b s with
    |
     none =>
     rw[q2]at k2
     simp only[pM]at k2
     simp only[Option.isNone_none,Option.getD_none,bO]
     refine aj (yj 43 (.times a' b) (.times a .zero)) ?_
     simp only[↓zq,zs,af,zt,ci]
     refine bi (xq f2 true (.plus (.times a' b) (.times a .zero)) (by simp only[Ty.aC];omega)) ?_
     simp only[↓zq,zs,af,zt,aM,aG]
     exact⟨f2,by omega,by simp only[pM,Ty.aC];omega,rfl,rfl⟩
    |
     some b' =>
     rw[q2]at k2
     simp only[pM]at k2
     have lb:=(cJ.1 q2).small
     simp only[Option.isNone_some,cT,aZ]
     refine aj (yj 43 (.times a' b) (.times a b')) ?_
     simp only[↓zq,zs,af,zt,ci]
     refine bi (xq f2 false (.plus (.times a' b) (.times a b')) (by simp only[Ty.aC];omega)) ?_
     simp only[↓zq,zs,af,zt,aM,aG]
     unfold nC
     by_cases hle:(Ty.plus (.times a' b) (.times a b')).aC<=400
     ·rw[if_pos hle]
      refine⟨f2,by omega,by simp only[pM,Ty.aC];omega,?_,?_⟩
      ·simp[ur,show ¬400<(Ty.plus (.times a' b) (.times a b')).aC by omega]
      ·simp[zy,show ¬400<(Ty.plus (.times a' b) (.times a b')).aC by omega]
     ·rw[if_neg hle]
      refine⟨f2,by omega,by simp only[pM,Ty.aC];omega,?_,?_⟩
      ·simp[ur,show 400<(Ty.plus (.times a' b) (.times a b')).aC by omega]
      ·simp[zy,show 400<(Ty.plus (.times a' b) (.times a b')).aC by omega]
  |
   rc a =>
   simp only[Ty.aC]at hn h4 hb
   have pa:=ek a
   have fa:B4 f a:=fun j hj=>hf j hj
   have hxa:bh (hN (f+1)) a=false:=fa _ (by omega)
   have hxs:hN (f+1)≠s:=fun e=>hs _ (by omega) e.symm
   have fo:B4 (f+1) (dE (.name (hN (f+1))) a 0):=fun j hj=>by
    cases q:bh (hN j) (dE (.name (hN (f+1))) a 0)with
    |false=>rfl
    |
     true =>
     rcases iv a 0 q with e|e
     ·have:=A1 e;omega
     ·rw[fa j (by omega)]at e;cases e
   have hoa:(dE (.name (hN (f+1))) a 0).aC=a.aC:=ga _ _ _
   have hop:=yF (.name (hN (f+1))) a 0 (by omega)
   rw[zI hxa hxs]
   simp only[Cl,Ty.av,↓zq,zs,af,zt,aG]
   refine⟨fun h=>(by cases h),fun _=>⟨by omega,fun h=>by omega,fun _=>⟨fun h=>by omega,fun _=>⟨fun h=>by omega,fun _=>⟨fun _=>?_,fun h=>absurd rfl h⟩⟩⟩⟩⟩
   refine bi (NX f false (by omega)) ?_
   simp only[↓zq,zs,af,zt,aM,aG]
   repeat refine⟨by omega,?_⟩
   simp only[Ty.av]at hop
   refine aj hop ?_
   simp only[↓zq,zs,af,zt,aM,aG]
   refine aP (F1 n (dE (.name (hN (f+1))) a 0) (by omega) (by omega) s (f+1) fo (fun j hj=>hs j (by omega)) (by omega)) (A2.ne _ _ _) ?_
   rintro r ob ⟨f1,g1,g2,rfl,rfl⟩
   simp only[↓zq,zs,af,zt,aM,aG]
   generalize hx:hN (f+1)=x at *
   generalize hin:dE (.name x) a 0=i at *
   have hrc:(Ty.rc a).av=.ptr [.v (.int .u8 114),.v (.string (mk [])),.v (.int .i64 0),a.av,.v (.pointer none)]:=rfl
   cases q1:j5 i s with
   |
    none =>
    rw[q1]at g2
    simp only[pM]at g2
    simp only[Option.isNone_none,Option.getD_none,bO]
    refine bi (xq f1 true .zero (by simp[Ty.aC])) ?_
    simp only[↓zq,zs,af,zt,aM,aG]
    rw[<-hrc]
    refine aj (BS x (.rc a) _) ?_
    simp only[↓zq,zs,af,zt,aG]
    refine bi (Gj i x f1) ?_
    simp only[↓zq,zs,af,zt,aM,aG]
    refine bi (xq f1 true .zero (by simp[Ty.aC])) ?_
    simp only[↓zq,zs,af,zt,aM,aG]
    refine aj (BS x (.rc a) _) ?_
    simp only[↓zq,zs,af,zt,aG]
    refine aj (yj 42 _ (.bH 0)) ?_
    simp only[↓zq,zs,af,zt,ci]
    refine aj (yj 43 (sub x (.rc a) (ur true .zero)) (.times (sub x (.rc a) (ur true .zero)) (.bH 0))) ?_
    simp only[↓zq,zs,af,zt,ci,xg]
    have hz:sub x (.rc a) (ur true .zero)=.zero:=by rw[xb];rfl
    refine bi (xq f1 true (.rc (.plus (sub x (.rc a) (ur true .zero)) (.times (sub x (.rc a) (ur true .zero)) (.bH 0)))) (by rw[hz];simp only[Ty.aC];omega)) ?_
    simp only[↓zq,zs,af,zt,aM,aG]
    rw[xb,xg]
    exact⟨f1,by omega,by simp only[pM,Ty.aC];omega,rfl,rfl⟩
   |
    some c =>
    rw[q1]at g2
    simp only[pM]at g2
    have lc:=(cJ.1 q1).small
    simp only[Option.isNone_some,cT,aZ]
    refine bi (xq f1 false c (by omega)) ?_
    simp only[↓zq,zs,af,zt,aM,aG]
    rw[Ac lc,AN lc,<-hrc]
    refine aj (BS x (.rc a) c) ?_
    simp only[↓zq,zs,af,zt,aG]
    refine aP (F1 n i (by omega) (by omega) x f1 (qY fo g1) (fun j hj=>by rw[<-hx];exact fun e=>by have:=A1 e;omega) (by omega)) (A2.ne _ _ _) ?_
    rintro r ob ⟨f2,k1,k2,rfl,rfl⟩
    simp only[↓zq,zs,af,zt,aM,aG]
    have hsc:(sub x (.rc a) c).aC+gG x c=c.aC+gG x c*(Ty.rc a).aC:=ez x (.rc a) c
    have hcc:∀t:Ty,gG x t<=t.aC:=fun t=>by
     have h1:=ez x .zero t
     have h2:=gO x .zero t
     simp only[Ty.aC,dC]at h1
     have h3:∀t:Ty,gG x t<=t.aC:=by
      intro t
      induction t with
      |name s=>simp only[gG,Ty.aC];split<;>omega
      |plus a b i1 i2=>simp only[gG,Ty.aC];omega
      |times a b i1 i2=>simp only[gG,Ty.aC];omega
      |rc a i=>simp only[gG,Ty.aC];omega
      |_=>simp[gG,Ty.aC]
     exact h3 t
    have hbig:∀t:Ty,t.aC<=400->(sub x (.rc a) t).aC<=400+400*402:=fun t ht=>by
     have h1:=ez x (.rc a) t
     have h2:=hcc t
     have h3:gG x t*(Ty.rc a).aC<=400*402:=Nat.mul_le_mul (by omega) (by simp only[Ty.aC];omega)
     omega
    have b1:=hbig c lc
    cases q2:j5 i x with
    |
     none =>
     rw[q2]at k2
     simp only[pM]at k2
     simp only[Option.isNone_none,Option.getD_none,bO]
     refine bi (xq f2 true .zero (by simp[Ty.aC])) ?_
     simp only[↓zq,zs,af,zt,aM,aG]
     rw[xb,xg]
     refine aj (BS x (.rc a) .zero) ?_
     simp only[↓zq,zs,af,zt,aG]
     refine aj (yj 42 _ (.bH 0)) ?_
     simp only[↓zq,zs,af,zt,ci]
     refine aj (yj 43 (sub x (.rc a) c) (.times (sub x (.rc a) .zero) (.bH 0))) ?_
     simp only[↓zq,zs,af,zt,ci]
     refine bi (xq f2 true (.rc (.plus (sub x (.rc a) c) (.times (sub x (.rc a) .zero) (.bH 0)))) (by simp only[sub,Ty.aC];omega)) ?_
     simp only[↓zq,zs,af,zt,aM,aG]
     rw[xb,xg]
     exact⟨f2,by omega,by simp only[pM,Ty.aC];omega,rfl,rfl⟩
    |
     some d =>
     rw[q2]at k2
     simp only[pM]at k2
     have ld:=(cJ.1 q2).small
     have b2:=hbig d ld
     simp only[Option.isNone_some,cT,aZ]
     refine bi (xq f2 false d (by omega)) ?_
     simp only[↓zq,zs,af,zt,aM,aG]
     rw[Ac ld,AN ld]
     refine aj (BS x (.rc a) d) ?_
     simp only[↓zq,zs,af,zt,aG]
     refine aj (yj 42 _ (.bH 0)) ?_
     simp only[↓zq,zs,af,zt,ci]
     refine aj (yj 43 (sub x (.rc a) c) (.times (sub x (.rc a) d) (.bH 0))) ?_
     simp only[↓zq,zs,af,zt,ci]
     have hdrc:pw a x c d=.rc (.plus (sub x (.rc a) c) (.times (sub x (.rc a) d) (.bH 0))):=rfl
     refine bi (xq f2 false (pw a x c d) (by rw[hdrc];simp only[Ty.aC];omega)) ?_
     simp only[↓zq,zs,af,zt,aM,aG]
     have s1:=gO x (.rc a) c
     have s2:=gO x (.rc a) d
     unfold nC
     by_cases hle:(pw a x c d).aC<=400
     ·rw[if_pos hle,Ac hle,AN hle]
      exact⟨f2,by omega,by simp only[pM,hdrc,Ty.aC];omega,rfl,rfl⟩
     ·rw[if_neg hle,JE hle,Ik hle]
      exact⟨f2,by omega,by simp only[pM,Ty.aC];omega,rfl,rfl⟩
def PL(o:Option Ty):AV->List Ob->Prop:=fun r ob=>ob=[]/\∃p,LK.ptr.has p/\r=.cG [p,.v (.bool o.isSome)]/\∀d,o=some d->p=d.av
theorem PL.ne(o:Option Ty):∃r ob,PL o r ob:=by
 cases o with
 |none=>exact⟨_,_,rfl,kB,(jg).mpr trivial,rfl,fun d h=>by cases h⟩
 |some d=>exact⟨_,_,rfl,d.av,(aG _).mpr trivial,rfl,fun d' h=>by cases h;rfl⟩
end Go.Proofs.Trees
namespace Go.Proofs.Trees
open Go Go.VL Go.RowKit
theorem rk(h:Nm)(a b:E):(eT (.list [.atom h,a,b])).length=h.length+(eT a).length+(eT b).length+4:=by
 simp only[eT,ei,aw,an,aF];omega
theorem je(F:List Nm)(hF:F.length<=10000):∀(t:Ty) (to:List Nm) (k:Nat),xX t->(∀w,w∈to->w.length<=20)->k+(F.length+1)*t.aC<90000000->(eT (gS F t to k).1).length<=50*t.aC
 | .zero,_,_,_,_,_=>by simp[gS,eT,Ty.aC]
 | .one,_,_,_,_,_=>by simp[gS,eT,Ty.aC]
 | .name s,_,_,hn,_,_=>by have:=hn s (by simp[bh]);simp only[gS,eT,Ty.aC];omega
 |
  .bH u,to,_,_,ht,_=>by
  show (gn to u).length<=50*1
  unfold gn
  by_cases h:to.length-1-u<to.length
  ·rw[aa,bm h];have:=ht _ (bN h);simp only[cT];omega
  ·rw[aa,List.getElem?_eq_none (by omega)];simp
 |
  .plus a b,to,k,hn,ht,hk=>by
  have h1:=ir F a to k
  have:(F.length+1)*(1+a.aC+b.aC)=(F.length+1)+(F.length+1)*a.aC+(F.length+1)*b.aC:=by simp only[cM,dC]
  simp only[Ty.aC]at hk
  have i1:=je F hF a to k (fun y hy=>hn y (by simp[bh,hy])) ht (by omega)
  have i2:=je F hF b to _ (fun y hy=>hn y (by simp[bh,hy])) ht (show (gS F a to k).2+_<_ by omega)
  simp only[gS,rk,Ty.aC,aw,aF];omega
 |
  .times a b,to,k,hn,ht,hk=>by
  have h1:=ir F a to k
  have:(F.length+1)*(1+a.aC+b.aC)=(F.length+1)+(F.length+1)*a.aC+(F.length+1)*b.aC:=by simp only[cM,dC]
  simp only[Ty.aC]at hk
  have i1:=je F hF a to k (fun y hy=>hn y (by simp[bh,hy])) ht (by omega)
  have i2:=je F hF b to _ (fun y hy=>hn y (by simp[bh,hy])) ht (show (gS F a to k).2+_<_ by omega)
  simp only[gS,rk,Ty.aC,aw,aF];omega
 |
  .rc a,to,k,hn,ht,hk=>by
  obtain⟨g1,g2,_,_⟩:=gA F k
  have:(F.length+1)*(2+a.aC)=(F.length+1)*2+(F.length+1)*a.aC:=by simp only[cM]
  simp only[Ty.aC]at hk
  have hl:=vY (k:=nx F k) (by omega)
  have i1:=je F hF a (to++[tN (nx F k)]) (nx F k+1) hn (fun w hw=>by
   rcases aK.1 hw with hw|hw
   ·exact ht w hw
   ·simp only[aS]at hw;rw[hw];exact hl) (by omega)
  simp only[gS,rk,Ty.aC,aw,aF]
  simp only[eT]
  simp only[aw]at hl |-
  omega
theorem IG(x0 a fv:AV)(F:List Nm)(h0:LK.ptr.has x0)(ha:LK.sl.has a)(hfv:dT fv F)(hF:F.length<100000):∀(n j:Nat),pX F n j<j+n->j+n<100000000 ->
 DI [x0,a,.v (.string (mk (tN j)))] [.cells [fv],.cells [.v (.int .i64 ((j+1:Nat):Int))]] (iG 1 [x0,a,.v (.string (mk (tN (pX F n j))))] [.cells [fv],.cells [.v (.int .i64 ((pX F n j+1:Nat):Int))]])
 |0,j,h,_=>by simp only[pX]at h;omega
 |
  n+1,j,h,hj=>by
  refine LZ _ _ _ _ _ ?_
  simp only[Gm,↓zq,zs,af,zt,af,hfv.1,h0,ha]
  refine⟨fun h=>(by simp at h),fun _=>?_⟩
  refine aj (Ie F fv hfv (tN j) (by omega)) ?_
  simp only[↓zq,zs,af,zt]
  rw[pX]at h |-
  refine⟨fun hm=>?_,fun hm=>?_⟩
  ·rw[if_pos hm]at h |-
   refine aj (EA (j+1) (by omega)) ?_
   have hd:=nU 8 (j+1) (by omega)
   simp only[↓zq,zs,af,zt,ba,aT]
   rw[bA (j+1) (by omega)]
   exact⟨by simp[cz];omega,IG x0 a fv F h0 ha hfv hF n (j+1) (by omega) (by omega)⟩
  ·rw[if_neg hm]
   exact⟨rfl,rfl,rfl⟩
theorem OU(x0 a fv:AV)(F:List Nm)(h0:LK.ptr.has x0)(ha:LK.sl.has a)(hfv:dT fv F)(hF:F.length<10000)(k:Nat)(hk:k<90000000) :
 DI [x0,a,.v (.string (mk []))] [.cells [fv],.cells [.v (.int .i64 (k:Int))]] (iG 1 [x0,a,.v (.string (mk (tN (nx F k))))] [.cells [fv],.cells [.v (.int .i64 ((nx F k+1:Nat):Int))]]):=by
 obtain⟨g1,g2,_,_⟩:=gA F k
 refine LZ _ _ _ _ _ ?_
 simp only[Gm,↓zq,zs,af,zt,af,hfv.1,h0,ha]
 refine⟨fun _=>?_,fun h=>(by simp at h)⟩
 refine aj (EA k (by omega)) ?_
 have hd:=nU 8 k (by omega)
 simp only[↓zq,zs,af,zt,ba,aT]
 rw[bA k (by omega)]
 exact⟨by simp[cz];omega,IG x0 a fv F h0 ha hfv (by omega) (F.length+1) k (by show nx F k<_;omega) (by omega)⟩
theorem yJ(F:List Nm)(fv:AV)(hfv:dT fv F)(hF:F.length<=1000):∀(t:Ty) (to:List Nm) (a:AV) (k:Nat),dT a to->to.length+t.aC<10000->jv t to.length->xX t->(∀w,w∈to->w.length<=20)->k+(F.length+1)*t.aC<80000000 ->
 aq Tryz.prog 184 [t.av,a,.gI 184 [none,some 0,some 1],.ref 0 0,.ref 1 0] [.cells [fv],.cells [.v (.int .i64 (k:Int))]] (dx (.v (.string (mk (eT (gS F t to k).1)))) [.cells [fv],.cells [.v (.int .i64 ((gS F t to k).2:Int))]])
 |
  .zero,to,a,k,ha,hl,hlc,hs,ht,hk=>by
  refine wC _ _ _ _ ((aG _).mpr trivial) ha.1 hfv.1 ?_
  simp only[D8,Ty.av,↓zq,zs,af,zt,aG]
  refine⟨by omega,fun h=>by omega,fun _=>⟨fun h=>by omega,fun _=>⟨fun h=>by omega,fun _=>⟨fun h=>by omega,fun _=>⟨fun h=>by omega,fun _=>?_⟩⟩⟩⟩⟩
  repeat refine⟨by omega,?_⟩
  exact⟨⟨rfl,(k8 _ _).mpr trivial,trivial⟩,rfl,rfl⟩
 |
  .one,to,a,k,ha,hl,hlc,hs,ht,hk=>by
  refine wC _ _ _ _ ((aG _).mpr trivial) ha.1 hfv.1 ?_
  simp only[D8,Ty.av,↓zq,zs,af,zt,aG]
  refine⟨by omega,fun h=>by omega,fun _=>⟨fun h=>by omega,fun _=>⟨fun h=>by omega,fun _=>⟨fun h=>by omega,fun _=>⟨fun h=>by omega,fun _=>?_⟩⟩⟩⟩⟩
  repeat refine⟨by omega,?_⟩
  exact⟨⟨rfl,(k8 _ _).mpr trivial,trivial⟩,rfl,rfl⟩
 |
  .name s,to,a,k,ha,hl,hlc,hs,ht,hk=>by
  refine wC _ _ _ _ ((aG _).mpr trivial) ha.1 hfv.1 ?_
  simp[D8,Ty.av,↓zq,zs,af,dx,gS,eT]
 |
  .bH u,to,a,k,ha,hl,hlc,hs,ht,hk=>by
  have hu:u<to.length:=hlc
  refine wC _ _ _ _ ((aG _).mpr trivial) ha.1 hfv.1 ?_
  simp only[D8,Ty.av,↓zq,zs,af,zt,ha.len]
  rw[wrap64 ((to.length:Int)-1) (by omega) (by omega),wrap64 _ (by omega) (by omega)]
  have e1:(to.length:Int)-1-(u:Int)=((to.length-1-u:Nat):Int):=by omega
  rw[e1]
  simp only[ca,ha.idx (show to.length-1-u<to.length by omega),↓zq,zs,af,zt]
  refine⟨by omega,fun h=>by omega,fun _=>⟨fun _=>⟨ha.1,by omega,⟨ha.1,by omega,by omega⟩,by omega,rfl,rfl⟩,fun h=>absurd rfl h⟩⟩
 |
  .plus x y,to,a,k,ha,hl,hlc,hs,ht,hk=>by
  simp only[Ty.aC]at hl hk
  have h1:=ir F x to k
  have hm:(F.length+1)*(1+x.aC+y.aC)=(F.length+1)+(F.length+1)*x.aC+(F.length+1)*y.aC:=by simp only[cM,dC]
  have sx:xX x:=fun z hz=>hs z (by simp[bh,hz])
  have sy:xX y:=fun z hz=>hs z (by simp[bh,hz])
  have t1:=je F (by omega) x to k sx ht (by omega)
  have t2:=je F (by omega) y to (gS F x to k).2 sy ht (by omega)
  have hb:(⟨(bytesOf [[.v (.int .u8 43)]]).toArray⟩:ByteArray)=mk [43]:=rfl
  have h8:jy [[AV.v (.int .u8 43)]]:=⟨rfl,(k8 _ _).mpr trivial,trivial⟩
  refine wC _ _ _ _ ((aG _).mpr trivial) ha.1 hfv.1 ?_
  simp only[D8,Ty.av,↓zq,zs,af,zt,aG,hb]
  refine⟨by omega,fun h=>by omega,fun _=>⟨fun h=>by omega,fun _=>⟨fun _=>?_,fun h=>absurd rfl h⟩⟩⟩
  repeat refine⟨by omega,?_⟩
  refine bi (yJ F fv hfv hF x to a k ha (by omega) hlc.1 sx ht (by omega)) ?_
  simp only[↓zq,zs,af,zt,aM,hfv.1,hb,ba,aT]
  repeat (first|refine⟨by omega,?_⟩|refine⟨h8,?_⟩|refine⟨by simp[cz];omega,?_⟩)
  refine bi (yJ F fv hfv hF y to a _ ha (by omega) hlc.2 sy ht (by omega)) ?_
  simp only[↓zq,zs,af,zt,aM,hfv.1,hb,ba,aT]
  repeat (first|refine⟨by omega,?_⟩|refine⟨h8,?_⟩|refine⟨by simp[cz];omega,?_⟩)
  refine⟨?_,rfl⟩
  simp[gS,eT,ei]
 |
  .times x y,to,a,k,ha,hl,hlc,hs,ht,hk=>by
  simp only[Ty.aC]at hl hk
  have h1:=ir F x to k
  have hm:(F.length+1)*(1+x.aC+y.aC)=(F.length+1)+(F.length+1)*x.aC+(F.length+1)*y.aC:=by simp only[cM,dC]
  have sx:xX x:=fun z hz=>hs z (by simp[bh,hz])
  have sy:xX y:=fun z hz=>hs z (by simp[bh,hz])
  have t1:=je F (by omega) x to k sx ht (by omega)
  have t2:=je F (by omega) y to (gS F x to k).2 sy ht (by omega)
  have hb:(⟨(bytesOf [[.v (.int .u8 42)]]).toArray⟩:ByteArray)=mk [42]:=rfl
  have h8:jy [[AV.v (.int .u8 42)]]:=⟨rfl,(k8 _ _).mpr trivial,trivial⟩
  refine wC _ _ _ _ ((aG _).mpr trivial) ha.1 hfv.1 ?_
  simp only[D8,Ty.av,↓zq,zs,af,zt,aG,hb]
  refine⟨by omega,fun h=>by omega,fun _=>⟨fun h=>by omega,fun _=>⟨fun h=>by omega,fun _=>⟨fun _=>?_,fun h=>absurd rfl h⟩⟩⟩⟩
  repeat refine⟨by omega,?_⟩
  refine bi (yJ F fv hfv hF x to a k ha (by omega) hlc.1 sx ht (by omega)) ?_
  simp only[↓zq,zs,af,zt,aM,hfv.1,hb,ba,aT]
  repeat (first|refine⟨by omega,?_⟩|refine⟨h8,?_⟩|refine⟨by simp[cz];omega,?_⟩)
  refine bi (yJ F fv hfv hF y to a _ ha (by omega) hlc.2 sy ht (by omega)) ?_
  simp only[↓zq,zs,af,zt,aM,hfv.1,hb,ba,aT]
  repeat (first|refine⟨by omega,?_⟩|refine⟨h8,?_⟩|refine⟨by simp[cz];omega,?_⟩)
  refine⟨?_,rfl⟩
  simp[gS,eT,ei]
 |
  .rc x,to,a,k,ha,hl,hlc,hs,ht,hk=>by
  simp only[Ty.aC]at hl hk
  obtain⟨g1,g2,_,_⟩:=gA F k
  have hm:(F.length+1)*(2+x.aC)=(F.length+1)*2+(F.length+1)*x.aC:=by simp only[cM]
  have hln:=vY (k:=nx F k) (by omega)
  have ht':∀w,w∈to++[tN (nx F k)]->w.length<=20:=fun w hw=>by
   rcases aK.1 hw with hw|hw
   ·exact ht w hw
   ·simp only[aS]at hw;rw[hw];exact hln
  have t1:=je F (by omega) x (to++[tN (nx F k)]) (nx F k+1) hs ht' (by omega)
  have hrc:(Ty.rc x).av=.ptr [.v (.int .u8 114),.v (.string (mk [])),.v (.int .i64 0),x.av,.v (.pointer none)]:=rfl
  refine wC _ _ _ _ ((aG _).mpr trivial) ha.1 hfv.1 ?_
  simp only[D8,Ty.av,↓zq,zs,af,zt,aG]
  refine⟨by omega,fun h=>by omega,fun _=>⟨fun h=>by omega,fun _=>⟨fun h=>by omega,fun _=>⟨fun h=>by omega,fun _=>⟨fun _=>?_,fun h=>absurd rfl h⟩⟩⟩⟩⟩
  rw[<-hrc]
  repeat refine⟨by omega,?_⟩
  refine cw (OU (Ty.rc x).av a fv F ((aG _).mpr trivial) ha.1 hfv (by omega) k (by omega)) ?_
  simp only[Ty.av,↓zq,zs,af,zt,af,aM,hfv.1,ha.1,aG,ha.2,yM,aT,p5,kj]
  have hl2:(dd (nx F k)).length+1<=20:=hln
  have hl3:(tN (nx F k)).length=(dd (nx F k)).length+1:=rfl
  refine⟨by omega,by simp only[an,aw,aF,hl3];omega,by omega,by omega,⟨fun c hc=>by simp at hc;rw[hc];rfl,by omega⟩,?_⟩
  refine bi (yJ F fv hfv hF x (to++[tN (nx F k)]) _ (nx F k+1) (.of _) (by simp;omega) (by rw[an];exact hlc) hs ht' (by omega)) ?_
  simp only[↓zq,zs,af,zt,aM,hfv.1]
  repeat refine⟨by omega,?_⟩
  refine⟨by simp only[an,aw,aF,hl3];omega,by simp only[an,aw,aF,hl3];omega,?_,rfl⟩
  simp[gS,eT,ei]
theorem O0(t:Ty)(g:fC t)(hs:xX t)(h4:t.aC<=400):aq Tryz.prog 160 [t.av] [] (bC (.v (.string (mk (D4 t))))):=by
 refine MU _ ((aG _).mpr trivial) ?_
 unfold HZ
 have hn:=eB t []
 simp only[aF,aU]at hn
 have hm:((bD t []).length+1)*t.aC<=401*400:=Nat.mul_le_mul (by omega) h4
 refine aj (IK t (by omega)) ?_
 simp only[↓zq,zs,af,zt,cb]
 refine bi (yJ (bD t []) _ (.of _) (by omega) t [] zF 0 .nil (by simp;omega) g.1 hs (fun w hw=>by cases hw) (by omega)) ?_
 simp only[↓zq,zs,af,zt,aM,cb]
 exact⟨rfl,rfl⟩
theorem OD(t:Ty)(g:fC t)(hs:xX t)(hl:t.aC<1000000):aq Tryz.prog 123 [t.av] [] (bC (j4 (told t))):=by
 refine OH _ ((aG _).mpr trivial) ?_
 unfold Hv
 refine aj (DZ t hl) ?_
 simp only[↓zq,zs,af,zt]
 refine⟨fun h=>?_,fun h=>?_⟩
 ·have:told t=none:=by unfold told;rw[if_neg fun h'=>by have:=h'.1;omega]
  rw[this];exact⟨rfl,rfl⟩
 ·have h4:t.aC<=400:=by omega
  refine aj (O0 t g hs h4) ?_
  simp only[↓zq,zs,af,zt]
  refine aj (Fc (D4 t)) ?_
  simp only[↓zq,zs,af,zt,fD]
  unfold told
  cases q:py (D4 t)with
  |
   none =>
   simp only[hZ,↓zq,zs,af]
   rw[if_neg (by simp)]
   exact⟨fun _=>⟨rfl,rfl⟩,fun h=>(by cases h)⟩
  |
   some u =>
   simp only[hZ,↓zq,zs,af,fA]
   rw[if_pos ⟨h4,rfl⟩]
   exact⟨fun h=>(by cases h),fun _=>⟨rfl,rfl⟩⟩
end Go.Proofs.Trees
namespace Go.Proofs.Trees
open Go Go.VL Go.RowKit
def vT(n:Nat):Vl->Ty->Bool
 | .u,.one=>true
 | .el k,.name _=>decide (k<n)
 | .l w,.plus a _=>vT n w a
 | .r w,.plus _ b=>vT n w b
 | .p x y,.times a b=>vT n x a&&vT n y b
 | .f w,.rc a=>vT n w (dE (.rc a) a 0)
 |_,_=>false
def lT(us:List Ty):Ty->Nat->Ty
 | .bH k,i=>if k<i then .bH k else us.getD (k-i) .zero
 | .plus a b,i=>.plus (lT us a i) (lT us b i)
 | .times a b,i=>.times (lT us a i) (lT us b i)
 | .rc a,i=>.rc (lT us a (i+1))
 |t,_=>t
def xw:List Fr->List Ty
 |[]=>[]
 |f::r=>lT (xw r) (xE f.ex r) 0::xw r
theorem lI(u:Ty):∀(t:Ty) {i:Nat},jv t i->dE u t i=t
 | .bH k,i,h=>by simp only[dE];rw[if_neg (by have:k<i:=h;omega)]
 | .plus a b,i,h=>by simp only[dE];rw[lI u a h.1,lI u b h.2]
 | .times a b,i,h=>by simp only[dE];rw[lI u a h.1,lI u b h.2]
 | .rc a,i,h=>by simp only[dE];rw[lI u a (i:=i+1) h]
 | .zero,_,_=>rfl
 | .one,_,_=>rfl
 | .name _,_,_=>rfl
theorem oY(us:List Ty):∀(t:Ty) {i:Nat},jv t i->lT us t i=t
 | .bH k,i,h=>by simp only[lT];rw[if_pos (by have:k<i:=h;omega)]
 | .plus a b,i,h=>by simp only[lT];rw[oY us a h.1,oY us b h.2]
 | .times a b,i,h=>by simp only[lT];rw[oY us a h.1,oY us b h.2]
 | .rc a,i,h=>by simp only[lT];rw[oY us a (i:=i+1) h]
 | .zero,_,_=>rfl
 | .one,_,_=>rfl
 | .name _,_,_=>rfl
theorem xW{us:List Ty}(hu:∀u,u∈us->jv u 0)(k:Nat):jv (us.getD k .zero) 0:=by
 by_cases h:k<us.length
 ·rw[aa,bm h];exact hu _ (bN h)
 ·rw[aa,List.getElem?_eq_none (by omega)];trivial
theorem pe{us:List Ty}(hu:∀u,u∈us->jv u 0):∀(t:Ty) (i:Nat),jv (lT us t i) i
 |
  .bH k,i=>by
  simp only[lT]
  split
  ·rename_i h;exact h
  ·exact gC _ (xW hu _) (dP _)
 | .plus a b,i=>⟨pe hu a i,pe hu b i⟩
 | .times a b,i=>⟨pe hu a i,pe hu b i⟩
 | .rc a,i=>pe hu a (i+1)
 | .zero,_=>trivial
 | .one,_=>trivial
 | .name _,_=>trivial
theorem mT{us:List Ty}(hu:∀u,u∈us->jv u 0)(U:Ty):∀(t:Ty) (i:Nat),dE U (lT us t (i+1)) i=lT (U::us) t i
 |
  .bH k,i=>by
  simp only[lT]
  by_cases h1:k<i
  ·rw[if_pos (by omega),if_pos h1];simp only[dE];rw[if_neg (by omega)]
  ·rw[if_neg h1]
   by_cases h2:k=i
   ·subst h2;rw[if_pos (by omega)];simp[dE]
   ·rw[if_neg (by omega),lI U _ (gC _ (xW hu _) (dP _)),show k-i=(k-(i+1))+1 by omega,List.getD_cons_succ]
 | .plus a b,i=>by simp only[lT,dE];rw[mT hu U a i,mT hu U b i]
 | .times a b,i=>by simp only[lT,dE];rw[mT hu U a i,mT hu U b i]
 | .rc a,i=>by simp only[lT,dE];rw[mT hu U a (i+1)]
 | .zero,_=>rfl
 | .one,_=>rfl
 | .name _,_=>rfl
theorem vF:∀env:List Fr,∀u,u∈xw env->jv u 0
 |[],u,h=>by cases h
 |
  f::r,u,h=>by
  rcases aI.1 h with rfl|h
  ·exact pe (vF r) _ 0
  ·exact vF r u h
theorem Cz{env:List Fr}(h:WF env):∀{u:Nat} {g:Fr},env[u]?=some g->(xw env).getD u .zero=lT (xw g.out) (xE g.ex g.out) 0:=by
 induction h with
 |nil=>intro u g hg;simp at hg
 |
  cons hs hok hx ht hf hr ih =>
  intro u g hg
  cases u with
  |zero=>simp at hg;subst hg;rfl
  |
   succ u =>
   have:=ih (u:=u) (g:=g) (by simpa using hg)
   simpa[xw]using this
theorem pC(n:Nat):∀(m:Nat) (v:Vl),v.nodes<=m->∀(e:E) (env:List Fr) (t:Ty),Ask e env t->fq n v (e,env)=vT n v (lT (xw env) t 0)
 |0,v,hm=>by have:=dj v;omega
 |
  m+1,v,hm=>by
  intro e env t A
  have recCase:∀(x a b:E) (env:List Fr) (t1:Ty),Ask (.list [x,a,b]) env (.rc t1)->x.at=[114,101,99]->fq n v (.list [x,a,b],env)=vT n v (lT (xw env) (.rc t1) 0):=by
   intro x a b env t1 A hx
   have hhd:hd (.list [x,a,b]) env=(.list [x,a,b],env):=rH A.wf
   obtain⟨t1',he1,h1,f1,hw1⟩:=jq A.wf A.ok hx A.ty A.cl
   cases he1
   obtain⟨ok1,ok2,ok3,_⟩:=A.ok
   have A':Ask b (.mk a.at (.list [x,a,b]) env::env) t1:=⟨ok3,hw1,h1,f1⟩
   cases v with
   |
    f w =>
    simp only[Vl.nodes]at hm
    simp only[fq,hhd,hx,beq_self_eq_true,bL]
    rw[pC n m w (by omega) b _ t1 A']
    have hty:xE (.list [x,a,b]) env=.rc t1:=by unfold xE;rw[A.ty];rfl
    show vT n w (lT (lT (xw env) (xE (.list [x,a,b]) env) 0::xw env) t1 0)=vT n w (dE (.rc (lT (xw env) t1 1)) (lT (xw env) t1 1) 0)
    rw[hty,mT (vF env)]
    rfl
   |_=>simp[fq,hhd,hx,lT,vT]
  rcases jo A.wf A.ty with⟨hb,hq⟩|⟨u,g,rfl,hq,hu⟩
  ·have hhd:hd e env=(e,env):=ko hq
   rcases gZ A.ty hb A.cl with⟨rfl,rfl⟩|⟨rfl,rfl⟩|⟨s,rfl,rfl,hp,h0,h1⟩|⟨x,a,b,t1,t2,rfl,hx,rfl,ha,hbb⟩|⟨x,a,b,t1,t2,rfl,hx,rfl,ha,hbb⟩|⟨x,a,b,t1,rfl,hx,rfl⟩
   ·have hp0:fj [48]=false:=rfl
    cases v<;>simp[fq,hhd,lT,vT,hp0]
   ·cases v<;>simp[fq,hhd,lT,vT]
   ·cases v<;>simp[fq,hhd,lT,vT,hp,h1]
   ·obtain⟨ok1,ok2,ok3,_⟩:=A.ok
    obtain⟨f1,f2⟩:=fm A.cl
    cases v with
    |
     l w =>
     simp only[Vl.nodes]at hm
     simp only[fq,hhd,hx,beq_self_eq_true,bL,lT,vT]
     exact pC n m w (by omega) a env t1 ⟨ok2,A.wf,ha,f1⟩
    |
     r w =>
     simp only[Vl.nodes]at hm
     simp only[fq,hhd,hx,beq_self_eq_true,bL,lT,vT]
     exact pC n m w (by omega) b env t2 ⟨ok3,A.wf,hbb,f2⟩
    |_=>simp[fq,hhd,hx,lT,vT]
   ·obtain⟨ok1,ok2,ok3,_⟩:=A.ok
    obtain⟨f1,f2⟩:=eV A.cl
    cases v with
    |
     p w w' =>
     simp only[Vl.nodes]at hm
     simp only[fq,hhd,hx,beq_self_eq_true,bL,lT,vT]
     rw[pC n m w (by omega) a env t1 ⟨ok2,A.wf,ha,f1⟩,pC n m w' (by omega) b env t2 ⟨ok3,A.wf,hbb,f2⟩]
    |_=>simp[fq,hhd,hx,lT,vT]
   ·exact recCase x a b env t1 A hx
  ·obtain⟨x,a,b,t',hfe,hok,hx,ht',hf',hwf,hlt⟩:=og A.wf hq
   have hrec:hd g.ex g.out=(g.ex,g.out):=by rw[hfe];exact rH hwf
   rw[tn n v (qo hq) hrec]
   have hcl:lT (xw env) (.bH u) 0=lT (xw g.out) (xE g.ex g.out) 0:=by
    simp only[lT];rw[if_neg (by omega),Nat.sub_zero];exact Cz A.wf hu
   rw[hcl]
   have hty:xE g.ex g.out=t':=by unfold xE;rw[ht'];rfl
   rw[hty,hfe]
   rw[hfe]at ht'
   obtain⟨t1,_,_,rfl⟩:=dy hx ht'
   exact recCase x a b g.out t1 ⟨hok,hwf,ht',hf'⟩ hx
theorem kp{n:Nat}{v:Vl}{e:E}{t:Ty}(A:Ask e [] t):fq n v (e,[])=vT n v t:=by
 have:=pC n v.nodes v (ap _) e [] t A
 rw[this]
 obtain⟨w,ht⟩:=kk e [] t A.ok (fun w hw=>by cases hw) A.ty
 have hl:=ud w []
 rw[ht]at hl
 exact congrArg (vT n v) (oY _ t hl)
def eJ(σ:Nm->Option Ty):Ty->Ty
 | .name s=>(σ s).getD (.name s)
 | .plus a b=>.plus (eJ σ a) (eJ σ b)
 | .times a b=>.times (eJ σ a) (eJ σ b)
 | .rc a=>.rc (eJ σ a)
 |t=>t
def iR(σ:Nm->Option Ty)(x:Nm)(u:Ty):Nm->Option Ty:=fun s=>if s=x then some u else σ s
theorem ij(σ:Nm->Option Ty)(x:Nm)(u:Ty):∀t:Ty,eJ σ (sub x u t)=eJ (iR σ x (eJ σ u)) t
 |
  .name s=>by
  by_cases h:s=x
  ·simp[sub,eJ,iR,h]
  ·simp[sub,eJ,iR,h]
 | .plus a b=>by simp only[sub,eJ,ij σ x u a,ij σ x u b]
 | .times a b=>by simp only[sub,eJ,ij σ x u a,ij σ x u b]
 | .rc a=>by simp only[sub,eJ,ij σ x u a]
 | .zero=>rfl
 | .one=>rfl
 | .bH k=>rfl
def BR(σ:Nm->Option Ty):Prop:=∀s u,σ s=some u->jv u 0
theorem jN{σ:Nm->Option Ty}(hσ:BR σ):∀(t:Ty) {i:Nat},jv t i->jv (eJ σ t) i
 |
  .name s,i,_=>by
  simp only[eJ]
  cases q:σ s with
  |none=>trivial
  |some u=>exact gC u (hσ s u q) (dP _)
 | .plus a b,i,h=>⟨jN hσ a h.1,jN hσ b h.2⟩
 | .times a b,i,h=>⟨jN hσ a h.1,jN hσ b h.2⟩
 | .rc a,i,h=>jN hσ a (i:=i+1) h
 | .zero,_,_=>trivial
 | .one,_,_=>trivial
 | .bH k,_,h=>h
theorem jF{σ:Nm->Option Ty}(hσ:BR σ)(x:Nm)(U:Ty):∀(t:Ty) (i:Nat),bh x t=false->eJ (iR σ x U) (dE (.name x) t i)=dE U (eJ σ t) i
 |
  .name s,i,h=>by
  have hs:s≠x:=by simpa[bh]using h
  simp only[dE,eJ,iR,if_neg hs]
  cases q:σ s with
  |none=>rfl
  |some u=>exact(lI U u (gC u (hσ s u q) (dP _))).symm
 |
  .bH k,i,h=>by
  simp only[dE,eJ]
  split
  ·simp[eJ,iR]
  ·rfl
 |
  .plus a b,i,h=>by
  simp only[bh,bU]at h
  simp only[dE,eJ,jF hσ x U a i h.1,jF hσ x U b i h.2]
 |
  .times a b,i,h=>by
  simp only[bh,bU]at h
  simp only[dE,eJ,jF hσ x U a i h.1,jF hσ x U b i h.2]
 | .rc a,i,h=>by simp only[dE,eJ,jF hσ x U a (i+1) h]
 | .zero,_,_=>rfl
 | .one,_,_=>rfl
theorem lB{σ:Nm->Option Ty}(hσ:BR σ)(x:Nm){u:Ty}(hu:jv u 0):BR (iR σ x u):=fun s v h=>by
 unfold iR at h
 split at h
 ·cases h;exact hu
 ·exact hσ s v h
theorem jd(x:Nm):∀(n:Nat) (c:Vl) (t:Ty) (i:Nat),c.nodes<=n->dL (dE (.name x) t i) c=dL t c
 |0,c,_,_,h=>by have:=dj c;omega
 |
  n+1,c,t,i,hn=>by
  cases t with
  |bH k=>simp only[dE];split<;>(cases c<;>rfl)
  |
   plus a b =>
   cases c with
   |l c=>simp only[Vl.nodes]at hn;exact jd x n c a i (by omega)
   |r c=>simp only[Vl.nodes]at hn;exact jd x n c b i (by omega)
   |_=>rfl
  |
   times a b =>
   cases c with
   |
    l c =>
    cases c with
    |p y z=>simp only[Vl.nodes]at hn;exact jd x n y a i (by omega)
    |_=>rfl
   |
    r c =>
    cases c with
    |p y z=>simp only[Vl.nodes]at hn;exact jd x n z b i (by omega)
    |_=>rfl
   |_=>rfl
  |
   rc a =>
   cases c with
   |
    f c =>
    cases c with
    |l y=>simp only[Vl.nodes]at hn;exact jd x n y a (i+1) (by omega)
    |
     r c =>
     cases c with
     |
      p y z =>
      simp only[Vl.nodes]at hn
      have h1:=jd x n y a (i+1) (by omega)
      have h2:=jd x n z (.rc a) i (by omega)
      show (dL (dE (.name x) a (i+1)) y&&dL (.rc (dE (.name x) a (i+1))) z)=(dL a y&&dL (.rc a) z)
      rw[h1]
      exact congrArg _ h2
     |_=>rfl
    |_=>rfl
   |_=>rfl
  |_=>rfl
end Go.Proofs.Trees
namespace Go.Proofs.Trees
open Go Go.VL Go.RowKit
theorem dH(x:Nm):∀(n:Nat) (c:Vl) (t:Ty) (i:Nat) (v:Vl),c.nodes<=n->cO (dE (.name x) t i) c v=cO t c v
 |0,c,_,_,_,h=>by have:=dj c;omega
 |
  n+1,c,t,i,v,hn=>by
  cases t with
  |bH k=>simp only[dE];split<;>(cases c<;>rfl)
  |
   plus a b =>
   cases c with
   |l c=>simp only[Vl.nodes]at hn;exact congrArg Vl.l (dH x n c a i v (by omega))
   |r c=>simp only[Vl.nodes]at hn;exact congrArg Vl.r (dH x n c b i v (by omega))
   |_=>rfl
  |
   times a b =>
   cases c with
   |
    l c =>
    cases c with
    |p y z=>simp only[Vl.nodes]at hn;exact congrArg (fun q=>Vl.p q z) (dH x n y a i v (by omega))
    |_=>rfl
   |
    r c =>
    cases c with
    |p y z=>simp only[Vl.nodes]at hn;exact congrArg (Vl.p y) (dH x n z b i v (by omega))
    |_=>rfl
   |_=>rfl
  |
   rc a =>
   cases c with
   |
    f c =>
    cases c with
    |l y=>simp only[Vl.nodes]at hn;exact congrArg Vl.f (dH x n y a (i+1) v (by omega))
    |
     r c =>
     cases c with
     |
      p y z =>
      simp only[Vl.nodes]at hn
      have h2:=dH x n z (.rc a) i v (by omega)
      have h1:=dH x n y a (i+1) (cO (.rc a) z v) (by omega)
      show Vl.f (cO (dE (.name x) a (i+1)) y (cO (.rc (dE (.name x) a (i+1))) z v))=Vl.f (cO a y (cO (.rc a) z v))
      have h3:cO (.rc (dE (.name x) a (i+1))) z v=cO (.rc a) z v:=h2
      rw[h3,h1]
     |_=>rfl
    |_=>rfl
   |_=>rfl
  |_=>rfl
theorem Az{n:Nat}{c:Vl}{a:Ty}(h:vT n c (.rc a)=true):∃w,c=.f w/\vT n w (dE (.rc a) a 0)=true:=by
 cases c with
 |f w=>exact⟨w,rfl,h⟩
 |_=>simp[vT]at h
theorem i6{n:Nat}{c:Vl}{a b:Ty}(h:vT n c (.plus a b)=true):(∃w,c=.l w/\vT n w a=true)\/∃w,c=.r w/\vT n w b=true:=by
 cases c with
 |l w=>exact .inl ⟨w,rfl,h⟩
 |r w=>exact .inr ⟨w,rfl,h⟩
 |_=>simp[vT]at h
theorem gv{n:Nat}{c:Vl}{a b:Ty}(h:vT n c (.times a b)=true):∃x y,c=.p x y/\vT n x a=true/\vT n y b=true:=by
 cases c with
 |p x y=>simp only[vT,au]at h;exact⟨x,y,rfl,h.1,h.2⟩
 |_=>simp[vT]at h
theorem oj{σ:Nm->Option Ty}(hσ:BR σ){a c d:Ty}{x:Nm}(ha:jv (.rc a) 0)(hc:jv c 0)(hd:jv d 0):∃X,eJ σ (pw a x c d)=.rc X/\dE (.rc X) X 0=.plus (eJ (iR σ x (eJ σ (.rc a))) c) (.times (eJ (iR σ x (eJ σ (.rc a))) d) (eJ σ (pw a x c d))):=by
 refine⟨.plus (eJ σ (sub x (.rc a) c)) (.times (eJ σ (sub x (.rc a) d)) (.bH 0)),rfl,?_⟩
 have h1:=jN hσ (sub x (.rc a) c) (kt ha c hc)
 have h2:=jN hσ (sub x (.rc a) d) (kt ha d hd)
 simp only[dE,lI _ _ h1,lI _ _ h2,if_true]
 rw[ij,ij]
 simp only[pw,eJ,ij]
theorem tU(n:Nat):∀(m:Nat) (c:Vl),c.nodes<=m->∀(t:Ty) (s:Nm) (d:Ty) (σ:Nm->Option Ty),Dv t s d->BR σ->jv t 0->vT n c (eJ σ d)=true->dL t c=true
 |0,c,h=>by have:=dj c;omega
 |
  m+1,c,hm=>by
  intro t s d σ hd hσ hl hv
  cases hd with
  |zero=>cases c<;>rfl
  |one=>cases c<;>rfl
  |bH=>cases c<;>rfl
  |hit=>cases c<;>rfl
  |qg=>cases c<;>rfl
  |
   plus h1 h2 _ =>
   rcases i6 hv with⟨w,rfl,hw⟩|⟨w,rfl,hw⟩
   ·simp only[Vl.nodes]at hm;exact tU n m w (by omega) _ s _ σ h1 hσ hl.1 hw
   ·simp only[Vl.nodes]at hm;exact tU n m w (by omega) _ s _ σ h2 hσ hl.2 hw
  |
   times h1 h2 _ =>
   rcases i6 hv with⟨w,rfl,hw⟩|⟨w,rfl,hw⟩
   ·obtain⟨x,y,rfl,hx,hy⟩:=gv hw
    simp only[Vl.nodes]at hm;exact tU n m x (by omega) _ s _ σ h1 hσ hl.1 hx
   ·obtain⟨x,y,rfl,hx,hy⟩:=gv hw
    simp only[Vl.nodes]at hm;exact tU n m y (by omega) _ s _ σ h2 hσ hl.2 hy
  |
   @rc a _ c0 d0 x hx hs h1 h2 hsz =>
   have lo:jv (dE (.name x) a 0) 0:=gJ x a hl
   obtain⟨X,e1,e2⟩:=oj (x:=x) hσ hl (h1.lc lo) (h2.lc lo)
   have hv':=hv
   rw[e1]at hv'
   obtain⟨w,rfl,hw⟩:=Az hv'
   rw[e2]at hw
   have hcl:=lB hσ x (jN hσ (.rc a) hl)
   rcases i6 hw with⟨y,rfl,hy⟩|⟨y,rfl,hy⟩
   ·simp only[Vl.nodes]at hm
    have:=tU n m y (by omega) _ s _ _ h1 hcl lo hy
    rw[jd x y.nodes y a 0 (ap _)]at this
    exact this
   ·obtain⟨y,z,rfl,hy,hz⟩:=gv hy
    simp only[Vl.nodes]at hm
    have q1:=tU n m y (by omega) _ x _ _ h2 hcl lo hy
    rw[jd x y.nodes y a 0 (ap _)]at q1
    have q2:=tU n m z (by omega) (.rc a) s _ σ (.rc x hx hs h1 h2 hsz) hσ hl hz
    show (dL a y&&dL (.rc a) z)=true
    rw[q1,q2];rfl
theorem nV(n:Nat):∀(m:Nat) (c:Vl),c.nodes<=m->∀(t:Ty) (s:Nm) (d:Ty) (σ:Nm->Option Ty),Dv t s d->BR σ->jv t 0->vT n c (eJ σ d)=true->∀v,vT n v (eJ σ (.name s))=true->vT n (cO t c v) (eJ σ t)=true
 |0,c,h=>by have:=dj c;omega
 |
  m+1,c,hm=>by
  intro t s d σ hd hσ hl hv v hvv
  have no:∀c,vT n c .zero=false:=fun c=>by cases c<;>rfl
  cases hd with
  |zero=>rw[show eJ σ .zero=.zero from rfl,no]at hv;cases hv
  |one=>rw[show eJ σ .zero=.zero from rfl,no]at hv;cases hv
  |bH=>rw[show eJ σ .zero=.zero from rfl,no]at hv;cases hv
  |qg=>rw[show eJ σ .zero=.zero from rfl,no]at hv;cases hv
  |hit=>rw[kI];exact hvv
  |
   plus h1 h2 _ =>
   rcases i6 hv with⟨w,rfl,hw⟩|⟨w,rfl,hw⟩
   ·simp only[Vl.nodes]at hm;exact nV n m w (by omega) _ s _ σ h1 hσ hl.1 hw v hvv
   ·simp only[Vl.nodes]at hm;exact nV n m w (by omega) _ s _ σ h2 hσ hl.2 hw v hvv
  |
   times h1 h2 _ =>
   rcases i6 hv with⟨w,rfl,hw⟩|⟨w,rfl,hw⟩
   ·obtain⟨x,y,rfl,hx,hy⟩:=gv hw
    simp only[Vl.nodes]at hm
    have:=nV n m x (by omega) _ s _ σ h1 hσ hl.1 hx v hvv
    show (vT n _ _&&vT n _ _)=true
    rw[this,hy];rfl
   ·obtain⟨x,y,rfl,hx,hy⟩:=gv hw
    simp only[Vl.nodes]at hm
    have:=nV n m y (by omega) _ s _ σ h2 hσ hl.2 hy v hvv
    show (vT n _ _&&vT n _ _)=true
    rw[this,hx];rfl
  |
   @rc a _ c0 d0 x hx hs h1 h2 hsz =>
   have lo:jv (dE (.name x) a 0) 0:=gJ x a hl
   obtain⟨X,e1,e2⟩:=oj (x:=x) hσ hl (h1.lc lo) (h2.lc lo)
   have hv':=hv
   rw[e1]at hv'
   obtain⟨w,rfl,hw⟩:=Az hv'
   rw[e2]at hw
   have hcl:=lB hσ x (jN hσ (.rc a) hl)
   have hop:eJ (iR σ x (eJ σ (.rc a))) (dE (.name x) a 0)=dE (eJ σ (.rc a)) (eJ σ a) 0:=jF hσ x _ a 0 hx
   have hns:eJ (iR σ x (eJ σ (.rc a))) (.name s)=eJ σ (.name s):=by simp only[eJ,iR,if_neg (Ne.symm hs)]
   have hnx:eJ (iR σ x (eJ σ (.rc a))) (.name x)=eJ σ (.rc a):=by simp[eJ,iR]
   rcases i6 hw with⟨y,rfl,hy⟩|⟨y,rfl,hy⟩
   ·simp only[Vl.nodes]at hm
    have:=nV n m y (by omega) _ s _ _ h1 hcl lo hy v (by rw[hns];exact hvv)
    rw[hop,dH x y.nodes y a 0 v (ap _)]at this
    exact this
   ·obtain⟨y,z,rfl,hy,hz⟩:=gv hy
    simp only[Vl.nodes]at hm
    have q2:=nV n m z (by omega) (.rc a) s _ σ (.rc x hx hs h1 h2 hsz) hσ hl hz v hvv
    have q1:=nV n m y (by omega) _ x _ _ h2 hcl lo hy (cO (.rc a) z v) (by rw[hnx];exact q2)
    rw[hop,dH x y.nodes y a 0 _ (ap _)]at q1
    exact q1
def yK:Nm->Option Ty:=fun _=>none
theorem mC:BR yK:=fun _ _ h=>by cases h
theorem gm:∀t:Ty,eJ yK t=t
 | .name s=>rfl
 | .plus a b=>by simp only[eJ,gm a,gm b]
 | .times a b=>by simp only[eJ,gm a,gm b]
 | .rc a=>by simp only[eJ,gm a]
 | .zero=>rfl
 | .one=>rfl
 | .bH k=>rfl
theorem EC{n:Nat}{a D:Ty}{x:Nm}(hx:bh x a=false)(hl:jv (.rc a) 0)(h:zC a x=some D){c:Vl}(hc:vT n c D=true) :
 dL a c=true/\∀v,vT n v (.rc a)=true->vT n (.f (cO a c v)) (.rc a)=true:=by
 simp only[zC,a7,cJ,fU]at h
 obtain⟨d,hd,_,rfl⟩:=h
 have lo:jv (dE (.name x) a 0) 0:=gJ x a hl
 have hcl:=lB mC x hl
 have e1:sub x (.rc a) d=eJ (iR yK x (.rc a)) d:=by
  have:=ij yK x (.rc a) d
  rw[gm,gm]at this;exact this
 rw[e1]at hc
 have h1:=tU n c.nodes c (ap _) _ x _ _ hd hcl lo hc
 rw[jd x c.nodes c a 0 (ap _)]at h1
 refine⟨h1,fun v hv=>?_⟩
 have h2:=nV n c.nodes c (ap _) _ x _ _ hd hcl lo hc v (by simpa[eJ,iR]using hv)
 rw[dH x c.nodes c a 0 v (ap _),jF mC x _ a 0 hx,gm]at h2
 exact h2
end Go.Proofs.Trees
namespace Go.Proofs.Trees
open Go Go.VL Go.RowKit
theorem yV{env:List Fr}(h:WF env):∀w,w∈names env->da w=true:=by
 induction h with
 |nil=>intro w hw;cases hw
 |
  cons hs _ _ _ _ _ ih =>
  intro w hw
  simp only[names,aK,aS]at hw
  rcases hw with hw|rfl
  ·exact ih w hw
  ·exact hs
theorem AC{ar:List (List UInt8)}{k:Nat}(h:k<ar.length):gn ar k∈ar:=by
 unfold gn
 have:ar.length-1-k<ar.length:=by omega
 simp[aa,this]
def zY(s:List UInt8)(ar:List (List UInt8)):Prop:=fj s=true\/(bE s ar ar.length).isSome=true
theorem vm{s:List UInt8}{ar:List (List UInt8)}{u:Nat}(hl:∀w,w∈ar->da w=true)(h:bE s ar ar.length=some u):da s=true:=by
 obtain⟨h1,h2⟩:=fH _ _ (ap _) h
 rw[<-h2];exact hl _ (AC h1)
theorem EG{s0 s:List UInt8}{ar:List (List UInt8)}{t:Ty}(ht:cK (.atom s0) ar=some t)(hl:∀w,w∈ar->da w=true)(hs:zY s ar):eF t (nM s ar)=decide (s0=s):=by
 have h48:∀b:UInt8,fj [b]=false->da [b]=false->s≠[b]:=fun b h1 h2 e=>by
  subst e
  rcases hs with h|h
  ·rw[h1]at h;cases h
  ·obtain⟨u,hu⟩:=bz.1 h
   rw[vm hl hu]at h2;cases h2
 simp only[cK]at ht
 split at ht
 ·rename_i e;cases ht;subst e
  have:=h48 48 rfl rfl
  rw[decide_eq_false (fun h=>this h.symm)];cases nM s ar<;>rfl
 ·split at ht
  ·rename_i e;cases ht;subst e
   have:=h48 49 rfl rfl
   rw[decide_eq_false (fun h=>this h.symm)];cases nM s ar<;>rfl
  ·split at ht
   ·rename_i hp
    cases ht
    unfold nM
    cases e:bE s ar ar.length with
    |none=>rfl
    |
     some u =>
     have hloo:=vm hl e
     show false=_
     rw[decide_eq_false]
     rintro rfl
     rw[ka hp]at hloo;cases hloo
   ·rename_i hnp
    split at ht
    ·split at ht
     ·rename_i u hu
      cases ht
      unfold nM
      cases e:bE s ar ar.length with
      |
       none =>
       show false=_
       rw[decide_eq_false]
       rintro rfl
       rw[hu]at e;cases e
      |
       some u' =>
       show decide (u=u')=_
       rw[cu,decide_eq_true_eq,decide_eq_true_eq]
       constructor
       ·rintro rfl
        rw[<-(fH _ _ (ap _) hu).2,<-(fH _ _ (ap _) e).2]
       ·rintro rfl
        rw[hu]at e;cases e;rfl
     ·rename_i hn
      cases ht
      unfold nM
      cases e:bE s ar ar.length with
      |none=>rfl
      |
       some u =>
       show false=_
       rw[decide_eq_false]
       rintro rfl
       rw[hn]at e;cases e
    ·cases ht
theorem B6{b:E}{ar:List (List UInt8)}{w:List UInt8}{t:Ty}(hb:cK b (ar++[w])=some t)(hw:da w=true)(hs:zY w ar):uo t (nM w ar).up=false:=by
 rcases hs with h|h
 ·rw[ka h]at hw;cases hw
 ·obtain⟨u,hu⟩:=bz.1 h
  rw[nM,hu];exact EP hb hu
theorem yt{s w:List UInt8}{ar:List (List UInt8)}(h:w≠s)(hs:zY s ar):zY s (ar++[w]):=by
 rcases hs with h1|h1
 ·exact .inl h1
 ·right;rw[jE ar h];obtain⟨u,hu⟩:=bz.1 h1;rw[hu];rfl
def Mm(e:E)(s:List UInt8)(t:Ty)(tg:Tg)(v:Vl):Prop:=aq Tryz.prog 110 [.agg [.v (.string (mk e.at)),e.sp],.v (.string (mk s)),.agg [.v (.string (mk v.cB.at)),v.cB.sp]] [] (bC (.sl (lZ (bP t tg v))))
theorem D1(n:Nat):∀(m:Nat) (v:Vl),v.nodes<=m->∀(e:E) (env:List Fr) (t:Ty),Ask e env t->fq n v (e,env)=true->env.length+v.nodes<100000->∀(s:List UInt8),zY s (names env)->Mm e s t (nM s (names env)) v
 |0,v,hm=>by have:=dj v;omega
 |
  m+1,v,hm=>by
  intro e env t A hv hl s hs
  have hloo:=yV A.wf
  unfold Mm
  refine MC _ _ _ _ _ ((aV _).mpr trivial) ((aV _).mpr trivial) ?_
  have hlen:=mR t (nM s (names env)) v
  have atomCase:∀s0,e=.atom s0->stuck t v=true->eU Tryz.prog 244 (wD (mk e.at) e.sp (mk s) (mk v.cB.at) v.cB.sp) fun _ xs obs=>bC (.sl (lZ (bP t (nM s (names env)) v))) (xs.headD .any) obs:=by
   rintro s0 rfl hst
   have hat:=EG A.ty hloo hs
   have hne:s0≠[]:=A.ok
   simp only[wD,E.at,↓zq,zs,af,zt]
   refine⟨fun _=>⟨fun h=>?_,fun h=>?_⟩,fun h=>absurd h hne⟩
   ·rw[decide_eq_true h]at hat
    rw[mD v hat]
    refine⟨⟨yw _ _ _ _,by omega⟩,?_⟩
    simp[bC,lZ,Vl.cB,E.at,E.sp]
   ·rw[decide_eq_false h]at hat
    rw[dS hat hst]
    simp[bC,lZ]
  have hvh:=AQ v
  rw[dz]at hvh
  rcases jo A.wf A.ty with⟨hb,hq⟩|⟨u,g,rfl,hq,hu⟩
  ·have hhd:hd e env=(e,env):=ko hq
   rcases gZ A.ty hb A.cl with⟨rfl,rfl⟩|⟨rfl,rfl⟩|⟨s0,rfl,rfl,hp,h0,h1⟩|⟨x,a,b,t1,t2,rfl,hx,rfl,ha,hbb⟩|⟨x,a,b,t1,t2,rfl,hx,rfl,ha,hbb⟩|⟨x,a,b,t1,rfl,hx,rfl⟩
   ·exact atomCase _ rfl (by cases v<;>rfl)
   ·exact atomCase _ rfl (by cases v<;>rfl)
   ·exact atomCase _ rfl (by cases v<;>rfl)
   ·obtain⟨ok1,ok2,ok3,_⟩:=A.ok
    obtain⟨f1,f2⟩:=fm A.cl
    have hP:=P3.of x a b
    cases v with
    |
     l w =>
     simp only[fq,hhd,hx,beq_self_eq_true,bL]at hv
     simp only[Vl.nodes]at hm hl hlen
     rw[mP]at hlen |-
     rw[fN]at hlen
     have hW:=P2.of (.atom [108]) w.cB
     simp only[wD,E.at,↓zq,zs,af,zt]
     refine⟨fun h=>absurd rfl h,fun _=>aj hvh ?_⟩
     simp only[vh,Vl.cB,toNat_one,be,↓zq,zs,af,zt,hP.1,hP.2.1,hP.2.2.1,hP.2.2.2,hW.1,hW.2.1,hW.2.2,aL]
     refine⟨fun _=>?_,fun h=>absurd rfl h⟩
     repeat refine⟨by omega,?_⟩
     refine aj (D1 n m w (by omega) a env t1 ⟨ok2,A.wf,ha,f1⟩ hv (by omega) s hs) ?_
     simp only[↓zq,zs,af]
     refine bi (KV [108] Vl.l (fun c=>rfl) (bP t1 (nM s (names env)) w) [] (by simp;omega)) ?_
     simp[↓zq,zs,af,bC,bg,bx]
    |
     r w =>
     simp only[fq,hhd,hx,beq_self_eq_true,bL]at hv
     simp only[Vl.nodes]at hm hl hlen
     rw[mV]at hlen |-
     rw[fN]at hlen
     have hW:=P2.of (.atom [114]) w.cB
     simp only[wD,E.at,↓zq,zs,af,zt]
     refine⟨fun h=>absurd rfl h,fun _=>aj hvh ?_⟩
     simp only[vh,Vl.cB,toNat_one,be,↓zq,zs,af,zt,hP.1,hP.2.1,hP.2.2.1,hP.2.2.2,hW.1,hW.2.1,hW.2.2,aL]
     refine⟨fun h=>by simp at h,fun _=>⟨fun _=>?_,fun h=>absurd rfl h⟩⟩
     repeat refine⟨by omega,?_⟩
     refine aj (D1 n m w (by omega) b env t2 ⟨ok3,A.wf,hbb,f2⟩ hv (by omega) s hs) ?_
     simp only[↓zq,zs,af]
     refine bi (KV [114] Vl.r (fun c=>rfl) (bP t2 (nM s (names env)) w) [] (by simp;omega)) ?_
     simp[↓zq,zs,af,bC,bg,bx]
    |_=>simp[fq,hhd,hx]at hv
   ·obtain⟨ok1,ok2,ok3,_⟩:=A.ok
    obtain⟨f1,f2⟩:=eV A.cl
    have hP:=P3.of x a b
    cases v with
    |
     p w w' =>
     simp only[fq,hhd,hx,beq_self_eq_true,bL,au]at hv
     simp only[Vl.nodes]at hm hl hlen
     rw[mU]at hlen |-
     simp only[an,fN]at hlen
     have hW:=P3.of (.atom [112]) w.cB w'.cB
     simp only[wD,E.at,↓zq,zs,af,zt]
     refine⟨fun h=>absurd rfl h,fun _=>aj hvh ?_⟩
     simp only[vh,Vl.cB,toNat_one,be,↓zq,zs,af,zt,hP.1,hP.2.1,hP.2.2.1,hP.2.2.2,hW.1,hW.2.1,hW.2.2.1,hW.2.2.2,aL]
     refine⟨fun h=>by simp at h,fun _=>⟨fun h=>by simp at h,fun _=>⟨fun _=>?_,fun h=>absurd rfl h⟩⟩⟩
     repeat refine⟨by omega,?_⟩
     refine aj (D1 n m w (by omega) a env t1 ⟨ok2,A.wf,ha,f1⟩ hv.1 (by omega) s hs) ?_
     simp only[↓zq,zs,af]
     have h1:=Ip s (mk []) (E.list [x,a,b]).sp ((aV _).mpr trivial) (mk []) (E.list [.atom [112],w.cB,w'.cB]).sp w w' (P3.of _ _ _) (bP t1 (nM s (names env)) w) (by omega) _ 0 [] (aU _) (by simp;omega)
     rw[bo,aT]at h1
     refine cw h1 ?_
     simp only[↓zq,zs,af,aV,af,be,hP.1,hP.2.1,hP.2.2.2,hW.1,hW.2.1,hW.2.2.2,aL]
     repeat refine⟨by omega,?_⟩
     refine aj (D1 n m w' (by omega) b env t2 ⟨ok3,A.wf,hbb,f2⟩ hv.2 (by omega) s hs) ?_
     simp only[↓zq,zs,af]
     have h2:=IM (mk []) (E.list [.atom [112],w.cB,w'.cB]).sp w w' (P3.of _ _ _) (bP t2 (nM s (names env)) w') (by omega) _ 0 (iU (fun c=>Vl.l (.p c w')) (bP t1 (nM s (names env)) w)) (aU _) (by rw[fN];omega)
     rw[bo]at h2
     refine cw h2 ?_
     simp[↓zq,zs,af,bC]
    |_=>simp[fq,hhd,hx]at hv
   ·obtain⟨t1',he1,h1,f1,hw1⟩:=jq A.wf A.ok hx A.ty A.cl
    cases he1
    obtain⟨ok1,ok2,ok3,_⟩:=A.ok
    obtain⟨_,hla,_,_⟩:=dy hx A.ty
    have A':Ask b (.mk a.at (.list [x,a,b]) env::env) t1:=⟨ok3,hw1,h1,f1⟩
    have hnm:names (.mk a.at (.list [x,a,b]) env::env)=names env++[a.at]:=rfl
    have hP:=P3.of x a b
    cases v with
    |
     f w =>
     simp only[fq,hhd,hx,beq_self_eq_true,bL]at hv
     simp only[Vl.nodes]at hm hl hlen
     have hW:=P2.of (.atom [102]) w.cB
     simp only[wD,E.at,↓zq,zs,af,zt]
     refine⟨fun h=>absurd rfl h,fun _=>aj hvh ?_⟩
     simp only[vh,Vl.cB,toNat_one,be,↓zq,zs,af,zt,hP.1,hP.2.1,hP.2.2.1,hP.2.2.2,hW.1,hW.2.1,hW.2.2,aL]
     refine⟨fun h=>by simp at h,fun _=>⟨fun h=>by simp at h,fun _=>⟨fun h=>by simp at h,fun _=>?_⟩⟩⟩
     repeat refine⟨by omega,?_⟩
     refine⟨fun h=>?_,fun h=>?_⟩
     ·
      have hh:a.at=s:=h
      subst hh
      have:uo (.rc t1) (nM a.at (names env))=false:=B6 h1 hla hs
      rw[iW _ _ (ap _) _ _ this]
      simp[bC,lZ]
     ·have hh:a.at≠s:=h
      rw[mO]at hlen |-
      simp only[an,fN]at hlen
      repeat refine⟨by omega,?_⟩
      have i1:=D1 n m w (by omega) b _ t1 A' hv (by simp;omega) s (by rw[hnm];exact yt hh hs)
      rw[hnm,yo _ hh]at i1
      refine aj i1 ?_
      simp only[↓zq,zs,af]
      have h3:=LS s a.at (mk []) (E.list [x,a,b]).sp ((aV _).mpr trivial) (mk []) (E.list [.atom [102],w.cB]).sp ((aV _).mpr trivial) (bP t1 (nM s (names env)).up w) (by omega) _ 0 [] (aU _) (by simp;omega)
      rw[bo,aT]at h3
      refine cw h3 ?_
      simp only[↓zq,zs,af,aV,af,toNat_one,be,hP.1,hP.2.1,hP.2.2.2,hW.1,hW.2.1,hW.2.2,aL]
      repeat refine⟨by omega,?_⟩
      have i2:=D1 n m w (by omega) b _ t1 A' hv (by simp;omega) a.at (by rw[hnm];right;rw[fW];rfl)
      rw[hnm,zL]at i2
      refine aj i2 ?_
      simp only[↓zq,zs,af]
      have hl2:=mR t1 (.bd 0) w
      have ih3:∀h,h∈bP t1 (.bd 0) w->Mm (.list [x,a,b]) s (.rc t1) (nM s (names env)) h.2:=fun h hh=>by
       have h3:=(jt hh).1
       have h4:=ib n m w (by omega) b _ t1 A' hv 0 _ rfl h hh
       exact D1 n m h.2 (by omega) (.list [x,a,b]) env (.rc t1) A h4 (by omega) s hs
      have h4:=Jn s (.list [x,a,b]) t1 (nM s (names env)) (bP t1 (.bd 0) w) (by omega) ih3 _ 0 (iU (fun c=>.f (.l c)) (bP t1 (nM s (names env)).up w)) (aU _) (by
       simp only[bo,an,fN]
       have hlen2:(bP t1 (nM s (names env)).up w).length+((bP t1 (.bd 0) w).flatMap (zz t1 (nM s (names env)))).length<=1+w.nodes:=hlen
       omega)
      rw[bo]at h4
      simp only[E.at]at h4
      refine cw h4 ?_
      simp[↓zq,zs,af,bC]
    |_=>simp[fq,hhd,hx]at hv
  ·cases e with
   |atom s0=>exact atomCase _ rfl (by cases v<;>rfl)
   |list l=>exact absurd hq (by rw[show (E.list l).at=[] from rfl,kG A.wf];simp)
end Go.Proofs.Trees
namespace Go.Proofs.Trees
open Go Go.VL Go.RowKit
def ua(s:List UInt8):Option Ty:=match qz s with
 |some (.rc a)=>some a
 |_=>none
def uO(s v:List UInt8):Option Vl:=match ua s with
 |some _=>mM s v 100
 |none=>none
theorem xM{s:List UInt8}{a:Ty}(h:ua s=some a):qz s=some (.rc a):=by
 unfold ua at h
 split at h
 ·rename_i e;cases h;exact e
 ·cases h
structure LV(s v:List UInt8)(w:Vl)(a:Ty)(x A B:E):Prop where
 l:ua s=some a
 ce:ic s=some (.list [x,A,B])
 v:pT v=some w
 ask:Ask (.list [x,A,B]) [] (.rc a)
 hx:x.at=[114,101,99]
 Qg:da A.at=true
 body:Ask B [.mk A.at (.list [x,A,B]) []] a
 fq:fq 100 w (.list [x,A,B],[])=true
theorem sd{e:E}{env:List Fr}{a:Ty}(A:Ask e env (.rc a)):∃x y z,e=.list [x,y,z]/\x.at=[114,101,99]/\da y.at=true/\Ask z (.mk y.at (.list [x,y,z]) env::env) a:=by
 rcases gZ A.ty rfl A.cl with⟨_,h⟩|⟨_,h⟩|⟨s,_,h,_⟩|⟨x,y,z,t1,t2,_,_,h,_⟩|⟨x,y,z,t1,t2,_,_,h,_⟩|⟨x,y,z,t1,rfl,hx,h⟩
 ·cases h
 ·cases h
 ·cases h
 ·cases h
 ·cases h
 ·cases h
  obtain⟨t1',he1,h1,f1,hw1⟩:=jq A.wf A.ok hx A.ty A.cl
  cases he1
  obtain⟨_,_,ok3,_⟩:=A.ok
  obtain⟨_,hla,_,_⟩:=dy hx A.ty
  exact⟨x,y,z,rfl,hx,hla,ok3,hw1,h1,f1⟩
theorem sb{s v:List UInt8}{w:Vl}(h:uO s v=some w):∃a x A B,LV s v w a x A B:=by
 unfold uO at h
 split at h
 ·rename_i a hl
  obtain⟨e,t,m,h1,h2,h3,h4,h5,h6,h7⟩:=kM h
  rw[xM hl]at h3
  cases h3
  obtain⟨x,A,B,rfl,hx,hA,hB⟩:=sd h4
  have:m=100:=by omega
  subst this
  exact⟨a,x,A,B,hl,h1,h2,h4,hx,hA,hB,h7⟩
 ·cases h
theorem LV.iB{s v:List UInt8}{w:Vl}{a:Ty}{x A B:E}(h:LV s v w a x A B):w.iB 100:=(gH h.v).2.1
theorem LV.nodes{s v:List UInt8}{w:Vl}{a:Ty}{x A B:E}(h:LV s v w a x A B):w.nodes<=200:=(gH h.v).2.2
def rK(l:List Nat):List (List AV):=l.map fun(k:Nat)=>[.v (.int .i64 (k:Int))]
theorem wm(l:List Nat):(rK l).length=l.length:=by simp[rK]
end Go.Proofs.Trees
namespace Go.Proofs.Trees
open Go Go.VL Go.RowKit
theorem FF{b:UInt8}(h:ia b=true):eW b=true:=by
 simp only[ia,eW,decide_eq_true_eq]at h |-;omega
theorem Ca{y:Nm}(h:Hg y):y≠[]/\y.all eW=true:=by
 have key:∀lo hi,97<=lo->hi<=122->named lo hi y=true->y≠[]/\y.all eW=true:=fun lo hi h1 h2 h=>by
  cases y with
  |nil=>cases h
  |
   cons c r =>
   simp only[named,au,decide_eq_true_eq]at h
   refine⟨by simp,?_⟩
   rw[cU,au]
   refine⟨?_,?_⟩
   ·simp only[eW,decide_eq_true_eq];omega
   ·rw[bM]
    intro b hb
    exact FF (bM.1 h.2 b hb)
 rcases h with h|h
 ·exact key 120 122 (by omega) (by omega) h
 ·exact key 116 116 (by omega) (by omega) h
theorem BD(m:Nat):(tN m).all eW=true:=by
 rw[cU,vM (m+1) m (by omega)];rfl
theorem pE(F:List Nm):∀(t:Ty) (to:List Nm) (k:Nat),(∀y,bh y t=true->y≠[]/\y.all eW=true)->(∀w,w∈to->w≠[]/\w.all eW=true)->jv t to.length->(gS F t to k).1.pr
 | .zero,_,_,_,_,_=>⟨by simp,by decide⟩
 | .one,_,_,_,_,_=>⟨by simp,by decide⟩
 | .name s,_,_,hn,_,_=>hn s (by simp[bh])
 |
  .bH u,to,_,_,ht,hl=>by
  have:to.length-1-u<to.length:=by have:u<to.length:=hl;omega
  show (E.atom (gn to u)).pr
  unfold gn
  rw[aa,bm this]
  exact ht _ (bN this)
 | .plus a b,to,k,hn,ht,hl=>⟨by simp,⟨by simp,by decide⟩,pE F a to k (fun y hy=>hn y (by simp[bh,hy])) ht hl.1,pE F b to _ (fun y hy=>hn y (by simp[bh,hy])) ht hl.2,trivial⟩
 | .times a b,to,k,hn,ht,hl=>⟨by simp,⟨by simp,by decide⟩,pE F a to k (fun y hy=>hn y (by simp[bh,hy])) ht hl.1,pE F b to _ (fun y hy=>hn y (by simp[bh,hy])) ht hl.2,trivial⟩
 |
  .rc a,to,k,hn,ht,hl=>by
  refine⟨by simp,⟨by simp,by decide⟩,⟨by simp,BD _⟩,pE F a (to++[tN (nx F k)]) _ hn (fun w hw=>?_) (by rw[an];exact hl),trivial⟩
  rcases aK.1 hw with hw|hw
  ·exact ht w hw
  ·simp only[aS]at hw;rw[hw];exact⟨by simp,BD _⟩
theorem sT{D:Ty}{dt:Nm}(g:fC D)(hn:∀y,bh y D=true->Hg y)(h:told D=some dt):py dt=some D:=by
 unfold told at h
 split at h
 ·rename_i hh
  cases h
  obtain⟨t,ht⟩:=bz.1 hh.2
  obtain⟨e,he,hw,hte,_,_⟩:=lN ht
  obtain⟨h1,_,_⟩:=ph he
  obtain⟨hx,hpr,_⟩:=yi h1
  obtain⟨w1,w2,_⟩:=kz (bD D []) D [] 0 (.nil _ _) g.1 fun y hy=>⟨(eQ D [] y).2 (.inr hy),g.2 y hy⟩
  have hp:=pE (bD D []) D [] 0 (fun y hy=>Ca (hn y hy)) (fun w hw=>by cases hw) g.1
  have:=AA hp hpr hx
  rw[ht,<-hte,<-this,w2]
 ·cases h
theorem sS{a d:Ty}{x:Nm}(h:zC a x=some d):∀y,bh y d=true->bh y a=true:=by
 simp only[zC,a7,cJ,fU]at h
 obtain⟨d',h1,_,rfl⟩:=h
 intro y hy
 rcases jf _ hy with h|⟨h,h'⟩
 ·exact h
 ·rcases iv a 0 (h1.names y h')with e|e
  ·exact absurd e h
  ·exact e
structure ZT(s d:Nm)(a:Ty)(x A B:E)(D:Ty):Prop where
 l:ua s=some a
 ce:ic s=some (.list [x,A,B])
 ask:Ask (.list [x,A,B]) [] (.rc a)
 hx:x.at=[114,101,99]
 body:Ask B [.mk A.at (.list [x,A,B]) []] a
 dl:jh s=some d
 y:py s=some (.rc a)
 lp:zC a sM=some D
 bk:py d=some D
theorem mQ{s:Nm}{t:Ty}(h:qz s=some t):py s=some t:=by
 unfold qz at h
 split at h
 ·cases h
 ·rename_i u hu
  split at h
  ·cases h;exact hu
  ·cases h
theorem ZT.of{s d:Nm}{a:Ty}(hl:ua s=some a)(hd:jh s=some d):∃x A B D,ZT s d a x A B D:=by
 have hc:=xM hl
 cases hce:ic s with
 |none=>rw[jL hce]at hc;cases hc
 |
  some e =>
  obtain⟨t,h1,hA,_⟩:=fX hce
  rw[hc]at h1;cases h1
  obtain⟨x,A,B,rfl,hx,hA',hB⟩:=sd hA
  have hy:=mQ hc
  have hd':=hd
  unfold jh at hd'
  rw[hy]at hd'
  obtain⟨D,h2,h3⟩:=a7.1 hd'
  obtain⟨e2,he2,hw2,hte2,_,_⟩:=lN hy
  have hg:=Bk hw2 hte2 (x:=sM) ⟨by simp,by simp,by simp⟩ h2
  exact⟨x,A,B,D,hl,hce,hA,hx,hB,hd,hy,h2,sT hg.1 (fun y hy'=>kX hy y (sS h2 y hy')) h3⟩
structure Cx(a:Ty)(w:Vl):Prop where
 ok:dL a w=true
 ty:∀v,vT 100 v (.rc a)=true->vT 100 (.f (cO a w v)) (.rc a)=true
 iB:w.iB 100
 nd:w.nodes<=200
structure Fo(a:Ty)(v:Vl):Prop where
 ty:vT 100 v (.rc a)=true
 iB:v.iB 100
 nd:v.nodes<=200
theorem ZT.CY{s d:Nm}{a:Ty}{x A B:E}{D:Ty}(z:ZT s d a x A B D){c:Nm}{w:Vl}(h:mM d c 100=some w):Cx a w:=by
 obtain⟨e,t,m,h1,h2,h3,h4,h5,h6,h7⟩:=kM h
 have hm:m=100:=by omega
 subst hm
 have:=mQ h3
 rw[z.bk]at this;cases this
 rw[kp h4]at h7
 obtain⟨e2,he2,hw2,hte2,_,_⟩:=lN z.y
 have hlc:jv (.rc a) 0:=hte2 ▸ hw2.pu.1
 obtain⟨q1,q2⟩:=EC (wB z.y) hlc z.lp h7
 exact⟨q1,q2,(gH h2).2.1,(gH h2).2.2⟩
theorem ZT.BP{s d:Nm}{a:Ty}{x A B:E}{D:Ty}(z:ZT s d a x A B D){f:Nm}{v:Vl}(h:uO s f=some v):Fo a v/\f=v.dN:=by
 obtain⟨a',x',A',B',L⟩:=sb h
 have:=L.l
 rw[z.l]at this;cases this
 exact⟨⟨by rw[<-kp L.ask];exact L.fq,L.iB,L.nodes⟩,lC L.v⟩
theorem Fo.fq{s d:Nm}{a:Ty}{x A B:E}{D:Ty}(z:ZT s d a x A B D){v:Vl}(h:Fo a v):fq 100 v (.list [x,A,B],[])=true:=by rw[kp z.ask];exact h.ty
theorem ZT.dN{s d:Nm}{a:Ty}{x A B:E}{D:Ty}(z:ZT s d a x A B D){w:Vl}(hb:w.iB 100)(hv:vT 100 w (.rc a)=true):mM s w.dN 100=if w.nodes<=200 then some w else none:=by
 unfold mM
 rw[z.ce]
 by_cases hn:w.nodes<=200
 ·rw[nO hb hn,if_pos hn]
  simp only
  rw[if_pos ⟨by omega,by rw[show (100:Int).toNat=100 from rfl,kp z.ask];exact hv⟩]
 ·rw[if_neg hn]
  cases q:pT w.dN with
  |none=>rfl
  |
   some w' =>
   exfalso
   obtain⟨_,h2,h3⟩:=gH q
   have:=tS hb h2 (lC q)
   rw[this]at hn;exact hn h3
theorem ZT.lv{s d:Nm}{a:Ty}{x A B:E}{D:Ty}(z:ZT s d a x A B D)(f:Nm):uO s f=mM s f 100:=by
 unfold uO;rw[z.l]
def iI(d:Nm):List Nm->Option (List Vl)
 |[]=>some []
 |
  c::r=>match mM d c 100,iI d r with
  |some w,some l=>some (w::l)
  |_,_=>none
theorem qC{s d:Nm}{a:Ty}{x A B:E}{D:Ty}(z:ZT s d a x A B D):∀(p:List Nm) (l:List Vl),iI d p=some l->p=l.map (·.dN)/\∀c,c∈l->Cx a c
 |[],l,h=>by cases h;exact⟨rfl,fun c hc=>by cases hc⟩
 |
  c::r,l,h=>by
  simp only[iI]at h
  split at h
  ·rename_i w l' h1 h2
   cases h
   obtain⟨q1,q2⟩:=qC z r l' h2
   obtain⟨_,_,_,_,hv,_⟩:=kM h1
   refine⟨by rw[bI,<-q1,<-lC hv],fun c' hc'=>?_⟩
   rcases aI.1 hc' with rfl|hc'
   ·exact z.CY h1
   ·exact q2 c' hc'
  ·cases h
theorem sJ(d:Nm):∀(p q:List Nm),iI d (p++q)=(iI d p).bind fun l=>(iI d q).map (l++·)
 |[],q=>by cases h:iI d q<;>simp[iI,h]
 |
  c::p,q=>by
  simp only[ba,iI,sJ d p q]
  cases mM d c 100 with
  |none=>rfl
  |
   some w =>
   cases iI d p with
   |none=>rfl
   |some l=>cases iI d q<;>rfl
noncomputable def Gt (s:Nm) (p:List Nm) (f:Nm):Option (List Vl×Vl):=match uO s f,jh s with
 |some v,some d=>if p.length<=50 then(iI d p).map fun l=>(l,v)else none
 |_,_=>none
def zA(s:Nm):Ty:=(ua s).getD .zero
def DM(a:Ty)(l:List Vl)(v:Vl):Option (List Vl×Vl):=match l.getLast? with
 |none=>none
 |some c=>if(Vl.f (cO a c v)).nodes<=200 then some (l.dropLast,.f (cO a c v))else none
def rJ:Nat->Ty->List Vl->Vl->Option Vl
 |0,_,_,v=>some v
 |n+1,a,l,v=>(DM a l v).bind fun r=>rJ n a r.1 r.2
def zn(a:Ty)(l:List Vl)(v:Vl):Option Vl:=rJ l.length a l v
noncomputable def uE (s:Nm) (p:List Nm) (f:Nm):Option (List Vl×Vl):=(Gt s p f).bind fun r=>if(zn (zA s) r.1 r.2).isSome=true then some r else none
structure ZI(a:Ty)(l:List Vl)(v:Vl):Prop where
 CY:∀c,c∈l->Cx a c
 BP:Fo a v
theorem G1{a:Ty}{l l':List Vl}{v w:Vl}(h:ZI a l v)(hu:DM a l v=some (l',w)):ZI a l' w/\l'.length+1=l.length/\∃c,l=l'++[c]/\w=.f (cO a c v):=by
 unfold DM at hu
 cases q:l.getLast? with
 |none=>rw[q]at hu;cases hu
 |
  some c =>
  rw[q]at hu
  simp only at hu
  split at hu
  ·rename_i hn
   cases hu
   have hne:l≠[]:=by rintro rfl;cases q
   have hl:l.dropLast++[c]=l:=by
    have:=List.dropLast_concat_getLast hne
    rw[List.getLast?_eq_some_getLast hne]at q
    cases q;exact this
   have hc:c∈l:=by rw[<-hl];simp
   have hC:=h.CY c hc
   refine⟨⟨fun c' hc'=>h.CY c' (by rw[<-hl];exact aB _ hc'),hC.ty v h.BP.ty,uF 100 a c v hC.iB h.BP.iB,hn⟩,?_,c,hl.symm,rfl⟩
   have:=congrArg List.length hl
   simpa using this
  ·cases hu
end Go.Proofs.Trees
namespace Go.Proofs.Trees
open Go Go.VL Go.RowKit
noncomputable def mh (s x:Nm):Option Nm:=(py s).bind fun t=>if fj x=true then(j5 t x).bind told else none
theorem MQ(t:Ty)(s:Nm)(h4:t.aC<=400)(hf:∀j,bh (hN j) t=false)(hs:∀j,s≠hN j):aq Tryz.prog 141 [t.av,.v (.string (mk s))] [] (bC (.cG [((j5 t s).getD .zero).av,.v (.bool (j5 t s).isSome)])):=by
 refine M3 _ _ ((aG _).mpr trivial) ?_
 unfold IA
 refine aP (F1 400 t (by omega) h4 s 0 (fun j _=>hf j) (fun j _=>hs j) (by omega)) (A2.ne _ _ _) ?_
 rintro r ob ⟨f1,g1,g2,rfl,rfl⟩
 simp only[↓zq,zs,af,zt,aM,aG]
 cases j5 t s<;>simp[bC]
theorem OS(s x:Nm):aq Tryz.prog 97 [.v (.string (mk s)),.v (.string (mk x))] [] (bC (j4 (mh s x))):=by
 refine Mx _ _ ?_
 unfold J6
 refine aj (Fc s) ?_
 simp only[↓zq,zs,af,zt,fD]
 cases q:py s with
 |
  none =>
  have:mh s x=none:=by unfold mh;rw[q];rfl
  rw[this]
  simp only[hZ,↓zq,zs,af]
  exact⟨fun _=>⟨rfl,rfl⟩,fun h=>(by cases h)⟩
 |
  some t =>
  simp only[hZ,↓zq,zs,af,fA]
  refine⟨fun h=>(by cases h),fun _=>?_⟩
  refine aj (DD x) ?_
  simp only[↓zq,zs,af,zt]
  refine⟨fun h=>?_,fun h=>?_⟩
  ·have:mh s x=none:=by unfold mh;rw[q,aZ,if_neg (by rw[h];simp)]
   rw[this];exact⟨rfl,rfl⟩
  ·have e1:mh s x=(j5 t x).bind told:=by unfold mh;rw[q,aZ,if_pos h]
   have hno:∀y,Hg y->∀j,y≠hN j:=fun y hy j e=>(v7 hy).2 (dd j) e
   have hf:∀j,bh (hN j) t=false:=fun j=>by
    cases q2:bh (hN j) t with
    |false=>rfl
    |true=>exact absurd rfl (hno _ (kX q (hN j) q2) j)
   refine aj (MQ t x (sw q) hf (hno x (.inl h))) ?_
   simp only[↓zq,zs,af,zt,aG]
   rw[e1]
   cases q3:j5 t x with
   |none=>simp only[cn,bO];exact⟨fun _=>⟨rfl,rfl⟩,fun h=>(by cases h)⟩
   |
    some D =>
    simp only[co,aZ,cT]
    refine⟨fun h=>(by cases h),fun _=>?_⟩
    have hD:=cJ.1 q3
    obtain⟨e,_,hw,hte,_,_⟩:=lN q
    have g:fC D:=(hte ▸ hw.pu:fC t).dv hD
    have hl:=hD.small
    refine aj (OD D g (fun y hy=>Ap q y (hD.names y hy)) (by omega)) ?_
    cases told D<;>simp[j4,↓zq,zs,af,zt,bC]
theorem yu{s x d:Nm}(h:mh s x=some d):∃t D,py s=some t/\fj x=true/\Dv t x D/\told D=some d/\py d=some D:=by
 unfold mh at h
 obtain⟨t,ht,h⟩:=a7.1 h
 split at h
 ·rename_i hp
  obtain⟨D,e1,e2⟩:=a7.1 h
  rw[cJ]at e1
  obtain⟨e,_,hw,hte,_,_⟩:=lN ht
  have g:fC D:=(hte ▸ hw.pu:fC t).dv e1
  exact⟨t,D,ht,hp,e1,e2,sT g (fun y hy=>kX ht y (e1.names y hy)) e2⟩
 ·cases h
theorem MV(s x:Nm):aq Tryz.prog 47 [.v (.string (mk s)),.v (.string (mk x))] [] (bC (j4 (mh s x))):=by
 refine Pq _ _ ?_
 unfold KA
 refine aP (Eh s) (lO.ne _ _ (fun h=>h)) ?_
 rintro r o ⟨c,d,hd,rfl,hh⟩
 have hhas:bB [.str,.sl] [.v (.string (mk c)),d] 0:=by simp[bB,dq,hd]
 simp only[↓zq,zs,af,zt]
 refine⟨hhas,fun h=>?_,fun h=>?_⟩
 ·rw[tt]at h
  have:py s=none:=by cases hq:py s<;>simp[hq]at h |-
  unfold mh;rw[this];exact⟨rfl,rfl⟩
 ·rw[tt]at h
  obtain⟨t,ht⟩:=bz.1 h
  obtain⟨e,he,hw,hte,hats,hok⟩:=lN ht
  obtain⟨e',he',hce⟩:=hh (by rw[he];rfl)
  rw[he]at he';cases he'
  have hds:mh s x=if fj x=true then(j5 t x).bind told else none:=by unfold mh;rw[ht,aZ]
  rw[hds,hce,dz]
  refine aj (zH x) ?_
  simp only[↓zq,zs,af,zt]
  refine⟨fun h=>?_,fun h=>?_⟩
  ·rw[if_neg (by rw[h];simp)];exact⟨rfl,rfl⟩
  ·rw[if_pos h]
   have hx:qh x:=⟨fun e=>by subst e;revert h;decide,fun e=>by subst e;revert h;decide,fun e=>by subst e;revert h;decide⟩
   have hdv:=zr 400 e x hw (by omega) (by omega) hx
   rw[hte]at hdv
   refine aP hdv (l7.ne fun t' h'=>by have:=kb (s:=x) hw t';rw[hte]at this;exact this h') ?_
   rintro r o ⟨rfl,c1,d1,hd1,rfl,hc1⟩
   simp only[↓zq,zs,af,zt,iY hd1]
   cases q1:j5 t x with
   |
    none =>
    simp only[cn,bO]
    exact⟨fun _=>⟨rfl,rfl⟩,fun h=>(by cases h)⟩
   |
    some D =>
    simp only[co,aZ]
    refine⟨fun h=>(by cases h),fun _=>?_⟩
    obtain⟨ed,wd,td,rfl,rfl⟩:=hc1 D q1
    have hD:=cJ.1 q1
    have hcn:=Nu wd (wd.jx td hD.small) (by rw[td];exact fun y hy=>Ap ht y (hD.names y hy))
    rw[td]at hcn
    refine aj hcn ?_
    cases told D<;>simp only[j4,↓zq,zs,af,zt]<;>exact⟨rfl,rfl⟩
end Go.Proofs.Trees
namespace Go.Proofs.Trees
open Go Go.VL Go.RowKit
theorem Ea:∀(m:Nat) (c:Vl),c.nodes<=m->∀(t:Ty) (v:Vl),dL t c=true->∀(ea:AV) (ids:List Nat),lL ea ids->∀(s:List UInt8) (fr:AV),LK.has .ptr fr->aq Tryz.prog 49 [.agg [t.av,ea],c.cq,.agg [.v (.string (mk s)),fr],v.cq] [] (bC (cO t c v).cq)
 |0,c,hm=>by have:=dj c;omega
 |
  m+1,c,hm=>by
  intro t v hc ea ids he s fr hf
  refine MB _ _ _ _ _ _ ((aG _).mpr trivial) he.has ((aN _).mpr trivial) hf ((aN _).mpr trivial) ?_
  have fin:∀x:AV,LK.has .ptr x->LK.has .ptr x=True:=fun x h=>eq_true h
  cases t with
  |zero=>rw[si];simp[zP,Ty.av,↓zq,zs,af,bC]
  |one=>rw[vg];simp[zP,Ty.av,↓zq,zs,af,bC]
  |name n=>rw[kI];simp[zP,Ty.av,↓zq,zs,af,bC]
  |bH u=>rw[qG];simp[zP,Ty.av,↓zq,zs,af,bC]
  |
   plus a b =>
   have hL:=zl a.av b.av ea 43 (mk []) 0 ((aG _).mpr trivial) he.has
   have hR:=yR a.av b.av ea 43 (mk []) 0 ((aG _).mpr trivial) he.has
   rcases ux hc with⟨x,rfl,hx⟩|⟨x,rfl,hx⟩
   ·simp only[Vl.nodes]at hm
    simp only[zP,Ty.av,↓zq,zs,af]
    refine⟨by omega,fun _=>?_,fun h=>absurd rfl h⟩
    refine aj hL ?_
    simp only[↓zq,zs,af,bB,aG,he.has,Vl.cq,aN]
    refine⟨by omega,fun h=>by omega,fun _=>⟨by omega,by omega,?_⟩⟩
    refine aj (Ea m x (by omega) a v hx ea ids he s fr hf) ?_
    simp only[↓zq,zs,af,aN]
    refine aj (zB 108 _ ((aN _).mpr trivial)) ?_
    simp[↓zq,zs,af,bC,cO,Vl.cq,ci]
   ·simp only[Vl.nodes]at hm
    simp only[zP,Ty.av,↓zq,zs,af]
    refine⟨by omega,fun _=>?_,fun h=>absurd rfl h⟩
    refine aj hL ?_
    simp only[↓zq,zs,af,bB,aG,he.has,Vl.cq,aN]
    refine⟨by omega,fun _=>?_,fun h=>absurd rfl h⟩
    refine aj hR ?_
    simp only[↓zq,zs,af,bB,aG,he.has,Vl.cq,aN]
    refine⟨by omega,by omega,?_⟩
    refine aj (Ea m x (by omega) b v hx ea ids he s fr hf) ?_
    simp only[↓zq,zs,af,aN]
    refine aj (zB 114 _ ((aN _).mpr trivial)) ?_
    simp[↓zq,zs,af,bC,cO,Vl.cq,ci]
  |
   times a b =>
   have hL:=zl a.av b.av ea 42 (mk []) 0 ((aG _).mpr trivial) he.has
   have hR:=yR a.av b.av ea 42 (mk []) 0 ((aG _).mpr trivial) he.has
   rcases ss hc with⟨x,y,rfl,hx⟩|⟨x,y,rfl,hx⟩
   ·simp only[Vl.nodes]at hm
    simp only[zP,Ty.av,↓zq,zs,af,Vl.cq]
    refine⟨by omega,fun h=>by omega,fun _=>⟨fun _=>⟨by omega,fun _=>?_,fun h=>absurd rfl h⟩,fun h=>absurd rfl h⟩⟩
    refine aj hL ?_
    simp only[↓zq,zs,af,bB,aG,he.has,Vl.cq,aN]
    repeat refine⟨by omega,?_⟩
    refine aj (Ea m x (by omega) a v hx ea ids he s fr hf) ?_
    simp only[↓zq,zs,af,aN]
    repeat refine⟨by omega,?_⟩
    refine aj (yT _ _ ((aN _).mpr trivial) ((aN _).mpr trivial)) ?_
    simp[↓zq,zs,af,bC,cO,Vl.cq,ci]
   ·simp only[Vl.nodes]at hm
    simp only[zP,Ty.av,↓zq,zs,af,Vl.cq,aN]
    refine⟨by omega,fun h=>by omega,fun _=>⟨fun _=>⟨by omega,fun h=>by omega,fun _=>?_⟩,fun h=>absurd rfl h⟩⟩
    repeat refine⟨by omega,?_⟩
    refine aj hR ?_
    simp only[↓zq,zs,af,bB,aG,he.has,Vl.cq,aN]
    repeat refine⟨by omega,?_⟩
    refine aj (Ea m y (by omega) b v hx ea ids he s fr hf) ?_
    simp only[↓zq,zs,af,aN]
    refine aj (yT _ _ ((aN _).mpr trivial) ((aN _).mpr trivial)) ?_
    simp[↓zq,zs,af,bC,cO,Vl.cq,ci]
  |
   rc a =>
   have hin:=Ka a ea ids he
   simp only[Ty.av]at hin
   rcases zR hc with⟨x,rfl,hx⟩|⟨x,y,rfl,hx,hy⟩
   ·simp only[Vl.nodes]at hm
    simp only[zP,Ty.av,↓zq,zs,af,Vl.cq,aN]
    refine⟨by omega,fun h=>by omega,fun _=>⟨fun h=>by omega,fun _=>⟨fun _=>?_,fun h=>absurd rfl h⟩⟩⟩
    refine aP hin (by have:=Ck.ne a ea ids;simpa only[Ck,Ty.av]using this) ?_
    intro r o hr
    obtain⟨⟨q,hq,rfl⟩,rfl⟩:=hr
    have he2:lL (.ptr [.pid q [(Ty.rc a).av,ea],ea]) (q::ids):=.cons hq he
    have hfr:LK.ptr.has (.pid q [(Ty.rc a).av,ea]):=.inr (.inr ⟨_,_,rfl⟩)
    simp only[Ty.av]at he2 hfr
    simp only[↓zq,zs,af,bB,aG,he2.has,hfr,Vl.cq,aN,Ty.av]
    repeat refine⟨by omega,?_⟩
    refine⟨fun _=>?_,fun h=>absurd rfl h⟩
    repeat refine⟨by omega,?_⟩
    refine aj (Ea m x (by omega) a v hx _ _ he2 s fr hf) ?_
    simp only[↓zq,zs,af,aN]
    refine aj (zB 102 _ ((aN _).mpr trivial)) ?_
    simp[↓zq,zs,af,bC,cO,Vl.cq,ci]
   ·simp only[Vl.nodes]at hm
    simp only[zP,Ty.av,↓zq,zs,af,Vl.cq,aN]
    refine⟨by omega,fun h=>by omega,fun _=>⟨fun h=>by omega,fun _=>⟨fun _=>?_,fun h=>absurd rfl h⟩⟩⟩
    refine aP hin (by have:=Ck.ne a ea ids;simpa only[Ck,Ty.av]using this) ?_
    intro r o hr
    obtain⟨⟨q,hq,rfl⟩,rfl⟩:=hr
    have he2:lL (.ptr [.pid q [(Ty.rc a).av,ea],ea]) (q::ids):=.cons hq he
    have hfr:LK.ptr.has (.pid q [(Ty.rc a).av,ea]):=.inr (.inr ⟨_,_,rfl⟩)
    simp only[Ty.av]at he2 hfr
    simp only[↓zq,zs,af,bB,aG,he2.has,hfr,Vl.cq,aN,Ty.av]
    repeat refine⟨by omega,?_⟩
    refine fun _=>?_
    repeat refine⟨by omega,?_⟩
    have i1:=Ea m y (by omega) (.rc a) v hy ea ids he s fr hf
    simp only[Ty.av]at i1
    refine aj i1 ?_
    simp only[↓zq,zs,af,aN]
    repeat refine⟨by omega,?_⟩
    refine aj (Ea m x (by omega) a (cO (.rc a) y v) hx _ _ he2 [] _ hfr) ?_
    simp only[↓zq,zs,af,aN]
    refine aj (zB 102 _ ((aN _).mpr trivial)) ?_
    simp[↓zq,zs,af,bC,cO,Vl.cq,ci]
end Go.Proofs.Trees
namespace Go.Proofs.Trees
open Go Go.VL Go.RowKit
theorem zU{s:Nm}{p:List Nm}{f:Nm}{l:List Vl}{v:Vl}(h:Gt s p f=some (l,v)):∃d a x A B D,ZT s d a x A B D/\ZI a l v/\p=l.map (·.dN)/\f=v.dN/\p.length<=50/\zA s=a/\uO s f=some v/\iI d p=some l:=by
 unfold Gt at h
 split at h
 ·rename_i v' d h1 h2
  split at h
  ·rename_i hl
   obtain⟨l',h3,h4⟩:=Option.map_eq_some_iff.1 h
   cases h4
   obtain⟨a,_,_,_,L⟩:=sb h1
   obtain⟨x,A,B,D,z⟩:=ZT.of L.l h2
   obtain⟨q1,q2⟩:=qC z p l h3
   obtain⟨q3,q4⟩:=z.BP h1
   exact⟨d,a,x,A,B,D,z,⟨q2,q3⟩,q1,q4,hl,by unfold zA;rw[L.l];rfl,h1,h3⟩
  ·cases h
 ·cases h
end Go.Proofs.Trees
namespace Go.Proofs.Trees
open Go Go.VL Go.RowKit
abbrev tZ(s:Nm):Option (List Vl×Vl)->Nm×List Nm×Nm
 |some r=>(s,r.1.map (·.dN),r.2.dN)
 |none=>([],[],[])
def GZ(o:Option (List Vl×Vl)):Prop:=∀r,o=some r->(∀c,c∈r.1->c.dN.length<=900000)/\r.2.dN.length<=900000/\r.1.length<=51
theorem Cx.dN{a:Ty}{c:Vl}(h:Cx a c):c.dN.length<=900000:=by have:=ii c h.iB;have:=h.nd;omega
theorem Fo.dN{a:Ty}{c:Vl}(h:Fo a c):c.dN.length<=900000:=by have:=ii c h.iB;have:=h.nd;omega
theorem GZ.none:GZ none:=fun r hr=>by cases hr
theorem po{s:Nm}{p:List Nm}{f:Nm}{l:List Vl}{v:Vl}(h:uE s p f=some (l,v)):Gt s p f=some (l,v)/\(zn (zA s) l v).isSome=true:=by
 unfold uE at h
 obtain⟨r,h1,h2⟩:=a7.1 h
 split at h2
 ·rename_i hc
  cases h2
  exact⟨h1,hc⟩
 ·cases h2
end Go.Proofs.Trees
namespace Go.Proofs.Trees
open Go Go.VL Go.RowKit
def FY:E->Option E
 | .list [x,a,b]=>if x.at=[114,101,99]then some (.list [x,a,b])else none
 |_=>none
def C0(s:List UInt8):Option E:=match ic s with
 |some e=>FY e
 |none=>none
theorem LV.le{s v:List UInt8}{w:Vl}{a:Ty}{x A B:E}(h:LV s v w a x A B):C0 s=some (.list [x,A,B]):=by
 unfold C0;rw[h.ce];simp[FY,h.hx]
end Go.Proofs.Trees
namespace Go.Proofs.Trees
open Go Go.VL Go.RowKit
def Oc(e:E)(s:List UInt8)(t:Ty)(c v:Vl):Prop:=aq Tryz.prog 58 [.agg [.v (.string (mk e.at)),e.sp],.v (.string (mk s)),.agg [.v (.string (mk c.cB.at)),c.cB.sp],.agg [.v (.string (mk v.cB.at)),v.cB.sp]] [] (bC (.agg [.v (.string (mk (cO t c v).cB.at)),(cO t c v).cB.sp]))
theorem DW:∀(m:Nat) (c:Vl),c.nodes<=m->∀(e:E) (env:List Fr) (t:Ty),Ask e env t->dL t c=true->∀(s:List UInt8) (v:Vl),Oc e s t c v
 |0,c,hm=>by have:=dj c;omega
 |
  m+1,c,hm=>by
  intro e env t A hc s v
  unfold Oc
  refine ON _ _ _ _ _ _ _ ((aV _).mpr trivial) ((aV _).mpr trivial) ((aV _).mpr trivial) ?_
  have atomCase:∀s0,e=.atom s0->cO t c v=v->eU Tryz.prog 244 (Cf (mk e.at) e.sp (mk s) (mk c.cB.at) c.cB.sp (mk v.cB.at) v.cB.sp) fun _ xs obs=>bC (.agg [.v (.string (mk (cO t c v).cB.at)),(cO t c v).cB.sp]) (xs.headD .any) obs:=by
   rintro s0 rfl hp
   have hne:s0≠[]:=A.ok
   rw[hp]
   simp only[Cf,E.at,↓zq,zs,af,zt,bC]
   exact⟨fun _=>trivial,fun h=>absurd h hne⟩
  have hvh:=AQ c
  rw[dz]at hvh
  rcases jo A.wf A.ty with⟨hb,hq⟩|⟨u,g,rfl,hq,hu⟩
  ·rcases gZ A.ty hb A.cl with⟨rfl,rfl⟩|⟨rfl,rfl⟩|⟨s0,rfl,rfl,hp,h0,h1⟩|⟨x,a,b,t1,t2,rfl,hx,rfl,ha,hbb⟩|⟨x,a,b,t1,t2,rfl,hx,rfl,ha,hbb⟩|⟨x,a,b,t1,rfl,hx,rfl⟩
   ·exact atomCase _ rfl (si _ _)
   ·exact atomCase _ rfl (vg _ _)
   ·exact atomCase _ rfl (kI _ _ _)
   ·obtain⟨ok1,ok2,ok3,_⟩:=A.ok
    obtain⟨f1,f2⟩:=fm A.cl
    have hP:=P3.of x a b
    have hH:aq Tryz.prog 90 [.agg [.v (.string (mk [])),(E.list [x,a,b]).sp]] [] (bC (.v (.string (mk [43])))):=by rw[<-hx];exact uY x [a,b]
    rcases ux hc with⟨y,rfl,hy⟩|⟨y,rfl,hy⟩
    ·simp only[Vl.nodes]at hm
     have hW:=P2.of (.atom [108]) y.cB
     simp only[Vl.cB,bR]at hvh
     simp only[Cf,bR,Vl.cB,toNat_one,be,↓zq,zs,af,zt,hP.1,hP.2.1,hP.2.2.1,hP.2.2.2,hW.1,hW.2.1,hW.2.2,aL]
     refine⟨fun h=>absurd rfl h,fun _=>?_⟩
     repeat refine⟨by omega,?_⟩
     refine aj hH ?_
     simp only[↓zq,zs,af,zt]
     refine aj hvh ?_
     simp only[vh,↓zq,zs,af,zt,ba,aT]
     refine⟨by simp[cz],fun _=>?_,fun h=>absurd rfl h⟩
     repeat refine⟨by omega,?_⟩
     refine aj (DW m y (by omega) a env t1 ⟨ok2,A.wf,ha,f1⟩ hy s v) ?_
     simp only[↓zq,zs,af,zt,aL]
     repeat refine⟨by omega,?_⟩
     refine aj (yn _ _) ?_
     simp only[↓zq,zs,af,zt,aL]
     repeat refine⟨by omega,?_⟩
     exact⟨rfl,rfl⟩
    ·simp only[Vl.nodes]at hm
     have hW:=P2.of (.atom [114]) y.cB
     simp only[Vl.cB,bR]at hvh
     simp only[Cf,bR,Vl.cB,toNat_one,be,↓zq,zs,af,zt,hP.1,hP.2.1,hP.2.2.1,hP.2.2.2,hW.1,hW.2.1,hW.2.2,aL]
     refine⟨fun h=>absurd rfl h,fun _=>?_⟩
     repeat refine⟨by omega,?_⟩
     refine aj hH ?_
     simp only[↓zq,zs,af,zt]
     refine aj hvh ?_
     simp only[vh,↓zq,zs,af,zt,ba,aT]
     refine⟨by simp[cz],fun h=>by simp at h,fun _=>⟨fun _=>?_,fun h=>absurd rfl h⟩⟩
     repeat refine⟨by omega,?_⟩
     refine aj (DW m y (by omega) b env t2 ⟨ok3,A.wf,hbb,f2⟩ hy s v) ?_
     simp only[↓zq,zs,af,zt,aL]
     repeat refine⟨by omega,?_⟩
     refine aj (yn _ _) ?_
     simp only[↓zq,zs,af,zt,aL]
     repeat refine⟨by omega,?_⟩
     exact⟨rfl,rfl⟩
   ·obtain⟨ok1,ok2,ok3,_⟩:=A.ok
    obtain⟨f1,f2⟩:=eV A.cl
    have hP:=P3.of x a b
    have hH:aq Tryz.prog 90 [.agg [.v (.string (mk [])),(E.list [x,a,b]).sp]] [] (bC (.v (.string (mk [42])))):=by rw[<-hx];exact uY x [a,b]
    rcases ss hc with⟨y,z,rfl,hy⟩|⟨y,z,rfl,hy⟩
    ·simp only[Vl.nodes]at hm
     have hW:=P2.of (.atom [108]) (E.list [.atom [112],y.cB,z.cB])
     have hQ:=P3.of (.atom [112]) y.cB z.cB
     simp only[Vl.cB,bR]at hvh
     simp only[Cf,bR,Vl.cB,toNat_one,be,↓zq,zs,af,zt,hP.1,hP.2.1,hP.2.2.1,hP.2.2.2,hW.1,hW.2.1,hW.2.2,hQ.1,hQ.2.1,hQ.2.2.1,hQ.2.2.2,aL]
     refine⟨fun h=>absurd rfl h,fun _=>?_⟩
     repeat refine⟨by omega,?_⟩
     refine aj hH ?_
     simp only[↓zq,zs,af,zt]
     refine aj hvh ?_
     simp only[vh,↓zq,zs,af,zt,ba,aT]
     refine⟨by simp[cz],fun h=>by simp at h,fun _=>⟨fun h=>by simp at h,fun _=>⟨fun _=>?_,fun h=>absurd rfl h⟩⟩⟩
     repeat refine⟨by omega,?_⟩
     refine aj (DW m y (by omega) a env t1 ⟨ok2,A.wf,ha,f1⟩ hy s v) ?_
     simp only[↓zq,zs,af,zt,aL]
     repeat refine⟨by omega,?_⟩
     refine aj (vW _ _ _) ?_
     simp only[↓zq,zs,af,zt,aL]
     repeat refine⟨by omega,?_⟩
     exact⟨rfl,rfl⟩
    ·simp only[Vl.nodes]at hm
     have hW:=P2.of (.atom [114]) (E.list [.atom [112],y.cB,z.cB])
     have hQ:=P3.of (.atom [112]) y.cB z.cB
     simp only[Vl.cB,bR]at hvh
     simp only[Cf,bR,Vl.cB,toNat_one,be,↓zq,zs,af,zt,hP.1,hP.2.1,hP.2.2.1,hP.2.2.2,hW.1,hW.2.1,hW.2.2,hQ.1,hQ.2.1,hQ.2.2.1,hQ.2.2.2,aL]
     refine⟨fun h=>absurd rfl h,fun _=>?_⟩
     repeat refine⟨by omega,?_⟩
     refine aj hH ?_
     simp only[↓zq,zs,af,zt]
     refine aj hvh ?_
     simp only[vh,↓zq,zs,af,zt,ba,aT]
     refine⟨by simp[cz],fun h=>by simp at h,fun _=>⟨fun h=>by simp at h,fun _=>⟨fun h=>by simp at h,fun _=>⟨fun _=>?_,fun h=>absurd rfl h⟩⟩⟩⟩
     repeat refine⟨by omega,?_⟩
     refine aj (DW m z (by omega) b env t2 ⟨ok3,A.wf,hbb,f2⟩ hy s v) ?_
     simp only[↓zq,zs,af,zt,aL]
     repeat refine⟨by omega,?_⟩
     refine aj (vW _ _ _) ?_
     simp only[↓zq,zs,af,zt,aL]
     repeat refine⟨by omega,?_⟩
     exact⟨rfl,rfl⟩
   ·obtain⟨t1',he1,h1,f1,hw1⟩:=jq A.wf A.ok hx A.ty A.cl
    cases he1
    obtain⟨ok1,ok2,ok3,_⟩:=A.ok
    have A':Ask b (.mk a.at (.list [x,a,b]) env::env) t1:=⟨ok3,hw1,h1,f1⟩
    have hP:=P3.of x a b
    have hH:aq Tryz.prog 90 [.agg [.v (.string (mk [])),(E.list [x,a,b]).sp]] [] (bC (.v (.string (mk [114,101,99])))):=by rw[<-hx];exact uY x [a,b]
    rcases zR hc with⟨y,rfl,hy⟩|⟨y,z,rfl,hy,hz⟩
    ·simp only[Vl.nodes]at hm
     have hW:=P2.of (.atom [102]) (E.list [.atom [108],y.cB])
     have hQ:=P2.of (.atom [108]) y.cB
     have hvi:=AQ (.l y)
     rw[dz]at hvi
     simp only[Vl.cB,bR]at hvh hvi
     simp only[Cf,bR,Vl.cB,toNat_one,be,↓zq,zs,af,zt,hP.1,hP.2.1,hP.2.2.1,hP.2.2.2,hW.1,hW.2.1,hW.2.2,hQ.1,hQ.2.1,hQ.2.2,aL]
     refine⟨fun h=>absurd rfl h,fun _=>?_⟩
     repeat refine⟨by omega,?_⟩
     refine aj hH ?_
     simp only[↓zq,zs,af,zt]
     refine aj hvh ?_
     simp only[vh,↓zq,zs,af,zt,ba,aT]
     refine⟨by simp[cz],fun h=>by simp at h,fun _=>⟨fun h=>by simp at h,fun _=>⟨fun h=>by simp at h,fun _=>⟨fun h=>by simp at h,fun _=>?_⟩⟩⟩⟩
     repeat refine⟨by omega,?_⟩
     refine aj hvi ?_
     simp only[vh,↓zq,zs,af,zt]
     refine⟨fun _=>?_,fun h=>absurd rfl h⟩
     repeat refine⟨by omega,?_⟩
     refine aj (DW m y (by omega) b _ t1 A' hy s v) ?_
     simp only[↓zq,zs,af,zt,aL]
     repeat refine⟨by omega,?_⟩
     refine aj (yn _ _) ?_
     simp only[↓zq,zs,af,zt,aL]
     repeat refine⟨by omega,?_⟩
     exact⟨rfl,rfl⟩
    ·simp only[Vl.nodes]at hm
     have hW:=P2.of (.atom [102]) (E.list [.atom [114],E.list [.atom [112],y.cB,z.cB]])
     have hQ:=P2.of (.atom [114]) (E.list [.atom [112],y.cB,z.cB])
     have hR:=P3.of (.atom [112]) y.cB z.cB
     have hvi:=AQ (.r (.p y z))
     rw[dz]at hvi
     simp only[Vl.cB,bR]at hvh hvi
     simp only[Cf,bR,Vl.cB,toNat_one,be,↓zq,zs,af,zt,hP.1,hP.2.1,hP.2.2.1,hP.2.2.2,hW.1,hW.2.1,hW.2.2,hQ.1,hQ.2.1,hQ.2.2,hR.1,hR.2.1,hR.2.2.1,hR.2.2.2,aL]
     refine⟨fun h=>absurd rfl h,fun _=>?_⟩
     repeat refine⟨by omega,?_⟩
     refine aj hH ?_
     simp only[↓zq,zs,af,zt]
     refine aj hvh ?_
     simp only[vh,↓zq,zs,af,zt,ba,aT]
     refine⟨by simp[cz],fun h=>by simp at h,fun _=>⟨fun h=>by simp at h,fun _=>⟨fun h=>by simp at h,fun _=>⟨fun h=>by simp at h,fun _=>?_⟩⟩⟩⟩
     repeat refine⟨by omega,?_⟩
     refine aj hvi ?_
     simp only[vh,↓zq,zs,af,zt]
     refine⟨fun h=>by simp at h,fun _=>?_⟩
     repeat refine⟨by omega,?_⟩
     have i1:=DW m z (by omega) (.list [x,a,b]) env (.rc t1) A hz s v
     unfold Oc at i1
     simp only[bR]at i1
     refine aj i1 ?_
     simp only[↓zq,zs,af,zt,aL]
     repeat refine⟨by omega,?_⟩
     refine aj (DW m y (by omega) b _ t1 A' hy a.at (cO (.rc t1) z v)) ?_
     simp only[↓zq,zs,af,zt,aL]
     repeat refine⟨by omega,?_⟩
     refine aj (yn _ _) ?_
     simp only[↓zq,zs,af,zt,aL]
     repeat refine⟨by omega,?_⟩
     exact⟨rfl,rfl⟩
  ·cases e with
   |atom s0=>exact atomCase _ rfl (qG _ _ _)
   |list l=>exact absurd hq (by rw[show (E.list l).at=[] from rfl,kG A.wf];simp)
end Go.Proofs.Trees
namespace Go.Proofs.Trees
open Go Go.VL Go.RowKit
theorem ZT.le{s d:Nm}{a:Ty}{x A B:E}{D:Ty}(z:ZT s d a x A B D):C0 s=some (.list [x,A,B]):=by
 unfold C0;rw[z.ce];simp[FY,z.hx]
theorem wT(o:Option Nm):j4 o=.cG [.v (.string (mk (o.getD []))),.v (.bool o.isSome)]:=by cases o<;>rfl
theorem qU{d:Nm}:∀{p:List Nm} {l:List Vl},iI d p=some l->p=l.map (·.dN)->∀c,c∈l->mM d c.dN 100=some c
 |[],l,h,_,c,hc=>by cases h;cases hc
 |
  q::r,l,h,hp,c,hc=>by
  simp only[iI]at h
  split at h
  ·rename_i w l' h1 h2
   cases h
   simp only[bI,List.cons.injEq]at hp
   rcases aI.1 hc with rfl|hc
   ·rw[<-hp.1];exact h1
   ·exact qU h2 hp.2 c hc
  ·cases h
structure St(s d:Nm)(a:Ty)(l:List Vl)(v:Vl):Prop where
 z:∃x A B D,ZT s d a x A B D
 i:ZI a l v
 each:∀c,c∈l->mM d c.dN 100=some c
 len:l.length<=50
theorem St.up{s d:Nm}{a:Ty}{l l':List Vl}{v w:Vl}(h:St s d a l v)(hu:DM a l v=some (l',w)):St s d a l' w:=by
 obtain⟨h1,h2,c,h3,_⟩:=G1 h.i hu
 have hl:=h.len
 exact⟨h.z,h1,fun c' hc'=>h.each c' (by rw[h3];exact aB _ hc'),by omega⟩
def HG(o:Option Vl):AV->List Ob->Prop:=fun r ob=>ob=[]/\∃c0 pa c2,LK.sl.has pa/\r=.cG [.agg [.v (.string c0),pa,.v (.string c2)],.v (.bool o.isSome)]/\∀w,o=some w->c2=mk w.dN
theorem HG.ne(o:Option Vl):∃r ob,HG o r ob:=⟨_,[],rfl,mk [],.sl [],mk ((o.map (·.dN)).getD []),(cb _).mpr trivial,rfl,fun w h=>by rw[h];rfl⟩
theorem Bz(s:Nm)(p:List Nm)(f:Nm):Gt s p f=(jh s).bind fun d=>(ua s).bind fun _=>(mM s f 100).bind fun v=>if p.length<=50 then(iI d p).map fun l=>(l,v)else none:=by
 unfold Gt uO
 cases ua s with
 |none=>cases jh s<;>rfl
 |some a=>cases mM s f 100<;>cases jh s<;>rfl
end Go.Proofs.Trees
namespace Go.Proofs.Trees
open Go Go.VL Go.RowKit
inductive Rl(x:Nm):Nat->Tg->Tg->Prop
 |nm (i):Rl x i (.nm x) (.bd i)
 |ku (i s) (h:s≠x):Rl x i (.nm s) (.nm s)
 |bd (i j) (h:j≠i):Rl x i (.bd j) (.bd j)
theorem Rl.up{x:Nm}{i:Nat}{a b:Tg}(h:Rl x i a b):Rl x (i+1) a.up b.up:=by
 cases h with
 |nm=>exact .nm _
 |ku s h=>exact .ku _ _ h
 |bd j h=>exact .bd _ _ (by omega)
theorem Rl.at{x:Nm}{i:Nat}{a b:Tg}(h:Rl x i a b):∀t:Ty,bh x t=false->eF (dE (.name x) t i) a=eF t b
 |
  .bH k,_=>by
  simp only[dE]
  cases h with
  |
   nm =>
   by_cases e:k=i
   ·simp[e,eF]
   ·simp[e,eF]
  |
   ku s h =>
   by_cases e:k=i
   ·simp[e,eF,Ne.symm h]
   ·simp[e,eF]
  |
   bd j h =>
   by_cases e:k=i
   ·simp[e,eF,Ne.symm h]
   ·simp[e,eF]
 |
  .name s,hn=>by
  have hs:s≠x:=by simpa[bh]using hn
  cases h with
  |nm=>simp[dE,eF,hs]
  |ku=>rfl
  |bd=>rfl
 | .plus _ _,_=>by cases h<;>rfl
 | .times _ _,_=>by cases h<;>rfl
 | .rc _,_=>by cases h<;>rfl
 | .zero,_=>by cases h<;>rfl
 | .one,_=>by cases h<;>rfl
theorem gT(x:Nm):∀(n:Nat) (t:Ty) (i:Nat) (a b:Tg) (v:Vl),bh x t=false->Rl x i a b->dM n (dE (.name x) t i) a v=dM n t b v
 |0,_,_,_,_,_,_,_=>rfl
 |
  n+1,t,i,a,b,v,hn,h=>by
  rw[dM,dM,h.at t hn]
  by_cases ht:eF t b=true
  ·rw[if_pos ht,if_pos ht]
  ·rw[if_neg ht,if_neg ht]
   cases t with
   |
    plus p q =>
    simp only[bh,bU]at hn
    cases v<;>simp only[dE,jw,gT x n p i a b _ hn.1 h,gT x n q i a b _ hn.2 h]
   |
    times p q =>
    simp only[bh,bU]at hn
    cases v<;>simp only[dE,jw,gT x n p i a b _ hn.1 h,gT x n q i a b _ hn.2 h]
   |
    rc p =>
    have h0:Rl x (i+1) (.bd 0) (.bd 0):=.bd _ _ (by omega)
    cases v<;>simp only[dE,jw]
    rename_i w
    rw[gT x n p (i+1) a.up b.up w hn h.up,gT x n p (i+1) (.bd 0) (.bd 0) w hn h0]
    congr 1
    apply iM
    intro k _
    have:=gT x n (.rc p) i a b k.2 hn h
    simp only[dE]at this
    rw[this]
   |
    bH k =>
    simp only[dE]
    by_cases e:k=i
    ·rw[if_pos e];cases v<;>rfl
    ·rw[if_neg e];cases v<;>rfl
   |name s=>rfl
   |zero=>rfl
   |one=>rfl
theorem nw(x:Nm){t:Ty}{i:Nat}{a b:Tg}(v:Vl)(hn:bh x t=false)(h:Rl x i a b):bP (dE (.name x) t i) a v=bP t b v:=gT x _ t i a b v hn h
theorem mo(n:Nat):∀(m:Nat) (v:Vl),v.nodes<=m->∀(t:Ty) (s:Nm) (d:Ty) (σ:Nm->Option Ty),Dv t s d->BR σ->jv t 0->vT n v (eJ σ t)=true->∀h,h∈bP t (.nm s) v ->
 vT n h.1 (eJ σ d)=true/\vT n h.2 (eJ σ (.name s))=true/\cO t h.1 h.2=v
 |0,v,hm=>by have:=dj v;omega
 |
  m+1,v,hm=>by
  intro t s d σ hd hσ hl hv h hh
  cases hd with
  |zero=>rw[dS rfl (by cases v<;>rfl)]at hh;cases hh
  |one=>rw[dS rfl (by cases v<;>rfl)]at hh;cases hh
  |bH=>rw[dS rfl (by cases v<;>rfl)]at hh;cases hh
  |qg hne=>rw[dS (by simp[eF,hne]) (by cases v<;>rfl)]at hh;cases hh
  |
   hit =>
   rw[mD v (by simp[eF])]at hh
   simp only[aS]at hh
   subst hh
   exact⟨rfl,hv,kI _ _ _⟩
  |
   @plus a b _ a' b' h1 h2 _ =>
   rcases i6 hv with⟨w,rfl,hw⟩|⟨w,rfl,hw⟩
   ·simp only[Vl.nodes]at hm
    rw[mP]at hh
    obtain⟨k,hk,rfl⟩:=dD hh
    obtain⟨q1,q2,q3⟩:=mo n m w (by omega) _ s _ σ h1 hσ hl.1 hw k hk
    exact⟨q1,q2,congrArg Vl.l q3⟩
   ·simp only[Vl.nodes]at hm
    rw[mV]at hh
    obtain⟨k,hk,rfl⟩:=dD hh
    obtain⟨q1,q2,q3⟩:=mo n m w (by omega) _ s _ σ h2 hσ hl.2 hw k hk
    exact⟨q1,q2,congrArg Vl.r q3⟩
  |
   @times a b _ a' b' h1 h2 _ =>
   obtain⟨x,y,rfl,hx,hy⟩:=gv hv
   simp only[Vl.nodes]at hm
   rw[mU]at hh
   rcases aK.1 hh with hh|hh
   ·obtain⟨k,hk,rfl⟩:=dD hh
    obtain⟨q1,q2,q3⟩:=mo n m x (by omega) _ s _ σ h1 hσ hl.1 hx k hk
    refine⟨?_,q2,congrArg (fun q=>Vl.p q y) q3⟩
    show (vT n k.1 (eJ σ a')&&vT n y (eJ σ b))=true
    rw[q1,hy];rfl
   ·obtain⟨k,hk,rfl⟩:=dD hh
    obtain⟨q1,q2,q3⟩:=mo n m y (by omega) _ s _ σ h2 hσ hl.2 hy k hk
    refine⟨?_,q2,congrArg (Vl.p x) q3⟩
    show (vT n x (eJ σ a)&&vT n k.1 (eJ σ b'))=true
    rw[q1,hx];rfl
  |
   @rc a _ c0 d0 x hx hs h1 h2 hsz =>
   have lo:jv (dE (.name x) a 0) 0:=gJ x a hl
   obtain⟨X,e1,e2⟩:=oj (x:=x) hσ hl (h1.lc lo) (h2.lc lo)
   obtain⟨w,rfl,hw⟩:=Az hv
   simp only[Vl.nodes]at hm
   have hcl:=lB hσ x (jN hσ (.rc a) hl)
   have hop:eJ (iR σ x (eJ σ (.rc a))) (dE (.name x) a 0)=dE (eJ σ (.rc a)) (eJ σ a) 0:=jF hσ x _ a 0 hx
   have hns:eJ (iR σ x (eJ σ (.rc a))) (.name s)=eJ σ (.name s):=by simp only[eJ,iR,if_neg (Ne.symm hs)]
   have hnx:eJ (iR σ x (eJ σ (.rc a))) (.name x)=eJ σ (.rc a):=by simp[eJ,iR]
   have hw':vT n w (eJ (iR σ x (eJ σ (.rc a))) (dE (.name x) a 0))=true:=by rw[hop];exact hw
   have ty:∀y,vT n y (dE (.rc X) X 0)=true->vT n (.f y) (eJ σ (pw a x c0 d0))=true:=fun y hy=>by rw[e1];exact hy
   rw[mO]at hh
   rcases aK.1 hh with hh|hh
   ·obtain⟨k,hk,rfl⟩:=dD hh
    have hk':k∈bP (dE (.name x) a 0) (.nm s) w:=by rw[nw x w hx (.ku 0 s (Ne.symm hs))];exact hk
    obtain⟨q1,q2,q3⟩:=mo n m w (by omega) _ s _ _ h1 hcl lo hw' k hk'
    rw[dH x k.1.nodes k.1 a 0 k.2 (ap _)]at q3
    refine⟨ty _ ?_,by rw[<-hns];exact q2,congrArg Vl.f q3⟩
    rw[e2];exact q1
   ·obtain⟨k,hk,hh⟩:=List.mem_flatMap.1 hh
    obtain⟨k2,hk2,rfl⟩:=dD hh
    have hk':k∈bP (dE (.name x) a 0) (.nm x) w:=by rw[nw x w hx (.nm 0)];exact hk
    obtain⟨q1,q2,q3⟩:=mo n m w (by omega) _ x _ _ h2 hcl lo hw' k hk'
    rw[dH x k.1.nodes k.1 a 0 k.2 (ap _)]at q3
    rw[hnx]at q2
    have hsz2:=(jt hk).1
    obtain⟨r1,r2,r3⟩:=mo n m k.2 (by omega) (.rc a) s _ σ (.rc x hx hs h1 h2 hsz) hσ hl q2 k2 hk2
    refine⟨ty _ ?_,r2,?_⟩
    ·rw[e2]
     show (vT n k.1 _&&vT n k2.1 _)=true
     rw[q1,r1];rfl
    ·show Vl.f (cO a k.1 (cO (.rc a) k2.1 k2.2))=.f w
     rw[r3,q3]
theorem Da{n:Nat}{a D:Ty}{x:Nm}(hx:bh x a=false)(hl:jv (.rc a) 0)(h:zC a x=some D){v:Vl}(hv:vT n v (.rc a)=true){k:Hl}(hk:k∈kids a v) :
 vT n k.1 D=true/\vT n k.2 (.rc a)=true/\.f (cO a k.1 k.2)=v:=by
 simp only[zC,a7,cJ,fU]at h
 obtain⟨d,hd,_,rfl⟩:=h
 have lo:jv (dE (.name x) a 0) 0:=gJ x a hl
 have hcl:=lB mC x hl
 have e1:sub x (.rc a) d=eJ (iR yK x (.rc a)) d:=by
  have:=ij yK x (.rc a) d
  rw[gm,gm]at this;exact this
 obtain⟨w,rfl,hw⟩:=Az hv
 have hk':k∈bP (dE (.name x) a 0) (.nm x) w:=by rw[nw x w hx (.nm 0)];exact hk
 have hop:eJ (iR yK x (.rc a)) (dE (.name x) a 0)=dE (.rc a) a 0:=by rw[jF mC x _ a 0 hx,gm]
 obtain⟨q1,q2,q3⟩:=mo n w.nodes w (ap _) _ x _ _ hd hcl lo (by rw[hop];exact hw) k hk'
 rw[dH x k.1.nodes k.1 a 0 k.2 (ap _)]at q3
 refine⟨by rw[e1];exact q1,?_,congrArg Vl.f q3⟩
 simpa[eJ,iR]using q2
theorem hJ:∀{t:Ty},bQ t=true->∃y,bh y t=true/\da y=true
 | .name s,h=>⟨s,by simp[bh],h⟩
 |
  .plus a b,h=>by
  simp only[bQ,bn]at h
  rcases h with h|h
  ·obtain⟨y,h1,h2⟩:=hJ h;exact⟨y,by simp[bh,h1],h2⟩
  ·obtain⟨y,h1,h2⟩:=hJ h;exact⟨y,by simp[bh,h1],h2⟩
 |
  .times a b,h=>by
  simp only[bQ,bn]at h
  rcases h with h|h
  ·obtain⟨y,h1,h2⟩:=hJ h;exact⟨y,by simp[bh,h1],h2⟩
  ·obtain⟨y,h1,h2⟩:=hJ h;exact⟨y,by simp[bh,h1],h2⟩
 |
  .rc a,h=>by
  obtain⟨y,h1,h2⟩:=hJ (t:=a) h;exact⟨y,by simp[bh,h1],h2⟩
theorem gV:∀{t:Ty} {y:Nm},bh y t=true->da y=true->bQ t=true
 |
  .name s,y,h,hl=>by
  have:s=y:=by simpa[bh]using h
  rw[this];exact hl
 |
  .plus a b,y,h,hl=>by
  simp only[bh,bn]at h
  simp only[bQ,bn]
  exact h.imp (gV · hl) (gV · hl)
 |
  .times a b,y,h,hl=>by
  simp only[bh,bn]at h
  simp only[bQ,bn]
  exact h.imp (gV · hl) (gV · hl)
 | .rc a,y,h,hl=>gV (t:=a) h hl
 | .zero,y,h,_=>by simp[bh]at h
 | .one,y,h,_=>by simp[bh]at h
 | .bH k,y,h,_=>by simp[bh]at h
theorem ZT.P5{s d:Nm}{a:Ty}{x A B:E}{D:Ty}(z:ZT s d a x A B D):∃e,ic d=some e/\Ask e [] D:=by
 have hcl:bQ D=false:=by
  cases q:bQ D with
  |false=>rfl
  |
   true =>
   obtain⟨y,h1,h2⟩:=hJ q
   have:=gV (t:=.rc a) (sS z.lp y h1) h2
   rw[z.ask.cl]at this;cases this
 have hc:qz d=some D:=by unfold qz;rw[z.bk];simp only;rw[if_pos (by rw[sL,hcl];rfl)]
 cases q:ic d with
 |none=>rw[jL q]at hc;cases hc
 |
  some e =>
  obtain⟨t,h1,hA,_⟩:=fX q
  rw[hc]at h1;cases h1
  exact⟨e,rfl,hA⟩
theorem ZT.PJ{s d:Nm}{a:Ty}{x A B:E}{D:Ty}(z:ZT s d a x A B D){w:Vl}(hb:w.iB 100)(hv:vT 100 w D=true):mM d w.dN 100=if w.nodes<=200 then some w else none:=by
 obtain⟨e,he,hA⟩:=z.P5
 unfold mM
 rw[he]
 by_cases hn:w.nodes<=200
 ·rw[nO hb hn,if_pos hn]
  simp only
  rw[if_pos ⟨by omega,by rw[show (100:Int).toNat=100 from rfl,kp hA];exact hv⟩]
 ·rw[if_neg hn]
  cases q:pT w.dN with
  |none=>rfl
  |
   some w' =>
   exfalso
   obtain⟨_,h2,h3⟩:=gH q
   have:=tS hb h2 (lC q)
   rw[this]at hn;exact hn h3
theorem ZT.PI{s d:Nm}{a:Ty}{x A B:E}{D:Ty}(z:ZT s d a x A B D){v:Vl}(hv:Fo a v){k:Hl}(hk:k∈kids a v):vT 100 k.1 D=true/\Fo a k.2/\.f (cO a k.1 k.2)=v:=by
 obtain⟨e2,he2,hw2,hte2,_,_⟩:=lN z.y
 have hlc:jv (.rc a) 0:=hte2 ▸ hw2.pu.1
 obtain⟨q1,q2,q3⟩:=Da (wB z.y) hlc z.lp hv.ty hk
 have:=C6 hk
 have:=hv.nd
 exact⟨q1,⟨q2,(qV hv.iB hk).2,by omega⟩,q3⟩
def D0(a:Ty)(l:List Vl)(v:Vl)(k:Int):Option (List Vl×Vl) :=
 if l.length=50 then none else if 0<=k/\k.toNat<(kids a v).length then
  (if((kids a v).getD k.toNat (.u,.u)).1.nodes<=200 then some (l++[((kids a v).getD k.toNat (.u,.u)).1],((kids a v).getD k.toNat (.u,.u)).2)else none)else none
theorem ve{a:Ty}{l:List Vl}{c e v:Vl}(h:.f (cO a c e)=v)(hn:v.nodes<=200):DM a (l++[c]) e=some (l,v)/\zn a (l++[c]) e=zn a l v:=by
 have hu:DM a (l++[c]) e=some (l,v):=by
  unfold DM
  rw[List.getLast?_concat]
  simp only
  rw[h,if_pos hn,List.dropLast_concat]
 refine⟨hu,?_⟩
 unfold zn
 rw[an,List.length_singleton,rJ,hu]
 rfl
theorem yO{s d:Nm}{l:List Vl}{v:Vl}(hs:St s d (zA s) l v)(hd:jh s=some d)(hv:uE s (l.map (·.dN)) v.dN=some (l,v)){k:Hl}(hk:k∈kids (zA s) v) :
 uE s (l.map (·.dN)++[k.1.dN]) k.2.dN=if l.length=50 then none else if k.1.nodes<=200 then some (l++[k.1],k.2)else none:=by
 obtain⟨x,A,B,D,z⟩:=hs.z
 obtain⟨t1,t2,t3⟩:=z.PI hs.i.BP hk
 have hb:=(qV hs.i.BP.iB hk).1
 have hz:=(po hv).1
 have hclo:=(po hv).2
 have hlen:=hs.len
 have hlp:iI d (l.map (·.dN))=some l:=by
  rw[Bz,hd]at hz
  simp only[aZ,z.l]at hz
  obtain⟨_,h1,h2⟩:=a7.1 hz
  split at h2
  ·obtain⟨l',h3,h4⟩:=Option.map_eq_some_iff.1 h2
   cases h4;exact h3
  ·cases h2
 have e1:mM s k.2.dN 100=some k.2:=by rw[z.dN t2.iB t2.ty,if_pos t2.nd]
 unfold uE
 rw[Bz,hd]
 simp only[aZ,z.l,e1,sJ,hlp,iI,z.PJ hb t1,an,cR,List.length_singleton]
 by_cases h50:l.length=50
 ·rw[if_neg (by omega),if_pos h50];rfl
 ·rw[if_pos (by omega),if_neg h50]
  by_cases hn:k.1.nodes<=200
  ·rw[if_pos hn,if_pos hn]
   simp only[cv,aZ,(ve (l:=l) t3 hs.i.BP.nd).2]
   rw[if_pos hclo]
  ·rw[if_neg hn,if_neg hn];rfl
end Go.Proofs.Trees
namespace Go.Proofs.Trees
open Go Go.VL Go.RowKit
def Mh(s:Nm)(o:Option (List Vl×Vl)):AV->List Ob->Prop:=fun r obs=>obs=[]/\∃pa,dT pa (tZ s o).2.1/\r=.cG [.agg [.v (.string (mk (tZ s o).1)),pa,.v (.string (mk (tZ s o).2.2))],.v (.bool o.isSome)]
theorem Mh.ne(s:Nm)(o:Option (List Vl×Vl)):∃r ob,Mh s o r ob:=⟨_,[],rfl,_,dT.of _,rfl⟩
theorem Mh.none(s:Nm):Mh s none (.cG [.agg [.v (.string (mk [])),.v (.slice none 0 0),.v (.string (mk []))],.v (.bool false)]) []:=⟨rfl,_,dT.nil,rfl⟩
def gF(l:List Hl):List (List AV):=l.map fun h=>[.v (.string (mk h.1.dN)),.v (.string (mk h.2.dN))]
theorem iJ(l:List Hl):(gF l).length=l.length:=by simp[gF]
theorem JF(l:List Hl)(hl:l.length<=1000)(h1:∀h,h∈l->h.1.dN.length<=900000)(h2:∀h,h∈l->h.2.dN.length<=900000):∀(k i:Nat) (out:List Hl),i+k=l.length->out.length<=i ->
 Fu [.sl (lZ l),.v (.int .i64 (i:Int))] [.vec 2 (gF out)] (iG 1 [] [.vec 2 (gF (out++l.drop i))])
 |
  0,i,out,hi,ho=>by
  refine K6 _ _ _ ?_
  have:i=l.length:=by omega
  subst this
  simp only[GC,↓zq,zs,af,fw,List.drop_length]
  exact⟨fun h=>by omega,fun _=>by simp[iG]⟩
 |
  k+1,i,out,hi,ho=>by
  have hlt:i<l.length:=by omega
  have hm:=bN hlt
  have t1:=Cv (l[i]).1.cB (mI _) (h1 _ hm)
  have t2:=Cv (l[i]).2.cB (mI _) (h2 _ hm)
  rw[dz]at t1 t2
  refine K6 _ _ _ ?_
  simp only[GC,↓zq,zs,af,zt,fw,gz hlt,bB,aV]
  refine⟨fun _=>?_,fun h=>by omega⟩
  repeat refine⟨by omega,?_⟩
  refine aj t1 ?_
  simp only[↓zq,zs,af,zt]
  repeat refine⟨by omega,?_⟩
  refine aj t2 ?_
  simp only[↓zq,zs,af,zt,iJ]
  refine⟨⟨fun c hc=>by simp at hc;rw[hc];rfl,by omega⟩,?_⟩
  rw[bA i (by omega),aY hlt]
  have:=JF l hl h1 h2 k (i+1) (out++[l[i]]) (by omega) (by simp;omega)
  rw[bb]at this
  simpa[gF]using this
theorem O5(l:List Hl)(hl:l.length<=1000)(h1:∀h,h∈l->h.1.dN.length<=900000)(h2:∀h,h∈l->h.2.dN.length<=900000):aq Tryz.prog 109 [.sl (lZ l)] [] (bC (.sl (gF l))):=by
 refine NK _ ((cb _).mpr trivial) ?_
 unfold L5
 refine cw (JF l hl h1 h2 l.length 0 [] (by omega) (by simp)) ?_
 simp only[↓zq,zs,af]
 exact⟨rfl,rfl⟩
end Go.Proofs.Trees
namespace Go.Proofs.Trees
open Go Go.VL Go.RowKit
theorem vw{a:Ty}{l l':List Vl}{v w:Vl}{k:Int}(h:D0 a l v k=some (l',w)):∃q,q∈kids a v/\l'=l++[q.1]/\w=q.2/\q.1.nodes<=200/\l.length≠50/\0<=k/\(kids a v)[k.toNat]?=some q:=by
 unfold D0 at h
 split at h
 ·cases h
 ·rename_i h0
  split at h
  ·rename_i h1
   split at h
   ·rename_i h2
    cases h
    have e:(kids a v).getD k.toNat (.u,.u)=(kids a v)[k.toNat]'h1.2:=by simp[aa,h1.2]
    rw[e]at h2 |-
    exact⟨_,bN _,rfl,rfl,h2,h0,h1.1,by simp[h1.2]⟩
   ·cases h
  ·cases h
theorem St.dn{s d:Nm}{a:Ty}{l l':List Vl}{v w:Vl}{k:Int}(h:St s d a l v)(hu:D0 a l v k=some (l',w)):St s d a l' w/\DM a l' w=some (l,v)/\l'.length=l.length+1:=by
 obtain⟨q,hq,rfl,rfl,hn,h50,_,_⟩:=vw hu
 obtain⟨x,A,B,D,z⟩:=h.z
 obtain⟨t1,t2,t3⟩:=z.PI h.i.BP hq
 have hv:mM d q.1.dN 100=some q.1:=by rw[z.PJ (qV h.i.BP.iB hq).1 t1,if_pos hn]
 have hlen:=h.len
 refine⟨⟨⟨x,A,B,D,z⟩,⟨fun c hc=>?_,t2⟩,fun c hc=>?_,by simp;omega⟩,(ve t3 h.i.BP.nd).1,by simp⟩
 ·rcases aK.1 hc with hc|hc
  ·exact h.i.CY c hc
  ·simp only[aS]at hc;subst hc;exact z.CY hv
 ·rcases aK.1 hc with hc|hc
  ·exact h.each c hc
  ·simp only[aS]at hc;subst hc;exact hv
theorem ru{l:List Hl}{i:Nat}(h:i<l.length):(gF l).getD i []=[.v (.string (mk (l[i]).1.dN)),.v (.string (mk (l[i]).2.dN))]:=by simp[gF,aa,h]
theorem ER{s:Nm}{p:List Nm}{f:Nm}{r:List Vl×Vl}(h:Gt s p f=some r):∃d,jh s=some d/\St s d (zA s) r.1 r.2/\p=r.1.map (·.dN)/\f=r.2.dN:=by
 obtain⟨d,a,x,A,B,D,z,hz,hp,hf,hl,hza,_,hr⟩:=zU (l:=r.1) (v:=r.2) h
 rw[hza]
 exact⟨d,z.dl,⟨⟨x,A,B,D,z⟩,hz,qU hr hp,by rw[hp]at hl;simpa using hl⟩,hp,hf⟩
theorem J2{s d:Nm}{l:List Vl}{v:Vl}(hs:St s d (zA s) l v)(hd:jh s=some d)(hv:uE s (l.map (·.dN)) v.dN=some (l,v)){k:Int}(h0:0<=k)(hk:k.toNat<(kids (zA s) v).length) :
 uE s (l.map (·.dN)++[((kids (zA s) v)[k.toNat]).1.dN]) ((kids (zA s) v)[k.toNat]).2.dN=D0 (zA s) l v k:=by
 rw[yO hs hd hv (bN hk)]
 unfold D0
 by_cases h5:l.length=50
 ·rw[if_pos h5,if_pos h5]
 ·rw[if_neg h5,if_neg h5,if_pos (show 0<=k/\k.toNat<(kids (zA s) v).length from ⟨h0,hk⟩)]
  have hg2:(kids (zA s) v).getD k.toNat (.u,.u)=(kids (zA s) v)[k.toNat]:=by simp[aa,hk]
  rw[hg2]
end Go.Proofs.Trees
namespace Go.Proofs.Trees
open Go Go.VL Go.RowKit
def PF(n:Nat):AV->List Ob->Prop:=fun r o=>∃x:Int,r=.v (.int .i64 x)/\(0<=x->n<=1048576)
theorem PF.ne(n:Nat):∃r o,PF n r o:=⟨_,[],-1,rfl,fun h=>by omega⟩
end Go.Proofs.Trees
namespace Go.Proofs.Trees
open Go Go.VL Go.RowKit
def pU(a:AV)(l:List Nat):Prop:=LK.sl.has a/\a.aR=rK l
theorem pU.of(l:List Nat):pU (.sl (rK l)) l:=⟨(cb _).mpr trivial,rfl⟩
theorem pU.nil:pU (.v (.slice none 0 0)) []:=⟨(bq).mpr trivial,rfl⟩
theorem pU.len{a:AV}{l:List Nat}(h:pU a l):a.aR.length=l.length:=by rw[h.2,wm]
theorem pU.idx{a:AV}{l:List Nat}(h:pU a l){i:Nat}(hi:i<l.length):a.aR.getD i []=[.v (.int .i64 (l.getD i 0:Nat))]:=by
 rw[h.2];simp[rK,aa,hi]
end Go.Proofs.Trees
namespace Go.Proofs.Trees
open Go Go.VL Go.RowKit
def uA(l:List Int):List (List AV):=l.map fun k=>[.v (.int .i64 k)]
def pV(a:AV)(l:List Int):Prop:=LK.sl.has a/\a.aR=uA l
theorem yq(l:List Int):(uA l).length=l.length:=by simp[uA]
theorem pV.of(l:List Int):pV (.sl (uA l)) l:=⟨(cb _).mpr trivial,rfl⟩
theorem pV.nil:pV (.v (.slice none 0 0)) []:=⟨(bq).mpr trivial,rfl⟩
theorem pV.len{a:AV}{l:List Int}(h:pV a l):a.aR.length=l.length:=by rw[h.2,yq]
theorem pV.idx{a:AV}{l:List Int}(h:pV a l){i:Nat}(hi:i<l.length):a.aR.getD i []=[.v (.int .i64 (l.getD i 0))]:=by
 rw[h.2];simp[uA,aa,hi]
end Go.Proofs.Trees
namespace Go.Proofs.Trees
open Go Go.VL Go.RowKit
abbrev ZO:=Option (List Vl×Vl)
def Ge(s:Nm)(o:ZO):Prop:=∀r,o=some r->∃d,St s d (zA s) r.1 r.2
def P4(a:Ty)(pl:List Int)(o:ZO):ZO:=pl.foldl (fun o k=>o.bind fun r=>D0 a r.1 r.2 k) o
theorem Ge.dn{s:Nm}{o:ZO}(h:Ge s o)(k:Int):Ge s (o.bind fun r=>D0 (zA s) r.1 r.2 k):=fun r hr=>by
 obtain⟨q,h1,h2⟩:=a7.1 hr
 obtain⟨d,hs⟩:=h q h1
 exact⟨d,(hs.dn (l':=r.1) (w:=r.2) h2).1⟩
theorem Ge.go{s:Nm}:∀{pl:List Int} {o:ZO},Ge s o->Ge s (P4 (zA s) pl o)
 |[],o,h=>h
 |k::pl,o,h=>Ge.go (pl:=pl) (h.dn k)
def Ns(s:Nm)(o:ZO):Prop:=∀r,o=some r->uE s (r.1.map (·.dN)) r.2.dN=some r
theorem Ns.dn{s:Nm}{o:ZO}(h:Ns s o)(k:Int):Ns s (o.bind fun r=>D0 (zA s) r.1 r.2 k):=fun r hr=>by
 obtain⟨q,h1,h2⟩:=a7.1 hr
 have hq:=h q h1
 obtain⟨d,hd,hs,_⟩:=ER (po (l:=q.1) (v:=q.2) hq).1
 obtain⟨e,_,h3,h4,_,_,h0,h5⟩:=vw (l':=r.1) (w:=r.2) h2
 have hk:k.toNat<(kids (zA s) q.2).length:=by
  rcases Nat.lt_or_ge k.toNat (kids (zA s) q.2).length with h|h
  ·exact h
  ·rw[List.getElem?_eq_none h]at h5;cases h5
 have he:(kids (zA s) q.2)[k.toNat]=e:=by rw[bm hk]at h5;cases h5;rfl
 have:=J2 hs hd hq h0 hk
 rw[h2,he]at this
 obtain⟨l1,v1⟩:=r
 simp only at h3 h4 |-
 subst h3 h4
 rw[List.map_append]
 exact this
end Go.Proofs.Trees
namespace Go.Proofs.Trees
open Go Go.VL Go.RowKit
def AO(x:Nm)(i:Nat)(tg tg':Tg):Prop:=(tg=.bd i/\tg'=.nm x)\/(∃s,s≠x/\tg=.nm s/\tg'=.nm s)\/∃j,j<i/\tg=.bd j/\tg'=.bd j
theorem AO.up{x:Nm}{i:Nat}{tg tg':Tg}(h:AO x i tg tg'):AO x (i+1) tg.up tg'.up:=by
 rcases h with⟨rfl,rfl⟩|⟨s,h,rfl,rfl⟩|⟨j,h,rfl,rfl⟩
 ·exact .inl ⟨rfl,rfl⟩
 ·exact .inr (.inl ⟨s,h,rfl,rfl⟩)
 ·exact .inr (.inr ⟨j+1,by omega,rfl,rfl⟩)
theorem A9{x:Nm}{i:Nat}{tg tg':Tg}(h:AO x i tg tg')(t:Ty)(hx:bh x t=false):eF (dE (.name x) t i) tg'=eF t tg:=by
 cases t with
 |
  bH k =>
  simp only[dE]
  rcases h with⟨rfl,rfl⟩|⟨s,h,rfl,rfl⟩|⟨j,h,rfl,rfl⟩
  ·split
   ·rename_i e;simp[eF,e]
   ·rename_i e;simp[eF,e]
  ·split
   ·simp[eF,Ne.symm h]
   ·simp[eF]
  ·split
   ·rename_i e;simp only[eF];exact(decide_eq_false (by omega)).symm
   ·simp[eF]
 |
  name n =>
  have hn:¬n=x:=by simpa[bh]using hx
  rcases h with⟨rfl,rfl⟩|⟨s,h,rfl,rfl⟩|⟨j,h,rfl,rfl⟩<;>simp[dE,eF,hn]
 |_=>rcases h with⟨rfl,rfl⟩|⟨s,h,rfl,rfl⟩|⟨j,h,rfl,rfl⟩<;>rfl
theorem fI(x:Nm):∀(n:Nat) (t:Ty) (i:Nat) (tg tg':Tg) (v:Vl),bh x t=false->AO x i tg tg'->dM n (dE (.name x) t i) tg' v=dM n t tg v
 |0,_,_,_,_,_,_,_=>rfl
 |
  n+1,t,i,tg,tg',v,hx,hr=>by
  rw[dM,dM,A9 hr t hx]
  split
  ·rfl
  ·cases t with
   |
    plus a b =>
    simp only[bh,bU]at hx
    cases v with
    |l w=>exact congrArg (iU .l) (fI x n a i tg tg' w hx.1 hr)
    |r w=>exact congrArg (iU .r) (fI x n b i tg tg' w hx.2 hr)
    |_=>rfl
   |
    times a b =>
    simp only[bh,bU]at hx
    cases v with
    |
     p y z =>
     simp only[dE,jw]
     rw[fI x n a i tg tg' y hx.1 hr,fI x n b i tg tg' z hx.2 hr]
    |_=>rfl
   |
    rc a =>
    cases v with
    |
     f w =>
     simp only[dE,jw]
     rw[fI x n a (i+1) tg.up tg'.up w hx hr.up,fI x n a (i+1) (.bd 0) (.bd 0) w hx (.inr (.inr ⟨0,by omega,rfl,rfl⟩))]
     congr 1
     refine iM fun h hh=>?_
     have:=fI x n (.rc a) i tg tg' h.2 hx hr
     simp only[dE]at this
     rw[this]
    |_=>rfl
   |
    bH k =>
    simp only[dE]
    split<;>(cases v<;>rfl)
   |_=>rfl
theorem px{g:Vl->Vl}{l:List Hl}{c v:Vl}(h:(c,v)∈l):(g c,v)∈iU g l:=cj.2 ⟨_,h,rfl⟩
theorem oM(n:Nat):∀(m:Nat) (c:Vl),c.nodes<=m->∀(t:Ty) (s:Nm) (d:Ty) (σ:Nm->Option Ty),Dv t s d->BR σ->jv t 0->vT n c (eJ σ d)=true->∀(v:Vl) (k:Nat),(cO t c v).nodes<=k->(c,v)∈dM k t (.nm s) (cO t c v)
 |0,c,h=>by have:=dj c;omega
 |
  m+1,c,hm=>by
  intro t s d σ hd hσ hl hv v k hk
  have no:∀c,vT n c .zero=false:=fun c=>by cases c<;>rfl
  obtain⟨k,rfl⟩:∃j,k=j+1:=⟨k-1,by have:=dj (cO t c v);omega⟩
  cases hd with
  |zero=>rw[show eJ σ .zero=.zero from rfl,no]at hv;cases hv
  |one=>rw[show eJ σ .zero=.zero from rfl,no]at hv;cases hv
  |bH=>rw[show eJ σ .zero=.zero from rfl,no]at hv;cases hv
  |qg=>rw[show eJ σ .zero=.zero from rfl,no]at hv;cases hv
  |
   hit =>
   have hc:c=.u:=by
    have hv:vT n c .one=true:=hv
    cases c<;>first|rfl|simp[vT]at hv
   rw[kI,dM,if_pos (by simp[eF]),hc];exact ai
  |
   plus h1 h2 _ =>
   rcases i6 hv with⟨w,rfl,hw⟩|⟨w,rfl,hw⟩
   ·simp only[Vl.nodes]at hm
    rename_i a b _ _
    simp only[cO,Vl.nodes]at hk
    have:=oM n m w (by omega) _ s _ σ h1 hσ hl.1 hw v k (by omega)
    exact px (g:=.l) this
   ·simp only[Vl.nodes]at hm
    simp only[cO,Vl.nodes]at hk
    have:=oM n m w (by omega) _ s _ σ h2 hσ hl.2 hw v k (by omega)
    exact px (g:=.r) this
  |
   times h1 h2 _ =>
   rcases i6 hv with⟨w,rfl,hw⟩|⟨w,rfl,hw⟩
   ·obtain⟨x,y,rfl,hx,hy⟩:=gv hw
    simp only[Vl.nodes]at hm
    simp only[cO,Vl.nodes]at hk
    have:=oM n m x (by omega) _ s _ σ h1 hσ hl.1 hx v k (by omega)
    exact aB _ (px (g:=fun c=>.l (.p c y)) this)
   ·obtain⟨x,y,rfl,hx,hy⟩:=gv hw
    simp only[Vl.nodes]at hm
    simp only[cO,Vl.nodes]at hk
    have:=oM n m y (by omega) _ s _ σ h2 hσ hl.2 hy v k (by omega)
    exact az _ (px (g:=fun c=>.r (.p x c)) this)
  |
   @rc a _ c0 d0 x hx hs h1 h2 hsz =>
   have lo:jv (dE (.name x) a 0) 0:=gJ x a hl
   obtain⟨X,e1,e2⟩:=oj (x:=x) hσ hl (h1.lc lo) (h2.lc lo)
   have hv':=hv
   rw[e1]at hv'
   obtain⟨w,rfl,hw⟩:=Az hv'
   rw[e2]at hw
   have hcl:=lB hσ x (jN hσ (.rc a) hl)
   rcases i6 hw with⟨y,rfl,hy⟩|⟨y,rfl,hy⟩
   ·simp only[Vl.nodes]at hm
    simp only[cO,Vl.nodes]at hk
    have:=oM n m y (by omega) _ s _ _ h1 hcl lo hy v k (by rw[dH x y.nodes y a 0 v (ap _)];omega)
    rw[dH x y.nodes y a 0 v (ap _),fI x k a 0 (.nm s) (.nm s) _ hx (.inr (.inl ⟨s,Ne.symm hs,rfl,rfl⟩))]at this
    exact aB _ (px (g:=fun c=>.f (.l c)) this)
   ·obtain⟨y,z,rfl,hy,hz⟩:=gv hy
    simp only[Vl.nodes]at hm
    simp only[cO,Vl.nodes]at hk
    have q1:=oM n m y (by omega) _ x _ _ h2 hcl lo hy (cO (.rc a) z v) k (by rw[dH x y.nodes y a 0 _ (ap _)];omega)
    rw[dH x y.nodes y a 0 _ (ap _),fI x k a 0 (.bd 0) (.nm x) _ hx (.inl ⟨rfl,rfl⟩)]at q1
    have hsz2:=(ff k a (.bd 0) _ _ q1).1
    have q2:=oM n m z (by omega) (.rc a) s _ σ (.rc x hx hs h1 h2 hsz) hσ hl hz v k (by simp only at hsz2;omega)
    exact az _ (List.mem_flatMap.2 ⟨_,q1,px (g:=fun c=>.f (.r (.p y c))) q2⟩)
theorem El{n:Nat}{a D:Ty}{x:Nm}(hx:bh x a=false)(hl:jv (.rc a) 0)(h:zC a x=some D){c:Vl}(hc:vT n c D=true)(v:Vl):(c,v)∈kids a (.f (cO a c v)):=by
 simp only[zC,a7,cJ,fU]at h
 obtain⟨d,hd,_,rfl⟩:=h
 have lo:jv (dE (.name x) a 0) 0:=gJ x a hl
 have hcl:=lB mC x hl
 have e1:sub x (.rc a) d=eJ (iR yK x (.rc a)) d:=by
  have:=ij yK x (.rc a) d
  rw[gm,gm]at this;exact this
 rw[e1]at hc
 have h1:=oM n c.nodes c (ap _) _ x _ _ hd hcl lo hc v (cO a c v).nodes (by rw[dH x c.nodes c a 0 v (ap _)];omega)
 rw[dH x c.nodes c a 0 v (ap _),fI x _ a 0 (.bd 0) (.nm x) _ hx (.inl ⟨rfl,rfl⟩)]at h1
 exact h1
end Go.Proofs.Trees
namespace Go.Proofs.Trees
open Go Go.VL Go.RowKit
theorem ZT.Jz{s d:Nm}{a:Ty}{x A B:E}{D:Ty}(z:ZT s d a x A B D){c:Nm}{w:Vl}(h:mM d c 100=some w)(v:Vl):(w,v)∈kids a (.f (cO a w v)):=by
 obtain⟨e,t,m,h1,h2,h3,h4,h5,h6,h7⟩:=kM h
 have hm:m=100:=by omega
 subst hm
 have:=mQ h3
 rw[z.bk]at this;cases this
 rw[kp h4]at h7
 obtain⟨e2,he2,hw2,hte2,_,_⟩:=lN z.y
 have hlc:jv (.rc a) 0:=hte2 ▸ hw2.pu.1
 exact El (wB z.y) hlc z.lp h7 v
end Go.Proofs.Trees
namespace Go.Proofs.Trees
open Go Go.VL Go.RowKit
theorem KX(l:List Hl)(hl:l.length<=1000)(h1:∀h,h∈l->h.1.dN.length<=900000)(h2:∀h,h∈l->h.2.dN.length<=900000):∀(k i:Nat) (out:List Hl),i+k=l.length->out.length<=i ->
 Ef [.sl (iq l),.v (.int .i64 (l.length:Int)),.v (.int .i64 (i:Int))] [.vec 2 (gF out)] (iG 1 [] [.vec 2 (gF (out++l.drop i))])
 |
  0,i,out,hi,ho=>by
  have:i=l.length:=by omega
  subst this
  refine H7 _ _ _ _ ?_
  simp only[Ep,↓zq,zs,af,dX,List.drop_length,cS]
  exact⟨fun h=>by omega,fun _=>⟨rfl,rfl,rfl⟩⟩
 |
  k+1,i,out,hi,ho=>by
  have hlt:i<l.length:=by omega
  have hm:=bN hlt
  refine H7 _ _ _ _ ?_
  simp only[Ep,↓zq,zs,af,zt,dX,lu hlt,bB,aN,ca]
  refine⟨fun _=>?_,fun h=>by omega⟩
  repeat refine⟨by first|trivial|omega,?_⟩
  refine aj (D9 _ (h1 _ hm)) ?_
  simp only[↓zq,zs,af,zt,aN]
  repeat refine⟨by first|trivial|omega,?_⟩
  refine aj (D9 _ (h2 _ hm)) ?_
  simp only[↓zq,zs,af,zt,iJ]
  refine⟨⟨fun c hc=>by simp at hc;rw[hc];rfl,by omega⟩,?_⟩
  rw[bA i (by omega),aY hlt]
  have:=KX l hl h1 h2 k (i+1) (out++[l[i]]) (by omega) (by simp;omega)
  rw[bb]at this
  simpa[gF]using this
theorem Og(l:List Hl)(hl:l.length<=1000)(h1:∀h,h∈l->h.1.dN.length<=900000)(h2:∀h,h∈l->h.2.dN.length<=900000):aq Tryz.prog 60 [.sl (iq l)] [] (bC (.sl (gF l))):=by
 refine Mu _ ((cb _).mpr trivial) ?_
 simp only[IE,↓zq,zs,af,dX]
 refine cw (KX l hl h1 h2 l.length 0 [] (by omega) (by simp)) ?_
 simp only[↓zq,zs,af,Ob.es,bg]
 exact⟨rfl,rfl⟩
def Mp:Option (List Hl)->AV
 |some l=>.cG [.sl (gF l),.v (.bool true)]
 |none=>.cG [.v (.slice none 0 0),.v (.bool false)]
end Go.Proofs.Trees
namespace Go.Proofs.Trees
open Go Go.VL Go.RowKit
def pY(l:List UInt8):List (List AV):=l.map fun(x:UInt8)=>[.v (.int .u8 (x.toNat:Int))]
structure tV(b:AV)(l:List UInt8):Prop where
 has:LK.sl.has b
 el:b.aR=pY l
 len:l.length<=2000
theorem tV.ln{b:AV}{l:List UInt8}(h:tV b l):b.aR.length=l.length:=by rw[h.el];simp[pY]
theorem tV.get{b:AV}{l:List UInt8}(h:tV b l){i:Nat}(hi:i<l.length):b.aR.getD i []=[.v (.int .u8 ((l[i]).toNat:Int))]:=by rw[h.el];simp[pY,aa,hi]
def eS(b:AV)(p c:Nat)(X:AV->Prop):AV->List Ob->Prop:=fun r o=>∃q:Nat,p<=q/\q<=p+c/\X r/\o=[.cells [b,.v (.int .i64 (q:Int))]]
theorem eS.ne{b:AV}{p c:Nat}{X:AV->Prop}{r:AV}(h:X r):∃r o,eS b p c X r o:=⟨r,_,p,ap _,cV _ _,h,rfl⟩
theorem DC{a b:Int}(ha:0<=a)(hb:0<=b)(ha':a<9223372036854775808)(hb':b<9223372036854775808):∃W:Nat,AK .i64 a b=(W:Int):=by
 obtain⟨x,rfl⟩:∃x:Nat,a=(x:Int):=⟨a.toNat,by omega⟩
 obtain⟨y,rfl⟩:∃y:Nat,b=(y:Int):=⟨b.toNat,by omega⟩
 have e1:(BitVec.ofInt 64 (x:Int)).toNat=x:=by simp;omega
 have e2:(BitVec.ofInt 64 (y:Int)).toNat=y:=by simp;omega
 have hlt:x ^^^ y<2 ^ 63:=Nat.xor_lt_two_pow (by omega) (by omega)
 refine⟨x ^^^ y,?_⟩
 unfold AK
 have e3:(BitVec.ofInt (IntKind.bits .i64) (x:Int) ^^^ BitVec.ofInt (IntKind.bits .i64) (y:Int)).toNat=x ^^^ y:=by
  show (BitVec.ofInt 64 (x:Int) ^^^ BitVec.ofInt 64 (y:Int)).toNat=_
  rw[BitVec.toNat_xor,e1,e2]
 rw[e3,VL.wrap64]<;>omega
theorem xD(a b:Nat):Int.tdiv (a:Int) (b:Int)=((a/b:Nat):Int):=(Int.ofNat_tdiv a b).symm
theorem qv(a b:Nat):dB (a:Int) (b:Int)=((a%b:Nat):Int):=(Int.ofNat_tmod a b).symm
theorem vj(n:Nat)(h:n<9223372036854775808):IntKind.wrap .i64 (n:Int)=(n:Int):=VL.wrap64 _ (by omega) (by omega)
def DU(n:Nat):AV->Prop:=fun r=>∃k:Nat,r=.v (.int .i64 (k:Int))/\(1<=n->k<n)/\k<=n
abbrev qs:Nat:=1000000000000000
theorem vC(b:AV)(l:List UInt8)(hb:tV b l)(p n:Nat)(hp:p<2*qs)(hn:n<qs):aq Tryz.prog 32 [.ref 0 0,.v (.int .i64 (n:Int))] [.cells [b,.v (.int .i64 (p:Int))]] (eS b p 1 (DU n)):=by
 refine Nb _ _ _ hb.has ?_
 have e1:IntKind.wrap .i64 ((p:Int)+1)=((p+1:Nat):Int):=by rw[VL.wrap64]<;>simp[qs]at hp<;>omega
 have e2:IntKind.wrap .i64 (((p+1:Nat):Int)-1)=(p:Int):=by rw[VL.wrap64]<;>simp[qs]at hp<;>omega
 have fin:∀k:Nat,(1<=n->k<n)->k<=n->eS b p 1 (DU n) (.v (.int .i64 (k:Int))) [.cells [b,.v (.int .i64 ((p+1:Nat):Int))]]:=fun k h h'=>⟨p+1,by omega,ap _,⟨k,rfl,h,h'⟩,rfl⟩
 simp only[Jf,↓zq,zs,af,e1,e2,hb.ln,xD,qv]
 refine⟨fun h=>fin 0 (fun h'=>by omega) (dP _),fun h=>⟨hb.has,fun h0=>fin 0 (fun h'=>by omega) (dP _),fun h0=>?_⟩⟩
 have hl:0<l.length:=by omega
 have hll:=hb.len
 refine⟨hb.has,fun hlt=>?_,fun hge=>?_⟩
 ·have hlt:p<l.length:=by omega
  have hx:=(l[p]).toNat_lt
  simp only[ca,hb.get hlt,hb.has,↓zq,zs,af]
  rw[vj _ (by omega),qv]
  have:=fin ((l[p]).toNat%n) (fun h'=>ep _ (by omega)) (Nat.le_of_lt (ep _ (by omega)))
  repeat (first|exact this|refine⟨by omega,?_⟩)
 ·have h1:p%l.length<l.length:=ep _ hl
  have e3:IntKind.wrap .i64 ((p:Int)*7)=((p*7:Nat):Int):=by rw[VL.wrap64]<;>simp[qs]at hp<;>omega
  have e4:IntKind.wrap .i64 (((p*7:Nat):Int)+3)=((p*7+3:Nat):Int):=by rw[VL.wrap64]<;>simp[qs]at hp<;>omega
  have h2:(p*7+3)%l.length<l.length:=ep _ hl
  have hx:=(l[p%l.length]).toNat_lt
  have hy:=(l[(p*7+3)%l.length]).toNat_lt
  have hq:p/l.length<=p:=Nat.div_le_self _ _
  simp only[e3,e4,qv,ca,hb.get h1,hb.get h2,hb.has,↓zq,zs,af]
  generalize hxx:(l[p%l.length]).toNat=x at hx |-
  generalize hyy:(l[(p*7+3)%l.length]).toNat=y at hy |-
  generalize hqq:p/l.length=q at hq |-
  have f1:IntKind.wrap .i64 ((x:Int))=(x:Int):=vj _ (by omega)
  have f2:IntKind.wrap .i64 ((y:Int))=(y:Int):=vj _ (by omega)
  have f3:IntKind.wrap .i64 ((x:Int)*131)=((x*131:Nat):Int):=by rw[VL.wrap64]<;>omega
  have f4:IntKind.wrap .i64 ((y:Int)*1117)=((y*1117:Nat):Int):=by rw[VL.wrap64]<;>omega
  have f5:IntKind.wrap .i64 (((x*131:Nat):Int)+((y*1117:Nat):Int))=((x*131+y*1117:Nat):Int):=by rw[VL.wrap64]<;>omega
  have f6:IntKind.wrap .i64 ((p:Int)*29)=((p*29:Nat):Int):=by rw[VL.wrap64]<;>simp[qs]at hp<;>omega
  have f7:IntKind.wrap .i64 (((x*131+y*1117:Nat):Int)+((p*29:Nat):Int))=((x*131+y*1117+p*29:Nat):Int):=by rw[VL.wrap64]<;>simp[qs]at hp<;>omega
  have f8:IntKind.wrap .i64 ((q:Int))=(q:Int):=vj _ (by simp[qs]at hp;omega)
  have f9:IntKind.wrap .i64 ((q:Int)*53)=((q*53:Nat):Int):=by rw[VL.wrap64]<;>simp[qs]at hp<;>omega
  have f10:IntKind.wrap .i64 (((x*131+y*1117+p*29:Nat):Int)+((q*53:Nat):Int))=((x*131+y*1117+p*29+q*53:Nat):Int):=by rw[VL.wrap64]<;>simp[qs]at hp<;>omega
  simp only[f1,f2,f3,f4,f5,f6,f7,f8,f9,f10]
  generalize hV:x*131+y*1117+p*29+q*53=V
  have hVl:V<1000000000000000000:=by simp[qs]at hp;omega
  have f11:IntKind.wrap .i64 (Int.tdiv (V:Int) 64)=((V/64:Nat):Int):=by
   have:Int.tdiv (V:Int) 64=((V/64:Nat):Int):=xD V 64
   rw[this,vj _ (by omega)]
  rw[f11]
  obtain⟨W,hW⟩:=DC (a:=(V:Int)) (b:=((V/64:Nat):Int)) (by omega) (by omega) (by omega) (by omega)
  rw[hW,qv]
  have:=fin (W%n) (fun h'=>ep _ (by omega)) (Nat.le_of_lt (ep _ (by omega)))
  repeat (first|exact this|refine⟨by omega,?_⟩)
def j0(L:List (List UInt8)):AV->Prop:=fun r=>∃s,s∈L/\r=.v (.string (mk s))
theorem A8(b:AV)(l:List UInt8)(hb:tV b l)(p:Nat)(hp:p<2*qs)(L:List (List UInt8))(a:AV)(ha:dT a L)(hL:0<L.length)(hLl:L.length<1000000):aq Tryz.prog 55 [.ref 0 0,a] [.cells [b,.v (.int .i64 (p:Int))]] (eS b p 1 (j0 L)):=by
 refine MR _ _ _ ha.1 hb.has ?_
 unfold Lu
 simp only[↓zq,zs,af,ha.len]
 refine⟨ha.1,?_⟩
 have hpk:=vC b l hb p L.length hp (by simp[qs];omega)
 refine aP hpk (eS.ne ⟨0,rfl,fun h=>h,dP _⟩) ?_
 rintro r o ⟨q,h1,h2,⟨k,rfl,h3,h4⟩,rfl⟩
 have hk:=h3 hL
 simp only[↓zq,zs,af,zt,aM,hb.has,ha.idx hk,ca]
 refine⟨⟨ha.1,by omega⟩,?_⟩
 have:eS b p 1 (j0 L) (.v (.string (mk (L.getD k [])))) [.cells [b,.v (.int .i64 (q:Int))]]:=⟨q,h1,h2,⟨_,by simp[aa,hk],rfl⟩,rfl⟩
 repeat (first|exact this|refine⟨by omega,?_⟩)
def gf(n:Nat):AV->Prop:=fun r=>∃s:List UInt8,r=.v (.string (mk s))/\s.length<=n
theorem j0.dN{L:List (List UInt8)}{n:Nat}(h:∀s,s∈L->s.length<=n){r:AV}(hr:j0 L r):gf n r:=by
 obtain⟨s,h1,h2⟩:=hr;exact⟨s,h2,h s h1⟩
end Go.Proofs.Trees
namespace Go.Proofs.Trees
open Go Go.VL Go.RowKit
def jS:AV->List Ob->Prop:=fun r o=>o=[]/\∃b:Bool,r=.v (.bool b)
theorem jS.ne:∃r o,jS r o:=⟨_,_,rfl,true,rfl⟩
theorem jS.mk(b:Bool):jS (.v (.bool b)) []:=⟨rfl,b,rfl⟩
theorem jS.call{n:Nat}{f:Nat}{xs:List AV}{k:AV->List Ob->Tree}{Q:Nat->List AV->List Ob->Prop}(h:aq Tryz.prog f xs [] jS)(hk:∀b:Bool,eU Tryz.prog n (k (.v (.bool b)) []) Q):eU Tryz.prog n (.call f xs [] k) Q :=
 aP h jS.ne (by rintro r o ⟨rfl,b,rfl⟩;exact hk b)
theorem L7{e:E}(h:Wf e):∀(l:List Nm) (a:AV),dT a l->l.length+e.sz<100000->aq Tryz.prog 128 [.agg [.v (.string (mk e.at)),e.sp],a] [] jS:=by
 induction h with
 |
  @atom s hs =>
  intro l a ha hl
  simp only[E.sz]at hl
  refine CM _ _ _ ((aV _).mpr trivial) ha.1 ?_
  simp only[Bw,dZ,↓zq,zs,af]
  refine aj (CG s _ ((aV (.atom s)).mpr trivial) hs) ?_
  simp only[↓zq,zs,af,zt,ha.1]
  refine⟨fun h=>(by cases h),fun _=>⟨fun h=>(by cases h),fun _=>⟨fun h=>(by cases h),fun _=>⟨fun _=>.mk true,fun _=>?_⟩⟩⟩⟩
  refine aj (wl l a ha s (by omega)) ?_
  simp only[↓zq,zs,af]
  exact .mk _
 |
  @plus x y hx hy i1 i2 =>
  intro l a ha hl
  simp only[E.sz,E.jk]at hl
  refine CM _ _ _ ((aV _).mpr trivial) ha.1 ?_
  have hP:=P3.of (.atom [43]) x y
  simp only[Bw,bR,toNat_one,be,↓zq,zs,af,zt,hP.1,hP.2.1,hP.2.2.1,hP.2.2.2,aL]
  refine aj (pg [43] x y) ?_
  simp only[↓zq,zs,af,zt,ha.1,aL]
  refine⟨fun _=>⟨by omega,by omega,jS.call (i1 l a ha (by omega)) fun b=>?_⟩,fun h=>absurd rfl h⟩
  simp only[↓zq,zs,af]
  refine⟨fun _=>⟨by omega,by omega,jS.call (i2 l a ha (by omega)) fun b=>?_⟩,fun _=>.mk _⟩
  simp only[↓zq,zs,af]
  exact .mk _
 |
  @times x y hx hy i1 i2 =>
  intro l a ha hl
  simp only[E.sz,E.jk]at hl
  refine CM _ _ _ ((aV _).mpr trivial) ha.1 ?_
  have hP:=P3.of (.atom [42]) x y
  simp only[Bw,bR,toNat_one,be,↓zq,zs,af,zt,hP.1,hP.2.1,hP.2.2.1,hP.2.2.2,aL]
  refine aj (pg [42] x y) ?_
  simp only[↓zq,zs,af,zt,ha.1,aL]
  refine⟨fun h=>(by cases h),fun _=>⟨fun _=>⟨by omega,by omega,jS.call (i1 l a ha (by omega)) fun b=>?_⟩,fun h=>absurd rfl h⟩⟩
  simp only[↓zq,zs,af]
  refine⟨fun _=>.mk _,fun _=>⟨by omega,by omega,jS.call (i2 l a ha (by omega)) fun b=>?_⟩⟩
  simp only[↓zq,zs,af]
  exact .mk _
 |
  @rc n b hn hb i =>
  intro l a ha hl
  simp only[E.sz,E.jk]at hl
  refine CM _ _ _ ((aV _).mpr trivial) ha.1 ?_
  have hP:=P3.of (.atom dY) (.atom n) b
  simp only[Bw,bR,toNat_one,be,↓zq,zs,af,zt,hP.1,hP.2.1,hP.2.2.1,hP.2.2.2,aL]
  refine aj (pg dY (.atom n) b) ?_
  simp only[↓zq,zs,af,zt,ha.1,aL]
  refine⟨fun h=>(by cases h),fun _=>⟨fun h=>(by cases h),fun _=>⟨fun _=>⟨by omega,by omega,by omega,by omega,?_⟩,fun h=>absurd rfl h⟩⟩⟩
  refine aj (yW l a ha n (by omega)) ?_
  simp only[↓zq,zs,af,zt]
  refine jS.call (i (l++[n]) _ (.of _) (by simp;omega)) fun b=>?_
  simp only[↓zq,zs,af]
  exact .mk _
def Nf:AV->List Ob->Prop:=fun r o=>o=[]/\∃(g:E) (b:Bool),r=.cG [.agg [.v (.string (mk g.at)),g.sp],.v (.bool b)]/\Wf g/\g.cZ<=400
theorem Oa{n:Nm}{b:E}(hn:qh n)(hb:Wf b)(hl:(E.list [.atom dY,.atom n,b]).cZ<=400):aq Tryz.prog 130 [.agg [.v (.string (mk [])),(E.list [.atom dY,.atom n,b]).sp]] [] Nf:=by
 have hw:Wf (.list [.atom dY,.atom n,b]):=.rc hn hb
 refine N9 _ _ ((aV _).mpr trivial) ?_
 have hP:=P3.of (.atom dY) (.atom n) b
 have hbl:b.cZ<=400:=by simp only[E.cZ,E.eX]at hl;omega
 simp only[HQ,toNat_one,be,↓zq,zs,af,zt,hP.1,hP.2.1,hP.2.2.1,hP.2.2.2,aL]
 refine⟨by omega,by omega,by omega,by omega,?_⟩
 have hf:=HT hn hb hw (by omega) (by omega)
 obtain⟨g,g1,g2,g3⟩:=KP hn hb hw hbl hl
 simp only[bR]at hf g3
 refine aj hf ?_
 simp only[↓zq,zs,af,zt,aL]
 refine⟨fun h=>⟨rfl,_,false,rfl,hw,hl⟩,fun h=>?_⟩
 repeat refine⟨by omega,?_⟩
 refine aj g3 ?_
 simp only[↓zq,zs,af,zt,aL]
 refine⟨rfl,g,true,rfl,g1,?_⟩
 rw[g1.cZ [],g2]
 simpa using h
end Go.Proofs.Trees
namespace Go.Proofs.Trees
open Go Go.VL Go.RowKit
def jX(n:Nat):AV->Prop:=fun r=>∃e:E,r=.agg [.v (.string (mk e.at)),e.sp]/\e.ok/\(eT e).length<=n
theorem jX.u(n:Nat)(h:1<=n):jX n (.agg [.v (.string (mk [117])),.v (.slice none 0 0)]):=⟨.atom [117],rfl,by simp[E.ok],by simpa[eT]using h⟩
def j3(b:AV)(d:Int)(e:E)(B C:Nat):Prop:=∀p:Nat,p+C<qs->aq Tryz.prog 77 [.ref 0 0,.agg [.v (.string (mk e.at)),e.sp],.v (.int .i64 d)] [.cells [b,.v (.int .i64 (p:Int))]] (eS b p C (jX B))
theorem j3.mono{b:AV}{d:Int}{e:E}{B C B' C':Nat}(h:j3 b d e B C)(hB:B<=B')(hC:C<=C'):j3 b d e B' C':=fun p hp=>aq.mono (h p (by omega)) fun r o ⟨q,h1,h2,⟨g,h3,h4,h5⟩,h6⟩=>⟨q,h1,by omega,⟨g,h3,h4,by omega⟩,h6⟩
theorem n6(b:AV)(p C B:Nat)(h:1<=B):∃r o,eS b p C (jX B) r o:=eS.ne (jX.u B h)
theorem Qe(w:Nm)(e:E)(h:w.length=1):(eT (.list [.atom w,e])).length=(eT e).length+4:=by
 simp[eT,ei];omega
theorem PU(w:Nm)(e f:E)(h:w.length=1):(eT (.list [.atom w,e,f])).length=(eT e).length+(eT f).length+5:=by
 simp[eT,ei];omega
theorem HN{b:AV}{p q q' C B:Nat}{w:Nm}{e:E}(hw:w.length=1)(h1:p<=q)(h2:q<=p+1)(h3:q<=q')(h4:q'<=q+C)(ho:e.ok)(hl:(eT e).length<=B) :
 eS b p (C+1) (jX (B+5)) (.agg [.v (.string (mk [])),(E.list [.atom w,e]).sp]) [.cells [b,.v (.int .i64 (q':Int))]] :=
 ⟨q',by omega,by omega,⟨.list [.atom w,e],rfl,⟨by intro h;rw[h]at hw;simp at hw,ho,trivial⟩,by rw[Qe w e hw];omega⟩,rfl⟩
theorem Kn(b:AV)(l:List UInt8)(hb:tV b l)(d:Int){s:Nm}(hs:s≠[]):j3 b d (.atom s) 5 1:=by
 intro p hp
 refine DG _ _ _ _ _ ((aV (.atom s)).mpr trivial) hb.has ?_
 simp only[zQ,dZ,↓zq,zs,af]
 refine aj (CG s _ ((aV (.atom s)).mpr trivial) hs) ?_
 simp only[↓zq,zs,af,zt]
 refine⟨fun h=>(by cases h),fun _=>⟨fun h=>(by cases h),fun _=>⟨fun h=>(by cases h),fun _=>⟨fun _=>?_,fun _=>?_⟩⟩⟩⟩
 ·exact⟨p,ap _,by omega,jX.u 5 (by omega),rfl⟩
 ·refine aP (vC b l hb p 3 (by omega) (by decide)) (eS.ne ⟨0,rfl,fun h=>by omega,by omega⟩) ?_
  rintro r o ⟨q,h1,h2,⟨k,rfl,h3,h4⟩,rfl⟩
  have hk:k<3:=h3 (by omega)
  simp only[↓zq,zs,af,aM,hb.has]
  refine aj (F4 (k+1) k (by omega) (by omega)) ?_
  have hd:dd k=[a8 (48+k)]:=eH (by omega)
  simp only[↓zq,zs,af,zt,hd]
  refine⟨by simp,q,h1,h2,⟨.atom ([101]++[a8 (48+k)]),rfl,by simp[E.ok],by simp[eT]⟩,rfl⟩
theorem HY(b:AV)(l:List UInt8)(hb:tV b l)(d:Int)(hd:-100000<=d/\d<=100000){n:Nm}{e:E}(hn:qh n)(he:Wf e)(hl:(E.list [.atom dY,.atom n,e]).cZ<=400)(B C:Nat)(ih:-12<=d->∀g,Wf g->g.cZ<=400->j3 b (d-1) g B C)(hB:1<=B):j3 b d (.list [.atom dY,.atom n,e]) (B+5) (C+1):=by
 intro p hp
 refine DG _ _ _ _ _ ((aV _).mpr trivial) hb.has ?_
 have ed:IntKind.wrap .i64 (d-1)=d-1:=VL.wrap64 _ (by omega) (by omega)
 simp only[zQ,bR,↓zq,zs,af,ed]
 refine aj (pg dY (.atom n) e) ?_
 simp only[↓zq,zs,af,zt]
 have hu:=Oa hn he hl
 refine⟨fun h=>(by cases h),fun _=>⟨fun h=>(by cases h),fun _=>⟨fun _=>?_,fun h=>absurd rfl h⟩⟩⟩
 refine aP hu ⟨_,_,rfl,.atom [117],true,rfl,.atom (by simp),by simp[E.cZ]⟩ ?_
 rintro r o ⟨rfl,g,c,rfl,g1,g2⟩
 have u:eS b p (C+1) (jX (B+5)) (.agg [.v (.string (mk [117])),.v (.slice none 0 0)]) [.cells [b,.v (.int .i64 (p:Int))]]:=⟨p,ap _,by omega,jX.u _ (by omega),rfl⟩
 simp only[↓zq,zs,af,zt,aL]
 refine⟨fun _=>u,fun _=>⟨fun _=>u,fun hd2=>?_⟩⟩
 refine aP (ih (by omega) g g1 g2 p (by omega)) (n6 b p C B hB) ?_
 rintro r o ⟨q,h1,h2,⟨f,rfl,h4,h5⟩,rfl⟩
 simp only[↓zq,zs,af,zt,aM,hb.has,aL]
 repeat refine⟨by omega,?_⟩
 refine aj (yn [102] f) ?_
 simp only[↓zq,zs,af,zt,aM,hb.has,aL]
 have fin:=HN (b:=b) (w:=[102]) rfl (ap p) (by omega) h1 h2 h4 h5
 first|exact fin|exact⟨by omega,fin⟩
theorem HF(b:AV)(l:List UInt8)(hb:tV b l)(d:Int)(hd:-100000<=d/\d<=100000){x y:E}(hx:Wf x)(hy:Wf y)(B1 C1 B2 C2:Nat)(ix:j3 b (d-1) x B1 C1)(iy:j3 b (d-1) y B2 C2)(hB:1<=B1)(hB2:1<=B2):j3 b d (.list [.atom [42],x,y]) (B1+B2+5) (C1+C2+1):=by
 intro p hp
 refine DG _ _ _ _ _ ((aV _).mpr trivial) hb.has ?_
 have ed:IntKind.wrap .i64 (d-1)=d-1:=VL.wrap64 _ (by omega) (by omega)
 have hP:=P3.of (.atom [42]) x y
 simp only[zQ,bR,toNat_one,be,↓zq,zs,af,zt,hP.1,hP.2.1,hP.2.2.1,hP.2.2.2,aL,ed]
 refine aj (pg [42] x y) ?_
 simp only[↓zq,zs,af,zt]
 refine⟨fun h=>(by cases h),fun _=>⟨fun _=>?_,fun h=>absurd rfl h⟩⟩
 refine⟨by omega,by omega,aP (ix p (by omega)) (n6 b p C1 B1 hB) ?_⟩
 rintro r o ⟨q,h1,h2,⟨f,rfl,h4,h5⟩,rfl⟩
 simp only[↓zq,zs,af,zt,aM,hb.has,aL]
 repeat refine⟨by omega,?_⟩
 refine aP (iy q (by omega)) (n6 b q C2 B2 hB2) ?_
 rintro r o ⟨q',g1,g2,⟨g,rfl,g4,g5⟩,rfl⟩
 simp only[↓zq,zs,af,zt,aM,hb.has,aL]
 repeat refine⟨by omega,?_⟩
 refine aj (vW [112] f g) ?_
 simp only[↓zq,zs,af,zt,aM,hb.has,aL]
 have fin:eS b p (C1+C2+1) (jX (B1+B2+5)) (.agg [.v (.string (mk [])),(E.list [.atom [112],f,g]).sp]) [.cells [b,.v (.int .i64 (q':Int))]]:=⟨q',by omega,by omega,⟨.list [.atom [112],f,g],rfl,⟨by simp[E.ok],h4,g4,trivial⟩,by rw[PU [112] f g rfl];omega⟩,rfl⟩
 first|exact fin|exact⟨by omega,fin⟩
theorem Ji(b:AV)(l:List UInt8)(hb:tV b l)(d:Int)(hd:-100000<=d/\d<=100000){x y:E}(hx:Wf x)(hy:Wf y)(hl:(E.list [.atom [43],x,y]).cZ<=400)(B C:Nat)(ix:j3 b (d-1) x B C)(iy:j3 b (d-1) y B C)(hB:1<=B):j3 b d (.list [.atom [43],x,y]) (B+5) (C+1):=by
 intro p hp
 refine DG _ _ _ _ _ ((aV _).mpr trivial) hb.has ?_
 have ed:IntKind.wrap .i64 (d-1)=d-1:=VL.wrap64 _ (by omega) (by omega)
 have hP:=P3.of (.atom [43]) x y
 simp only[E.cZ,E.eX]at hl
 have s1:=hx.sz
 have s2:=hy.sz
 simp only[zQ,bR,toNat_one,be,↓zq,zs,af,zt,hP.1,hP.2.1,hP.2.2.1,hP.2.2.2,aL,ed]
 refine aj (pg [43] x y) ?_
 simp only[↓zq,zs,af,zt]
 refine⟨fun _=>?_,fun h=>absurd rfl h⟩
 refine aP (vC b l hb p 2 (by omega) (by decide)) (eS.ne ⟨0,rfl,fun h=>by omega,by omega⟩) ?_
 rintro r o ⟨q,h1,h2,⟨k,rfl,_,_⟩,rfl⟩
 simp only[↓zq,zs,af,zt,aM,hb.has,aL]
 have ex:=L7 hx [] (.sl []) (.of []) (by simp;omega)
 have ey:=L7 hy [] (.sl []) (.of []) (by simp;omega)
 have ax:=C8 x hx.ok (by omega)
 have ay:=C8 y hy.ok (by omega)
 rw[dz]at ax ay
 have lx:=ix q (by omega)
 have ly:=iy q (by omega)
 have t:=n6 b q C B hB
 have leaf:∀(w:Nm) (q':Nat) (f:E),w.length=1->q<=q'->q'<=q+C->f.ok->(eT f).length<=B->eS b p (C+1) (jX (B+5)) (.agg [.v (.string (mk [])),(E.list [.atom w,f]).sp]) [.cells [b,.v (.int .i64 (q':Int))]]:=fun w q' f hw g1 g2 h4 h5=>HN hw h1 h2 g1 g2 h4 h5
 repeat' first
  |intro _
  |refine⟨by omega,?_⟩
  |(
   with_reducible refine aP lx t ?_
   rintro r o ⟨q',g1,g2,⟨f,rfl,h4,h5⟩,rfl⟩
   simp only[↓zq,zs,af,zt,aM,hb.has,aL]
   repeat refine⟨by omega,?_⟩
   refine aj (yn _ f) ?_
   simp only[↓zq,zs,af,zt,aM,hb.has,aL]
   have fin:=leaf [108] q' f rfl g1 g2 h4 h5
   first|exact fin|exact⟨by omega,fin⟩)
  |(
   with_reducible refine aP ly t ?_
   rintro r o ⟨q',g1,g2,⟨f,rfl,h4,h5⟩,rfl⟩
   simp only[↓zq,zs,af,zt,aM,hb.has,aL]
   repeat refine⟨by omega,?_⟩
   refine aj (yn _ f) ?_
   simp only[↓zq,zs,af,zt,aM,hb.has,aL]
   have fin:=leaf [114] q' f rfl g1 g2 h4 h5
   first|exact fin|exact⟨by omega,fin⟩)
  |(with_reducible refine jS.call ex fun _=>?_;simp only[↓zq,zs,af,zt,aL])
  |(with_reducible refine jS.call ey fun _=>?_;simp only[↓zq,zs,af,zt,aL])
  |(with_reducible refine aj ax ?_;simp only[↓zq,zs,af,zt,aL])
  |(with_reducible refine aj ay ?_;simp only[↓zq,zs,af,zt,aL])
  |with_reducible refine aH ?_ ?_
  |(exfalso;omega)
end Go.Proofs.Trees
namespace Go.Proofs.Trees
open Go Go.VL Go.RowKit
def na:Nat->Nat
 |0=>2
 |d+1=>2*na d+15
def nh:Nat->Nat
 |0=>3
 |d+1=>2*nh d+8
theorem PB(d:Nat):2<=na d:=by cases d<;>simp only[na]<;>omega
theorem Mt(d:Nat):3<=nh d:=by cases d<;>simp only[nh]<;>omega
theorem F8:∀d:Nat,d<=10->na d<=100000000
 |0,_=>by decide
 |1,_=>by decide
 |2,_=>by decide
 |3,_=>by decide
 |4,_=>by decide
 |5,_=>by decide
 |6,_=>by decide
 |7,_=>by decide
 |8,_=>by decide
 |9,_=>by decide
 |10,_=>by decide
 |d+11,h=>by omega
theorem Dx(b:AV)(l:List UInt8)(hb:tV b l)(p:Nat)(hp:p<2*qs):aq Tryz.prog 119 [.ref 0 0] [.cells [b,.v (.int .i64 (p:Int))]] (eS b p 1 (gf 60)):=by
 refine MF _ _ hb.has ?_
 unfold Jb
 refine aP (A8 b l hb p hp _ _ (.of [_,_,_,_,_,_,_]) (by simp) (by simp)) (eS.ne ⟨_,ai,rfl⟩) ?_
 rintro r o ⟨q,h1,h2,hr,rfl⟩
 obtain⟨s,rfl,hs⟩:=j0.dN (n:=60) (by decide) hr
 simp only[↓zq,zs,af,aM,hb.has]
 exact⟨q,h1,h2,⟨s,rfl,hs⟩,rfl⟩
theorem GB(b:AV)(l:List UInt8)(hb:tV b l):∀(d:Nat),d<=10->∀(p:Nat) (ls:List (List UInt8)) (a:AV),dT a ls->(∀s,s∈ls->s.length<=2)->ls.length+d<=100->p+nh d<2*qs ->
 aq Tryz.prog 127 [.ref 0 0,a,.v (.int .i64 (d:Int))] [.cells [b,.v (.int .i64 (p:Int))]] (eS b p (nh d) (gf (na d))):=by
 intro d
 induction d with
 |
  zero =>
  intro hd p ls a ha hls hll hp
  simp only[nh]at hp
  refine LY _ _ _ _ ha.1 hb.has ?_
  simp only[Fe,↓zq,zs,af,ha.len]
  refine⟨fun _=>⟨ha.1,fun hpos=>?_,fun _=>?_⟩,fun h=>by omega⟩
  ·refine aP (vC b l hb p 3 (by omega) (by decide)) (eS.ne ⟨0,rfl,fun h=>by omega,by omega⟩) ?_
   rintro r o ⟨q1,h1,h2,⟨k,rfl,h3,h4⟩,rfl⟩
   simp only[↓zq,zs,af,aM,hb.has]
   refine⟨fun _=>⟨ha.1,?_⟩,fun _=>?_⟩
   ·refine aP (vC b l hb q1 ls.length (by omega) (by simp[qs];omega)) (eS.ne ⟨0,rfl,fun h=>by omega,by omega⟩) ?_
    rintro r o ⟨q2,g1,g2,⟨k2,rfl,g3,g4⟩,rfl⟩
    have hk:=g3 (by omega)
    simp only[↓zq,zs,af,aM,hb.has,ca,ha.idx hk]
    have:eS b p (nh 0) (gf (na 0)) (.v (.string (mk (ls.getD k2 [])))) [.cells [b,.v (.int .i64 (q2:Int))]]:=⟨q2,by omega,by simp only[nh];omega,⟨_,rfl,by
     have:=hls (ls.getD k2 []) (by simp[aa,hk]);simp only[na];omega⟩,rfl⟩
    refine⟨⟨ha.1,by omega⟩,?_⟩
    repeat (first|exact this|refine⟨by omega,?_⟩)
   ·refine aP (A8 b l hb q1 (by omega) _ _ (.of [_,_,_,_,_,_]) (by simp) (by simp)) (eS.ne ⟨_,ai,rfl⟩) ?_
    rintro r o ⟨q2,g1,g2,hr,rfl⟩
    obtain⟨s,rfl,hs⟩:=j0.dN (n:=2) (by decide) hr
    simp only[↓zq,zs,af,aM,hb.has]
    exact⟨q2,by omega,by simp only[nh];omega,⟨s,rfl,by simp only[na];omega⟩,rfl⟩
  ·refine aP (A8 b l hb p (by omega) _ _ (.of [_,_,_,_,_,_]) (by simp) (by simp)) (eS.ne ⟨_,ai,rfl⟩) ?_
   rintro r o ⟨q2,g1,g2,hr,rfl⟩
   obtain⟨s,rfl,hs⟩:=j0.dN (n:=2) (by decide) hr
   simp only[↓zq,zs,af,aM,hb.has]
   exact⟨q2,by omega,by simp only[nh];omega,⟨s,rfl,by simp only[na];omega⟩,rfl⟩
 |
  succ d ih =>
  intro hd p ls a ha hls hll hp
  simp only[nh]at hp
  have hL:=PB d
  have hC:=Mt d
  have ih:=ih (by omega)
  have hL8:=F8 d (by omega)
  have ed:IntKind.wrap .i64 (((d+1:Nat):Int)-1)=(d:Int):=by rw[VL.wrap64]<;>omega
  refine LY _ _ _ _ ha.1 hb.has ?_
  simp only[Fe,↓zq,zs,af,ha.len,ed]
  refine⟨fun h=>by omega,fun _=>?_⟩
  refine aP (vC b l hb p 4 (by omega) (by decide)) (eS.ne ⟨0,rfl,fun h=>by omega,by omega⟩) ?_
  rintro r o ⟨q0,a1,a2,⟨k0,rfl,_,_⟩,rfl⟩
  simp only[↓zq,zs,af,aM,hb.has]
  refine⟨fun _=>⟨ha.1,fun hpos=>?_,fun _=>?_⟩,fun _=>?_⟩
  ·refine aP (vC b l hb q0 3 (by omega) (by decide)) (eS.ne ⟨0,rfl,fun h=>by omega,by omega⟩) ?_
   rintro r o ⟨q1,h1,h2,⟨k,rfl,h3,h4⟩,rfl⟩
   simp only[↓zq,zs,af,aM,hb.has]
   refine⟨fun _=>⟨ha.1,?_⟩,fun _=>?_⟩
   ·refine aP (vC b l hb q1 ls.length (by omega) (by simp[qs];omega)) (eS.ne ⟨0,rfl,fun h=>by omega,by omega⟩) ?_
    rintro r o ⟨q2,g1,g2,⟨k2,rfl,g3,g4⟩,rfl⟩
    have hk:=g3 (by omega)
    simp only[↓zq,zs,af,aM,hb.has,ca,ha.idx hk]
    have:eS b p (nh (d+1)) (gf (na (d+1))) (.v (.string (mk (ls.getD k2 [])))) [.cells [b,.v (.int .i64 (q2:Int))]]:=⟨q2,by omega,by simp only[nh];omega,⟨_,rfl,by
     have:=hls (ls.getD k2 []) (by simp[aa,hk]);simp only[na];omega⟩,rfl⟩
    refine⟨⟨ha.1,by omega⟩,?_⟩
    repeat (first|exact this|refine⟨by omega,?_⟩)
   ·refine aP (A8 b l hb q1 (by omega) _ _ (.of [_,_,_,_,_,_]) (by simp) (by simp)) (eS.ne ⟨_,ai,rfl⟩) ?_
    rintro r o ⟨q2,g1,g2,hr,rfl⟩
    obtain⟨s,rfl,hs⟩:=j0.dN (n:=2) (by decide) hr
    simp only[↓zq,zs,af,aM,hb.has]
    exact⟨q2,by omega,by simp only[nh];omega,⟨s,rfl,by simp only[na];omega⟩,rfl⟩
  ·refine aP (A8 b l hb q0 (by omega) _ _ (.of [_,_,_,_,_,_]) (by simp) (by simp)) (eS.ne ⟨_,ai,rfl⟩) ?_
   rintro r o ⟨q2,g1,g2,hr,rfl⟩
   obtain⟨s,rfl,hs⟩:=j0.dN (n:=2) (by decide) hr
   simp only[↓zq,zs,af,aM,hb.has]
   exact⟨q2,by omega,by simp only[nh];omega,⟨s,rfl,by simp only[na];omega⟩,rfl⟩
  ·refine aP (vC b l hb q0 5 (by omega) (by decide)) (eS.ne ⟨0,rfl,fun h=>by omega,by omega⟩) ?_
   rintro r o ⟨q1,b1,b2,⟨k1,rfl,c3,_⟩,rfl⟩
   have hk1:=c3 (by omega)
   obtain rfl|rfl|rfl|rfl|rfl:k1=0\/k1=1\/k1=2\/k1=3\/k1=4:=by omega
   ·simp only[↓zq,zs,af,aM,hb.has]
    refine⟨fun _=>?_,fun h=>absurd rfl h⟩
    refine aP (ih q1 ls a ha hls (by omega) (by omega)) (eS.ne ⟨[],rfl,by simp⟩) ?_
    rintro r o ⟨q2,d1,d2,⟨s1,rfl,d3⟩,rfl⟩
    simp only[↓zq,zs,af,zt,aM,hb.has,an]
    repeat refine⟨by first|omega|(simp only[an,aw,aF];omega),?_⟩
    refine aP (ih q2 ls a ha hls (by omega) (by omega)) (eS.ne ⟨[],rfl,by simp⟩) ?_
    rintro r o ⟨q3,e1,e2,⟨s2,rfl,e3⟩,rfl⟩
    simp only[↓zq,zs,af,zt,aM,hb.has,an]
    have fin:∀s:List UInt8,s.length<=na (d+1)->eS b p (nh (d+1)) (gf (na (d+1))) (.v (.string (mk s))) [.cells [b,.v (.int .i64 (q3:Int))]]:=fun s hs=>⟨q3,by omega,by simp only[nh];omega,⟨s,rfl,hs⟩,rfl⟩
    repeat (first|exact fin _ (by simp only[an,aw,aF,na];omega)|refine⟨by first|omega|(simp only[an,aw,aF];omega),?_⟩)
   ·simp only[↓zq,zs,af,aM,hb.has]
    refine⟨fun h=>by omega,fun _=>⟨fun _=>?_,fun h=>absurd rfl h⟩⟩
    refine aP (ih q1 ls a ha hls (by omega) (by omega)) (eS.ne ⟨[],rfl,by simp⟩) ?_
    rintro r o ⟨q2,d1,d2,⟨s1,rfl,d3⟩,rfl⟩
    simp only[↓zq,zs,af,zt,aM,hb.has,an]
    repeat refine⟨by first|omega|(simp only[an,aw,aF];omega),?_⟩
    refine aP (ih q2 ls a ha hls (by omega) (by omega)) (eS.ne ⟨[],rfl,by simp⟩) ?_
    rintro r o ⟨q3,e1,e2,⟨s2,rfl,e3⟩,rfl⟩
    simp only[↓zq,zs,af,zt,aM,hb.has,an]
    have fin:∀s:List UInt8,s.length<=na (d+1)->eS b p (nh (d+1)) (gf (na (d+1))) (.v (.string (mk s))) [.cells [b,.v (.int .i64 (q3:Int))]]:=fun s hs=>⟨q3,by omega,by simp only[nh];omega,⟨s,rfl,hs⟩,rfl⟩
    repeat (first|exact fin _ (by simp only[an,aw,aF,na];omega)|refine⟨by first|omega|(simp only[an,aw,aF];omega),?_⟩)
   ·simp only[↓zq,zs,af,aM,hb.has]
    refine⟨fun h=>by omega,fun _=>⟨fun h=>by omega,fun _=>⟨fun _=>?_,fun h=>absurd rfl h⟩⟩⟩
    refine aP (ih q1 ls a ha hls (by omega) (by omega)) (eS.ne ⟨[],rfl,by simp⟩) ?_
    rintro r o ⟨q2,d1,d2,⟨s1,rfl,d3⟩,rfl⟩
    simp only[↓zq,zs,af,zt,aM,hb.has,an]
    repeat refine⟨by first|omega|(simp only[an,aw,aF];omega),?_⟩
    refine aP (ih q2 ls a ha hls (by omega) (by omega)) (eS.ne ⟨[],rfl,by simp⟩) ?_
    rintro r o ⟨q3,e1,e2,⟨s2,rfl,e3⟩,rfl⟩
    simp only[↓zq,zs,af,zt,aM,hb.has,an]
    have fin:∀s:List UInt8,s.length<=na (d+1)->eS b p (nh (d+1)) (gf (na (d+1))) (.v (.string (mk s))) [.cells [b,.v (.int .i64 (q3:Int))]]:=fun s hs=>⟨q3,by omega,by simp only[nh];omega,⟨s,rfl,hs⟩,rfl⟩
    repeat (first|exact fin _ (by simp only[an,aw,aF,na];omega)|refine⟨by first|omega|(simp only[an,aw,aF];omega),?_⟩)
   ·simp only[↓zq,zs,af,aM,hb.has]
    refine⟨fun h=>by omega,fun _=>⟨fun h=>by omega,fun _=>⟨fun h=>by omega,fun _=>⟨fun _=>?_,fun h=>absurd rfl h⟩⟩⟩⟩
    refine aP (ih q1 ls a ha hls (by omega) (by omega)) (eS.ne ⟨[],rfl,by simp⟩) ?_
    rintro r o ⟨q2,d1,d2,⟨s1,rfl,d3⟩,rfl⟩
    simp only[↓zq,zs,af,zt,aM,hb.has,an]
    repeat refine⟨by first|omega|(simp only[an,aw,aF];omega),?_⟩
    refine aP (ih q2 ls a ha hls (by omega) (by omega)) (eS.ne ⟨[],rfl,by simp⟩) ?_
    rintro r o ⟨q3,e1,e2,⟨s2,rfl,e3⟩,rfl⟩
    simp only[↓zq,zs,af,zt,aM,hb.has,an]
    have fin:∀s:List UInt8,s.length<=na (d+1)->eS b p (nh (d+1)) (gf (na (d+1))) (.v (.string (mk s))) [.cells [b,.v (.int .i64 (q3:Int))]]:=fun s hs=>⟨q3,by omega,by simp only[nh];omega,⟨s,rfl,hs⟩,rfl⟩
    repeat (first|exact fin _ (by simp only[an,aw,aF,na];omega)|refine⟨by first|omega|(simp only[an,aw,aF];omega),?_⟩)
   ·simp only[↓zq,zs,af,aM,hb.has]
    refine⟨fun h=>by omega,fun _=>⟨fun h=>by omega,fun _=>⟨fun h=>by omega,fun _=>⟨fun h=>by omega,fun _=>?_⟩⟩⟩⟩
    refine aP (A8 b l hb q1 (by omega) _ _ (.of [_,_,_]) (by simp) (by simp)) (eS.ne ⟨_,ai,rfl⟩) ?_
    rintro r o ⟨q2,g1,g2,hr,rfl⟩
    obtain⟨s,rfl,hs⟩:=j0.dN (n:=2) (by decide) hr
    simp only[↓zq,zs,af,zt,aM,hb.has]
    repeat refine⟨by first|omega|(simp only[an,aw,aF];omega),?_⟩
    refine aj (yW ls a ha s (by omega)) ?_
    simp only[↓zq,zs,af]
    refine aP (ih q2 (ls++[s]) _ (.of _) (fun w hw=>by
     rcases aK.1 hw with hw|hw
     ·exact hls w hw
     ·simp at hw;rw[hw];exact hs) (by simp;omega) (by omega)) (eS.ne ⟨[],rfl,by simp⟩) ?_
    rintro r o ⟨q3,e1,e2,⟨s2,rfl,e3⟩,rfl⟩
    simp only[↓zq,zs,af,zt,aM,hb.has,an]
    have fin:∀s:List UInt8,s.length<=na (d+1)->eS b p (nh (d+1)) (gf (na (d+1))) (.v (.string (mk s))) [.cells [b,.v (.int .i64 (q3:Int))]]:=fun s hs=>⟨q3,by omega,by simp only[nh];omega,⟨s,rfl,hs⟩,rfl⟩
    repeat (first|exact fin _ (by simp only[an,aw,aF,na];omega)|refine⟨by first|omega|(simp only[an,aw,aF];omega),?_⟩)
end Go.Proofs.Trees
namespace Go.Proofs.Trees
open Go Go.VL Go.RowKit
theorem eS.mono{b:AV}{p c c':Nat}{X Y:AV->Prop}(hc:c<=c')(h:∀r,X r->Y r){r:AV}{o:List Ob}(hr:eS b p c X r o):eS b p c' Y r o:=by
 obtain⟨q,h1,h2,h3,h4⟩:=hr;exact⟨q,h1,by omega,h r h3,h4⟩
theorem gf.le{n m:Nat}(h:n<=m){r:AV}(hr:gf n r):gf m r:=by obtain⟨s,h1,h2⟩:=hr;exact⟨s,h1,by omega⟩
theorem Pg(b:AV)(l:List UInt8)(hb:tV b l)(p:Nat)(hp:p<qs):aq Tryz.prog 76 [.ref 0 0] [.cells [b,.v (.int .i64 (p:Int))]] (eS b p 100 (gf 200)):=by
 refine Nt _ _ hb.has ?_
 unfold Jj
 have hfar:qs=1000000000000000:=rfl
 refine aP (vC b l hb p 12 (by omega) (by decide)) (eS.ne ⟨0,rfl,fun h=>by omega,by omega⟩) ?_
 rintro r o ⟨q,h1,h2,⟨k,rfl,_,_⟩,rfl⟩
 have kn:∀(c m:Nat) (r:AV) (o:List Ob),c<=90->m<=200->eS b q c (gf m) r o->∃q':Nat,∃s:List UInt8,r=.v (.string (mk s))/\o=[.cells [b,.v (.int .i64 (q':Int))]]/\eS b p 100 (gf 200) (.v (.string (mk s))) [.cells [b,.v (.int .i64 (q':Int))]]:=by
  rintro c m r o hc hm ⟨q',g1,g2,⟨s,rfl,hs⟩,rfl⟩
  exact⟨q',s,rfl,rfl,q',by omega,by omega,⟨s,rfl,by omega⟩,rfl⟩
 simp only[↓zq,zs,af,aM,hb.has]
 refine⟨fun _=>?_,fun _=>⟨fun _=>?_,fun _=>⟨fun _=>?_,fun _=>⟨fun _=>?_,fun _=>⟨fun _=>?_,fun _=>?_⟩⟩⟩⟩⟩
 ·refine aP (A8 b l hb q (by omega) _ _ (.of [_,_,_,_,_,_,_,_,_]) (by simp) (by simp)) (eS.ne ⟨_,ai,rfl⟩) ?_
  intro r o hr
  obtain⟨q',s,rfl,rfl,hd⟩:=kn 1 20 r o (by omega) (by omega) (hr.mono (ap _) fun r h=>j0.dN (n:=20) (by decide) h)
  simp only[↓zq,zs,af,aM,hb.has];exact hd
 ·refine aP (Dx b l hb q (by omega)) (eS.ne ⟨[],rfl,by simp⟩) ?_
  intro r o hr
  obtain⟨q',s,rfl,rfl,hd⟩:=kn _ _ r o (by omega) (by omega) hr
  simp only[↓zq,zs,af,aM,hb.has];exact hd
 ·refine aP (Dx b l hb q (by omega)) (eS.ne ⟨[],rfl,by simp⟩) ?_
  intro r o hr
  obtain⟨q',s,rfl,rfl,hd⟩:=kn _ _ r o (by omega) (by omega) hr
  simp only[↓zq,zs,af,aM,hb.has];exact hd
 ·refine aP (Dx b l hb q (by omega)) (eS.ne ⟨[],rfl,by simp⟩) ?_
  intro r o hr
  obtain⟨q',s,rfl,rfl,hd⟩:=kn _ _ r o (by omega) (by omega) hr
  simp only[↓zq,zs,af,aM,hb.has];exact hd
 ·refine aP (GB b l hb 2 (by omega) q [[116],[116,49]] _ (dT.of [[116],[116,49]]) (by decide) (by simp) (by simp[nh];omega)) (eS.ne ⟨[],rfl,by simp⟩) ?_
  intro r o hr
  obtain⟨q',s,rfl,rfl,hd⟩:=kn _ _ r o (by simp[nh]) (by simp[na]) hr
  simp only[↓zq,zs,af,aM,hb.has];exact hd
 ·refine aP (GB b l hb 3 (by omega) q [] _ (dT.of []) (by simp) (by simp) (by simp[nh];omega)) (eS.ne ⟨[],rfl,by simp⟩) ?_
  intro r o hr
  obtain⟨q',s,rfl,rfl,hd⟩:=kn _ _ r o (by simp[nh]) (by simp[na]) hr
  simp only[↓zq,zs,af,aM,hb.has];exact hd
def ye(a:AV):Prop:=LK.sl.has a/\∃l:List UInt8,a.aR=pY l
def Mo(r:AV)(o:List Ob):Prop:=∃(b:AV) (l:List UInt8),tV b l/\r=.ref 0 0/\o=[.cells [b,.v (.int .i64 0)]]
theorem Mo.ne:∃r o,Mo r o:=⟨_,_,.v (.slice none 0 0),[],⟨(bq).mpr trivial,rfl,by simp⟩,rfl,rfl⟩
theorem Ou(a:AV)(ha:ye a):aq Tryz.prog 30 [a] [] Mo:=by
 obtain⟨hs,l,hl⟩:=ha
 have hln:a.aR.length=l.length:=by rw[hl];simp[pY]
 refine Nr _ hs ?_
 simp only[Hx,↓zq,zs,af,hln]
 refine⟨hs,fun h=>⟨⟨hs,by omega⟩,?_⟩,fun h=>?_⟩
 ·refine⟨_,l.take 2000,⟨(cb _).mpr trivial,?_,?_⟩,rfl,rfl⟩
  ·rw[fF,hl];simp[pY]
  ·simp;omega
 ·exact⟨a,l,⟨hs,hl,by omega⟩,rfl,rfl⟩
end Go.Proofs.Trees
namespace Go.Proofs.Trees
open Go Go.VL Go.RowKit
theorem By(b:AV)(l:List UInt8)(hb:tV b l){e:E}(h:Wf e):∀d:Int,d<=-13->-50000+(e.sz:Int)<=d->e.cZ<=400->j3 b d e (5*e.sz) e.sz:=by
 induction h with
 |
  @atom s hs =>
  intro d h1 h2 h3
  exact(Kn b l hb d hs).mono (by simp[E.sz]) (by simp[E.sz])
 |
  @plus x y hx hy i1 i2 =>
  intro d h1 h2 h3
  have h4:=h3
  simp only[E.sz,E.jk,E.cZ,E.eX]at h2 h4 |-
  exact(Ji b l hb d (by omega) hx hy h3 (5*(x.sz+y.sz)+1) (x.sz+y.sz) ((i1 (d-1) (by omega) (by omega) (by omega)).mono (by omega) (by omega)) ((i2 (d-1) (by omega) (by omega) (by omega)).mono (by omega) (by omega)) (by omega)).mono (by omega) (by omega)
 |
  @times x y hx hy i1 i2 =>
  intro d h1 h2 h3
  have h4:=h3
  simp only[E.sz,E.jk,E.cZ,E.eX]at h2 h4 |-
  exact(HF b l hb d (by omega) hx hy (5*x.sz+1) x.sz (5*y.sz+1) y.sz ((i1 (d-1) (by omega) (by omega) (by omega)).mono (by omega) (by omega)) ((i2 (d-1) (by omega) (by omega) (by omega)).mono (by omega) (by omega)) (by omega) (by omega)).mono (by omega) (by omega)
 |
  @rc n x hn hx i =>
  intro d h1 h2 h3
  simp only[E.sz,E.jk]at h2 |-
  exact(HY b l hb d (by omega) hn hx h3 1 0 (fun h=>absurd h (by omega)) (by omega)).mono (by omega) (by omega)
def oU:Nat->Nat
 |0=>6100
 |n+1=>2*oU n+5
theorem En:∀n,6100<=oU n
 |0=>ap _
 |n+1=>by have:=En n;simp only[oU];omega
theorem we:∀n k:Nat,oU (n+k)+5=2 ^ k*(oU n+5)
 |n,0=>by simp
 |
  n,k+1=>by
  have:=we n k
  rw[show n+(k+1)=n+k+1 from rfl,oU,Nat.pow_succ,Nat.mul_comm (2 ^ k) 2,Nat.mul_assoc,<-this];omega
theorem Aw{n m:Nat}(h:n<=m):oU n<=oU m:=by
 obtain⟨k,rfl⟩:=Nat.exists_eq_add_of_le h
 have:=we n k
 have h2:1*(oU n+5)<=2 ^ k*(oU n+5):=aX _ Nat.one_le_two_pow
 omega
theorem H3:oU 22<=30000000000:=by
 have:=we 0 22
 simp only[aU]at this
 have h0:oU 0=6100:=rfl
 rw[h0]at this
 omega
theorem xH(b:AV)(l:List UInt8)(hb:tV b l):∀n:Nat,n<=40->∀e,Wf e->e.cZ<=400->j3 b ((n:Int)-13) e (oU n) (oU n)
 |
  0,hn,e,h,hl=>by
  have:=h.sz
  exact(By b l hb h _ (by simp) (by simp;omega) hl).mono (by simp only[oU];omega) (by simp only[oU];omega)
 |
  n+1,hn,e,h,hl=>by
  have hb1:=En n
  have ih:∀g,Wf g->g.cZ<=400->j3 b (((n+1:Nat):Int)-13-1) g (oU n) (oU n):=by
   rw[show ((n+1:Nat):Int)-13-1=(n:Int)-13 by omega];exact xH b l hb n (by omega)
  cases h with
  |@atom s hs=>exact(Kn b l hb _ hs).mono (by simp only[oU];omega) (by simp only[oU];omega)
  |
   @plus x y hx hy =>
   have h4:=hl
   simp only[E.cZ,E.eX]at h4
   exact(Ji b l hb _ (by omega) hx hy hl _ _ (ih x hx (by omega)) (ih y hy (by omega)) (by omega)).mono (by simp only[oU];omega) (by simp only[oU];omega)
  |
   @times x y hx hy =>
   simp only[E.cZ,E.eX]at hl
   exact(HF b l hb _ (by omega) hx hy _ _ _ _ (ih x hx (by omega)) (ih y hy (by omega)) (by omega) (by omega)).mono (by simp only[oU];omega) (by simp only[oU];omega)
  |@rc m x hm hx=>exact(HY b l hb _ (by omega) hm hx hl _ _ (fun _=>ih) (by omega)).mono (by simp only[oU];omega) (by simp only[oU];omega)
theorem Oe(b:AV)(l:List UInt8)(hb:tV b l)(p:Nat)(hp:p<100000000000000)(s:Nm):aq Tryz.prog 33 [.ref 0 0,.v (.string (mk s))] [.cells [b,.v (.int .i64 (p:Int))]] (eS b p 40000000000 (gf 40000000000)):=by
 refine OY _ _ _ hb.has ?_
 have hfar:qs=1000000000000000:=rfl
 have oneL:∀(q:Nat) (r:AV) (o:List Ob),p<=q->q<=p+1->eS b q 1 (j0 [[],[117],[101,48],[101,48,48],[101,49,48,48],[40,108,32,117,41],[40,112,32,117,41],[40,102,32,40,108,32,117,41,41],[40,120,32,117,41],[40,108,32,32,117,41]]) r o->∃q':Nat,∃t:List UInt8,r=.v (.string (mk t))/\o=[.cells [b,.v (.int .i64 (q':Int))]]/\eS b p 40000000000 (gf 40000000000) (.v (.string (mk t))) [.cells [b,.v (.int .i64 (q':Int))]]:=by
  rintro q r o h1 h2 ⟨q',g1,g2,hr,rfl⟩
  obtain⟨t,rfl,ht⟩:=j0.dN (n:=20) (by decide) hr
  exact⟨q',t,rfl,rfl,q',by omega,by omega,⟨t,rfl,by omega⟩,rfl⟩
 unfold KO
 refine aP (Ax s) (lO.ne _ _ (fun h=>h)) ?_
 rintro r o ⟨c,d,hd,rfl,hh⟩
 have hhas:bB [.str,.sl] [.v (.string (mk c)),d] 0:=by simp[bB,dq,hd]
 simp only[↓zq,zs,af,zt]
 refine⟨hhas,fun h=>?_,fun h=>?_⟩
 ·refine aP (A8 b l hb p (by omega) _ _ (.of [_,_,_,_,_,_,_,_,_,_]) (by simp) (by simp)) (eS.ne ⟨_,ai,rfl⟩) ?_
  intro r o hr
  obtain⟨q',t,rfl,rfl,hd⟩:=oneL p r o (ap _) (by omega) hr
  simp only[↓zq,zs,af,aM,hb.has];exact hd
 ·obtain⟨e,he,hce⟩:=hh (by simpa using h)
  obtain⟨t,h1,hA,h3,h4,h5,_⟩:=fX he
  rw[dz]at hce
  simp only[AV.agg.injEq,List.cons.injEq,AV.v.injEq,Value.string.injEq,and_true]at hce
  obtain⟨hc1,rfl⟩:=hce
  have hc2:=A4 hc1
  subst hc2
  obtain⟨hw,hwt⟩:=kk e [] t hA.ok (by simp) hA.ty
  have hats:e.cZ<=400:=by rw[hw.cZ [],hwt];exact h5
  have hsz:=hw.sz
  refine aP (vC b l hb p 16 (by omega) (by decide)) (eS.ne ⟨0,rfl,fun h=>by omega,by omega⟩) ?_
  rintro r o ⟨q,h1,h2,⟨k,rfl,_,_⟩,rfl⟩
  simp only[↓zq,zs,af,aM,hb.has]
  refine⟨fun _=>?_,fun _=>?_⟩
  ·refine aP (A8 b l hb q (by omega) _ _ (.of [_,_,_,_,_,_,_,_,_,_]) (by simp) (by simp)) (eS.ne ⟨_,ai,rfl⟩) ?_
   intro r o hr
   obtain⟨q',t,rfl,rfl,hd⟩:=oneL q r o h1 h2 hr
   simp only[↓zq,zs,af,aM,hb.has];exact hd
  ·obtain⟨w1,w2,_⟩:=wj (os:=[]) hw
   have hap:=CE hw (.v (.slice none 0 0)) [] ⟨(bq).mpr trivial,rfl⟩ (by omega) (by simp) (by simp)
   refine aj hap ?_
   simp only[↓zq,zs,af,zt,aL]
   repeat refine⟨by omega,?_⟩
   have hats2:(zm e []).cZ<=400:=by rw[w1.cZ [],w2,<-hw.cZ []];exact hats
   refine aP (vC b l hb q 5 (by omega) (by decide)) (eS.ne ⟨0,rfl,fun h=>by omega,by omega⟩) ?_
   rintro r o ⟨q1,g1,g2,⟨k1,rfl,c3,_⟩,rfl⟩
   have hk1:=c3 (by omega)
   simp only[↓zq,zs,af,zt,aM,hb.has,aL]
   have ed:IntKind.wrap .i64 (5+(k1:Int))=((18+k1:Nat):Int)-13:=by rw[VL.wrap64 _ (by omega) (by omega)];omega
   have hB:=H3
   have hB2:oU (18+k1)<=oU 22:=Aw (by omega)
   have hB3:=En (18+k1)
   rw[ed]
   refine aP (xH b l hb (18+k1) (by omega) (zm e []) w1 hats2 q1 (by omega)) (n6 b q1 _ _ (by omega)) ?_
   rintro r o ⟨q2,d1,d2,⟨f,rfl,f1,f2⟩,rfl⟩
   simp only[↓zq,zs,af,zt,aM,hb.has,aL]
   repeat refine⟨by omega,?_⟩
   have ht:=CZ (f.sz+1) f (by omega) f1 (by omega)
   rw[dz]at ht
   refine aj ht ?_
   simp only[↓zq,zs,af,zt,aM,hb.has,aL]
   exact⟨q2,by omega,by omega,⟨eT f,rfl,by omega⟩,rfl⟩
theorem MO(b:AV)(l:List UInt8)(hb:tV b l)(p:Nat)(hp:p<100000000000000):aq Tryz.prog 108 [.ref 0 0] [.cells [b,.v (.int .i64 (p:Int))]] (eS b p 200 (gf 200)):=by
 refine OL _ _ hb.has ?_
 unfold JY
 have hfar:qs=1000000000000000:=rfl
 refine aP (vC b l hb p 8 (by omega) (by decide)) (eS.ne ⟨0,rfl,fun h=>by omega,by omega⟩) ?_
 rintro r o ⟨q,h1,h2,⟨k,rfl,_,_⟩,rfl⟩
 have kn:∀(c m:Nat) (r:AV) (o:List Ob),c<=190->m<=200->eS b q c (gf m) r o->∃q':Nat,∃s:List UInt8,r=.v (.string (mk s))/\o=[.cells [b,.v (.int .i64 (q':Int))]]/\eS b p 200 (gf 200) (.v (.string (mk s))) [.cells [b,.v (.int .i64 (q':Int))]]:=by
  rintro c m r o hc hm ⟨q',g1,g2,⟨s,rfl,hs⟩,rfl⟩
  exact⟨q',s,rfl,rfl,q',by omega,by omega,⟨s,rfl,by omega⟩,rfl⟩
 have sh:=GB b l hb 3 (by omega) q [] _ (dT.of []) (by simp) (by simp) (by simp[nh];omega)
 have ty:=Pg b l hb q (by omega)
 have kw:=Dx b l hb q (by omega)
 simp only[↓zq,zs,af,aM,hb.has]
 refine⟨fun _=>?_,fun _=>⟨fun _=>?_,fun _=>⟨fun _=>?_,fun _=>⟨fun _=>?_,fun _=>?_⟩⟩⟩⟩
 ·refine aP ty (eS.ne ⟨[],rfl,by simp⟩) ?_
  intro r o hr
  obtain⟨q',s,rfl,rfl,hd⟩:=kn _ _ r o (by omega) (by omega) hr
  simp only[↓zq,zs,af,aM,hb.has];exact hd
 ·refine aP sh (eS.ne ⟨[],rfl,by simp⟩) ?_
  intro r o hr
  obtain⟨q',s,rfl,rfl,hd⟩:=kn _ _ r o (by simp[nh]) (by simp[na]) hr
  simp only[↓zq,zs,af,aM,hb.has];exact hd
 ·refine aP sh (eS.ne ⟨[],rfl,by simp⟩) ?_
  intro r o hr
  obtain⟨q',s,rfl,rfl,hd⟩:=kn _ _ r o (by simp[nh]) (by simp[na]) hr
  simp only[↓zq,zs,af,aM,hb.has];exact hd
 ·refine aP sh (eS.ne ⟨[],rfl,by simp⟩) ?_
  intro r o hr
  obtain⟨q',s,rfl,rfl,hd⟩:=kn _ _ r o (by simp[nh]) (by simp[na]) hr
  simp only[↓zq,zs,af,aM,hb.has];exact hd
 ·refine aP kw (eS.ne ⟨[],rfl,by simp⟩) ?_
  intro r o hr
  obtain⟨q',s,rfl,rfl,hd⟩:=kn _ _ r o (by omega) (by omega) hr
  simp only[↓zq,zs,af,aM,hb.has];exact hd
def Ox:AV->Prop:=fun r=>∃s t:Nm,r=.cG [.v (.string (mk s)),.v (.string (mk t))]
theorem OK(b:AV)(l:List UInt8)(hb:tV b l)(p:Nat)(hp:p<10000000000000):aq Tryz.prog 51 [.ref 0 0] [.cells [b,.v (.int .i64 (p:Int))]] (eS b p 50000000000 Ox):=by
 refine O6 _ _ hb.has ?_
 unfold Mf
 refine aP (MO b l hb p (by omega)) (eS.ne ⟨[],rfl,by simp⟩) ?_
 rintro r o ⟨q,h1,h2,⟨s,rfl,_⟩,rfl⟩
 simp only[↓zq,zs,af,aM,hb.has]
 refine aP (Oe b l hb q (by omega) s) (eS.ne ⟨[],rfl,by simp⟩) ?_
 rintro r o ⟨q1,g1,g2,⟨t,rfl,_⟩,rfl⟩
 simp only[↓zq,zs,af,aM,hb.has]
 exact⟨q1,by omega,by omega,⟨s,t,rfl⟩,rfl⟩
end Go.Proofs.Trees
namespace Go.Proofs.Trees
open Go Go.VL Go.RowKit
noncomputable def mA (s x c:Nm):Option (Ty×Vl):=(qz s).bind fun t=>(mh s x).bind fun d=>(mM d c 100).map fun c'=>(t,c')
structure PX(s x c:Nm)(t:Ty)(w:Vl):Prop where
 cl:qz s=some t
 PR:fj x=true
 CY:dL t w=true
 ty:∀v,vT 100 v (.name x)=true->vT 100 (cO t w v) t=true
 Jz:∀v,(w,v)∈bP t (.nm x) (cO t w v)
 iB:w.iB 100
 nd:w.nodes<=200
 dN:c=w.dN
theorem pA{s x c:Nm}{t:Ty}{w:Vl}(h:mA s x c=some (t,w)):PX s x c t w:=by
 unfold mA at h
 obtain⟨t',ht,h⟩:=a7.1 h
 obtain⟨d,hd,h⟩:=a7.1 h
 obtain⟨w',hw,h⟩:=Option.map_eq_some_iff.1 h
 cases h
 obtain⟨t2,D,h1,h2,h3,h4,h5⟩:=yu hd
 rw[mQ ht]at h1;cases h1
 obtain⟨e,tD,m,g1,g2,g3,g4,g5,g6,g7⟩:=kM hw
 have hm:m=100:=by omega
 subst hm
 have:=mQ g3
 rw[h5]at this;cases this
 rw[kp g4]at g7
 obtain⟨e2,he2,hw2,hte2,_,_⟩:=lN (mQ ht)
 have hlc:jv t 0:=hte2 ▸ hw2.pu.1
 have hc0:vT 100 w (eJ yK D)=true:=by rw[gm];exact g7
 refine⟨ht,h2,tU 100 w.nodes w (ap _) t x D yK h3 mC hlc hc0,fun v hv=>?_,fun v=>?_,(gH g2).2.1,(gH g2).2.2,lC g2⟩
 ·have:=nV 100 w.nodes w (ap _) t x D yK h3 mC hlc hc0 v (by rw[gm];exact hv)
  rw[gm]at this;exact this
 ·exact oM 100 w.nodes w (ap _) t x D yK h3 mC hlc hc0 v _ (ap _)
def Fi(s x c:Nm):AV->List Ob->Prop:=fun r o=>o=[]/\∃p,LK.ptr.has p/\r=.cG [p,iK ((mA s x c).map (·.2))]/\∀t w,mA s x c=some (t,w)->p=t.av
theorem NR(s x c:Nm):aq Tryz.prog 45 [.v (.string (mk s)),.v (.string (mk x)),.v (.string (mk c))] [] (Fi s x c):=by
 refine M5 _ _ _ ?_
 unfold K9
 refine aj (La s) ?_
 simp only[↓zq,zs,af,zt,fD]
 refine aj (OS s x) ?_
 rw[wT]
 simp only[↓zq,zs,af,zt,fD]
 have no:mA s x c=none->∀p q:AV,p=kB->q=kB->Fi s x c (.cG [p,q]) []:=fun h p q hp hq=>⟨rfl,p,by rw[hp];exact(jg).mpr trivial,by rw[h,hq];rfl,fun t w h'=>by rw[h]at h';cases h'⟩
 cases q:qz s with
 |
  none =>
  have e0:mA s x c=none:=by unfold mA;rw[q];rfl
  simp only[hZ,↓zq,zs,af]
  exact⟨fun _=>no e0 _ _ rfl rfl,fun h=>(by cases h)⟩
 |
  some t =>
  simp only[hZ,↓zq,zs,af,fA]
  refine⟨fun h=>(by cases h),fun _=>?_⟩
  cases q2:mh s x with
  |
   none =>
   have e0:mA s x c=none:=by unfold mA;rw[q,q2];rfl
   exact⟨fun _=>no e0 _ _ rfl rfl,fun h=>(by cases h)⟩
  |
   some d =>
   have e0:mA s x c=(mM d c 100).map fun c'=>(t,c'):=by unfold mA;rw[q,q2];rfl
   simp only[co,cT]
   refine⟨fun h=>(by cases h),fun _=>?_⟩
   refine aj (HK d c 100) ?_
   simp only[↓zq,zs,af,zt,fD,gx,aG]
   refine⟨rfl,t.av,(aG _).mpr trivial,?_,fun t' w h=>?_⟩
   ·rw[e0];cases mM d c 100<;>rfl
   ·rw[e0]at h
    obtain⟨w',_,h⟩:=Option.map_eq_some_iff.1 h;cases h;rfl
theorem Pj(s x c:Nm):∃r o,Fi s x c r o:=by
 cases q:mA s x c with
 |none=>exact⟨_,_,rfl,kB,(jg).mpr trivial,rfl,fun t w h=>by rw[q]at h;cases h⟩
 |some tw=>exact⟨_,_,rfl,tw.1.av,(aG _).mpr trivial,rfl,fun t w h=>by rw[q]at h;cases h;rfl⟩
theorem OM(s x c:Nm):aq Tryz.prog 15 [.v (.string (mk s)),.v (.string (mk x)),.v (.string (mk c))] [] (bC (.v (.bool (mA s x c).isSome))):=by
 refine OJ _ _ _ ?_
 unfold Jt
 refine aP (Ax s) (lO.ne _ _ (fun h=>h)) ?_
 rintro r o ⟨c0,d0,hd,rfl,hh⟩
 have hhas:bB [.str,.sl] [.v (.string (mk c0)),d0] 0:=by simp[bB,dq,hd]
 simp only[↓zq,zs,af,zt]
 refine⟨hhas,aj (MV s x) ?_⟩
 rw[wT]
 simp only[↓zq,zs,af,zt]
 have hce:(ic s).isSome=(qz s).isSome:=by
  cases q:ic s with
  |none=>rw[jL q];rfl
  |some e=>obtain⟨t,h1,_⟩:=fX q;rw[h1];rfl
 rw[hce]
 unfold mA
 refine⟨fun h1=>⟨fun h2=>?_,fun h2=>?_⟩,fun h1=>?_⟩
 ·obtain⟨t,ht⟩:=bz.1 h1
  obtain⟨d,hd⟩:=bz.1 h2
  rw[hd]
  refine aj (GI d c 100) ?_
  simp only[↓zq,zs,af,zt,ht,hd,aZ,Option.isSome_map]
  exact⟨rfl,rfl⟩
 ·have:mh s x=none:=by cases q:mh s x<;>simp[q]at h2 |-
  rw[this];cases qz s<;>exact⟨rfl,rfl⟩
 ·have:qz s=none:=by cases q:qz s<;>simp[q]at h1 |-
  rw[this];exact⟨rfl,rfl⟩
end Go.Proofs.Trees
namespace Go.Proofs.Trees
open Go Go.VL Go.RowKit
def Dy(t:Ty)(w:Vl)(k:Nat):Option Nm:=if(cO t w (.el k)).nodes<=200 then some (cO t w (.el k)).dN else none
noncomputable def Hf (s x c e:Nm):Option Nm:=(mA s x c).bind fun tc=>(eC e).bind fun k=>Dy tc.1 tc.2 k
theorem qL{e:Nm}{k:Nat}(h:eC e=some k):pT e=some (.el k)/\e=uk k/\k<100:=by
 obtain⟨rfl,hk⟩:=pi h
 exact⟨nO (v:=.el k) hk (by simp[Vl.nodes]),rfl,hk⟩
theorem Fs{e:Nm}{k:Nat}(h:pT e=some (.el k)):eC e=some k:=by
 have h1:=lC h
 have h2:k<100:=(gH h).2.1
 have h3:e=uk k:=h1
 rw[h3];exact rb k h2
theorem uh(t:Ty)(c:Vl){k:Nat}(hc:c.iB 100)(hk:k<100)(hn:c.nodes<=200):(cO t c (.el k)).iB 100/\(cO t c (.el k)).nodes<=201:=by
 refine⟨uF 100 t c (.el k) hc hk,?_⟩
 have:=vX t c (.el k)
 simp only[Vl.nodes]at this;omega
theorem xj{s:Nm}{e:E}{t:Ty}{w:Vl}(hc:ic s=some e)(A:Ask e [] t)(hb:w.iB 100)(hv:vT 100 w t=true):mM s w.dN 100=if w.nodes<=200 then some w else none:=by
 unfold mM
 rw[hc]
 by_cases hn:w.nodes<=200
 ·rw[nO hb hn,if_pos hn]
  simp only[show (100:Int).toNat=100 from rfl,kp A,hv,and_true]
  rw[if_pos (by omega)]
 ·rw[if_neg hn]
  cases q:pT w.dN with
  |none=>rfl
  |
   some w' =>
   have h1:=lC q
   obtain⟨_,h2,h3⟩:=gH q
   have:=tS hb h2 h1
   subst this
   exact absurd h3 hn
theorem MA(s x c e:Nm):aq Tryz.prog 16 [.v (.string (mk s)),.v (.string (mk x)),.v (.string (mk c)),.v (.string (mk e))] [] (bC (j4 (Hf s x c e))):=by
 refine N2 _ _ _ _ ?_
 unfold H4
 refine aP (NR s x c) (Pj s x c) ?_
 rintro r o ⟨rfl,p,hp,rfl,hpe⟩
 simp only[↓zq,zs,af,zt,gx,eq_true hp]
 refine aj (JB e) ?_
 simp only[↓zq,zs,af,zt,gx,eq_true hp]
 unfold Hf
 cases q:mA s x c with
 |
  none =>
  simp only[Option.map_none,bO,iK,↓zq,zs,af]
  exact⟨fun _=>⟨rfl,rfl⟩,fun _=>⟨fun _=>⟨rfl,rfl⟩,fun h=>(by cases h)⟩⟩
 |
  some tw =>
  obtain⟨t,w⟩:=tw
  have X:=pA q
  rw[hpe t w q]
  simp only[cv,aZ,iK,↓zq,zs,af,fA,aG,eZ,aN]
  refine⟨fun h=>(by cases h),fun _=>⟨fun h=>(by cases h),fun _=>?_⟩⟩
  cases q2:pT e with
  |
   none =>
   have:eC e=none:=by
    cases q3:eC e with
    |none=>rfl
    |some k=>rw[(qL q3).1]at q2;cases q2
   rw[this]
   simp only[iK,↓zq,zs,af,bO]
   exact⟨fun _=>⟨rfl,rfl⟩,fun h=>(by cases h)⟩
  |
   some uu =>
   simp only[iK,↓zq,zs,af,eZ,aN]
   refine⟨fun h=>(by cases h),fun _=>?_⟩
   have no:(∀k,uu≠.el k)->eC e=none:=fun hu=>by
    cases q3:eC e with
    |none=>rfl
    |some k=>rw[(qL q3).1]at q2;cases q2;exact absurd rfl (hu k)
   cases uu with
   |
    el k =>
    have hk:=Fs q2
    have hk1:=(qL hk).2.2
    rw[hk]
    simp only[Vl.cq,↓zq,zs,af,aZ]
    repeat refine⟨by omega,?_⟩
    refine fun _=>?_
    have hpl:=Ea w.nodes w (ap _) t (.el k) X.CY kB [] .nil x kB ((jg).mpr trivial)
    simp only[Vl.cq]at hpl
    refine aj hpl ?_
    obtain⟨hb,hn⟩:=uh t w X.iB hk1 X.nd
    simp only[↓zq,zs,af,zt,aN]
    refine aj (My _ hb (by omega)) ?_
    unfold Dy
    split<;>simp[j4,↓zq,zs,af,zt,bC]
   |u=>rw[no fun k h=>by cases h];simp[Vl.cq,↓zq,zs,af,j4,bC]
   |l v=>rw[no fun k h=>by cases h];simp[Vl.cq,↓zq,zs,af,j4,bC]
   |r v=>rw[no fun k h=>by cases h];simp[Vl.cq,↓zq,zs,af,j4,bC]
   |f v=>rw[no fun k h=>by cases h];simp[Vl.cq,↓zq,zs,af,j4,bC]
   |p a b=>rw[no fun k h=>by cases h];simp[Vl.cq,↓zq,zs,af,j4,bC]
theorem Km(s x c e:Nm):aq Tryz.prog 19 [.v (.string (mk s)),.v (.string (mk x)),.v (.string (mk c)),.v (.string (mk e))] [] (bC (j4 (Hf s x c e))):=by
 refine Pr _ _ _ _ ?_
 unfold Ld
 refine aP (Ax s) (lO.ne _ _ (fun h=>h)) ?_
 rintro r o ⟨c0,d0,hd,rfl,hh⟩
 have hhas:bB [.str,.sl] [.v (.string (mk c0)),d0] 0:=by simp[bB,dq,hd]
 simp only[↓zq,zs,af,zt]
 refine⟨hhas,?_⟩
 refine aP (FG c) (lO.ne _ _ (fun h=>by simpa using h)) ?_
 rintro r o ⟨c1,d1,hd1,rfl,hh1⟩
 have hhas1:bB [.str,.sl] [.v (.string (mk c1)),d1] 0:=by simp[bB,dq,hd1]
 simp only[↓zq,zs,af,zt]
 refine⟨hhas1,aj (OM s x c) ?_⟩
 unfold Hf
 cases q:mA s x c with
 |
  none =>
  simp only[cn,bO,↓zq,zs,af]
  exact⟨fun _=>⟨rfl,rfl⟩,fun h=>(by cases h)⟩
 |
  some tw =>
  obtain⟨t,w⟩:=tw
  have X:=pA q
  simp only[co,aZ,↓zq,zs,af]
  refine⟨fun h=>(by cases h),fun _=>aj (FX e) ?_⟩
  simp only[↓zq,zs,af,zv]
  cases q3:eC e with
  |
   none =>
   simp only[bO]
   exact⟨fun _=>⟨rfl,rfl⟩,fun h=>absurd (by decide) h⟩
  |
   some k =>
   obtain⟨_,rfl,hk⟩:=qL q3
   simp only[aZ]
   refine⟨fun h=>by omega,fun _=>?_⟩
   have hce:∃e0,ic s=some e0:=by
    cases q4:ic s with
    |none=>have:=X.cl;rw[jL q4]at this;cases this
    |some e0=>exact⟨e0,rfl⟩
   obtain⟨e0,he0⟩:=hce
   obtain⟨t',h1,hA,_⟩:=fX he0
   rw[X.cl]at h1;cases h1
   obtain⟨e1,he1,hce1⟩:=hh (by rw[he0];rfl)
   rw[he0]at he1;cases he1
   have hwv:pT c=some w:=by rw[X.dN];exact nO X.iB X.nd
   obtain⟨e2,he2,hce2⟩:=hh1 (by rw[hwv];rfl)
   rw[hwv]at he2;cases he2
   rw[dz]at hce1 hce2
   rw[hce1,hce2]
   have hpl:aq Tryz.prog 58 [.agg [.v (.string (mk e0.at)),e0.sp],.v (.string (mk x)),.agg [.v (.string (mk w.cB.at)),w.cB.sp],.agg [.v (.string (mk (uk k))),.v (.slice none 0 0)]] [] (bC (.agg [.v (.string (mk (cO t w (.el k)).cB.at)),(cO t w (.el k)).cB.sp])):=DW w.nodes w (ap _) e0 [] t hA X.CY x (.el k)
   refine aj hpl ?_
   obtain⟨hb,hn⟩:=uh t w X.iB hk X.nd
   have htl:=ii _ hb
   have ht:=Cv (cO t w (.el k)).cB (mI _) (by show (cO t w (.el k)).dN.length<=900000;omega)
   rw[dz]at ht
   simp only[↓zq,zs,af,zt,aL]
   repeat refine⟨by omega,?_⟩
   refine aj ht ?_
   simp only[↓zq,zs,af,zt]
   refine aj (GI s _ 100) ?_
   have hv:=xj he0 hA hb (X.ty (.el k) (by simp[vT,hk]))
   have hv:mM s (eT (cO t w (.el k)).cB) 100=if(cO t w (.el k)).nodes<=200 then some (cO t w (.el k))else none:=hv
   rw[hv]
   unfold Dy
   split<;>simp[j4,↓zq,zs,af,zt,bC]
theorem nt{t:Ty}{tg:Tg}{w:Vl}(hb:w.iB 100)(hn:w.nodes<=201):(bP t tg w).length<=1000/\∀h,h∈bP t tg w->h.1.dN.length<=900000/\h.2.dN.length<=900000:=by
 have h1:=rF t tg w
 have h2:=rM (bP t tg w)
 refine⟨by omega,fun h hh=>?_⟩
 obtain⟨b1,b2⟩:=fZ 100 _ _ _ w h hb hh
 have h3:=ii _ b1
 have h4:=ii _ b2
 have h5:=jt hh
 omega
noncomputable def Hi (s x v:Nm):Option (List Hl):=(qz s).bind fun t=>(mM s v 100).bind fun w=>if fj x=true then some (bP t (.nm x) w)else none
theorem vQ{s x v:Nm}{w:Vl}(h:mM s v 100=some w):∃e t,qz s=some t/\ic s=some e/\Ask e [] t/\fq 100 w (e,[])=true/\w.iB 100/\w.nodes<=200/\pT v=some w/\Hi s x v=if fj x=true then some (bP t (.nm x) w)else none:=by
 obtain⟨e,t,m,h1,h2,h3,h4,h5,h6,h7⟩:=kM h
 have hm:m=100:=by omega
 subst hm
 exact⟨e,t,h3,h1,h4,h7,(gH h2).2.1,(gH h2).2.2,h2,by unfold Hi;rw[h3,aZ,h,aZ]⟩
theorem AJ{s x v:Nm}(h:mM s v 100=none):Hi s x v=none:=by
 unfold Hi;rw[h];cases qz s<;>rfl
theorem ND(s x v:Nm):aq Tryz.prog 20 [.v (.string (mk s)),.v (.string (mk x)),.v (.string (mk v))] [] (bC (Mp (Hi s x v))):=by
 refine Ph _ _ _ ?_
 unfold H8
 refine aj (HK s v 100) ?_
 cases q:mM s v 100 with
 |
  none =>
  rw[AJ q]
  simp only[↓zq,zs,af,fD,iK,Mp]
  exact⟨fun _=>⟨rfl,rfl⟩,fun h=>(by cases h)⟩
 |
  some w =>
  obtain⟨e,t,h1,h2,hA,hv,hb,hn,_,hm⟩:=vQ (x:=x) q
  rw[h1,hm]
  simp only[↓zq,zs,af,hZ,aG,iK,aN,eZ]
  refine⟨fun h=>(by cases h),fun _=>aj (DD x) ?_⟩
  simp only[↓zq,zs,af]
  refine⟨fun h=>?_,fun h=>?_⟩
  ·rw[if_neg (by rw[h];simp)];exact⟨rfl,rfl⟩
  ·rw[if_pos h]
   have hh:aq Tryz.prog 61 [.agg [t.av,kB],w.cq,.agg [.v (.string (mk x)),kB]] [] (bC (.sl (iq (bP t (.nm x) w)))):=Eb 100 w.nodes w (ap _) e [] t hA hv (by simp;omega) kB [] .nil rfl (.nm x) x kB (.nm x [])
   refine aj hh ?_
   obtain⟨g1,g2⟩:=nt (t:=t) (tg:=.nm x) hb (by omega)
   simp only[↓zq,zs,af,zt]
   refine aj (Og _ g1 (fun h hm=>(g2 h hm).1) (fun h hm=>(g2 h hm).2)) ?_
   simp only[↓zq,zs,af,Mp]
   exact⟨rfl,rfl⟩
def I1:AV->List Ob->Prop:=fun r o=>o=[]/\∃(l:List Hl) (b:Bool),l.length<=1000/\r=.cG [.sl (gF l),.v (.bool b)]
theorem I1.ne:∃r o,I1 r o:=⟨_,_,rfl,[],false,by simp,rfl⟩
theorem Nw(s x v:Nm):aq Tryz.prog 53 [.v (.string (mk s)),.v (.string (mk x)),.v (.string (mk v))] [] I1:=by
 refine Np _ _ _ ?_
 unfold L0
 have no:I1 (.cG [.sl [],.v (.bool false)]) []:=⟨rfl,[],false,by simp,rfl⟩
 refine aP (Ax s) (lO.ne _ _ (fun h=>h)) ?_
 rintro r o ⟨c0,d0,hd,rfl,hh⟩
 have hhas:bB [.str,.sl] [.v (.string (mk c0)),d0] 0:=by simp[bB,dq,hd]
 simp only[↓zq,zs,af,zt]
 refine⟨hhas,?_⟩
 refine aP (FG v) (lO.ne _ _ (fun h=>by simpa using h)) ?_
 rintro r o ⟨c1,d1,hd1,rfl,hh1⟩
 have hhas1:bB [.str,.sl] [.v (.string (mk c1)),d1] 0:=by simp[bB,dq,hd1]
 simp only[↓zq,zs,af,zt]
 refine⟨hhas1,aj (GI s v 100) ?_⟩
 simp only[↓zq,zs,af]
 refine⟨fun _=>no,fun h=>?_⟩
 obtain⟨w,q⟩:=bz.1 h
 obtain⟨e,t,h1,h2,hA,hv,hb,hn,hwv,_⟩:=vQ (x:=x) q
 refine aj (zH x) ?_
 simp only[↓zq,zs,af]
 refine⟨fun _=>no,fun hp=>?_⟩
 obtain⟨e1,he1,hce1⟩:=hh (by rw[h2];rfl)
 rw[h2]at he1;cases he1
 obtain⟨e2,he2,hce2⟩:=hh1 (by rw[hwv];rfl)
 rw[hwv]at he2;cases he2
 rw[dz]at hce1 hce2
 rw[hce1,hce2]
 have hH:=D1 100 w.nodes w (ap _) e [] t hA hv (by simp;omega) x (.inl hp)
 have htg:nM x (names [])=.nm x:=rfl
 rw[htg]at hH
 unfold Mm at hH
 refine aj hH ?_
 obtain⟨g1,g2⟩:=nt (t:=t) (tg:=.nm x) hb (by omega)
 simp only[↓zq,zs,af,zt]
 refine aj (O5 _ g1 (fun h hm=>(g2 h hm).1) (fun h hm=>(g2 h hm).2)) ?_
 simp only[↓zq,zs,af]
 exact⟨rfl,_,true,g1,rfl⟩
def NY:AV->List Ob->Prop:=fun r o=>o=[]/\∃s x c e:Nm,r=.cG [.v (.string (mk s)),.v (.string (mk x)),.v (.string (mk c)),.v (.string (mk e))]
theorem Pa(a:AV)(ha:ye a):aq Tryz.prog 18 [a] [] NY:=by
 refine Pm _ ha.1 ?_
 unfold KM
 have hfar:qs=1000000000000000:=rfl
 refine aP (Ou a ha) Mo.ne ?_
 rintro r o ⟨b,l,hb,rfl,rfl⟩
 simp only[↓zq,zs,af,zt,hb.has]
 refine⟨by simp[bB,hb.has,k8],aP (OK b l hb 0 (by omega)) (eS.ne ⟨[],[],rfl⟩) ?_⟩
 rintro r o ⟨q,a1,a2,⟨s,t,rfl⟩,rfl⟩
 simp only[↓zq,zs,af,zt,aM,hb.has]
 have hname:aq Tryz.prog 52 [.ref 0 0] [.cells [b,.v (.int .i64 (q:Int))]] (eS b q 1 (gf 2)):=by
  refine Oy _ _ hb.has ?_
  unfold JQ
  refine aP (A8 b l hb q (by omega) _ _ (.of [_,_,_,_,_,_]) (by simp) (by simp)) (eS.ne ⟨_,ai,rfl⟩) ?_
  rintro r o ⟨q1,g1,g2,hr,rfl⟩
  obtain⟨z,rfl,hz⟩:=j0.dN (n:=2) (by decide) hr
  simp only[↓zq,zs,af,aM,hb.has]
  exact⟨q1,g1,g2,⟨z,rfl,hz⟩,rfl⟩
 refine aP hname (eS.ne ⟨[],rfl,by simp⟩) ?_
 rintro r o ⟨q1,b1,b2,⟨x,rfl,_⟩,rfl⟩
 simp only[↓zq,zs,af,zt,aM,hb.has]
 refine aP (Nw s x t) I1.ne ?_
 rintro r o ⟨rfl,hl,ok,hll,rfl⟩
 simp only[↓zq,zs,af,zt,aM,hb.has]
 refine aP (vC b l hb q1 5 (by omega) (by decide)) (eS.ne ⟨0,rfl,fun h=>by omega,by omega⟩) ?_
 rintro r o ⟨q2,c1,c2,⟨k0,rfl,hk0,_⟩,rfl⟩
 have hk0:=hk0 (by omega)
 simp only[↓zq,zs,af,zt,aM,hb.has]
 refine aj (F4 (k0+1) k0 (by omega) (by omega)) ?_
 have hd:dd k0=[a8 (48+k0)]:=eH (by omega)
 simp only[↓zq,zs,af,zt,hd,iJ]
 refine⟨by simp,?_⟩
 have last:∀(q3:Nat),q3<=100000000000->aq Tryz.prog 55 [.ref 0 0,.sl (ck [[101]++[a8 (48+k0)],[117],[]])] [.cells [b,.v (.int .i64 (q3:Int))]] (eS b q3 1 (j0 [[101]++[a8 (48+k0)],[117],[]])):=fun q3 h3=>A8 b l hb q3 (by omega) _ _ (.of _) (by simp) (by simp)
 refine⟨fun _=>⟨fun hpos=>?_,fun _=>?_⟩,fun _=>?_⟩
 ·refine aP (vC b l hb q2 8 (by omega) (by decide)) (eS.ne ⟨0,rfl,fun h=>by omega,by omega⟩) ?_
  rintro r o ⟨q3,d1,d2,⟨k,rfl,_,_⟩,rfl⟩
  simp only[↓zq,zs,af,zt,aM,hb.has]
  refine⟨fun _=>?_,fun _=>?_⟩
  ·obtain⟨n,hn1,hn2,hn3⟩:∃n:Nat,(if(hl.length:Int)<100 then(hl.length:Int)else 100)=(n:Int)/\1<=n/\n<=hl.length:=by
    split
    ·exact⟨hl.length,rfl,by omega,ap _⟩
    ·exact⟨100,rfl,by omega,by omega⟩
   rw[hn1]
   refine aP (vC b l hb q3 n (by omega) (by omega)) (eS.ne ⟨0,rfl,fun h=>by omega,by omega⟩) ?_
   rintro r o ⟨q4,e1,e2,⟨k2,rfl,hk,_⟩,rfl⟩
   have hk:=hk hn2
   have hlt:k2<hl.length:=by omega
   simp only[↓zq,zs,af,zt,aM,hb.has,iJ,ca,ru hlt]
   repeat refine⟨by omega,?_⟩
   exact⟨rfl,s,x,_,_,rfl⟩
  ·refine aP (last q3 (by omega)) (eS.ne ⟨_,ai,rfl⟩) ?_
   rintro r o ⟨q9,_,_,⟨e9,_,rfl⟩,rfl⟩
   simp only[↓zq,zs,af,zt,aM,hb.has]
   exact⟨rfl,s,x,t,e9,rfl⟩
 ·refine aP (last q2 (by omega)) (eS.ne ⟨_,ai,rfl⟩) ?_
  rintro r o ⟨q9,_,_,⟨e9,_,rfl⟩,rfl⟩
  simp only[↓zq,zs,af,zt,aM,hb.has]
  exact⟨rfl,s,x,t,e9,rfl⟩
 ·refine aP (last q2 (by omega)) (eS.ne ⟨_,ai,rfl⟩) ?_
  rintro r o ⟨q9,_,_,⟨e9,_,rfl⟩,rfl⟩
  simp only[↓zq,zs,af,zt,aM,hb.has]
  exact⟨rfl,s,x,t,e9,rfl⟩
end Go.Proofs.Trees
namespace Go.Proofs.Trees
open Go Go.VL Go.RowKit
def wi(c v:Nm)(l:List Hl):Bool:=l.any fun h=>decide (h.1.dN=c)&&decide (h.2.dN=v)
theorem Cs(c v:Nm)(l:List Hl)(hl:l.length<=1000)(p:Bool):∀(k i:Nat) (b:Bool),i+k=l.length->b=wi c v (l.take i) ->
 EJ [.v (.string (mk c)),.v (.string (mk v)),.sl (gF l),.v (.bool p),.v (.bool b),.v (.int .i64 (i:Int))] [] (iG 1 [.v (.bool p),.v (.bool (wi c v l))] [])
 |
  0,i,b,hi,hb=>by
  have:i=l.length:=by omega
  subst this
  refine JA _ _ _ _ _ _ ?_
  simp only[F9,↓zq,zs,af,iJ]
  rw[List.take_length]at hb
  exact⟨fun h=>by omega,fun _=>⟨rfl,by rw[hb],rfl⟩⟩
 |
  k+1,i,b,hi,hb=>by
  have hlt:i<l.length:=by omega
  have step:wi c v (l.take (i+1))=(b||(decide ((l[i]).1.dN=c)&&decide ((l[i]).2.dN=v))):=by
   rw[hb];unfold wi
   rw[List.take_succ_eq_append_getElem hlt,List.any_append]
   simp only[List.any_cons,List.any_nil,Bool.or_false]
  refine JA _ _ _ _ _ _ ?_
  simp only[F9,↓zq,zs,af,zt,iJ,ru hlt,ca]
  rw[bA i (by omega)]
  refine⟨fun _=>⟨fun hbt=>?_,fun hbf=>?_⟩,fun h=>by omega⟩
  ·exact Cs c v l hl p k (i+1) true (by omega) (by rw[step,hbt];rfl)
  ·repeat refine⟨by omega,?_⟩
   refine⟨fun h1=>?_,fun h1=>?_⟩
   ·repeat refine⟨by omega,?_⟩
    refine Cs c v l hl p k (i+1) _ (by omega) ?_
    rw[step,hbf,cu]
    simp[h1]
   ·refine Cs c v l hl p k (i+1) false (by omega) ?_
    rw[step,hbf]
    simp[h1]
theorem Pd(a:AV)(ha:ye a):aq Tryz.prog 5 [a] [] (bC (.v (.bool true))):=by
 refine Pb _ ha.1 ?_
 simp only[IR,↓zq,zs,af,zt,bC]
 refine⟨ha.1,fun _=>trivial,fun _=>?_⟩
 refine aP (Pa a ha) ⟨_,_,rfl,[],[],[],[],rfl⟩ ?_
 rintro r o ⟨rfl,s,x,c,e,rfl⟩
 simp only[↓zq,zs,af,zt]
 refine aj (MA s x c e) ?_
 cases hr:Hf s x c e with
 |
  none =>
  simp only[j4,↓zq,zs,af,zt]
  refine aj (Km s x c e) ?_
  simp[hr,j4,↓zq,zs,af,zt]
 |
  some out =>
  have key:∃l,Hi s x out=some l/\l.length<=1000/\∃q,q∈l/\q.1.dN=c/\q.2.dN=e:=by
   have h:=hr
   unfold Hf at h
   obtain⟨⟨t,w⟩,q,h⟩:=a7.1 h
   obtain⟨k,hk,h⟩:=a7.1 h
   have X:=pA q
   obtain⟨_,he,hk1⟩:=qL hk
   obtain⟨hb,_⟩:=uh t w (k:=k) X.iB hk1 X.nd
   unfold Dy at h
   split at h
   ·rename_i hn
    cases h
    have hce:∃e0,ic s=some e0:=by
     cases q4:ic s with
     |none=>have:=X.cl;rw[jL q4]at this;cases this
     |some e0=>exact⟨e0,rfl⟩
    obtain⟨e0,he0⟩:=hce
    obtain⟨t',h1,hA,_⟩:=fX he0
    rw[X.cl]at h1;cases h1
    have hv:=xj he0 hA hb (X.ty (.el k) (by simp[vT,hk1]))
    rw[if_pos hn]at hv
    obtain⟨e2,t2,h1,h2,hA2,hv2,_,_,_,hm⟩:=vQ (x:=x) hv
    rw[X.cl]at h1;cases h1
    rw[if_pos X.PR]at hm
    exact⟨_,hm,(nt hb (by omega)).1,(w,.el k),X.Jz (.el k),X.dN.symm,he.symm⟩
   ·cases h
  obtain⟨l,h1,hll,q,h2,h3,h4⟩:=key
  simp only[j4,↓zq,zs,af,zt]
  refine aj (Km s x c e) ?_
  simp only[hr,j4,↓zq,zs,af,zt]
  refine⟨fun h=>by simp at h,fun _=>⟨fun h=>by simp at h,fun _=>⟨fun h=>by simp at h,fun _=>?_⟩⟩⟩
  refine aj (ND s x out) ?_
  simp only[h1,Mp,↓zq,zs,af,zt]
  refine cw (Cs c e l hll true l.length 0 false (by omega) (by simp[wi])) ?_
  have hh:wi c e l=true:=by
   unfold wi
   rw[bS]
   exact⟨q,h2,by simp[h3,h4]⟩
  simp only[↓zq,zs,af,zt,hh,bg,bx]
  simp
end Go.Proofs.Trees
