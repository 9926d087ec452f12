/-
  Part of a proof: Go functions read by values, trees of functions, their contracts.
-/
import Derived.Test.YtfdpbglppfohhaaGreatDoorP5
set_option linter.unusedVariables false
set_option linter.unusedSimpArgs false
open And renaming intro→aH
open Bool renaming and_eq_true→aq,eq_iff_iff→cw,or_eq_true→bB,true_and→cm
open ByteArray renaming toList→af
open Int renaming tmod→dC,toNat_natCast→bK
open List renaming all_cons→cT,all_eq_true→bR,append_assoc→bC,append_nil→cS,cons_append→aZ,drop_eq_getElem_cons→aU,drop_zero→bx,eq_nil_of_length_eq_zero→bJ,getD_cons_zero→bj,getD_eq_getElem?_getD→aa,getElem?_eq_getElem→bf,getElem_mem→bD,headD_cons→a8,length_append→ap,length_cons→au,length_map→co,length_nil→aG,map_cons→bI,mem_append→aM,mem_append_left→aC,mem_append_right→aA,mem_cons→aI,mem_cons_of_mem→al,mem_cons_self→aj,mem_map→ci,mem_singleton→aQ,nil_append→aT,tail_cons→bS
open Nat renaming le_add_right→cU,le_refl→aw,lt_of_lt_of_le→df,mod_lt→ep,mul_add→cM,mul_le_mul_right→aW,mul_one→dD,zero_add→a6,zero_le→dO
open Option renaming bind_eq_some_iff→bc,bind_none→bE,bind_some→a7,getD_some→cx,isSome_iff_exists→cB,isSome_none→bz,isSome_some→bn,map_some→cn
open UInt8 renaming ofNat→ba
namespace Go.Proofs.Trees
open Go Go.VL Go.RowKit
theorem Qb(F:List Nm)(hF:F.length<10000){e:E}(h:Wf e):∀(fr to:List Nm) (a b:AV) (k:Nat),cu a fr->cu b to->fr.length=to.length->(∀w,w∈fr->qh w)->fr.length+e.sz<10000->k+(F.length+1)*(cJ e fr).aD<99000000 ->
 an Tryz.prog 143 [.agg [.v (.string (mk e.at)),e.sp],a,b,.ref 0 0] [.cells [.vec 1,.v (.int .i64 (k:Int))],.vec 1 (bT F)] (dm (.agg [.v (.string (mk (gF F (cJ e fr) to k).1.at)),(gF F (cJ e fr) to k).1.sp]) [.cells [.vec 1,.v (.int .i64 ((gF F (cJ e fr) to k).2:Int))],.vec 1 (bT F)]):=by
 induction h with
 |
  @atom s hs =>
  intro fr to a b k ha hb hft hfr hl hk
  simp only[E.sz]at hl
  refine Cy _ _ _ _ _ _ ((bg _).mpr trivial) ha.1 hb.1 ?_
  have hz:∀c,(c=[48]\/c=[49])->cc c fr fr.length=none:=fun c hc=>(fk c fr).2 fun hm=>by
   obtain⟨h1,h2,h3⟩:=hfr c hm
   rcases hc with rfl|rfl
   ·exact h2 rfl
   ·exact h3 rfl
  have hq:gF F (cJ (.atom s) fr) to k=(match cc s fr fr.length with|some u=>.atom (jB to u)|none=>.atom s,k):=by
   simp only[cJ]
   by_cases h0:s=[48]
   ·rw[if_pos h0,hz s (.inl h0),h0];rfl
   ·rw[if_neg h0]
    by_cases h1:s=[49]
    ·rw[if_pos h1,hz s (.inr h1),h1];rfl
    ·rw[if_neg h1]
     cases cc s fr fr.length<;>rfl
  simp only[Ai,dR,↓zq,zs,ae,zt]
  refine⟨fun _=>⟨ha.1,?_⟩,fun h=>absurd h hs⟩
  rw[ha.len,wrap64 _ (by omega) (by omega)]
  refine fq (HQ s _ a b ((bg _).mpr trivial) F fr to (k:Int) ha hb hft (by omega) fr.length (aw _)) (fun ys o e=>?_) (fun ys o e=>?_)
  ·rw[hq]
   cases q:cc s fr fr.length<;>rw[q]at e<;>cases e
   simp only[↓zq,zs,ae,zt,ae,aL,bi,bg]
   exact⟨rfl,rfl⟩
  ·rw[hq]
   cases q:cc s fr fr.length<;>rw[q]at e<;>cases e
   simp only[↓zq,zs,ae,zt,ae,aL,bi]
   exact⟨rfl,rfl⟩
 |
  @plus x y hx hy i1 i2 =>
  intro fr to a b k ha hb hft hfr hl hk
  simp only[E.sz,E.iX]at hl
  rw[dL]at hk |-
  simp only[Ty.aD]at hk
  have hm:(F.length+1)*(1+(cJ x fr).aD+(cJ y fr).aD)=(F.length+1)+(F.length+1)*(cJ x fr).aD+(F.length+1)*(cJ y fr).aD:=by simp only[cM,dD]
  have hc:=ig F (cJ x fr) to k
  refine Cy _ _ _ _ _ _ ((bg _).mpr trivial) ha.1 hb.1 ?_
  have hP:=P3.of (.atom [43]) x y
  simp only[Ai,bF,toNat_one,bo,↓zq,zs,ae,zt,hP.1,hP.2.1,hP.2.2.1,hP.2.2.2,aS]
  refine⟨fun h=>absurd rfl h,fun _=>?_⟩
  refine ai (nC [43] x y) ?_
  simp only[↓zq,zs,ae,zt]
  refine⟨fun h=>by simp at h,fun _=>?_⟩
  repeat refine⟨by omega,?_⟩
  refine aY (i1 fr to a b k ha hb hft hfr (by omega) (by omega)) ?_
  simp only[↓zq,zs,ae,zt,aL,aS,a8,bS,Ob.es]
  repeat refine⟨by omega,?_⟩
  refine ai (nC [43] x y) ?_
  simp only[↓zq,zs,ae,zt]
  repeat refine⟨by omega,?_⟩
  refine aY (i2 fr to a b _ ha hb hft hfr (by omega) (by omega)) ?_
  simp only[↓zq,zs,ae,zt,aL,aS,a8,bS,Ob.es]
  repeat refine⟨by omega,?_⟩
  refine ai (zv _ _ _) ?_
  simp only[↓zq,zs,ae,zt,aS,bF]
  repeat refine⟨by omega,?_⟩
  exact⟨rfl,rfl⟩
 |
  @times x y hx hy i1 i2 =>
  intro fr to a b k ha hb hft hfr hl hk
  simp only[E.sz,E.iX]at hl
  rw[dj]at hk |-
  simp only[Ty.aD]at hk
  have hm:(F.length+1)*(1+(cJ x fr).aD+(cJ y fr).aD)=(F.length+1)+(F.length+1)*(cJ x fr).aD+(F.length+1)*(cJ y fr).aD:=by simp only[cM,dD]
  have hc:=ig F (cJ x fr) to k
  refine Cy _ _ _ _ _ _ ((bg _).mpr trivial) ha.1 hb.1 ?_
  have hP:=P3.of (.atom [42]) x y
  simp only[Ai,bF,toNat_one,bo,↓zq,zs,ae,zt,hP.1,hP.2.1,hP.2.2.1,hP.2.2.2,aS]
  refine⟨fun h=>absurd rfl h,fun _=>?_⟩
  refine ai (nC [42] x y) ?_
  simp only[↓zq,zs,ae,zt]
  refine⟨fun h=>by simp at h,fun _=>?_⟩
  repeat refine⟨by omega,?_⟩
  refine aY (i1 fr to a b k ha hb hft hfr (by omega) (by omega)) ?_
  simp only[↓zq,zs,ae,zt,aL,aS,a8,bS,Ob.es]
  repeat refine⟨by omega,?_⟩
  refine ai (nC [42] x y) ?_
  simp only[↓zq,zs,ae,zt]
  repeat refine⟨by omega,?_⟩
  refine aY (i2 fr to a b _ ha hb hft hfr (by omega) (by omega)) ?_
  simp only[↓zq,zs,ae,zt,aL,aS,a8,bS,Ob.es]
  repeat refine⟨by omega,?_⟩
  refine ai (zv _ _ _) ?_
  simp only[↓zq,zs,ae,zt,aS,bF]
  repeat refine⟨by omega,?_⟩
  exact⟨rfl,rfl⟩
 |
  @rc n y hn hy i =>
  intro fr to a b k ha hb hft hfr hl hk
  simp only[E.sz,E.iX]at hl
  rw[eX]at hk |-
  simp only[Ty.aD,dR]at hk
  have hm:(F.length+1)*(2+(cJ y (fr++[n])).aD)=(F.length+1)*2+(F.length+1)*(cJ y (fr++[n])).aD:=by simp only[cM]
  have hc:=ig F (cJ y (fr++[n])) (to++[tN (nx F k)]) (nx F k+1)
  obtain⟨g1,g2,_,_⟩:=gk F k
  refine Cy _ _ _ _ _ _ ((bg _).mpr trivial) ha.1 hb.1 ?_
  have hP:=P3.of (.atom dA) (.atom n) y
  simp only[Ai,bF,toNat_one,bo,↓zq,zs,ae,zt,hP.1,hP.2.1,hP.2.2.1,hP.2.2.2,aS]
  refine⟨fun h=>absurd rfl h,fun _=>?_⟩
  refine ai (nC dA (.atom n) y) ?_
  simp only[↓zq,zs,ae,zt]
  refine⟨fun _=>?_,fun h=>absurd rfl h⟩
  refine ai (yG (k+1) k (by omega) (by omega)) ?_
  have hd:=l8 (k+1) k (by omega)
  simp only[↓zq,zs,ae,zt,aZ,aT]
  refine⟨by simp[cD];omega,?_⟩
  refine cR (IK a b ha.1 hb.1 F (by omega) (mk []) _ ((bg _).mpr trivial) (F.length+1) k (by show nx F k<_;omega) (by omega)) ?_
  simp only[↓zq,zs,ae,zt,ae,aL,bi,bg,ha.1,hb.1,hP.1,hP.2.1,hP.2.2.1,hP.2.2.2,toNat_one,bo,aS]
  repeat refine⟨by omega,?_⟩
  have hnx:pz F (F.length+1) k=nx F k:=rfl
  rw[hnx]
  refine ai (zk fr a ha n (by omega)) ?_
  simp only[↓zq,zs,ae,zt]
  refine ai (zk to b hb (tN (nx F k)) (by omega)) ?_
  simp only[↓zq,zs,ae,zt]
  rw[bN (nx F k) (by omega)]
  have hmk:=zv dA (.atom (tN (nx F k))) (gF F (cJ y (fr++[n])) (to++[tN (nx F k)]) (nx F k+1)).1
  simp only[dR]at hmk
  refine aY (i (fr++[n]) (to++[tN (nx F k)]) _ _ (nx F k+1) (.of _) (.of _) (by simp[hft]) (fun w hw=>by
   rcases aM.1 hw with hw|hw
   ·exact hfr w hw
   ·simp only[aQ]at hw;rw[hw];exact hn) (by simp;omega) (by omega)) ?_
  simp only[↓zq,zs,ae,zt,aL,aS,a8,bS,Ob.es]
  repeat refine⟨by omega,?_⟩
  refine ai hmk ?_
  simp only[↓zq,zs,ae,zt,aS,bF]
  repeat refine⟨by omega,?_⟩
  exact⟨rfl,rfl⟩
theorem wF(l r:List Nm):bT (l++r)=bT l++bT r:=by simp[bT]
def qX(os:List E):List Nm:=os.flatMap fun o=>jX o [] []
theorem uF{os:List E}{i:Nat}(h:i<os.length):(E.bm os).getD i []=[.v (.string (mk (os[i]).at)),(os[i]).sp]:=by
 have:∀(os:List E) (i:Nat) (h:i<os.length),(E.bm os).getD i []=(os[i]).gX:=by
  intro os
  induction os with
  |nil=>intro i h;simp at h
  |
   cons o os ih =>
   intro i h
   cases i with
   |zero=>simp[E.bm]
   |succ i=>simpa[E.bm]using ih i (by simpa using h)
 rw[this os i h,fA]
theorem yJ(os:List E){i:Nat}(h:i<os.length):qX (os.drop i)=jX (os[i]) [] []++qX (os.drop (i+1)):=by
 unfold qX;rw[aU h,List.flatMap_cons]
theorem K9(a:AV)(os:List E)(ha:LK.sl.has a/\a.aN=E.bm os)(ho:∀o,o∈os->Wf o/\o.sz<5000)(hl:os.length<100)(t:ByteArray)(p:AV)(hp:LK.sl.has p):∀(k i:Nat) (F:List Nm),i+k=os.length->F.length<=5000+5000*i ->
 GW [a,.v (.int .i64 (i:Int))] [.cells [.v (.string t),p],zE,.vec 1 (bT F)] (jq 1 [] [.cells [.v (.string t),p],zE,.vec 1 (bT (F++qX (os.drop i)))])
 |
  0,i,F,hi,hF=>by
  refine JH _ _ _ _ _ _ _ ?_
  have:i=os.length:=by omega
  subst this
  simp only[Gs,↓zq,zs,ae,zt,ae,hp,bi,ha.1,ha.2,dZ,List.drop_length]
  exact⟨fun h=>by omega,fun _=>by simp[jq,qX]⟩
 |
  k+1,i,F,hi,hF=>by
  have hlt:i<os.length:=by omega
  obtain⟨hw,hsz⟩:=ho _ (bD hlt)
  have hfl:=fQ (os[i]) [] []
  refine JH _ _ _ _ _ _ _ ?_
  simp only[Gs,↓zq,zs,ae,zt,ae,hp,bi,ha.1,ha.2,dZ,uF hlt,aS,bK]
  refine⟨fun _=>?_,fun h=>by omega⟩
  repeat refine⟨by omega,?_⟩
  have hfre:=Ci hw [] [] (.sl []) (.of []) (by simp;omega)
  refine aY hfre ?_
  simp only[↓zq,zs,ae,zt,a8,bS,Ob.es,j3,<-wF]
  rw[bN i (by omega),yJ os hlt,<-bC]
  simp only[aG,a6]at hfl
  refine⟨⟨jW _,by omega⟩,?_⟩
  exact K9 a os ha ho hl t p hp k (i+1) _ (by omega) (by simp;omega)
def zx(e:E)(os:List E):List Nm:=jX e [] []++qX os
def yI(e:E)(os:List E):E:=(gF (zx e os) (cJ e []) [] 0).1
theorem CF{e:E}{os:List E}(h:e.sz<=2000)(ho:∀o,o∈os->Wf o/\o.sz<=2000)(hl:os.length<=2):(zx e os).length<=6000:=by
 have h1:=fQ e [] []
 have h2:∀(l:List E),(∀o,o∈l->o.sz<=2000)->(qX l).length<=2000*l.length:=by
  intro l
  induction l with
  |nil=>intro _;simp[qX]
  |
   cons o l ih =>
   intro hl
   have:=ih fun q hq=>hl q (al _ hq)
   have:=hl o aj
   have:=fQ o [] []
   simp only[qX,List.flatMap_cons,ap,au,aG]at *
   omega
 have:=h2 os fun o ho'=>(ho o ho').2
 simp only[zx,ap,aG]at *
 omega
theorem CT{e:E}(h:Wf e)(a:AV)(os:List E)(ha:LK.sl.has a/\a.aN=E.bm os)(he:e.sz<=2000)(ho:∀o,o∈os->Wf o/\o.sz<=2000)(hl:os.length<=2) :
 an Tryz.prog 106 [.agg [.v (.string (mk e.at)),e.sp],a] [] (bH (.agg [.v (.string (mk (yI e os).at)),(yI e os).sp])):=by
 refine Ov _ _ _ ((bg _).mpr trivial) ha.1 ?_
 unfold HS
 have hfl:=fQ e [] []
 simp only[aG,a6]at hfl
 have hap:=CF he ho hl
 have hats:(cJ e []).aD<=2000:=by
  rw[<-h.cX []]
  have:e.cX<=e.sz:=by
   clear hap hfl ha he ho hl
   induction h with
   |atom _=>simp[E.cX,E.sz]
   |plus _ _ i1 i2=>simp only[E.cX,E.eN,E.sz,E.iX];omega
   |times _ _ i1 i2=>simp only[E.cX,E.eN,E.sz,E.iX];omega
   |rc _ _ i=>simp only[E.cX,E.eN,E.sz,E.iX];omega
  omega
 have hfre:=Ci h [] [] (.sl []) (.of []) (by simp;omega)
 simp only[↓zq,zs,ae,zt]
 refine aY hfre ?_
 simp only[↓zq,zs,ae,zt,a8,bS,Ob.es]
 have hlp:=K9 a os ha (fun o hq=>⟨(ho o hq).1,by have:=(ho o hq).2;omega⟩) (by omega) (mk e.at) e.sp ((bg _).mpr trivial) os.length 0 (jX e [] []) (by omega) (by omega)
 rw[bx]at hlp
 refine cR hlp ?_
 simp only[↓zq,zs,ae,zt,ae,aL,bi,bg,a8,bS,Ob.es]
 have hmul:((zx e os).length+1)*(cJ e []).aD<=6001*2000:=Nat.mul_le_mul (by omega) hats
 have hren:=Qb (zx e os) (by omega) h [] [] (.sl []) (.sl []) 0 (.of []) (.of []) rfl (fun w hw=>by cases hw) (by simp;omega) (by omega)
 refine aY hren ?_
 simp only[↓zq,zs,ae,zt,aL,aS]
 repeat refine⟨by omega,?_⟩
 exact⟨rfl,rfl⟩
end Go.Proofs.Trees
namespace Go.Proofs.Trees
open Go Go.VL Go.RowKit
def fL(t:Ty):Prop:=jO t 0/\∀y,bh y t=true->qh y
theorem gn:∀(t:Ty) {i j:Nat},jO t i->i<=j->jO t j
 | .bP u,i,j,h,hj=>df h hj
 | .plus a b,i,j,h,hj=>⟨gn a h.1 hj,gn b h.2 hj⟩
 | .times a b,i,j,h,hj=>⟨gn a h.1 hj,gn b h.2 hj⟩
 | .rc a,i,j,h,hj=>gn (i:=i+1) (j:=j+1) a h (by omega)
 | .zero,_,_,_,_=>trivial
 | .one,_,_,_,_=>trivial
 | .name _,_,_,_,_=>trivial
theorem ir(x:Nm):∀(t:Ty) {i:Nat},jO t (i+1)->jO (dI (.name x) t i) i
 |
  .bP u,i,h=>by
  simp only[dI]
  split
  ·trivial
  ·have:u<i+1:=h
   show u<i;omega
 | .plus a b,i,h=>⟨ir x a h.1,ir x b h.2⟩
 | .times a b,i,h=>⟨ir x a h.1,ir x b h.2⟩
 | .rc a,i,h=>ir x (i:=i+1) a h
 | .zero,_,_=>trivial
 | .one,_,_=>trivial
 | .name _,_,_=>trivial
theorem j7{x:Nm}{u:Ty}(hu:jO u 0):∀(t:Ty) {i:Nat},jO t i->jO (sub x u t) i
 | .name s,i,_=>by simp only[sub];split;exact gn u hu (dO _);trivial
 | .plus a b,i,h=>⟨j7 hu a h.1,j7 hu b h.2⟩
 | .times a b,i,h=>⟨j7 hu a h.1,j7 hu b h.2⟩
 | .rc a,i,h=>j7 hu (i:=i+1) a h
 | .zero,_,_=>trivial
 | .one,_,_=>trivial
 | .bP _,_,h=>h
theorem Dv.lc{t d:Ty}{s:Nm}(h:Dv t s d):jO t 0->jO d 0:=by
 induction h with
 |zero s=>exact fun _=>trivial
 |one s=>exact fun _=>trivial
 |bP k s=>exact fun _=>trivial
 |hit s=>exact fun _=>trivial
 |rj h=>exact fun _=>trivial
 |plus h1 h2 hl i1 i2=>exact fun h=>⟨i1 h.1,i2 h.2⟩
 |times h1 h2 hl i1 i2=>exact fun h=>⟨⟨i1 h.1,h.2⟩,h.1,i2 h.2⟩
 |
  rc x hx hs h1 h2 hl i1 i2 =>
  intro h
  have g1:=j7 (x:=x) h _ (i1 (ir x _ h))
  have g2:=j7 (x:=x) h _ (i2 (ir x _ h))
  exact⟨gn _ g1 (by omega),gn _ g2 (by omega),Nat.zero_lt_one⟩
theorem Wf.qT{e:E}(h:Wf e):fL (cJ e []):=⟨tq h [],fun y hy=>(mK h [] y hy).1⟩
theorem fL.dv{t d:Ty}{s:Nm}(g:fL t)(h:Dv t s d):fL d:=⟨h.lc g.1,fun y hy=>g.2 y (h.names y hy)⟩
theorem fL.tree{t:Ty}(g:fL t):∃e,Wf e/\cJ e []=t:=by
 obtain⟨h1,h2,_⟩:=kb (bG t []) t [] 0 (.nil _ _) g.1 fun y hy=>⟨(eK t [] y).2 (.inr hy),g.2 y hy⟩
 exact⟨_,h1,h2⟩
theorem fL.sub{x:Nm}{u t:Ty}(hu:fL u)(ht:fL t):fL (sub x u t):=⟨j7 hu.1 t ht.1,fun y hy=>by
 rcases iM t hy with h|h
 ·exact hu.2 y h
 ·exact ht.2 y h.2⟩
def kj(o:Option Ty):AV->List Ob->Prop:=fun r ob=>ob=[]/\∃(c:Nm) (d:AV),LK.sl.has d/\r=.cA [.agg [.v (.string (mk c)),d],.v (.bool o.isSome)]/\∀t,o=some t->∃e,Wf e/\cJ e []=t/\c=e.at/\d=e.sp
theorem kj.ne{o:Option Ty}(h:∀t,o=some t->fL t):∃r ob,kj o r ob:=by
 cases o with
 |none=>exact⟨_,_,rfl,[],xI,(bi).mpr trivial,rfl,fun t h=>by cases h⟩
 |
  some t =>
  obtain⟨e,h1,h2⟩:=(h t rfl).tree
  exact⟨_,_,rfl,e.at,e.sp,(bg _).mpr trivial,rfl,fun t' h'=>by cases h';exact⟨e,h1,h2,rfl,rfl⟩⟩
theorem kj.of{e:E}(h:Wf e):kj (some (cJ e [])) (.cA [.agg [.v (.string (mk e.at)),e.sp],.v (.bool true)]) [] :=
 ⟨rfl,e.at,e.sp,(bg _).mpr trivial,rfl,fun t h'=>by cases h';exact⟨e,h,rfl,rfl,rfl⟩⟩
theorem kj.no(c:Nm)(d:AV)(hd:LK.sl.has d):kj none (.cA [.agg [.v (.string (mk c)),d],.v (.bool false)]) [] :=
 ⟨rfl,c,d,hd,rfl,fun t h'=>by cases h'⟩
theorem gm{c:ByteArray}{d:AV}(h:LK.sl.has d):bw [.str,.sl] [.v (.string c),d] 0=True:=by simp[bw,ej,h]
theorem wv{e:E}{os:List E}(h:Wf e):Wf (yI e os)/\cJ (yI e os) []=cJ e []/\tX (·∉zx e os) (yI e os):=by
 obtain⟨h1,h2,_,_,h5⟩:=kb (zx e os) (cJ e []) [] 0 (.nil _ _) (tq h []) fun y hy=>⟨aC _ ((kU h [] [] y).2 (.inr hy)),(mK h [] y hy).1⟩
 exact⟨h1,h2,h5⟩
theorem qW{os:List E}{o:E}(ho:o∈os)(hw:Wf o){y:Nm}(hy:bh y (cJ o [])=true):y∈qX os :=
 List.mem_flatMap.2 ⟨o,ho,(kU hw [] [] y).2 (.inr hy)⟩
theorem rn{s:Nm}(hs:qh s):cJ (.atom s) []=.name s:=iR hs (by simp)
theorem La{x:Nm}(hx:qh x){e u:E}(h:Wf e)(hu:Wf u)(hl:e.cX<=400)(hlu:u.cX<=400):∃g,Wf g/\cJ g []=sub x (cJ u []) (cJ e [])/\an Tryz.prog 172 [.agg [.v (.string (mk e.at)),e.sp],.v (.string (mk x)),.agg [.v (.string (mk u.at)),u.sp]] [] (bH (.agg [.v (.string (mk g.at)),g.sp])):=by
 obtain⟨w1,w2,w3⟩:=wv (os:=[u,.atom x]) h
 have hap:tX (fun n=>n≠x/\bh n (cJ u [])=false) (yI e [u,.atom x]):=AC (fun n hn=>⟨fun e1=>hn (by
  subst e1
  exact aA _ (qW (o:=.atom n) (by simp) (.atom hx.1) (by rw[rn hx];simp[bh]))),by
  cases q:bh n (cJ u [])with
  |false=>rfl
  |true=>exact absurd (aA _ (qW (o:=u) (by simp) hu q)) hn⟩) w1 w3
 obtain⟨p1,p2⟩:=CY hx hu w1 hap [] (by simp) (fun y hy=>by cases hy)
 refine⟨_,p1,by rw[p2,w2],?_⟩
 refine Qp _ _ _ _ _ ((bg _).mpr trivial) ((bg _).mpr trivial) ?_
 unfold Ka
 have s1:=h.sz
 have s2:=hu.sz
 have hA:=CT h (.sl [[.v (.string (mk u.at)),u.sp],[.v (.string (mk x)),xI]]) [u,.atom x] ⟨(cg _).mpr trivial,by simp only[gf,E.bm,fA];rfl⟩ (by omega) (fun o ho=>by
  simp only[aI,List.not_mem_nil,or_false]at ho
  rcases ho with rfl|rfl
  ·exact⟨hu,by omega⟩
  ·exact⟨.atom hx.1,by simp[E.sz]⟩) (by simp)
 refine ai hA ?_
 simp only[↓zq,zs,ae,zt,aS]
 repeat refine⟨by omega,?_⟩
 refine ai (Nt x u w1) ?_
 simp only[↓zq,zs,ae,zt,aS]
 repeat refine⟨by omega,?_⟩
 exact⟨rfl,rfl⟩
theorem GK{x:Nm}(hx:qh x){e u:E}(h:Wf e)(hu:Wf u)(hl:e.cX<=400)(hlu:u.cX<=400):an Tryz.prog 167 [.agg [.v (.string (mk e.at)),e.sp],.v (.string (mk x)),.agg [.v (.string (mk u.at)),u.sp]] [] (kj (mV (sub x (cJ u []) (cJ e [])))):=by
 refine N1 _ _ _ _ _ ((bg _).mpr trivial) ((bg _).mpr trivial) ?_
 unfold Jh
 refine ai (LO hx h hu (by omega) (by omega)) ?_
 simp only[↓zq,zs,ae,zt]
 refine⟨fun hn=>?_,fun hy=>?_⟩
 ·rw[show mV (sub x (cJ u []) (cJ e []))=none by unfold mV;rw[if_neg hn]]
  exact kj.no _ _ ((bg _).mpr trivial)
 ·rw[show mV (sub x (cJ u []) (cJ e []))=some (sub x (cJ u []) (cJ e [])) by unfold mV;rw[if_pos hy]]
  obtain⟨g,g1,g2,g3⟩:=La hx h hu hl hlu
  refine ai g3 ?_
  simp only[↓zq,zs,ae,zt,aS]
  repeat refine⟨by omega,?_⟩
  rw[<-g2]
  exact kj.of g1
end Go.Proofs.Trees
namespace Go.Proofs.Trees
open Go Go.VL Go.RowKit
theorem zU(w:Nm)(c1 c2:Nm)(d1 d2:AV):an Tryz.prog 98 [.v (.string (mk w)),.sl [[.v (.string (mk c1)),d1],[.v (.string (mk c2)),d2]]] [] (bH (.agg [.v (.string (mk [])),.sl [[.v (.string (mk w)),xI],[.v (.string (mk c1)),d1],[.v (.string (mk c2)),d2]]])):=by
 refine Km _ _ ((cg _).mpr trivial) ?_
 simp only[GM,↓zq,zs,ae,bH]
 exact⟨⟨fun c hc=>by
  simp only[aI,List.not_mem_nil,or_false]at hc
  rcases hc with rfl|rfl<;>rfl,by omega⟩,rfl⟩
theorem KH(F:List Nm)(hF:F.length<100000)(c1 c2:Nm)(d1 d2:AV)(h1:LK.sl.has d1)(h2:LK.sl.has d2):∀(n j:Nat),pz F n j<j+n->j+n<100000000 ->
 GI [.v (.int .i64 (j:Int))] [zE,.cells [.v (.string (mk c1)),d1],.cells [.v (.string (mk c2)),d2],.vec 1 (bT F)] (jq 1 [.v (.int .i64 (pz F n j:Int))] [zE,.cells [.v (.string (mk c1)),d1],.cells [.v (.string (mk c2)),d2]])
 |0,j,h,_=>by simp only[pz]at h;omega
 |
  n+1,j,h,hj=>by
  refine M8 _ _ _ _ _ _ _ _ ?_
  simp only[Jx,↓zq,zs,ae,zt,ae,bi,h1,h2]
  refine ai (yG (j+1) j (by omega) (by omega)) ?_
  have hd:=l8 (j+1) j (by omega)
  simp only[↓zq,zs,ae,zt,aZ,aT]
  refine⟨by simp[cD];omega,?_⟩
  refine ai (vQ F _ (.of F) (tN j) (by omega)) ?_
  simp only[↓zq,zs,ae,zt]
  rw[pz]at h |-
  refine⟨fun hm=>?_,fun hm=>?_⟩
  ·rw[if_pos hm]at h |-
   rw[bN j (by omega)]
   exact KH F hF c1 c2 d1 d2 h1 h2 n (j+1) (by omega) (by omega)
  ·rw[if_neg hm]
   exact⟨rfl,rfl,rfl⟩
theorem s9{x:Nm}{a c d:Ty}(h:(pg a x c d).aD<=400):(sub x (.rc a) c).aD<=400/\(sub x (.rc a) d).aD<=400:=by
 simp only[pg,Ty.aD]at h;omega
theorem Wf.iI{e:E}(h:Wf e){t:Ty}(ht:cJ e []=t)(hl:t.aD<=400):e.cX<=400:=by rw[h.cX [],ht];exact hl
def Qy(n:Nat):Prop:=∀(e:E) (s:Nm),Wf e->e.cX<=n->e.cX<=400->qh s->an Tryz.prog 166 [.agg [.v (.string (mk e.at)),e.sp],.v (.string (mk s))] [] (kj (kN (cJ e []) s))
theorem jT{e:E}{s:Nm}(h:Wf e):∀t,kN (cJ e []) s=some t->fL t:=fun t ht=>h.qT.dv (cP.1 ht)
theorem rG{t:Ty}(h:fL t):∀d,mV t=some d->fL d:=fun d hd=>by obtain⟨_,rfl⟩:=e9.1 hd;exact h
theorem NN(n:Nat)(ih:Qy n)(m:Nm)(B:E)(hm:qh m)(hB:Wf B)(hl:(E.list [.atom dA,.atom m,B]).cX<=n+1)(hl4:(E.list [.atom dA,.atom m,B]).cX<=400)(s:Nm)(hs:qh s) :
 an Tryz.prog 190 [.agg [.v (.string (mk [])),(E.list [.atom dA,.atom m,B]).sp],.v (.string (mk s))] [] (kj (kN (cJ (.list [.atom dA,.atom m,B]) []) s)):=by
 have hw:Wf (.list [.atom dA,.atom m,B]):=.rc hm hB
 have hsz:=hw.sz
 have hA:=CT hw (.sl [[.v (.string (mk s)),xI]]) [.atom s] ⟨(cg _).mpr trivial,by simp only[gf,E.bm,fA];rfl⟩ (by omega) (fun o ho=>by
  simp only[aI,List.not_mem_nil,or_false]at ho
  subst ho
  exact⟨.atom hs.1,by simp[E.sz]⟩) (by simp)
 have hatsB:B.cX+2=(E.list [.atom dA,.atom m,B]).cX:=by simp only[E.cX,E.eN];omega
 have hT:cJ (.list [.atom dA,.atom m,B]) []=.rc (cJ B [m]):=eX _ _ _
 obtain⟨w1,w2,_,_,w5⟩:=kb (zx (.list [.atom dA,.atom m,B]) [.atom s]) (cJ (.list [.atom dA,.atom m,B]) []) [] 0 (.nil _ _) (tq hw []) fun y hy=>⟨aC _ ((kU hw [] [] y).2 (.inr hy)),(mK hw [] y hy).1⟩
 have hsF:s∈zx (.list [.atom dA,.atom m,B]) [.atom s]:=aA _ (qW (o:=.atom s) (by simp) (.atom hs.1) (by rw[rn hs];simp[bh]))
 have haF:∀y,bh y (cJ B [m])=true->y∈zx (.list [.atom dA,.atom m,B]) [.atom s]:=fun y hy=>aC _ ((kU hw [] [] y).2 (.inr (by rw[hT];exact hy)))
 unfold yI at hA
 rw[hT]at hA w1 w2 w5
 rw[hT]
 generalize zx (.list [.atom dA,.atom m,B]) [.atom s]=F at *
 obtain⟨_,_,_,hxF⟩:=gk F 0
 simp only[gF,aT]at hA w1 w2 w5
 generalize hxd:tN (nx F 0)=x at *
 have hx:qh x:=by rw[<-hxd];exact yi _
 generalize (gF F (cJ B [m]) [x] (nx F 0+1)).1=b at *
 have hb:Wf b:=by cases w1;assumption
 rw[eX]at w2
 have hbt:cJ b [x]=cJ B [m]:=by injection w2
 have hxa:bh x (cJ B [m])=false:=by
  cases q:bh x (cJ B [m])with
  |false=>rfl
  |true=>exact absurd (haF x q) hxF
 have hxs:x≠s:=fun e=>hxF (by rw[e];exact hsF)
 generalize cJ B [m]=a at *
 have hbo:cJ b []=dI (.name x) a 0:=by
  have:=xp x hb []
  rw[cS,hbt]at this;exact this
 have hba:b.cX+2=(E.list [.atom dA,.atom m,B]).cX:=by
  rw[hw.cX [],hT,hb.cX [],hbo,fw];simp only[Ty.aD];omega
 have i1:=ih b s hb (by omega) (by omega) hs
 have i2:=ih b x hb (by omega) (by omega) hx
 have n1:=jT (s:=s) hb
 have n2:=jT (s:=x) hb
 rw[hbo]at i1 i2 n1 n2
 have hP:=P3.of (.atom dA) (.atom x) b
 rw[zM hxa hxs]
 have hE1:Wf (.list [.atom dA,.atom x,b]):=w1
 have hE1t:cJ (.list [.atom dA,.atom x,b]) []=.rc a:=by rw[eX];exact w2
 have hE1l:(E.list [.atom dA,.atom x,b]).cX<=400:=by
  have:(E.list [.atom dA,.atom x,b]).cX=b.cX+2:=by simp only[E.cX,E.eN];omega
  omega
 refine N2 _ _ _ ((bg _).mpr trivial) ?_
 unfold Ib
 refine ai hA ?_
 simp only[↓zq,zs,ae,zt,aS,bF,toNat_one,bo,hP.1,hP.2.1,hP.2.2.1,hP.2.2.2,dR]
 repeat refine⟨by omega,?_⟩
 refine aO i1 (kj.ne n1) ?_
 rintro r o ⟨rfl,c1,d1,hd1,rfl,hc1⟩
 simp only[↓zq,zs,ae,zt,gm hd1]
 repeat refine⟨by omega,?_⟩
 refine aO i2 (kj.ne n2) ?_
 rintro r o ⟨rfl,c2,d2,hd2,rfl,hc2⟩
 simp only[↓zq,zs,ae,zt,gm hd2]
 cases q1:kN (dI (.name x) a 0) s with
 |
  none =>
  simp only[bz,bE]
  exact⟨fun _=>kj.no _ _ ((bg _).mpr trivial),fun h=>(by cases h)⟩
 |some c =>
 cases q2:kN (dI (.name x) a 0) x with
 |
  none =>
  simp only[bz,bn,bE,a7]
  exact⟨fun h=>(by cases h),fun _=>⟨fun _=>kj.no _ _ ((bg _).mpr trivial),fun h=>(by cases h)⟩⟩
 |some d =>
 simp only[bn,a7]
 refine⟨fun h=>(by cases h),fun _=>⟨fun h=>(by cases h),fun _=>?_⟩⟩
 obtain⟨ec,wc,tc,rfl,rfl⟩:=hc1 c q1
 obtain⟨ed,wd,td,rfl,rfl⟩:=hc2 d q2
 have lc:=(cP.1 q1).small
 have ld:=(cP.1 q2).small
 have p1:=GK hx wc hE1 (wc.iI tc lc) hE1l
 have p2:=GK hx wd hE1 (wd.iI td ld) hE1l
 have g1:=rG (hE1.qT.sub (x:=x) wc.qT)
 have g2:=rG (hE1.qT.sub (x:=x) wd.qT)
 rw[hE1t,tc]at p1 g1
 rw[hE1t,td]at p2 g2
 simp only[bF]at p1 p2
 repeat refine⟨by omega,?_⟩
 refine aO p1 (kj.ne g1) ?_
 rintro r o ⟨rfl,c3,d3,hd3,rfl,hc3⟩
 simp only[↓zq,zs,ae,zt,gm hd3]
 repeat refine⟨by omega,?_⟩
 refine aO p2 (kj.ne g2) ?_
 rintro r o ⟨rfl,c4,d4,hd4,rfl,hc4⟩
 simp only[↓zq,zs,ae,zt,gm hd4]
 have big:∀t:Ty,mV t=none->¬t.aD<=400:=fun t ht hle=>by unfold mV at ht;rw[if_pos hle]at ht;cases ht
 have out0:(mV (sub x (.rc a) c)=none\/mV (sub x (.rc a) d)=none)->mV (pg a x c d)=none:=fun h=>by
  unfold mV
  rw[if_neg fun hle=>?_]
  have:=s9 hle
  rcases h with h|h
  ·exact big _ h this.1
  ·exact big _ h this.2
 cases q3:mV (sub x (.rc a) c)with
 |
  none =>
  rw[out0 (.inl q3)]
  simp only[bz]
  exact⟨fun _=>kj.no _ _ ((bg _).mpr trivial),fun h=>(by cases h)⟩
 |some c' =>
 cases q4:mV (sub x (.rc a) d)with
 |
  none =>
  rw[out0 (.inr q4)]
  simp only[bz,bn]
  exact⟨fun h=>(by cases h),fun _=>⟨fun _=>kj.no _ _ ((bg _).mpr trivial),fun h=>(by cases h)⟩⟩
 |some d' =>
 simp only[bn]
 refine⟨fun h=>(by cases h),fun _=>⟨fun h=>(by cases h),fun _=>?_⟩⟩
 obtain⟨ec',wc',tc',rfl,rfl⟩:=hc3 c' q3
 obtain⟨ed',wd',td',rfl,rfl⟩:=hc4 d' q4
 obtain⟨lc',e3⟩:=e9.1 q3
 obtain⟨ld',e4⟩:=e9.1 q4
 rw[e3]at lc';rw[e4]at ld'
 have z1:=wc'.sz
 have z2:=wd'.sz
 have k1:=wc'.iI tc' lc'
 have k2:=wd'.iI td' ld'
 have f1:=Ci wd' [] [] (.sl []) (.of []) (by simp;omega)
 have fl1:=fQ ed' [] []
 have fl2:=fQ ec' [] (jX ed' [] [])
 simp only[aG,a6]at fl1
 have f2:=Ci wc' [] (jX ed' [] []) (.sl []) (.of []) (by simp;omega)
 refine aY f1 ?_
 simp only[↓zq,zs,ae,zt,a8,bS,Ob.es]
 refine aY f2 ?_
 simp only[↓zq,zs,ae,zt,a8,bS,Ob.es]
 have hF3:∀y,(bh y c'=true\/bh y d'=true)->y∈jX ec' [] (jX ed' [] []):=fun y hy=>by
  rw[kU wc',kU wd']
  rcases hy with hy|hy
  ·exact .inr (by rw[tc'];exact hy)
  ·exact .inl (.inr (by rw[td'];exact hy))
 generalize jX ec' [] (jX ed' [] [])=F3 at *
 obtain⟨_,y2,_,hyF⟩:=gk F3 0
 refine cR (KH F3 (by omega) _ _ _ _ ((bg _).mpr trivial) ((bg _).mpr trivial) (F3.length+1) 0 (by show nx F3 0<_;omega) (by omega)) ?_
 have hnx:pz F3 (F3.length+1) 0=nx F3 0:=rfl
 rw[hnx]
 simp only[↓zq,zs,ae,zt,ae,aL,bi,bg]
 refine ai (yG (nx F3 0+1) (nx F3 0) (by omega) (by omega)) ?_
 have hdl:=l8 (nx F3 0+1) (nx F3 0) (by omega)
 simp only[↓zq,zs,ae,zt,aZ,aT]
 refine⟨by omega,?_⟩
 obtain⟨y,hyd⟩:∃y:Nm,(116::dd (nx F3 0):Nm)=y:=⟨_,rfl⟩
 rw[hyd]
 rw[show tN (nx F3 0)=y from hyd]at hyF
 have hy:qh y:=by rw[<-hyd];exact yi _
 have hcy:cJ ec' [y]=c':=by
  have:=tR [y] wc' [] (fun z hz hm=>hyF (by
   simp only[aQ]at hm
   rw[<-hm];exact hF3 z (.inl (by rw[<-tc'];exact hz))))
  rw[cS,tc']at this;exact this
 have hdy:cJ ed' [y]=d':=by
  have:=tR [y] wd' [] (fun z hz hm=>hyF (by
   simp only[aQ]at hm
   rw[<-hm];exact hF3 z (.inr (by rw[<-td'];exact hz))))
  rw[cS,td']at this;exact this
 have hyb:cJ (.atom y) [y]=.bP 0:=by
  simp only[cJ];rw[if_neg hy.2.1,if_neg hy.2.2,show cc y [y] [y].length=some 0 from jZ y []]
 let o1:E:=.list [.atom [42],ed',.atom y]
 let o2:E:=.list [.atom [43],ec',o1]
 let o3:E:=.list [.atom dA,.atom y,o2]
 have hw3:Wf o3:=.rc hy (.plus wc' (.times wd' (.atom hy.1)))
 have ht3:cJ o3 []=pg a x c d:=by
  show cJ (.list [.atom dA,.atom y,o2]) []=_
  rw[eX]
  show Ty.rc (cJ (.list [.atom [43],ec',o1]) [y])=_
  rw[dL]
  show Ty.rc (.plus (cJ ec' [y]) (cJ (.list [.atom [42],ed',.atom y]) [y]))=_
  rw[dj,hcy,hdy,hyb,pg,e3,e4]
 have m1:=zv [42] ed' (.atom y)
 have m2:=zv [43] ec' o1
 have m3:=zv dA (.atom y) o2
 simp only[o1,bF,dR]at m1 m2 m3
 refine ai m1 ?_
 simp only[↓zq,zs,ae,zt,aS]
 repeat refine⟨by omega,?_⟩
 refine ai m2 ?_
 simp only[↓zq,zs,ae,zt,aS]
 repeat refine⟨by omega,?_⟩
 refine ai m3 ?_
 simp only[↓zq,zs,ae,zt,aS]
 repeat refine⟨by omega,?_⟩
 have z3:=hw3.sz
 have hats3:o3.cX=ec'.cX+ed'.cX+5:=by simp only[o3,o2,o1,E.cX,E.eN];omega
 have ma:=BI o3 hw3.ok (by omega)
 rw[dx]at ma
 simp only[o3,o2,o1,bF]at ma
 refine ai ma ?_
 simp only[↓zq,zs,ae,zt]
 have hd3:(pg a x c d).aD=o3.cX:=by rw[<-ht3,<-hw3.cX []]
 unfold mV
 by_cases hle:(pg a x c d).aD<=400
 ·rw[if_pos hle]
  have:=kj.of hw3
  rw[ht3]at this
  rw[show decide ((((E.list [.atom dA,.atom y,.list [.atom [43],ec',.list [.atom [42],ed',.atom y]]]).cX:Nat):Int)<=400)=true from decide_eq_true (by show ((o3.cX:Nat):Int)<=400;omega)]
  exact this
 ·rw[if_neg hle]
  rw[show decide ((((E.list [.atom dA,.atom y,.list [.atom [43],ec',.list [.atom [42],ed',.atom y]]]).cX:Nat):Int)<=400)=false from decide_eq_false (by show ¬((o3.cX:Nat):Int)<=400;omega)]
  exact kj.no _ _ ((bg o3).mpr trivial)
theorem zm:∀n,Qy n
 |0=>fun e s h hl=>by have:=ek (cJ e []);rw[<-h.cX []]at this;omega
 |
  n+1=>by
  intro e s h hl h4 hs
  cases h with
  |
   @atom c hc =>
   refine CI _ _ _ ((bg _).mpr trivial) ?_
   simp only[An,dR,↓zq,zs,ae,zt]
   refine⟨fun _=>⟨fun he=>?_,fun hne=>?_⟩,fun h=>absurd h hc⟩
   ·have he:c=s:=he
    subst he
    rw[rn hs,nS,if_pos rfl]
    exact kj.of (e:=.atom [49]) (.atom (by simp))
   ·have hne:¬c=s:=hne
    have:kN (cJ (.atom c) []) s=some .zero:=by
     simp only[cJ]
     split
     ·exact vj _
     ·split
      ·exact xG _
      ·rw[show cc c [] ([]:List Nm).length=none from rfl,nS,if_neg hne]
    rw[this]
    exact kj.of (e:=.atom [48]) (.atom (by simp))
  |
   @plus x y hx hy =>
   have hxy:(E.list [.atom [43],x,y]).cX=x.cX+y.cX+1:=by simp only[E.cX,E.eN];omega
   have p1:1<=x.cX:=by rw[hx.cX []];exact ek _
   have p2:1<=y.cX:=by rw[hy.cX []];exact ek _
   refine CI _ _ _ ((bg _).mpr trivial) ?_
   have hP:=P3.of (.atom [43]) x y
   simp only[An,bF,toNat_one,bo,↓zq,zs,ae,zt,hP.1,hP.2.1,hP.2.2.1,hP.2.2.2,aS]
   refine⟨fun h=>absurd rfl h,fun _=>?_⟩
   refine ai (nC [43] x y) ?_
   simp only[↓zq,zs,ae,zt]
   refine⟨fun h=>by simp at h,fun _=>?_⟩
   repeat refine⟨by omega,?_⟩
   rw[dL,uR]
   refine aO (zm n x s hx (by omega) (by omega) hs) (kj.ne (jT hx)) ?_
   rintro r o ⟨rfl,c1,d1,hd1,rfl,hc1⟩
   simp only[↓zq,zs,ae,zt,gm hd1]
   repeat refine⟨by omega,?_⟩
   refine aO (zm n y s hy (by omega) (by omega) hs) (kj.ne (jT hy)) ?_
   rintro r o ⟨rfl,c2,d2,hd2,rfl,hc2⟩
   simp only[↓zq,zs,ae,zt,gm hd2]
   refine ai (zU [43] c1 c2 d1 d2) ?_
   simp only[↓zq,zs,ae,zt,bw,ej,cg]
   repeat refine⟨by omega,?_⟩
   refine ai (nC [43] x y) ?_
   simp only[↓zq,zs,ae,zt]
   refine⟨fun h=>by simp at h,fun _=>?_⟩
   cases q1:kN (cJ x []) s with
   |
    none =>
    simp only[bz,bE]
    exact⟨fun h=>(by cases h),fun _=>kj.no _ _ ((cg _).mpr trivial)⟩
   |some tx =>
   cases q2:kN (cJ y []) s with
   |
    none =>
    simp only[bz,bn,bE,a7]
    exact⟨fun _=>⟨fun h=>(by cases h),fun _=>kj.no _ _ ((cg _).mpr trivial)⟩,fun h=>(by cases h)⟩
   |some t2 =>
   simp only[bn,a7]
   refine⟨fun _=>⟨fun _=>?_,fun h=>(by cases h)⟩,fun h=>(by cases h)⟩
   obtain⟨e1,w1,te1,rfl,rfl⟩:=hc1 tx q1
   obtain⟨e2,w2,te2,rfl,rfl⟩:=hc2 t2 q2
   have l1:=w1.iI te1 (cP.1 q1).small
   have l2:=w2.iI te2 (cP.1 q2).small
   have z1:=w1.sz
   have z2:=w2.sz
   have hw3:Wf (.list [.atom [43],e1,e2]):=.plus w1 w2
   have ht3:cJ (.list [.atom [43],e1,e2]) []=.plus tx t2:=by rw[dL,te1,te2]
   have ma:=BI _ hw3.ok (by simp only[E.sz,E.iX];omega)
   rw[dx]at ma
   simp only[bF]at ma
   have e3:AV.sl [[.v (.string (mk [43])),xI],[.v (.string (mk e1.at)),e1.sp],[.v (.string (mk e2.at)),e2.sp]]=(E.list [.atom [43],e1,e2]).sp:=by simp only[E.sp,E.bm,fA];rfl
   rw[e3]
   refine ai ma ?_
   simp only[↓zq,zs,ae,zt]
   have hd3:(Ty.plus tx t2).aD=(E.list [.atom [43],e1,e2]).cX:=by rw[<-ht3,<-hw3.cX []]
   unfold mV
   by_cases hle:(Ty.plus tx t2).aD<=400
   ·rw[if_pos hle,show decide ((((E.list [.atom [43],e1,e2]).cX:Nat):Int)<=400)=true from decide_eq_true (by omega)]
    have:=kj.of hw3
    rw[ht3]at this
    exact this
   ·rw[if_neg hle,show decide ((((E.list [.atom [43],e1,e2]).cX:Nat):Int)<=400)=false from decide_eq_false (by omega)]
    exact kj.no _ _ ((bg _).mpr trivial)
  |
   @times x y hx hy =>
   have hxy:(E.list [.atom [42],x,y]).cX=x.cX+y.cX+1:=by simp only[E.cX,E.eN];omega
   have p1:1<=x.cX:=by rw[hx.cX []];exact ek _
   have p2:1<=y.cX:=by rw[hy.cX []];exact ek _
   refine CI _ _ _ ((bg _).mpr trivial) ?_
   have hP:=P3.of (.atom [42]) x y
   simp only[An,bF,toNat_one,bo,↓zq,zs,ae,zt,hP.1,hP.2.1,hP.2.2.1,hP.2.2.2,aS]
   refine⟨fun h=>absurd rfl h,fun _=>?_⟩
   refine ai (nC [42] x y) ?_
   simp only[↓zq,zs,ae,zt]
   refine⟨fun h=>by simp at h,fun _=>?_⟩
   repeat refine⟨by omega,?_⟩
   rw[dj,sQ]
   refine aO (zm n x s hx (by omega) (by omega) hs) (kj.ne (jT hx)) ?_
   rintro r o ⟨rfl,c1,d1,hd1,rfl,hc1⟩
   simp only[↓zq,zs,ae,zt,gm hd1]
   repeat refine⟨by omega,?_⟩
   refine aO (zm n y s hy (by omega) (by omega) hs) (kj.ne (jT hy)) ?_
   rintro r o ⟨rfl,c2,d2,hd2,rfl,hc2⟩
   simp only[↓zq,zs,ae,zt,gm hd2]
   refine ai (zU [43] c1 c2 d1 d2) ?_
   simp only[↓zq,zs,ae,zt,bw,ej,cg]
   repeat refine⟨by omega,?_⟩
   refine ai (nC [42] x y) ?_
   simp only[↓zq,zs,ae,zt]
   refine⟨fun _=>?_,fun h=>by simp at h⟩
   repeat refine⟨by omega,?_⟩
   refine ai (zU [42] c1 y.at d1 y.sp) ?_
   simp only[↓zq,zs,ae,zt,bw,ej,cg,bg]
   repeat refine⟨by omega,?_⟩
   refine ai (zU [42] x.at c2 x.sp d2) ?_
   simp only[↓zq,zs,ae,zt,bw,ej,cg,bg]
   repeat refine⟨by omega,?_⟩
   refine ai (zU [43] [] [] _ _) ?_
   simp only[↓zq,zs,ae,zt,bw,ej,cg]
   repeat refine⟨by omega,?_⟩
   cases q1:kN (cJ x []) s with
   |
    none =>
    simp only[bz,bE]
    exact⟨fun h=>(by cases h),fun _=>kj.no _ _ ((cg _).mpr trivial)⟩
   |some tx =>
   cases q2:kN (cJ y []) s with
   |
    none =>
    simp only[bz,bn,bE,a7]
    exact⟨fun _=>⟨fun h=>(by cases h),fun _=>kj.no _ _ ((cg _).mpr trivial)⟩,fun h=>(by cases h)⟩
   |some t2 =>
   simp only[bn,a7]
   refine⟨fun _=>⟨fun _=>?_,fun h=>(by cases h)⟩,fun h=>(by cases h)⟩
   obtain⟨e1,w1,te1,rfl,rfl⟩:=hc1 tx q1
   obtain⟨e2,w2,te2,rfl,rfl⟩:=hc2 t2 q2
   have l1:=w1.iI te1 (cP.1 q1).small
   have l2:=w2.iI te2 (cP.1 q2).small
   have z1:=w1.sz
   have z2:=w2.sz
   have z3:=hx.sz
   have z4:=hy.sz
   have hw3:Wf (.list [.atom [43],.list [.atom [42],e1,y],.list [.atom [42],x,e2]]):=.plus (.times w1 hy) (.times hx w2)
   have ht3:cJ (.list [.atom [43],.list [.atom [42],e1,y],.list [.atom [42],x,e2]]) []=.plus (.times tx (cJ y [])) (.times (cJ x []) t2):=by rw[dL,dj,dj,te1,te2]
   have ma:=BI _ hw3.ok (by simp only[E.sz,E.iX];omega)
   rw[dx]at ma
   simp only[bF]at ma
   have e3:AV.sl [[.v (.string (mk [43])),xI],[.v (.string (mk [])),.sl [[.v (.string (mk [42])),xI],[.v (.string (mk e1.at)),e1.sp],[.v (.string (mk y.at)),y.sp]]],[.v (.string (mk [])),.sl [[.v (.string (mk [42])),xI],[.v (.string (mk x.at)),x.sp],[.v (.string (mk e2.at)),e2.sp]]]]=(E.list [.atom [43],.list [.atom [42],e1,y],.list [.atom [42],x,e2]]).sp:=by simp only[E.sp,E.bm,fA];rfl
   rw[e3]
   refine ai ma ?_
   simp only[↓zq,zs,ae,zt]
   have hd3:(Ty.plus (.times tx (cJ y [])) (.times (cJ x []) t2)).aD=(E.list [.atom [43],.list [.atom [42],e1,y],.list [.atom [42],x,e2]]).cX:=by rw[<-ht3,<-hw3.cX []]
   unfold mV
   by_cases hle:(Ty.plus (.times tx (cJ y [])) (.times (cJ x []) t2)).aD<=400
   ·rw[if_pos hle,show decide ((((E.list [.atom [43],.list [.atom [42],e1,y],.list [.atom [42],x,e2]]).cX:Nat):Int)<=400)=true from decide_eq_true (by omega)]
    have:=kj.of hw3
    rw[ht3]at this
    exact this
   ·rw[if_neg hle,show decide ((((E.list [.atom [43],.list [.atom [42],e1,y],.list [.atom [42],x,e2]]).cX:Nat):Int)<=400)=false from decide_eq_false (by omega)]
    exact kj.no _ _ ((bg _).mpr trivial)
  |
   @rc m B hm hB =>
   have hlp:=NN n (zm n) m B hm hB hl h4 s hs
   have hg:=jT (s:=s) (Wf.rc hm hB)
   refine CI _ _ _ ((bg _).mpr trivial) ?_
   have hP:=P3.of (.atom dA) (.atom m) B
   simp only[An,bF,toNat_one,bo,↓zq,zs,ae,zt,hP.1,hP.2.1,hP.2.2.1,hP.2.2.2,aS]
   refine⟨fun h=>absurd rfl h,fun _=>?_⟩
   refine ai (nC dA (.atom m) B) ?_
   simp only[↓zq,zs,ae,zt]
   refine⟨fun _=>?_,fun h=>absurd rfl h⟩
   refine aO hlp (kj.ne hg) ?_
   rintro r o ⟨rfl,c1,d1,hd1,rfl,hc1⟩
   simp only[↓zq,zs,ae,zt,gm hd1]
   exact⟨rfl,c1,d1,hd1,rfl,hc1⟩
end Go.Proofs.Trees
namespace Go.Proofs.Trees
open Go Go.VL Go.RowKit
theorem nL:∀(n k:Nat),k<10 ^ (n+1)->(dd k).length<=n+1
 |0,k,h=>by rw[eG (by omega)];simp
 |
  n+1,k,h=>by
  by_cases h1:k<10
  ·rw[eG h1];simp
  ·rw[fE h1]
   have:=nL n (k/10) (by
    have:10 ^ (n+1+1)=10*10 ^ (n+1):=by rw[Nat.pow_succ,Nat.mul_comm]
    omega)
   simp;omega
inductive Sh:E->Prop
 |atom {s:Nm} (h:s.length<=20):Sh (.atom s)
 |l3 {h:Nm} {a b:E} (hh:h.length<=20) (ha:Sh a) (hb:Sh b):Sh (.list [.atom h,a,b])
theorem Sh.cY{e:E}(hw:Wf e)(h:Sh e):(eS e).length<=50*e.cX:=by
 induction hw with
 |atom _=>cases h with|atom h=>simp only[eS,E.cX];omega
 |
  plus _ _ i1 i2 =>
  cases h with|l3 hh ha hb =>
  have:=i1 ha
  have:=i2 hb
  simp only[eS,eg,au,ap,aG,E.cX,E.eN];omega
 |
  times _ _ i1 i2 =>
  cases h with|l3 hh ha hb =>
  have:=i1 ha
  have:=i2 hb
  simp only[eS,eg,au,ap,aG,E.cX,E.eN];omega
 |
  rc _ _ i =>
  cases h with|l3 hh ha hb =>
  cases ha with|atom ha =>
  have:=i hb
  simp only[eS,eg,au,ap,aG,E.cX,E.eN];omega
def uo(t:Ty):Prop:=∀y,bh y t=true->y.length<=20
theorem wQ{k:Nat}(h:k<100000000):(tN k).length<=20:=by
 have:=nL 7 k (by omega)
 simp;omega
theorem o0(F:List Nm)(hF:F.length<=10000):∀(t:Ty) (to:List Nm) (k:Nat),uo t->(∀w,w∈to->w.length<=20)->k+(F.length+1)*t.aD<90000000->Sh (gF F t to k).1
 | .zero,_,_,_,_,_=>.atom (by simp)
 | .one,_,_,_,_,_=>.atom (by simp)
 | .name s,_,_,hn,_,_=>.atom (hn s (by simp[bh]))
 |
  .bP u,to,_,_,ht,_=>by
  refine .atom ?_
  show (jB to u).length<=20
  unfold jB
  by_cases h:to.length-1-u<to.length
  ·rw[aa,bf h];exact ht _ (bD h)
  ·rw[aa,List.getElem?_eq_none (by omega)];simp
 |
  .plus a b,to,k,hn,ht,hk=>by
  have h1:=ig F a to k
  have:(F.length+1)*(1+a.aD+b.aD)=(F.length+1)+(F.length+1)*a.aD+(F.length+1)*b.aD:=by simp only[cM,dD]
  simp only[Ty.aD]at hk
  exact .l3 (by simp) (o0 F hF a to k (fun y hy=>hn y (by simp[bh,hy])) ht (by omega)) (o0 F hF b to _ (fun y hy=>hn y (by simp[bh,hy])) ht (by omega))
 |
  .times a b,to,k,hn,ht,hk=>by
  have h1:=ig F a to k
  have:(F.length+1)*(1+a.aD+b.aD)=(F.length+1)+(F.length+1)*a.aD+(F.length+1)*b.aD:=by simp only[cM,dD]
  simp only[Ty.aD]at hk
  exact .l3 (by simp) (o0 F hF a to k (fun y hy=>hn y (by simp[bh,hy])) ht (by omega)) (o0 F hF b to _ (fun y hy=>hn y (by simp[bh,hy])) ht (by omega))
 |
  .rc a,to,k,hn,ht,hk=>by
  obtain⟨g1,g2,_,_⟩:=gk F k
  have:(F.length+1)*(2+a.aD)=(F.length+1)*2+(F.length+1)*a.aD:=by simp only[cM]
  simp only[Ty.aD]at hk
  have hl:=wQ (k:=nx F k) (by omega)
  exact .l3 (by simp) (.atom hl) (o0 F hF a _ _ hn (fun w hw=>by
   rcases aM.1 hw with hw|hw
   ·exact ht w hw
   ·simp only[aQ]at hw;rw[hw];exact hl) (by omega))
def DW(t:Ty):Nm:=eS (gF (bG t []) t [] 0).1
def told(t:Ty):Option Nm:=if t.aD<=400/\(qi (DW t)).isSome=true then some (DW t)else none
theorem CS{t:Ty}(g:fL t)(hs:uo t)(ha:t.aD<=400):(DW t).length<=20000:=by
 obtain⟨h1,h2,_⟩:=kb (bG t []) t [] 0 (.nil _ _) g.1 fun y hy=>⟨(eK t [] y).2 (.inr hy),g.2 y hy⟩
 have hn:=eA t []
 simp only[aG,a6]at hn
 have hm:((bG t []).length+1)*t.aD<=401*400:=Nat.mul_le_mul (by omega) ha
 have:=(o0 (bG t []) (by omega) t [] 0 hs (fun w hw=>by cases hw) (by omega)).cY h1
 have:=h1.iI h2 ha
 unfold DW;omega
theorem tL(s:Nm):(vF s).isSome=(qi s).isSome:=by
 rw[ud]
 cases he:vF s with
 |none=>rfl
 |
  some e =>
  obtain⟨h1,h2,h3⟩:=oU he
  simp only[iD e [],h2];rfl
theorem PD(s:Nm):an Tryz.prog 168 [.v (.string (mk s))] [] (bH (.v (.bool (qi s).isSome))):=by
 refine Qh _ ?_
 unfold HM
 refine aO (Fh s) (jQ.ne _ _ (fun h=>h)) ?_
 rintro r o ⟨c,d,hd,rfl,hh⟩
 have hhas:bw [.str,.sl] [.v (.string (mk c)),d] 0:=by simp[bw,ej,hd]
 simp only[↓zq,zs,ae,zt,tL]
 exact⟨hhas,rfl,rfl⟩
theorem Py{e:E}(h:Wf e)(hl:e.cX<=400)(hs:uo (cJ e [])):an Tryz.prog 134 [.agg [.v (.string (mk e.at)),e.sp]] [] (bH (qP (told (cJ e [])))):=by
 refine P6 _ _ ((bg _).mpr trivial) ?_
 unfold Ii
 have z:=h.sz
 have ma:=BI e h.ok (by omega)
 rw[dx]at ma
 have hA:=CT h xI [] ⟨(bi).mpr trivial,rfl⟩ (by omega) (fun o ho=>by cases ho) (by simp)
 have ha:(cJ e []).aD<=400:=by rw[<-h.cX []];exact hl
 have hc:yI e []=(gF (bG (cJ e []) []) (cJ e []) [] 0).1:=by
  unfold yI zx qX
  rw[List.flatMap_nil,cS,jo (F':=bG (cJ e []) []) fun y=>by rw[kU h,eK]]
 have hx:eS (yI e [])=DW (cJ e []):=by rw[hc];rfl
 have hlen:=CS h.qT hs ha
 have hT:=JK (yI e []) (wv h).1.ok (by rw[hx];omega)
 rw[dx,hx]at hT
 refine ai ma ?_
 simp only[↓zq,zs,ae,zt]
 refine⟨fun h=>by omega,fun _=>?_⟩
 refine ai hA ?_
 simp only[↓zq,zs,ae,zt,aS]
 refine ai hT ?_
 simp only[↓zq,zs,ae,zt]
 refine ai (PD _) ?_
 simp only[↓zq,zs,ae,zt]
 unfold told
 refine⟨fun hn=>?_,fun hy=>?_⟩
 ·rw[if_neg (by rw[hn];simp)];exact⟨rfl,rfl⟩
 ·rw[if_pos ⟨ha,hy⟩];exact⟨rfl,rfl⟩
abbrev lN:Nm:=[35,49]
noncomputable def cG (s:Nm):Option Nm:=match qi s with
 |some (.rc a)=>(oJ a lN).bind told
 |_=>none
theorem oP{s:Nm}{t:Ty}(h:qi s=some t):∃e,vF s=some e/\Wf e/\cJ e []=t/\e.cX<=400/\e.ok:=by
 rw[ud]at h
 cases he:vF s with
 |none=>rw[he]at h;cases h
 |
  some e =>
  rw[he]at h
  obtain⟨h1,h2,h3⟩:=oU he
  obtain⟨hok,_⟩:=nn h1
  obtain⟨w1,w2⟩:=jS e [] t hok (fun w hw=>by cases hw) h
  exact⟨e,rfl,w1,w2,h3,hok⟩
theorem qM{e:E}{x:Nm}{a d:Ty}(hw:Wf e)(ht:cJ e []=.rc a)(hx:qh x)(hd:oJ a x=some d):fL d/\(uo (.rc a)->uo d):=by
 simp only[oJ,bc,cP,e9]at hd
 obtain⟨d',h1,_,rfl⟩:=hd
 have g:fL (.rc a):=ht ▸ hw.qT
 have go:fL (dI (.name x) a 0):=⟨ir x a g.1,fun y hy=>by
  rcases gq a 0 hy with rfl|h
  ·exact hx
  ·exact g.2 y h⟩
 refine⟨g.sub (go.dv h1),fun hs y hy=>?_⟩
 rcases iM _ hy with h|⟨h,h'⟩
 ·exact hs y h
 ·rcases gq a 0 (h1.names y h')with e|e
  ·exact absurd e h
  ·exact hs y e
def KD(y:Nm):Prop:=io y=true\/dz y=true
theorem iu:∀(e:E) (ar:List Nm) (t:Ty),cZ e ar=some t->∀y,bh y t=true->KD y
 |
  .atom s,ar,t,ht,y,hy=>by
  simp only[cZ]at ht
  split at ht
  ·cases ht;cases hy
  ·split at ht
   ·cases ht;cases hy
   ·split at ht
    ·rename_i hp
     cases ht
     simp only[bh,decide_eq_true_eq]at hy
     subst hy;exact .inl hp
    ·split at ht
     ·rename_i hq
      split at ht
      ·cases ht;cases hy
      ·cases ht
       simp only[bh,decide_eq_true_eq]at hy
       subst hy;exact .inr hq
     ·cases ht
 |
  .list [x,a,b],ar,t,ht,y,hy=>by
  by_cases h0:x.at=[43]
  ·obtain⟨t1,t2,h1,h2,rfl⟩:=ga h0 ht
   simp only[bh,bB]at hy
   rcases hy with hy|hy
   ·exact iu a ar t1 h1 y hy
   ·exact iu b ar t2 h2 y hy
  ·by_cases h1:x.at=[42]
   ·obtain⟨t1,t2,h2,h3,rfl⟩:=fN h1 ht
    simp only[bh,bB]at hy
    rcases hy with hy|hy
    ·exact iu a ar t1 h2 y hy
    ·exact iu b ar t2 h3 y hy
   ·by_cases h2:x.at=[114,101,99]
    ·obtain⟨t1,hla,h3,rfl⟩:=dV h2 ht
     exact iu b _ t1 h3 y hy
    ·rw[jm _ h0 h1 h2]at ht;cases ht
 | .list [],ar,t,ht,_,_=>by cases ht
 | .list [_],ar,t,ht,_,_=>by cases ht
 | .list [_,_],ar,t,ht,_,_=>by cases ht
 | .list (_::_::_::_::_),ar,t,ht,_,_=>by cases ht
theorem wC{y:Nm}(h:KD y):y.length<=3/\∀r,y≠35::r:=by
 have key:∀lo hi,116<=lo->named lo hi y=true->y.length<=3/\∀r,y≠35::r:=fun lo hi hlo h=>by
  cases y with
  |nil=>cases h
  |
   cons c r =>
   simp only[named,aq,decide_eq_true_eq]at h
   refine⟨by simp;omega,fun r' e=>?_⟩
   have:c=35:=by injection e
   subst this
   have:=h.1.2.1
   have e35:(35:UInt8).toNat=35:=rfl
   omega
 rcases h with h|h
 ·exact key 120 122 (by omega) h
 ·exact key 116 116 (by omega) h
theorem mB{s:Nm}{t:Ty}(h:qi s=some t):∀y,bh y t=true->KD y:=by
 rw[ud]at h
 cases he:vF s with
 |none=>rw[he]at h;cases h
 |some e=>rw[he]at h;exact iu e [] t h
theorem wx{s:Nm}{a:Ty}(h:qi s=some (.rc a)):bh lN a=false:=by
 cases q:bh lN a with
 |false=>rfl
 |true=>exact absurd rfl ((wC (mB h lN q)).2 [49])
theorem Bd{s:Nm}{t:Ty}(h:qi s=some t):uo t:=fun y hy=>by have:=(wC (mB h y hy)).1;omega
theorem Ox{m:Nm}{B:E}(hm:qh m)(hB:Wf B)(hl:(E.list [.atom dA,.atom m,B]).cX<=400):an Tryz.prog 133 [.agg [.v (.string (mk [])),(E.list [.atom dA,.atom m,B]).sp]] [] (kj (oJ (cJ B [m]) m)):=by
 have hw:Wf (.list [.atom dA,.atom m,B]):=.rc hm hB
 have hT:cJ (.list [.atom dA,.atom m,B]) []=.rc (cJ B [m]):=eX _ _ _
 have hP:=P3.of (.atom dA) (.atom m) B
 have hbo:cJ B []=dI (.name m) (cJ B [m]) 0:=by
  have:=xp m hB []
  rw[cS]at this;exact this
 have hba:B.cX+2=(E.list [.atom dA,.atom m,B]).cX:=by simp only[E.cX,E.eN];omega
 have i1:=zm 400 B m hB (by omega) (by omega) hm
 have n1:=jT (s:=m) hB
 rw[hbo]at i1 n1
 refine MQ _ _ ((bg _).mpr trivial) ?_
 simp only[LR,bF,toNat_one,bo,↓zq,zs,ae,zt,hP.1,hP.2.1,hP.2.2.1,hP.2.2.2,aS,dR]
 repeat refine⟨by omega,?_⟩
 refine aO i1 (kj.ne n1) ?_
 rintro r o ⟨rfl,c1,d1,hd1,rfl,hc1⟩
 simp only[↓zq,zs,ae,zt,gm hd1,oJ]
 cases q1:kN (dI (.name m) (cJ B [m]) 0) m with
 |
  none =>
  simp only[bz,bE]
  exact⟨fun _=>kj.no _ _ ((bg _).mpr trivial),fun h=>(by cases h)⟩
 |
  some d =>
  simp only[bn,a7]
  refine⟨fun h=>(by cases h),fun _=>?_⟩
  obtain⟨ed,wd,td,rfl,rfl⟩:=hc1 d q1
  have p1:=GK hm wd hw (wd.iI td (cP.1 q1).small) hl
  have g1:=rG (hw.qT.sub (x:=m) wd.qT)
  rw[hT,td]at p1 g1
  simp only[bF]at p1
  repeat refine⟨by omega,?_⟩
  refine aO p1 (kj.ne g1) ?_
  rintro r o ⟨rfl,c2,d2,hd2,rfl,hc2⟩
  simp only[↓zq,zs,ae,zt,gm hd2]
  exact⟨rfl,c2,d2,hd2,rfl,hc2⟩
theorem Kf(s:Nm):an Tryz.prog 96 [.v (.string (mk s))] [] (bH (qP (cG s))):=by
 refine P9 _ ?_
 unfold Kd
 refine aO (Fh s) (jQ.ne _ _ (fun h=>h)) ?_
 rintro r o ⟨c,d,hd,rfl,hh⟩
 have hhas:bw [.str,.sl] [.v (.string (mk c)),d] 0:=by simp[bw,ej,hd]
 simp only[↓zq,zs,ae,zt]
 refine⟨hhas,fun h=>?_,fun h=>?_⟩
 ·rw[tL]at h
  have:qi s=none:=by cases hq:qi s<;>simp[hq]at h |-
  unfold cG;rw[this];exact⟨rfl,rfl⟩
 ·rw[tL]at h
  obtain⟨t,ht⟩:=cB.1 h
  obtain⟨e,he,hw,hte,hats,hok⟩:=oP ht
  obtain⟨e',he',hce⟩:=hh (by rw[he];rfl)
  rw[he]at he';cases he'
  have notRec:(∀a,t≠.rc a)->cG s=none:=fun hn=>by
   unfold cG;rw[ht]
   cases t<;>first|rfl|exact absurd rfl (hn _)
  rw[hce,dx]
  cases hw with
  |
   @atom c hc =>
   have hn:cG s=none:=notRec fun a q=>by
    rw[<-hte]at q
    simp only[cJ]at q
    split at q
    ·cases q
    ·split at q
     ·cases q
     ·split at q<;>cases q
   rw[hn]
   refine ai (yO c _ ((bg _).mpr trivial) hc) ?_
   simp only[↓zq,zs,ae,zt]
   exact⟨fun _=>⟨rfl,rfl⟩,fun h=>by simp at h⟩
  |
   @plus x y hx hy =>
   have hn:cG s=none:=notRec fun a q=>by rw[<-hte,dL]at q;cases q
   rw[hn]
   simp only[bF]
   refine ai (nC [43] x y) ?_
   simp only[↓zq,zs,ae,zt]
   exact⟨fun _=>⟨rfl,rfl⟩,fun h=>by simp at h⟩
  |
   @times x y hx hy =>
   have hn:cG s=none:=notRec fun a q=>by rw[<-hte,dj]at q;cases q
   rw[hn]
   simp only[bF]
   refine ai (nC [42] x y) ?_
   simp only[↓zq,zs,ae,zt]
   exact⟨fun _=>⟨rfl,rfl⟩,fun h=>by simp at h⟩
  |
   @rc m B hm hB =>
   have hrt:cJ (.list [.atom dA,.atom m,B]) []=.rc (cJ B [m]):=eX _ _ _
   rw[hrt]at hte
   have hq:cG s=(oJ (cJ B [m]) m).bind told:=by
    unfold cG;rw[ht,<-hte]
    show (oJ (cJ B [m]) lN).bind told=_
    rw[Gg (wx (by rw[ht,<-hte])) (by
     cases q:bh m (cJ B [m])with
     |false=>rfl
     |true=>exact absurd (by simp) (mK hB [m] m q).2)]
   rw[hq]
   simp only[bF]
   refine ai (nC dA (.atom m) B) ?_
   simp only[↓zq,zs,ae,zt]
   refine⟨fun h=>by simp at h,fun _=>?_⟩
   have hgood:∀d,oJ (cJ B [m]) m=some d->fL d/\(uo (.rc (cJ B [m]))->uo d):=fun d hd=>qM (Wf.rc hm hB) hrt hm hd
   refine aO (Ox hm hB hats) (kj.ne fun t h=>(hgood t h).1) ?_
   rintro r o ⟨rfl,c1,d1,hd1,rfl,hc1⟩
   simp only[↓zq,zs,ae,zt,gm hd1]
   cases q1:oJ (cJ B [m]) m with
   |
    none =>
    simp only[bz,bE]
    exact⟨fun _=>⟨rfl,rfl⟩,fun h=>(by cases h)⟩
   |
    some d =>
    simp only[bn,a7]
    refine⟨fun h=>(by cases h),fun _=>?_⟩
    obtain⟨ed,wd,td,rfl,rfl⟩:=hc1 d q1
    have hl:d.aD<=400:=by
     simp only[oJ,bc,e9]at q1
     obtain⟨_,_,h1,h2⟩:=q1
     rw[<-h2];exact h1
    have hcn:=Py wd (wd.iI td hl) (by rw[td];exact(hgood d q1).2 (hte ▸ Bd ht))
    rw[td]at hcn
    refine ai hcn ?_
    cases told d<;>simp only[qP,↓zq,zs,ae,zt]<;>exact⟨rfl,rfl⟩
end Go.Proofs.Trees
namespace Go.Proofs.Trees
open Go Go.VL Go.RowKit
def vT(n:Nat):Vl->Ty->Bool
 | .u,.one=>true
 | .el k,.name _=>decide (k<n)
 | .l w,.plus a _=>vT n w a
 | .r w,.plus _ b=>vT n w b
 | .p x y,.times a b=>vT n x a&&vT n y b
 | .f w,.rc a=>vT n w (dI (.rc a) a 0)
 |_,_=>false
def lO(us:List Ty):Ty->Nat->Ty
 | .bP k,i=>if k<i then .bP k else us.getD (k-i) .zero
 | .plus a b,i=>.plus (lO us a i) (lO us b i)
 | .times a b,i=>.times (lO us a i) (lO us b i)
 | .rc a,i=>.rc (lO us a (i+1))
 |t,_=>t
def xq:List Fr->List Ty
 |[]=>[]
 |f::r=>lO (xq r) (xQ f.ex r) 0::xq r
theorem lq(u:Ty):∀(t:Ty) {i:Nat},jO t i->dI u t i=t
 | .bP k,i,h=>by simp only[dI];rw[if_neg (by have:k<i:=h;omega)]
 | .plus a b,i,h=>by simp only[dI];rw[lq u a h.1,lq u b h.2]
 | .times a b,i,h=>by simp only[dI];rw[lq u a h.1,lq u b h.2]
 | .rc a,i,h=>by simp only[dI];rw[lq u a (i:=i+1) h]
 | .zero,_,_=>rfl
 | .one,_,_=>rfl
 | .name _,_,_=>rfl
theorem oY(us:List Ty):∀(t:Ty) {i:Nat},jO t i->lO us t i=t
 | .bP k,i,h=>by simp only[lO];rw[if_pos (by have:k<i:=h;omega)]
 | .plus a b,i,h=>by simp only[lO];rw[oY us a h.1,oY us b h.2]
 | .times a b,i,h=>by simp only[lO];rw[oY us a h.1,oY us b h.2]
 | .rc a,i,h=>by simp only[lO];rw[oY us a (i:=i+1) h]
 | .zero,_,_=>rfl
 | .one,_,_=>rfl
 | .name _,_,_=>rfl
theorem w8{us:List Ty}(hu:∀u,u∈us->jO u 0)(k:Nat):jO (us.getD k .zero) 0:=by
 by_cases h:k<us.length
 ·rw[aa,bf h];exact hu _ (bD h)
 ·rw[aa,List.getElem?_eq_none (by omega)];trivial
theorem oO{us:List Ty}(hu:∀u,u∈us->jO u 0):∀(t:Ty) (i:Nat),jO (lO us t i) i
 |
  .bP k,i=>by
  simp only[lO]
  split
  ·rename_i h;exact h
  ·exact gn _ (w8 hu _) (dO _)
 | .plus a b,i=>⟨oO hu a i,oO hu b i⟩
 | .times a b,i=>⟨oO hu a i,oO hu b i⟩
 | .rc a,i=>oO hu a (i+1)
 | .zero,_=>trivial
 | .one,_=>trivial
 | .name _,_=>trivial
theorem mD{us:List Ty}(hu:∀u,u∈us->jO u 0)(U:Ty):∀(t:Ty) (i:Nat),dI U (lO us t (i+1)) i=lO (U::us) t i
 |
  .bP k,i=>by
  simp only[lO]
  by_cases h1:k<i
  ·rw[if_pos (by omega),if_pos h1];simp only[dI];rw[if_neg (by omega)]
  ·rw[if_neg h1]
   by_cases h2:k=i
   ·subst h2;rw[if_pos (by omega)];simp[dI]
   ·rw[if_neg (by omega),lq U _ (gn _ (w8 hu _) (dO _)),show k-i=(k-(i+1))+1 by omega,List.getD_cons_succ]
 | .plus a b,i=>by simp only[lO,dI];rw[mD hu U a i,mD hu U b i]
 | .times a b,i=>by simp only[lO,dI];rw[mD hu U a i,mD hu U b i]
 | .rc a,i=>by simp only[lO,dI];rw[mD hu U a (i+1)]
 | .zero,_=>rfl
 | .one,_=>rfl
 | .name _,_=>rfl
theorem vG:∀env:List Fr,∀u,u∈xq env->jO u 0
 |[],u,h=>by cases h
 |
  f::r,u,h=>by
  rcases aI.1 h with rfl|h
  ·exact oO (vG r) _ 0
  ·exact vG r u h
theorem Cg{env:List Fr}(h:WF env):∀{u:Nat} {g:Fr},env[u]?=some g->(xq env).getD u .zero=lO (xq g.out) (xQ g.ex g.out) 0:=by
 induction h with
 |nil=>intro u g hg;simp at hg
 |
  cons hs hok hx ht hf hr ih =>
  intro u g hg
  cases u with
  |zero=>simp at hg;subst hg;rfl
  |
   succ u =>
   have:=ih (u:=u) (g:=g) (by simpa using hg)
   simpa[xq]using this
theorem oW(n:Nat):∀(m:Nat) (v:Vl),v.nodes<=m->∀(e:E) (env:List Fr) (t:Ty),Ask e env t->fD n v (e,env)=vT n v (lO (xq env) t 0)
 |0,v,hm=>by have:=dT v;omega
 |
  m+1,v,hm=>by
  intro e env t A
  have recCase:∀(x a b:E) (env:List Fr) (t1:Ty),Ask (.list [x,a,b]) env (.rc t1)->x.at=[114,101,99]->fD n v (.list [x,a,b],env)=vT n v (lO (xq env) (.rc t1) 0):=by
   intro x a b env t1 A hx
   have hhd:hd (.list [x,a,b]) env=(.list [x,a,b],env):=oT A.wf
   obtain⟨t1',he1,h1,f1,hw1⟩:=jG A.wf A.ok hx A.ty A.cl
   cases he1
   obtain⟨ok1,ok2,ok3,_⟩:=A.ok
   have A':Ask b (.mk a.at (.list [x,a,b]) env::env) t1:=⟨ok3,hw1,h1,f1⟩
   cases v with
   |
    f w =>
    simp only[Vl.nodes]at hm
    simp only[fD,hhd,hx,beq_self_eq_true,cm]
    rw[oW n m w (by omega) b _ t1 A']
    have hty:xQ (.list [x,a,b]) env=.rc t1:=by unfold xQ;rw[A.ty];rfl
    show vT n w (lO (lO (xq env) (xQ (.list [x,a,b]) env) 0::xq env) t1 0)=vT n w (dI (.rc (lO (xq env) t1 1)) (lO (xq env) t1 1) 0)
    rw[hty,mD (vG env)]
    rfl
   |_=>simp[fD,hhd,hx,lO,vT]
  rcases gZ A.wf A.ty with⟨hb,hq⟩|⟨u,g,rfl,hq,hu⟩
  ·have hhd:hd e env=(e,env):=lm hq
   rcases fU A.ty hb A.cl with⟨rfl,rfl⟩|⟨rfl,rfl⟩|⟨s,rfl,rfl,hp,h0,h1⟩|⟨x,a,b,t1,t2,rfl,hx,rfl,ha,hbb⟩|⟨x,a,b,t1,t2,rfl,hx,rfl,ha,hbb⟩|⟨x,a,b,t1,rfl,hx,rfl⟩
   ·have hp0:io [48]=false:=rfl
    cases v<;>simp[fD,hhd,lO,vT,hp0]
   ·cases v<;>simp[fD,hhd,lO,vT]
   ·cases v<;>simp[fD,hhd,lO,vT,hp,h1]
   ·obtain⟨ok1,ok2,ok3,_⟩:=A.ok
    obtain⟨f1,f2⟩:=fR A.cl
    cases v with
    |
     l w =>
     simp only[Vl.nodes]at hm
     simp only[fD,hhd,hx,beq_self_eq_true,cm,lO,vT]
     exact oW n m w (by omega) a env t1 ⟨ok2,A.wf,ha,f1⟩
    |
     r w =>
     simp only[Vl.nodes]at hm
     simp only[fD,hhd,hx,beq_self_eq_true,cm,lO,vT]
     exact oW n m w (by omega) b env t2 ⟨ok3,A.wf,hbb,f2⟩
    |_=>simp[fD,hhd,hx,lO,vT]
   ·obtain⟨ok1,ok2,ok3,_⟩:=A.ok
    obtain⟨f1,f2⟩:=fu A.cl
    cases v with
    |
     p w w' =>
     simp only[Vl.nodes]at hm
     simp only[fD,hhd,hx,beq_self_eq_true,cm,lO,vT]
     rw[oW n m w (by omega) a env t1 ⟨ok2,A.wf,ha,f1⟩,oW n m w' (by omega) b env t2 ⟨ok3,A.wf,hbb,f2⟩]
    |_=>simp[fD,hhd,hx,lO,vT]
   ·exact recCase x a b env t1 A hx
  ·obtain⟨x,a,b,t',hfe,hok,hx,ht',hf',hwf,hlt⟩:=ol A.wf hq
   have hrec:hd g.ex g.out=(g.ex,g.out):=by rw[hfe];exact oT hwf
   rw[tG n v (qp hq) hrec]
   have hcl:lO (xq env) (.bP u) 0=lO (xq g.out) (xQ g.ex g.out) 0:=by
    simp only[lO];rw[if_neg (by omega),Nat.sub_zero];exact Cg A.wf hu
   rw[hcl]
   have hty:xQ g.ex g.out=t':=by unfold xQ;rw[ht'];rfl
   rw[hty,hfe]
   rw[hfe]at ht'
   obtain⟨t1,_,_,rfl⟩:=dV hx ht'
   exact recCase x a b g.out t1 ⟨hok,hwf,ht',hf'⟩ hx
theorem nT{n:Nat}{v:Vl}{e:E}{t:Ty}(A:Ask e [] t):fD n v (e,[])=vT n v t:=by
 have:=oW n v.nodes v (aw _) e [] t A
 rw[this]
 obtain⟨w,ht⟩:=jS e [] t A.ok (fun w hw=>by cases hw) A.ty
 have hl:=tq w []
 rw[ht]at hl
 exact congrArg (vT n v) (oY _ t hl)
def eZ(σ:Nm->Option Ty):Ty->Ty
 | .name s=>(σ s).getD (.name s)
 | .plus a b=>.plus (eZ σ a) (eZ σ b)
 | .times a b=>.times (eZ σ a) (eZ σ b)
 | .rc a=>.rc (eZ σ a)
 |t=>t
def iU(σ:Nm->Option Ty)(x:Nm)(u:Ty):Nm->Option Ty:=fun s=>if s=x then some u else σ s
theorem iN(σ:Nm->Option Ty)(x:Nm)(u:Ty):∀t:Ty,eZ σ (sub x u t)=eZ (iU σ x (eZ σ u)) t
 |
  .name s=>by
  by_cases h:s=x
  ·simp[sub,eZ,iU,h]
  ·simp[sub,eZ,iU,h]
 | .plus a b=>by simp only[sub,eZ,iN σ x u a,iN σ x u b]
 | .times a b=>by simp only[sub,eZ,iN σ x u a,iN σ x u b]
 | .rc a=>by simp only[sub,eZ,iN σ x u a]
 | .zero=>rfl
 | .one=>rfl
 | .bP k=>rfl
def Cw(σ:Nm->Option Ty):Prop:=∀s u,σ s=some u->jO u 0
theorem kg{σ:Nm->Option Ty}(hσ:Cw σ):∀(t:Ty) {i:Nat},jO t i->jO (eZ σ t) i
 |
  .name s,i,_=>by
  simp only[eZ]
  cases q:σ s with
  |none=>trivial
  |some u=>exact gn u (hσ s u q) (dO _)
 | .plus a b,i,h=>⟨kg hσ a h.1,kg hσ b h.2⟩
 | .times a b,i,h=>⟨kg hσ a h.1,kg hσ b h.2⟩
 | .rc a,i,h=>kg hσ a (i:=i+1) h
 | .zero,_,_=>trivial
 | .one,_,_=>trivial
 | .bP k,_,h=>h
theorem jn{σ:Nm->Option Ty}(hσ:Cw σ)(x:Nm)(U:Ty):∀(t:Ty) (i:Nat),bh x t=false->eZ (iU σ x U) (dI (.name x) t i)=dI U (eZ σ t) i
 |
  .name s,i,h=>by
  have hs:s≠x:=by simpa[bh]using h
  simp only[dI,eZ,iU,if_neg hs]
  cases q:σ s with
  |none=>rfl
  |some u=>exact(lq U u (gn u (hσ s u q) (dO _))).symm
 |
  .bP k,i,h=>by
  simp only[dI,eZ]
  split
  ·simp[eZ,iU]
  ·rfl
 |
  .plus a b,i,h=>by
  simp only[bh,Bool.or_eq_false_iff]at h
  simp only[dI,eZ,jn hσ x U a i h.1,jn hσ x U b i h.2]
 |
  .times a b,i,h=>by
  simp only[bh,Bool.or_eq_false_iff]at h
  simp only[dI,eZ,jn hσ x U a i h.1,jn hσ x U b i h.2]
 | .rc a,i,h=>by simp only[dI,eZ,jn hσ x U a (i+1) h]
 | .zero,_,_=>rfl
 | .one,_,_=>rfl
theorem oC{σ:Nm->Option Ty}(hσ:Cw σ)(x:Nm){u:Ty}(hu:jO u 0):Cw (iU σ x u):=fun s v h=>by
 unfold iU at h
 split at h
 ·cases h;exact hu
 ·exact hσ s v h
theorem iQ(x:Nm):∀(n:Nat) (c:Vl) (t:Ty) (i:Nat),c.nodes<=n->dG (dI (.name x) t i) c=dG t c
 |0,c,_,_,h=>by have:=dT c;omega
 |
  n+1,c,t,i,hn=>by
  cases t with
  |bP k=>simp only[dI];split<;>(cases c<;>rfl)
  |
   plus a b =>
   cases c with
   |l c=>simp only[Vl.nodes]at hn;exact iQ x n c a i (by omega)
   |r c=>simp only[Vl.nodes]at hn;exact iQ x n c b i (by omega)
   |_=>rfl
  |
   times a b =>
   cases c with
   |
    l c =>
    cases c with
    |p y z=>simp only[Vl.nodes]at hn;exact iQ x n y a i (by omega)
    |_=>rfl
   |
    r c =>
    cases c with
    |p y z=>simp only[Vl.nodes]at hn;exact iQ x n z b i (by omega)
    |_=>rfl
   |_=>rfl
  |
   rc a =>
   cases c with
   |
    f c =>
    cases c with
    |l y=>simp only[Vl.nodes]at hn;exact iQ x n y a (i+1) (by omega)
    |
     r c =>
     cases c with
     |
      p y z =>
      simp only[Vl.nodes]at hn
      have h1:=iQ x n y a (i+1) (by omega)
      have h2:=iQ x n z (.rc a) i (by omega)
      show (dG (dI (.name x) a (i+1)) y&&dG (.rc (dI (.name x) a (i+1))) z)=(dG a y&&dG (.rc a) z)
      rw[h1]
      exact congrArg _ h2
     |_=>rfl
    |_=>rfl
   |_=>rfl
  |_=>rfl
end Go.Proofs.Trees
namespace Go.Proofs.Trees
open Go Go.VL Go.RowKit
theorem eY(x:Nm):∀(n:Nat) (c:Vl) (t:Ty) (i:Nat) (v:Vl),c.nodes<=n->dy (dI (.name x) t i) c v=dy t c v
 |0,c,_,_,_,h=>by have:=dT c;omega
 |
  n+1,c,t,i,v,hn=>by
  cases t with
  |bP k=>simp only[dI];split<;>(cases c<;>rfl)
  |
   plus a b =>
   cases c with
   |l c=>simp only[Vl.nodes]at hn;exact congrArg Vl.l (eY x n c a i v (by omega))
   |r c=>simp only[Vl.nodes]at hn;exact congrArg Vl.r (eY x n c b i v (by omega))
   |_=>rfl
  |
   times a b =>
   cases c with
   |
    l c =>
    cases c with
    |p y z=>simp only[Vl.nodes]at hn;exact congrArg (fun q=>Vl.p q z) (eY x n y a i v (by omega))
    |_=>rfl
   |
    r c =>
    cases c with
    |p y z=>simp only[Vl.nodes]at hn;exact congrArg (Vl.p y) (eY x n z b i v (by omega))
    |_=>rfl
   |_=>rfl
  |
   rc a =>
   cases c with
   |
    f c =>
    cases c with
    |l y=>simp only[Vl.nodes]at hn;exact congrArg Vl.f (eY x n y a (i+1) v (by omega))
    |
     r c =>
     cases c with
     |
      p y z =>
      simp only[Vl.nodes]at hn
      have h2:=eY x n z (.rc a) i v (by omega)
      have h1:=eY x n y a (i+1) (dy (.rc a) z v) (by omega)
      show Vl.f (dy (dI (.name x) a (i+1)) y (dy (.rc (dI (.name x) a (i+1))) z v))=Vl.f (dy a y (dy (.rc a) z v))
      have h3:dy (.rc (dI (.name x) a (i+1))) z v=dy (.rc a) z v:=h2
      rw[h3,h1]
     |_=>rfl
    |_=>rfl
   |_=>rfl
  |_=>rfl
theorem CL{n:Nat}{c:Vl}{a:Ty}(h:vT n c (.rc a)=true):∃w,c=.f w/\vT n w (dI (.rc a) a 0)=true:=by
 cases c with
 |f w=>exact⟨w,rfl,h⟩
 |_=>simp[vT]at h
theorem lf{n:Nat}{c:Vl}{a b:Ty}(h:vT n c (.plus a b)=true):(∃w,c=.l w/\vT n w a=true)\/∃w,c=.r w/\vT n w b=true:=by
 cases c with
 |l w=>exact .inl ⟨w,rfl,h⟩
 |r w=>exact .inr ⟨w,rfl,h⟩
 |_=>simp[vT]at h
theorem jL{n:Nat}{c:Vl}{a b:Ty}(h:vT n c (.times a b)=true):∃x y,c=.p x y/\vT n x a=true/\vT n y b=true:=by
 cases c with
 |p x y=>simp only[vT,aq]at h;exact⟨x,y,rfl,h.1,h.2⟩
 |_=>simp[vT]at h
theorem rl{σ:Nm->Option Ty}(hσ:Cw σ){a c d:Ty}{x:Nm}(ha:jO (.rc a) 0)(hc:jO c 0)(hd:jO d 0):∃X,eZ σ (pg a x c d)=.rc X/\dI (.rc X) X 0=.plus (eZ (iU σ x (eZ σ (.rc a))) c) (.times (eZ (iU σ x (eZ σ (.rc a))) d) (eZ σ (pg a x c d))):=by
 refine⟨.plus (eZ σ (sub x (.rc a) c)) (.times (eZ σ (sub x (.rc a) d)) (.bP 0)),rfl,?_⟩
 have h1:=kg hσ (sub x (.rc a) c) (j7 ha c hc)
 have h2:=kg hσ (sub x (.rc a) d) (j7 ha d hd)
 simp only[dI,lq _ _ h1,lq _ _ h2,if_true]
 rw[iN,iN]
 simp only[pg,eZ,iN]
theorem uD(n:Nat):∀(m:Nat) (c:Vl),c.nodes<=m->∀(t:Ty) (s:Nm) (d:Ty) (σ:Nm->Option Ty),Dv t s d->Cw σ->jO t 0->vT n c (eZ σ d)=true->dG t c=true
 |0,c,h=>by have:=dT c;omega
 |
  m+1,c,hm=>by
  intro t s d σ hd hσ hl hv
  cases hd with
  |zero=>cases c<;>rfl
  |one=>cases c<;>rfl
  |bP=>cases c<;>rfl
  |hit=>cases c<;>rfl
  |rj=>cases c<;>rfl
  |
   plus h1 h2 _ =>
   rcases lf hv with⟨w,rfl,hw⟩|⟨w,rfl,hw⟩
   ·simp only[Vl.nodes]at hm;exact uD n m w (by omega) _ s _ σ h1 hσ hl.1 hw
   ·simp only[Vl.nodes]at hm;exact uD n m w (by omega) _ s _ σ h2 hσ hl.2 hw
  |
   times h1 h2 _ =>
   rcases lf hv with⟨w,rfl,hw⟩|⟨w,rfl,hw⟩
   ·obtain⟨x,y,rfl,hx,hy⟩:=jL hw
    simp only[Vl.nodes]at hm;exact uD n m x (by omega) _ s _ σ h1 hσ hl.1 hx
   ·obtain⟨x,y,rfl,hx,hy⟩:=jL hw
    simp only[Vl.nodes]at hm;exact uD n m y (by omega) _ s _ σ h2 hσ hl.2 hy
  |
   @rc a _ c0 d0 x hx hs h1 h2 hsz =>
   have lo:jO (dI (.name x) a 0) 0:=ir x a hl
   obtain⟨X,e1,e2⟩:=rl (x:=x) hσ hl (h1.lc lo) (h2.lc lo)
   have hv':=hv
   rw[e1]at hv'
   obtain⟨w,rfl,hw⟩:=CL hv'
   rw[e2]at hw
   have hcl:=oC hσ x (kg hσ (.rc a) hl)
   rcases lf hw with⟨y,rfl,hy⟩|⟨y,rfl,hy⟩
   ·simp only[Vl.nodes]at hm
    have:=uD n m y (by omega) _ s _ _ h1 hcl lo hy
    rw[iQ x y.nodes y a 0 (aw _)]at this
    exact this
   ·obtain⟨y,z,rfl,hy,hz⟩:=jL hy
    simp only[Vl.nodes]at hm
    have q1:=uD n m y (by omega) _ x _ _ h2 hcl lo hy
    rw[iQ x y.nodes y a 0 (aw _)]at q1
    have q2:=uD n m z (by omega) (.rc a) s _ σ (.rc x hx hs h1 h2 hsz) hσ hl hz
    show (dG a y&&dG (.rc a) z)=true
    rw[q1,q2];rfl
theorem pJ(n:Nat):∀(m:Nat) (c:Vl),c.nodes<=m->∀(t:Ty) (s:Nm) (d:Ty) (σ:Nm->Option Ty),Dv t s d->Cw σ->jO t 0->vT n c (eZ σ d)=true->∀v,vT n v (eZ σ (.name s))=true->vT n (dy t c v) (eZ σ t)=true
 |0,c,h=>by have:=dT c;omega
 |
  m+1,c,hm=>by
  intro t s d σ hd hσ hl hv v hvv
  have no:∀c,vT n c .zero=false:=fun c=>by cases c<;>rfl
  cases hd with
  |zero=>rw[show eZ σ .zero=.zero from rfl,no]at hv;cases hv
  |one=>rw[show eZ σ .zero=.zero from rfl,no]at hv;cases hv
  |bP=>rw[show eZ σ .zero=.zero from rfl,no]at hv;cases hv
  |rj=>rw[show eZ σ .zero=.zero from rfl,no]at hv;cases hv
  |hit=>rw[mH];exact hvv
  |
   plus h1 h2 _ =>
   rcases lf hv with⟨w,rfl,hw⟩|⟨w,rfl,hw⟩
   ·simp only[Vl.nodes]at hm;exact pJ n m w (by omega) _ s _ σ h1 hσ hl.1 hw v hvv
   ·simp only[Vl.nodes]at hm;exact pJ n m w (by omega) _ s _ σ h2 hσ hl.2 hw v hvv
  |
   times h1 h2 _ =>
   rcases lf hv with⟨w,rfl,hw⟩|⟨w,rfl,hw⟩
   ·obtain⟨x,y,rfl,hx,hy⟩:=jL hw
    simp only[Vl.nodes]at hm
    have:=pJ n m x (by omega) _ s _ σ h1 hσ hl.1 hx v hvv
    show (vT n _ _&&vT n _ _)=true
    rw[this,hy];rfl
   ·obtain⟨x,y,rfl,hx,hy⟩:=jL hw
    simp only[Vl.nodes]at hm
    have:=pJ n m y (by omega) _ s _ σ h2 hσ hl.2 hy v hvv
    show (vT n _ _&&vT n _ _)=true
    rw[this,hx];rfl
  |
   @rc a _ c0 d0 x hx hs h1 h2 hsz =>
   have lo:jO (dI (.name x) a 0) 0:=ir x a hl
   obtain⟨X,e1,e2⟩:=rl (x:=x) hσ hl (h1.lc lo) (h2.lc lo)
   have hv':=hv
   rw[e1]at hv'
   obtain⟨w,rfl,hw⟩:=CL hv'
   rw[e2]at hw
   have hcl:=oC hσ x (kg hσ (.rc a) hl)
   have hop:eZ (iU σ x (eZ σ (.rc a))) (dI (.name x) a 0)=dI (eZ σ (.rc a)) (eZ σ a) 0:=jn hσ x _ a 0 hx
   have hns:eZ (iU σ x (eZ σ (.rc a))) (.name s)=eZ σ (.name s):=by simp only[eZ,iU,if_neg (Ne.symm hs)]
   have hnx:eZ (iU σ x (eZ σ (.rc a))) (.name x)=eZ σ (.rc a):=by simp[eZ,iU]
   rcases lf hw with⟨y,rfl,hy⟩|⟨y,rfl,hy⟩
   ·simp only[Vl.nodes]at hm
    have:=pJ n m y (by omega) _ s _ _ h1 hcl lo hy v (by rw[hns];exact hvv)
    rw[hop,eY x y.nodes y a 0 v (aw _)]at this
    exact this
   ·obtain⟨y,z,rfl,hy,hz⟩:=jL hy
    simp only[Vl.nodes]at hm
    have q2:=pJ n m z (by omega) (.rc a) s _ σ (.rc x hx hs h1 h2 hsz) hσ hl hz v hvv
    have q1:=pJ n m y (by omega) _ x _ _ h2 hcl lo hy (dy (.rc a) z v) (by rw[hnx];exact q2)
    rw[hop,eY x y.nodes y a 0 _ (aw _)]at q1
    exact q1
def FG:Nm->Option Ty:=fun _=>none
theorem uc:Cw FG:=fun _ _ h=>by cases h
theorem jF:∀t:Ty,eZ FG t=t
 | .name s=>rfl
 | .plus a b=>by simp only[eZ,jF a,jF b]
 | .times a b=>by simp only[eZ,jF a,jF b]
 | .rc a=>by simp only[eZ,jF a]
 | .zero=>rfl
 | .one=>rfl
 | .bP k=>rfl
theorem GA{n:Nat}{a D:Ty}{x:Nm}(hx:bh x a=false)(hl:jO (.rc a) 0)(h:oJ a x=some D){c:Vl}(hc:vT n c D=true) :
 dG a c=true/\∀v,vT n v (.rc a)=true->vT n (.f (dy a c v)) (.rc a)=true:=by
 simp only[oJ,bc,cP,e9]at h
 obtain⟨d,hd,_,rfl⟩:=h
 have lo:jO (dI (.name x) a 0) 0:=ir x a hl
 have hcl:=oC uc x hl
 have e1:sub x (.rc a) d=eZ (iU FG x (.rc a)) d:=by
  have:=iN FG x (.rc a) d
  rw[jF,jF]at this;exact this
 rw[e1]at hc
 have h1:=uD n c.nodes c (aw _) _ x _ _ hd hcl lo hc
 rw[iQ x c.nodes c a 0 (aw _)]at h1
 refine⟨h1,fun v hv=>?_⟩
 have h2:=pJ n c.nodes c (aw _) _ x _ _ hd hcl lo hc v (by simpa[eZ,iU]using hv)
 rw[eY x c.nodes c a 0 v (aw _),jn uc x _ a 0 hx,jF]at h2
 exact h2
end Go.Proofs.Trees
namespace Go.Proofs.Trees
open Go Go.VL Go.RowKit
def kh(s:List UInt8):Option Ty:=match wE s with
 |some (.rc a)=>some a
 |_=>none
def Bh:Option Ty->AV
 |some a=>(Ty.rc a).av
 |none=>gy
theorem OA(s:List UInt8):an Tryz.prog 107 [.v (.string (mk s))] [] (bH (Bh (kh s))):=by
 refine Po _ ?_
 unfold JG
 refine ai (KS s) ?_
 cases h:wE s with
 |none=>simp[↓zq,zs,ae,gS,Bh,kh,h,bH]
 |some t=>cases t<;>simp[↓zq,zs,ae,gS,Bh,kh,h,bH,Ty.av]
def pY(s v:List UInt8):Option Vl:=match kh s with
 |some _=>oz s v 100
 |none=>none
def En(s:List UInt8):AV:=match kh s with
 |some a=>(Ty.rc a).av
 |none=>gy
theorem tU{s:List UInt8}{a:Ty}(h:kh s=some a):wE s=some (.rc a):=by
 unfold kh at h
 split at h
 ·rename_i e;cases h;exact e
 ·cases h
theorem Nq(s v:List UInt8):an Tryz.prog 84 [.v (.string (mk s)),.v (.string (mk v))] [] (bH (.cA [En s,iS (pY s v)])):=by
 refine OQ _ _ ?_
 unfold HZ
 refine ai (OA s) ?_
 cases h:kh s with
 |none=>simp[↓zq,zs,ae,Bh,En,pY,h,bH,iS]
 |
  some a =>
  simp only[↓zq,zs,ae,Bh,aE,fB]
  refine⟨fun h=>(by cases h),fun _=>?_⟩
  refine ai (LN s v 100) ?_
  rw[tU h]
  simp[↓zq,zs,ae,gS,gh,En,pY,h,bH,aE]
structure LV(s v:List UInt8)(w:Vl)(a:Ty)(x A B:E):Prop where
 l:kh s=some a
 ce:ji s=some (.list [x,A,B])
 v:rO v=some w
 ask:Ask (.list [x,A,B]) [] (.rc a)
 hx:x.at=[114,101,99]
 Q4:dz A.at=true
 body:Ask B [.mk A.at (.list [x,A,B]) []] a
 fD:fD 100 w (.list [x,A,B],[])=true
theorem sY{e:E}{env:List Fr}{a:Ty}(A:Ask e env (.rc a)):∃x y z,e=.list [x,y,z]/\x.at=[114,101,99]/\dz y.at=true/\Ask z (.mk y.at (.list [x,y,z]) env::env) a:=by
 rcases fU A.ty rfl A.cl with⟨_,h⟩|⟨_,h⟩|⟨s,_,h,_⟩|⟨x,y,z,t1,t2,_,_,h,_⟩|⟨x,y,z,t1,t2,_,_,h,_⟩|⟨x,y,z,t1,rfl,hx,h⟩
 ·cases h
 ·cases h
 ·cases h
 ·cases h
 ·cases h
 ·cases h
  obtain⟨t1',he1,h1,f1,hw1⟩:=jG A.wf A.ok hx A.ty A.cl
  cases he1
  obtain⟨_,_,ok3,_⟩:=A.ok
  obtain⟨_,hla,_,_⟩:=dV hx A.ty
  exact⟨x,y,z,rfl,hx,hla,ok3,hw1,h1,f1⟩
theorem oM{s v:List UInt8}{w:Vl}(h:pY s v=some w):∃a x A B,LV s v w a x A B:=by
 unfold pY at h
 split at h
 ·rename_i a hl
  obtain⟨e,t,m,h1,h2,h3,h4,h5,h6,h7⟩:=qD h
  rw[tU hl]at h3
  cases h3
  obtain⟨x,A,B,rfl,hx,hA,hB⟩:=sY h4
  have:m=100:=by omega
  subst this
  exact⟨a,x,A,B,hl,h1,h2,h4,hx,hA,hB,h7⟩
 ·cases h
theorem LV.iE{s v:List UInt8}{w:Vl}{a:Ty}{x A B:E}(h:LV s v w a x A B):w.iE 100:=(lA h.v).2.1
theorem LV.nodes{s v:List UInt8}{w:Vl}{a:Ty}{x A B:E}(h:LV s v w a x A B):w.nodes<=200:=(lA h.v).2.2
theorem Db{n:Nat}{v:Vl}{x A B:E}{env:List Fr}(hw:WF env)(hx:x.at=[114,101,99])(h:fD n v (.list [x,A,B],env)=true):∃w,v=.f w/\fD n w (B,.mk A.at (.list [x,A,B]) env::env)=true:=by
 have hd:=oT (x:=x) (a:=A) (b:=B) hw
 cases v<;>simp[fD,hd,hx]at h |-
 exact h
theorem O2(n:Nat)(v:Vl)(x A B:E)(a:Ty)(hA:Ask B [.mk A.at (.list [x,A,B]) []] a)(hx:x.at=[114,101,99])(hv:fD n v (.list [x,A,B],[])=true)(hl:v.nodes<90000):an Tryz.prog 68 [(Ty.rc a).av,v.cr] [] (bH (.sl (ib (kids a v)))):=by
 obtain⟨w,rfl,hw⟩:=Db .nil hx hv
 refine Nc _ _ ((aE _).mpr trivial) ((aK _).mpr trivial) ?_
 unfold Mf
 refine aO (Ck a gy [] .nil) (AU.ne a gy []) ?_
 rintro r o ⟨⟨m,hm,rfl⟩,rfl⟩
 have he2:ki (.ptr [.pid m [(Ty.rc a).av,gy],gy]) [m]:=.cons hm .nil
 have hfr:LK.ptr.has (.pid m [(Ty.rc a).av,gy]):=.inr (.inr ⟨_,_,rfl⟩)
 simp only[Ty.av]at he2 hfr
 simp only[↓zq,zs,ae,bw,aE,he2.has,hfr,Vl.cr,aK,Ty.av]
 repeat refine⟨by omega,?_⟩
 simp only[Vl.nodes]at hl
 have i2:=DX n w.nodes w (aw _) B _ a hA hw (by simp;omega) _ _ he2 (by simp) (.bd 0) [] _ (by have:=zz.bd (k:=0) (ids:=[m]) (by simp) [(Ty.rc a).av,gy] [];simpa only[bj,Ty.av]using this)
 unfold Gq at i2
 refine ai i2 ?_
 simp[↓zq,zs,ae,bH,kids]
def qN(l:List Nat):List (List AV):=l.map fun(k:Nat)=>[.v (.int .i64 (k:Int))]
theorem wH(l:List Nat):(qN l).length=l.length:=by simp[qN]
end Go.Proofs.Trees
namespace Go.Proofs.Trees
open Go Go.VL Go.RowKit
theorem D9{b:UInt8}(h:gT b=true):eT b=true:=by
 simp only[gT,eT,decide_eq_true_eq]at h |-;omega
theorem BM{y:Nm}(h:KD y):y≠[]/\y.all eT=true:=by
 have key:∀lo hi,97<=lo->hi<=122->named lo hi y=true->y≠[]/\y.all eT=true:=fun lo hi h1 h2 h=>by
  cases y with
  |nil=>cases h
  |
   cons c r =>
   simp only[named,aq,decide_eq_true_eq]at h
   refine⟨by simp,?_⟩
   rw[cT,aq]
   refine⟨?_,?_⟩
   ·simp only[eT,decide_eq_true_eq];omega
   ·rw[bR]
    intro b hb
    exact D9 (bR.1 h.2 b hb)
 rcases h with h|h
 ·exact key 120 122 (by omega) (by omega) h
 ·exact key 116 116 (by omega) (by omega) h
theorem Bw(m:Nat):(tN m).all eT=true:=by
 rw[cT,vS (m+1) m (by omega)];rfl
theorem pf(F:List Nm):∀(t:Ty) (to:List Nm) (k:Nat),(∀y,bh y t=true->y≠[]/\y.all eT=true)->(∀w,w∈to->w≠[]/\w.all eT=true)->jO t to.length->(gF F t to k).1.pr
 | .zero,_,_,_,_,_=>⟨by simp,by decide⟩
 | .one,_,_,_,_,_=>⟨by simp,by decide⟩
 | .name s,_,_,hn,_,_=>hn s (by simp[bh])
 |
  .bP u,to,_,_,ht,hl=>by
  have:to.length-1-u<to.length:=by have:u<to.length:=hl;omega
  show (E.atom (jB to u)).pr
  unfold jB
  rw[aa,bf this]
  exact ht _ (bD this)
 | .plus a b,to,k,hn,ht,hl=>⟨by simp,⟨by simp,by decide⟩,pf F a to k (fun y hy=>hn y (by simp[bh,hy])) ht hl.1,pf F b to _ (fun y hy=>hn y (by simp[bh,hy])) ht hl.2,trivial⟩
 | .times a b,to,k,hn,ht,hl=>⟨by simp,⟨by simp,by decide⟩,pf F a to k (fun y hy=>hn y (by simp[bh,hy])) ht hl.1,pf F b to _ (fun y hy=>hn y (by simp[bh,hy])) ht hl.2,trivial⟩
 |
  .rc a,to,k,hn,ht,hl=>by
  refine⟨by simp,⟨by simp,by decide⟩,⟨by simp,Bw _⟩,pf F a (to++[tN (nx F k)]) _ hn (fun w hw=>?_) (by rw[ap];exact hl),trivial⟩
  rcases aM.1 hw with hw|hw
  ·exact ht w hw
  ·simp only[aQ]at hw;rw[hw];exact⟨by simp,Bw _⟩
theorem yF{D:Ty}{dt:Nm}(g:fL D)(hn:∀y,bh y D=true->KD y)(h:told D=some dt):qi dt=some D:=by
 unfold told at h
 split at h
 ·rename_i hh
  cases h
  obtain⟨t,ht⟩:=cB.1 hh.2
  obtain⟨e,he,hw,hte,_,_⟩:=oP ht
  obtain⟨h1,_,_⟩:=oU he
  obtain⟨hx,hpr,_⟩:=w7 h1
  obtain⟨w1,w2,_⟩:=kb (bG D []) D [] 0 (.nil _ _) g.1 fun y hy=>⟨(eK D [] y).2 (.inr hy),g.2 y hy⟩
  have hp:=pf (bG D []) D [] 0 (fun y hy=>BM (hn y hy)) (fun w hw=>by cases hw) g.1
  have:=Ao hp hpr hx
  rw[ht,<-hte,<-this,w2]
 ·cases h
theorem su{a d:Ty}{x:Nm}(h:oJ a x=some d):∀y,bh y d=true->bh y a=true:=by
 simp only[oJ,bc,cP,e9]at h
 obtain⟨d',h1,_,rfl⟩:=h
 intro y hy
 rcases iM _ hy with h|⟨h,h'⟩
 ·exact h
 ·rcases gq a 0 (h1.names y h')with e|e
  ·exact absurd e h
  ·exact e
structure ZT(s d:Nm)(a:Ty)(x A B:E)(D:Ty):Prop where
 l:kh s=some a
 ce:ji s=some (.list [x,A,B])
 ask:Ask (.list [x,A,B]) [] (.rc a)
 hx:x.at=[114,101,99]
 body:Ask B [.mk A.at (.list [x,A,B]) []] a
 dl:cG s=some d
 y:qi s=some (.rc a)
 lp:oJ a lN=some D
 bk:qi d=some D
theorem xX{s:Nm}{t:Ty}(h:wE s=some t):qi s=some t:=by
 unfold wE at h
 split at h
 ·cases h
 ·rename_i u hu
  split at h
  ·cases h;exact hu
  ·cases h
theorem ZT.of{s d:Nm}{a:Ty}(hl:kh s=some a)(hd:cG s=some d):∃x A B D,ZT s d a x A B D:=by
 have hc:=tU hl
 cases hce:ji s with
 |none=>rw[mG hce]at hc;cases hc
 |
  some e =>
  obtain⟨t,h1,hA,_⟩:=gM hce
  rw[hc]at h1;cases h1
  obtain⟨x,A,B,rfl,hx,hA',hB⟩:=sY hA
  have hy:=xX hc
  have hd':=hd
  unfold cG at hd'
  rw[hy]at hd'
  obtain⟨D,h2,h3⟩:=bc.1 hd'
  obtain⟨e2,he2,hw2,hte2,_,_⟩:=oP hy
  have hg:=qM hw2 hte2 (x:=lN) ⟨by simp,by simp,by simp⟩ h2
  exact⟨x,A,B,D,hl,hce,hA,hx,hB,hd,hy,h2,yF hg.1 (fun y hy'=>mB hy y (su h2 y hy')) h3⟩
structure Cx(a:Ty)(w:Vl):Prop where
 ok:dG a w=true
 ty:∀v,vT 100 v (.rc a)=true->vT 100 (.f (dy a w v)) (.rc a)=true
 iE:w.iE 100
 nd:w.nodes<=200
structure Fo(a:Ty)(v:Vl):Prop where
 ty:vT 100 v (.rc a)=true
 iE:v.iE 100
 nd:v.nodes<=200
theorem ZT.BF{s d:Nm}{a:Ty}{x A B:E}{D:Ty}(z:ZT s d a x A B D){c:Nm}{w:Vl}(h:oz d c 100=some w):Cx a w:=by
 obtain⟨e,t,m,h1,h2,h3,h4,h5,h6,h7⟩:=qD h
 have hm:m=100:=by omega
 subst hm
 have:=xX h3
 rw[z.bk]at this;cases this
 rw[nT h4]at h7
 obtain⟨e2,he2,hw2,hte2,_,_⟩:=oP z.y
 have hlc:jO (.rc a) 0:=hte2 ▸ hw2.qT.1
 obtain⟨q1,q2⟩:=GA (wx z.y) hlc z.lp h7
 exact⟨q1,q2,(lA h2).2.1,(lA h2).2.2⟩
theorem ZT.vD{s d:Nm}{a:Ty}{x A B:E}{D:Ty}(z:ZT s d a x A B D){f:Nm}{v:Vl}(h:pY s f=some v):Fo a v/\f=v.cY:=by
 obtain⟨a',x',A',B',L⟩:=oM h
 have:=L.l
 rw[z.l]at this;cases this
 exact⟨⟨by rw[<-nT L.ask];exact L.fD,L.iE,L.nodes⟩,qc L.v⟩
theorem Fo.fD{s d:Nm}{a:Ty}{x A B:E}{D:Ty}(z:ZT s d a x A B D){v:Vl}(h:Fo a v):fD 100 v (.list [x,A,B],[])=true:=by rw[nT z.ask];exact h.ty
theorem ZT.cY{s d:Nm}{a:Ty}{x A B:E}{D:Ty}(z:ZT s d a x A B D){w:Vl}(hb:w.iE 100)(hv:vT 100 w (.rc a)=true):oz s w.cY 100=if w.nodes<=200 then some w else none:=by
 unfold oz
 rw[z.ce]
 by_cases hn:w.nodes<=200
 ·rw[tC hb hn,if_pos hn]
  simp only
  rw[if_pos ⟨by omega,by rw[show (100:Int).toNat=100 from rfl,nT z.ask];exact hv⟩]
 ·rw[if_neg hn]
  cases q:rO w.cY with
  |none=>rfl
  |
   some w' =>
   exfalso
   obtain⟨_,h2,h3⟩:=lA q
   have:=ym hb h2 (qc q)
   rw[this]at hn;exact hn h3
theorem ZT.lv{s d:Nm}{a:Ty}{x A B:E}{D:Ty}(z:ZT s d a x A B D)(f:Nm):pY s f=oz s f 100:=by
 unfold pY;rw[z.l]
def eM(d:Nm):List Nm->Option (List Vl)
 |[]=>some []
 |
  c::r=>match oz d c 100,eM d r with
  |some w,some l=>some (w::l)
  |_,_=>none
theorem rJ{s d:Nm}{a:Ty}{x A B:E}{D:Ty}(z:ZT s d a x A B D):∀(p:List Nm) (l:List Vl),eM d p=some l->p=l.map (·.cY)/\∀c,c∈l->Cx a c
 |[],l,h=>by cases h;exact⟨rfl,fun c hc=>by cases hc⟩
 |
  c::r,l,h=>by
  simp only[eM]at h
  split at h
  ·rename_i w l' h1 h2
   cases h
   obtain⟨q1,q2⟩:=rJ z r l' h2
   obtain⟨_,_,_,_,hv,_⟩:=qD h1
   refine⟨by rw[bI,<-q1,<-qc hv],fun c' hc'=>?_⟩
   rcases aI.1 hc' with rfl|hc'
   ·exact z.BF h1
   ·exact q2 c' hc'
  ·cases h
theorem rY(d:Nm):∀(p q:List Nm),eM d (p++q)=(eM d p).bind fun l=>(eM d q).map (l++·)
 |[],q=>by cases h:eM d q<;>simp[eM,h]
 |
  c::p,q=>by
  simp only[aZ,eM,rY d p q]
  cases oz d c 100 with
  |none=>rfl
  |
   some w =>
   cases eM d p with
   |none=>rfl
   |some l=>cases eM d q<;>rfl
noncomputable def qn (s:Nm) (p:List Nm) (f:Nm):Option (List Vl×Vl):=match pY s f,cG s with
 |some v,some d=>if p.length<=50 then(eM d p).map fun l=>(l,v)else none
 |_,_=>none
def zA(s:Nm):Ty:=(kh s).getD .zero
def pZ(a:Ty)(l:List Vl)(v:Vl):Option (List Vl×Vl):=match l.getLast? with
 |none=>none
 |some c=>if(Vl.f (dy a c v)).nodes<=200 then some (l.dropLast,.f (dy a c v))else none
def iW:Nat->Ty->List Vl->Vl->Option Vl
 |0,_,_,v=>some v
 |n+1,a,l,v=>(pZ a l v).bind fun r=>iW n a r.1 r.2
def ub(a:Ty)(l:List Vl)(v:Vl):Option Vl:=iW l.length a l v
noncomputable def jb (s:Nm) (p:List Nm) (f:Nm):Option (List Vl×Vl):=(qn s p f).bind fun r=>if(ub (zA s) r.1 r.2).isSome=true then some r else none
structure ZI(a:Ty)(l:List Vl)(v:Vl):Prop where
 BF:∀c,c∈l->Cx a c
 vD:Fo a v
theorem qE{a:Ty}{l l':List Vl}{v w:Vl}(h:ZI a l v)(hu:pZ a l v=some (l',w)):ZI a l' w/\l'.length+1=l.length/\∃c,l=l'++[c]/\w=.f (dy a c v):=by
 unfold pZ at hu
 cases q:l.getLast? with
 |none=>rw[q]at hu;cases hu
 |
  some c =>
  rw[q]at hu
  simp only at hu
  split at hu
  ·rename_i hn
   cases hu
   have hne:l≠[]:=by rintro rfl;cases q
   have hl:l.dropLast++[c]=l:=by
    have:=List.dropLast_concat_getLast hne
    rw[List.getLast?_eq_some_getLast hne]at q
    cases q;exact this
   have hc:c∈l:=by rw[<-hl];simp
   have hC:=h.BF c hc
   refine⟨⟨fun c' hc'=>h.BF c' (by rw[<-hl];exact aC _ hc'),hC.ty v h.vD.ty,rE 100 a c v hC.iE h.vD.iE,hn⟩,?_,c,hl.symm,rfl⟩
   have:=congrArg List.length hl
   simpa using this
  ·cases hu
end Go.Proofs.Trees
namespace Go.Proofs.Trees
open Go Go.VL Go.RowKit
theorem vX(w:World)(k:Nat)(os:Array Obj):Below w.heap.size w (Go.«Sort».grow (w.drewN k) os):=by
 refine⟨rfl,rfl,rfl,?_,fun b hb=>?_⟩
 ·simp[Go.«Sort».grow,World.drewN]
 ·simp only[Go.«Sort».grow,World.drewN]
  rw[Array.getElem?_append_left hb]
theorem FZ(k:Nat)(hk:k<1000000000):an Tryz.prog 174 [.v (.int .i64 (k:Int))] [] (bH (.v (.string (mk (dd k))))):=by
 refine an.Pk (xs:=[.int .i64 (k:Int)]) ⟨pP,by kernel_rfl,by kernel_rfl,by kernel_rfl⟩ fun w ht=>?_
 have:=Any.strconv_Itoa Tryz.zZ (k:Int) (by omega) (by omega) w ht
 refine Calls.mono this fun e w' ⟨h1,n,os,h2⟩=>⟨?_,?_⟩
 ·rw[h1,Lib.itoa_nonneg];rfl
 ·rw[h2];exact vX w n os
abbrev hN(k:Nat):Nm:=35::dd k
theorem tP{j k:Nat}(h:hN j=hN k):j=k:=wy (j+1) j k (by omega) (List.cons.inj h).2
theorem GV(u:Ty):∀(t:Ty) (i:Nat),i+t.aD<1000000->an Tryz.prog 149 [t.av,u.av,.v (.int .i64 (i:Int))] [] (bH (dI u t i).av)
 |
  .zero,i,_=>by
  refine Gv _ _ _ ((aE _).mpr trivial) ((aE _).mpr trivial) ?_
  simp[DN,Ty.av,dI,↓zq,zs,ae,bH]
 |
  .one,i,_=>by
  refine Gv _ _ _ ((aE _).mpr trivial) ((aE _).mpr trivial) ?_
  simp[DN,Ty.av,dI,↓zq,zs,ae,bH]
 |
  .name s,i,_=>by
  refine Gv _ _ _ ((aE _).mpr trivial) ((aE _).mpr trivial) ?_
  simp[DN,Ty.av,dI,↓zq,zs,ae,bH]
 |
  .bP k,i,_=>by
  refine Gv _ _ _ ((aE _).mpr trivial) ((aE _).mpr trivial) ?_
  simp only[DN,Ty.av,dI,↓zq,zs,ae,bH]
  refine⟨by omega,fun _=>⟨by omega,fun h=>?_,fun h=>?_⟩,fun h=>absurd rfl h⟩
  ·rw[if_pos (by omega)]
  ·rw[if_neg (by omega)];rfl
 |
  .plus a b,i,hl=>by
  simp only[Ty.aD]at hl
  refine Gv _ _ _ ((aE _).mpr trivial) ((aE _).mpr trivial) ?_
  simp only[DN,Ty.av,dI,↓zq,zs,ae,aE]
  refine⟨by omega,fun h=>by omega,fun _=>⟨fun _=>?_,fun h=>absurd rfl h⟩⟩
  repeat refine⟨by omega,?_⟩
  refine ai (GV u a i (by omega)) ?_
  simp only[↓zq,zs,ae,aE]
  repeat refine⟨by omega,?_⟩
  refine ai (GV u b i (by omega)) ?_
  simp only[↓zq,zs,ae,aE]
  exact⟨rfl,rfl⟩
 |
  .times a b,i,hl=>by
  simp only[Ty.aD]at hl
  refine Gv _ _ _ ((aE _).mpr trivial) ((aE _).mpr trivial) ?_
  simp only[DN,Ty.av,dI,↓zq,zs,ae,aE]
  refine⟨by omega,fun h=>by omega,fun _=>⟨fun h=>by omega,fun _=>⟨fun _=>?_,fun h=>absurd rfl h⟩⟩⟩
  repeat refine⟨by omega,?_⟩
  refine ai (GV u a i (by omega)) ?_
  simp only[↓zq,zs,ae,aE]
  repeat refine⟨by omega,?_⟩
  refine ai (GV u b i (by omega)) ?_
  simp only[↓zq,zs,ae,aE]
  exact⟨rfl,rfl⟩
 |
  .rc a,i,hl=>by
  simp only[Ty.aD]at hl
  refine Gv _ _ _ ((aE _).mpr trivial) ((aE _).mpr trivial) ?_
  simp only[DN,Ty.av,dI,↓zq,zs,ae,aE]
  refine⟨by omega,fun h=>by omega,fun _=>⟨fun h=>by omega,fun _=>⟨fun h=>by omega,fun _=>⟨fun _=>?_,fun h=>absurd rfl h⟩⟩⟩⟩
  repeat refine⟨by omega,?_⟩
  rw[bN i (by omega)]
  refine ai (GV u a (i+1) (by omega)) ?_
  simp only[↓zq,zs,ae,aE]
  exact⟨rfl,rfl⟩
theorem Aw(x:Nm)(u:Ty):∀(t:Ty),an Tryz.prog 150 [t.av,.v (.string (mk x)),u.av] [] (bH (sub x u t).av)
 |
  .zero=>by
  refine wD _ _ _ ((aE _).mpr trivial) ((aE _).mpr trivial) ?_
  simp[DV,Ty.av,sub,↓zq,zs,ae,bH]
 |
  .one=>by
  refine wD _ _ _ ((aE _).mpr trivial) ((aE _).mpr trivial) ?_
  simp[DV,Ty.av,sub,↓zq,zs,ae,bH]
 |
  .bP k=>by
  refine wD _ _ _ ((aE _).mpr trivial) ((aE _).mpr trivial) ?_
  simp[DV,Ty.av,sub,↓zq,zs,ae,bH]
 |
  .name s=>by
  refine wD _ _ _ ((aE _).mpr trivial) ((aE _).mpr trivial) ?_
  simp only[DV,Ty.av,sub,↓zq,zs,ae,zt,bH]
  refine⟨by omega,fun _=>⟨by omega,fun h=>?_,fun h=>?_⟩,fun h=>absurd rfl h⟩
  ·rw[if_pos h]
  ·rw[if_neg h];rfl
 |
  .plus a b=>by
  refine wD _ _ _ ((aE _).mpr trivial) ((aE _).mpr trivial) ?_
  simp only[DV,Ty.av,sub,↓zq,zs,ae,aE]
  refine⟨by omega,fun h=>by omega,fun _=>⟨fun _=>?_,fun h=>absurd rfl h⟩⟩
  repeat refine⟨by omega,?_⟩
  refine ai (Aw x u a) ?_
  simp only[↓zq,zs,ae,aE]
  repeat refine⟨by omega,?_⟩
  refine ai (Aw x u b) ?_
  simp only[↓zq,zs,ae,aE]
  exact⟨rfl,rfl⟩
 |
  .times a b=>by
  refine wD _ _ _ ((aE _).mpr trivial) ((aE _).mpr trivial) ?_
  simp only[DV,Ty.av,sub,↓zq,zs,ae,aE]
  refine⟨by omega,fun h=>by omega,fun _=>⟨fun h=>by omega,fun _=>⟨fun _=>?_,fun h=>absurd rfl h⟩⟩⟩
  repeat refine⟨by omega,?_⟩
  refine ai (Aw x u a) ?_
  simp only[↓zq,zs,ae,aE]
  repeat refine⟨by omega,?_⟩
  refine ai (Aw x u b) ?_
  simp only[↓zq,zs,ae,aE]
  exact⟨rfl,rfl⟩
 |
  .rc a=>by
  refine wD _ _ _ ((aE _).mpr trivial) ((aE _).mpr trivial) ?_
  simp only[DV,Ty.av,sub,↓zq,zs,ae,aE]
  refine⟨by omega,fun h=>by omega,fun _=>⟨fun h=>by omega,fun _=>⟨fun h=>by omega,fun _=>⟨fun _=>?_,fun h=>absurd rfl h⟩⟩⟩⟩
  repeat refine⟨by omega,?_⟩
  refine ai (Aw x u a) ?_
  simp only[↓zq,zs,ae,aE]
  exact⟨rfl,rfl⟩
theorem xd(c:Int)(a b:Ty):an Tryz.prog 175 [.v (.int .u8 c),a.av,b.av] [] (bH (.ptr [.v (.int .u8 c),.v (.string (mk [])),.v (.int .i64 0),a.av,b.av])):=by
 refine N3 _ _ _ ((aE _).mpr trivial) ((aE _).mpr trivial) ?_
 simp[Kc,↓zq,zs,ae,bH]
abbrev CB(f:Nat)(g:Bool):Ob:=.cells [.v (.int .i64 (f:Int)),.v (.bool g)]
theorem LG(f:Nat)(g:Bool)(hf:f<100000000):an Tryz.prog 146 [.ref 0 0] [CB f g] (dm (.v (.string (mk (hN (f+1))))) [CB (f+1) g]):=by
 refine Pf _ _ ?_
 simp only[JM,↓zq,zs,ae,zt]
 rw[bN f (by omega)]
 refine ai (FZ (f+1) (by omega)) ?_
 have hd:=nL 8 (f+1) (by omega)
 simp only[↓zq,zs,ae,zt,aZ,aT]
 exact⟨by simp[cD];omega,rfl,rfl⟩
def uu(g:Bool)(t:Ty):Ty:=if g=true\/400<t.aD then .zero else t
def zu(g:Bool)(t:Ty):Bool:=g||decide (400<t.aD)
theorem wT(t:Ty):uu true t=.zero:=by simp[uu]
theorem uE(t:Ty):zu true t=true:=rfl
theorem uy{t:Ty}(h:t.aD<=400):uu false t=t:=by simp[uu,show ¬400<t.aD by omega]
theorem vm{t:Ty}(h:t.aD<=400):zu false t=false:=by simp[zu,show ¬400<t.aD by omega]
theorem D1{t:Ty}(h:¬t.aD<=400):zu false t=true:=by simp[zu,show 400<t.aD by omega]
theorem DJ{t:Ty}(h:¬t.aD<=400):uu false t=.zero:=by simp[uu,show 400<t.aD by omega]
theorem uX(f:Nat)(g:Bool)(t:Ty)(hl:t.aD<1000000):an Tryz.prog 147 [.ref 0 0,t.av] [CB f g] (dm (uu g t).av [CB f (zu g t)]):=by
 refine OY _ _ _ ((aE _).mpr trivial) ?_
 simp only[IU,↓zq,zs,ae,zt]
 cases g with
 |true=>exact⟨fun _=>⟨rfl,rfl⟩,fun h=>(by cases h)⟩
 |
  false =>
  refine⟨fun h=>(by cases h),fun _=>?_⟩
  refine ai (Dy t hl) ?_
  simp only[↓zq,zs,ae,zt]
  refine⟨fun h=>?_,fun h=>?_⟩
  ·have h:400<t.aD:=by omega
   simp[uu,zu,h,dm,Ty.av]
  ·have h:¬400<t.aD:=by omega
   simp[uu,zu,h,dm]
theorem FH(t:Ty)(s:Nm)(f:Nat):an Tryz.prog 148 [.ref 0 0,t.av,.v (.string (mk s))] [CB f true] (dm Ty.zero.av [CB f true]):=by
 refine KO _ _ _ _ ((aE _).mpr trivial) ?_
 simp only[Cm,↓zq,zs,ae]
 exact⟨fun _=>⟨rfl,rfl⟩,fun h=>(by cases h)⟩
def BG(f:Nat)(t:Ty):Prop:=∀j,f<j->bh (hN j) t=false
def pM(o:Option Ty)(t:Ty):Nat:=match o with|some d=>d.aD|none=>1000*t.aD
def Bf(o:Option Ty)(f B:Nat):AV->List Ob->Prop:=fun r ob=>∃f':Nat,f<=f'/\f'<=f+B/\r=(o.getD .zero).av/\ob=[CB f' o.isNone]
theorem Bf.ne(o:Option Ty)(f B:Nat):∃r ob,Bf o f B r ob:=⟨_,_,f,aw _,cU _ _,rfl,rfl⟩
theorem rA{f f':Nat}{t:Ty}(h:BG f t)(hf:f<=f'):BG f' t:=fun j hj=>h j (by omega)
theorem wl:∀(n:Nat) (t:Ty),t.aD<=n->t.aD<=400->∀(s:Nm) (f:Nat),BG f t->(∀j,f<j->s≠hN j)->f+1000*t.aD<50000000->an Tryz.prog 148 [.ref 0 0,t.av,.v (.string (mk s))] [CB f false] (Bf (kN t s) f (pM (kN t s) t))
 |0,t,h=>by have:=ek t;omega
 |
  n+1,t,hn=>by
  intro h4 s f hf hs hb
  refine KO _ _ _ _ ((aE _).mpr trivial) ?_
  have fin0:∀u:Ty,kN t s=some u->Bf (kN t s) f (pM (kN t s) t) u.av [CB f false]:=fun u hu=>by
   rw[hu];exact⟨f,aw _,cU _ _,rfl,rfl⟩
  cases t with
  |
   zero =>
   have:=fin0 .zero (vj s)
   simpa[Cm,Ty.av,↓zq,zs,ae]using this
  |
   one =>
   have:=fin0 .zero (xG s)
   simpa[Cm,Ty.av,↓zq,zs,ae]using this
  |
   bP k =>
   have:=fin0 .zero (yS k s)
   simpa[Cm,Ty.av,↓zq,zs,ae]using this
  |
   name c =>
   simp only[Cm,Ty.av,↓zq,zs,ae,zt]
   refine⟨fun h=>(by cases h),fun _=>⟨by omega,fun _=>⟨by omega,fun h=>?_,fun h=>?_⟩,fun h=>absurd rfl h⟩⟩
   ·exact fin0 .one (by rw[nS,if_pos h])
   ·exact fin0 .zero (by rw[nS,if_neg h])
  |
   plus a b =>
   simp only[Ty.aD]at hn h4 hb
   have pa:=ek a
   have pb:=ek b
   have fa:BG f a:=fun j hj=>by have:=hf j hj;simp only[bh,Bool.or_eq_false_iff]at this;exact this.1
   have fb:BG f b:=fun j hj=>by have:=hf j hj;simp only[bh,Bool.or_eq_false_iff]at this;exact this.2
   simp only[Cm,Ty.av,↓zq,zs,ae,zt,aE]
   refine⟨fun h=>(by cases h),fun _=>⟨by omega,fun h=>by omega,fun _=>⟨fun _=>?_,fun h=>absurd rfl h⟩⟩⟩
   repeat refine⟨by omega,?_⟩
   rw[uR]
   refine aO (wl n a (by omega) (by omega) s f fa hs (by omega)) (Bf.ne _ _ _) ?_
   rintro r ob ⟨f1,g1,g2,rfl,rfl⟩
   simp only[↓zq,zs,ae,zt,aL,aE]
   repeat refine⟨by omega,?_⟩
   cases q1:kN a s with
   |
    none =>
    rw[q1]at g2
    simp only[pM]at g2
    simp only[Option.isNone_none,Option.getD_none,bE]
    refine aY (FH b s f1) ?_
    simp only[↓zq,zs,ae,zt,aL,aE]
    repeat refine⟨by omega,?_⟩
    refine ai (xd 43 _ _) ?_
    simp only[↓zq,zs,ae,zt,bU]
    refine aY (uX f1 true (.plus .zero .zero) (by simp[Ty.aD])) ?_
    simp only[↓zq,zs,ae,zt,aL,aE]
    exact⟨f1,g1,by simp only[pM,Ty.aD];omega,rfl,rfl⟩
   |
    some a' =>
    rw[q1]at g2
    simp only[pM]at g2
    have la:=(cP.1 q1).small
    simp only[Option.isNone_some,cx,a7]
    refine aO (wl n b (by omega) (by omega) s f1 (rA fb g1) (fun j hj=>hs j (by omega)) (by omega)) (Bf.ne _ _ _) ?_
    rintro r ob ⟨f2,k1,k2,rfl,rfl⟩
    simp only[↓zq,zs,ae,zt,aL,aE]
    repeat refine⟨by omega,?_⟩
    refine ai (xd 43 _ _) ?_
    simp only[↓zq,zs,ae,zt,bU]
    cases q2:kN b s with
    |
     none =>
     rw[q2]at k2
     simp only[pM]at k2
     simp only[Option.isNone_none,Option.getD_none,bE]
     refine aY (uX f2 true (.plus a' .zero) (by simp[Ty.aD];omega)) ?_
     simp only[↓zq,zs,ae,zt,aL,aE]
     exact⟨f2,by omega,by simp only[pM,Ty.aD];omega,rfl,rfl⟩
    |
     some b' =>
     rw[q2]at k2
     simp only[pM]at k2
     have lb:=(cP.1 q2).small
     simp only[Option.isNone_some,cx,a7]
     refine aY (uX f2 false (.plus a' b') (by simp only[Ty.aD];omega)) ?_
     simp only[↓zq,zs,ae,zt,aL,aE]
     unfold mV
     by_cases hle:(Ty.plus a' b').aD<=400
     ·rw[if_pos hle]
      refine⟨f2,by omega,by simp only[pM,Ty.aD];omega,?_,?_⟩
      ·simp[uu,show ¬400<(Ty.plus a' b').aD by omega]
      ·simp[zu,show ¬400<(Ty.plus a' b').aD by omega]
     ·rw[if_neg hle]
      refine⟨f2,by omega,by simp only[pM,Ty.aD];omega,?_,?_⟩
      ·simp[uu,show 400<(Ty.plus a' b').aD by omega]
      ·simp[zu,show 400<(Ty.plus a' b').aD by omega]
  |
   times a b =>
   simp only[Ty.aD]at hn h4 hb
   have pa:=ek a
   have pb:=ek b
   have fa:BG f a:=fun j hj=>by have:=hf j hj;simp only[bh,Bool.or_eq_false_iff]at this;exact this.1
   have fb:BG f b:=fun j hj=>by have:=hf j hj;simp only[bh,Bool.or_eq_false_iff]at this;exact this.2
   simp only[Cm,Ty.av,↓zq,zs,ae,zt,aE]
   refine⟨fun h=>(by cases h),fun _=>⟨by omega,fun h=>by omega,fun _=>⟨fun h=>by omega,fun _=>⟨fun _=>?_,fun h=>absurd rfl h⟩⟩⟩⟩
   repeat refine⟨by omega,?_⟩
   rw[sQ]
   refine aO (wl n a (by omega) (by omega) s f fa hs (by omega)) (Bf.ne _ _ _) ?_
   rintro r ob ⟨f1,g1,g2,rfl,rfl⟩
   simp only[↓zq,zs,ae,zt,aL,aE]
   repeat refine⟨by omega,?_⟩
   refine ai (xd 42 _ _) ?_
   simp only[↓zq,zs,ae,zt,bU]
   repeat refine⟨by omega,?_⟩
   cases q1:kN a s with
   |
    none =>
    rw[q1]at g2
    simp only[pM]at g2
    simp only[Option.isNone_none,Option.getD_none,bE]
    refine aY (FH b s f1) ?_
    simp only[↓zq,zs,ae,zt,aL,aE]
    repeat refine⟨by omega,?_⟩
    refine ai (xd 42 _ _) ?_
    simp only[↓zq,zs,ae,zt,bU]
    refine ai (xd 43 (.times .zero b) (.times a .zero)) ?_
    simp only[↓zq,zs,ae,zt,bU]
    refine aY (uX f1 true (.plus (.times .zero b) (.times a .zero)) (by simp only[Ty.aD];omega)) ?_
    simp only[↓zq,zs,ae,zt,aL,aE]
    exact⟨f1,g1,by simp only[pM,Ty.aD];omega,rfl,rfl⟩
   |
    some a' =>
    rw[q1]at g2
    simp only[pM]at g2
    have la:=(cP.1 q1).small
    simp only[Option.isNone_some,cx,a7]
    refine aO (wl n b (by omega) (by omega) s f1 (rA fb g1) (fun j hj=>hs j (by omega)) (by omega)) (Bf.ne _ _ _) ?_
    rintro r ob ⟨f2,k1,k2,rfl,rfl⟩
    simp only[↓zq,zs,ae,zt,aL,aE]
    repeat refine⟨by omega,?_⟩
    refine ai (xd 42 _ _) ?_
    simp only[↓zq,zs,ae,zt,bU]
    cases q2:kN b s with
    |
     none =>
     rw[q2]at k2
     simp only[pM]at k2
     simp only[Option.isNone_none,Option.getD_none,bE]
     refine ai (xd 43 (.times a' b) (.times a .zero)) ?_
     simp only[↓zq,zs,ae,zt,bU]
     refine aY (uX f2 true (.plus (.times a' b) (.times a .zero)) (by simp only[Ty.aD];omega)) ?_
     simp only[↓zq,zs,ae,zt,aL,aE]
     exact⟨f2,by omega,by simp only[pM,Ty.aD];omega,rfl,rfl⟩
    |
     some b' =>
     rw[q2]at k2
     simp only[pM]at k2
     have lb:=(cP.1 q2).small
     simp only[Option.isNone_some,cx,a7]
     refine ai (xd 43 (.times a' b) (.times a b')) ?_
     simp only[↓zq,zs,ae,zt,bU]
     refine aY (uX f2 false (.plus (.times a' b) (.times a b')) (by simp only[Ty.aD];omega)) ?_
     simp only[↓zq,zs,ae,zt,aL,aE]
     unfold mV
     by_cases hle:(Ty.plus (.times a' b) (.times a b')).aD<=400
     ·rw[if_pos hle]
      refine⟨f2,by omega,by simp only[pM,Ty.aD];omega,?_,?_⟩
      ·simp[uu,show ¬400<(Ty.plus (.times a' b) (.times a b')).aD by omega]
      ·simp[zu,show ¬400<(Ty.plus (.times a' b) (.times a b')).aD by omega]
     ·rw[if_neg hle]
      refine⟨f2,by omega,by simp only[pM,Ty.aD];omega,?_,?_⟩
      ·simp[uu,show 400<(Ty.plus (.times a' b) (.times a b')).aD by omega]
      ·simp[zu,show 400<(Ty.plus (.times a' b) (.times a b')).aD by omega]
  |
   rc a =>
   simp only[Ty.aD]at hn h4 hb
   have pa:=ek a
   have fa:BG f a:=fun j hj=>hf j hj
   have hxa:bh (hN (f+1)) a=false:=fa _ (by omega)
   have hxs:hN (f+1)≠s:=fun e=>hs _ (by omega) e.symm
   have fo:BG (f+1) (dI (.name (hN (f+1))) a 0):=fun j hj=>by
    cases q:bh (hN j) (dI (.name (hN (f+1))) a 0)with
    |false=>rfl
    |
     true =>
     rcases gq a 0 q with e|e
     ·have:=tP e;omega
     ·rw[fa j (by omega)]at e;cases e
   have hoa:(dI (.name (hN (f+1))) a 0).aD=a.aD:=fw _ _ _
   have hop:=GV (.name (hN (f+1))) a 0 (by omega)
   rw[zM hxa hxs]
   simp only[Cm,Ty.av,↓zq,zs,ae,zt,aE]
   refine⟨fun h=>(by cases h),fun _=>⟨by omega,fun h=>by omega,fun _=>⟨fun h=>by omega,fun _=>⟨fun h=>by omega,fun _=>⟨fun _=>?_,fun h=>absurd rfl h⟩⟩⟩⟩⟩
   refine aY (LG f false (by omega)) ?_
   simp only[↓zq,zs,ae,zt,aL,aE]
   repeat refine⟨by omega,?_⟩
   simp only[Ty.av]at hop
   refine ai hop ?_
   simp only[↓zq,zs,ae,zt,aL,aE]
   refine aO (wl n (dI (.name (hN (f+1))) a 0) (by omega) (by omega) s (f+1) fo (fun j hj=>hs j (by omega)) (by omega)) (Bf.ne _ _ _) ?_
   rintro r ob ⟨f1,g1,g2,rfl,rfl⟩
   simp only[↓zq,zs,ae,zt,aL,aE]
   generalize hx:hN (f+1)=x at *
   generalize hin:dI (.name x) a 0=i at *
   have hrc:(Ty.rc a).av=.ptr [.v (.int .u8 114),.v (.string (mk [])),.v (.int .i64 0),a.av,.v (.pointer none)]:=rfl
   cases q1:kN i s with
   |
    none =>
    rw[q1]at g2
    simp only[pM]at g2
    simp only[Option.isNone_none,Option.getD_none,bE]
    refine aY (uX f1 true .zero (by simp[Ty.aD])) ?_
    simp only[↓zq,zs,ae,zt,aL,aE]
    rw[<-hrc]
    refine ai (Aw x (.rc a) _) ?_
    simp only[↓zq,zs,ae,zt,aE]
    refine aY (FH i x f1) ?_
    simp only[↓zq,zs,ae,zt,aL,aE]
    refine aY (uX f1 true .zero (by simp[Ty.aD])) ?_
    simp only[↓zq,zs,ae,zt,aL,aE]
    refine ai (Aw x (.rc a) _) ?_
    simp only[↓zq,zs,ae,zt,aE]
    refine ai (xd 42 _ (.bP 0)) ?_
    simp only[↓zq,zs,ae,zt,bU]
    refine ai (xd 43 (sub x (.rc a) (uu true .zero)) (.times (sub x (.rc a) (uu true .zero)) (.bP 0))) ?_
    simp only[↓zq,zs,ae,zt,bU,uE]
    have hz:sub x (.rc a) (uu true .zero)=.zero:=by rw[wT];rfl
    refine aY (uX f1 true (.rc (.plus (sub x (.rc a) (uu true .zero)) (.times (sub x (.rc a) (uu true .zero)) (.bP 0)))) (by rw[hz];simp only[Ty.aD];omega)) ?_
    simp only[↓zq,zs,ae,zt,aL,aE]
    rw[wT,uE]
    exact⟨f1,by omega,by simp only[pM,Ty.aD];omega,rfl,rfl⟩
   |
    some c =>
    rw[q1]at g2
    simp only[pM]at g2
    have lc:=(cP.1 q1).small
    simp only[Option.isNone_some,cx,a7]
    refine aY (uX f1 false c (by omega)) ?_
    simp only[↓zq,zs,ae,zt,aL,aE]
    rw[uy lc,vm lc,<-hrc]
    refine ai (Aw x (.rc a) c) ?_
    simp only[↓zq,zs,ae,zt,aE]
    refine aO (wl n i (by omega) (by omega) x f1 (rA fo g1) (fun j hj=>by rw[<-hx];exact fun e=>by have:=tP e;omega) (by omega)) (Bf.ne _ _ _) ?_
    rintro r ob ⟨f2,k1,k2,rfl,rfl⟩
    simp only[↓zq,zs,ae,zt,aL,aE]
    have hsc:(sub x (.rc a) c).aD+fh x c=c.aD+fh x c*(Ty.rc a).aD:=dU x (.rc a) c
    have hcc:∀t:Ty,fh x t<=t.aD:=fun t=>by
     have h1:=dU x .zero t
     have h2:=gP x .zero t
     simp only[Ty.aD,dD]at h1
     have h3:∀t:Ty,fh x t<=t.aD:=by
      intro t
      induction t with
      |name s=>simp only[fh,Ty.aD];split<;>omega
      |plus a b i1 i2=>simp only[fh,Ty.aD];omega
      |times a b i1 i2=>simp only[fh,Ty.aD];omega
      |rc a i=>simp only[fh,Ty.aD];omega
      |_=>simp[fh,Ty.aD]
     exact h3 t
    have hbig:∀t:Ty,t.aD<=400->(sub x (.rc a) t).aD<=400+400*402:=fun t ht=>by
     have h1:=dU x (.rc a) t
     have h2:=hcc t
     have h3:fh x t*(Ty.rc a).aD<=400*402:=Nat.mul_le_mul (by omega) (by simp only[Ty.aD];omega)
     omega
    have b1:=hbig c lc
    cases q2:kN i x with
    |
     none =>
     rw[q2]at k2
     simp only[pM]at k2
     simp only[Option.isNone_none,Option.getD_none,bE]
     refine aY (uX f2 true .zero (by simp[Ty.aD])) ?_
     simp only[↓zq,zs,ae,zt,aL,aE]
     rw[wT,uE]
     refine ai (Aw x (.rc a) .zero) ?_
     simp only[↓zq,zs,ae,zt,aE]
     refine ai (xd 42 _ (.bP 0)) ?_
     simp only[↓zq,zs,ae,zt,bU]
     refine ai (xd 43 (sub x (.rc a) c) (.times (sub x (.rc a) .zero) (.bP 0))) ?_
     simp only[↓zq,zs,ae,zt,bU]
     refine aY (uX f2 true (.rc (.plus (sub x (.rc a) c) (.times (sub x (.rc a) .zero) (.bP 0)))) (by simp only[sub,Ty.aD];omega)) ?_
     simp only[↓zq,zs,ae,zt,aL,aE]
     rw[wT,uE]
     exact⟨f2,by omega,by simp only[pM,Ty.aD];omega,rfl,rfl⟩
    |
     some d =>
     rw[q2]at k2
     simp only[pM]at k2
     have ld:=(cP.1 q2).small
     have b2:=hbig d ld
     simp only[Option.isNone_some,cx,a7]
     refine aY (uX f2 false d (by omega)) ?_
     simp only[↓zq,zs,ae,zt,aL,aE]
     rw[uy ld,vm ld]
     refine ai (Aw x (.rc a) d) ?_
     simp only[↓zq,zs,ae,zt,aE]
     refine ai (xd 42 _ (.bP 0)) ?_
     simp only[↓zq,zs,ae,zt,bU]
     refine ai (xd 43 (sub x (.rc a) c) (.times (sub x (.rc a) d) (.bP 0))) ?_
     simp only[↓zq,zs,ae,zt,bU]
     have hdrc:pg a x c d=.rc (.plus (sub x (.rc a) c) (.times (sub x (.rc a) d) (.bP 0))):=rfl
     refine aY (uX f2 false (pg a x c d) (by rw[hdrc];simp only[Ty.aD];omega)) ?_
     simp only[↓zq,zs,ae,zt,aL,aE]
     have s1:=gP x (.rc a) c
     have s2:=gP x (.rc a) d
     unfold mV
     by_cases hle:(pg a x c d).aD<=400
     ·rw[if_pos hle,uy hle,vm hle]
      exact⟨f2,by omega,by simp only[pM,hdrc,Ty.aD];omega,rfl,rfl⟩
     ·rw[if_neg hle,DJ hle,D1 hle]
      exact⟨f2,by omega,by simp only[pM,Ty.aD];omega,rfl,rfl⟩
def MJ(o:Option Ty):AV->List Ob->Prop:=fun r ob=>ob=[]/\∃p,LK.ptr.has p/\r=.cA [p,.v (.bool o.isSome)]/\∀d,o=some d->p=d.av
theorem MJ.ne(o:Option Ty):∃r ob,MJ o r ob:=by
 cases o with
 |none=>exact⟨_,_,rfl,gy,(gV).mpr trivial,rfl,fun d h=>by cases h⟩
 |some d=>exact⟨_,_,rfl,d.av,(aE _).mpr trivial,rfl,fun d' h=>by cases h;rfl⟩
theorem Fj:hN 1=lN:=by show (35::dd 1:Nm)=_;rw[eG (by omega)];rfl
theorem M6(a:Ty)(h4:a.aD+2<=400)(hf:∀j,bh (hN j) a=false):an Tryz.prog 109 [(Ty.rc a).av] [] (MJ (oJ a lN)):=by
 have hxa:bh (hN 1) a=false:=hf 1
 have fo:BG 1 (dI (.name (hN 1)) a 0):=fun j hj=>by
  cases q:bh (hN j) (dI (.name (hN 1)) a 0)with
  |false=>rfl
  |
   true =>
   rcases gq a 0 q with e|e
   ·have:=tP e;omega
   ·rw[hf j]at e;cases e
 have hoa:(dI (.name (hN 1)) a 0).aD=a.aD:=fw _ _ _
 have hop:=GV (.name (hN 1)) a 0 (by omega)
 rw[<-Fj]
 have hrc:(Ty.rc a).av=.ptr [.v (.int .u8 114),.v (.string (mk [])),.v (.int .i64 0),a.av,.v (.pointer none)]:=rfl
 refine Pd _ ((aE _).mpr trivial) ?_
 unfold Ly
 refine aY (LG 0 false (by omega)) ?_
 simp only[Ty.av,↓zq,zs,ae,zt,aL,aE]
 repeat refine⟨by omega,?_⟩
 simp only[Ty.av]at hop
 refine ai hop ?_
 simp only[↓zq,zs,ae,zt,aL,aE]
 refine aO (wl 400 (dI (.name (hN 1)) a 0) (by omega) (by omega) (hN 1) 1 fo (fun j hj e=>by have:=tP e;omega) (by omega)) (Bf.ne _ _ _) ?_
 rintro r ob ⟨f1,g1,g2,rfl,rfl⟩
 simp only[↓zq,zs,ae,zt,aL,aE]
 unfold oJ
 cases q1:kN (dI (.name (hN 1)) a 0) (hN 1)with
 |
  none =>
  simp only[Option.isNone_none,Option.getD_none,bE]
  refine aY (uX f1 true .zero (by simp[Ty.aD])) ?_
  simp only[↓zq,zs,ae,zt,aL,aE,uE]
  exact⟨fun _=>⟨rfl,gy,(gV).mpr trivial,rfl,fun d h=>(by cases h)⟩,fun h=>(by cases h)⟩
 |
  some d =>
  have ld:=(cP.1 q1).small
  simp only[Option.isNone_some,cx,a7]
  refine aY (uX f1 false d (by omega)) ?_
  simp only[↓zq,zs,ae,zt,aL,aE]
  rw[uy ld,vm ld]
  refine⟨fun h=>(by cases h),fun _=>?_⟩
  rw[<-hrc]
  refine ai (Aw (hN 1) (.rc a) d) ?_
  simp only[↓zq,zs,ae,zt,aE]
  have h1:=dU (hN 1) (.rc a) d
  have hcn:fh (hN 1) d<=d.aD:=by
   have h3:∀t:Ty,fh (hN 1) t<=t.aD:=by
    intro t
    induction t with
    |name s=>simp only[fh,Ty.aD];split<;>omega
    |plus a b i1 i2=>simp only[fh,Ty.aD];omega
    |times a b i1 i2=>simp only[fh,Ty.aD];omega
    |rc a i=>simp only[fh,Ty.aD];omega
    |_=>simp[fh,Ty.aD]
   exact h3 d
  have h3:fh (hN 1) d*(Ty.rc a).aD<=400*402:=Nat.mul_le_mul (by omega) (by simp only[Ty.aD];omega)
  refine aY (uX f1 false (sub (hN 1) (.rc a) d) (by omega)) ?_
  simp only[↓zq,zs,ae,zt,aL,aE]
  unfold mV
  by_cases hle:(sub (hN 1) (.rc a) d).aD<=400
  ·rw[if_pos hle,uy hle,vm hle]
   exact⟨rfl,_,(aE _).mpr trivial,rfl,fun d' h=>by cases h;rfl⟩
  ·rw[if_neg hle,DJ hle,D1 hle]
   exact⟨rfl,_,(aE _).mpr trivial,rfl,fun d' h=>(by cases h)⟩
end Go.Proofs.Trees
namespace Go.Proofs.Trees
open Go Go.VL Go.RowKit
theorem re(h:Nm)(a b:E):(eS (.list [.atom h,a,b])).length=h.length+(eS a).length+(eS b).length+4:=by
 simp only[eS,eg,au,ap,aG];omega
theorem iJ(F:List Nm)(hF:F.length<=10000):∀(t:Ty) (to:List Nm) (k:Nat),uo t->(∀w,w∈to->w.length<=20)->k+(F.length+1)*t.aD<90000000->(eS (gF F t to k).1).length<=50*t.aD
 | .zero,_,_,_,_,_=>by simp[gF,eS,Ty.aD]
 | .one,_,_,_,_,_=>by simp[gF,eS,Ty.aD]
 | .name s,_,_,hn,_,_=>by have:=hn s (by simp[bh]);simp only[gF,eS,Ty.aD];omega
 |
  .bP u,to,_,_,ht,_=>by
  show (jB to u).length<=50*1
  unfold jB
  by_cases h:to.length-1-u<to.length
  ·rw[aa,bf h];have:=ht _ (bD h);simp only[cx];omega
  ·rw[aa,List.getElem?_eq_none (by omega)];simp
 |
  .plus a b,to,k,hn,ht,hk=>by
  have h1:=ig F a to k
  have:(F.length+1)*(1+a.aD+b.aD)=(F.length+1)+(F.length+1)*a.aD+(F.length+1)*b.aD:=by simp only[cM,dD]
  simp only[Ty.aD]at hk
  have i1:=iJ F hF a to k (fun y hy=>hn y (by simp[bh,hy])) ht (by omega)
  have i2:=iJ F hF b to _ (fun y hy=>hn y (by simp[bh,hy])) ht (show (gF F a to k).2+_<_ by omega)
  simp only[gF,re,Ty.aD,au,aG];omega
 |
  .times a b,to,k,hn,ht,hk=>by
  have h1:=ig F a to k
  have:(F.length+1)*(1+a.aD+b.aD)=(F.length+1)+(F.length+1)*a.aD+(F.length+1)*b.aD:=by simp only[cM,dD]
  simp only[Ty.aD]at hk
  have i1:=iJ F hF a to k (fun y hy=>hn y (by simp[bh,hy])) ht (by omega)
  have i2:=iJ F hF b to _ (fun y hy=>hn y (by simp[bh,hy])) ht (show (gF F a to k).2+_<_ by omega)
  simp only[gF,re,Ty.aD,au,aG];omega
 |
  .rc a,to,k,hn,ht,hk=>by
  obtain⟨g1,g2,_,_⟩:=gk F k
  have:(F.length+1)*(2+a.aD)=(F.length+1)*2+(F.length+1)*a.aD:=by simp only[cM]
  simp only[Ty.aD]at hk
  have hl:=wQ (k:=nx F k) (by omega)
  have i1:=iJ F hF a (to++[tN (nx F k)]) (nx F k+1) hn (fun w hw=>by
   rcases aM.1 hw with hw|hw
   ·exact ht w hw
   ·simp only[aQ]at hw;rw[hw];exact hl) (by omega)
  simp only[gF,re,Ty.aD,au,aG]
  simp only[eS]
  simp only[au]at hl |-
  omega
theorem JS(x0 a fv:AV)(F:List Nm)(h0:LK.ptr.has x0)(ha:LK.sl.has a)(hfv:cu fv F)(hF:F.length<100000):∀(n j:Nat),pz F n j<j+n->j+n<100000000 ->
 BK [x0,a,.v (.string (mk (tN j)))] [.cells [fv],.cells [.v (.int .i64 ((j+1:Nat):Int))]] (jq 1 [x0,a,.v (.string (mk (tN (pz F n j))))] [.cells [fv],.cells [.v (.int .i64 ((pz F n j+1:Nat):Int))]])
 |0,j,h,_=>by simp only[pz]at h;omega
 |
  n+1,j,h,hj=>by
  refine Jn _ _ _ _ _ ?_
  simp only[Ej,↓zq,zs,ae,zt,ae,hfv.1,h0,ha]
  refine⟨fun h=>(by simp at h),fun _=>?_⟩
  refine ai (LP F fv hfv (tN j) (by omega)) ?_
  simp only[↓zq,zs,ae,zt]
  rw[pz]at h |-
  refine⟨fun hm=>?_,fun hm=>?_⟩
  ·rw[if_pos hm]at h |-
   refine ai (FZ (j+1) (by omega)) ?_
   have hd:=nL 8 (j+1) (by omega)
   simp only[↓zq,zs,ae,zt,aZ,aT]
   rw[bN (j+1) (by omega)]
   exact⟨by simp[cD];omega,JS x0 a fv F h0 ha hfv hF n (j+1) (by omega) (by omega)⟩
  ·rw[if_neg hm]
   exact⟨rfl,rfl,rfl⟩
theorem PR(x0 a fv:AV)(F:List Nm)(h0:LK.ptr.has x0)(ha:LK.sl.has a)(hfv:cu fv F)(hF:F.length<10000)(k:Nat)(hk:k<90000000) :
 BK [x0,a,.v (.string (mk []))] [.cells [fv],.cells [.v (.int .i64 (k:Int))]] (jq 1 [x0,a,.v (.string (mk (tN (nx F k))))] [.cells [fv],.cells [.v (.int .i64 ((nx F k+1:Nat):Int))]]):=by
 obtain⟨g1,g2,_,_⟩:=gk F k
 refine Jn _ _ _ _ _ ?_
 simp only[Ej,↓zq,zs,ae,zt,ae,hfv.1,h0,ha]
 refine⟨fun _=>?_,fun h=>(by simp at h)⟩
 refine ai (FZ k (by omega)) ?_
 have hd:=nL 8 k (by omega)
 simp only[↓zq,zs,ae,zt,aZ,aT]
 rw[bN k (by omega)]
 exact⟨by simp[cD];omega,JS x0 a fv F h0 ha hfv (by omega) (F.length+1) k (by show nx F k<_;omega) (by omega)⟩
theorem yA(F:List Nm)(fv:AV)(hfv:cu fv F)(hF:F.length<=1000):∀(t:Ty) (to:List Nm) (a:AV) (k:Nat),cu a to->to.length+t.aD<10000->jO t to.length->uo t->(∀w,w∈to->w.length<=20)->k+(F.length+1)*t.aD<80000000 ->
 an Tryz.prog 176 [t.av,a,.gv 176 [none,some 0,some 1],.ref 0 0,.ref 1 0] [.cells [fv],.cells [.v (.int .i64 (k:Int))]] (dm (.v (.string (mk (eS (gF F t to k).1)))) [.cells [fv],.cells [.v (.int .i64 ((gF F t to k).2:Int))]])
 |
  .zero,to,a,k,ha,hl,hlc,hs,ht,hk=>by
  refine wu _ _ _ _ ((aE _).mpr trivial) ha.1 hfv.1 ?_
  simp only[DO,Ty.av,↓zq,zs,ae,zt,aE]
  refine⟨by omega,fun h=>by omega,fun _=>⟨fun h=>by omega,fun _=>⟨fun h=>by omega,fun _=>⟨fun h=>by omega,fun _=>⟨fun h=>by omega,fun _=>?_⟩⟩⟩⟩⟩
  repeat refine⟨by omega,?_⟩
  exact⟨⟨rfl,(kQ _ _).mpr trivial,trivial⟩,rfl,rfl⟩
 |
  .one,to,a,k,ha,hl,hlc,hs,ht,hk=>by
  refine wu _ _ _ _ ((aE _).mpr trivial) ha.1 hfv.1 ?_
  simp only[DO,Ty.av,↓zq,zs,ae,zt,aE]
  refine⟨by omega,fun h=>by omega,fun _=>⟨fun h=>by omega,fun _=>⟨fun h=>by omega,fun _=>⟨fun h=>by omega,fun _=>⟨fun h=>by omega,fun _=>?_⟩⟩⟩⟩⟩
  repeat refine⟨by omega,?_⟩
  exact⟨⟨rfl,(kQ _ _).mpr trivial,trivial⟩,rfl,rfl⟩
 |
  .name s,to,a,k,ha,hl,hlc,hs,ht,hk=>by
  refine wu _ _ _ _ ((aE _).mpr trivial) ha.1 hfv.1 ?_
  simp[DO,Ty.av,↓zq,zs,ae,dm,gF,eS]
 |
  .bP u,to,a,k,ha,hl,hlc,hs,ht,hk=>by
  have hu:u<to.length:=hlc
  refine wu _ _ _ _ ((aE _).mpr trivial) ha.1 hfv.1 ?_
  simp only[DO,Ty.av,↓zq,zs,ae,zt,ha.len]
  rw[wrap64 ((to.length:Int)-1) (by omega) (by omega),wrap64 _ (by omega) (by omega)]
  have e1:(to.length:Int)-1-(u:Int)=((to.length-1-u:Nat):Int):=by omega
  rw[e1]
  simp only[bK,ha.idx (show to.length-1-u<to.length by omega),↓zq,zs,ae,zt]
  refine⟨by omega,fun h=>by omega,fun _=>⟨fun _=>⟨ha.1,by omega,⟨ha.1,by omega,by omega⟩,by omega,rfl,rfl⟩,fun h=>absurd rfl h⟩⟩
 |
  .plus x y,to,a,k,ha,hl,hlc,hs,ht,hk=>by
  simp only[Ty.aD]at hl hk
  have h1:=ig F x to k
  have hm:(F.length+1)*(1+x.aD+y.aD)=(F.length+1)+(F.length+1)*x.aD+(F.length+1)*y.aD:=by simp only[cM,dD]
  have sx:uo x:=fun z hz=>hs z (by simp[bh,hz])
  have sy:uo y:=fun z hz=>hs z (by simp[bh,hz])
  have t1:=iJ F (by omega) x to k sx ht (by omega)
  have t2:=iJ F (by omega) y to (gF F x to k).2 sy ht (by omega)
  have hb:(⟨(bytesOf [[.v (.int .u8 43)]]).toArray⟩:ByteArray)=mk [43]:=rfl
  have h8:jd [[AV.v (.int .u8 43)]]:=⟨rfl,(kQ _ _).mpr trivial,trivial⟩
  refine wu _ _ _ _ ((aE _).mpr trivial) ha.1 hfv.1 ?_
  simp only[DO,Ty.av,↓zq,zs,ae,zt,aE,hb]
  refine⟨by omega,fun h=>by omega,fun _=>⟨fun h=>by omega,fun _=>⟨fun _=>?_,fun h=>absurd rfl h⟩⟩⟩
  repeat refine⟨by omega,?_⟩
  refine aY (yA F fv hfv hF x to a k ha (by omega) hlc.1 sx ht (by omega)) ?_
  simp only[↓zq,zs,ae,zt,aL,hfv.1,hb,aZ,aT]
  repeat (first|refine⟨by omega,?_⟩|refine⟨h8,?_⟩|refine⟨by simp[cD];omega,?_⟩)
  refine aY (yA F fv hfv hF y to a _ ha (by omega) hlc.2 sy ht (by omega)) ?_
  simp only[↓zq,zs,ae,zt,aL,hfv.1,hb,aZ,aT]
  repeat (first|refine⟨by omega,?_⟩|refine⟨h8,?_⟩|refine⟨by simp[cD];omega,?_⟩)
  refine⟨?_,rfl⟩
  simp[gF,eS,eg]
 |
  .times x y,to,a,k,ha,hl,hlc,hs,ht,hk=>by
  simp only[Ty.aD]at hl hk
  have h1:=ig F x to k
  have hm:(F.length+1)*(1+x.aD+y.aD)=(F.length+1)+(F.length+1)*x.aD+(F.length+1)*y.aD:=by simp only[cM,dD]
  have sx:uo x:=fun z hz=>hs z (by simp[bh,hz])
  have sy:uo y:=fun z hz=>hs z (by simp[bh,hz])
  have t1:=iJ F (by omega) x to k sx ht (by omega)
  have t2:=iJ F (by omega) y to (gF F x to k).2 sy ht (by omega)
  have hb:(⟨(bytesOf [[.v (.int .u8 42)]]).toArray⟩:ByteArray)=mk [42]:=rfl
  have h8:jd [[AV.v (.int .u8 42)]]:=⟨rfl,(kQ _ _).mpr trivial,trivial⟩
  refine wu _ _ _ _ ((aE _).mpr trivial) ha.1 hfv.1 ?_
  simp only[DO,Ty.av,↓zq,zs,ae,zt,aE,hb]
  refine⟨by omega,fun h=>by omega,fun _=>⟨fun h=>by omega,fun _=>⟨fun h=>by omega,fun _=>⟨fun _=>?_,fun h=>absurd rfl h⟩⟩⟩⟩
  repeat refine⟨by omega,?_⟩
  refine aY (yA F fv hfv hF x to a k ha (by omega) hlc.1 sx ht (by omega)) ?_
  simp only[↓zq,zs,ae,zt,aL,hfv.1,hb,aZ,aT]
  repeat (first|refine⟨by omega,?_⟩|refine⟨h8,?_⟩|refine⟨by simp[cD];omega,?_⟩)
  refine aY (yA F fv hfv hF y to a _ ha (by omega) hlc.2 sy ht (by omega)) ?_
  simp only[↓zq,zs,ae,zt,aL,hfv.1,hb,aZ,aT]
  repeat (first|refine⟨by omega,?_⟩|refine⟨h8,?_⟩|refine⟨by simp[cD];omega,?_⟩)
  refine⟨?_,rfl⟩
  simp[gF,eS,eg]
 |
  .rc x,to,a,k,ha,hl,hlc,hs,ht,hk=>by
  simp only[Ty.aD]at hl hk
  obtain⟨g1,g2,_,_⟩:=gk F k
  have hm:(F.length+1)*(2+x.aD)=(F.length+1)*2+(F.length+1)*x.aD:=by simp only[cM]
  have hln:=wQ (k:=nx F k) (by omega)
  have ht':∀w,w∈to++[tN (nx F k)]->w.length<=20:=fun w hw=>by
   rcases aM.1 hw with hw|hw
   ·exact ht w hw
   ·simp only[aQ]at hw;rw[hw];exact hln
  have t1:=iJ F (by omega) x (to++[tN (nx F k)]) (nx F k+1) hs ht' (by omega)
  have hrc:(Ty.rc x).av=.ptr [.v (.int .u8 114),.v (.string (mk [])),.v (.int .i64 0),x.av,.v (.pointer none)]:=rfl
  refine wu _ _ _ _ ((aE _).mpr trivial) ha.1 hfv.1 ?_
  simp only[DO,Ty.av,↓zq,zs,ae,zt,aE]
  refine⟨by omega,fun h=>by omega,fun _=>⟨fun h=>by omega,fun _=>⟨fun h=>by omega,fun _=>⟨fun h=>by omega,fun _=>⟨fun _=>?_,fun h=>absurd rfl h⟩⟩⟩⟩⟩
  rw[<-hrc]
  repeat refine⟨by omega,?_⟩
  refine cR (PR (Ty.rc x).av a fv F ((aE _).mpr trivial) ha.1 hfv (by omega) k (by omega)) ?_
  simp only[Ty.av,↓zq,zs,ae,zt,ae,aL,hfv.1,ha.1,aE,ha.2,GR,aT,j3,jW]
  have hl2:(dd (nx F k)).length+1<=20:=hln
  have hl3:(tN (nx F k)).length=(dd (nx F k)).length+1:=rfl
  refine⟨by omega,by simp only[ap,au,aG,hl3];omega,by omega,by omega,⟨fun c hc=>by simp at hc;rw[hc];rfl,by omega⟩,?_⟩
  refine aY (yA F fv hfv hF x (to++[tN (nx F k)]) _ (nx F k+1) (.of _) (by simp;omega) (by rw[ap];exact hlc) hs ht' (by omega)) ?_
  simp only[↓zq,zs,ae,zt,aL,hfv.1]
  repeat refine⟨by omega,?_⟩
  refine⟨by simp only[ap,au,aG,hl3];omega,by simp only[ap,au,aG,hl3];omega,?_,rfl⟩
  simp[gF,eS,eg]
theorem NV(t:Ty)(g:fL t)(hs:uo t)(h4:t.aD<=400):an Tryz.prog 151 [t.av] [] (bH (.v (.string (mk (DW t))))):=by
 refine Ql _ ((aE _).mpr trivial) ?_
 unfold JF
 have hn:=eA t []
 simp only[aG,a6]at hn
 have hm:((bG t []).length+1)*t.aD<=401*400:=Nat.mul_le_mul (by omega) h4
 refine ai (Lp t (by omega)) ?_
 simp only[↓zq,zs,ae,zt,cg]
 refine aY (yA (bG t []) _ (.of _) (by omega) t [] xI 0 .nil (by simp;omega) g.1 hs (fun w hw=>by cases hw) (by omega)) ?_
 simp only[↓zq,zs,ae,zt,aL,cg]
 exact⟨rfl,rfl⟩
theorem N0(t:Ty)(g:fL t)(hs:uo t)(hl:t.aD<1000000):an Tryz.prog 110 [t.av] [] (bH (qP (told t))):=by
 refine Nj _ ((aE _).mpr trivial) ?_
 unfold HT
 refine ai (Dy t hl) ?_
 simp only[↓zq,zs,ae,zt]
 refine⟨fun h=>?_,fun h=>?_⟩
 ·have:told t=none:=by unfold told;rw[if_neg fun h'=>by have:=h'.1;omega]
  rw[this];exact⟨rfl,rfl⟩
 ·have h4:t.aD<=400:=by omega
  refine ai (NV t g hs h4) ?_
  simp only[↓zq,zs,ae,zt]
  refine ai (Ea (DW t)) ?_
  simp only[↓zq,zs,ae,zt,hJ]
  unfold told
  cases q:qi (DW t)with
  |
   none =>
   simp only[gS,↓zq,zs,ae]
   rw[if_neg (by simp)]
   exact⟨fun _=>⟨rfl,rfl⟩,fun h=>(by cases h)⟩
  |
   some u =>
   simp only[gS,↓zq,zs,ae,fB]
   rw[if_pos ⟨h4,rfl⟩]
   exact⟨fun h=>(by cases h),fun _=>⟨rfl,rfl⟩⟩
theorem NR(s:Nm):an Tryz.prog 85 [.v (.string (mk s))] [] (bH (qP (cG s))):=by
 refine Qu _ ?_
 unfold I4
 refine ai (Ea s) ?_
 simp only[↓zq,zs,ae,zt,hJ]
 cases q:qi s with
 |
  none =>
  have:cG s=none:=by unfold cG;rw[q]
  rw[this]
  simp only[gS,↓zq,zs,ae]
  exact⟨fun _=>⟨rfl,rfl⟩,fun h=>(by cases h)⟩
 |
  some t =>
  simp only[gS,↓zq,zs,ae,fB]
  have notRec:(∀a,t≠.rc a)->cG s=none:=fun hn=>by
   unfold cG;rw[q]
   cases t<;>first|rfl|exact absurd rfl (hn _)
  refine⟨fun h=>(by cases h),fun _=>?_⟩
  cases t with
  |
   rc a =>
   have h4:=sc q
   simp only[Ty.aD]at h4
   have hq:cG s=(oJ a lN).bind told:=by unfold cG;rw[q]
   obtain⟨e,he,hw,hte,hats,hok⟩:=oP q
   have hgood:∀d,oJ a lN=some d->fL d/\(uo (.rc a)->uo d):=fun d hd=>qM hw hte ⟨by simp,by simp,by simp⟩ hd
   rw[hq]
   simp only[Ty.av,↓zq,zs,ae]
   refine⟨by omega,fun h=>by omega,fun _=>?_⟩
   have hld:=M6 a (by omega) (fun j=>by
    cases q2:bh (hN j) a with
    |false=>rfl
    |true=>exact absurd rfl ((wC (mB q (hN j) q2)).2 (dd j)))
   simp only[Ty.av]at hld
   refine aO hld (MJ.ne _) ?_
   rintro r ob ⟨rfl,p,hp,rfl,hpe⟩
   simp only[↓zq,zs,ae,zt,eq_true hp]
   cases q1:oJ a lN with
   |
    none =>
    simp only[bz,bE]
    exact⟨fun _=>⟨rfl,rfl⟩,fun h=>(by cases h)⟩
   |
    some d =>
    simp only[bn,a7]
    refine⟨fun h=>(by cases h),fun _=>?_⟩
    rw[hpe d q1]
    have hl:d.aD<=400:=by
     simp only[oJ,bc,e9]at q1
     obtain⟨_,_,h1,h2⟩:=q1
     rw[<-h2];exact h1
    refine ai (N0 d (hgood d q1).1 ((hgood d q1).2 (Bd q)) (by omega)) ?_
    cases told d<;>simp only[qP,↓zq,zs,ae,zt]<;>exact⟨rfl,rfl⟩
  |
   _ =>
   rw[notRec fun a h=>by cases h]
   simp only[Ty.av,↓zq,zs,ae]
   exact⟨by omega,fun _=>⟨rfl,rfl⟩,fun h=>by omega⟩
end Go.Proofs.Trees
namespace Go.Proofs.Trees
open Go Go.VL Go.RowKit
theorem DH:∀(m:Nat) (c:Vl),c.nodes<=m->∀(t:Ty) (v:Vl),dG t c=true->∀(ea:AV) (ids:List Nat),ki ea ids->∀(s:List UInt8) (fr:AV),LK.has .ptr fr->an Tryz.prog 101 [.agg [t.av,ea],c.cr,.agg [.v (.string (mk s)),fr],v.cr] [] (bH (dy t c v).cr)
 |0,c,hm=>by have:=dT c;omega
 |
  m+1,c,hm=>by
  intro t v hc ea ids he s fr hf
  refine Ph _ _ _ _ _ _ ((aE _).mpr trivial) he.has ((aK _).mpr trivial) hf ((aK _).mpr trivial) ?_
  have fin:∀x:AV,LK.has .ptr x->LK.has .ptr x=True:=fun x h=>eq_true h
  cases t with
  |zero=>rw[se];simp[AG,Ty.av,↓zq,zs,ae,bH]
  |one=>rw[vx];simp[AG,Ty.av,↓zq,zs,ae,bH]
  |name n=>rw[mH];simp[AG,Ty.av,↓zq,zs,ae,bH]
  |bP u=>rw[qK];simp[AG,Ty.av,↓zq,zs,ae,bH]
  |
   plus a b =>
   have hL:=yQ a.av b.av ea 43 (mk []) 0 ((aE _).mpr trivial) he.has
   have hR:=yL a.av b.av ea 43 (mk []) 0 ((aE _).mpr trivial) he.has
   rcases u4 hc with⟨x,rfl,hx⟩|⟨x,rfl,hx⟩
   ·simp only[Vl.nodes]at hm
    simp only[AG,Ty.av,↓zq,zs,ae]
    refine⟨by omega,fun _=>?_,fun h=>absurd rfl h⟩
    refine ai hL ?_
    simp only[↓zq,zs,ae,bw,aE,he.has,Vl.cr,aK]
    refine⟨by omega,fun h=>by omega,fun _=>⟨by omega,by omega,?_⟩⟩
    refine ai (DH m x (by omega) a v hx ea ids he s fr hf) ?_
    simp only[↓zq,zs,ae,aK]
    refine ai (yt 108 _ ((aK _).mpr trivial)) ?_
    simp[↓zq,zs,ae,bH,dy,Vl.cr,bU]
   ·simp only[Vl.nodes]at hm
    simp only[AG,Ty.av,↓zq,zs,ae]
    refine⟨by omega,fun _=>?_,fun h=>absurd rfl h⟩
    refine ai hL ?_
    simp only[↓zq,zs,ae,bw,aE,he.has,Vl.cr,aK]
    refine⟨by omega,fun _=>?_,fun h=>absurd rfl h⟩
    refine ai hR ?_
    simp only[↓zq,zs,ae,bw,aE,he.has,Vl.cr,aK]
    refine⟨by omega,by omega,?_⟩
    refine ai (DH m x (by omega) b v hx ea ids he s fr hf) ?_
    simp only[↓zq,zs,ae,aK]
    refine ai (yt 114 _ ((aK _).mpr trivial)) ?_
    simp[↓zq,zs,ae,bH,dy,Vl.cr,bU]
  |
   times a b =>
   have hL:=yQ a.av b.av ea 42 (mk []) 0 ((aE _).mpr trivial) he.has
   have hR:=yL a.av b.av ea 42 (mk []) 0 ((aE _).mpr trivial) he.has
   rcases sB hc with⟨x,y,rfl,hx⟩|⟨x,y,rfl,hx⟩
   ·simp only[Vl.nodes]at hm
    simp only[AG,Ty.av,↓zq,zs,ae,Vl.cr]
    refine⟨by omega,fun h=>by omega,fun _=>⟨fun _=>⟨by omega,fun _=>?_,fun h=>absurd rfl h⟩,fun h=>absurd rfl h⟩⟩
    refine ai hL ?_
    simp only[↓zq,zs,ae,bw,aE,he.has,Vl.cr,aK]
    repeat refine⟨by omega,?_⟩
    refine ai (DH m x (by omega) a v hx ea ids he s fr hf) ?_
    simp only[↓zq,zs,ae,aK]
    repeat refine⟨by omega,?_⟩
    refine ai (yP _ _ ((aK _).mpr trivial) ((aK _).mpr trivial)) ?_
    simp[↓zq,zs,ae,bH,dy,Vl.cr,bU]
   ·simp only[Vl.nodes]at hm
    simp only[AG,Ty.av,↓zq,zs,ae,Vl.cr,aK]
    refine⟨by omega,fun h=>by omega,fun _=>⟨fun _=>⟨by omega,fun h=>by omega,fun _=>?_⟩,fun h=>absurd rfl h⟩⟩
    repeat refine⟨by omega,?_⟩
    refine ai hR ?_
    simp only[↓zq,zs,ae,bw,aE,he.has,Vl.cr,aK]
    repeat refine⟨by omega,?_⟩
    refine ai (DH m y (by omega) b v hx ea ids he s fr hf) ?_
    simp only[↓zq,zs,ae,aK]
    refine ai (yP _ _ ((aK _).mpr trivial) ((aK _).mpr trivial)) ?_
    simp[↓zq,zs,ae,bH,dy,Vl.cr,bU]
  |
   rc a =>
   have hin:=Ck a ea ids he
   simp only[Ty.av]at hin
   rcases zJ hc with⟨x,rfl,hx⟩|⟨x,y,rfl,hx,hy⟩
   ·simp only[Vl.nodes]at hm
    simp only[AG,Ty.av,↓zq,zs,ae,Vl.cr,aK]
    refine⟨by omega,fun h=>by omega,fun _=>⟨fun h=>by omega,fun _=>⟨fun _=>?_,fun h=>absurd rfl h⟩⟩⟩
    refine aO hin (by have:=AU.ne a ea ids;simpa only[AU,Ty.av]using this) ?_
    intro r o hr
    obtain⟨⟨q,hq,rfl⟩,rfl⟩:=hr
    have he2:ki (.ptr [.pid q [(Ty.rc a).av,ea],ea]) (q::ids):=.cons hq he
    have hfr:LK.ptr.has (.pid q [(Ty.rc a).av,ea]):=.inr (.inr ⟨_,_,rfl⟩)
    simp only[Ty.av]at he2 hfr
    simp only[↓zq,zs,ae,bw,aE,he2.has,hfr,Vl.cr,aK,Ty.av]
    repeat refine⟨by omega,?_⟩
    refine⟨fun _=>?_,fun h=>absurd rfl h⟩
    repeat refine⟨by omega,?_⟩
    refine ai (DH m x (by omega) a v hx _ _ he2 s fr hf) ?_
    simp only[↓zq,zs,ae,aK]
    refine ai (yt 102 _ ((aK _).mpr trivial)) ?_
    simp[↓zq,zs,ae,bH,dy,Vl.cr,bU]
   ·simp only[Vl.nodes]at hm
    simp only[AG,Ty.av,↓zq,zs,ae,Vl.cr,aK]
    refine⟨by omega,fun h=>by omega,fun _=>⟨fun h=>by omega,fun _=>⟨fun _=>?_,fun h=>absurd rfl h⟩⟩⟩
    refine aO hin (by have:=AU.ne a ea ids;simpa only[AU,Ty.av]using this) ?_
    intro r o hr
    obtain⟨⟨q,hq,rfl⟩,rfl⟩:=hr
    have he2:ki (.ptr [.pid q [(Ty.rc a).av,ea],ea]) (q::ids):=.cons hq he
    have hfr:LK.ptr.has (.pid q [(Ty.rc a).av,ea]):=.inr (.inr ⟨_,_,rfl⟩)
    simp only[Ty.av]at he2 hfr
    simp only[↓zq,zs,ae,bw,aE,he2.has,hfr,Vl.cr,aK,Ty.av]
    repeat refine⟨by omega,?_⟩
    refine fun _=>?_
    repeat refine⟨by omega,?_⟩
    have i1:=DH m y (by omega) (.rc a) v hy ea ids he s fr hf
    simp only[Ty.av]at i1
    refine ai i1 ?_
    simp only[↓zq,zs,ae,aK]
    repeat refine⟨by omega,?_⟩
    refine ai (DH m x (by omega) a (dy (.rc a) y v) hx _ _ he2 [] _ hfr) ?_
    simp only[↓zq,zs,ae,aK]
    refine ai (yt 102 _ ((aK _).mpr trivial)) ?_
    simp[↓zq,zs,ae,bH,dy,Vl.cr,bU]
theorem O5(a:Ty)(c v:Vl)(hc:dG a c=true):an Tryz.prog 74 [(Ty.rc a).av,c.cr,v.cr] [] (bH (Vl.f (dy a c v)).cr):=by
 refine OU _ _ _ ((aE _).mpr trivial) ((aK _).mpr trivial) ((aK _).mpr trivial) ?_
 unfold JY
 refine aO (Ck a gy [] .nil) (AU.ne a gy []) ?_
 rintro r o ⟨⟨m,hm,rfl⟩,rfl⟩
 have he2:ki (.ptr [.pid m [(Ty.rc a).av,gy],gy]) [m]:=.cons hm .nil
 have hfr:LK.ptr.has (.pid m [(Ty.rc a).av,gy]):=.inr (.inr ⟨_,_,rfl⟩)
 simp only[Ty.av]at he2 hfr
 simp only[↓zq,zs,ae,bw,aE,he2.has,hfr,Ty.av]
 repeat refine⟨by omega,?_⟩
 refine ai (DH c.nodes c (aw _) a v hc _ _ he2 [] _ hfr) ?_
 simp only[↓zq,zs,ae,aK]
 refine ai (yt 102 _ ((aK _).mpr trivial)) ?_
 simp[↓zq,zs,ae,bH,Vl.cr,bU]
end Go.Proofs.Trees
namespace Go.Proofs.Trees
open Go Go.VL Go.RowKit
def wL(l:List Vl):List (List AV):=l.map fun c=>[c.cr]
theorem gW(l:List Vl):(wL l).length=l.length:=by simp[wL]
theorem tK{l:List Vl}{i:Nat}(h:i<l.length):(wL l).getD i []=[(l[i]).cr]:=by simp[wL,aa,h]
theorem BZ(l:List Vl)(c:Vl):wL l++[[c.cr]]=wL (l++[c]):=by simp[wL]
def p7(s:Nm)(a:Ty)(l:List Vl)(v:Vl):AV:=.ptr [.v (.string (mk s)),(Ty.rc a).av,.sl (wL l),v.cr]
def oZ(s:Nm)(a:Ty):Option (List Vl×Vl)->AV
 |some r=>p7 s a r.1 r.2
 |none=>gy
theorem mo(s:Nm)(a:Ty)(o:Option (List Vl×Vl)):LK.has .ptr (oZ s a o)=True:=by cases o<;>simp[oZ,p7,gV,bU]
theorem Ns:an Tryz.prog 46 [gy] [] (bH gy):=by
 refine LC _ ((gV).mpr trivial) ?_
 simp only[E8,↓zq,zs,ae]
 exact⟨fun _=>⟨rfl,rfl⟩,fun h=>(by cases h)⟩
theorem CO(v:Vl):(Vl.f v).nodes=v.nodes+1:=by simp only[Vl.nodes];omega
theorem CE(s:Nm)(a:Ty)(l:List Vl)(v:Vl)(h:ZI a l v)(hl:l.length<=50):an Tryz.prog 46 [p7 s a l v] [] (bH (oZ s a (pZ a l v))):=by
 refine LC _ ((bU _).mpr trivial) ?_
 simp only[E8,p7,↓zq,zs,ae,gW]
 refine⟨fun h=>(by cases h),fun _=>?_⟩
 repeat refine⟨by omega,?_⟩
 unfold pZ
 refine⟨fun h0=>?_,fun h0=>?_⟩
 ·have:l=[]:=bJ (by omega)
  subst this
  exact⟨rfl,rfl⟩
 ·have hpos:0<l.length:=by omega
  have hne:l≠[]:=by rintro rfl;simp at hpos
  rw[wrap64 ((l.length:Int)-1) (by omega) (by omega)]
  have e1:((l.length:Int)-1).toNat=l.length-1:=by omega
  have hlt:l.length-1<l.length:=by omega
  have hlast:l.getLast?=some (l[l.length-1]):=by rw[List.getLast?_eq_some_getLast hne,List.getLast_eq_getElem]
  rw[hlast]
  have hC:=h.BF _ (bD hlt)
  generalize hc:l[l.length-1]=c at *
  simp only[e1,tK hlt,hc,↓zq,zs,ae,aK,aE]
  repeat refine⟨by omega,?_⟩
  refine ai (O5 a c v hC.ok) ?_
  simp only[↓zq,zs,ae,aK]
  have hn:=rr a c v
  have h1:=hC.nd
  have h2:=h.vD.nd
  refine ai (Ep (.f (dy a c v)) (by rw[CO];omega)) ?_
  simp only[↓zq,zs,ae,aK,aE]
  refine⟨fun hb=>?_,fun hb=>?_⟩
  ·rw[if_neg (by omega)];exact⟨rfl,rfl⟩
  ·rw[if_pos (by omega)]
   repeat refine⟨by omega,?_⟩
   refine⟨?_,rfl⟩
   have:(wL l).take (l.length-1)=wL l.dropLast:=by rw[List.dropLast_eq_take];simp[wL]
   simp only[oZ,p7,Int.toNat_zero,bx,this]
theorem Ht{s d:Nm}{a:Ty}{x A B:E}{D:Ty}(z:ZT s d a x A B D)(pa:AV)(p:List Nm)(hp:cu pa p)(hl:p.length<=50)(v:Vl):∀(k i:Nat) (l0:List Vl),i+k=p.length->l0.length<=i ->
 FO [.v (.string (mk d)),pa,.v (.int .i64 (p.length:Int)),.v (.int .i64 (i:Int))] [.cells [.v (.string (mk s)),(Ty.rc a).av,.any,v.cr],.vec 1 (wL l0)]
  (ou (match eM d (p.drop i)with|some l=>(1,[],[.cells [.v (.string (mk s)),(Ty.rc a).av,.any,v.cr],.vec 1 (wL (l0++l))])|none=>(2,[gy],[])))
 |
  0,i,l0,hi,Hd=>by
  refine If _ _ _ _ _ _ _ _ ?_
  have:i=p.length:=by omega
  subst this
  simp only[GH,↓zq,zs,ae,ae,aE,aK,List.drop_length]
  exact⟨hp.1,fun h=>by omega,fun _=>by simp[ou,eM]⟩
 |
  k+1,i,l0,hi,Hd=>by
  have hlt:i<p.length:=by omega
  have hd:p.drop i=p.getD i []::p.drop (i+1):=by rw[aU hlt];simp[aa,hlt]
  refine If _ _ _ _ _ _ _ _ ?_
  simp only[GH,↓zq,zs,ae,zt,ae,aE,aK,hp.len,hp.idx hlt,bK]
  refine⟨hp.1,fun _=>⟨⟨hp.1,by omega,by omega⟩,by omega,?_⟩,fun h=>by omega⟩
  refine ai (LN d (p.getD i []) 100) ?_
  rw[hd,eM]
  simp only[↓zq,zs,ae,zt,hJ,gh]
  cases q:oz d (p.getD i []) 100 with
  |
   none =>
   simp only[iS,↓zq,zs,ae]
   exact⟨fun _=>by first|trivial|rfl,fun h=>(by cases h)⟩
  |
   some w =>
   simp only[iS,↓zq,zs,ae,fj,BZ]
   refine⟨fun h=>(by cases h),fun _=>?_⟩
   rw[bN i (by omega)]
   have ih:=Ht z pa p hp hl v k (i+1) (l0++[w]) (by omega) (by simp;omega)
   refine⟨⟨fun c hc=>by simp at hc;rw[hc];rfl,by rw[gW];omega⟩,?_⟩
   cases q2:eM d (p.drop (i+1))with
   |none=>rw[q2]at ih;exact ih
   |some l=>rw[q2]at ih;simp only[bC,aZ,aT]at ih;exact ih
theorem ky{s:Nm}{p:List Nm}{f:Nm}{l:List Vl}{v:Vl}(h:qn s p f=some (l,v)):∃d a x A B D,ZT s d a x A B D/\ZI a l v/\p=l.map (·.cY)/\f=v.cY/\p.length<=50/\zA s=a/\pY s f=some v/\eM d p=some l:=by
 unfold qn at h
 split at h
 ·rename_i v' d h1 h2
  split at h
  ·rename_i hl
   obtain⟨l',h3,h4⟩:=Option.map_eq_some_iff.1 h
   cases h4
   obtain⟨a,_,_,_,L⟩:=oM h1
   obtain⟨x,A,B,D,z⟩:=ZT.of L.l h2
   obtain⟨q1,q2⟩:=rJ z p l h3
   obtain⟨q3,q4⟩:=z.vD h1
   exact⟨d,a,x,A,B,D,z,⟨q2,q3⟩,q1,q4,hl,by unfold zA;rw[L.l];rfl,h1,h3⟩
  ·cases h
 ·cases h
theorem Jl(s:Nm)(pa:AV)(p:List Nm)(hp:cu pa p)(f:Nm):an Tryz.prog 63 [.agg [.v (.string (mk s)),pa,.v (.string (mk f))]] [] (bH (oZ s (zA s) (qn s p f))):=by
 refine NJ _ _ _ hp.1 ?_
 unfold LB
 refine ai (Nq s f) ?_
 have hlt:LK.has .ptr (En s)=True:=by unfold En;split<;>simp[aE,gV]
 simp only[↓zq,zs,ae,zt,hlt,gh]
 refine ai (NR s) ?_
 have ho:∀o:Option Nm,qP o=.cA [.v (.string (mk (o.getD []))),.v (.bool o.isSome)]:=fun o=>by cases o<;>rfl
 rw[ho]
 simp only[↓zq,zs,ae,zt]
 unfold qn
 cases h1:pY s f with
 |
  none =>
  simp only[iS,↓zq,zs,ae]
  exact⟨fun _=>⟨rfl,rfl⟩,fun h=>(by cases h)⟩
 |
  some v =>
  simp only[iS,↓zq,zs,ae,fj]
  refine⟨fun h=>(by cases h),fun _=>?_⟩
  cases h2:cG s with
  |
   none =>
   simp only[bz]
   exact⟨fun _=>⟨rfl,rfl⟩,fun h=>(by cases h)⟩
  |
   some d =>
   simp only[bn,cx,hp.len]
   refine⟨fun h=>(by cases h),fun _=>⟨hp.1,fun h=>?_,fun h=>?_⟩⟩
   ·rw[if_neg (by omega)];exact⟨rfl,rfl⟩
   ·have hl:p.length<=50:=by omega
    rw[if_pos hl]
    obtain⟨a,_,_,_,L⟩:=oM h1
    obtain⟨x,A,B,D,z⟩:=ZT.of L.l h2
    have ht:En s=(Ty.rc a).av:=by unfold En;rw[L.l]
    have hza:zA s=a:=by unfold zA;rw[L.l];rfl
    rw[ht,hza]
    refine⟨hp.1,?_⟩
    have hloop:=Ht z pa p hp hl v p.length 0 [] (by omega) (by simp)
    rw[bx]at hloop
    refine fq hloop (fun ys o e=>?_) (fun ys o e=>?_)
    ·cases q:eM d p with
     |none=>rw[q]at e;cases e
     |
      some l =>
      rw[q]at e
      cases e
      simp only[↓zq,zs,ae,zt,ae,aL,aE,aK,cn]
      exact⟨rfl,rfl⟩
    ·cases q:eM d p with
     |
      none =>
      rw[q]at e
      cases e
      simp only[↓zq,zs,ae,zt,ae,aL,Option.map_none]
      exact⟨rfl,rfl⟩
     |some l=>rw[q]at e;cases e
theorem JL(s:Nm)(a:Ty)(x3:AV)(h3:LK.ptr.has x3):∀(n:Nat) (l:List Vl) (v:Vl),l.length=n->ZI a l v->n<=50 ->
 EG [x3,p7 s a l v] [] (ou (if(iW n a l v).isSome=true then(1,[x3],[])else(2,[gy],[])))
 |
  0,l,v,hl,h,hn=>by
  refine HB _ _ ?_
  simp only[Gf,p7,↓zq,zs,ae,h3,gW,hl,iW]
  repeat refine⟨by omega,?_⟩
  exact fun _=>by simp[ou]
 |
  n+1,l,v,hl,h,hn=>by
  refine HB _ _ ?_
  have hup:=CE s a l v h (by omega)
  simp only[Gf,↓zq,zs,ae,h3]
  simp only[p7,↓zq,zs,ae,gW,hl]at hup |-
  repeat refine⟨by omega,?_⟩
  refine⟨fun _=>?_,fun h=>by omega⟩
  refine ai hup ?_
  simp only[↓zq,zs,ae,mo]
  rw[iW]
  cases q:pZ a l v with
  |
   none =>
   simp only[oZ,↓zq,zs,ae,bE]
   exact⟨fun _=>by simp[ou],fun h=>(by cases h)⟩
  |
   some r =>
   obtain⟨hz,hlen,_⟩:=qE h q
   have ih:=JL s a x3 h3 n r.1 r.2 (by omega) hz (by omega)
   simp only[oZ,p7,↓zq,zs,ae,a7]at ih |-
   exact⟨fun h=>(by cases h),fun _=>ih⟩
theorem OG(s:Nm)(pa:AV)(p:List Nm)(hp:cu pa p)(f:Nm):an Tryz.prog 45 [.agg [.v (.string (mk s)),pa,.v (.string (mk f))]] [] (bH (oZ s (zA s) (jb s p f))):=by
 refine Oa _ _ _ hp.1 ?_
 unfold Mk
 refine ai (Jl s pa p hp f) ?_
 simp only[↓zq,zs,ae,zt,mo]
 unfold jb
 cases q:qn s p f with
 |
  none =>
  simp only[oZ,↓zq,zs,ae,bE]
  exact⟨fun _=>⟨rfl,rfl⟩,fun h=>(by cases h)⟩
 |
  some r =>
  obtain⟨l,v⟩:=r
  obtain⟨d,a,x,A,B,D,z,hz,hpt,hft,hl,hza,_,_⟩:=ky q
  rw[hza]
  have hll:l.length<=50:=by rw[hpt]at hl;simpa using hl
  have hloop:=JL s a (p7 s a l v) ((bU _).mpr trivial) l.length l v rfl hz hll
  simp only[oZ,a7]
  refine⟨fun h=>(by cases h),fun _=>?_⟩
  unfold ub
  refine fq hloop (fun ys o e=>?_) (fun ys o e=>?_)
  ·split at e
   ·rename_i hc
    cases e
    rw[if_pos hc]
    simp only[↓zq,zs,ae,p7,bU]
    exact⟨rfl,rfl⟩
   ·cases e
  ·split at e
   ·cases e
   ·rename_i hc
    cases e
    rw[if_neg hc]
    simp only[↓zq,zs,ae]
    exact⟨rfl,rfl⟩
end Go.Proofs.Trees
namespace Go.Proofs.Trees
open Go Go.VL
theorem lg(l:List (List UInt8)):∀x,x∈[Ob.vec 1 (bT l)]->iL x:=by
 intro x hx
 simp only[aQ]at hx
 subst hx
 intro e he c hc
 simp only[bT,ci]at he
 obtain⟨k,_,rfl⟩:=he
 simp only[aQ]at hc
 exact⟨_,hc⟩
end Go.Proofs.Trees
namespace Go.Proofs.Trees
open Go Go.VL Go.RowKit
abbrev tZ(s:Nm):Option (List Vl×Vl)->Nm×List Nm×Nm
 |some r=>(s,r.1.map (·.cY),r.2.cY)
 |none=>([],[],[])
def GZ(o:Option (List Vl×Vl)):Prop:=∀r,o=some r->(∀c,c∈r.1->c.cY.length<=900000)/\r.2.cY.length<=900000/\r.1.length<=51
theorem Cx.cY{a:Ty}{c:Vl}(h:Cx a c):c.cY.length<=900000:=by have:=iO c h.iE;have:=h.nd;omega
theorem Fo.cY{a:Ty}{c:Vl}(h:Fo a c):c.cY.length<=900000:=by have:=iO c h.iE;have:=h.nd;omega
theorem ZI.gz{a:Ty}{l:List Vl}{v:Vl}(h:ZI a l v)(hl:l.length<=51):GZ (some (l,v)):=fun r hr=>by
 cases hr;exact⟨fun c hc=>(h.BF c hc).cY,h.vD.cY,hl⟩
theorem GZ.none:GZ none:=fun r hr=>by cases hr
theorem Ke(l:List Vl)(hl:l.length<=51)(ht:∀c,c∈l->c.cY.length<=900000)(s f:Nm):∀(k i:Nat) (out:List Nm),i+k=l.length->out.length<=i ->
 Gk [.sl (wL l),.v (.int .i64 (l.length:Int)),.v (.int .i64 (i:Int))] [.cells [.v (.string (mk [])),xI,.v (.string (mk []))],.cells [.v (.string (mk s)),.any,.v (.string (mk f))],.vec 1 (bT out)]
  (jq 1 [] [.cells [.v (.string (mk [])),xI,.v (.string (mk []))],.cells [.v (.string (mk s)),.any,.v (.string (mk f))],.vec 1 (bT (out++(l.drop i).map (·.cY)))])
 |
  0,i,out,hi,ho=>by
  refine Lq _ _ _ _ _ _ _ _ _ ?_
  have:i=l.length:=by omega
  subst this
  simp only[FB,↓zq,zs,ae,zt,ae,bi,List.drop_length]
  exact⟨fun h=>by omega,fun _=>by simp[jq]⟩
 |
  k+1,i,out,hi,ho=>by
  have hlt:i<l.length:=by omega
  refine Lq _ _ _ _ _ _ _ _ _ ?_
  simp only[FB,↓zq,zs,ae,zt,ae,bi,gW,tK hlt,aK,bK]
  refine⟨fun _=>?_,fun h=>by omega⟩
  repeat refine⟨by omega,?_⟩
  refine ai (BE (l[i]) (ht _ (bD hlt))) ?_
  simp only[↓zq,zs,ae,zt,GR,j3]
  refine⟨⟨fun c hc=>by simp at hc;rw[hc];rfl,by omega⟩,?_⟩
  rw[bN i (by omega),aU hlt,bI]
  have:=Ke l hl ht s f k (i+1) (out++[(l[i]).cY]) (by omega) (by simp;omega)
  rw[bC]at this
  exact this
theorem IA(s:Nm)(a:Ty)(o:Option (List Vl×Vl))(h:GZ o):an Tryz.prog 58 [oZ s a o] [] (dm (.cA [.agg [.v (.string (mk (tZ s o).1)),.vec 0,.v (.string (mk (tZ s o).2.2))],.v (.bool o.isSome)]) [.vec 1 (bT (tZ s o).2.1)]):=by
 refine Qi _ (by rw[mo];trivial) ?_
 unfold HU
 cases o with
 |
  none =>
  simp only[oZ,↓zq,zs,ae]
  exact⟨fun _=>⟨rfl,rfl⟩,fun h=>(by cases h)⟩
 |
  some r =>
  obtain⟨h1,h2,h3⟩:=h r rfl
  simp only[oZ,p7,↓zq,zs,ae,zt,aE,aK]
  refine⟨fun h=>(by cases h),fun _=>?_⟩
  repeat refine⟨by omega,?_⟩
  refine ai (BE r.2 h2) ?_
  simp only[↓zq,zs,ae,zt,aE,aK,gW]
  repeat refine⟨by omega,?_⟩
  have hlp:=Ke r.1 h3 h1 s r.2.cY r.1.length 0 [] (by omega) (by simp)
  rw[bx,aT]at hlp
  refine cR hlp ?_
  simp only[↓zq,zs,ae,zt,ae,aL,bi]
  exact⟨rfl,rfl⟩
theorem iH{s:Nm}{p:List Nm}{f:Nm}{l:List Vl}{v:Vl}(h:jb s p f=some (l,v)):qn s p f=some (l,v)/\(ub (zA s) l v).isSome=true:=by
 unfold jb at h
 obtain⟨r,h1,h2⟩:=bc.1 h
 split at h2
 ·rename_i hc
  cases h2
  exact⟨h1,hc⟩
 ·cases h2
theorem uh{s:Nm}{p:List Nm}{f:Nm}{l:List Vl}{v:Vl}(h:jb s p f=some (l,v)):ZI (zA s) l v/\l.length<=50/\p=l.map (·.cY)/\f=v.cY:=by
 obtain⟨h1,_⟩:=iH h
 obtain⟨d,a,x,A,B,D,z,hz,hp,hf,hl,hza,_,_⟩:=ky h1
 rw[hza]
 exact⟨hz,by rw[hp]at hl;simpa using hl,hp,hf⟩
theorem AM(s:Nm)(p:List Nm)(f:Nm):GZ (qn s p f):=fun r hr=>by
 obtain⟨d,a,x,A,B,D,z,hz,hp,hf,hl,hza,_,_⟩:=ky (l:=r.1) (v:=r.2) hr
 exact hz.gz (by
  rw[hp]at hl;have:r.1.length<=50:=by simpa using hl
  omega) r rfl
noncomputable def EW (s:Nm) (p:List Nm) (f:Nm):Option (List Vl×Vl):=(jb s p f).bind fun r=>pZ (zA s) r.1 r.2
noncomputable def tf (s:Nm) (p:List Nm) (f:Nm):Option Nm:=(jb s p f).bind fun r=>(ub (zA s) r.1 r.2).map (·.cY)
theorem FP(s:Nm)(p:List Nm)(f:Nm):GZ (EW s p f):=fun r hr=>by
 obtain⟨q,h1,h2⟩:=bc.1 hr
 obtain⟨hz,hl,_⟩:=uh (l:=q.1) (v:=q.2) h1
 obtain⟨hz2,hl2,_⟩:=qE (l':=r.1) (w:=r.2) hz h2
 exact hz2.gz (by omega) r rfl
abbrev HG(s:Nm)(o:Option (List Vl×Vl)):AV->List Ob->Prop:=dm (.cA [.agg [.v (.string (mk (tZ s o).1)),.vec 0,.v (.string (mk (tZ s o).2.2))],.v (.bool o.isSome)]) [.vec 1 (bT (tZ s o).2.1)]
theorem PG(s:Nm)(pa:AV)(p:List Nm)(hp:cu pa p)(f:Nm):an Tryz.prog 31 [.agg [.v (.string (mk s)),pa,.v (.string (mk f))]] [] (HG s (EW s p f)):=by
 refine O4 _ _ _ hp.1 ?_
 unfold Kh
 refine ai (OG s pa p hp f) ?_
 simp only[↓zq,zs,ae,zt,mo]
 have key:an Tryz.prog 46 [oZ s (zA s) (jb s p f)] [] (bH (oZ s (zA s) (EW s p f))):=by
  unfold EW
  cases q:jb s p f with
  |none=>exact Ns
  |
   some r =>
   obtain⟨hz,hl,_⟩:=uh (l:=r.1) (v:=r.2) q
   exact CE s (zA s) r.1 r.2 hz hl
 refine ai key ?_
 simp only[↓zq,zs,ae,zt,mo]
 refine aY (IA s (zA s) (EW s p f) (FP s p f)) ?_
 simp only[↓zq,zs,ae,zt,aL]
 exact⟨lg _,rfl,rfl⟩
theorem Oj(s f:Nm):an Tryz.prog 27 [.v (.string (mk s)),.v (.string (mk f))] [] (HG s (qn s [] f)):=by
 refine MO _ _ ?_
 unfold Ip
 refine ai (Jl s _ [] (cu.nil) f) ?_
 simp only[↓zq,zs,ae,zt,mo]
 refine aY (IA s (zA s) _ (AM s [] f)) ?_
 simp only[↓zq,zs,ae,zt,aL]
 exact⟨lg _,rfl,rfl⟩
theorem Lm(s:Nm)(a:Ty):∀(n:Nat) (l:List Vl) (v w:Vl),l.length=n->ZI a l v->n<=50->iW n a l v=some w->Fo a w /\
 GG [p7 s a l v] [] (jq 1 [p7 s a [] w] [])
 |
  0,l,v,w,hl,h,hn,hc=>by
  cases hc
  have:l=[]:=bJ hl
  subst this
  refine⟨h.vD,J1 _ ?_⟩
  simp only[GF,p7,↓zq,zs,ae,gW,aG]
  refine⟨by omega,fun h=>by omega,fun _=>by simp[jq]⟩
 |
  n+1,l,v,w,hl,h,hn,hc=>by
  rw[iW]at hc
  obtain⟨r,hu,hc⟩:=bc.1 hc
  obtain⟨hz,hlen,_⟩:=qE (l':=r.1) (w:=r.2) h hu
  obtain⟨i1,i2⟩:=Lm s a n r.1 r.2 w (by omega) hz (by omega) hc
  refine⟨i1,J1 _ ?_⟩
  have hup:=CE s a l v h (by omega)
  rw[hu]at hup
  simp only[GF,oZ]at hup |-
  simp only[p7,↓zq,zs,ae,gW,hl]at hup |-
  repeat refine⟨by omega,?_⟩
  refine⟨fun _=>?_,fun h=>by omega⟩
  refine ai hup ?_
  simp only[↓zq,zs,ae]
  exact i2
theorem Qe(s:Nm)(pa:AV)(p:List Nm)(hp:cu pa p)(f:Nm):an Tryz.prog 30 [.agg [.v (.string (mk s)),pa,.v (.string (mk f))]] [] (bH (qP (tf s p f))):=by
 refine Oz _ _ _ hp.1 ?_
 unfold HY
 refine ai (OG s pa p hp f) ?_
 simp only[↓zq,zs,ae,mo]
 unfold tf
 cases q:jb s p f with
 |
  none =>
  simp only[oZ,↓zq,zs,ae,bE]
  exact⟨fun _=>⟨rfl,rfl⟩,fun h=>(by cases h)⟩
 |
  some r =>
  obtain⟨l,v⟩:=r
  obtain⟨hz,hl,_⟩:=uh q
  obtain⟨w,hw⟩:=cB.1 (iH q).2
  obtain⟨h1,h2⟩:=Lm s (zA s) l.length l v w rfl hz hl hw
  simp only[oZ,a7,hw,cn]
  have hn:(p7 s (zA s) l v).isNil=false:=rfl
  simp only[hn]
  refine⟨fun h=>(by cases h),fun _=>?_⟩
  refine cR h2 ?_
  simp only[↓zq,zs,ae,p7,aK,bU]
  repeat refine⟨by first|trivial|omega,?_⟩
  refine ai (BE w h1.cY) ?_
  simp only[↓zq,zs,ae,zt]
  exact⟨rfl,rfl⟩
end Go.Proofs.Trees
namespace Go.Proofs.Trees
open Go Go.VL Go.RowKit
def kV:E->Option E
 | .list [x,a,b]=>if x.at=[114,101,99]then some (.list [x,a,b])else none
 |_=>none
def nU(s:List UInt8):Option E:=match ji s with
 |some e=>kV e
 |none=>none
theorem KC(s:List UInt8):an Tryz.prog 88 [.v (.string (mk s))] [] (jQ (nU s) (nU s).isSome):=by
 refine Ny _ ?_
 unfold HH
 refine aO (D7 s) (jQ.ne _ _ (fun h=>h)) ?_
 rintro r o ⟨c,d,hd,rfl,hh⟩
 have hhas:bw [.str,.sl] [.v (.string (mk c)),d] 0:=by simp[bw,ej,hd]
 simp only[↓zq,zs,ae,zt]
 refine⟨hhas,fun h=>?_,fun h=>?_⟩
 ·obtain⟨e,he,hce⟩:=hh h
  obtain⟨t,h1,hA,h3,h4,h5,_⟩:=gM he
  have hce':=hce
  rw[dx]at hce'
  simp only[AV.agg.injEq,List.cons.injEq,AV.v.injEq,Value.string.injEq,and_true]at hce'
  obtain⟨hc1,rfl⟩:=hce'
  have hc2:=wI hc1
  subst hc2
  have head:∀w:List UInt8,an Tryz.prog 121 [.agg [.v (.string (mk e.at)),e.sp]] [] (bH (.v (.string (mk w))))->(w=[114,101,99]↔(kV e).isSome=true)->((kV e).isSome=true->kV e=some e) ->
   eQ Tryz.prog 18 (Tree.call 121 [.agg [.v (.string (mk e.at)),e.sp]] [] fun r2 o2=>Tree.ak (LK.str.has r2) (Tree.done 0 [.cA [.agg [.v (.string (mk e.at)),e.sp],.v (.bool (af r2.ah==[114,101,99]))]] [])) fun _ xs obs=>jQ (nU s) (nU s).isSome (xs.headD .any) obs:=by
   intro w hw h1 h2
   refine ai hw ?_
   simp only[↓zq,zs,ae,zt]
   refine⟨e.at,e.sp,hd,?_,fun hs=>⟨e,?_,(dx e).symm⟩⟩
   ·congr 3
    simp only[nU,he,AV.v.injEq,Value.bool.injEq,List.cons.injEq,and_true]
    rw[cw];simpa using h1
   ·simp only[nU,he]at hs |-;exact h2 hs
  have hl:∀x l,e=.list (x::l)->an Tryz.prog 121 [.agg [.v (.string (mk e.at)),e.sp]] [] (bH (.v (.string (mk x.at)))):=by
   rintro x l rfl;exact um x l
  have ha:∀s0,e=.atom s0->an Tryz.prog 121 [.agg [.v (.string (mk e.at)),e.sp]] [] (bH (.v (.string (mk [])))):=by
   rintro s0 rfl;exact yO s0 _ ((bi).mpr trivial) hA.ok
  rcases gZ hA.wf hA.ty with⟨hb,_⟩|⟨u,g,rfl,_,hg⟩
  ·rcases fU hA.ty hb hA.cl with⟨rfl,rfl⟩|⟨rfl,rfl⟩|⟨s0,rfl,rfl,hp,h0,h1⟩|⟨x,a,b,t1,t2,rfl,hx,rfl,ha',hbb⟩|⟨x,a,b,t1,t2,rfl,hx,rfl,ha',hbb⟩|⟨x,a,b,t1,rfl,hx,rfl⟩
   ·exact head _ (ha _ rfl) (by simp[kV]) (by simp[kV])
   ·exact head _ (ha _ rfl) (by simp[kV]) (by simp[kV])
   ·exact head _ (ha _ rfl) (by simp[kV]) (by simp[kV])
   ·exact head _ (hl _ _ rfl) (by simp[kV,hx]) (by simp[kV,hx])
   ·exact head _ (hl _ _ rfl) (by simp[kV,hx]) (by simp[kV,hx])
   ·exact head _ (hl _ _ rfl) (by simp[kV,hx]) (by simp[kV,hx])
  ·simp at hg
 ·have hn:ji s=none:=by cases hq:ji s<;>simp[hq]at h |-
  refine⟨c,d,hd,?_,fun h=>?_⟩
  ·simp[nU,hn]
  ·simp[nU,hn]at h
theorem Bo(s:List UInt8):(nU s).isSome=(kh s).isSome:=by
 unfold nU kh
 cases h:ji s with
 |none=>rw[mG h];rfl
 |
  some e =>
  obtain⟨t,h1,hA,h3,h4,h5,_⟩:=gM h
  rw[h1]
  simp only
  rcases gZ hA.wf hA.ty with⟨hb,_⟩|⟨u,g,rfl,_,hg⟩
  ·rcases fU hA.ty hb hA.cl with⟨rfl,rfl⟩|⟨rfl,rfl⟩|⟨s0,rfl,rfl,hp,h0,h1⟩|⟨x,a,b,t1,t2,rfl,hx,rfl,ha',hbb⟩|⟨x,a,b,t1,t2,rfl,hx,rfl,ha',hbb⟩|⟨x,a,b,t1,rfl,hx,rfl⟩<;>simp_all[kV]
  ·simp at hg
theorem LV.le{s v:List UInt8}{w:Vl}{a:Ty}{x A B:E}(h:LV s v w a x A B):nU s=some (.list [x,A,B]):=by
 unfold nU;rw[h.ce];simp[kV,h.hx]
end Go.Proofs.Trees
namespace Go.Proofs.Trees
open Go Go.VL Go.RowKit
def Qn(e:E)(s:List UInt8)(t:Ty)(c v:Vl):Prop:=an Tryz.prog 99 [.agg [.v (.string (mk e.at)),e.sp],.v (.string (mk s)),.agg [.v (.string (mk c.dM.at)),c.dM.sp],.agg [.v (.string (mk v.dM.at)),v.dM.sp]] [] (bH (.agg [.v (.string (mk (dy t c v).dM.at)),(dy t c v).dM.sp]))
theorem DP:∀(m:Nat) (c:Vl),c.nodes<=m->∀(e:E) (env:List Fr) (t:Ty),Ask e env t->dG t c=true->∀(s:List UInt8) (v:Vl),Qn e s t c v
 |0,c,hm=>by have:=dT c;omega
 |
  m+1,c,hm=>by
  intro e env t A hc s v
  unfold Qn
  refine NM _ _ _ _ _ _ _ ((bg _).mpr trivial) ((bg _).mpr trivial) ((bg _).mpr trivial) ?_
  have atomCase:∀s0,e=.atom s0->dy t c v=v->eQ Tryz.prog 244 (CH (mk e.at) e.sp (mk s) (mk c.dM.at) c.dM.sp (mk v.dM.at) v.dM.sp) fun _ xs obs=>bH (.agg [.v (.string (mk (dy t c v).dM.at)),(dy t c v).dM.sp]) (xs.headD .any) obs:=by
   rintro s0 rfl hp
   have hne:s0≠[]:=A.ok
   rw[hp]
   simp only[CH,E.at,↓zq,zs,ae,zt,bH]
   exact⟨fun _=>trivial,fun h=>absurd h hne⟩
  have hvh:=C4 c
  rw[dx]at hvh
  rcases gZ A.wf A.ty with⟨hb,hq⟩|⟨u,g,rfl,hq,hu⟩
  ·rcases fU A.ty hb A.cl with⟨rfl,rfl⟩|⟨rfl,rfl⟩|⟨s0,rfl,rfl,hp,h0,h1⟩|⟨x,a,b,t1,t2,rfl,hx,rfl,ha,hbb⟩|⟨x,a,b,t1,t2,rfl,hx,rfl,ha,hbb⟩|⟨x,a,b,t1,rfl,hx,rfl⟩
   ·exact atomCase _ rfl (se _ _)
   ·exact atomCase _ rfl (vx _ _)
   ·exact atomCase _ rfl (mH _ _ _)
   ·obtain⟨ok1,ok2,ok3,_⟩:=A.ok
    obtain⟨f1,f2⟩:=fR A.cl
    have hP:=P3.of x a b
    have hH:an Tryz.prog 121 [.agg [.v (.string (mk [])),(E.list [x,a,b]).sp]] [] (bH (.v (.string (mk [43])))):=by rw[<-hx];exact um x [a,b]
    rcases u4 hc with⟨y,rfl,hy⟩|⟨y,rfl,hy⟩
    ·simp only[Vl.nodes]at hm
     have hW:=P2.of (.atom [108]) y.dM
     simp only[Vl.dM,bF]at hvh
     simp only[CH,bF,Vl.dM,toNat_one,bo,↓zq,zs,ae,zt,hP.1,hP.2.1,hP.2.2.1,hP.2.2.2,hW.1,hW.2.1,hW.2.2,aS]
     refine⟨fun h=>absurd rfl h,fun _=>?_⟩
     repeat refine⟨by omega,?_⟩
     refine ai hH ?_
     simp only[↓zq,zs,ae,zt]
     refine ai hvh ?_
     simp only[vh,↓zq,zs,ae,zt,aZ,aT]
     refine⟨by simp[cD],fun _=>?_,fun h=>absurd rfl h⟩
     repeat refine⟨by omega,?_⟩
     refine ai (DP m y (by omega) a env t1 ⟨ok2,A.wf,ha,f1⟩ hy s v) ?_
     simp only[↓zq,zs,ae,zt,aS]
     repeat refine⟨by omega,?_⟩
     refine ai (DZ _ _) ?_
     simp only[↓zq,zs,ae,zt,aS]
     repeat refine⟨by omega,?_⟩
     exact⟨rfl,rfl⟩
    ·simp only[Vl.nodes]at hm
     have hW:=P2.of (.atom [114]) y.dM
     simp only[Vl.dM,bF]at hvh
     simp only[CH,bF,Vl.dM,toNat_one,bo,↓zq,zs,ae,zt,hP.1,hP.2.1,hP.2.2.1,hP.2.2.2,hW.1,hW.2.1,hW.2.2,aS]
     refine⟨fun h=>absurd rfl h,fun _=>?_⟩
     repeat refine⟨by omega,?_⟩
     refine ai hH ?_
     simp only[↓zq,zs,ae,zt]
     refine ai hvh ?_
     simp only[vh,↓zq,zs,ae,zt,aZ,aT]
     refine⟨by simp[cD],fun h=>by simp at h,fun _=>⟨fun _=>?_,fun h=>absurd rfl h⟩⟩
     repeat refine⟨by omega,?_⟩
     refine ai (DP m y (by omega) b env t2 ⟨ok3,A.wf,hbb,f2⟩ hy s v) ?_
     simp only[↓zq,zs,ae,zt,aS]
     repeat refine⟨by omega,?_⟩
     refine ai (DZ _ _) ?_
     simp only[↓zq,zs,ae,zt,aS]
     repeat refine⟨by omega,?_⟩
     exact⟨rfl,rfl⟩
   ·obtain⟨ok1,ok2,ok3,_⟩:=A.ok
    obtain⟨f1,f2⟩:=fu A.cl
    have hP:=P3.of x a b
    have hH:an Tryz.prog 121 [.agg [.v (.string (mk [])),(E.list [x,a,b]).sp]] [] (bH (.v (.string (mk [42])))):=by rw[<-hx];exact um x [a,b]
    rcases sB hc with⟨y,z,rfl,hy⟩|⟨y,z,rfl,hy⟩
    ·simp only[Vl.nodes]at hm
     have hW:=P2.of (.atom [108]) (E.list [.atom [112],y.dM,z.dM])
     have hQ:=P3.of (.atom [112]) y.dM z.dM
     simp only[Vl.dM,bF]at hvh
     simp only[CH,bF,Vl.dM,toNat_one,bo,↓zq,zs,ae,zt,hP.1,hP.2.1,hP.2.2.1,hP.2.2.2,hW.1,hW.2.1,hW.2.2,hQ.1,hQ.2.1,hQ.2.2.1,hQ.2.2.2,aS]
     refine⟨fun h=>absurd rfl h,fun _=>?_⟩
     repeat refine⟨by omega,?_⟩
     refine ai hH ?_
     simp only[↓zq,zs,ae,zt]
     refine ai hvh ?_
     simp only[vh,↓zq,zs,ae,zt,aZ,aT]
     refine⟨by simp[cD],fun h=>by simp at h,fun _=>⟨fun h=>by simp at h,fun _=>⟨fun _=>?_,fun h=>absurd rfl h⟩⟩⟩
     repeat refine⟨by omega,?_⟩
     refine ai (DP m y (by omega) a env t1 ⟨ok2,A.wf,ha,f1⟩ hy s v) ?_
     simp only[↓zq,zs,ae,zt,aS]
     repeat refine⟨by omega,?_⟩
     refine ai (zv _ _ _) ?_
     simp only[↓zq,zs,ae,zt,aS]
     repeat refine⟨by omega,?_⟩
     exact⟨rfl,rfl⟩
    ·simp only[Vl.nodes]at hm
     have hW:=P2.of (.atom [114]) (E.list [.atom [112],y.dM,z.dM])
     have hQ:=P3.of (.atom [112]) y.dM z.dM
     simp only[Vl.dM,bF]at hvh
     simp only[CH,bF,Vl.dM,toNat_one,bo,↓zq,zs,ae,zt,hP.1,hP.2.1,hP.2.2.1,hP.2.2.2,hW.1,hW.2.1,hW.2.2,hQ.1,hQ.2.1,hQ.2.2.1,hQ.2.2.2,aS]
     refine⟨fun h=>absurd rfl h,fun _=>?_⟩
     repeat refine⟨by omega,?_⟩
     refine ai hH ?_
     simp only[↓zq,zs,ae,zt]
     refine ai hvh ?_
     simp only[vh,↓zq,zs,ae,zt,aZ,aT]
     refine⟨by simp[cD],fun h=>by simp at h,fun _=>⟨fun h=>by simp at h,fun _=>⟨fun h=>by simp at h,fun _=>⟨fun _=>?_,fun h=>absurd rfl h⟩⟩⟩⟩
     repeat refine⟨by omega,?_⟩
     refine ai (DP m z (by omega) b env t2 ⟨ok3,A.wf,hbb,f2⟩ hy s v) ?_
     simp only[↓zq,zs,ae,zt,aS]
     repeat refine⟨by omega,?_⟩
     refine ai (zv _ _ _) ?_
     simp only[↓zq,zs,ae,zt,aS]
     repeat refine⟨by omega,?_⟩
     exact⟨rfl,rfl⟩
   ·obtain⟨t1',he1,h1,f1,hw1⟩:=jG A.wf A.ok hx A.ty A.cl
    cases he1
    obtain⟨ok1,ok2,ok3,_⟩:=A.ok
    have A':Ask b (.mk a.at (.list [x,a,b]) env::env) t1:=⟨ok3,hw1,h1,f1⟩
    have hP:=P3.of x a b
    have hH:an Tryz.prog 121 [.agg [.v (.string (mk [])),(E.list [x,a,b]).sp]] [] (bH (.v (.string (mk [114,101,99])))):=by rw[<-hx];exact um x [a,b]
    rcases zJ hc with⟨y,rfl,hy⟩|⟨y,z,rfl,hy,hz⟩
    ·simp only[Vl.nodes]at hm
     have hW:=P2.of (.atom [102]) (E.list [.atom [108],y.dM])
     have hQ:=P2.of (.atom [108]) y.dM
     have hvi:=C4 (.l y)
     rw[dx]at hvi
     simp only[Vl.dM,bF]at hvh hvi
     simp only[CH,bF,Vl.dM,toNat_one,bo,↓zq,zs,ae,zt,hP.1,hP.2.1,hP.2.2.1,hP.2.2.2,hW.1,hW.2.1,hW.2.2,hQ.1,hQ.2.1,hQ.2.2,aS]
     refine⟨fun h=>absurd rfl h,fun _=>?_⟩
     repeat refine⟨by omega,?_⟩
     refine ai hH ?_
     simp only[↓zq,zs,ae,zt]
     refine ai hvh ?_
     simp only[vh,↓zq,zs,ae,zt,aZ,aT]
     refine⟨by simp[cD],fun h=>by simp at h,fun _=>⟨fun h=>by simp at h,fun _=>⟨fun h=>by simp at h,fun _=>⟨fun h=>by simp at h,fun _=>?_⟩⟩⟩⟩
     repeat refine⟨by omega,?_⟩
     refine ai hvi ?_
     simp only[vh,↓zq,zs,ae,zt]
     refine⟨fun _=>?_,fun h=>absurd rfl h⟩
     repeat refine⟨by omega,?_⟩
     refine ai (DP m y (by omega) b _ t1 A' hy s v) ?_
     simp only[↓zq,zs,ae,zt,aS]
     repeat refine⟨by omega,?_⟩
     refine ai (DZ _ _) ?_
     simp only[↓zq,zs,ae,zt,aS]
     repeat refine⟨by omega,?_⟩
     exact⟨rfl,rfl⟩
    ·simp only[Vl.nodes]at hm
     have hW:=P2.of (.atom [102]) (E.list [.atom [114],E.list [.atom [112],y.dM,z.dM]])
     have hQ:=P2.of (.atom [114]) (E.list [.atom [112],y.dM,z.dM])
     have hR:=P3.of (.atom [112]) y.dM z.dM
     have hvi:=C4 (.r (.p y z))
     rw[dx]at hvi
     simp only[Vl.dM,bF]at hvh hvi
     simp only[CH,bF,Vl.dM,toNat_one,bo,↓zq,zs,ae,zt,hP.1,hP.2.1,hP.2.2.1,hP.2.2.2,hW.1,hW.2.1,hW.2.2,hQ.1,hQ.2.1,hQ.2.2,hR.1,hR.2.1,hR.2.2.1,hR.2.2.2,aS]
     refine⟨fun h=>absurd rfl h,fun _=>?_⟩
     repeat refine⟨by omega,?_⟩
     refine ai hH ?_
     simp only[↓zq,zs,ae,zt]
     refine ai hvh ?_
     simp only[vh,↓zq,zs,ae,zt,aZ,aT]
     refine⟨by simp[cD],fun h=>by simp at h,fun _=>⟨fun h=>by simp at h,fun _=>⟨fun h=>by simp at h,fun _=>⟨fun h=>by simp at h,fun _=>?_⟩⟩⟩⟩
     repeat refine⟨by omega,?_⟩
     refine ai hvi ?_
     simp only[vh,↓zq,zs,ae,zt]
     refine⟨fun h=>by simp at h,fun _=>?_⟩
     repeat refine⟨by omega,?_⟩
     have i1:=DP m z (by omega) (.list [x,a,b]) env (.rc t1) A hz s v
     unfold Qn at i1
     simp only[bF]at i1
     refine ai i1 ?_
     simp only[↓zq,zs,ae,zt,aS]
     repeat refine⟨by omega,?_⟩
     refine ai (DP m y (by omega) b _ t1 A' hy a.at (dy (.rc t1) z v)) ?_
     simp only[↓zq,zs,ae,zt,aS]
     repeat refine⟨by omega,?_⟩
     refine ai (DZ _ _) ?_
     simp only[↓zq,zs,ae,zt,aS]
     repeat refine⟨by omega,?_⟩
     exact⟨rfl,rfl⟩
  ·cases e with
   |atom s0=>exact atomCase _ rfl (qK _ _ _)
   |list l=>exact absurd hq (by rw[show (E.list l).at=[] from rfl,mM A.wf];simp)
end Go.Proofs.Trees
namespace Go.Proofs.Trees
open Go Go.VL Go.RowKit
abbrev QD:Ob:=.cells [.v (.string (mk [])),.v (.slice none 0 0),.v (.string (mk []))]
theorem ZT.le{s d:Nm}{a:Ty}{x A B:E}{D:Ty}(z:ZT s d a x A B D):nU s=some (.list [x,A,B]):=by
 unfold nU;rw[z.ce];simp[kV,z.hx]
theorem ui(o:Option Nm):qP o=.cA [.v (.string (mk (o.getD []))),.v (.bool o.isSome)]:=by cases o<;>rfl
theorem yx{a:Ty}{w v:Vl}(hw:Cx a w)(hv:Fo a v):(Vl.f (dy a w v)).cY.length<=900000:=by
 have h1:=iO (Vl.f (dy a w v)) (by exact rE 100 a w v hw.iE hv.iE)
 have h2:=rr a w v
 have:=hw.nd
 have:=hv.nd
 simp only[Vl.nodes]at h1
 omega
abbrev zb(a:Ty)(w v:Vl):Option Nm:=if(Vl.f (dy a w v)).nodes<=200 then some (Vl.f (dy a w v)).cY else none
theorem N9{s d:Nm}{a:Ty}{x A B:E}{D:Ty}(z:ZT s d a x A B D)(w v:Vl)(hw:oz d w.cY 100=some w)(hv:Fo a v):an Tryz.prog 73 [.v (.string (mk s)),.v (.string (mk w.cY)),.v (.string (mk v.cY))] [] (bH (qP (zb a w v))):=by
 have hC:=z.BF hw
 have hv2:oz s v.cY 100=some v:=by rw[z.cY hv.iE hv.ty,if_pos hv.nd]
 refine OP _ _ _ ?_
 unfold Mb
 refine aO (KC s) (jQ.ne _ _ (fun h=>h)) ?_
 rintro r o ⟨c,e,he,rfl,hh⟩
 rw[z.le]at hh
 obtain⟨e',he',hce⟩:=hh rfl
 cases he'
 rw[dx]at hce
 simp only[AV.agg.injEq,List.cons.injEq,AV.v.injEq,Value.string.injEq,and_true]at hce
 obtain⟨hc1,rfl⟩:=hce
 rw[z.le,hc1]
 simp only[↓zq,zs,ae,zt,aS,bF]
 repeat refine⟨by omega,?_⟩
 refine ai (Kf s) ?_
 rw[ui,z.dl]
 simp only[↓zq,zs,ae,zt,bn,cx]
 refine⟨fun h=>by simp at h,fun _=>⟨fun h=>by simp at h,fun _=>?_⟩⟩
 refine ai (Br d w.cY 100) ?_
 rw[hw]
 simp only[↓zq,zs,ae,bn]
 refine⟨fun h=>by simp at h,fun _=>?_⟩
 refine ai (Br s v.cY 100) ?_
 rw[hv2]
 simp only[↓zq,zs,ae,bn]
 refine⟨fun h=>by simp at h,fun _=>?_⟩
 have hP:=P3.of x A B
 have rd:∀q:Vl,q.iE 100->q.nodes<=200->∀{Q:AV->List Ob->Prop},(∀o,Q (.cA [.agg [.v (.string (mk q.dM.at)),q.dM.sp],.v (.bool true)]) o)->∀r o,jQ ((rO q.cY).map Vl.dM) (rO q.cY).isSome r o->Q r o:=by
  intro q hu hn Q hQ r o
  rw[tC hu hn]
  rintro⟨c,e,he,rfl,hh⟩
  obtain⟨e',he',hce⟩:=hh rfl
  cases he'
  rw[dx]at hce
  rw[hce]
  exact hQ o
 refine aO (E2 w.cY) (jQ.ne _ _ (fun h=>by simpa using h)) (rd w hC.iE hC.nd fun o=>?_)
 simp only[↓zq,zs,ae,zt,aS]
 repeat refine⟨by omega,?_⟩
 refine aO (E2 v.cY) (jQ.ne _ _ (fun h=>by simpa using h)) (rd v hv.iE hv.nd fun o=>?_)
 simp only[toNat_one,bo,↓zq,zs,ae,zt,hP.1,hP.2.1,hP.2.2.1,hP.2.2.2,aS,bg]
 repeat refine⟨by omega,?_⟩
 refine ai (DP w.nodes w (aw _) B _ a z.body hC.ok A.at v) ?_
 simp only[↓zq,zs,ae,zt,aS]
 repeat refine⟨by omega,?_⟩
 refine ai (DZ _ _) ?_
 simp only[↓zq,zs,ae,zt,aS]
 repeat refine⟨by omega,?_⟩
 have htx:=JK (Vl.f (dy a w v)).dM (po _) (yx hC hv)
 rw[dx]at htx
 simp only[Vl.dM,bF]at htx
 refine ai htx ?_
 simp only[↓zq,zs,ae,zt]
 refine ai (Br s (Vl.f (dy a w v)).cY 100) ?_
 rw[z.cY (w:=Vl.f (dy a w v)) (by exact rE 100 a w v hC.iE hv.iE) (hC.ty v hv.ty)]
 unfold zb
 by_cases hn:(Vl.f (dy a w v)).nodes<=200
 ·rw[if_pos hn,if_pos hn]
  simp only[↓zq,zs,ae,bn]
  exact⟨fun h=>by simp at h,fun _=>⟨rfl,rfl⟩⟩
 ·rw[if_neg hn,if_neg hn]
  simp only[↓zq,zs,ae,bz]
  exact⟨fun _=>⟨rfl,rfl⟩,fun h=>by simp at h⟩
theorem nk{d:Nm}:∀{p:List Nm} {l:List Vl},eM d p=some l->p=l.map (·.cY)->∀c,c∈l->oz d c.cY 100=some c
 |[],l,h,_,c,hc=>by cases h;cases hc
 |
  q::r,l,h,hp,c,hc=>by
  simp only[eM]at h
  split at h
  ·rename_i w l' h1 h2
   cases h
   simp only[bI,List.cons.injEq]at hp
   rcases aI.1 hc with rfl|hc
   ·rw[<-hp.1];exact h1
   ·exact nk h2 hp.2 c hc
  ·cases h
structure St(s d:Nm)(a:Ty)(l:List Vl)(v:Vl):Prop where
 z:∃x A B D,ZT s d a x A B D
 i:ZI a l v
 each:∀c,c∈l->oz d c.cY 100=some c
 len:l.length<=50
def za(s:Nm)(pa:AV)(a:Ty)(l:List Vl)(v:Vl):AV:=match l.getLast? with
 |none=>.cA [.agg [.v (.string (mk s)),pa,.v (.string (mk v.cY))],.v (.bool false)]
 |some c=>.cA [.agg [.v (.string (mk s)),.sl (bT (l.dropLast.map (·.cY))),.v (.string (mk ((zb a c v).getD [])))],.v (.bool (zb a c v).isSome)]
theorem PC{s d:Nm}{a:Ty}{l:List Vl}{v:Vl}(h:St s d a l v)(pa:AV)(hp:cu pa (l.map (·.cY))):an Tryz.prog 43 [.agg [.v (.string (mk s)),pa,.v (.string (mk v.cY))]] [] (bH (za s pa a l v)):=by
 refine Nx _ _ _ hp.1 ?_
 unfold L4
 have hlen:=h.len
 simp only[↓zq,zs,ae,zt,hp.len,co,j3]
 unfold za
 refine⟨hp.1,fun h0=>?_,fun h0=>?_⟩
 ·have:l=[]:=bJ (by omega)
  subst this
  exact⟨rfl,rfl⟩
 ·have hpos:0<l.length:=by omega
  have hne:l≠[]:=by rintro rfl;simp at hpos
  rw[wrap64 ((l.length:Int)-1) (by omega) (by omega)]
  have e1:((l.length:Int)-1).toNat=l.length-1:=by omega
  have hlt:l.length-1<(l.map (·.cY)).length:=by rw[co];omega
  have hlt':l.length-1<l.length:=by omega
  have hlast:l.getLast?=some (l[l.length-1]):=by rw[List.getLast?_eq_some_getLast hne,List.getLast_eq_getElem]
  rw[hlast]
  have hm:=bD hlt'
  have hg:(l.map (·.cY)).getD (l.length-1) []=(l[l.length-1]).cY:=by rw[aa,bf hlt,List.getElem_map];rfl
  obtain⟨x,A,B,D,z⟩:=h.z
  rw[e1,hp.idx hlt,hg]
  generalize l[l.length-1]=c at *
  simp only[↓zq,zs,ae,zt]
  refine⟨⟨hp.1,by omega⟩,by omega,?_⟩
  refine ai (N9 z c v (h.each c hm) h.i.vD) ?_
  rw[ui]
  simp only[↓zq,zs,ae,zt]
  refine⟨⟨hp.1,by omega⟩,⟨fun y hy=>?_,?_⟩,?_,rfl⟩
  ·rw[hp.2]at hy
   have:=List.mem_of_mem_take hy
   obtain⟨t,_,rfl⟩:=ci.1 this
   rfl
  ·rw[hp.2];simp[bT];omega
  ·have:pa.aN.take (l.length-1)=bT (l.dropLast.map (·.cY)):=by
    rw[hp.2,List.dropLast_eq_take,List.map_take];simp[bT,List.map_take]
   rw[this];rfl
theorem St.up{s d:Nm}{a:Ty}{l l':List Vl}{v w:Vl}(h:St s d a l v)(hu:pZ a l v=some (l',w)):St s d a l' w:=by
 obtain⟨h1,h2,c,h3,_⟩:=qE h.i hu
 have hl:=h.len
 exact⟨h.z,h1,fun c' hc'=>h.each c' (by rw[h3];exact aC _ hc'),by omega⟩
theorem y9{s:Nm}{pa:AV}{a:Ty}{l l':List Vl}{v w:Vl}(hu:pZ a l v=some (l',w)):za s pa a l v=.cA [.agg [.v (.string (mk s)),.sl (bT (l'.map (·.cY))),.v (.string (mk w.cY))],.v (.bool true)]:=by
 unfold pZ at hu
 unfold za
 cases q:l.getLast? with
 |none=>rw[q]at hu;cases hu
 |
  some c =>
  rw[q]at hu
  simp only at hu |-
  unfold zb
  split at hu
  ·rename_i hn
   cases hu
   rw[if_pos hn];rfl
  ·cases hu
theorem yz{s:Nm}{pa:AV}{a:Ty}{l:List Vl}{v:Vl}(hpa:LK.sl.has pa)(hu:pZ a l v=none):∃p f,LK.sl.has p/\za s pa a l v=.cA [.agg [.v (.string (mk s)),p,.v (.string (mk f))],.v (.bool false)]:=by
 unfold pZ at hu
 unfold za
 cases q:l.getLast? with
 |none=>exact⟨_,_,hpa,rfl⟩
 |
  some c =>
  rw[q]at hu
  simp only at hu |-
  unfold zb
  split at hu
  ·cases hu
  ·rename_i hn
   rw[if_neg hn];exact⟨_,_,(cg _).mpr trivial,rfl⟩
def Gb(s:Nm)(o:Option Vl):Nat->List AV->List Ob->Prop:=fun k ys ob=>match o with
 |some w=>k=1/\ys=[]/\∃pa,LK.sl.has pa/\ob=[.cells [.v (.string (mk s)),pa,.v (.string (mk w.cY))],QD]
 |none=>k=2/\ys=[.v (.bool false)]/\∃pa f,LK.sl.has pa/\ob=[.cells [.v (.string (mk s)),pa,.v (.string (mk f))]]
theorem J6(s d:Nm)(a:Ty):∀(n:Nat) (l:List Vl) (v:Vl) (pa:AV),l.length=n->St s d a l v->cu pa (l.map (·.cY))->Eb [] [.cells [.v (.string (mk s)),pa,.v (.string (mk v.cY))],QD] (Gb s (iW n a l v))
 |
  0,l,v,pa,hl,h,hp=>by
  refine Js _ _ _ _ _ _ ?_
  simp only[F4,↓zq,zs,ae,zt,ae,bi,hp.len,co,hl,iW]
  refine⟨hp.1,hp.1,fun h=>by omega,fun _=>?_⟩
  exact⟨rfl,rfl,pa,hp.1,rfl⟩
 |
  n+1,l,v,pa,hl,h,hp=>by
  refine Js _ _ _ _ _ _ ?_
  simp only[F4,↓zq,zs,ae,zt,ae,bi,hp.len,co,hl]
  refine⟨hp.1,hp.1,fun _=>?_,fun h=>by omega⟩
  refine ai (PC h pa hp) ?_
  rw[iW]
  cases q:pZ a l v with
  |
   none =>
   obtain⟨p',f',h1,h2⟩:=yz (s:=s) hp.1 q
   rw[h2]
   simp only[↓zq,zs,ae,zt,bw,bE]
   exact⟨h1,fun _=>⟨rfl,rfl,pa,v.cY,hp.1,rfl⟩,fun h=>by simp at h⟩
  |
   some r =>
   obtain⟨l',w⟩:=r
   obtain⟨_,hlen,_⟩:=qE h.i q
   rw[y9 q]
   simp only[↓zq,zs,ae,zt,bw,a7,cg]
   refine⟨fun h=>by simp at h,fun _=>?_⟩
   exact J6 s d a n l' w _ (by omega) (h.up q) (cu.of _)
def Dn(o:Option Vl):AV->List Ob->Prop:=fun r ob=>ob=[]/\∃c0 pa c2,LK.sl.has pa/\r=.cA [.agg [.v (.string c0),pa,.v (.string c2)],.v (.bool o.isSome)]/\∀w,o=some w->c2=mk w.cY
theorem Dn.ne(o:Option Vl):∃r ob,Dn o r ob:=⟨_,[],rfl,mk [],.sl [],mk ((o.map (·.cY)).getD []),(cg _).mpr trivial,rfl,fun w h=>by rw[h];rfl⟩
theorem MR{s d:Nm}{a:Ty}{l:List Vl}{v:Vl}(h:St s d a l v)(pa:AV)(hp:cu pa (l.map (·.cY))):an Tryz.prog 70 [.agg [.v (.string (mk s)),pa,.v (.string (mk v.cY))]] [] (Dn (ub a l v)):=by
 refine Px _ _ _ hp.1 ?_
 unfold Ja
 have hloop:=J6 s d a l.length l v pa rfl h hp
 refine mz hloop (fun ys o e=>?_) (fun ys o e=>?_)
 ·unfold Gb at e
  unfold ub
  cases q:iW l.length a l v with
  |none=>rw[q]at e;exact absurd e.1 (by decide)
  |
   some w =>
   rw[q]at e
   obtain⟨_,rfl,p',h1,rfl⟩:=e
   simp only[↓zq,zs,ae,zt,ae,bi]
   exact⟨h1,rfl,_,_,_,h1,rfl,fun w' h=>by cases h;rfl⟩
 ·unfold Gb at e
  unfold ub
  cases q:iW l.length a l v with
  |some w=>rw[q]at e;exact absurd e.1 (by decide)
  |
   none =>
   rw[q]at e
   obtain⟨_,rfl,p',f',h1,rfl⟩:=e
   simp only[↓zq,zs,ae,zt,ae]
   exact⟨h1,rfl,_,_,_,h1,rfl,fun w' h=>by cases h⟩
theorem Kt(s d f:Nm)(pa:AV)(p:List Nm)(hp:cu pa p)(hl:p.length<=50):∀(k i:Nat),i+k=p.length->E7 [.v (.string (mk d)),.v (.int .i64 (i:Int))] [.cells [.v (.string (mk s)),pa,.v (.string (mk f))]] (ou (if(eM d (p.drop i)).isSome=true then(1,[],[])else(2,[.v (.bool false)],[])))
 |
  0,i,hi=>by
  refine Lk _ _ _ _ _ ?_
  have:i=p.length:=by omega
  subst this
  simp only[GU,↓zq,zs,ae,zt,ae,hp.len,List.drop_length]
  exact⟨hp.1,hp.1,fun h=>by omega,fun _=>rfl⟩
 |
  k+1,i,hi=>by
  have hlt:i<p.length:=by omega
  have hd:p.drop i=p.getD i []::p.drop (i+1):=by rw[aU hlt];simp[aa,hlt]
  refine Lk _ _ _ _ _ ?_
  simp only[GU,↓zq,zs,ae,zt,ae,hp.len,hp.idx hlt,bK]
  refine⟨hp.1,hp.1,fun _=>⟨⟨hp.1,by omega,by omega⟩,by omega,?_⟩,fun h=>by omega⟩
  refine ai (Br d (p.getD i []) 100) ?_
  rw[hd,eM]
  simp only[↓zq,zs,ae]
  cases q:oz d (p.getD i []) 100 with
  |
   none =>
   simp only[bz]
   exact⟨fun _=>rfl,fun h=>by simp at h⟩
  |
   some w =>
   simp only[bn]
   refine⟨fun h=>by simp at h,fun _=>?_⟩
   rw[bN i (by omega)]
   have ih:=Kt s d f pa p hp hl k (i+1) (by omega)
   cases q2:eM d (p.drop (i+1))with
   |none=>rw[q2]at ih;exact ih
   |some l=>rw[q2]at ih;exact ih
theorem vM(s:Nm)(p:List Nm)(f:Nm):qn s p f=(cG s).bind fun d=>(kh s).bind fun _=>(oz s f 100).bind fun v=>if p.length<=50 then(eM d p).map fun l=>(l,v)else none:=by
 unfold qn pY
 cases kh s with
 |none=>cases cG s<;>rfl
 |some a=>cases oz s f 100<;>cases cG s<;>rfl
theorem Pg(s:Nm)(pa:AV)(p:List Nm)(hp:cu pa p)(f:Nm):an Tryz.prog 72 [.agg [.v (.string (mk s)),pa,.v (.string (mk f))]] [] (bH (.v (.bool (qn s p f).isSome))):=by
 refine MU _ _ _ hp.1 ?_
 unfold II
 refine ai (Kf s) ?_
 rw[ui]
 simp only[↓zq,zs,ae,zt]
 refine aO (KC s) (jQ.ne _ _ (fun h=>h)) ?_
 rintro r o ⟨c,e,he,rfl,_⟩
 rw[Bo]
 simp only[↓zq,zs,ae,zt,bw,hp.len]
 rw[vM]
 refine⟨he,fun h=>?_,fun h=>⟨fun h'=>?_,fun h'=>⟨hp.1,fun h''=>?_,fun h''=>?_⟩⟩⟩
 ·have:cG s=none:=by cases q:cG s with|none=>rfl|some d=>simp[q]at h
  rw[this]
  exact⟨rfl,rfl⟩
 ·have:kh s=none:=by cases q:kh s with|none=>rfl|some d=>simp[q]at h'
  rw[this]
  cases cG s<;>exact⟨rfl,rfl⟩
 ·simp only[if_neg (show ¬p.length<=50 by omega)]
  exact⟨by cases cG s<;>cases kh s<;>cases oz s f 100<;>rfl,rfl⟩
 ·obtain⟨d,hd⟩:∃d,cG s=some d:=by cases q:cG s with|none=>simp[q]at h|some d=>exact⟨d,rfl⟩
  obtain⟨a,ha⟩:∃a,kh s=some a:=by cases q:kh s with|none=>simp[q]at h'|some d=>exact⟨d,rfl⟩
  rw[hd,ha]
  refine ai (Br s f 100) ?_
  simp only[↓zq,zs,ae]
  cases q:oz s f 100 with
  |none=>simp only[bz];exact⟨fun _=>⟨rfl,rfl⟩,fun h=>by simp at h⟩
  |
   some v =>
   simp only[bn,cx,a7]
   refine⟨fun h=>by simp at h,fun _=>?_⟩
   have hl:p.length<=50:=by omega
   have hloop:=Kt s d f pa p hp hl p.length 0 (by omega)
   rw[bx]at hloop
   rw[if_pos hl]
   refine fq hloop (fun ys o e=>?_) (fun ys o e=>?_)
   ·cases q2:eM d p with
    |none=>rw[q2]at e;cases e
    |some l=>exact⟨rfl,rfl⟩
   ·cases q2:eM d p with
    |none=>rw[q2]at e;cases e;simp only[↓zq,zs,ae];exact⟨rfl,rfl⟩
    |some l=>rw[q2]at e;cases e
theorem vZ{s:Nm}{p:List Nm}{f:Nm}{l:List Vl}{v:Vl}(h:qn s p f=some (l,v)):∃d,St s d (zA s) l v/\p=l.map (·.cY)/\f=v.cY:=by
 obtain⟨d,a,x,A,B,D,z,hz,hp,hf,hl,hza,_,hr⟩:=ky h
 rw[hza]
 exact⟨d,⟨⟨x,A,B,D,z⟩,hz,nk hr hp,by rw[hp]at hl;simpa using hl⟩,hp,hf⟩
theorem PI(s:Nm)(pa:AV)(p:List Nm)(hp:cu pa p)(f:Nm):an Tryz.prog 41 [.agg [.v (.string (mk s)),pa,.v (.string (mk f))]] [] (bH (.v (.bool (jb s p f).isSome))):=by
 refine OZ _ _ _ hp.1 ?_
 unfold Ks
 refine ai (Pg s pa p hp f) ?_
 simp only[↓zq,zs,ae]
 unfold jb
 cases q:qn s p f with
 |none=>simp only[bz];exact⟨fun _=>⟨rfl,rfl⟩,fun h=>by simp at h⟩
 |
  some r =>
  obtain⟨l,v⟩:=r
  obtain⟨d,hs,rfl,rfl⟩:=vZ q
  simp only[bn,a7]
  refine⟨fun h=>by simp at h,fun _=>?_⟩
  refine aO (MR hs pa hp) (Dn.ne _) ?_
  rintro r o ⟨rfl,c0,p',c2,h1,rfl,_⟩
  simp only[↓zq,zs,ae,zt,bw]
  refine⟨h1,?_,rfl⟩
  congr 2
  cases ub (zA s) l v<;>rfl
end Go.Proofs.Trees
namespace Go.Proofs.Trees
open Go Go.VL Go.RowKit
def B0(s:Nm)(o:Option (List Vl×Vl)):AV->List Ob->Prop:=fun r obs=>obs=[]/\∃pa,cu pa (tZ s o).2.1/\r=.cA [.agg [.v (.string (mk (tZ s o).1)),pa,.v (.string (mk (tZ s o).2.2))],.v (.bool o.isSome)]
theorem Ez(s:Nm){o:Option (List Vl×Vl)}(h:GZ o):(tZ s o).2.1.length<=51:=by
 cases o with
 |none=>simp
 |some r=>obtain⟨_,_,h3⟩:=h r rfl;simpa using h3
theorem B0.ne(s:Nm)(o:Option (List Vl×Vl)):∃r ob,B0 s o r ob:=⟨_,[],rfl,_,cu.of _,rfl⟩
theorem B0.none(s:Nm):B0 s none (.cA [.agg [.v (.string (mk [])),.v (.slice none 0 0),.v (.string (mk []))],.v (.bool false)]) []:=⟨rfl,_,cu.nil,rfl⟩
theorem wY{s:Nm}{p:List Nm}{f:Nm}{l:List Vl}{v:Vl}(h:jb s p f=some (l,v)):∃d,St s d (zA s) l v/\p=l.map (·.cY)/\f=v.cY:=vZ (iH h).1
theorem OC(s:Nm)(pa:AV)(p:List Nm)(hp:cu pa p)(f:Nm):an Tryz.prog 64 [.agg [.v (.string (mk s)),pa,.v (.string (mk f))]] [] (B0 s (jb s p f)):=by
 refine NO _ _ _ hp.1 ?_
 unfold Hz
 refine ai (PI s pa p hp f) ?_
 simp only[↓zq,zs,ae]
 cases q:jb s p f with
 |none=>simp only[bz];exact⟨fun _=>B0.none s,fun h=>by simp at h⟩
 |
  some r =>
  obtain⟨_,_,rfl,rfl⟩:=wY (l:=r.1) (v:=r.2) q
  simp only[bn]
  exact⟨fun h=>by simp at h,fun _=>⟨rfl,pa,hp,rfl⟩⟩
theorem uv(s f:Nm):jb s [] f=qn s [] f:=by
 unfold jb
 cases q:qn s [] f with
 |none=>rfl
 |
  some r =>
  obtain⟨l,v⟩:=r
  obtain⟨_,_,h,_⟩:=vZ q
  have:l=[]:=List.map_eq_nil_iff.1 h.symm
  subst this
  rfl
theorem Od(s f:Nm):an Tryz.prog 28 [.v (.string (mk s)),.v (.string (mk f))] [] (B0 s (qn s [] f)):=by
 refine M3 _ _ ?_
 unfold Ln
 rw[<-uv]
 refine aO (OC s _ [] (cu.of []) f) (B0.ne _ _) ?_
 rintro r o ⟨rfl,pa,hp,rfl⟩
 simp only[↓zq,zs,ae,zt,bw]
 exact⟨hp.1,rfl,pa,hp,rfl⟩
theorem Ay{a:Ty}{v:Vl}(h:Fo a v){k:Hl}(hk:k∈kids a v):k.1.cY.length<=900000/\k.2.cY.length<=900000:=by
 obtain⟨b1,b2⟩:=n0 h.iE hk
 have h1:=iO _ b1
 have h2:=iO _ b2
 have h3:=wR hk
 have h4:=h.nd
 have h5:k.1.nodes<=4*v.nodes:=by
  cases v with
  |f w=>have:=(kE hk).2;simp only[Vl.nodes];omega
  |_=>cases hk
 omega
end Go.Proofs.Trees
namespace Go.Proofs.Trees
open Go Go.VL Go.RowKit
inductive Rl(x:Nm):Nat->Tg->Tg->Prop
 |nm (i):Rl x i (.nm x) (.bd i)
 |ka (i s) (h:s≠x):Rl x i (.nm s) (.nm s)
 |bd (i j) (h:j≠i):Rl x i (.bd j) (.bd j)
theorem Rl.up{x:Nm}{i:Nat}{a b:Tg}(h:Rl x i a b):Rl x (i+1) a.up b.up:=by
 cases h with
 |nm=>exact .nm _
 |ka s h=>exact .ka _ _ h
 |bd j h=>exact .bd _ _ (by omega)
theorem Rl.at{x:Nm}{i:Nat}{a b:Tg}(h:Rl x i a b):∀t:Ty,bh x t=false->fP (dI (.name x) t i) a=fP t b
 |
  .bP k,_=>by
  simp only[dI]
  cases h with
  |
   nm =>
   by_cases e:k=i
   ·simp[e,fP]
   ·simp[e,fP]
  |
   ka s h =>
   by_cases e:k=i
   ·simp[e,fP,Ne.symm h]
   ·simp[e,fP]
  |
   bd j h =>
   by_cases e:k=i
   ·simp[e,fP,Ne.symm h]
   ·simp[e,fP]
 |
  .name s,hn=>by
  have hs:s≠x:=by simpa[bh]using hn
  cases h with
  |nm=>simp[dI,fP,hs]
  |ka=>rfl
  |bd=>rfl
 | .plus _ _,_=>by cases h<;>rfl
 | .times _ _,_=>by cases h<;>rfl
 | .rc _,_=>by cases h<;>rfl
 | .zero,_=>by cases h<;>rfl
 | .one,_=>by cases h<;>rfl
theorem gC(x:Nm):∀(n:Nat) (t:Ty) (i:Nat) (a b:Tg) (v:Vl),bh x t=false->Rl x i a b->eD n (dI (.name x) t i) a v=eD n t b v
 |0,_,_,_,_,_,_,_=>rfl
 |
  n+1,t,i,a,b,v,hn,h=>by
  rw[eD,eD,h.at t hn]
  by_cases ht:fP t b=true
  ·rw[if_pos ht,if_pos ht]
  ·rw[if_neg ht,if_neg ht]
   cases t with
   |
    plus p q =>
    simp only[bh,Bool.or_eq_false_iff]at hn
    cases v<;>simp only[dI,j6,gC x n p i a b _ hn.1 h,gC x n q i a b _ hn.2 h]
   |
    times p q =>
    simp only[bh,Bool.or_eq_false_iff]at hn
    cases v<;>simp only[dI,j6,gC x n p i a b _ hn.1 h,gC x n q i a b _ hn.2 h]
   |
    rc p =>
    have h0:Rl x (i+1) (.bd 0) (.bd 0):=.bd _ _ (by omega)
    cases v<;>simp only[dI,j6]
    rename_i w
    rw[gC x n p (i+1) a.up b.up w hn h.up,gC x n p (i+1) (.bd 0) (.bd 0) w hn h0]
    congr 1
    apply k8
    intro k _
    have:=gC x n (.rc p) i a b k.2 hn h
    simp only[dI]at this
    rw[this]
   |
    bP k =>
    simp only[dI]
    by_cases e:k=i
    ·rw[if_pos e];cases v<;>rfl
    ·rw[if_neg e];cases v<;>rfl
   |name s=>rfl
   |zero=>rfl
   |one=>rfl
theorem nv(x:Nm){t:Ty}{i:Nat}{a b:Tg}(v:Vl)(hn:bh x t=false)(h:Rl x i a b):cK (dI (.name x) t i) a v=cK t b v:=gC x _ t i a b v hn h
theorem mv(n:Nat):∀(m:Nat) (v:Vl),v.nodes<=m->∀(t:Ty) (s:Nm) (d:Ty) (σ:Nm->Option Ty),Dv t s d->Cw σ->jO t 0->vT n v (eZ σ t)=true->∀h,h∈cK t (.nm s) v ->
 vT n h.1 (eZ σ d)=true/\vT n h.2 (eZ σ (.name s))=true/\dy t h.1 h.2=v
 |0,v,hm=>by have:=dT v;omega
 |
  m+1,v,hm=>by
  intro t s d σ hd hσ hl hv h hh
  cases hd with
  |zero=>rw[er rfl (by cases v<;>rfl)]at hh;cases hh
  |one=>rw[er rfl (by cases v<;>rfl)]at hh;cases hh
  |bP=>rw[er rfl (by cases v<;>rfl)]at hh;cases hh
  |rj hne=>rw[er (by simp[fP,hne]) (by cases v<;>rfl)]at hh;cases hh
  |
   hit =>
   rw[n8 v (by simp[fP])]at hh
   simp only[aQ]at hh
   subst hh
   exact⟨rfl,hv,mH _ _ _⟩
  |
   @plus a b _ a' b' h1 h2 _ =>
   rcases lf hv with⟨w,rfl,hw⟩|⟨w,rfl,hw⟩
   ·simp only[Vl.nodes]at hm
    rw[qw]at hh
    obtain⟨k,hk,rfl⟩:=dE hh
    obtain⟨q1,q2,q3⟩:=mv n m w (by omega) _ s _ σ h1 hσ hl.1 hw k hk
    exact⟨q1,q2,congrArg Vl.l q3⟩
   ·simp only[Vl.nodes]at hm
    rw[qf]at hh
    obtain⟨k,hk,rfl⟩:=dE hh
    obtain⟨q1,q2,q3⟩:=mv n m w (by omega) _ s _ σ h2 hσ hl.2 hw k hk
    exact⟨q1,q2,congrArg Vl.r q3⟩
  |
   @times a b _ a' b' h1 h2 _ =>
   obtain⟨x,y,rfl,hx,hy⟩:=jL hv
   simp only[Vl.nodes]at hm
   rw[qt]at hh
   rcases aM.1 hh with hh|hh
   ·obtain⟨k,hk,rfl⟩:=dE hh
    obtain⟨q1,q2,q3⟩:=mv n m x (by omega) _ s _ σ h1 hσ hl.1 hx k hk
    refine⟨?_,q2,congrArg (fun q=>Vl.p q y) q3⟩
    show (vT n k.1 (eZ σ a')&&vT n y (eZ σ b))=true
    rw[q1,hy];rfl
   ·obtain⟨k,hk,rfl⟩:=dE hh
    obtain⟨q1,q2,q3⟩:=mv n m y (by omega) _ s _ σ h2 hσ hl.2 hy k hk
    refine⟨?_,q2,congrArg (Vl.p x) q3⟩
    show (vT n x (eZ σ a)&&vT n k.1 (eZ σ b'))=true
    rw[q1,hx];rfl
  |
   @rc a _ c0 d0 x hx hs h1 h2 hsz =>
   have lo:jO (dI (.name x) a 0) 0:=ir x a hl
   obtain⟨X,e1,e2⟩:=rl (x:=x) hσ hl (h1.lc lo) (h2.lc lo)
   obtain⟨w,rfl,hw⟩:=CL hv
   simp only[Vl.nodes]at hm
   have hcl:=oC hσ x (kg hσ (.rc a) hl)
   have hop:eZ (iU σ x (eZ σ (.rc a))) (dI (.name x) a 0)=dI (eZ σ (.rc a)) (eZ σ a) 0:=jn hσ x _ a 0 hx
   have hns:eZ (iU σ x (eZ σ (.rc a))) (.name s)=eZ σ (.name s):=by simp only[eZ,iU,if_neg (Ne.symm hs)]
   have hnx:eZ (iU σ x (eZ σ (.rc a))) (.name x)=eZ σ (.rc a):=by simp[eZ,iU]
   have hw':vT n w (eZ (iU σ x (eZ σ (.rc a))) (dI (.name x) a 0))=true:=by rw[hop];exact hw
   have ty:∀y,vT n y (dI (.rc X) X 0)=true->vT n (.f y) (eZ σ (pg a x c0 d0))=true:=fun y hy=>by rw[e1];exact hy
   rw[qg]at hh
   rcases aM.1 hh with hh|hh
   ·obtain⟨k,hk,rfl⟩:=dE hh
    have hk':k∈cK (dI (.name x) a 0) (.nm s) w:=by rw[nv x w hx (.ka 0 s (Ne.symm hs))];exact hk
    obtain⟨q1,q2,q3⟩:=mv n m w (by omega) _ s _ _ h1 hcl lo hw' k hk'
    rw[eY x k.1.nodes k.1 a 0 k.2 (aw _)]at q3
    refine⟨ty _ ?_,by rw[<-hns];exact q2,congrArg Vl.f q3⟩
    rw[e2];exact q1
   ·obtain⟨k,hk,hh⟩:=List.mem_flatMap.1 hh
    obtain⟨k2,hk2,rfl⟩:=dE hh
    have hk':k∈cK (dI (.name x) a 0) (.nm x) w:=by rw[nv x w hx (.nm 0)];exact hk
    obtain⟨q1,q2,q3⟩:=mv n m w (by omega) _ x _ _ h2 hcl lo hw' k hk'
    rw[eY x k.1.nodes k.1 a 0 k.2 (aw _)]at q3
    rw[hnx]at q2
    have hsz2:=(kE hk).1
    obtain⟨r1,r2,r3⟩:=mv n m k.2 (by omega) (.rc a) s _ σ (.rc x hx hs h1 h2 hsz) hσ hl q2 k2 hk2
    refine⟨ty _ ?_,r2,?_⟩
    ·rw[e2]
     show (vT n k.1 _&&vT n k2.1 _)=true
     rw[q1,r1];rfl
    ·show Vl.f (dy a k.1 (dy (.rc a) k2.1 k2.2))=.f w
     rw[r3,q3]
theorem BV{n:Nat}{a D:Ty}{x:Nm}(hx:bh x a=false)(hl:jO (.rc a) 0)(h:oJ a x=some D){v:Vl}(hv:vT n v (.rc a)=true){k:Hl}(hk:k∈kids a v) :
 vT n k.1 D=true/\vT n k.2 (.rc a)=true/\.f (dy a k.1 k.2)=v:=by
 simp only[oJ,bc,cP,e9]at h
 obtain⟨d,hd,_,rfl⟩:=h
 have lo:jO (dI (.name x) a 0) 0:=ir x a hl
 have hcl:=oC uc x hl
 have e1:sub x (.rc a) d=eZ (iU FG x (.rc a)) d:=by
  have:=iN FG x (.rc a) d
  rw[jF,jF]at this;exact this
 obtain⟨w,rfl,hw⟩:=CL hv
 have hk':k∈cK (dI (.name x) a 0) (.nm x) w:=by rw[nv x w hx (.nm 0)];exact hk
 have hop:eZ (iU FG x (.rc a)) (dI (.name x) a 0)=dI (.rc a) a 0:=by rw[jn uc x _ a 0 hx,jF]
 obtain⟨q1,q2,q3⟩:=mv n w.nodes w (aw _) _ x _ _ hd hcl lo (by rw[hop];exact hw) k hk'
 rw[eY x k.1.nodes k.1 a 0 k.2 (aw _)]at q3
 refine⟨by rw[e1];exact q1,?_,congrArg Vl.f q3⟩
 simpa[eZ,iU]using q2
theorem gI:∀{t:Ty},bV t=true->∃y,bh y t=true/\dz y=true
 | .name s,h=>⟨s,by simp[bh],h⟩
 |
  .plus a b,h=>by
  simp only[bV,bB]at h
  rcases h with h|h
  ·obtain⟨y,h1,h2⟩:=gI h;exact⟨y,by simp[bh,h1],h2⟩
  ·obtain⟨y,h1,h2⟩:=gI h;exact⟨y,by simp[bh,h1],h2⟩
 |
  .times a b,h=>by
  simp only[bV,bB]at h
  rcases h with h|h
  ·obtain⟨y,h1,h2⟩:=gI h;exact⟨y,by simp[bh,h1],h2⟩
  ·obtain⟨y,h1,h2⟩:=gI h;exact⟨y,by simp[bh,h1],h2⟩
 |
  .rc a,h=>by
  obtain⟨y,h1,h2⟩:=gI (t:=a) h;exact⟨y,by simp[bh,h1],h2⟩
theorem gJ:∀{t:Ty} {y:Nm},bh y t=true->dz y=true->bV t=true
 |
  .name s,y,h,hl=>by
  have:s=y:=by simpa[bh]using h
  rw[this];exact hl
 |
  .plus a b,y,h,hl=>by
  simp only[bh,bB]at h
  simp only[bV,bB]
  exact h.imp (gJ · hl) (gJ · hl)
 |
  .times a b,y,h,hl=>by
  simp only[bh,bB]at h
  simp only[bV,bB]
  exact h.imp (gJ · hl) (gJ · hl)
 | .rc a,y,h,hl=>gJ (t:=a) h hl
 | .zero,y,h,_=>by simp[bh]at h
 | .one,y,h,_=>by simp[bh]at h
 | .bP k,y,h,_=>by simp[bh]at h
theorem ZT.QL{s d:Nm}{a:Ty}{x A B:E}{D:Ty}(z:ZT s d a x A B D):∃e,ji d=some e/\Ask e [] D:=by
 have hcl:bV D=false:=by
  cases q:bV D with
  |false=>rfl
  |
   true =>
   obtain⟨y,h1,h2⟩:=gI q
   have:=gJ (t:=.rc a) (su z.lp y h1) h2
   rw[z.ask.cl]at this;cases this
 have hc:wE d=some D:=by unfold wE;rw[z.bk];simp only;rw[if_pos (by rw[sS,hcl];rfl)]
 cases q:ji d with
 |none=>rw[mG q]at hc;cases hc
 |
  some e =>
  obtain⟨t,h1,hA,_⟩:=gM q
  rw[hc]at h1;cases h1
  exact⟨e,rfl,hA⟩
theorem ZT.Qx{s d:Nm}{a:Ty}{x A B:E}{D:Ty}(z:ZT s d a x A B D){w:Vl}(hb:w.iE 100)(hv:vT 100 w D=true):oz d w.cY 100=if w.nodes<=200 then some w else none:=by
 obtain⟨e,he,hA⟩:=z.QL
 unfold oz
 rw[he]
 by_cases hn:w.nodes<=200
 ·rw[tC hb hn,if_pos hn]
  simp only
  rw[if_pos ⟨by omega,by rw[show (100:Int).toNat=100 from rfl,nT hA];exact hv⟩]
 ·rw[if_neg hn]
  cases q:rO w.cY with
  |none=>rfl
  |
   some w' =>
   exfalso
   obtain⟨_,h2,h3⟩:=lA q
   have:=ym hb h2 (qc q)
   rw[this]at hn;exact hn h3
theorem ZT.QA{s d:Nm}{a:Ty}{x A B:E}{D:Ty}(z:ZT s d a x A B D){v:Vl}(hv:Fo a v){k:Hl}(hk:k∈kids a v):vT 100 k.1 D=true/\Fo a k.2/\.f (dy a k.1 k.2)=v:=by
 obtain⟨e2,he2,hw2,hte2,_,_⟩:=oP z.y
 have hlc:jO (.rc a) 0:=hte2 ▸ hw2.qT.1
 obtain⟨q1,q2,q3⟩:=BV (wx z.y) hlc z.lp hv.ty hk
 have:=wR hk
 have:=hv.nd
 exact⟨q1,⟨q2,(n0 hv.iE hk).2,by omega⟩,q3⟩
def DU(a:Ty)(l:List Vl)(v:Vl)(k:Int):Option (List Vl×Vl) :=
 if l.length=50 then none else if 0<=k/\k.toNat<(kids a v).length then
  (if((kids a v).getD k.toNat (.u,.u)).1.nodes<=200 then some (l++[((kids a v).getD k.toNat (.u,.u)).1],((kids a v).getD k.toNat (.u,.u)).2)else none)else none
theorem uH{a:Ty}{l:List Vl}{c e v:Vl}(h:.f (dy a c e)=v)(hn:v.nodes<=200):pZ a (l++[c]) e=some (l,v)/\ub a (l++[c]) e=ub a l v:=by
 have hu:pZ a (l++[c]) e=some (l,v):=by
  unfold pZ
  rw[List.getLast?_concat]
  simp only
  rw[h,if_pos hn,List.dropLast_concat]
 refine⟨hu,?_⟩
 unfold ub
 rw[ap,List.length_singleton,iW,hu]
 rfl
theorem yT{s d:Nm}{l:List Vl}{v:Vl}(hs:St s d (zA s) l v)(hd:cG s=some d)(hv:jb s (l.map (·.cY)) v.cY=some (l,v)){k:Hl}(hk:k∈kids (zA s) v) :
 jb s (l.map (·.cY)++[k.1.cY]) k.2.cY=if l.length=50 then none else if k.1.nodes<=200 then some (l++[k.1],k.2)else none:=by
 obtain⟨x,A,B,D,z⟩:=hs.z
 obtain⟨t1,t2,t3⟩:=z.QA hs.i.vD hk
 have hb:=(n0 hs.i.vD.iE hk).1
 have hz:=(iH hv).1
 have hclo:=(iH hv).2
 have hlen:=hs.len
 have hlp:eM d (l.map (·.cY))=some l:=by
  rw[vM,hd]at hz
  simp only[a7,z.l]at hz
  obtain⟨_,h1,h2⟩:=bc.1 hz
  split at h2
  ·obtain⟨l',h3,h4⟩:=Option.map_eq_some_iff.1 h2
   cases h4;exact h3
  ·cases h2
 have e1:oz s k.2.cY 100=some k.2:=by rw[z.cY t2.iE t2.ty,if_pos t2.nd]
 unfold jb
 rw[vM,hd]
 simp only[a7,z.l,e1,rY,hlp,eM,z.Qx hb t1,ap,co,List.length_singleton]
 by_cases h50:l.length=50
 ·rw[if_neg (by omega),if_pos h50];rfl
 ·rw[if_pos (by omega),if_neg h50]
  by_cases hn:k.1.nodes<=200
  ·rw[if_pos hn,if_pos hn]
   simp only[cn,a7,(uH (l:=l) t3 hs.i.vD.nd).2]
   rw[if_pos hclo]
  ·rw[if_neg hn,if_neg hn];rfl
end Go.Proofs.Trees
namespace Go.Proofs.Trees
open Go Go.VL Go.RowKit
theorem vf{a:Ty}{l l':List Vl}{v w:Vl}{k:Int}(h:DU a l v k=some (l',w)):∃q,q∈kids a v/\l'=l++[q.1]/\w=q.2/\q.1.nodes<=200/\l.length≠50/\0<=k/\(kids a v)[k.toNat]?=some q:=by
 unfold DU at h
 split at h
 ·cases h
 ·rename_i h0
  split at h
  ·rename_i h1
   split at h
   ·rename_i h2
    cases h
    have e:(kids a v).getD k.toNat (.u,.u)=(kids a v)[k.toNat]'h1.2:=by simp[aa,h1.2]
    rw[e]at h2 |-
    exact⟨_,bD _,rfl,rfl,h2,h0,h1.1,by simp[h1.2]⟩
   ·cases h
  ·cases h
theorem St.dn{s d:Nm}{a:Ty}{l l':List Vl}{v w:Vl}{k:Int}(h:St s d a l v)(hu:DU a l v k=some (l',w)):St s d a l' w/\pZ a l' w=some (l,v)/\l'.length=l.length+1:=by
 obtain⟨q,hq,rfl,rfl,hn,h50,_,_⟩:=vf hu
 obtain⟨x,A,B,D,z⟩:=h.z
 obtain⟨t1,t2,t3⟩:=z.QA h.i.vD hq
 have hv:oz d q.1.cY 100=some q.1:=by rw[z.Qx (n0 h.i.vD.iE hq).1 t1,if_pos hn]
 have hlen:=h.len
 refine⟨⟨⟨x,A,B,D,z⟩,⟨fun c hc=>?_,t2⟩,fun c hc=>?_,by simp;omega⟩,(uH t3 h.i.vD.nd).1,by simp⟩
 ·rcases aM.1 hc with hc|hc
  ·exact h.i.BF c hc
  ·simp only[aQ]at hc;subst hc;exact z.BF hv
 ·rcases aM.1 hc with hc|hc
  ·exact h.each c hc
  ·simp only[aQ]at hc;subst hc;exact hv
theorem St.gz{s d:Nm}{a:Ty}{l:List Vl}{v:Vl}(h:St s d a l v):GZ (some (l,v)):=h.i.gz (by have:=h.len;omega)
theorem EY{s:Nm}{p:List Nm}{f:Nm}{r:List Vl×Vl}(h:qn s p f=some r):∃d,cG s=some d/\St s d (zA s) r.1 r.2/\p=r.1.map (·.cY)/\f=r.2.cY:=by
 obtain⟨d,a,x,A,B,D,z,hz,hp,hf,hl,hza,_,hr⟩:=ky (l:=r.1) (v:=r.2) h
 rw[hza]
 exact⟨d,z.dl,⟨⟨x,A,B,D,z⟩,hz,nk hr hp,by rw[hp]at hl;simpa using hl⟩,hp,hf⟩
theorem Jg{s d:Nm}{l:List Vl}{v:Vl}(hs:St s d (zA s) l v)(hd:cG s=some d)(hv:jb s (l.map (·.cY)) v.cY=some (l,v)){k:Int}(h0:0<=k)(hk:k.toNat<(kids (zA s) v).length) :
 jb s (l.map (·.cY)++[((kids (zA s) v)[k.toNat]).1.cY]) ((kids (zA s) v)[k.toNat]).2.cY=DU (zA s) l v k:=by
 rw[yT hs hd hv (bD hk)]
 unfold DU
 by_cases h5:l.length=50
 ·rw[if_pos h5,if_pos h5]
 ·rw[if_neg h5,if_neg h5,if_pos (show 0<=k/\k.toNat<(kids (zA s) v).length from ⟨h0,hk⟩)]
  have hg2:(kids (zA s) v).getD k.toNat (.u,.u)=(kids (zA s) v)[k.toNat]:=by simp[aa,hk]
  rw[hg2]
end Go.Proofs.Trees
namespace Go.Proofs.Trees
open Go Go.VL Go.RowKit
def Qz(n:Nat):AV->List Ob->Prop:=fun r o=>∃x:Int,r=.v (.int .i64 x)/\(0<=x->n<=1048576)
theorem Qz.ne(n:Nat):∃r o,Qz n r o:=⟨_,[],-1,rfl,fun h=>by omega⟩
end Go.Proofs.Trees
namespace Go.Proofs.Trees
open Go Go.VL Go.RowKit
def pK(a:AV)(l:List Nat):Prop:=LK.sl.has a/\a.aN=qN l
theorem pK.of(l:List Nat):pK (.sl (qN l)) l:=⟨(cg _).mpr trivial,rfl⟩
theorem pK.nil:pK (.v (.slice none 0 0)) []:=⟨(bi).mpr trivial,rfl⟩
theorem pK.len{a:AV}{l:List Nat}(h:pK a l):a.aN.length=l.length:=by rw[h.2,wH]
theorem pK.idx{a:AV}{l:List Nat}(h:pK a l){i:Nat}(hi:i<l.length):a.aN.getD i []=[.v (.int .i64 (l.getD i 0:Nat))]:=by
 rw[h.2];simp[qN,aa,hi]
end Go.Proofs.Trees
namespace Go.Proofs.Trees
open Go Go.VL Go.RowKit
def eF(l:List Int):List (List AV):=l.map fun k=>[.v (.int .i64 k)]
def pI(a:AV)(l:List Int):Prop:=LK.sl.has a/\a.aN=eF l
theorem mF(l:List Int):(eF l).length=l.length:=by simp[eF]
theorem pI.of(l:List Int):pI (.sl (eF l)) l:=⟨(cg _).mpr trivial,rfl⟩
theorem pI.nil:pI (.v (.slice none 0 0)) []:=⟨(bi).mpr trivial,rfl⟩
theorem pI.len{a:AV}{l:List Int}(h:pI a l):a.aN.length=l.length:=by rw[h.2,mF]
theorem pI.idx{a:AV}{l:List Int}(h:pI a l){i:Nat}(hi:i<l.length):a.aN.getD i []=[.v (.int .i64 (l.getD i 0))]:=by
 rw[h.2];simp[eF,aa,hi]
theorem vr(l:List Int):∀x,x∈[Ob.vec 1 (eF l)]->iL x:=by
 intro x hx
 simp only[aQ]at hx
 subst hx
 intro e he c hc
 simp only[eF,ci]at he
 obtain⟨k,_,rfl⟩:=he
 simp only[aQ]at hc
 exact⟨_,hc⟩
end Go.Proofs.Trees
namespace Go.Proofs.Trees
open Go Go.VL Go.RowKit
abbrev ZO:=Option (List Vl×Vl)
def Ct(s:Nm)(o:ZO):Prop:=∀r,o=some r->∃d,St s d (zA s) r.1 r.2
def QP(a:Ty)(pl:List Int)(o:ZO):ZO:=pl.foldl (fun o k=>o.bind fun r=>DU a r.1 r.2 k) o
theorem Ct.dn{s:Nm}{o:ZO}(h:Ct s o)(k:Int):Ct s (o.bind fun r=>DU (zA s) r.1 r.2 k):=fun r hr=>by
 obtain⟨q,h1,h2⟩:=bc.1 hr
 obtain⟨d,hs⟩:=h q h1
 exact⟨d,(hs.dn (l':=r.1) (w:=r.2) h2).1⟩
theorem Ct.go{s:Nm}:∀{pl:List Int} {o:ZO},Ct s o->Ct s (QP (zA s) pl o)
 |[],o,h=>h
 |k::pl,o,h=>Ct.go (pl:=pl) (h.dn k)
theorem Ct.gz{s:Nm}{o:ZO}(h:Ct s o):GZ o:=fun r hr=>by
 obtain⟨d,hs⟩:=h r hr
 exact hs.gz r rfl
def NX(s:Nm)(o:ZO):Prop:=∀r,o=some r->jb s (r.1.map (·.cY)) r.2.cY=some r
theorem NX.dn{s:Nm}{o:ZO}(h:NX s o)(k:Int):NX s (o.bind fun r=>DU (zA s) r.1 r.2 k):=fun r hr=>by
 obtain⟨q,h1,h2⟩:=bc.1 hr
 have hq:=h q h1
 obtain⟨d,hd,hs,_⟩:=EY (iH (l:=q.1) (v:=q.2) hq).1
 obtain⟨e,_,h3,h4,_,_,h0,h5⟩:=vf (l':=r.1) (w:=r.2) h2
 have hk:k.toNat<(kids (zA s) q.2).length:=by
  rcases Nat.lt_or_ge k.toNat (kids (zA s) q.2).length with h|h
  ·exact h
  ·rw[List.getElem?_eq_none h]at h5;cases h5
 have he:(kids (zA s) q.2)[k.toNat]=e:=by rw[bf hk]at h5;cases h5;rfl
 have:=Jg hs hd hq h0 hk
 rw[h2,he]at this
 obtain⟨l1,v1⟩:=r
 simp only at h3 h4 |-
 subst h3 h4
 rw[List.map_append]
 exact this
end Go.Proofs.Trees
namespace Go.Proofs.Trees
open Go Go.VL Go.RowKit
def zR(c:Nm):List Hl->Nat->Int
 |[],_=>-1
 |h::l,i=>if h.1.cY=c then(i:Int)else zR c l (i+1)
theorem Nk(q:Vl)(w:AV)(hw:LK.ptr.has w)(c:Nm)(hq:q.cY.length<=900000):an Tryz.prog 77 [.agg [q.cr,w],.ref 0 0] [.cells [.v (.string (mk c))]] (dm (.v (.bool (decide (q.cY=c)))) [.cells [.v (.string (mk c))]]):=by
 refine NQ _ _ _ ((aK _).mpr trivial) hw ?_
 unfold Ig
 refine ai (BE q hq) ?_
 simp only[↓zq,zs,ae,zt]
 refine⟨?_,rfl⟩
 congr 2
 rw[cw];simp
theorem Kv(c:Nm)(l:List Hl)(hl:l.length<=1000)(ht:∀h,h∈l->h.1.cY.length<=900000):∀(k i:Nat),i+k=l.length->Ga [.sl (ib l),.v (.int .i64 (l.length:Int)),.v (.int .i64 (i:Int))] [.cells [.v (.string (mk c))]]
 (ou (if zR c (l.drop i) i = -1 then(1,[],[.cells [.v (.string (mk c))]])else(2,[.v (.int .i64 (zR c (l.drop i) i))],[.cells [.v (.string (mk c))]])))
 |
  0,i,hi=>by
  refine IV _ _ _ _ ?_
  have:i=l.length:=by omega
  subst this
  simp only[Gm,↓zq,zs,ae,zt,ae,List.drop_length,zR]
  exact⟨fun h=>by omega,fun _=>by simp[ou]⟩
 |
  k+1,i,hi=>by
  have hlt:i<l.length:=by omega
  refine IV _ _ _ _ ?_
  simp only[Gm,↓zq,zs,ae,zt,ae,bw,eh,lE hlt,aK,bK]
  refine⟨fun _=>?_,fun h=>by omega⟩
  repeat refine⟨by first|trivial|omega,?_⟩
  refine aY (Nk (l[i]).1 _ ((aK _).mpr trivial) c (ht _ (bD hlt))) ?_
  simp only[↓zq,zs,ae,zt,aL]
  rw[aU hlt,zR]
  by_cases h:(l[i]).1.cY=c
  ·simp only[if_pos h]
   refine⟨fun _=>?_,fun hn=>absurd h (by simpa using hn)⟩
   rw[if_neg (by omega)]
  ·simp only[if_neg h]
   refine⟨fun hp=>absurd (by simpa using hp) h,fun _=>?_⟩
   rw[bN i (by omega)]
   exact Kv c l hl ht k (i+1) (by omega)
theorem Qr(c:Nm)(l:List Hl)(hl:l.length<=1000)(ht:∀h,h∈l->h.1.cY.length<=900000):an Tryz.prog 76 [.sl (ib l),.fn 77 [.ref 0 0]] [.cells [.v (.string (mk c))]] (dm (.v (.int .i64 (zR c l 0))) [.cells [.v (.string (mk c))]]):=by
 refine No _ _ ((cg _).mpr trivial) ?_
 simp only[IQ,↓zq,zs,ae,eh]
 have hloop:=Kv c l hl ht l.length 0 (by omega)
 rw[bx]at hloop
 refine fq hloop (fun ys o e=>?_) (fun ys o e=>?_)
 ·split at e
  ·rename_i h
   cases e
   simp only[↓zq,zs,ae,zt,ae]
   rw[h];exact⟨rfl,rfl⟩
  ·cases e
 ·split at e
  ·cases e
  ·cases e
   simp only[↓zq,zs,ae,zt,ae]
   exact⟨rfl,rfl⟩
theorem Fo.kt{a:Ty}{v:Vl}(h:Fo a v):(kids a v).length<=199/\(∀k,k∈kids a v->k.1.cY.length<=900000):=by
 refine⟨?_,fun k hk=>(Ay h hk).1⟩
 have h1:=zn a v
 have h2:=rm (kids a v)
 have:=h.nd
 omega
theorem NK{s d:Nm}{a:Ty}{l l':List Vl}{v w c:Vl}(h:St s d a l v)(hu:pZ a l v=some (l',w))(hc:l=l'++[c]):an Tryz.prog 47 [p7 s a l v,p7 s a l' w] [] (bH (.v (.int .i64 (zR c.cY (kids a w) 0)))):=by
 have h':=h.up hu
 obtain⟨x,A,B,D,z⟩:=h.z
 have hlen:=h.len
 have hl1:l.length=l'.length+1:=by rw[hc];simp
 refine Of _ _ ((bU _).mpr trivial) ((bU _).mpr trivial) ?_
 simp only[JI,p7,↓zq,zs,ae,gW,aK,aE]
 repeat refine⟨by first|trivial|omega,?_⟩
 rw[wrap64 ((l.length:Int)-1) (by omega) (by omega)]
 have e1:((l.length:Int)-1).toNat=l'.length:=by omega
 have hg:(wL l).getD l'.length []=[c.cr]:=by rw[tK (by omega)];simp[hc]
 simp only[e1,hg,↓zq,zs,ae,aK]
 repeat refine⟨by first|trivial|omega,?_⟩
 have hcx:=h.i.BF c (by rw[hc];simp)
 refine ai (BE c hcx.cY) ?_
 simp only[↓zq,zs,ae,zt,aK,aE]
 repeat refine⟨by first|trivial|omega,?_⟩
 have hnd:=h'.i.vD.nd
 refine ai (O2 100 w x A B a z.body z.hx (h'.i.vD.fD z) (by omega)) ?_
 simp only[↓zq,zs,ae,zt]
 have hk:=h'.i.vD.kt
 refine aY (Qr c.cY (kids a w) (by omega) hk.2) ?_
 simp only[↓zq,zs,ae,zt,aL]
 exact⟨rfl,rfl⟩
def p5:Nat->Ty->List Vl->Vl->List Int
 |0,_,_,_=>[]
 |
  n+1,a,l,v=>match pZ a l v with
  |some r=>p5 n a r.1 r.2++[zR ((l.getLast?).getD .u).cY (kids a r.2) 0]
  |none=>[]
theorem uz:∀(n:Nat) (a:Ty) (l:List Vl) (v:Vl),(p5 n a l v).length<=n
 |0,_,_,_=>by simp[p5]
 |
  n+1,a,l,v=>by
  unfold p5
  cases pZ a l v with
  |none=>simp
  |some r=>have:=uz n a r.1 r.2;simp;omega
def PY(p q:List Int)(i:Nat):Prop:=q.length=p.length/\∀k,k<p.length->q.getD k 0=if k<i\/p.length-1-k<i then p.getD (p.length-1-k) 0 else p.getD k 0
theorem vB{l:List Int}{i j:Nat}(x:Int)(hj:j<l.length):(l.set i x).getD j 0=if i=j then x else l.getD j 0:=by
 simp only[aa,List.getElem?_set]
 split
 ·rename_i e;subst e;simp[hj]
 ·rfl
theorem J0(p:List Int)(hp:p.length<=1000000):∀(m i:Nat) (q:List Int),p.length<=m+2*i->i<=p.length->PY p q i->E1 [.v (.int .i64 (i:Int)),.v (.int .i64 ((p.length:Int)-1-(i:Int)))] [.vec 1 (eF q)] (jq 1 [] [.vec 1 (eF p.reverse)])
 |
  m,i,q,hm,hi,hR=>by
  refine MZ _ _ _ ?_
  by_cases hlt:(i:Int)<(p.length:Int)-1-(i:Int)
  ·have e2:((p.length:Int)-1-(i:Int)).toNat=p.length-1-i:=by omega
   have h1:i<q.length:=by rw[hR.1];omega
   have h2:p.length-1-i<q.length:=by rw[hR.1];omega
   have g1:(eF q).getD i []=[.v (.int .i64 (q.getD i 0))]:=by simp[eF,aa,h1]
   have g2:(eF q).getD (p.length-1-i) []=[.v (.int .i64 (q.getD (p.length-1-i) 0))]:=by simp[eF,aa,h2]
   have s1:(eF q).set i [.v (.int .i64 (q.getD (p.length-1-i) 0))]=eF (q.set i (q.getD (p.length-1-i) 0)):=by simp[eF,List.map_set]
   have g3:(eF (q.set i (q.getD (p.length-1-i) 0))).getD (p.length-1-i) []=[.v (.int .i64 (q.getD (p.length-1-i) 0))]:=by
    have hne:i≠p.length-1-i:=by omega
    simp[eF,aa,List.getElem?_set,hne,h2]
   simp only[EV,↓zq,zs,ae,mF,bK,e2,g1,g2,List.set_cons_zero,bj,s1,g3]
   have s2:(eF (q.set i (q.getD (p.length-1-i) 0))).set (p.length-1-i) [.v (.int .i64 (q.getD i 0))]=eF ((q.set i (q.getD (p.length-1-i) 0)).set (p.length-1-i) (q.getD i 0)):=by simp[eF,List.map_set]
   simp only[s2,List.length_set]
   have hl:=hR.1
   refine⟨fun _=>⟨⟨by omega,by omega⟩,⟨h2,by first|trivial|simp⟩,⟨by omega,by omega⟩,⟨h1,by first|trivial|simp⟩,⟨by omega,by omega⟩,⟨h1,by omega⟩,⟨by omega,by omega⟩,⟨h2,by omega⟩,?_⟩,fun h=>absurd hlt h⟩
   rw[bN i (by omega),wrap64 ((p.length:Int)-1-(i:Int)-1) (by omega) (by omega),show (p.length:Int)-1-(i:Int)-1=(p.length:Int)-1-((i+1:Nat):Int) by omega]
   match m,hm with
   |0,hm=>omega
   |
    m+1,hm =>
    refine J0 p hp m (i+1) _ (by omega) (by omega) ⟨by simp[hl],fun k hk=>?_⟩
    rw[vB _ (by rw[List.length_set,hl];exact hk),vB _ (by rw[hl];exact hk)]
    have hi1:=hR.2 i (by omega)
    have hi2:=hR.2 (p.length-1-i) (by omega)
    have hi3:=hR.2 k hk
    rw[if_neg (by omega)]at hi1 hi2
    by_cases c1:p.length-1-i=k
    ·subst c1
     rw[if_pos rfl,if_pos (by omega),hi1]
     congr 1;omega
    ·rw[if_neg c1]
     by_cases c2:i=k
     ·subst c2
      rw[if_pos rfl,if_pos (by omega),hi2]
     ·rw[if_neg c2,hi3]
      by_cases c3:k<i\/p.length-1-k<i
      ·rw[if_pos c3,if_pos (by omega)]
      ·rw[if_neg c3,if_neg (by omega)]
  ·simp only[EV,↓zq,zs,ae]
   refine⟨fun h=>absurd h hlt,fun _=>?_⟩
   have:q=p.reverse:=by
    apply List.ext_getElem
    ·rw[hR.1,List.length_reverse]
    ·intro k h1 h2
     have hk:k<p.length:=by rw[<-hR.1];exact h1
     have:=hR.2 k hk
     have e1:q.getD k 0=q[k]:=by simp[aa,h1]
     rw[e1]at this
     rw[this,List.getElem_reverse]
     have e2:p.getD (p.length-1-k) 0=p[p.length-1-k]:=by simp[aa,show p.length-1-k<p.length by omega]
     split
     ·exact e2
     ·rename_i hn
      have:k=p.length-1-k:=by omega
      rw[<-e2,<-this]
   rw[this];exact⟨rfl,rfl,rfl⟩
theorem ON(p:List Int)(hp:p.length<=1000000):an Tryz.prog 48 [.vec 0] [.vec 1 (eF p)] (dm .any [.ke 1 (eF p.reverse)]):=by
 refine PH _ ?_
 unfold Ix
 rw[mF,wrap64 ((p.length:Int)-1) (by omega) (by omega)]
 have hloop:=J0 p hp p.length 0 p (by omega) (by omega) ⟨rfl,fun k hk=>by rw[if_neg (by omega)]⟩
 rw[show (p.length:Int)-1-((0:Nat):Int)=(p.length:Int)-1 by omega]at hloop
 refine cR hloop ?_
 simp only[↓zq,zs,ae,Ob.es,a8]
 exact⟨rfl,rfl⟩
end Go.Proofs.Trees
namespace Go.Proofs.Trees
open Go Go.VL Go.RowKit
theorem CQ{a:Ty}:∀(n:Nat) (l:List Vl) (v:Vl),l.length=n->(iW n a l v).isSome=true->∀c l',l=l'++[c]->∃w,pZ a l v=some (l',w)/\(iW l'.length a l' w).isSome=true
 |0,l,v,hl,_,c,l',h=>by rw[h]at hl;simp at hl
 |
  n+1,l,v,hl,hs,c,l',h=>by
  rw[iW]at hs
  cases q:pZ a l v with
  |none=>rw[q]at hs;cases hs
  |
   some r =>
   obtain⟨l1,w⟩:=r
   rw[q]at hs
   have h2:l1=l':=by
    unfold pZ at q
    rw[h,List.getLast?_concat]at q
    simp only at q
    split at q
    ·cases q;simp
    ·cases q
   subst h2
   have hn:l1.length=n:=by rw[h]at hl;simpa using hl
   exact⟨w,rfl,by rw[hn];exact hs⟩
theorem u9(l:List Vl)(c:Vl):((l++[c]).getLast?).getD .u=c:=by rw[List.getLast?_concat];rfl
theorem BJ{a:Ty}{l l':List Vl}{v w c:Vl}(n:Nat)(hu:pZ a l v=some (l',w))(hc:l=l'++[c]):p5 (n+1) a l v=p5 n a l' w++[zR c.cY (kids a w) 0]:=by
 rw[p5,hu];simp only[hc,u9]
noncomputable def zP (s:Nm) (p:List Nm) (f:Nm):Option (List Int):=(jb s p f).map fun r=>p5 r.1.length (zA s) r.1 r.2
def QE(o:Option (List Int)):List Int:=o.getD []
theorem K2(s d:Nm)(a:Ty):∀(n:Nat) (l:List Vl) (v:Vl) (out:List Int),l.length=n->St s d a l v->(iW n a l v).isSome=true->out.length+n<=1000 ->
 Gh [p7 s a l v] [.vec 1 (eF out)] (jq 1 [] [.vec 1 (eF (out++(p5 n a l v).reverse))])
 |
  0,l,v,out,hl,h,_,ho=>by
  have:l=[]:=bJ hl
  subst this
  refine HL _ _ ?_
  simp only[GY,p7,↓zq,zs,ae,gW,aG]
  refine⟨by omega,fun h=>by omega,fun _=>by simp[jq,p5]⟩
 |
  n+1,l,v,out,hl,h,hs,ho=>by
  have hne:l≠[]:=by rintro rfl;simp at hl
  have hlc:l=l.dropLast++[l.getLast hne]:=(List.dropLast_concat_getLast hne).symm
  obtain⟨w,hu,hs'⟩:=CQ (n+1) l v hl hs _ _ hlc
  have hn:l.dropLast.length=n:=by rw[List.length_dropLast];omega
  rw[hn]at hs'
  refine HL _ _ ?_
  have hup:=CE s a l v h.i h.len
  rw[hu]at hup
  have hix:=NK h hu hlc
  rw[BJ n hu hlc]
  generalize l.dropLast=l' at *
  generalize l.getLast hne=c at *
  simp only[GY,oZ]at hup |-
  simp only[p7,↓zq,zs,ae,gW,hl]at hup hix |-
  refine⟨by omega,fun _=>?_,fun h=>by omega⟩
  refine ai hup ?_
  simp only[↓zq,zs,ae]
  refine ai hix ?_
  simp only[↓zq,zs,ae,mF]
  refine⟨⟨fun x hx=>by simp at hx;rw[hx];rfl,by simp;omega⟩,?_⟩
  have e:eF out++[[.v (.int .i64 (zR c.cY (kids a w) 0))]]=eF (out++[zR c.cY (kids a w) 0]):=by simp[eF]
  rw[e,List.reverse_append,List.reverse_singleton,<-bC]
  exact K2 s d a n l' w _ hn (h.up hu) hs' (by simp;omega)
theorem Pj(s:Nm)(pa:AV)(p:List Nm)(hp:cu pa p)(f:Nm):an Tryz.prog 12 [.agg [.v (.string (mk s)),pa,.v (.string (mk f))]] [] (dm (.cA [.vec 0,.v (.bool (zP s p f).isSome)]) [.vec 1 (eF (QE (zP s p f)))]):=by
 refine Ng _ _ _ hp.1 ?_
 unfold Lf
 refine ai (OG s pa p hp f) ?_
 simp only[↓zq,zs,ae,mo]
 unfold zP
 cases q:jb s p f with
 |
  none =>
  simp only[oZ,↓zq,zs,ae,Option.map_none]
  exact⟨fun _=>⟨rfl,rfl⟩,fun h=>(by cases h)⟩
 |
  some r =>
  obtain⟨l,v⟩:=r
  obtain⟨d,hs,_⟩:=wY q
  have hlen:=hs.len
  have hcl:=(iH q).2
  have hloop:=K2 s d (zA s) l.length l v [] rfl hs hcl (by simp;omega)
  have hpl:=uz l.length (zA s) l v
  simp only[oZ,cn]
  have hn:(p7 s (zA s) l v).isNil=false:=rfl
  simp only[hn]
  refine⟨fun h=>(by cases h),fun _=>?_⟩
  refine cR hloop ?_
  simp only[↓zq,zs,ae,Ob.es,a8,aT]
  refine aY (ON (p5 l.length (zA s) l v).reverse (by rw[List.length_reverse];omega)) ?_
  rw[List.reverse_reverse]
  simp only[↓zq,zs,ae,Ob.es,a8]
  exact⟨rfl,rfl⟩
end Go.Proofs.Trees
namespace Go.Proofs.Trees
open Go Go.VL Go.RowKit
theorem KP(a b:AV)(l:List (List UInt8))(ha:cu a l)(hb:cu b l)(hl:l.length<=2000000):∀(m i:Nat),i+m=l.length->F7 [a,b,.v (.int .i64 (i:Int))] [] (jq 1 [] [])
 |
  0,i,hi=>by
  refine ME _ _ _ ?_
  simp only[Ge,↓zq,zs,ae,ha.len]
  exact⟨ha.1,hb.1,ha.1,fun h=>by omega,fun _=>⟨rfl,rfl,rfl⟩⟩
 |
  m+1,i,hi=>by
  have hlt:i<l.length:=by omega
  refine ME _ _ _ ?_
  simp only[Ge,↓zq,zs,ae,zt,ha.len,hb.len,ha.idx hlt,hb.idx hlt,bK]
  refine⟨ha.1,hb.1,ha.1,fun _=>⟨⟨ha.1,by omega,by omega⟩,by omega,⟨hb.1,by omega,by omega⟩,by omega,fun h=>by simp at h,fun _=>?_⟩,fun h=>by omega⟩
  rw[bN i (by omega)]
  exact KP a b l ha hb hl m (i+1) (by omega)
theorem Pu(a b:AV)(l:List (List UInt8))(ha:cu a l)(hb:cu b l)(hl:l.length<=2000000):an Tryz.prog 65 [a,b] [] (bH (.v (.bool true))):=by
 refine Qk _ _ ha.1 hb.1 ?_
 simp only[J2,↓zq,zs,ae,ha.len,hb.len]
 refine⟨ha.1,hb.1,fun h=>by simp at h,fun _=>?_⟩
 refine cR (KP a b l ha hb hl l.length 0 (by omega)) ?_
 simp[bH,↓zq,zs,ae]
theorem Oq(s f:(List UInt8))(x y:AV)(l:List (List UInt8))(hx:cu x l)(hy:cu y l)(hl:l.length<=2000000):an Tryz.prog 29 [.agg [.v (.string (mk s)),x,.v (.string (mk f))],.agg [.v (.string (mk s)),y,.v (.string (mk f))]] [] (bH (.v (.bool true))):=by
 refine OB _ _ _ _ _ _ hx.1 hy.1 ?_
 simp only[KY,↓zq,zs,ae,zt,bH]
 refine⟨fun _=>⟨fun _=>?_,fun h=>absurd rfl h⟩,fun h=>absurd rfl h⟩
 refine ai (Pu x y l hx hy hl) ?_
 simp only[↓zq,zs,ae,zt]
end Go.Proofs.Trees
namespace Go.Proofs.Trees
open Go Go.VL Go.RowKit
def pu(l:List UInt8):List (List AV):=l.map fun(x:UInt8)=>[.v (.int .u8 (x.toNat:Int))]
structure sd(b:AV)(l:List UInt8):Prop where
 has:LK.sl.has b
 el:b.aN=pu l
 len:l.length<=2000
theorem sd.ln{b:AV}{l:List UInt8}(h:sd b l):b.aN.length=l.length:=by rw[h.el];simp[pu]
theorem sd.get{b:AV}{l:List UInt8}(h:sd b l){i:Nat}(hi:i<l.length):b.aN.getD i []=[.v (.int .u8 ((l[i]).toNat:Int))]:=by rw[h.el];simp[pu,aa,hi]
def eU(b:AV)(p c:Nat)(X:AV->Prop):AV->List Ob->Prop:=fun r o=>∃q:Nat,p<=q/\q<=p+c/\X r/\o=[.cells [b,.v (.int .i64 (q:Int))]]
theorem eU.ne{b:AV}{p c:Nat}{X:AV->Prop}{r:AV}(h:X r):∃r o,eU b p c X r o:=⟨r,_,p,aw _,cU _ _,h,rfl⟩
theorem Co{a b:Int}(ha:0<=a)(hb:0<=b)(ha':a<9223372036854775808)(hb':b<9223372036854775808):∃W:Nat,zK .i64 a b=(W:Int):=by
 obtain⟨x,rfl⟩:∃x:Nat,a=(x:Int):=⟨a.toNat,by omega⟩
 obtain⟨y,rfl⟩:∃y:Nat,b=(y:Int):=⟨b.toNat,by omega⟩
 have e1:(BitVec.ofInt 64 (x:Int)).toNat=x:=by simp;omega
 have e2:(BitVec.ofInt 64 (y:Int)).toNat=y:=by simp;omega
 have hlt:x ^^^ y<2 ^ 63:=Nat.xor_lt_two_pow (by omega) (by omega)
 refine⟨x ^^^ y,?_⟩
 unfold zK
 have e3:(BitVec.ofInt (IntKind.bits .i64) (x:Int) ^^^ BitVec.ofInt (IntKind.bits .i64) (y:Int)).toNat=x ^^^ y:=by
  show (BitVec.ofInt 64 (x:Int) ^^^ BitVec.ofInt 64 (y:Int)).toNat=_
  rw[BitVec.toNat_xor,e1,e2]
 rw[e3,VL.wrap64]<;>omega
theorem xD(a b:Nat):Int.tdiv (a:Int) (b:Int)=((a/b:Nat):Int):=(Int.ofNat_tdiv a b).symm
theorem qm(a b:Nat):dC (a:Int) (b:Int)=((a%b:Nat):Int):=(Int.ofNat_tmod a b).symm
theorem u6(n:Nat)(h:n<9223372036854775808):IntKind.wrap .i64 (n:Int)=(n:Int):=VL.wrap64 _ (by omega) (by omega)
def DK(n:Nat):AV->Prop:=fun r=>∃k:Nat,r=.v (.int .i64 (k:Int))/\(1<=n->k<n)/\k<=n
abbrev qs:Nat:=1000000000000000
theorem yl(b:AV)(l:List UInt8)(hb:sd b l)(p n:Nat)(hp:p<2*qs)(hn:n<qs):an Tryz.prog 81 [.ref 0 0,.v (.int .i64 (n:Int))] [.cells [b,.v (.int .i64 (p:Int))]] (eU b p 1 (DK n)):=by
 refine On _ _ _ hb.has ?_
 have e1:IntKind.wrap .i64 ((p:Int)+1)=((p+1:Nat):Int):=by rw[VL.wrap64]<;>simp[qs]at hp<;>omega
 have e2:IntKind.wrap .i64 (((p+1:Nat):Int)-1)=(p:Int):=by rw[VL.wrap64]<;>simp[qs]at hp<;>omega
 have fin:∀k:Nat,(1<=n->k<n)->k<=n->eU b p 1 (DK n) (.v (.int .i64 (k:Int))) [.cells [b,.v (.int .i64 ((p+1:Nat):Int))]]:=fun k h h'=>⟨p+1,by omega,aw _,⟨k,rfl,h,h'⟩,rfl⟩
 simp only[Iw,↓zq,zs,ae,e1,e2,hb.ln,xD,qm]
 refine⟨fun h=>fin 0 (fun h'=>by omega) (dO _),fun h=>⟨hb.has,fun h0=>fin 0 (fun h'=>by omega) (dO _),fun h0=>?_⟩⟩
 have hl:0<l.length:=by omega
 have hll:=hb.len
 refine⟨hb.has,fun hlt=>?_,fun hge=>?_⟩
 ·have hlt:p<l.length:=by omega
  have hx:=(l[p]).toNat_lt
  simp only[bK,hb.get hlt,hb.has,↓zq,zs,ae]
  rw[u6 _ (by omega),qm]
  have:=fin ((l[p]).toNat%n) (fun h'=>ep _ (by omega)) (Nat.le_of_lt (ep _ (by omega)))
  repeat (first|exact this|refine⟨by omega,?_⟩)
 ·have h1:p%l.length<l.length:=ep _ hl
  have e3:IntKind.wrap .i64 ((p:Int)*7)=((p*7:Nat):Int):=by rw[VL.wrap64]<;>simp[qs]at hp<;>omega
  have e4:IntKind.wrap .i64 (((p*7:Nat):Int)+3)=((p*7+3:Nat):Int):=by rw[VL.wrap64]<;>simp[qs]at hp<;>omega
  have h2:(p*7+3)%l.length<l.length:=ep _ hl
  have hx:=(l[p%l.length]).toNat_lt
  have hy:=(l[(p*7+3)%l.length]).toNat_lt
  have hq:p/l.length<=p:=Nat.div_le_self _ _
  simp only[e3,e4,qm,bK,hb.get h1,hb.get h2,hb.has,↓zq,zs,ae]
  generalize hxx:(l[p%l.length]).toNat=x at hx |-
  generalize hyy:(l[(p*7+3)%l.length]).toNat=y at hy |-
  generalize hqq:p/l.length=q at hq |-
  have f1:IntKind.wrap .i64 ((x:Int))=(x:Int):=u6 _ (by omega)
  have f2:IntKind.wrap .i64 ((y:Int))=(y:Int):=u6 _ (by omega)
  have f3:IntKind.wrap .i64 ((x:Int)*131)=((x*131:Nat):Int):=by rw[VL.wrap64]<;>omega
  have f4:IntKind.wrap .i64 ((y:Int)*1117)=((y*1117:Nat):Int):=by rw[VL.wrap64]<;>omega
  have f5:IntKind.wrap .i64 (((x*131:Nat):Int)+((y*1117:Nat):Int))=((x*131+y*1117:Nat):Int):=by rw[VL.wrap64]<;>omega
  have f6:IntKind.wrap .i64 ((p:Int)*29)=((p*29:Nat):Int):=by rw[VL.wrap64]<;>simp[qs]at hp<;>omega
  have f7:IntKind.wrap .i64 (((x*131+y*1117:Nat):Int)+((p*29:Nat):Int))=((x*131+y*1117+p*29:Nat):Int):=by rw[VL.wrap64]<;>simp[qs]at hp<;>omega
  have f8:IntKind.wrap .i64 ((q:Int))=(q:Int):=u6 _ (by simp[qs]at hp;omega)
  have f9:IntKind.wrap .i64 ((q:Int)*53)=((q*53:Nat):Int):=by rw[VL.wrap64]<;>simp[qs]at hp<;>omega
  have f10:IntKind.wrap .i64 (((x*131+y*1117+p*29:Nat):Int)+((q*53:Nat):Int))=((x*131+y*1117+p*29+q*53:Nat):Int):=by rw[VL.wrap64]<;>simp[qs]at hp<;>omega
  simp only[f1,f2,f3,f4,f5,f6,f7,f8,f9,f10]
  generalize hV:x*131+y*1117+p*29+q*53=V
  have hVl:V<1000000000000000000:=by simp[qs]at hp;omega
  have f11:IntKind.wrap .i64 (Int.tdiv (V:Int) 64)=((V/64:Nat):Int):=by
   have:Int.tdiv (V:Int) 64=((V/64:Nat):Int):=xD V 64
   rw[this,u6 _ (by omega)]
  rw[f11]
  obtain⟨W,hW⟩:=Co (a:=(V:Int)) (b:=((V/64:Nat):Int)) (by omega) (by omega) (by omega) (by omega)
  rw[hW,qm]
  have:=fin (W%n) (fun h'=>ep _ (by omega)) (Nat.le_of_lt (ep _ (by omega)))
  repeat (first|exact this|refine⟨by omega,?_⟩)
def kM(L:List (List UInt8)):AV->Prop:=fun r=>∃s,s∈L/\r=.v (.string (mk s))
theorem CG(b:AV)(l:List UInt8)(hb:sd b l)(p:Nat)(hp:p<2*qs)(L:List (List UInt8))(a:AV)(ha:cu a L)(hL:0<L.length)(hLl:L.length<1000000):an Tryz.prog 102 [.ref 0 0,a] [.cells [b,.v (.int .i64 (p:Int))]] (eU b p 1 (kM L)):=by
 refine OK _ _ _ ha.1 hb.has ?_
 unfold KX
 simp only[↓zq,zs,ae,ha.len]
 refine⟨ha.1,?_⟩
 have hpk:=yl b l hb p L.length hp (by simp[qs];omega)
 refine aO hpk (eU.ne ⟨0,rfl,fun h=>h,dO _⟩) ?_
 rintro r o ⟨q,h1,h2,⟨k,rfl,h3,h4⟩,rfl⟩
 have hk:=h3 hL
 simp only[↓zq,zs,ae,zt,aL,hb.has,ha.idx hk,bK]
 refine⟨⟨ha.1,by omega⟩,?_⟩
 have:eU b p 1 (kM L) (.v (.string (mk (L.getD k [])))) [.cells [b,.v (.int .i64 (q:Int))]]:=⟨q,h1,h2,⟨_,by simp[aa,hk],rfl⟩,rfl⟩
 repeat (first|exact this|refine⟨by omega,?_⟩)
def gb(n:Nat):AV->Prop:=fun r=>∃s:List UInt8,r=.v (.string (mk s))/\s.length<=n
theorem kM.cY{L:List (List UInt8)}{n:Nat}(h:∀s,s∈L->s.length<=n){r:AV}(hr:kM L r):gb n r:=by
 obtain⟨s,h1,h2⟩:=hr;exact⟨s,h2,h s h1⟩
end Go.Proofs.Trees
namespace Go.Proofs.Trees
open Go Go.VL Go.RowKit
def jz:AV->List Ob->Prop:=fun r o=>o=[]/\∃b:Bool,r=.v (.bool b)
theorem jz.ne:∃r o,jz r o:=⟨_,_,rfl,true,rfl⟩
theorem jz.mk(b:Bool):jz (.v (.bool b)) []:=⟨rfl,b,rfl⟩
theorem jz.call{n:Nat}{f:Nat}{xs:List AV}{k:AV->List Ob->Tree}{Q:Nat->List AV->List Ob->Prop}(h:an Tryz.prog f xs [] jz)(hk:∀b:Bool,eQ Tryz.prog n (k (.v (.bool b)) []) Q):eQ Tryz.prog n (.call f xs [] k) Q :=
 aO h jz.ne (by rintro r o ⟨rfl,b,rfl⟩;exact hk b)
theorem HC{e:E}(h:Wf e):∀(l:List Nm) (a:AV),cu a l->l.length+e.sz<100000->an Tryz.prog 139 [.agg [.v (.string (mk e.at)),e.sp],a] [] jz:=by
 induction h with
 |
  @atom s hs =>
  intro l a ha hl
  simp only[E.sz]at hl
  refine Cp _ _ _ ((bg _).mpr trivial) ha.1 ?_
  simp only[zI,dR,↓zq,zs,ae]
  refine ai (yO s _ ((bg (.atom s)).mpr trivial) hs) ?_
  simp only[↓zq,zs,ae,zt,ha.1]
  refine⟨fun h=>(by cases h),fun _=>⟨fun h=>(by cases h),fun _=>⟨fun h=>(by cases h),fun _=>⟨fun _=>.mk true,fun _=>?_⟩⟩⟩⟩
  refine ai (vQ l a ha s (by omega)) ?_
  simp only[↓zq,zs,ae]
  exact .mk _
 |
  @plus x y hx hy i1 i2 =>
  intro l a ha hl
  simp only[E.sz,E.iX]at hl
  refine Cp _ _ _ ((bg _).mpr trivial) ha.1 ?_
  have hP:=P3.of (.atom [43]) x y
  simp only[zI,bF,toNat_one,bo,↓zq,zs,ae,zt,hP.1,hP.2.1,hP.2.2.1,hP.2.2.2,aS]
  refine ai (nC [43] x y) ?_
  simp only[↓zq,zs,ae,zt,ha.1,aS]
  refine⟨fun _=>⟨by omega,by omega,jz.call (i1 l a ha (by omega)) fun b=>?_⟩,fun h=>absurd rfl h⟩
  simp only[↓zq,zs,ae]
  refine⟨fun _=>⟨by omega,by omega,jz.call (i2 l a ha (by omega)) fun b=>?_⟩,fun _=>.mk _⟩
  simp only[↓zq,zs,ae]
  exact .mk _
 |
  @times x y hx hy i1 i2 =>
  intro l a ha hl
  simp only[E.sz,E.iX]at hl
  refine Cp _ _ _ ((bg _).mpr trivial) ha.1 ?_
  have hP:=P3.of (.atom [42]) x y
  simp only[zI,bF,toNat_one,bo,↓zq,zs,ae,zt,hP.1,hP.2.1,hP.2.2.1,hP.2.2.2,aS]
  refine ai (nC [42] x y) ?_
  simp only[↓zq,zs,ae,zt,ha.1,aS]
  refine⟨fun h=>(by cases h),fun _=>⟨fun _=>⟨by omega,by omega,jz.call (i1 l a ha (by omega)) fun b=>?_⟩,fun h=>absurd rfl h⟩⟩
  simp only[↓zq,zs,ae]
  refine⟨fun _=>.mk _,fun _=>⟨by omega,by omega,jz.call (i2 l a ha (by omega)) fun b=>?_⟩⟩
  simp only[↓zq,zs,ae]
  exact .mk _
 |
  @rc n b hn hb i =>
  intro l a ha hl
  simp only[E.sz,E.iX]at hl
  refine Cp _ _ _ ((bg _).mpr trivial) ha.1 ?_
  have hP:=P3.of (.atom dA) (.atom n) b
  simp only[zI,bF,toNat_one,bo,↓zq,zs,ae,zt,hP.1,hP.2.1,hP.2.2.1,hP.2.2.2,aS]
  refine ai (nC dA (.atom n) b) ?_
  simp only[↓zq,zs,ae,zt,ha.1,aS]
  refine⟨fun h=>(by cases h),fun _=>⟨fun h=>(by cases h),fun _=>⟨fun _=>⟨by omega,by omega,by omega,by omega,?_⟩,fun h=>absurd rfl h⟩⟩⟩
  refine ai (zk l a ha n (by omega)) ?_
  simp only[↓zq,zs,ae,zt]
  refine jz.call (i (l++[n]) _ (.of _) (by simp;omega)) fun b=>?_
  simp only[↓zq,zs,ae]
  exact .mk _
def Nb:AV->List Ob->Prop:=fun r o=>o=[]/\∃(g:E) (b:Bool),r=.cA [.agg [.v (.string (mk g.at)),g.sp],.v (.bool b)]/\Wf g/\g.cX<=400
theorem Nu{n:Nm}{b:E}(hn:qh n)(hb:Wf b)(hl:(E.list [.atom dA,.atom n,b]).cX<=400):an Tryz.prog 141 [.agg [.v (.string (mk [])),(E.list [.atom dA,.atom n,b]).sp]] [] Nb:=by
 have hw:Wf (.list [.atom dA,.atom n,b]):=.rc hn hb
 refine PN _ _ ((bg _).mpr trivial) ?_
 have hP:=P3.of (.atom dA) (.atom n) b
 have hbl:b.cX<=400:=by simp only[E.cX,E.eN]at hl;omega
 simp only[IY,toNat_one,bo,↓zq,zs,ae,zt,hP.1,hP.2.1,hP.2.2.1,hP.2.2.2,aS]
 refine⟨by omega,by omega,by omega,by omega,?_⟩
 have hf:=LO hn hb hw (by omega) (by omega)
 obtain⟨g,g1,g2,g3⟩:=La hn hb hw hbl hl
 simp only[bF]at hf g3
 refine ai hf ?_
 simp only[↓zq,zs,ae,zt,aS]
 refine⟨fun h=>⟨rfl,_,false,rfl,hw,hl⟩,fun h=>?_⟩
 repeat refine⟨by omega,?_⟩
 refine ai g3 ?_
 simp only[↓zq,zs,ae,zt,aS]
 refine⟨rfl,g,true,rfl,g1,?_⟩
 rw[g1.cX [],g2]
 simpa using h
end Go.Proofs.Trees
namespace Go.Proofs.Trees
open Go Go.VL Go.RowKit
def jI(n:Nat):AV->Prop:=fun r=>∃e:E,r=.agg [.v (.string (mk e.at)),e.sp]/\e.ok/\(eS e).length<=n
theorem jI.u(n:Nat)(h:1<=n):jI n (.agg [.v (.string (mk [117])),.v (.slice none 0 0)]):=⟨.atom [117],rfl,by simp[E.ok],by simpa[eS]using h⟩
def jA(b:AV)(d:Int)(e:E)(B C:Nat):Prop:=∀p:Nat,p+C<qs->an Tryz.prog 105 [.ref 0 0,.agg [.v (.string (mk e.at)),e.sp],.v (.int .i64 d)] [.cells [b,.v (.int .i64 (p:Int))]] (eU b p C (jI B))
theorem jA.mono{b:AV}{d:Int}{e:E}{B C B' C':Nat}(h:jA b d e B C)(hB:B<=B')(hC:C<=C'):jA b d e B' C':=fun p hp=>an.mono (h p (by omega)) fun r o ⟨q,h1,h2,⟨g,h3,h4,h5⟩,h6⟩=>⟨q,h1,by omega,⟨g,h3,h4,by omega⟩,h6⟩
theorem nI(b:AV)(p C B:Nat)(h:1<=B):∃r o,eU b p C (jI B) r o:=eU.ne (jI.u B h)
theorem QR(w:Nm)(e:E)(h:w.length=1):(eS (.list [.atom w,e])).length=(eS e).length+4:=by
 simp[eS,eg];omega
theorem QJ(w:Nm)(e f:E)(h:w.length=1):(eS (.list [.atom w,e,f])).length=(eS e).length+(eS f).length+5:=by
 simp[eS,eg];omega
theorem Lj{b:AV}{p q q' C B:Nat}{w:Nm}{e:E}(hw:w.length=1)(h1:p<=q)(h2:q<=p+1)(h3:q<=q')(h4:q'<=q+C)(ho:e.ok)(hl:(eS e).length<=B) :
 eU b p (C+1) (jI (B+5)) (.agg [.v (.string (mk [])),(E.list [.atom w,e]).sp]) [.cells [b,.v (.int .i64 (q':Int))]] :=
 ⟨q',by omega,by omega,⟨.list [.atom w,e],rfl,⟨by intro h;rw[h]at hw;simp at hw,ho,trivial⟩,by rw[QR w e hw];omega⟩,rfl⟩
theorem Ic(b:AV)(l:List UInt8)(hb:sd b l)(d:Int){s:Nm}(hs:s≠[]):jA b d (.atom s) 5 1:=by
 intro p hp
 refine Dh _ _ _ _ _ ((bg (.atom s)).mpr trivial) hb.has ?_
 simp only[AK,dR,↓zq,zs,ae]
 refine ai (yO s _ ((bg (.atom s)).mpr trivial) hs) ?_
 simp only[↓zq,zs,ae,zt]
 refine⟨fun h=>(by cases h),fun _=>⟨fun h=>(by cases h),fun _=>⟨fun h=>(by cases h),fun _=>⟨fun _=>?_,fun _=>?_⟩⟩⟩⟩
 ·exact⟨p,aw _,by omega,jI.u 5 (by omega),rfl⟩
 ·refine aO (yl b l hb p 3 (by omega) (by decide)) (eU.ne ⟨0,rfl,fun h=>by omega,by omega⟩) ?_
  rintro r o ⟨q,h1,h2,⟨k,rfl,h3,h4⟩,rfl⟩
  have hk:k<3:=h3 (by omega)
  simp only[↓zq,zs,ae,aL,hb.has]
  refine ai (yG (k+1) k (by omega) (by omega)) ?_
  have hd:dd k=[ba (48+k)]:=eG (by omega)
  simp only[↓zq,zs,ae,zt,hd]
  refine⟨by simp,q,h1,h2,⟨.atom ([101]++[ba (48+k)]),rfl,by simp[E.ok],by simp[eS]⟩,rfl⟩
theorem IJ(b:AV)(l:List UInt8)(hb:sd b l)(d:Int)(hd:-100000<=d/\d<=100000){n:Nm}{e:E}(hn:qh n)(he:Wf e)(hl:(E.list [.atom dA,.atom n,e]).cX<=400)(B C:Nat)(ih:-12<=d->∀g,Wf g->g.cX<=400->jA b (d-1) g B C)(hB:1<=B):jA b d (.list [.atom dA,.atom n,e]) (B+5) (C+1):=by
 intro p hp
 refine Dh _ _ _ _ _ ((bg _).mpr trivial) hb.has ?_
 have ed:IntKind.wrap .i64 (d-1)=d-1:=VL.wrap64 _ (by omega) (by omega)
 simp only[AK,bF,↓zq,zs,ae,ed]
 refine ai (nC dA (.atom n) e) ?_
 simp only[↓zq,zs,ae,zt]
 have hu:=Nu hn he hl
 refine⟨fun h=>(by cases h),fun _=>⟨fun h=>(by cases h),fun _=>⟨fun _=>?_,fun h=>absurd rfl h⟩⟩⟩
 refine aO hu ⟨_,_,rfl,.atom [117],true,rfl,.atom (by simp),by simp[E.cX]⟩ ?_
 rintro r o ⟨rfl,g,c,rfl,g1,g2⟩
 have u:eU b p (C+1) (jI (B+5)) (.agg [.v (.string (mk [117])),.v (.slice none 0 0)]) [.cells [b,.v (.int .i64 (p:Int))]]:=⟨p,aw _,by omega,jI.u _ (by omega),rfl⟩
 simp only[↓zq,zs,ae,zt,aS]
 refine⟨fun _=>u,fun _=>⟨fun _=>u,fun hd2=>?_⟩⟩
 refine aO (ih (by omega) g g1 g2 p (by omega)) (nI b p C B hB) ?_
 rintro r o ⟨q,h1,h2,⟨f,rfl,h4,h5⟩,rfl⟩
 simp only[↓zq,zs,ae,zt,aL,hb.has,aS]
 repeat refine⟨by omega,?_⟩
 refine ai (DZ [102] f) ?_
 simp only[↓zq,zs,ae,zt,aL,hb.has,aS]
 have fin:=Lj (b:=b) (w:=[102]) rfl (aw p) (by omega) h1 h2 h4 h5
 first|exact fin|exact⟨by omega,fin⟩
theorem Ji(b:AV)(l:List UInt8)(hb:sd b l)(d:Int)(hd:-100000<=d/\d<=100000){x y:E}(hx:Wf x)(hy:Wf y)(B1 C1 B2 C2:Nat)(ix:jA b (d-1) x B1 C1)(iy:jA b (d-1) y B2 C2)(hB:1<=B1)(hB2:1<=B2):jA b d (.list [.atom [42],x,y]) (B1+B2+5) (C1+C2+1):=by
 intro p hp
 refine Dh _ _ _ _ _ ((bg _).mpr trivial) hb.has ?_
 have ed:IntKind.wrap .i64 (d-1)=d-1:=VL.wrap64 _ (by omega) (by omega)
 have hP:=P3.of (.atom [42]) x y
 simp only[AK,bF,toNat_one,bo,↓zq,zs,ae,zt,hP.1,hP.2.1,hP.2.2.1,hP.2.2.2,aS,ed]
 refine ai (nC [42] x y) ?_
 simp only[↓zq,zs,ae,zt]
 refine⟨fun h=>(by cases h),fun _=>⟨fun _=>?_,fun h=>absurd rfl h⟩⟩
 refine⟨by omega,by omega,aO (ix p (by omega)) (nI b p C1 B1 hB) ?_⟩
 rintro r o ⟨q,h1,h2,⟨f,rfl,h4,h5⟩,rfl⟩
 simp only[↓zq,zs,ae,zt,aL,hb.has,aS]
 repeat refine⟨by omega,?_⟩
 refine aO (iy q (by omega)) (nI b q C2 B2 hB2) ?_
 rintro r o ⟨q',g1,g2,⟨g,rfl,g4,g5⟩,rfl⟩
 simp only[↓zq,zs,ae,zt,aL,hb.has,aS]
 repeat refine⟨by omega,?_⟩
 refine ai (zv [112] f g) ?_
 simp only[↓zq,zs,ae,zt,aL,hb.has,aS]
 have fin:eU b p (C1+C2+1) (jI (B1+B2+5)) (.agg [.v (.string (mk [])),(E.list [.atom [112],f,g]).sp]) [.cells [b,.v (.int .i64 (q':Int))]]:=⟨q',by omega,by omega,⟨.list [.atom [112],f,g],rfl,⟨by simp[E.ok],h4,g4,trivial⟩,by rw[QJ [112] f g rfl];omega⟩,rfl⟩
 first|exact fin|exact⟨by omega,fin⟩
theorem Md(b:AV)(l:List UInt8)(hb:sd b l)(d:Int)(hd:-100000<=d/\d<=100000){x y:E}(hx:Wf x)(hy:Wf y)(hl:(E.list [.atom [43],x,y]).cX<=400)(B C:Nat)(ix:jA b (d-1) x B C)(iy:jA b (d-1) y B C)(hB:1<=B):jA b d (.list [.atom [43],x,y]) (B+5) (C+1):=by
 intro p hp
 refine Dh _ _ _ _ _ ((bg _).mpr trivial) hb.has ?_
 have ed:IntKind.wrap .i64 (d-1)=d-1:=VL.wrap64 _ (by omega) (by omega)
 have hP:=P3.of (.atom [43]) x y
 simp only[E.cX,E.eN]at hl
 have s1:=hx.sz
 have s2:=hy.sz
 simp only[AK,bF,toNat_one,bo,↓zq,zs,ae,zt,hP.1,hP.2.1,hP.2.2.1,hP.2.2.2,aS,ed]
 refine ai (nC [43] x y) ?_
 simp only[↓zq,zs,ae,zt]
 refine⟨fun _=>?_,fun h=>absurd rfl h⟩
 refine aO (yl b l hb p 2 (by omega) (by decide)) (eU.ne ⟨0,rfl,fun h=>by omega,by omega⟩) ?_
 rintro r o ⟨q,h1,h2,⟨k,rfl,_,_⟩,rfl⟩
 simp only[↓zq,zs,ae,zt,aL,hb.has,aS]
 have ex:=HC hx [] (.sl []) (.of []) (by simp;omega)
 have ey:=HC hy [] (.sl []) (.of []) (by simp;omega)
 have ax:=BI x hx.ok (by omega)
 have ay:=BI y hy.ok (by omega)
 rw[dx]at ax ay
 have lx:=ix q (by omega)
 have ly:=iy q (by omega)
 have t:=nI b q C B hB
 have leaf:∀(w:Nm) (q':Nat) (f:E),w.length=1->q<=q'->q'<=q+C->f.ok->(eS f).length<=B->eU b p (C+1) (jI (B+5)) (.agg [.v (.string (mk [])),(E.list [.atom w,f]).sp]) [.cells [b,.v (.int .i64 (q':Int))]]:=fun w q' f hw g1 g2 h4 h5=>Lj hw h1 h2 g1 g2 h4 h5
 repeat' first
  |intro _
  |refine⟨by omega,?_⟩
  |(
   with_reducible refine aO lx t ?_
   rintro r o ⟨q',g1,g2,⟨f,rfl,h4,h5⟩,rfl⟩
   simp only[↓zq,zs,ae,zt,aL,hb.has,aS]
   repeat refine⟨by omega,?_⟩
   refine ai (DZ _ f) ?_
   simp only[↓zq,zs,ae,zt,aL,hb.has,aS]
   have fin:=leaf [108] q' f rfl g1 g2 h4 h5
   first|exact fin|exact⟨by omega,fin⟩)
  |(
   with_reducible refine aO ly t ?_
   rintro r o ⟨q',g1,g2,⟨f,rfl,h4,h5⟩,rfl⟩
   simp only[↓zq,zs,ae,zt,aL,hb.has,aS]
   repeat refine⟨by omega,?_⟩
   refine ai (DZ _ f) ?_
   simp only[↓zq,zs,ae,zt,aL,hb.has,aS]
   have fin:=leaf [114] q' f rfl g1 g2 h4 h5
   first|exact fin|exact⟨by omega,fin⟩)
  |(with_reducible refine jz.call ex fun _=>?_;simp only[↓zq,zs,ae,zt,aS])
  |(with_reducible refine jz.call ey fun _=>?_;simp only[↓zq,zs,ae,zt,aS])
  |(with_reducible refine ai ax ?_;simp only[↓zq,zs,ae,zt,aS])
  |(with_reducible refine ai ay ?_;simp only[↓zq,zs,ae,zt,aS])
  |with_reducible refine aH ?_ ?_
  |(exfalso;omega)
end Go.Proofs.Trees
namespace Go.Proofs.Trees
open Go Go.VL Go.RowKit
def mQ:Nat->Nat
 |0=>2
 |d+1=>2*mQ d+15
def mR:Nat->Nat
 |0=>3
 |d+1=>2*mR d+8
theorem PE(d:Nat):2<=mQ d:=by cases d<;>simp only[mQ]<;>omega
theorem N7(d:Nat):3<=mR d:=by cases d<;>simp only[mR]<;>omega
theorem EA:∀d:Nat,d<=10->mQ d<=100000000
 |0,_=>by decide
 |1,_=>by decide
 |2,_=>by decide
 |3,_=>by decide
 |4,_=>by decide
 |5,_=>by decide
 |6,_=>by decide
 |7,_=>by decide
 |8,_=>by decide
 |9,_=>by decide
 |10,_=>by decide
 |d+11,h=>by omega
theorem By(b:AV)(l:List UInt8)(hb:sd b l)(p:Nat)(hp:p<2*qs):an Tryz.prog 80 [.ref 0 0] [.cells [b,.v (.int .i64 (p:Int))]] (eU b p 1 (gb 60)):=by
 refine PQ _ _ hb.has ?_
 unfold JD
 refine aO (CG b l hb p hp _ _ (.of [_,_,_,_,_,_,_]) (by simp) (by simp)) (eU.ne ⟨_,aj,rfl⟩) ?_
 rintro r o ⟨q,h1,h2,hr,rfl⟩
 obtain⟨s,rfl,hs⟩:=kM.cY (n:=60) (by decide) hr
 simp only[↓zq,zs,ae,aL,hb.has]
 exact⟨q,h1,h2,⟨s,rfl,hs⟩,rfl⟩
theorem D6(b:AV)(l:List UInt8)(hb:sd b l):∀(d:Nat),d<=10->∀(p:Nat) (ls:List (List UInt8)) (a:AV),cu a ls->(∀s,s∈ls->s.length<=2)->ls.length+d<=100->p+mR d<2*qs ->
 an Tryz.prog 136 [.ref 0 0,a,.v (.int .i64 (d:Int))] [.cells [b,.v (.int .i64 (p:Int))]] (eU b p (mR d) (gb (mQ d))):=by
 intro d
 induction d with
 |
  zero =>
  intro hd p ls a ha hls hll hp
  simp only[mR]at hp
  refine Ml _ _ _ _ ha.1 hb.has ?_
  simp only[El,↓zq,zs,ae,ha.len]
  refine⟨fun _=>⟨ha.1,fun hpos=>?_,fun _=>?_⟩,fun h=>by omega⟩
  ·refine aO (yl b l hb p 3 (by omega) (by decide)) (eU.ne ⟨0,rfl,fun h=>by omega,by omega⟩) ?_
   rintro r o ⟨q1,h1,h2,⟨k,rfl,h3,h4⟩,rfl⟩
   simp only[↓zq,zs,ae,aL,hb.has]
   refine⟨fun _=>⟨ha.1,?_⟩,fun _=>?_⟩
   ·refine aO (yl b l hb q1 ls.length (by omega) (by simp[qs];omega)) (eU.ne ⟨0,rfl,fun h=>by omega,by omega⟩) ?_
    rintro r o ⟨q2,g1,g2,⟨k2,rfl,g3,g4⟩,rfl⟩
    have hk:=g3 (by omega)
    simp only[↓zq,zs,ae,aL,hb.has,bK,ha.idx hk]
    have:eU b p (mR 0) (gb (mQ 0)) (.v (.string (mk (ls.getD k2 [])))) [.cells [b,.v (.int .i64 (q2:Int))]]:=⟨q2,by omega,by simp only[mR];omega,⟨_,rfl,by
     have:=hls (ls.getD k2 []) (by simp[aa,hk]);simp only[mQ];omega⟩,rfl⟩
    refine⟨⟨ha.1,by omega⟩,?_⟩
    repeat (first|exact this|refine⟨by omega,?_⟩)
   ·refine aO (CG b l hb q1 (by omega) _ _ (.of [_,_,_,_,_,_]) (by simp) (by simp)) (eU.ne ⟨_,aj,rfl⟩) ?_
    rintro r o ⟨q2,g1,g2,hr,rfl⟩
    obtain⟨s,rfl,hs⟩:=kM.cY (n:=2) (by decide) hr
    simp only[↓zq,zs,ae,aL,hb.has]
    exact⟨q2,by omega,by simp only[mR];omega,⟨s,rfl,by simp only[mQ];omega⟩,rfl⟩
  ·refine aO (CG b l hb p (by omega) _ _ (.of [_,_,_,_,_,_]) (by simp) (by simp)) (eU.ne ⟨_,aj,rfl⟩) ?_
   rintro r o ⟨q2,g1,g2,hr,rfl⟩
   obtain⟨s,rfl,hs⟩:=kM.cY (n:=2) (by decide) hr
   simp only[↓zq,zs,ae,aL,hb.has]
   exact⟨q2,by omega,by simp only[mR];omega,⟨s,rfl,by simp only[mQ];omega⟩,rfl⟩
 |
  succ d ih =>
  intro hd p ls a ha hls hll hp
  simp only[mR]at hp
  have hL:=PE d
  have hC:=N7 d
  have ih:=ih (by omega)
  have hL8:=EA d (by omega)
  have ed:IntKind.wrap .i64 (((d+1:Nat):Int)-1)=(d:Int):=by rw[VL.wrap64]<;>omega
  refine Ml _ _ _ _ ha.1 hb.has ?_
  simp only[El,↓zq,zs,ae,ha.len,ed]
  refine⟨fun h=>by omega,fun _=>?_⟩
  refine aO (yl b l hb p 4 (by omega) (by decide)) (eU.ne ⟨0,rfl,fun h=>by omega,by omega⟩) ?_
  rintro r o ⟨q0,a1,a2,⟨k0,rfl,_,_⟩,rfl⟩
  simp only[↓zq,zs,ae,aL,hb.has]
  refine⟨fun _=>⟨ha.1,fun hpos=>?_,fun _=>?_⟩,fun _=>?_⟩
  ·refine aO (yl b l hb q0 3 (by omega) (by decide)) (eU.ne ⟨0,rfl,fun h=>by omega,by omega⟩) ?_
   rintro r o ⟨q1,h1,h2,⟨k,rfl,h3,h4⟩,rfl⟩
   simp only[↓zq,zs,ae,aL,hb.has]
   refine⟨fun _=>⟨ha.1,?_⟩,fun _=>?_⟩
   ·refine aO (yl b l hb q1 ls.length (by omega) (by simp[qs];omega)) (eU.ne ⟨0,rfl,fun h=>by omega,by omega⟩) ?_
    rintro r o ⟨q2,g1,g2,⟨k2,rfl,g3,g4⟩,rfl⟩
    have hk:=g3 (by omega)
    simp only[↓zq,zs,ae,aL,hb.has,bK,ha.idx hk]
    have:eU b p (mR (d+1)) (gb (mQ (d+1))) (.v (.string (mk (ls.getD k2 [])))) [.cells [b,.v (.int .i64 (q2:Int))]]:=⟨q2,by omega,by simp only[mR];omega,⟨_,rfl,by
     have:=hls (ls.getD k2 []) (by simp[aa,hk]);simp only[mQ];omega⟩,rfl⟩
    refine⟨⟨ha.1,by omega⟩,?_⟩
    repeat (first|exact this|refine⟨by omega,?_⟩)
   ·refine aO (CG b l hb q1 (by omega) _ _ (.of [_,_,_,_,_,_]) (by simp) (by simp)) (eU.ne ⟨_,aj,rfl⟩) ?_
    rintro r o ⟨q2,g1,g2,hr,rfl⟩
    obtain⟨s,rfl,hs⟩:=kM.cY (n:=2) (by decide) hr
    simp only[↓zq,zs,ae,aL,hb.has]
    exact⟨q2,by omega,by simp only[mR];omega,⟨s,rfl,by simp only[mQ];omega⟩,rfl⟩
  ·refine aO (CG b l hb q0 (by omega) _ _ (.of [_,_,_,_,_,_]) (by simp) (by simp)) (eU.ne ⟨_,aj,rfl⟩) ?_
   rintro r o ⟨q2,g1,g2,hr,rfl⟩
   obtain⟨s,rfl,hs⟩:=kM.cY (n:=2) (by decide) hr
   simp only[↓zq,zs,ae,aL,hb.has]
   exact⟨q2,by omega,by simp only[mR];omega,⟨s,rfl,by simp only[mQ];omega⟩,rfl⟩
  ·refine aO (yl b l hb q0 5 (by omega) (by decide)) (eU.ne ⟨0,rfl,fun h=>by omega,by omega⟩) ?_
   rintro r o ⟨q1,b1,b2,⟨k1,rfl,c3,_⟩,rfl⟩
   have hk1:=c3 (by omega)
   obtain rfl|rfl|rfl|rfl|rfl:k1=0\/k1=1\/k1=2\/k1=3\/k1=4:=by omega
   ·simp only[↓zq,zs,ae,aL,hb.has]
    refine⟨fun _=>?_,fun h=>absurd rfl h⟩
    refine aO (ih q1 ls a ha hls (by omega) (by omega)) (eU.ne ⟨[],rfl,by simp⟩) ?_
    rintro r o ⟨q2,d1,d2,⟨s1,rfl,d3⟩,rfl⟩
    simp only[↓zq,zs,ae,zt,aL,hb.has,ap]
    repeat refine⟨by first|omega|(simp only[ap,au,aG];omega),?_⟩
    refine aO (ih q2 ls a ha hls (by omega) (by omega)) (eU.ne ⟨[],rfl,by simp⟩) ?_
    rintro r o ⟨q3,e1,e2,⟨s2,rfl,e3⟩,rfl⟩
    simp only[↓zq,zs,ae,zt,aL,hb.has,ap]
    have fin:∀s:List UInt8,s.length<=mQ (d+1)->eU b p (mR (d+1)) (gb (mQ (d+1))) (.v (.string (mk s))) [.cells [b,.v (.int .i64 (q3:Int))]]:=fun s hs=>⟨q3,by omega,by simp only[mR];omega,⟨s,rfl,hs⟩,rfl⟩
    repeat (first|exact fin _ (by simp only[ap,au,aG,mQ];omega)|refine⟨by first|omega|(simp only[ap,au,aG];omega),?_⟩)
   ·simp only[↓zq,zs,ae,aL,hb.has]
    refine⟨fun h=>by omega,fun _=>⟨fun _=>?_,fun h=>absurd rfl h⟩⟩
    refine aO (ih q1 ls a ha hls (by omega) (by omega)) (eU.ne ⟨[],rfl,by simp⟩) ?_
    rintro r o ⟨q2,d1,d2,⟨s1,rfl,d3⟩,rfl⟩
    simp only[↓zq,zs,ae,zt,aL,hb.has,ap]
    repeat refine⟨by first|omega|(simp only[ap,au,aG];omega),?_⟩
    refine aO (ih q2 ls a ha hls (by omega) (by omega)) (eU.ne ⟨[],rfl,by simp⟩) ?_
    rintro r o ⟨q3,e1,e2,⟨s2,rfl,e3⟩,rfl⟩
    simp only[↓zq,zs,ae,zt,aL,hb.has,ap]
    have fin:∀s:List UInt8,s.length<=mQ (d+1)->eU b p (mR (d+1)) (gb (mQ (d+1))) (.v (.string (mk s))) [.cells [b,.v (.int .i64 (q3:Int))]]:=fun s hs=>⟨q3,by omega,by simp only[mR];omega,⟨s,rfl,hs⟩,rfl⟩
    repeat (first|exact fin _ (by simp only[ap,au,aG,mQ];omega)|refine⟨by first|omega|(simp only[ap,au,aG];omega),?_⟩)
   ·simp only[↓zq,zs,ae,aL,hb.has]
    refine⟨fun h=>by omega,fun _=>⟨fun h=>by omega,fun _=>⟨fun _=>?_,fun h=>absurd rfl h⟩⟩⟩
    refine aO (ih q1 ls a ha hls (by omega) (by omega)) (eU.ne ⟨[],rfl,by simp⟩) ?_
    rintro r o ⟨q2,d1,d2,⟨s1,rfl,d3⟩,rfl⟩
    simp only[↓zq,zs,ae,zt,aL,hb.has,ap]
    repeat refine⟨by first|omega|(simp only[ap,au,aG];omega),?_⟩
    refine aO (ih q2 ls a ha hls (by omega) (by omega)) (eU.ne ⟨[],rfl,by simp⟩) ?_
    rintro r o ⟨q3,e1,e2,⟨s2,rfl,e3⟩,rfl⟩
    simp only[↓zq,zs,ae,zt,aL,hb.has,ap]
    have fin:∀s:List UInt8,s.length<=mQ (d+1)->eU b p (mR (d+1)) (gb (mQ (d+1))) (.v (.string (mk s))) [.cells [b,.v (.int .i64 (q3:Int))]]:=fun s hs=>⟨q3,by omega,by simp only[mR];omega,⟨s,rfl,hs⟩,rfl⟩
    repeat (first|exact fin _ (by simp only[ap,au,aG,mQ];omega)|refine⟨by first|omega|(simp only[ap,au,aG];omega),?_⟩)
   ·simp only[↓zq,zs,ae,aL,hb.has]
    refine⟨fun h=>by omega,fun _=>⟨fun h=>by omega,fun _=>⟨fun h=>by omega,fun _=>⟨fun _=>?_,fun h=>absurd rfl h⟩⟩⟩⟩
    refine aO (ih q1 ls a ha hls (by omega) (by omega)) (eU.ne ⟨[],rfl,by simp⟩) ?_
    rintro r o ⟨q2,d1,d2,⟨s1,rfl,d3⟩,rfl⟩
    simp only[↓zq,zs,ae,zt,aL,hb.has,ap]
    repeat refine⟨by first|omega|(simp only[ap,au,aG];omega),?_⟩
    refine aO (ih q2 ls a ha hls (by omega) (by omega)) (eU.ne ⟨[],rfl,by simp⟩) ?_
    rintro r o ⟨q3,e1,e2,⟨s2,rfl,e3⟩,rfl⟩
    simp only[↓zq,zs,ae,zt,aL,hb.has,ap]
    have fin:∀s:List UInt8,s.length<=mQ (d+1)->eU b p (mR (d+1)) (gb (mQ (d+1))) (.v (.string (mk s))) [.cells [b,.v (.int .i64 (q3:Int))]]:=fun s hs=>⟨q3,by omega,by simp only[mR];omega,⟨s,rfl,hs⟩,rfl⟩
    repeat (first|exact fin _ (by simp only[ap,au,aG,mQ];omega)|refine⟨by first|omega|(simp only[ap,au,aG];omega),?_⟩)
   ·simp only[↓zq,zs,ae,aL,hb.has]
    refine⟨fun h=>by omega,fun _=>⟨fun h=>by omega,fun _=>⟨fun h=>by omega,fun _=>⟨fun h=>by omega,fun _=>?_⟩⟩⟩⟩
    refine aO (CG b l hb q1 (by omega) _ _ (.of [_,_,_]) (by simp) (by simp)) (eU.ne ⟨_,aj,rfl⟩) ?_
    rintro r o ⟨q2,g1,g2,hr,rfl⟩
    obtain⟨s,rfl,hs⟩:=kM.cY (n:=2) (by decide) hr
    simp only[↓zq,zs,ae,zt,aL,hb.has]
    repeat refine⟨by first|omega|(simp only[ap,au,aG];omega),?_⟩
    refine ai (zk ls a ha s (by omega)) ?_
    simp only[↓zq,zs,ae]
    refine aO (ih q2 (ls++[s]) _ (.of _) (fun w hw=>by
     rcases aM.1 hw with hw|hw
     ·exact hls w hw
     ·simp at hw;rw[hw];exact hs) (by simp;omega) (by omega)) (eU.ne ⟨[],rfl,by simp⟩) ?_
    rintro r o ⟨q3,e1,e2,⟨s2,rfl,e3⟩,rfl⟩
    simp only[↓zq,zs,ae,zt,aL,hb.has,ap]
    have fin:∀s:List UInt8,s.length<=mQ (d+1)->eU b p (mR (d+1)) (gb (mQ (d+1))) (.v (.string (mk s))) [.cells [b,.v (.int .i64 (q3:Int))]]:=fun s hs=>⟨q3,by omega,by simp only[mR];omega,⟨s,rfl,hs⟩,rfl⟩
    repeat (first|exact fin _ (by simp only[ap,au,aG,mQ];omega)|refine⟨by first|omega|(simp only[ap,au,aG];omega),?_⟩)
end Go.Proofs.Trees
namespace Go.Proofs.Trees
open Go Go.VL Go.RowKit
theorem eU.mono{b:AV}{p c c':Nat}{X Y:AV->Prop}(hc:c<=c')(h:∀r,X r->Y r){r:AV}{o:List Ob}(hr:eU b p c X r o):eU b p c' Y r o:=by
 obtain⟨q,h1,h2,h3,h4⟩:=hr;exact⟨q,h1,by omega,h r h3,h4⟩
theorem gb.le{n m:Nat}(h:n<=m){r:AV}(hr:gb n r):gb m r:=by obtain⟨s,h1,h2⟩:=hr;exact⟨s,h1,by omega⟩
theorem NU(b:AV)(l:List UInt8)(hb:sd b l)(p:Nat)(hp:p<qs):an Tryz.prog 135 [.ref 0 0] [.cells [b,.v (.int .i64 (p:Int))]] (eU b p 100 (gb 200)):=by
 refine Nl _ _ hb.has ?_
 unfold Jc
 have hfar:qs=1000000000000000:=rfl
 refine aO (yl b l hb p 12 (by omega) (by decide)) (eU.ne ⟨0,rfl,fun h=>by omega,by omega⟩) ?_
 rintro r o ⟨q,h1,h2,⟨k,rfl,_,_⟩,rfl⟩
 have kn:∀(c m:Nat) (r:AV) (o:List Ob),c<=90->m<=200->eU b q c (gb m) r o->∃q':Nat,∃s:List UInt8,r=.v (.string (mk s))/\o=[.cells [b,.v (.int .i64 (q':Int))]]/\eU b p 100 (gb 200) (.v (.string (mk s))) [.cells [b,.v (.int .i64 (q':Int))]]:=by
  rintro c m r o hc hm ⟨q',g1,g2,⟨s,rfl,hs⟩,rfl⟩
  exact⟨q',s,rfl,rfl,q',by omega,by omega,⟨s,rfl,by omega⟩,rfl⟩
 simp only[↓zq,zs,ae,aL,hb.has]
 refine⟨fun _=>?_,fun _=>⟨fun _=>?_,fun _=>⟨fun _=>?_,fun _=>⟨fun _=>?_,fun _=>⟨fun _=>?_,fun _=>?_⟩⟩⟩⟩⟩
 ·refine aO (CG b l hb q (by omega) _ _ (.of [_,_,_,_,_,_,_,_,_]) (by simp) (by simp)) (eU.ne ⟨_,aj,rfl⟩) ?_
  intro r o hr
  obtain⟨q',s,rfl,rfl,hd⟩:=kn 1 20 r o (by omega) (by omega) (hr.mono (aw _) fun r h=>kM.cY (n:=20) (by decide) h)
  simp only[↓zq,zs,ae,aL,hb.has];exact hd
 ·refine aO (By b l hb q (by omega)) (eU.ne ⟨[],rfl,by simp⟩) ?_
  intro r o hr
  obtain⟨q',s,rfl,rfl,hd⟩:=kn _ _ r o (by omega) (by omega) hr
  simp only[↓zq,zs,ae,aL,hb.has];exact hd
 ·refine aO (By b l hb q (by omega)) (eU.ne ⟨[],rfl,by simp⟩) ?_
  intro r o hr
  obtain⟨q',s,rfl,rfl,hd⟩:=kn _ _ r o (by omega) (by omega) hr
  simp only[↓zq,zs,ae,aL,hb.has];exact hd
 ·refine aO (By b l hb q (by omega)) (eU.ne ⟨[],rfl,by simp⟩) ?_
  intro r o hr
  obtain⟨q',s,rfl,rfl,hd⟩:=kn _ _ r o (by omega) (by omega) hr
  simp only[↓zq,zs,ae,aL,hb.has];exact hd
 ·refine aO (D6 b l hb 2 (by omega) q [[116],[116,49]] _ (cu.of [[116],[116,49]]) (by decide) (by simp) (by simp[mR];omega)) (eU.ne ⟨[],rfl,by simp⟩) ?_
  intro r o hr
  obtain⟨q',s,rfl,rfl,hd⟩:=kn _ _ r o (by simp[mR]) (by simp[mQ]) hr
  simp only[↓zq,zs,ae,aL,hb.has];exact hd
 ·refine aO (D6 b l hb 3 (by omega) q [] _ (cu.of []) (by simp) (by simp) (by simp[mR];omega)) (eU.ne ⟨[],rfl,by simp⟩) ?_
  intro r o hr
  obtain⟨q',s,rfl,rfl,hd⟩:=kn _ _ r o (by simp[mR]) (by simp[mQ]) hr
  simp only[↓zq,zs,ae,aL,hb.has];exact hd
def wZ(a:AV):Prop:=LK.sl.has a/\∃l:List UInt8,a.aN=pu l
def MG(r:AV)(o:List Ob):Prop:=∃(b:AV) (l:List UInt8),sd b l/\r=.ref 0 0/\o=[.cells [b,.v (.int .i64 0)]]
theorem MG.ne:∃r o,MG r o:=⟨_,_,.v (.slice none 0 0),[],⟨(bi).mpr trivial,rfl,by simp⟩,rfl,rfl⟩
theorem P1(a:AV)(ha:wZ a):an Tryz.prog 62 [a] [] MG:=by
 obtain⟨hs,l,hl⟩:=ha
 have hln:a.aN.length=l.length:=by rw[hl];simp[pu]
 refine MW _ hs ?_
 simp only[Ia,↓zq,zs,ae,hln]
 refine⟨hs,fun h=>⟨⟨hs,by omega⟩,?_⟩,fun h=>?_⟩
 ·refine⟨_,l.take 2000,⟨(cg _).mpr trivial,?_,?_⟩,rfl,rfl⟩
  ·rw[gf,hl];simp[pu]
  ·simp;omega
 ·exact⟨a,l,⟨hs,hl,by omega⟩,rfl,rfl⟩
end Go.Proofs.Trees
namespace Go.Proofs.Trees
open Go Go.VL Go.RowKit
theorem Bz(b:AV)(l:List UInt8)(hb:sd b l){e:E}(h:Wf e):∀d:Int,d<=-13->-50000+(e.sz:Int)<=d->e.cX<=400->jA b d e (5*e.sz) e.sz:=by
 induction h with
 |
  @atom s hs =>
  intro d h1 h2 h3
  exact(Ic b l hb d hs).mono (by simp[E.sz]) (by simp[E.sz])
 |
  @plus x y hx hy i1 i2 =>
  intro d h1 h2 h3
  have h4:=h3
  simp only[E.sz,E.iX,E.cX,E.eN]at h2 h4 |-
  exact(Md b l hb d (by omega) hx hy h3 (5*(x.sz+y.sz)+1) (x.sz+y.sz) ((i1 (d-1) (by omega) (by omega) (by omega)).mono (by omega) (by omega)) ((i2 (d-1) (by omega) (by omega) (by omega)).mono (by omega) (by omega)) (by omega)).mono (by omega) (by omega)
 |
  @times x y hx hy i1 i2 =>
  intro d h1 h2 h3
  have h4:=h3
  simp only[E.sz,E.iX,E.cX,E.eN]at h2 h4 |-
  exact(Ji b l hb d (by omega) hx hy (5*x.sz+1) x.sz (5*y.sz+1) y.sz ((i1 (d-1) (by omega) (by omega) (by omega)).mono (by omega) (by omega)) ((i2 (d-1) (by omega) (by omega) (by omega)).mono (by omega) (by omega)) (by omega) (by omega)).mono (by omega) (by omega)
 |
  @rc n x hn hx i =>
  intro d h1 h2 h3
  simp only[E.sz,E.iX]at h2 |-
  exact(IJ b l hb d (by omega) hn hx h3 1 0 (fun h=>absurd h (by omega)) (by omega)).mono (by omega) (by omega)
def oK:Nat->Nat
 |0=>6100
 |n+1=>2*oK n+5
theorem G2:∀n,6100<=oK n
 |0=>aw _
 |n+1=>by have:=G2 n;simp only[oK];omega
theorem wa:∀n k:Nat,oK (n+k)+5=2 ^ k*(oK n+5)
 |n,0=>by simp
 |
  n,k+1=>by
  have:=wa n k
  rw[show n+(k+1)=n+k+1 from rfl,oK,Nat.pow_succ,Nat.mul_comm (2 ^ k) 2,Nat.mul_assoc,<-this];omega
theorem Ak{n m:Nat}(h:n<=m):oK n<=oK m:=by
 obtain⟨k,rfl⟩:=Nat.exists_eq_add_of_le h
 have:=wa n k
 have h2:1*(oK n+5)<=2 ^ k*(oK n+5):=aW _ Nat.one_le_two_pow
 omega
theorem ID:oK 22<=30000000000:=by
 have:=wa 0 22
 simp only[a6]at this
 have h0:oK 0=6100:=rfl
 rw[h0]at this
 omega
theorem xR(b:AV)(l:List UInt8)(hb:sd b l):∀n:Nat,n<=40->∀e,Wf e->e.cX<=400->jA b ((n:Int)-13) e (oK n) (oK n)
 |
  0,hn,e,h,hl=>by
  have:=h.sz
  exact(Bz b l hb h _ (by simp) (by simp;omega) hl).mono (by simp only[oK];omega) (by simp only[oK];omega)
 |
  n+1,hn,e,h,hl=>by
  have hb1:=G2 n
  have ih:∀g,Wf g->g.cX<=400->jA b (((n+1:Nat):Int)-13-1) g (oK n) (oK n):=by
   rw[show ((n+1:Nat):Int)-13-1=(n:Int)-13 by omega];exact xR b l hb n (by omega)
  cases h with
  |@atom s hs=>exact(Ic b l hb _ hs).mono (by simp only[oK];omega) (by simp only[oK];omega)
  |
   @plus x y hx hy =>
   have h4:=hl
   simp only[E.cX,E.eN]at h4
   exact(Md b l hb _ (by omega) hx hy hl _ _ (ih x hx (by omega)) (ih y hy (by omega)) (by omega)).mono (by simp only[oK];omega) (by simp only[oK];omega)
  |
   @times x y hx hy =>
   simp only[E.cX,E.eN]at hl
   exact(Ji b l hb _ (by omega) hx hy _ _ _ _ (ih x hx (by omega)) (ih y hy (by omega)) (by omega) (by omega)).mono (by simp only[oK];omega) (by simp only[oK];omega)
  |@rc m x hm hx=>exact(IJ b l hb _ (by omega) hm hx hl _ _ (fun _=>ih) (by omega)).mono (by simp only[oK];omega) (by simp only[oK];omega)
theorem I2(b:AV)(l:List UInt8)(hb:sd b l)(p:Nat)(hp:p<100000000000000)(s:Nm):an Tryz.prog 83 [.ref 0 0,.v (.string (mk s))] [.cells [b,.v (.int .i64 (p:Int))]] (eU b p 40000000000 (gb 40000000000)):=by
 refine Nr _ _ _ hb.has ?_
 have hfar:qs=1000000000000000:=rfl
 have oneL:∀(q:Nat) (r:AV) (o:List Ob),p<=q->q<=p+1->eU b q 1 (kM [[],[117],[101,48],[101,48,48],[101,49,48,48],[40,108,32,117,41],[40,112,32,117,41],[40,102,32,40,108,32,117,41,41],[40,120,32,117,41],[40,108,32,32,117,41]]) r o->∃q':Nat,∃t:List UInt8,r=.v (.string (mk t))/\o=[.cells [b,.v (.int .i64 (q':Int))]]/\eU b p 40000000000 (gb 40000000000) (.v (.string (mk t))) [.cells [b,.v (.int .i64 (q':Int))]]:=by
  rintro q r o h1 h2 ⟨q',g1,g2,hr,rfl⟩
  obtain⟨t,rfl,ht⟩:=kM.cY (n:=20) (by decide) hr
  exact⟨q',t,rfl,rfl,q',by omega,by omega,⟨t,rfl,by omega⟩,rfl⟩
 unfold Kx
 refine aO (D7 s) (jQ.ne _ _ (fun h=>h)) ?_
 rintro r o ⟨c,d,hd,rfl,hh⟩
 have hhas:bw [.str,.sl] [.v (.string (mk c)),d] 0:=by simp[bw,ej,hd]
 simp only[↓zq,zs,ae,zt]
 refine⟨hhas,fun h=>?_,fun h=>?_⟩
 ·refine aO (CG b l hb p (by omega) _ _ (.of [_,_,_,_,_,_,_,_,_,_]) (by simp) (by simp)) (eU.ne ⟨_,aj,rfl⟩) ?_
  intro r o hr
  obtain⟨q',t,rfl,rfl,hd⟩:=oneL p r o (aw _) (by omega) hr
  simp only[↓zq,zs,ae,aL,hb.has];exact hd
 ·obtain⟨e,he,hce⟩:=hh (by simpa using h)
  obtain⟨t,h1,hA,h3,h4,h5,_⟩:=gM he
  rw[dx]at hce
  simp only[AV.agg.injEq,List.cons.injEq,AV.v.injEq,Value.string.injEq,and_true]at hce
  obtain⟨hc1,rfl⟩:=hce
  have hc2:=wI hc1
  subst hc2
  obtain⟨hw,hwt⟩:=jS e [] t hA.ok (by simp) hA.ty
  have hats:e.cX<=400:=by rw[hw.cX [],hwt];exact h5
  have hsz:=hw.sz
  refine aO (yl b l hb p 16 (by omega) (by decide)) (eU.ne ⟨0,rfl,fun h=>by omega,by omega⟩) ?_
  rintro r o ⟨q,h1,h2,⟨k,rfl,_,_⟩,rfl⟩
  simp only[↓zq,zs,ae,aL,hb.has]
  refine⟨fun _=>?_,fun _=>?_⟩
  ·refine aO (CG b l hb q (by omega) _ _ (.of [_,_,_,_,_,_,_,_,_,_]) (by simp) (by simp)) (eU.ne ⟨_,aj,rfl⟩) ?_
   intro r o hr
   obtain⟨q',t,rfl,rfl,hd⟩:=oneL q r o h1 h2 hr
   simp only[↓zq,zs,ae,aL,hb.has];exact hd
  ·obtain⟨w1,w2,_⟩:=wv (os:=[]) hw
   have hap:=CT hw (.v (.slice none 0 0)) [] ⟨(bi).mpr trivial,rfl⟩ (by omega) (by simp) (by simp)
   refine ai hap ?_
   simp only[↓zq,zs,ae,zt,aS]
   repeat refine⟨by omega,?_⟩
   have hats2:(yI e []).cX<=400:=by rw[w1.cX [],w2,<-hw.cX []];exact hats
   refine aO (yl b l hb q 5 (by omega) (by decide)) (eU.ne ⟨0,rfl,fun h=>by omega,by omega⟩) ?_
   rintro r o ⟨q1,g1,g2,⟨k1,rfl,c3,_⟩,rfl⟩
   have hk1:=c3 (by omega)
   simp only[↓zq,zs,ae,zt,aL,hb.has,aS]
   have ed:IntKind.wrap .i64 (5+(k1:Int))=((18+k1:Nat):Int)-13:=by rw[VL.wrap64 _ (by omega) (by omega)];omega
   have hB:=ID
   have hB2:oK (18+k1)<=oK 22:=Ak (by omega)
   have hB3:=G2 (18+k1)
   rw[ed]
   refine aO (xR b l hb (18+k1) (by omega) (yI e []) w1 hats2 q1 (by omega)) (nI b q1 _ _ (by omega)) ?_
   rintro r o ⟨q2,d1,d2,⟨f,rfl,f1,f2⟩,rfl⟩
   simp only[↓zq,zs,ae,zt,aL,hb.has,aS]
   repeat refine⟨by omega,?_⟩
   have ht:=C0 (f.sz+1) f (by omega) f1 (by omega)
   rw[dx]at ht
   refine ai ht ?_
   simp only[↓zq,zs,ae,zt,aL,hb.has,aS]
   exact⟨q2,by omega,by omega,⟨eS f,rfl,by omega⟩,rfl⟩
theorem Ow(b:AV)(l:List UInt8)(hb:sd b l)(p:Nat)(hp:p<100000000000000):an Tryz.prog 103 [.ref 0 0] [.cells [b,.v (.int .i64 (p:Int))]] (eU b p 200 (gb 200)):=by
 refine Oy _ _ hb.has ?_
 unfold IM
 have hfar:qs=1000000000000000:=rfl
 refine aO (yl b l hb p 8 (by omega) (by decide)) (eU.ne ⟨0,rfl,fun h=>by omega,by omega⟩) ?_
 rintro r o ⟨q,h1,h2,⟨k,rfl,_,_⟩,rfl⟩
 have kn:∀(c m:Nat) (r:AV) (o:List Ob),c<=190->m<=200->eU b q c (gb m) r o->∃q':Nat,∃s:List UInt8,r=.v (.string (mk s))/\o=[.cells [b,.v (.int .i64 (q':Int))]]/\eU b p 200 (gb 200) (.v (.string (mk s))) [.cells [b,.v (.int .i64 (q':Int))]]:=by
  rintro c m r o hc hm ⟨q',g1,g2,⟨s,rfl,hs⟩,rfl⟩
  exact⟨q',s,rfl,rfl,q',by omega,by omega,⟨s,rfl,by omega⟩,rfl⟩
 have sh:=D6 b l hb 3 (by omega) q [] _ (cu.of []) (by simp) (by simp) (by simp[mR];omega)
 have ty:=NU b l hb q (by omega)
 have kw:=By b l hb q (by omega)
 simp only[↓zq,zs,ae,aL,hb.has]
 refine⟨fun _=>?_,fun _=>⟨fun _=>?_,fun _=>⟨fun _=>?_,fun _=>⟨fun _=>?_,fun _=>?_⟩⟩⟩⟩
 ·refine aO ty (eU.ne ⟨[],rfl,by simp⟩) ?_
  intro r o hr
  obtain⟨q',s,rfl,rfl,hd⟩:=kn _ _ r o (by omega) (by omega) hr
  simp only[↓zq,zs,ae,aL,hb.has];exact hd
 ·refine aO sh (eU.ne ⟨[],rfl,by simp⟩) ?_
  intro r o hr
  obtain⟨q',s,rfl,rfl,hd⟩:=kn _ _ r o (by simp[mR]) (by simp[mQ]) hr
  simp only[↓zq,zs,ae,aL,hb.has];exact hd
 ·refine aO sh (eU.ne ⟨[],rfl,by simp⟩) ?_
  intro r o hr
  obtain⟨q',s,rfl,rfl,hd⟩:=kn _ _ r o (by simp[mR]) (by simp[mQ]) hr
  simp only[↓zq,zs,ae,aL,hb.has];exact hd
 ·refine aO sh (eU.ne ⟨[],rfl,by simp⟩) ?_
  intro r o hr
  obtain⟨q',s,rfl,rfl,hd⟩:=kn _ _ r o (by simp[mR]) (by simp[mQ]) hr
  simp only[↓zq,zs,ae,aL,hb.has];exact hd
 ·refine aO kw (eU.ne ⟨[],rfl,by simp⟩) ?_
  intro r o hr
  obtain⟨q',s,rfl,rfl,hd⟩:=kn _ _ r o (by omega) (by omega) hr
  simp only[↓zq,zs,ae,aL,hb.has];exact hd
def Fb:AV->Prop:=fun r=>∃s t:Nm,r=.cA [.v (.string (mk s)),.v (.string (mk t))]
theorem NF(b:AV)(l:List UInt8)(hb:sd b l)(p:Nat)(hp:p<10000000000000):an Tryz.prog 82 [.ref 0 0] [.cells [b,.v (.int .i64 (p:Int))]] (eU b p 50000000000 Fb):=by
 refine PV _ _ hb.has ?_
 unfold HV
 refine aO (Ow b l hb p (by omega)) (eU.ne ⟨[],rfl,by simp⟩) ?_
 rintro r o ⟨q,h1,h2,⟨s,rfl,_⟩,rfl⟩
 simp only[↓zq,zs,ae,aL,hb.has]
 refine aO (I2 b l hb q (by omega) s) (eU.ne ⟨[],rfl,by simp⟩) ?_
 rintro r o ⟨q1,g1,g2,⟨t,rfl,_⟩,rfl⟩
 simp only[↓zq,zs,ae,aL,hb.has]
 exact⟨q1,by omega,by omega,⟨s,t,rfl⟩,rfl⟩
theorem PX(b:AV)(l:List UInt8)(hb:sd b l)(p:Nat)(hp:p<1000000000000):an Tryz.prog 61 [.ref 0 0] [.cells [b,.v (.int .i64 (p:Int))]] (eU b p 60000000000 Fb):=by
 refine P5 _ _ hb.has ?_
 unfold LM
 have hfar:qs=1000000000000000:=rfl
 refine aO (By b l hb p (by omega)) (eU.ne ⟨[],rfl,by simp⟩) ?_
 rintro r o ⟨q,h1,h2,⟨s,rfl,_⟩,rfl⟩
 simp only[↓zq,zs,ae,aL,hb.has]
 refine aO (yl b l hb q 12 (by omega) (by decide)) (eU.ne ⟨0,rfl,fun h=>by omega,by omega⟩) ?_
 rintro r o ⟨q1,g1,g2,⟨k,rfl,_,_⟩,rfl⟩
 simp only[↓zq,zs,ae,aL,hb.has]
 refine⟨fun _=>?_,fun _=>?_⟩
 ·refine aO (NF b l hb q1 (by omega)) (eU.ne ⟨[],[],rfl⟩) ?_
  rintro r o ⟨q2,e1,e2,⟨x,y,rfl⟩,rfl⟩
  simp only[↓zq,zs,ae,zt,aL,hb.has]
  exact⟨q2,by omega,by omega,⟨x,y,rfl⟩,rfl⟩
 ·refine aO (I2 b l hb q1 (by omega) s) (eU.ne ⟨[],rfl,by simp⟩) ?_
  rintro r o ⟨q2,e1,e2,⟨t,rfl,_⟩,rfl⟩
  simp only[↓zq,zs,ae,aL,hb.has]
  exact⟨q2,by omega,by omega,⟨s,t,rfl⟩,rfl⟩
end Go.Proofs.Trees
namespace Go.Proofs.Trees
open Go Go.VL Go.RowKit
theorem AF{s f:Nm}{r:List Vl×Vl}(h:qn s [] f=some r):tZ s (some r)=(s,[],f)/\tf s [] f=some f/\zP s [] f=some []/\EW s [] f=none:=by
 obtain⟨l,v⟩:=r
 obtain⟨d,a,x,A,B,D,z,hz,hp,hf,_⟩:=ky h
 have hl:l=[]:=List.map_eq_nil_iff.1 hp.symm
 subst hl
 have hv:=h
 rw[<-uv]at hv
 refine⟨by simp[tZ,hf],?_,?_,?_⟩
 ·unfold tf;rw[hv];simp[ub,iW,hf]
 ·unfold zP;rw[hv];simp[p5]
 ·unfold EW;rw[hv];simp[pZ]
theorem N4(a:AV)(ha:wZ a):an Tryz.prog 26 [a] [] (fun r o=>o=[]/\Fb r):=by
 refine MT _ ha.1 ?_
 unfold KW
 refine aO (P1 a ha) MG.ne ?_
 rintro r o ⟨b,l,hb,rfl,rfl⟩
 simp only[↓zq,zs,ae,zt,hb.has]
 refine⟨by simp[bw,hb.has,kQ],aO (PX b l hb 0 (by omega)) (eU.ne ⟨[],[],rfl⟩) ?_⟩
 rintro r o ⟨q,_,_,⟨s,t,rfl⟩,rfl⟩
 simp only[↓zq,zs,ae,zt,aL,hb.has]
 first|exact⟨rfl,s,t,rfl⟩|exact⟨s,t,rfl⟩|exact⟨trivial,s,t,rfl⟩
theorem Oi(a:AV)(ha:wZ a):an Tryz.prog 6 [a] [] (bH (.v (.bool true))):=by
 refine OX _ ha.1 ?_
 simp only[L7,↓zq,zs,ae,zt,bH]
 refine⟨ha.1,fun _=>trivial,fun _=>?_⟩
 refine aO (N4 a ha) ⟨_,_,rfl,[],[],rfl⟩ ?_
 rintro r o ⟨rfl,s,f,rfl⟩
 simp only[↓zq,zs,ae,zt]
 have hgz:=Ez s (o:=qn s [] f) (AM s [] f)
 have EQ:=fun(w:AV) hw=>Oq (tZ s (qn s [] f)).1 (tZ s (qn s [] f)).2.2 _ w _ (cu.of (tZ s (qn s [] f)).2.1) hw (by omega)
 refine aY (Oj s f) ?_
 simp only[↓zq,zs,ae,zt,aL,Ob.es,a8]
 refine⟨lg _,?_⟩
 refine aO (Od s f) (B0.ne _ _) ?_
 rintro r o ⟨rfl,w,hw,rfl⟩
 simp only[↓zq,zs,ae,zt,bw]
 refine⟨hw.1,fun h=>by simp at h,fun _=>?_⟩
 refine ai (EQ w hw) ?_
 simp only[↓zq,zs,ae]
 cases hr:qn s [] f with
 |
  none =>
  rw[hr]at EQ hw
  refine⟨fun h=>by simp at h,fun _=>⟨fun _=>⟨fun _=>ai (EQ w hw) ?_,fun h=>absurd rfl h⟩,fun h=>by simp at h⟩⟩
  simp only[↓zq,zs,ae]
 |
  some r =>
  obtain⟨e1,e2,e3,e4⟩:=AF hr
  rw[e1]
  have WC:=Qe s (.sl (bT [])) [] (cu.of []) f
  have WP:=Pj s (.sl (bT [])) [] (cu.of []) f
  have WU:=PG s (.sl (bT [])) [] (cu.of []) f
  rw[e2]at WC
  rw[e3]at WP
  rw[e4]at WU
  refine⟨fun h=>by simp at h,fun _=>⟨fun h=>by simp at h,fun _=>ai WC ?_⟩⟩
  simp only[↓zq,zs,ae,zt,qP]
  refine aY WP ?_
  simp only[↓zq,zs,ae,zt,Ob.es,a8,QE]
  refine⟨vr _,aY WU ?_⟩
  simp only[↓zq,zs,ae,zt,aL,Ob.es,a8]
  refine⟨lg _,?_⟩
  simp[eF]
end Go.Proofs.Trees
