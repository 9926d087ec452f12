/-
  Part of a proof: Go functions read by values, trees of functions, their contracts.
-/
import Derived.Test.YtphdaefkjfbfoaaGreatDoorP5
set_option linter.unusedVariables false
set_option linter.unusedSimpArgs false
open And renaming intro→aH
open Bool renaming and_eq_true→au,eq_iff_iff→cn,or_eq_false_iff→bU,or_eq_true→bo,true_and→bO
open ByteArray renaming toList→ac
open Int renaming tmod→dF,toNat_natCast→cb
open List renaming all_cons→cV,all_eq_true→bP,any_eq_true→bS,append_assoc→bb,append_nil→cH,cons_append→ba,drop_eq_getElem_cons→aY,drop_zero→bp,getD_cons_zero→bn,getD_eq_getElem?_getD→aa,getElem?_eq_getElem→bm,getElem_mem→bQ,headD_cons→bi,length_append→an,length_cons→aw,length_map→cT,length_nil→aG,map_cons→bL,mem_append→aL,mem_append_left→aA,mem_append_right→az,mem_cons→aI,mem_cons_of_mem→al,mem_cons_self→aj,mem_map→cm,mem_singleton→aS,nil_append→aT,tail_cons→bB
open Nat renaming le_add_right→cW,le_refl→aq,lt_of_lt_of_le→di,mod_lt→eu,mul_add→cP,mul_le_mul_right→aX,mul_one→dG,zero_add→aV,zero_le→dS
open Option renaming bind_eq_some_iff→a6,bind_none→bK,bind_some→a8,getD_some→cU,isSome_iff_exists→bq,isSome_none→cj,isSome_some→bH,map_some→cv
open UInt8 renaming ofNat→be
namespace Go.Proofs.Trees
open Go Go.VL Go.RowKit
theorem O0(x:Nm){e:E}(h:Wf e):e.cX<1000000->ap Tryz.prog 186 [.agg [.v (.string (mk e.at)),e.sp],.v (.string (mk x))] [] (bD (.v (.int .i64 (mV x e:Int)))):=by
 induction h with
 |
  @atom s hs =>
  intro hl
  refine Ct _ _ _ ((aU _).mpr trivial) ?_
  simp only[At,dX,↓zq,zs,af,zt,bD,mV]
  refine⟨fun _=>⟨fun h=>?_,fun h=>?_⟩,fun h=>absurd h hs⟩
  ·rw[if_pos h];rfl
  ·rw[if_neg h];rfl
 |
  @plus a b ha hb i1 i2 =>
  intro hl
  simp only[E.cX,E.eW]at hl
  have u1:=qS x ha
  have u2:=qS x hb
  refine Ct _ _ _ ((aU _).mpr trivial) ?_
  have hP:=P3.of (.atom [43]) a b
  simp only[At,bC,toNat_one,a7,↓zq,zs,af,zt,hP.1,hP.2.1,hP.2.2.1,hP.2.2.2,aK]
  refine⟨fun h=>absurd rfl h,fun _=>?_⟩
  refine ai (nO [43] a b) ?_
  simp only[↓zq,zs,af,zt]
  refine⟨fun h=>by simp at h,fun _=>?_⟩
  repeat refine⟨by omega,?_⟩
  refine ai (i1 (by omega)) ?_
  simp only[↓zq,zs,af,zt]
  repeat refine⟨by omega,?_⟩
  refine ai (i2 (by omega)) ?_
  simp only[↓zq,zs,af,zt]
  rw[qU,wrap64 _ (by omega) (by omega)]
  exact⟨by simp,rfl⟩
 |
  @times a b ha hb i1 i2 =>
  intro hl
  simp only[E.cX,E.eW]at hl
  have u1:=qS x ha
  have u2:=qS x hb
  refine Ct _ _ _ ((aU _).mpr trivial) ?_
  have hP:=P3.of (.atom [42]) a b
  simp only[At,bC,toNat_one,a7,↓zq,zs,af,zt,hP.1,hP.2.1,hP.2.2.1,hP.2.2.2,aK]
  refine⟨fun h=>absurd rfl h,fun _=>?_⟩
  refine ai (nO [42] a b) ?_
  simp only[↓zq,zs,af,zt]
  refine⟨fun h=>by simp at h,fun _=>?_⟩
  repeat refine⟨by omega,?_⟩
  refine ai (i1 (by omega)) ?_
  simp only[↓zq,zs,af,zt]
  repeat refine⟨by omega,?_⟩
  refine ai (i2 (by omega)) ?_
  simp only[↓zq,zs,af,zt]
  rw[pd,wrap64 _ (by omega) (by omega)]
  exact⟨by simp,rfl⟩
 |
  @rc n b hn hb i =>
  intro hl
  simp only[E.cX,E.eW]at hl
  refine Ct _ _ _ ((aU _).mpr trivial) ?_
  have hP:=P3.of (.atom dD) (.atom n) b
  simp only[At,bC,toNat_one,a7,↓zq,zs,af,zt,hP.1,hP.2.1,hP.2.2.1,hP.2.2.2,aK]
  refine⟨fun h=>absurd rfl h,fun _=>?_⟩
  refine ai (nO dD (.atom n) b) ?_
  simp only[↓zq,zs,af,zt]
  refine⟨fun _=>?_,fun h=>absurd rfl h⟩
  repeat refine⟨by omega,?_⟩
  rw[wk]
  refine⟨fun h=>?_,fun h=>?_⟩
  ·have hh:n=x:=h
   rw[if_pos hh];exact⟨rfl,rfl⟩
  ·have hh:¬n=x:=h
   rw[if_neg hh]
   repeat refine⟨by omega,?_⟩
   refine ai (i (by omega)) ?_
   simp only[↓zq,zs,af,zt]
   exact⟨rfl,rfl⟩
theorem Ka{x:Nm}(hx:qx x){e u:E}(h:Wf e)(hu:Wf u)(hl:e.cX<=1000)(hlu:u.cX<=1000):ap Tryz.prog 162 [.agg [.v (.string (mk e.at)),e.sp],.v (.string (mk x)),.agg [.v (.string (mk u.at)),u.sp]] [] (bD (.v (.bool (decide ((sub x (cL u []) (cL e [])).aC<=400))))):=by
 refine Pn _ _ _ _ _ ((aU _).mpr trivial) ((aU _).mpr trivial) ?_
 unfold Jw
 have a1:=CH e h.ok (by have:=h.sz;omega)
 have a2:=CH u hu.ok (by have:=hu.sz;omega)
 rw[dh]at a1 a2
 have hle:=qS x h
 have hpos:1<=u.cX:=by rw[hu.cX []];exact ep _
 refine ai a1 ?_
 simp only[↓zq,zs,af,zt]
 refine ai (O0 x h (by omega)) ?_
 simp only[↓zq,zs,af,zt]
 refine ai a2 ?_
 simp only[↓zq,zs,af,zt]
 have e1:=ef x (cL u []) (cL e [])
 have e2:=CI hx h []
 rw[if_neg (by simp)]at e2
 rw[e2,<-h.cX [],<-hu.cX []]at e1
 have hm:mV x e*(u.cX-1)<=1000*1000:=Nat.mul_le_mul (by omega) (by omega)
 have e3:(mV x e:Int)*((u.cX:Int)-1)=((mV x e*(u.cX-1):Nat):Int):=by
  rw[Int.natCast_mul];congr 1;omega
 have e4:mV x e*(u.cX-1)+mV x e=mV x e*u.cX:=by
  rw[Nat.mul_sub,dG]
  have:=Nat.le_mul_of_pos_right (mV x e) hpos
  omega
 rw[wrap64 ((u.cX:Int)-1) (by omega) (by omega),e3,wrap64 ((mV x e*(u.cX-1):Nat):Int) (by omega) (by omega),wrap64 _ (by omega) (by omega)]
 refine⟨?_,rfl⟩
 congr 2
 rw[cn,decide_eq_true_eq,decide_eq_true_eq]
 omega
end Go.Proofs.Trees
namespace Go.Proofs.Trees
open Go Go.VL Go.RowKit
abbrev zN:AV:=.v (.slice none 0 0)
abbrev zE:Ob:=.cells [.v (.string (mk [])),zN]
theorem Kn(s:Nm)(p a b:AV)(hp:LK.sl.has p)(F fr to:List Nm)(k:Int)(ha:dV a fr)(hb:dV b to)(hft:fr.length=to.length)(hl:fr.length<1000000):∀(i:Nat),i<=fr.length ->
 Ej [a,b,.v (.int .i64 ((i:Int)-1))] [.cells [.v (.string (mk s)),p],zE,.cells [.any,.v (.int .i64 k)],.vec 1 (cq F)]
  (rW (match bG s fr i with|some u=>(2,[],[.cells [.v (.string (mk (gh to u))),zN],.cells [.any,.v (.int .i64 k)],.vec 1 (cq F)])|none=>(1,[],[.cells [.v (.string (mk s)),p],zE,.cells [.any,.v (.int .i64 k)],.vec 1 (cq F)])))
 |
  0,hi=>by
  refine Lw _ _ _ _ _ _ _ _ _ ?_
  simp only[Fl,↓zq,zs,af,af,hp,bu]
  exact⟨ha.1,hb.1,fun h=>by omega,fun _=>rfl⟩
 |
  i+1,hi=>by
  have hlt:i<fr.length:=by omega
  have hlt':i<to.length:=by omega
  have e1:((i+1:Nat):Int)-1=(i:Int):=by omega
  rw[e1]
  refine Lw _ _ _ _ _ _ _ _ _ ?_
  simp only[Fl,↓zq,zs,af,zt,af,hp,bu,ha.len,hb.len,ha.idx hlt,hb.idx hlt',cb]
  refine⟨ha.1,hb.1,fun _=>⟨⟨ha.1,by omega,by omega⟩,by omega,fun h=>?_,fun h=>?_⟩,fun h=>by omega⟩
  ·refine⟨⟨hb.1,by omega,by omega⟩,by omega,?_⟩
   have hh:fr.getD i []=s:=h
   simp only[bG,hh,if_true,rW]
   have:gh to (fr.length-1-i)=to.getD i []:=by unfold gh;congr 1;omega
   rw[this]
  ·have hh:¬fr.getD i []=s:=h
   simp only[bG,hh,if_false]
   rw[wrap64 _ (by omega) (by omega)]
   exact Kn s p a b hp F fr to k ha hb hft hl i (by omega)
theorem I4(a b:AV)(ha:LK.sl.has a)(hb:LK.sl.has b)(F:List Nm)(hF:F.length<100000)(t:ByteArray)(p:AV)(hp:LK.sl.has p):∀(n j:Nat),pK F n j<j+n->j+n<100000000 ->
 G3 [a,b,.v (.string (mk (tN j)))] [.cells [.any,.v (.int .i64 (j:Int))],.vec 1 (cq F),.cells [.v (.string t),p],zE] (iF 1 [a,b,.v (.string (mk (tN (pK F n j))))] [.cells [.any,.v (.int .i64 (pK F n j:Int))],.vec 1 (cq F),.cells [.v (.string t),p],zE])
 |0,j,h,_=>by simp only[pK]at h;omega
 |
  n+1,j,h,hj=>by
  refine ME _ _ _ _ _ _ _ _ _ ?_
  simp only[Lt,↓zq,zs,af,zt,af,hp,bu]
  refine⟨ha,hb,?_⟩
  refine ai (vY F _ (.of F) (tN j) (by omega)) ?_
  simp only[↓zq,zs,af,zt]
  rw[pK]at h |-
  refine⟨fun hm=>?_,fun hm=>?_⟩
  ·rw[if_pos hm]at h |-
   rw[bE j (by omega)]
   refine ai (za (j+2) (j+1) (by omega) (by omega)) ?_
   have hd:=mD (j+2) (j+1) (by omega)
   simp only[↓zq,zs,af,zt,ba,aT]
   refine⟨by simp[cB];omega,?_⟩
   exact I4 a b ha hb F hF t p hp n (j+1) (by omega) (by omega)
  ·rw[if_neg hm]
   exact⟨rfl,rfl,rfl⟩
theorem ij(F:List Nm):∀(t:Ty) (to:List Nm) (k:Nat),k<=(gP F t to k).2/\(gP F t to k).2<=k+(F.length+1)*t.aC
 | .zero,_,k=>⟨aq _,cW _ _⟩
 | .one,_,k=>⟨aq _,cW _ _⟩
 | .name _,_,k=>⟨aq _,cW _ _⟩
 | .bJ _,_,k=>⟨aq _,cW _ _⟩
 |
  .plus a b,to,k=>by
  have h1:=ij F a to k
  have h2:=ij F b to (gP F a to k).2
  simp only[gP,Ty.aC]
  have:(F.length+1)*(1+a.aC+b.aC)=(F.length+1)+(F.length+1)*a.aC+(F.length+1)*b.aC:=by simp only[cP,dG]
  omega
 |
  .times a b,to,k=>by
  have h1:=ij F a to k
  have h2:=ij F b to (gP F a to k).2
  simp only[gP,Ty.aC]
  have:(F.length+1)*(1+a.aC+b.aC)=(F.length+1)+(F.length+1)*a.aC+(F.length+1)*b.aC:=by simp only[cP,dG]
  omega
 |
  .rc a,to,k=>by
  obtain⟨g1,g2,_,_⟩:=gx F k
  have h1:=ij F a (to++[tN (nx F k)]) (nx F k+1)
  simp only[gP,Ty.aC]
  have:(F.length+1)*(2+a.aC)=(F.length+1)*2+(F.length+1)*a.aC:=by simp only[cP]
  omega
theorem pQ(l:List Nm):(cq l).length=l.length:=by simp[cq]
theorem NX(F:List Nm)(hF:F.length<10000){e:E}(h:Wf e):∀(fr to:List Nm) (a b:AV) (k:Nat),dV a fr->dV b to->fr.length=to.length->(∀w,w∈fr->qx w)->fr.length+e.sz<10000->k+(F.length+1)*(cL e fr).aC<99000000 ->
 ap Tryz.prog 131 [.agg [.v (.string (mk e.at)),e.sp],a,b,.ref 0 0] [.cells [.vec 1,.v (.int .i64 (k:Int))],.vec 1 (cq F)] (dA (.agg [.v (.string (mk (gP F (cL e fr) to k).1.at)),(gP F (cL e fr) to k).1.sp]) [.cells [.vec 1,.v (.int .i64 ((gP F (cL e fr) to k).2:Int))],.vec 1 (cq F)]):=by
 induction h with
 |
  @atom s hs =>
  intro fr to a b k ha hb hft hfr hl hk
  simp only[E.sz]at hl
  refine Ds _ _ _ _ _ _ ((aU _).mpr trivial) ha.1 hb.1 ?_
  have hz:∀c,(c=[48]\/c=[49])->bG c fr fr.length=none:=fun c hc=>(fp c fr).2 fun hm=>by
   obtain⟨h1,h2,h3⟩:=hfr c hm
   rcases hc with rfl|rfl
   ·exact h2 rfl
   ·exact h3 rfl
  have hq:gP F (cL (.atom s) fr) to k=(match bG s fr fr.length with|some u=>.atom (gh to u)|none=>.atom s,k):=by
   simp only[cL]
   by_cases h0:s=[48]
   ·rw[if_pos h0,hz s (.inl h0),h0];rfl
   ·rw[if_neg h0]
    by_cases h1:s=[49]
    ·rw[if_pos h1,hz s (.inr h1),h1];rfl
    ·rw[if_neg h1]
     cases bG s fr fr.length<;>rfl
  simp only[A6,dX,↓zq,zs,af,zt]
  refine⟨fun _=>⟨ha.1,?_⟩,fun h=>absurd h hs⟩
  rw[ha.len,wrap64 _ (by omega) (by omega)]
  refine jq (Kn s _ a b ((aU _).mpr trivial) F fr to (k:Int) ha hb hft (by omega) fr.length (aq _)) (fun ys o e=>?_) (fun ys o e=>?_)
  ·rw[hq]
   cases q:bG s fr fr.length<;>rw[q]at e<;>cases e
   simp only[↓zq,zs,af,zt,af,aM,bu,aU]
   exact⟨rfl,rfl⟩
  ·rw[hq]
   cases q:bG s fr fr.length<;>rw[q]at e<;>cases e
   simp only[↓zq,zs,af,zt,af,aM,bu]
   exact⟨rfl,rfl⟩
 |
  @plus x y hx hy i1 i2 =>
  intro fr to a b k ha hb hft hfr hl hk
  simp only[E.sz,E.jt]at hl
  rw[dK]at hk |-
  simp only[Ty.aC]at hk
  have hm:(F.length+1)*(1+(cL x fr).aC+(cL y fr).aC)=(F.length+1)+(F.length+1)*(cL x fr).aC+(F.length+1)*(cL y fr).aC:=by simp only[cP,dG]
  have hc:=ij F (cL x fr) to k
  refine Ds _ _ _ _ _ _ ((aU _).mpr trivial) ha.1 hb.1 ?_
  have hP:=P3.of (.atom [43]) x y
  simp only[A6,bC,toNat_one,a7,↓zq,zs,af,zt,hP.1,hP.2.1,hP.2.2.1,hP.2.2.2,aK]
  refine⟨fun h=>absurd rfl h,fun _=>?_⟩
  refine ai (nO [43] x y) ?_
  simp only[↓zq,zs,af,zt]
  refine⟨fun h=>by simp at h,fun _=>?_⟩
  repeat refine⟨by omega,?_⟩
  refine bc (i1 fr to a b k ha hb hft hfr (by omega) (by omega)) ?_
  simp only[↓zq,zs,af,zt,aM,aK,bi,bB,Ob.es]
  repeat refine⟨by omega,?_⟩
  refine ai (nO [43] x y) ?_
  simp only[↓zq,zs,af,zt]
  repeat refine⟨by omega,?_⟩
  refine bc (i2 fr to a b _ ha hb hft hfr (by omega) (by omega)) ?_
  simp only[↓zq,zs,af,zt,aM,aK,bi,bB,Ob.es]
  repeat refine⟨by omega,?_⟩
  refine ai (wL _ _ _) ?_
  simp only[↓zq,zs,af,zt,aK,bC]
  repeat refine⟨by omega,?_⟩
  exact⟨rfl,rfl⟩
 |
  @times x y hx hy i1 i2 =>
  intro fr to a b k ha hb hft hfr hl hk
  simp only[E.sz,E.jt]at hl
  rw[dm]at hk |-
  simp only[Ty.aC]at hk
  have hm:(F.length+1)*(1+(cL x fr).aC+(cL y fr).aC)=(F.length+1)+(F.length+1)*(cL x fr).aC+(F.length+1)*(cL y fr).aC:=by simp only[cP,dG]
  have hc:=ij F (cL x fr) to k
  refine Ds _ _ _ _ _ _ ((aU _).mpr trivial) ha.1 hb.1 ?_
  have hP:=P3.of (.atom [42]) x y
  simp only[A6,bC,toNat_one,a7,↓zq,zs,af,zt,hP.1,hP.2.1,hP.2.2.1,hP.2.2.2,aK]
  refine⟨fun h=>absurd rfl h,fun _=>?_⟩
  refine ai (nO [42] x y) ?_
  simp only[↓zq,zs,af,zt]
  refine⟨fun h=>by simp at h,fun _=>?_⟩
  repeat refine⟨by omega,?_⟩
  refine bc (i1 fr to a b k ha hb hft hfr (by omega) (by omega)) ?_
  simp only[↓zq,zs,af,zt,aM,aK,bi,bB,Ob.es]
  repeat refine⟨by omega,?_⟩
  refine ai (nO [42] x y) ?_
  simp only[↓zq,zs,af,zt]
  repeat refine⟨by omega,?_⟩
  refine bc (i2 fr to a b _ ha hb hft hfr (by omega) (by omega)) ?_
  simp only[↓zq,zs,af,zt,aM,aK,bi,bB,Ob.es]
  repeat refine⟨by omega,?_⟩
  refine ai (wL _ _ _) ?_
  simp only[↓zq,zs,af,zt,aK,bC]
  repeat refine⟨by omega,?_⟩
  exact⟨rfl,rfl⟩
 |
  @rc n y hn hy i =>
  intro fr to a b k ha hb hft hfr hl hk
  simp only[E.sz,E.jt]at hl
  rw[fj]at hk |-
  simp only[Ty.aC,dX]at hk
  have hm:(F.length+1)*(2+(cL y (fr++[n])).aC)=(F.length+1)*2+(F.length+1)*(cL y (fr++[n])).aC:=by simp only[cP]
  have hc:=ij F (cL y (fr++[n])) (to++[tN (nx F k)]) (nx F k+1)
  obtain⟨g1,g2,_,_⟩:=gx F k
  refine Ds _ _ _ _ _ _ ((aU _).mpr trivial) ha.1 hb.1 ?_
  have hP:=P3.of (.atom dD) (.atom n) y
  simp only[A6,bC,toNat_one,a7,↓zq,zs,af,zt,hP.1,hP.2.1,hP.2.2.1,hP.2.2.2,aK]
  refine⟨fun h=>absurd rfl h,fun _=>?_⟩
  refine ai (nO dD (.atom n) y) ?_
  simp only[↓zq,zs,af,zt]
  refine⟨fun _=>?_,fun h=>absurd rfl h⟩
  refine ai (za (k+1) k (by omega) (by omega)) ?_
  have hd:=mD (k+1) k (by omega)
  simp only[↓zq,zs,af,zt,ba,aT]
  refine⟨by simp[cB];omega,?_⟩
  refine cw (I4 a b ha.1 hb.1 F (by omega) (mk []) _ ((aU _).mpr trivial) (F.length+1) k (by show nx F k<_;omega) (by omega)) ?_
  simp only[↓zq,zs,af,zt,af,aM,bu,aU,ha.1,hb.1,hP.1,hP.2.1,hP.2.2.1,hP.2.2.2,toNat_one,a7,aK]
  repeat refine⟨by omega,?_⟩
  have hnx:pK F (F.length+1) k=nx F k:=rfl
  rw[hnx]
  refine ai (yG fr a ha n (by omega)) ?_
  simp only[↓zq,zs,af,zt]
  refine ai (yG to b hb (tN (nx F k)) (by omega)) ?_
  simp only[↓zq,zs,af,zt]
  rw[bE (nx F k) (by omega)]
  have hmk:=wL dD (.atom (tN (nx F k))) (gP F (cL y (fr++[n])) (to++[tN (nx F k)]) (nx F k+1)).1
  simp only[dX]at hmk
  refine bc (i (fr++[n]) (to++[tN (nx F k)]) _ _ (nx F k+1) (.of _) (.of _) (by simp[hft]) (fun w hw=>by
   rcases aL.1 hw with hw|hw
   ·exact hfr w hw
   ·simp only[aS]at hw;rw[hw];exact hn) (by simp;omega) (by omega)) ?_
  simp only[↓zq,zs,af,zt,aM,aK,bi,bB,Ob.es]
  repeat refine⟨by omega,?_⟩
  refine ai hmk ?_
  simp only[↓zq,zs,af,zt,aK,bC]
  repeat refine⟨by omega,?_⟩
  exact⟨rfl,rfl⟩
theorem wP(l r:List Nm):cq (l++r)=cq l++cq r:=by simp[cq]
def rJ(os:List E):List Nm:=os.flatMap fun o=>j9 o [] []
theorem vm{os:List E}{i:Nat}(h:i<os.length):(E.bj os).getD i []=[.v (.string (mk (os[i]).at)),(os[i]).sp]:=by
 have:∀(os:List E) (i:Nat) (h:i<os.length),(E.bj os).getD i []=(os[i]).ic:=by
  intro os
  induction os with
  |nil=>intro i h;simp at h
  |
   cons o os ih =>
   intro i h
   cases i with
   |zero=>simp[E.bj]
   |succ i=>simpa[E.bj]using ih i (by simpa using h)
 rw[this os i h,fF]
theorem yM(os:List E){i:Nat}(h:i<os.length):rJ (os.drop i)=j9 (os[i]) [] []++rJ (os.drop (i+1)):=by
 unfold rJ;rw[aY h,List.flatMap_cons]
theorem Hy(a:AV)(os:List E)(ha:LK.sl.has a/\a.aR=E.bj os)(ho:∀o,o∈os->Wf o/\o.sz<5000)(hl:os.length<100)(t:ByteArray)(p:AV)(hp:LK.sl.has p):∀(k i:Nat) (F:List Nm),i+k=os.length->F.length<=5000+5000*i ->
 GF [a,.v (.int .i64 (i:Int))] [.cells [.v (.string t),p],zE,.vec 1 (cq F)] (iF 1 [] [.cells [.v (.string t),p],zE,.vec 1 (cq (F++rJ (os.drop i)))])
 |
  0,i,F,hi,hF=>by
  refine HT _ _ _ _ _ _ _ ?_
  have:i=os.length:=by omega
  subst this
  simp only[E9,↓zq,zs,af,zt,af,hp,bu,ha.1,ha.2,ei,List.drop_length]
  exact⟨fun h=>by omega,fun _=>by simp[iF,rJ]⟩
 |
  k+1,i,F,hi,hF=>by
  have hlt:i<os.length:=by omega
  obtain⟨hw,hsz⟩:=ho _ (bQ hlt)
  have hfl:=ga (os[i]) [] []
  refine HT _ _ _ _ _ _ _ ?_
  simp only[E9,↓zq,zs,af,zt,af,hp,bu,ha.1,ha.2,ei,vm hlt,aK,cb]
  refine⟨fun _=>?_,fun h=>by omega⟩
  repeat refine⟨by omega,?_⟩
  have hfre:=CX hw [] [] (.sl []) (.of []) (by simp;omega)
  refine bc hfre ?_
  simp only[↓zq,zs,af,zt,bi,bB,Ob.es,pQ,<-wP]
  rw[bE i (by omega),yM os hlt,<-bb]
  simp only[aG,aV]at hfl
  refine⟨⟨j6 _,by omega⟩,?_⟩
  exact Hy a os ha ho hl t p hp k (i+1) _ (by omega) (by simp;omega)
def zM(e:E)(os:List E):List Nm:=j9 e [] []++rJ os
def yF(e:E)(os:List E):E:=(gP (zM e os) (cL e []) [] 0).1
theorem CB{e:E}{os:List E}(h:e.sz<=2000)(ho:∀o,o∈os->Wf o/\o.sz<=2000)(hl:os.length<=2):(zM e os).length<=6000:=by
 have h1:=ga e [] []
 have h2:∀(l:List E),(∀o,o∈l->o.sz<=2000)->(rJ l).length<=2000*l.length:=by
  intro l
  induction l with
  |nil=>intro _;simp[rJ]
  |
   cons o l ih =>
   intro hl
   have:=ih fun q hq=>hl q (al _ hq)
   have:=hl o aj
   have:=ga o [] []
   simp only[rJ,List.flatMap_cons,an,aw,aG]at *
   omega
 have:=h2 os fun o ho'=>(ho o ho').2
 simp only[zM,an,aG]at *
 omega
theorem Dk{e:E}(h:Wf e)(a:AV)(os:List E)(ha:LK.sl.has a/\a.aR=E.bj os)(he:e.sz<=2000)(ho:∀o,o∈os->Wf o/\o.sz<=2000)(hl:os.length<=2) :
 ap Tryz.prog 78 [.agg [.v (.string (mk e.at)),e.sp],a] [] (bD (.agg [.v (.string (mk (yF e os).at)),(yF e os).sp])):=by
 refine PR _ _ _ ((aU _).mpr trivial) ha.1 ?_
 unfold L7
 have hfl:=ga e [] []
 simp only[aG,aV]at hfl
 have hap:=CB he ho hl
 have hats:(cL e []).aC<=2000:=by
  rw[<-h.cX []]
  have:e.cX<=e.sz:=by
   clear hap hfl ha he ho hl
   induction h with
   |atom _=>simp[E.cX,E.sz]
   |plus _ _ i1 i2=>simp only[E.cX,E.eW,E.sz,E.jt];omega
   |times _ _ i1 i2=>simp only[E.cX,E.eW,E.sz,E.jt];omega
   |rc _ _ i=>simp only[E.cX,E.eW,E.sz,E.jt];omega
  omega
 have hfre:=CX h [] [] (.sl []) (.of []) (by simp;omega)
 simp only[↓zq,zs,af,zt]
 refine bc hfre ?_
 simp only[↓zq,zs,af,zt,bi,bB,Ob.es]
 have hlp:=Hy a os ha (fun o hq=>⟨(ho o hq).1,by have:=(ho o hq).2;omega⟩) (by omega) (mk e.at) e.sp ((aU _).mpr trivial) os.length 0 (j9 e [] []) (by omega) (by omega)
 rw[bp]at hlp
 refine cw hlp ?_
 simp only[↓zq,zs,af,zt,af,aM,bu,aU,bi,bB,Ob.es]
 have hmul:((zM e os).length+1)*(cL e []).aC<=6001*2000:=Nat.mul_le_mul (by omega) hats
 have hren:=NX (zM e os) (by omega) h [] [] (.sl []) (.sl []) 0 (.of []) (.of []) rfl (fun w hw=>by cases hw) (by simp;omega) (by omega)
 refine bc hren ?_
 simp only[↓zq,zs,af,zt,aM,aK]
 repeat refine⟨by omega,?_⟩
 exact⟨rfl,rfl⟩
end Go.Proofs.Trees
namespace Go.Proofs.Trees
open Go Go.VL Go.RowKit
def fV(t:Ty):Prop:=jv t 0/\∀y,bg y t=true->qx y
theorem gD:∀(t:Ty) {i j:Nat},jv t i->i<=j->jv t j
 | .bJ u,i,j,h,hj=>di h hj
 | .plus a b,i,j,h,hj=>⟨gD a h.1 hj,gD b h.2 hj⟩
 | .times a b,i,j,h,hj=>⟨gD a h.1 hj,gD b h.2 hj⟩
 | .rc a,i,j,h,hj=>gD (i:=i+1) (j:=j+1) a h (by omega)
 | .zero,_,_,_,_=>trivial
 | .one,_,_,_,_=>trivial
 | .name _,_,_,_,_=>trivial
theorem gH(x:Nm):∀(t:Ty) {i:Nat},jv t (i+1)->jv (dy (.name x) t i) i
 |
  .bJ u,i,h=>by
  simp only[dy]
  split
  ·trivial
  ·have:u<i+1:=h
   show u<i;omega
 | .plus a b,i,h=>⟨gH x a h.1,gH x b h.2⟩
 | .times a b,i,h=>⟨gH x a h.1,gH x b h.2⟩
 | .rc a,i,h=>gH x (i:=i+1) a h
 | .zero,_,_=>trivial
 | .one,_,_=>trivial
 | .name _,_,_=>trivial
theorem kt{x:Nm}{u:Ty}(hu:jv u 0):∀(t:Ty) {i:Nat},jv t i->jv (sub x u t) i
 | .name s,i,_=>by simp only[sub];split;exact gD u hu (dS _);trivial
 | .plus a b,i,h=>⟨kt hu a h.1,kt hu b h.2⟩
 | .times a b,i,h=>⟨kt hu a h.1,kt hu b h.2⟩
 | .rc a,i,h=>kt hu (i:=i+1) a h
 | .zero,_,_=>trivial
 | .one,_,_=>trivial
 | .bJ _,_,h=>h
theorem Dv.lc{t d:Ty}{s:Nm}(h:Dv t s d):jv t 0->jv d 0:=by
 induction h with
 |zero s=>exact fun _=>trivial
 |one s=>exact fun _=>trivial
 |bJ k s=>exact fun _=>trivial
 |hit s=>exact fun _=>trivial
 |qf h=>exact fun _=>trivial
 |plus h1 h2 hl i1 i2=>exact fun h=>⟨i1 h.1,i2 h.2⟩
 |times h1 h2 hl i1 i2=>exact fun h=>⟨⟨i1 h.1,h.2⟩,h.1,i2 h.2⟩
 |
  rc x hx hs h1 h2 hl i1 i2 =>
  intro h
  have g1:=kt (x:=x) h _ (i1 (gH x _ h))
  have g2:=kt (x:=x) h _ (i2 (gH x _ h))
  exact⟨gD _ g1 (by omega),gD _ g2 (by omega),Nat.zero_lt_one⟩
theorem Wf.qi{e:E}(h:Wf e):fV (cL e []):=⟨tK h [],fun y hy=>(na h [] y hy).1⟩
theorem fV.dv{t d:Ty}{s:Nm}(g:fV t)(h:Dv t s d):fV d:=⟨h.lc g.1,fun y hy=>g.2 y (h.names y hy)⟩
theorem fV.tree{t:Ty}(g:fV t):∃e,Wf e/\cL e []=t:=by
 obtain⟨h1,h2,_⟩:=ku (bF t []) t [] 0 (.nil _ _) g.1 fun y hy=>⟨(eM t [] y).2 (.inr hy),g.2 y hy⟩
 exact⟨_,h1,h2⟩
theorem fV.sub{x:Nm}{u t:Ty}(hu:fV u)(ht:fV t):fV (sub x u t):=⟨kt hu.1 t ht.1,fun y hy=>by
 rcases i6 t hy with h|h
 ·exact hu.2 y h
 ·exact ht.2 y h.2⟩
def kU(o:Option Ty):AV->List Ob->Prop:=fun r ob=>ob=[]/\∃(c:Nm) (d:AV),LK.sl.has d/\r=.cA [.agg [.v (.string (mk c)),d],.v (.bool o.isSome)]/\∀t,o=some t->∃e,Wf e/\cL e []=t/\c=e.at/\d=e.sp
theorem kU.ne{o:Option Ty}(h:∀t,o=some t->fV t):∃r ob,kU o r ob:=by
 cases o with
 |none=>exact⟨_,_,rfl,[],zN,(bu).mpr trivial,rfl,fun t h=>by cases h⟩
 |
  some t =>
  obtain⟨e,h1,h2⟩:=(h t rfl).tree
  exact⟨_,_,rfl,e.at,e.sp,(aU _).mpr trivial,rfl,fun t' h'=>by cases h';exact⟨e,h1,h2,rfl,rfl⟩⟩
theorem kU.of{e:E}(h:Wf e):kU (some (cL e [])) (.cA [.agg [.v (.string (mk e.at)),e.sp],.v (.bool true)]) [] :=
 ⟨rfl,e.at,e.sp,(aU _).mpr trivial,rfl,fun t h'=>by cases h';exact⟨e,h,rfl,rfl,rfl⟩⟩
theorem kU.no(c:Nm)(d:AV)(hd:LK.sl.has d):kU none (.cA [.agg [.v (.string (mk c)),d],.v (.bool false)]) [] :=
 ⟨rfl,c,d,hd,rfl,fun t h'=>by cases h'⟩
theorem gy{c:ByteArray}{d:AV}(h:LK.sl.has d):bz [.str,.sl] [.v (.string c),d] 0=True:=by simp[bz,dI,h]
theorem wW{e:E}{os:List E}(h:Wf e):Wf (yF e os)/\cL (yF e os) []=cL e []/\tS (·∉zM e os) (yF e os):=by
 obtain⟨h1,h2,_,_,h5⟩:=ku (zM e os) (cL e []) [] 0 (.nil _ _) (tK h []) fun y hy=>⟨aA _ ((lP h [] [] y).2 (.inr hy)),(na h [] y hy).1⟩
 exact⟨h1,h2,h5⟩
theorem rk{os:List E}{o:E}(ho:o∈os)(hw:Wf o){y:Nm}(hy:bg y (cL o [])=true):y∈rJ os :=
 List.mem_flatMap.2 ⟨o,ho,(lP hw [] [] y).2 (.inr hy)⟩
theorem qX{s:Nm}(hs:qx s):cL (.atom s) []=.name s:=iX hs (by simp)
theorem JS{x:Nm}(hx:qx x){e u:E}(h:Wf e)(hu:Wf u)(hl:e.cX<=400)(hlu:u.cX<=400):∃g,Wf g/\cL g []=sub x (cL u []) (cL e [])/\ap Tryz.prog 163 [.agg [.v (.string (mk e.at)),e.sp],.v (.string (mk x)),.agg [.v (.string (mk u.at)),u.sp]] [] (bD (.agg [.v (.string (mk g.at)),g.sp])):=by
 obtain⟨w1,w2,w3⟩:=wW (os:=[u,.atom x]) h
 have hap:tS (fun n=>n≠x/\bg n (cL u [])=false) (yF e [u,.atom x]):=BJ (fun n hn=>⟨fun e1=>hn (by
  subst e1
  exact az _ (rk (o:=.atom n) (by simp) (.atom hx.1) (by rw[qX hx];simp[bg]))),by
  cases q:bg n (cL u [])with
  |false=>rfl
  |true=>exact absurd (az _ (rk (o:=u) (by simp) hu q)) hn⟩) w1 w3
 obtain⟨p1,p2⟩:=Ci hx hu w1 hap [] (by simp) (fun y hy=>by cases hy)
 refine⟨_,p1,by rw[p2,w2],?_⟩
 refine M9 _ _ _ _ _ ((aU _).mpr trivial) ((aU _).mpr trivial) ?_
 unfold IW
 have s1:=h.sz
 have s2:=hu.sz
 have hA:=Dk h (.sl [[.v (.string (mk u.at)),u.sp],[.v (.string (mk x)),zN]]) [u,.atom x] ⟨(cd _).mpr trivial,by simp only[fD,E.bj,fF];rfl⟩ (by omega) (fun o ho=>by
  simp only[aI,List.not_mem_nil,or_false]at ho
  rcases ho with rfl|rfl
  ·exact⟨hu,by omega⟩
  ·exact⟨.atom hx.1,by simp[E.sz]⟩) (by simp)
 refine ai hA ?_
 simp only[↓zq,zs,af,zt,aK]
 repeat refine⟨by omega,?_⟩
 refine ai (Oj x u w1) ?_
 simp only[↓zq,zs,af,zt,aK]
 repeat refine⟨by omega,?_⟩
 exact⟨rfl,rfl⟩
theorem F6{x:Nm}(hx:qx x){e u:E}(h:Wf e)(hu:Wf u)(hl:e.cX<=400)(hlu:u.cX<=400):ap Tryz.prog 161 [.agg [.v (.string (mk e.at)),e.sp],.v (.string (mk x)),.agg [.v (.string (mk u.at)),u.sp]] [] (kU (nl (sub x (cL u []) (cL e [])))):=by
 refine N8 _ _ _ _ _ ((aU _).mpr trivial) ((aU _).mpr trivial) ?_
 unfold Jg
 refine ai (Ka hx h hu (by omega) (by omega)) ?_
 simp only[↓zq,zs,af,zt]
 refine⟨fun hn=>?_,fun hy=>?_⟩
 ·rw[show nl (sub x (cL u []) (cL e []))=none by unfold nl;rw[if_neg hn]]
  exact kU.no _ _ ((aU _).mpr trivial)
 ·rw[show nl (sub x (cL u []) (cL e []))=some (sub x (cL u []) (cL e [])) by unfold nl;rw[if_pos hy]]
  obtain⟨g,g1,g2,g3⟩:=JS hx h hu hl hlu
  refine ai g3 ?_
  simp only[↓zq,zs,af,zt,aK]
  repeat refine⟨by omega,?_⟩
  rw[<-g2]
  exact kU.of g1
end Go.Proofs.Trees
namespace Go.Proofs.Trees
open Go Go.VL Go.RowKit
theorem Bd(w:Nm)(c1 c2:Nm)(d1 d2:AV):ap Tryz.prog 69 [.v (.string (mk w)),.sl [[.v (.string (mk c1)),d1],[.v (.string (mk c2)),d2]]] [] (bD (.agg [.v (.string (mk [])),.sl [[.v (.string (mk w)),zN],[.v (.string (mk c1)),d1],[.v (.string (mk c2)),d2]]])):=by
 refine KC _ _ ((cd _).mpr trivial) ?_
 simp only[Fg,↓zq,zs,af,bD]
 exact⟨⟨fun c hc=>by
  simp only[aI,List.not_mem_nil,or_false]at hc
  rcases hc with rfl|rfl<;>rfl,by omega⟩,rfl⟩
theorem Jj(F:List Nm)(hF:F.length<100000)(c1 c2:Nm)(d1 d2:AV)(h1:LK.sl.has d1)(h2:LK.sl.has d2):∀(n j:Nat),pK F n j<j+n->j+n<100000000 ->
 GX [.v (.int .i64 (j:Int))] [zE,.cells [.v (.string (mk c1)),d1],.cells [.v (.string (mk c2)),d2],.vec 1 (cq F)] (iF 1 [.v (.int .i64 (pK F n j:Int))] [zE,.cells [.v (.string (mk c1)),d1],.cells [.v (.string (mk c2)),d2]])
 |0,j,h,_=>by simp only[pK]at h;omega
 |
  n+1,j,h,hj=>by
  refine NY _ _ _ _ _ _ _ _ ?_
  simp only[IM,↓zq,zs,af,zt,af,bu,h1,h2]
  refine ai (za (j+1) j (by omega) (by omega)) ?_
  have hd:=mD (j+1) j (by omega)
  simp only[↓zq,zs,af,zt,ba,aT]
  refine⟨by simp[cB];omega,?_⟩
  refine ai (vY F _ (.of F) (tN j) (by omega)) ?_
  simp only[↓zq,zs,af,zt]
  rw[pK]at h |-
  refine⟨fun hm=>?_,fun hm=>?_⟩
  ·rw[if_pos hm]at h |-
   rw[bE j (by omega)]
   exact Jj F hF c1 c2 d1 d2 h1 h2 n (j+1) (by omega) (by omega)
  ·rw[if_neg hm]
   exact⟨rfl,rfl,rfl⟩
theorem uq{x:Nm}{a c d:Ty}(h:(pg a x c d).aC<=400):(sub x (.rc a) c).aC<=400/\(sub x (.rc a) d).aC<=400:=by
 simp only[pg,Ty.aC]at h;omega
theorem Wf.iL{e:E}(h:Wf e){t:Ty}(ht:cL e []=t)(hl:t.aC<=400):e.cX<=400:=by rw[h.cX [],ht];exact hl
def P0(n:Nat):Prop:=∀(e:E) (s:Nm),Wf e->e.cX<=n->e.cX<=400->qx s->ap Tryz.prog 101 [.agg [.v (.string (mk e.at)),e.sp],.v (.string (mk s))] [] (kU (lf (cL e []) s))
theorem j4{e:E}{s:Nm}(h:Wf e):∀t,lf (cL e []) s=some t->fV t:=fun t ht=>h.qi.dv (cK.1 ht)
theorem qM{t:Ty}(h:fV t):∀d,nl t=some d->fV d:=fun d hd=>by obtain⟨_,rfl⟩:=eJ.1 hd;exact h
theorem Ol(n:Nat)(ih:P0 n)(m:Nm)(B:E)(hm:qx m)(hB:Wf B)(hl:(E.list [.atom dD,.atom m,B]).cX<=n+1)(hl4:(E.list [.atom dD,.atom m,B]).cX<=400)(s:Nm)(hs:qx s) :
 ap Tryz.prog 145 [.agg [.v (.string (mk [])),(E.list [.atom dD,.atom m,B]).sp],.v (.string (mk s))] [] (kU (lf (cL (.list [.atom dD,.atom m,B]) []) s)):=by
 have hw:Wf (.list [.atom dD,.atom m,B]):=.rc hm hB
 have hsz:=hw.sz
 have hA:=Dk hw (.sl [[.v (.string (mk s)),zN]]) [.atom s] ⟨(cd _).mpr trivial,by simp only[fD,E.bj,fF];rfl⟩ (by omega) (fun o ho=>by
  simp only[aI,List.not_mem_nil,or_false]at ho
  subst ho
  exact⟨.atom hs.1,by simp[E.sz]⟩) (by simp)
 have hatsB:B.cX+2=(E.list [.atom dD,.atom m,B]).cX:=by simp only[E.cX,E.eW];omega
 have hT:cL (.list [.atom dD,.atom m,B]) []=.rc (cL B [m]):=fj _ _ _
 obtain⟨w1,w2,_,_,w5⟩:=ku (zM (.list [.atom dD,.atom m,B]) [.atom s]) (cL (.list [.atom dD,.atom m,B]) []) [] 0 (.nil _ _) (tK hw []) fun y hy=>⟨aA _ ((lP hw [] [] y).2 (.inr hy)),(na hw [] y hy).1⟩
 have hsF:s∈zM (.list [.atom dD,.atom m,B]) [.atom s]:=az _ (rk (o:=.atom s) (by simp) (.atom hs.1) (by rw[qX hs];simp[bg]))
 have haF:∀y,bg y (cL B [m])=true->y∈zM (.list [.atom dD,.atom m,B]) [.atom s]:=fun y hy=>aA _ ((lP hw [] [] y).2 (.inr (by rw[hT];exact hy)))
 unfold yF at hA
 rw[hT]at hA w1 w2 w5
 rw[hT]
 generalize zM (.list [.atom dD,.atom m,B]) [.atom s]=F at *
 obtain⟨_,_,_,hxF⟩:=gx F 0
 simp only[gP,aT]at hA w1 w2 w5
 generalize hxd:tN (nx F 0)=x at *
 have hx:qx x:=by rw[<-hxd];exact xI _
 generalize (gP F (cL B [m]) [x] (nx F 0+1)).1=b at *
 have hb:Wf b:=by cases w1;assumption
 rw[fj]at w2
 have hbt:cL b [x]=cL B [m]:=by injection w2
 have hxa:bg x (cL B [m])=false:=by
  cases q:bg x (cL B [m])with
  |false=>rfl
  |true=>exact absurd (haF x q) hxF
 have hxs:x≠s:=fun e=>hxF (by rw[e];exact hsF)
 generalize cL B [m]=a at *
 have hbo:cL b []=dy (.name x) a 0:=by
  have:=xD x hb []
  rw[cH,hbt]at this;exact this
 have hba:b.cX+2=(E.list [.atom dD,.atom m,B]).cX:=by
  rw[hw.cX [],hT,hb.cX [],hbo,fJ];simp only[Ty.aC];omega
 have i1:=ih b s hb (by omega) (by omega) hs
 have i2:=ih b x hb (by omega) (by omega) hx
 have n1:=j4 (s:=s) hb
 have n2:=j4 (s:=x) hb
 rw[hbo]at i1 i2 n1 n2
 have hP:=P3.of (.atom dD) (.atom x) b
 rw[A5 hxa hxs]
 have hE1:Wf (.list [.atom dD,.atom x,b]):=w1
 have hE1t:cL (.list [.atom dD,.atom x,b]) []=.rc a:=by rw[fj];exact w2
 have hE1l:(E.list [.atom dD,.atom x,b]).cX<=400:=by
  have:(E.list [.atom dD,.atom x,b]).cX=b.cX+2:=by simp only[E.cX,E.eW];omega
  omega
 refine Na _ _ _ ((aU _).mpr trivial) ?_
 unfold Ld
 refine ai hA ?_
 simp only[↓zq,zs,af,zt,aK,bC,toNat_one,a7,hP.1,hP.2.1,hP.2.2.1,hP.2.2.2,dX]
 repeat refine⟨by omega,?_⟩
 refine aO i1 (kU.ne n1) ?_
 rintro r o ⟨rfl,c1,d1,hd1,rfl,hc1⟩
 simp only[↓zq,zs,af,zt,gy hd1]
 repeat refine⟨by omega,?_⟩
 refine aO i2 (kU.ne n2) ?_
 rintro r o ⟨rfl,c2,d2,hd2,rfl,hc2⟩
 simp only[↓zq,zs,af,zt,gy hd2]
 cases q1:lf (dy (.name x) a 0) s with
 |
  none =>
  simp only[cj,bK]
  exact⟨fun _=>kU.no _ _ ((aU _).mpr trivial),fun h=>(by cases h)⟩
 |some c =>
 cases q2:lf (dy (.name x) a 0) x with
 |
  none =>
  simp only[cj,bH,bK,a8]
  exact⟨fun h=>(by cases h),fun _=>⟨fun _=>kU.no _ _ ((aU _).mpr trivial),fun h=>(by cases h)⟩⟩
 |some d =>
 simp only[bH,a8]
 refine⟨fun h=>(by cases h),fun _=>⟨fun h=>(by cases h),fun _=>?_⟩⟩
 obtain⟨ec,wc,tc,rfl,rfl⟩:=hc1 c q1
 obtain⟨ed,wd,td,rfl,rfl⟩:=hc2 d q2
 have lc:=(cK.1 q1).small
 have ld:=(cK.1 q2).small
 have p1:=F6 hx wc hE1 (wc.iL tc lc) hE1l
 have p2:=F6 hx wd hE1 (wd.iL td ld) hE1l
 have g1:=qM (hE1.qi.sub (x:=x) wc.qi)
 have g2:=qM (hE1.qi.sub (x:=x) wd.qi)
 rw[hE1t,tc]at p1 g1
 rw[hE1t,td]at p2 g2
 simp only[bC]at p1 p2
 repeat refine⟨by omega,?_⟩
 refine aO p1 (kU.ne g1) ?_
 rintro r o ⟨rfl,c3,d3,hd3,rfl,hc3⟩
 simp only[↓zq,zs,af,zt,gy hd3]
 repeat refine⟨by omega,?_⟩
 refine aO p2 (kU.ne g2) ?_
 rintro r o ⟨rfl,c4,d4,hd4,rfl,hc4⟩
 simp only[↓zq,zs,af,zt,gy hd4]
 have big:∀t:Ty,nl t=none->¬t.aC<=400:=fun t ht hle=>by unfold nl at ht;rw[if_pos hle]at ht;cases ht
 have out0:(nl (sub x (.rc a) c)=none\/nl (sub x (.rc a) d)=none)->nl (pg a x c d)=none:=fun h=>by
  unfold nl
  rw[if_neg fun hle=>?_]
  have:=uq hle
  rcases h with h|h
  ·exact big _ h this.1
  ·exact big _ h this.2
 cases q3:nl (sub x (.rc a) c)with
 |
  none =>
  rw[out0 (.inl q3)]
  simp only[cj]
  exact⟨fun _=>kU.no _ _ ((aU _).mpr trivial),fun h=>(by cases h)⟩
 |some c' =>
 cases q4:nl (sub x (.rc a) d)with
 |
  none =>
  rw[out0 (.inr q4)]
  simp only[cj,bH]
  exact⟨fun h=>(by cases h),fun _=>⟨fun _=>kU.no _ _ ((aU _).mpr trivial),fun h=>(by cases h)⟩⟩
 |some d' =>
 simp only[bH]
 refine⟨fun h=>(by cases h),fun _=>⟨fun h=>(by cases h),fun _=>?_⟩⟩
 obtain⟨ec',wc',tc',rfl,rfl⟩:=hc3 c' q3
 obtain⟨ed',wd',td',rfl,rfl⟩:=hc4 d' q4
 obtain⟨lc',e3⟩:=eJ.1 q3
 obtain⟨ld',e4⟩:=eJ.1 q4
 rw[e3]at lc';rw[e4]at ld'
 have z1:=wc'.sz
 have z2:=wd'.sz
 have k1:=wc'.iL tc' lc'
 have k2:=wd'.iL td' ld'
 have f1:=CX wd' [] [] (.sl []) (.of []) (by simp;omega)
 have fl1:=ga ed' [] []
 have fl2:=ga ec' [] (j9 ed' [] [])
 simp only[aG,aV]at fl1
 have f2:=CX wc' [] (j9 ed' [] []) (.sl []) (.of []) (by simp;omega)
 refine bc f1 ?_
 simp only[↓zq,zs,af,zt,bi,bB,Ob.es]
 refine bc f2 ?_
 simp only[↓zq,zs,af,zt,bi,bB,Ob.es]
 have hF3:∀y,(bg y c'=true\/bg y d'=true)->y∈j9 ec' [] (j9 ed' [] []):=fun y hy=>by
  rw[lP wc',lP wd']
  rcases hy with hy|hy
  ·exact .inr (by rw[tc'];exact hy)
  ·exact .inl (.inr (by rw[td'];exact hy))
 generalize j9 ec' [] (j9 ed' [] [])=F3 at *
 obtain⟨_,y2,_,hyF⟩:=gx F3 0
 refine cw (Jj F3 (by omega) _ _ _ _ ((aU _).mpr trivial) ((aU _).mpr trivial) (F3.length+1) 0 (by show nx F3 0<_;omega) (by omega)) ?_
 have hnx:pK F3 (F3.length+1) 0=nx F3 0:=rfl
 rw[hnx]
 simp only[↓zq,zs,af,zt,af,aM,bu,aU]
 refine ai (za (nx F3 0+1) (nx F3 0) (by omega) (by omega)) ?_
 have hdl:=mD (nx F3 0+1) (nx F3 0) (by omega)
 simp only[↓zq,zs,af,zt,ba,aT]
 refine⟨by omega,?_⟩
 obtain⟨y,hyd⟩:∃y:Nm,(116::dd (nx F3 0):Nm)=y:=⟨_,rfl⟩
 rw[hyd]
 rw[show tN (nx F3 0)=y from hyd]at hyF
 have hy:qx y:=by rw[<-hyd];exact xI _
 have hcy:cL ec' [y]=c':=by
  have:=uh [y] wc' [] (fun z hz hm=>hyF (by
   simp only[aS]at hm
   rw[<-hm];exact hF3 z (.inl (by rw[<-tc'];exact hz))))
  rw[cH,tc']at this;exact this
 have hdy:cL ed' [y]=d':=by
  have:=uh [y] wd' [] (fun z hz hm=>hyF (by
   simp only[aS]at hm
   rw[<-hm];exact hF3 z (.inr (by rw[<-td'];exact hz))))
  rw[cH,td']at this;exact this
 have hyb:cL (.atom y) [y]=.bJ 0:=by
  simp only[cL];rw[if_neg hy.2.1,if_neg hy.2.2,show bG y [y] [y].length=some 0 from fm y []]
 let o1:E:=.list [.atom [42],ed',.atom y]
 let o2:E:=.list [.atom [43],ec',o1]
 let o3:E:=.list [.atom dD,.atom y,o2]
 have hw3:Wf o3:=.rc hy (.plus wc' (.times wd' (.atom hy.1)))
 have ht3:cL o3 []=pg a x c d:=by
  show cL (.list [.atom dD,.atom y,o2]) []=_
  rw[fj]
  show Ty.rc (cL (.list [.atom [43],ec',o1]) [y])=_
  rw[dK]
  show Ty.rc (.plus (cL ec' [y]) (cL (.list [.atom [42],ed',.atom y]) [y]))=_
  rw[dm,hcy,hdy,hyb,pg,e3,e4]
 have m1:=wL [42] ed' (.atom y)
 have m2:=wL [43] ec' o1
 have m3:=wL dD (.atom y) o2
 simp only[o1,bC,dX]at m1 m2 m3
 refine ai m1 ?_
 simp only[↓zq,zs,af,zt,aK]
 repeat refine⟨by omega,?_⟩
 refine ai m2 ?_
 simp only[↓zq,zs,af,zt,aK]
 repeat refine⟨by omega,?_⟩
 refine ai m3 ?_
 simp only[↓zq,zs,af,zt,aK]
 repeat refine⟨by omega,?_⟩
 have z3:=hw3.sz
 have hats3:o3.cX=ec'.cX+ed'.cX+5:=by simp only[o3,o2,o1,E.cX,E.eW];omega
 have ma:=CH o3 hw3.ok (by omega)
 rw[dh]at ma
 simp only[o3,o2,o1,bC]at ma
 refine ai ma ?_
 simp only[↓zq,zs,af,zt]
 have hd3:(pg a x c d).aC=o3.cX:=by rw[<-ht3,<-hw3.cX []]
 unfold nl
 by_cases hle:(pg a x c d).aC<=400
 ·rw[if_pos hle]
  have:=kU.of hw3
  rw[ht3]at this
  rw[show decide ((((E.list [.atom dD,.atom y,.list [.atom [43],ec',.list [.atom [42],ed',.atom y]]]).cX:Nat):Int)<=400)=true from decide_eq_true (by show ((o3.cX:Nat):Int)<=400;omega)]
  exact this
 ·rw[if_neg hle]
  rw[show decide ((((E.list [.atom dD,.atom y,.list [.atom [43],ec',.list [.atom [42],ed',.atom y]]]).cX:Nat):Int)<=400)=false from decide_eq_false (by show ¬((o3.cX:Nat):Int)<=400;omega)]
  exact kU.no _ _ ((aU o3).mpr trivial)
theorem yz:∀n,P0 n
 |0=>fun e s h hl=>by have:=ep (cL e []);rw[<-h.cX []]at this;omega
 |
  n+1=>by
  intro e s h hl h4 hs
  cases h with
  |
   @atom c hc =>
   refine Dm _ _ _ ((aU _).mpr trivial) ?_
   simp only[A8,dX,↓zq,zs,af,zt]
   refine⟨fun _=>⟨fun he=>?_,fun hne=>?_⟩,fun h=>absurd h hc⟩
   ·have he:c=s:=he
    subst he
    rw[qX hs,n8,if_pos rfl]
    exact kU.of (e:=.atom [49]) (.atom (by simp))
   ·have hne:¬c=s:=hne
    have:lf (cL (.atom c) []) s=some .zero:=by
     simp only[cL]
     split
     ·exact uB _
     ·split
      ·exact yl _
      ·rw[show bG c [] ([]:List Nm).length=none from rfl,n8,if_neg hne]
    rw[this]
    exact kU.of (e:=.atom [48]) (.atom (by simp))
  |
   @plus x y hx hy =>
   have hxy:(E.list [.atom [43],x,y]).cX=x.cX+y.cX+1:=by simp only[E.cX,E.eW];omega
   have p1:1<=x.cX:=by rw[hx.cX []];exact ep _
   have p2:1<=y.cX:=by rw[hy.cX []];exact ep _
   refine Dm _ _ _ ((aU _).mpr trivial) ?_
   have hP:=P3.of (.atom [43]) x y
   simp only[A8,bC,toNat_one,a7,↓zq,zs,af,zt,hP.1,hP.2.1,hP.2.2.1,hP.2.2.2,aK]
   refine⟨fun h=>absurd rfl h,fun _=>?_⟩
   refine ai (nO [43] x y) ?_
   simp only[↓zq,zs,af,zt]
   refine⟨fun h=>by simp at h,fun _=>?_⟩
   repeat refine⟨by omega,?_⟩
   rw[dK,vC]
   refine aO (yz n x s hx (by omega) (by omega) hs) (kU.ne (j4 hx)) ?_
   rintro r o ⟨rfl,c1,d1,hd1,rfl,hc1⟩
   simp only[↓zq,zs,af,zt,gy hd1]
   repeat refine⟨by omega,?_⟩
   refine aO (yz n y s hy (by omega) (by omega) hs) (kU.ne (j4 hy)) ?_
   rintro r o ⟨rfl,c2,d2,hd2,rfl,hc2⟩
   simp only[↓zq,zs,af,zt,gy hd2]
   refine ai (Bd [43] c1 c2 d1 d2) ?_
   simp only[↓zq,zs,af,zt,bz,dI,cd]
   repeat refine⟨by omega,?_⟩
   refine ai (nO [43] x y) ?_
   simp only[↓zq,zs,af,zt]
   refine⟨fun h=>by simp at h,fun _=>?_⟩
   cases q1:lf (cL x []) s with
   |
    none =>
    simp only[cj,bK]
    exact⟨fun h=>(by cases h),fun _=>kU.no _ _ ((cd _).mpr trivial)⟩
   |some tx =>
   cases q2:lf (cL y []) s with
   |
    none =>
    simp only[cj,bH,bK,a8]
    exact⟨fun _=>⟨fun h=>(by cases h),fun _=>kU.no _ _ ((cd _).mpr trivial)⟩,fun h=>(by cases h)⟩
   |some t2 =>
   simp only[bH,a8]
   refine⟨fun _=>⟨fun _=>?_,fun h=>(by cases h)⟩,fun h=>(by cases h)⟩
   obtain⟨e1,w1,te1,rfl,rfl⟩:=hc1 tx q1
   obtain⟨e2,w2,te2,rfl,rfl⟩:=hc2 t2 q2
   have l1:=w1.iL te1 (cK.1 q1).small
   have l2:=w2.iL te2 (cK.1 q2).small
   have z1:=w1.sz
   have z2:=w2.sz
   have hw3:Wf (.list [.atom [43],e1,e2]):=.plus w1 w2
   have ht3:cL (.list [.atom [43],e1,e2]) []=.plus tx t2:=by rw[dK,te1,te2]
   have ma:=CH _ hw3.ok (by simp only[E.sz,E.jt];omega)
   rw[dh]at ma
   simp only[bC]at ma
   have e3:AV.sl [[.v (.string (mk [43])),zN],[.v (.string (mk e1.at)),e1.sp],[.v (.string (mk e2.at)),e2.sp]]=(E.list [.atom [43],e1,e2]).sp:=by simp only[E.sp,E.bj,fF];rfl
   rw[e3]
   refine ai ma ?_
   simp only[↓zq,zs,af,zt]
   have hd3:(Ty.plus tx t2).aC=(E.list [.atom [43],e1,e2]).cX:=by rw[<-ht3,<-hw3.cX []]
   unfold nl
   by_cases hle:(Ty.plus tx t2).aC<=400
   ·rw[if_pos hle,show decide ((((E.list [.atom [43],e1,e2]).cX:Nat):Int)<=400)=true from decide_eq_true (by omega)]
    have:=kU.of hw3
    rw[ht3]at this
    exact this
   ·rw[if_neg hle,show decide ((((E.list [.atom [43],e1,e2]).cX:Nat):Int)<=400)=false from decide_eq_false (by omega)]
    exact kU.no _ _ ((aU _).mpr trivial)
  |
   @times x y hx hy =>
   have hxy:(E.list [.atom [42],x,y]).cX=x.cX+y.cX+1:=by simp only[E.cX,E.eW];omega
   have p1:1<=x.cX:=by rw[hx.cX []];exact ep _
   have p2:1<=y.cX:=by rw[hy.cX []];exact ep _
   refine Dm _ _ _ ((aU _).mpr trivial) ?_
   have hP:=P3.of (.atom [42]) x y
   simp only[A8,bC,toNat_one,a7,↓zq,zs,af,zt,hP.1,hP.2.1,hP.2.2.1,hP.2.2.2,aK]
   refine⟨fun h=>absurd rfl h,fun _=>?_⟩
   refine ai (nO [42] x y) ?_
   simp only[↓zq,zs,af,zt]
   refine⟨fun h=>by simp at h,fun _=>?_⟩
   repeat refine⟨by omega,?_⟩
   rw[dm,sX]
   refine aO (yz n x s hx (by omega) (by omega) hs) (kU.ne (j4 hx)) ?_
   rintro r o ⟨rfl,c1,d1,hd1,rfl,hc1⟩
   simp only[↓zq,zs,af,zt,gy hd1]
   repeat refine⟨by omega,?_⟩
   refine aO (yz n y s hy (by omega) (by omega) hs) (kU.ne (j4 hy)) ?_
   rintro r o ⟨rfl,c2,d2,hd2,rfl,hc2⟩
   simp only[↓zq,zs,af,zt,gy hd2]
   refine ai (Bd [43] c1 c2 d1 d2) ?_
   simp only[↓zq,zs,af,zt,bz,dI,cd]
   repeat refine⟨by omega,?_⟩
   refine ai (nO [42] x y) ?_
   simp only[↓zq,zs,af,zt]
   refine⟨fun _=>?_,fun h=>by simp at h⟩
   repeat refine⟨by omega,?_⟩
   refine ai (Bd [42] c1 y.at d1 y.sp) ?_
   simp only[↓zq,zs,af,zt,bz,dI,cd,aU]
   repeat refine⟨by omega,?_⟩
   refine ai (Bd [42] x.at c2 x.sp d2) ?_
   simp only[↓zq,zs,af,zt,bz,dI,cd,aU]
   repeat refine⟨by omega,?_⟩
   refine ai (Bd [43] [] [] _ _) ?_
   simp only[↓zq,zs,af,zt,bz,dI,cd]
   repeat refine⟨by omega,?_⟩
   cases q1:lf (cL x []) s with
   |
    none =>
    simp only[cj,bK]
    exact⟨fun h=>(by cases h),fun _=>kU.no _ _ ((cd _).mpr trivial)⟩
   |some tx =>
   cases q2:lf (cL y []) s with
   |
    none =>
    simp only[cj,bH,bK,a8]
    exact⟨fun _=>⟨fun h=>(by cases h),fun _=>kU.no _ _ ((cd _).mpr trivial)⟩,fun h=>(by cases h)⟩
   |some t2 =>
   simp only[bH,a8]
   refine⟨fun _=>⟨fun _=>?_,fun h=>(by cases h)⟩,fun h=>(by cases h)⟩
   obtain⟨e1,w1,te1,rfl,rfl⟩:=hc1 tx q1
   obtain⟨e2,w2,te2,rfl,rfl⟩:=hc2 t2 q2
   have l1:=w1.iL te1 (cK.1 q1).small
   have l2:=w2.iL te2 (cK.1 q2).small
   have z1:=w1.sz
   have z2:=w2.sz
   have z3:=hx.sz
   have z4:=hy.sz
   have hw3:Wf (.list [.atom [43],.list [.atom [42],e1,y],.list [.atom [42],x,e2]]):=.plus (.times w1 hy) (.times hx w2)
   have ht3:cL (.list [.atom [43],.list [.atom [42],e1,y],.list [.atom [42],x,e2]]) []=.plus (.times tx (cL y [])) (.times (cL x []) t2):=by rw[dK,dm,dm,te1,te2]
   have ma:=CH _ hw3.ok (by simp only[E.sz,E.jt];omega)
   rw[dh]at ma
   simp only[bC]at ma
   have e3:AV.sl [[.v (.string (mk [43])),zN],[.v (.string (mk [])),.sl [[.v (.string (mk [42])),zN],[.v (.string (mk e1.at)),e1.sp],[.v (.string (mk y.at)),y.sp]]],[.v (.string (mk [])),.sl [[.v (.string (mk [42])),zN],[.v (.string (mk x.at)),x.sp],[.v (.string (mk e2.at)),e2.sp]]]]=(E.list [.atom [43],.list [.atom [42],e1,y],.list [.atom [42],x,e2]]).sp:=by simp only[E.sp,E.bj,fF];rfl
   rw[e3]
   refine ai ma ?_
   simp only[↓zq,zs,af,zt]
   have hd3:(Ty.plus (.times tx (cL y [])) (.times (cL x []) t2)).aC=(E.list [.atom [43],.list [.atom [42],e1,y],.list [.atom [42],x,e2]]).cX:=by rw[<-ht3,<-hw3.cX []]
   unfold nl
   by_cases hle:(Ty.plus (.times tx (cL y [])) (.times (cL x []) t2)).aC<=400
   ·rw[if_pos hle,show decide ((((E.list [.atom [43],.list [.atom [42],e1,y],.list [.atom [42],x,e2]]).cX:Nat):Int)<=400)=true from decide_eq_true (by omega)]
    have:=kU.of hw3
    rw[ht3]at this
    exact this
   ·rw[if_neg hle,show decide ((((E.list [.atom [43],.list [.atom [42],e1,y],.list [.atom [42],x,e2]]).cX:Nat):Int)<=400)=false from decide_eq_false (by omega)]
    exact kU.no _ _ ((aU _).mpr trivial)
  |
   @rc m B hm hB =>
   have hlp:=Ol n (yz n) m B hm hB hl h4 s hs
   have hg:=j4 (s:=s) (Wf.rc hm hB)
   refine Dm _ _ _ ((aU _).mpr trivial) ?_
   have hP:=P3.of (.atom dD) (.atom m) B
   simp only[A8,bC,toNat_one,a7,↓zq,zs,af,zt,hP.1,hP.2.1,hP.2.2.1,hP.2.2.2,aK]
   refine⟨fun h=>absurd rfl h,fun _=>?_⟩
   refine ai (nO dD (.atom m) B) ?_
   simp only[↓zq,zs,af,zt]
   refine⟨fun _=>?_,fun h=>absurd rfl h⟩
   refine aO hlp (kU.ne hg) ?_
   rintro r o ⟨rfl,c1,d1,hd1,rfl,hc1⟩
   simp only[↓zq,zs,af,zt,gy hd1]
   exact⟨rfl,c1,d1,hd1,rfl,hc1⟩
end Go.Proofs.Trees
namespace Go.Proofs.Trees
open Go Go.VL Go.RowKit
theorem nT:∀(n k:Nat),k<10 ^ (n+1)->(dd k).length<=n+1
 |0,k,h=>by rw[eH (by omega)];simp
 |
  n+1,k,h=>by
  by_cases h1:k<10
  ·rw[eH h1];simp
  ·rw[fP h1]
   have:=nT n (k/10) (by
    have:10 ^ (n+1+1)=10*10 ^ (n+1):=by rw[Nat.pow_succ,Nat.mul_comm]
    omega)
   simp;omega
inductive Sh:E->Prop
 |atom {s:Nm} (h:s.length<=20):Sh (.atom s)
 |l3 {h:Nm} {a b:E} (hh:h.length<=20) (ha:Sh a) (hb:Sh b):Sh (.list [.atom h,a,b])
theorem Sh.dq{e:E}(hw:Wf e)(h:Sh e):(eY e).length<=50*e.cX:=by
 induction hw with
 |atom _=>cases h with|atom h=>simp only[eY,E.cX];omega
 |
  plus _ _ i1 i2 =>
  cases h with|l3 hh ha hb =>
  have:=i1 ha
  have:=i2 hb
  simp only[eY,ek,aw,an,aG,E.cX,E.eW];omega
 |
  times _ _ i1 i2 =>
  cases h with|l3 hh ha hb =>
  have:=i1 ha
  have:=i2 hb
  simp only[eY,ek,aw,an,aG,E.cX,E.eW];omega
 |
  rc _ _ i =>
  cases h with|l3 hh ha hb =>
  cases ha with|atom ha =>
  have:=i hb
  simp only[eY,ek,aw,an,aG,E.cX,E.eW];omega
def uu(t:Ty):Prop:=∀y,bg y t=true->y.length<=20
theorem vS{k:Nat}(h:k<100000000):(tN k).length<=20:=by
 have:=nT 7 k (by omega)
 simp;omega
theorem pi(F:List Nm)(hF:F.length<=10000):∀(t:Ty) (to:List Nm) (k:Nat),uu t->(∀w,w∈to->w.length<=20)->k+(F.length+1)*t.aC<90000000->Sh (gP F t to k).1
 | .zero,_,_,_,_,_=>.atom (by simp)
 | .one,_,_,_,_,_=>.atom (by simp)
 | .name s,_,_,hn,_,_=>.atom (hn s (by simp[bg]))
 |
  .bJ u,to,_,_,ht,_=>by
  refine .atom ?_
  show (gh to u).length<=20
  unfold gh
  by_cases h:to.length-1-u<to.length
  ·rw[aa,bm h];exact ht _ (bQ h)
  ·rw[aa,List.getElem?_eq_none (by omega)];simp
 |
  .plus a b,to,k,hn,ht,hk=>by
  have h1:=ij F a to k
  have:(F.length+1)*(1+a.aC+b.aC)=(F.length+1)+(F.length+1)*a.aC+(F.length+1)*b.aC:=by simp only[cP,dG]
  simp only[Ty.aC]at hk
  exact .l3 (by simp) (pi F hF a to k (fun y hy=>hn y (by simp[bg,hy])) ht (by omega)) (pi F hF b to _ (fun y hy=>hn y (by simp[bg,hy])) ht (by omega))
 |
  .times a b,to,k,hn,ht,hk=>by
  have h1:=ij F a to k
  have:(F.length+1)*(1+a.aC+b.aC)=(F.length+1)+(F.length+1)*a.aC+(F.length+1)*b.aC:=by simp only[cP,dG]
  simp only[Ty.aC]at hk
  exact .l3 (by simp) (pi F hF a to k (fun y hy=>hn y (by simp[bg,hy])) ht (by omega)) (pi F hF b to _ (fun y hy=>hn y (by simp[bg,hy])) ht (by omega))
 |
  .rc a,to,k,hn,ht,hk=>by
  obtain⟨g1,g2,_,_⟩:=gx F k
  have:(F.length+1)*(2+a.aC)=(F.length+1)*2+(F.length+1)*a.aC:=by simp only[cP]
  simp only[Ty.aC]at hk
  have hl:=vS (k:=nx F k) (by omega)
  exact .l3 (by simp) (.atom hl) (pi F hF a _ _ hn (fun w hw=>by
   rcases aL.1 hw with hw|hw
   ·exact ht w hw
   ·simp only[aS]at hw;rw[hw];exact hl) (by omega))
def DX(t:Ty):Nm:=eY (gP (bF t []) t [] 0).1
def told(t:Ty):Option Nm:=if t.aC<=400/\(qy (DX t)).isSome=true then some (DX t)else none
theorem Cj{t:Ty}(g:fV t)(hs:uu t)(ha:t.aC<=400):(DX t).length<=20000:=by
 obtain⟨h1,h2,_⟩:=ku (bF t []) t [] 0 (.nil _ _) g.1 fun y hy=>⟨(eM t [] y).2 (.inr hy),g.2 y hy⟩
 have hn:=eC t []
 simp only[aG,aV]at hn
 have hm:((bF t []).length+1)*t.aC<=401*400:=Nat.mul_le_mul (by omega) ha
 have:=(pi (bF t []) (by omega) t [] 0 hs (fun w hw=>by cases hw) (by omega)).dq h1
 have:=h1.iL h2 ha
 unfold DX;omega
theorem tY(s:Nm):(vM s).isSome=(qy s).isSome:=by
 rw[tR]
 cases he:vM s with
 |none=>rfl
 |
  some e =>
  obtain⟨h1,h2,h3⟩:=pw he
  simp only[iO e [],h2];rfl
theorem OW(s:Nm):ap Tryz.prog 146 [.v (.string (mk s))] [] (bD (.v (.bool (qy s).isSome))):=by
 refine Oa _ ?_
 unfold Md
 refine aO (Gw s) (jn.ne _ _ (fun h=>h)) ?_
 rintro r o ⟨c,d,hd,rfl,hh⟩
 have hhas:bz [.str,.sl] [.v (.string (mk c)),d] 0:=by simp[bz,dI,hd]
 simp only[↓zq,zs,af,zt,tY]
 exact⟨hhas,rfl,rfl⟩
theorem Pj{e:E}(h:Wf e)(hl:e.cX<=400)(hs:uu (cL e [])):ap Tryz.prog 102 [.agg [.v (.string (mk e.at)),e.sp]] [] (bD (lu (told (cL e [])))):=by
 refine OO _ _ ((aU _).mpr trivial) ?_
 unfold J2
 have z:=h.sz
 have ma:=CH e h.ok (by omega)
 rw[dh]at ma
 have hA:=Dk h zN [] ⟨(bu).mpr trivial,rfl⟩ (by omega) (fun o ho=>by cases ho) (by simp)
 have ha:(cL e []).aC<=400:=by rw[<-h.cX []];exact hl
 have hc:yF e []=(gP (bF (cL e []) []) (cL e []) [] 0).1:=by
  unfold yF zM rJ
  rw[List.flatMap_nil,cH,jI (F':=bF (cL e []) []) fun y=>by rw[lP h,eM]]
 have hx:eY (yF e [])=DX (cL e []):=by rw[hc];rfl
 have hlen:=Cj h.qi hs ha
 have hT:=DF (yF e []) (wW h).1.ok (by rw[hx];omega)
 rw[dh,hx]at hT
 refine ai ma ?_
 simp only[↓zq,zs,af,zt]
 refine⟨fun h=>by omega,fun _=>?_⟩
 refine ai hA ?_
 simp only[↓zq,zs,af,zt,aK]
 refine ai hT ?_
 simp only[↓zq,zs,af,zt]
 refine ai (OW _) ?_
 simp only[↓zq,zs,af,zt]
 unfold told
 refine⟨fun hn=>?_,fun hy=>?_⟩
 ·rw[if_neg (by rw[hn];simp)];exact⟨rfl,rfl⟩
 ·rw[if_pos ⟨ha,hy⟩];exact⟨rfl,rfl⟩
abbrev lT:Nm:=[35,49]
noncomputable def cY (s:Nm):Option Nm:=match qy s with
 |some (.rc a)=>(nN a lT).bind told
 |_=>none
theorem nK{s:Nm}{t:Ty}(h:qy s=some t):∃e,vM s=some e/\Wf e/\cL e []=t/\e.cX<=400/\e.ok:=by
 rw[tR]at h
 cases he:vM s with
 |none=>rw[he]at h;cases h
 |
  some e =>
  rw[he]at h
  obtain⟨h1,h2,h3⟩:=pw he
  obtain⟨hok,_⟩:=nH h1
  obtain⟨w1,w2⟩:=ki e [] t hok (fun w hw=>by cases hw) h
  exact⟨e,rfl,w1,w2,h3,hok⟩
theorem rI{e:E}{x:Nm}{a d:Ty}(hw:Wf e)(ht:cL e []=.rc a)(hx:qx x)(hd:nN a x=some d):fV d/\(uu (.rc a)->uu d):=by
 simp only[nN,a6,cK,eJ]at hd
 obtain⟨d',h1,_,rfl⟩:=hd
 have g:fV (.rc a):=ht ▸ hw.qi
 have go:fV (dy (.name x) a 0):=⟨gH x a g.1,fun y hy=>by
  rcases gA a 0 hy with rfl|h
  ·exact hx
  ·exact g.2 y h⟩
 refine⟨g.sub (go.dv h1),fun hs y hy=>?_⟩
 rcases i6 _ hy with h|⟨h,h'⟩
 ·exact hs y h
 ·rcases gA a 0 (h1.names y h')with e|e
  ·exact absurd e h
  ·exact hs y e
def IS(y:Nm):Prop:=gV y=true\/db y=true
theorem iJ:∀(e:E) (ar:List Nm) (t:Ty),cN e ar=some t->∀y,bg y t=true->IS y
 |
  .atom s,ar,t,ht,y,hy=>by
  simp only[cN]at ht
  split at ht
  ·cases ht;cases hy
  ·split at ht
   ·cases ht;cases hy
   ·split at ht
    ·rename_i hp
     cases ht
     simp only[bg,decide_eq_true_eq]at hy
     subst hy;exact .inl hp
    ·split at ht
     ·rename_i hq
      split at ht
      ·cases ht;cases hy
      ·cases ht
       simp only[bg,decide_eq_true_eq]at hy
       subst hy;exact .inr hq
     ·cases ht
 |
  .list [x,a,b],ar,t,ht,y,hy=>by
  by_cases h0:x.at=[43]
  ·obtain⟨t1,t2,h1,h2,rfl⟩:=fH h0 ht
   simp only[bg,bo]at hy
   rcases hy with hy|hy
   ·exact iJ a ar t1 h1 y hy
   ·exact iJ b ar t2 h2 y hy
  ·by_cases h1:x.at=[42]
   ·obtain⟨t1,t2,h2,h3,rfl⟩:=fk h1 ht
    simp only[bg,bo]at hy
    rcases hy with hy|hy
    ·exact iJ a ar t1 h2 y hy
    ·exact iJ b ar t2 h3 y hy
   ·by_cases h2:x.at=[114,101,99]
    ·obtain⟨t1,hla,h3,rfl⟩:=dw h2 ht
     exact iJ b _ t1 h3 y hy
    ·rw[jb _ h0 h1 h2]at ht;cases ht
 | .list [],ar,t,ht,_,_=>by cases ht
 | .list [_],ar,t,ht,_,_=>by cases ht
 | .list [_,_],ar,t,ht,_,_=>by cases ht
 | .list (_::_::_::_::_),ar,t,ht,_,_=>by cases ht
theorem vZ{y:Nm}(h:IS y):y.length<=3/\∀r,y≠35::r:=by
 have key:∀lo hi,116<=lo->named lo hi y=true->y.length<=3/\∀r,y≠35::r:=fun lo hi hlo h=>by
  cases y with
  |nil=>cases h
  |
   cons c r =>
   simp only[named,au,decide_eq_true_eq]at h
   refine⟨by simp;omega,fun r' e=>?_⟩
   have:c=35:=by injection e
   subst this
   have:=h.1.2.1
   have e35:(35:UInt8).toNat=35:=rfl
   omega
 rcases h with h|h
 ·exact key 120 122 (by omega) h
 ·exact key 116 116 (by omega) h
theorem mM{s:Nm}{t:Ty}(h:qy s=some t):∀y,bg y t=true->IS y:=by
 rw[tR]at h
 cases he:vM s with
 |none=>rw[he]at h;cases h
 |some e=>rw[he]at h;exact iJ e [] t h
theorem ub{s:Nm}{a:Ty}(h:qy s=some (.rc a)):bg lT a=false:=by
 cases q:bg lT a with
 |false=>rfl
 |true=>exact absurd rfl ((vZ (mM h lT q)).2 [49])
theorem AF{s:Nm}{t:Ty}(h:qy s=some t):uu t:=fun y hy=>by have:=(vZ (mM h y hy)).1;omega
theorem PT{m:Nm}{B:E}(hm:qx m)(hB:Wf B)(hl:(E.list [.atom dD,.atom m,B]).cX<=400):ap Tryz.prog 124 [.agg [.v (.string (mk [])),(E.list [.atom dD,.atom m,B]).sp]] [] (kU (nN (cL B [m]) m)):=by
 have hw:Wf (.list [.atom dD,.atom m,B]):=.rc hm hB
 have hT:cL (.list [.atom dD,.atom m,B]) []=.rc (cL B [m]):=fj _ _ _
 have hP:=P3.of (.atom dD) (.atom m) B
 have hbo:cL B []=dy (.name m) (cL B [m]) 0:=by
  have:=xD m hB []
  rw[cH]at this;exact this
 have hba:B.cX+2=(E.list [.atom dD,.atom m,B]).cX:=by simp only[E.cX,E.eW];omega
 have i1:=yz 400 B m hB (by omega) (by omega) hm
 have n1:=j4 (s:=m) hB
 rw[hbo]at i1 n1
 refine Ns _ _ ((aU _).mpr trivial) ?_
 simp only[I5,bC,toNat_one,a7,↓zq,zs,af,zt,hP.1,hP.2.1,hP.2.2.1,hP.2.2.2,aK,dX]
 repeat refine⟨by omega,?_⟩
 refine aO i1 (kU.ne n1) ?_
 rintro r o ⟨rfl,c1,d1,hd1,rfl,hc1⟩
 simp only[↓zq,zs,af,zt,gy hd1,nN]
 cases q1:lf (dy (.name m) (cL B [m]) 0) m with
 |
  none =>
  simp only[cj,bK]
  exact⟨fun _=>kU.no _ _ ((aU _).mpr trivial),fun h=>(by cases h)⟩
 |
  some d =>
  simp only[bH,a8]
  refine⟨fun h=>(by cases h),fun _=>?_⟩
  obtain⟨ed,wd,td,rfl,rfl⟩:=hc1 d q1
  have p1:=F6 hm wd hw (wd.iL td (cK.1 q1).small) hl
  have g1:=qM (hw.qi.sub (x:=m) wd.qi)
  rw[hT,td]at p1 g1
  simp only[bC]at p1
  repeat refine⟨by omega,?_⟩
  refine aO p1 (kU.ne g1) ?_
  rintro r o ⟨rfl,c2,d2,hd2,rfl,hc2⟩
  simp only[↓zq,zs,af,zt,gy hd2]
  exact⟨rfl,c2,d2,hd2,rfl,hc2⟩
theorem L4(s:Nm):ap Tryz.prog 68 [.v (.string (mk s))] [] (bD (lu (cY s))):=by
 refine PS _ ?_
 unfold Il
 refine aO (Gw s) (jn.ne _ _ (fun h=>h)) ?_
 rintro r o ⟨c,d,hd,rfl,hh⟩
 have hhas:bz [.str,.sl] [.v (.string (mk c)),d] 0:=by simp[bz,dI,hd]
 simp only[↓zq,zs,af,zt]
 refine⟨hhas,fun h=>?_,fun h=>?_⟩
 ·rw[tY]at h
  have:qy s=none:=by cases hq:qy s<;>simp[hq]at h |-
  unfold cY;rw[this];exact⟨rfl,rfl⟩
 ·rw[tY]at h
  obtain⟨t,ht⟩:=bq.1 h
  obtain⟨e,he,hw,hte,hats,hok⟩:=nK ht
  obtain⟨e',he',hce⟩:=hh (by rw[he];rfl)
  rw[he]at he';cases he'
  have notRec:(∀a,t≠.rc a)->cY s=none:=fun hn=>by
   unfold cY;rw[ht]
   cases t<;>first|rfl|exact absurd rfl (hn _)
  rw[hce,dh]
  cases hw with
  |
   @atom c hc =>
   have hn:cY s=none:=notRec fun a q=>by
    rw[<-hte]at q
    simp only[cL]at q
    split at q
    ·cases q
    ·split at q
     ·cases q
     ·split at q<;>cases q
   rw[hn]
   refine ai (yW c _ ((aU _).mpr trivial) hc) ?_
   simp only[↓zq,zs,af,zt]
   exact⟨fun _=>⟨rfl,rfl⟩,fun h=>by simp at h⟩
  |
   @plus x y hx hy =>
   have hn:cY s=none:=notRec fun a q=>by rw[<-hte,dK]at q;cases q
   rw[hn]
   simp only[bC]
   refine ai (nO [43] x y) ?_
   simp only[↓zq,zs,af,zt]
   exact⟨fun _=>⟨rfl,rfl⟩,fun h=>by simp at h⟩
  |
   @times x y hx hy =>
   have hn:cY s=none:=notRec fun a q=>by rw[<-hte,dm]at q;cases q
   rw[hn]
   simp only[bC]
   refine ai (nO [42] x y) ?_
   simp only[↓zq,zs,af,zt]
   exact⟨fun _=>⟨rfl,rfl⟩,fun h=>by simp at h⟩
  |
   @rc m B hm hB =>
   have hrt:cL (.list [.atom dD,.atom m,B]) []=.rc (cL B [m]):=fj _ _ _
   rw[hrt]at hte
   have hq:cY s=(nN (cL B [m]) m).bind told:=by
    unfold cY;rw[ht,<-hte]
    show (nN (cL B [m]) lT).bind told=_
    rw[ET (ub (by rw[ht,<-hte])) (by
     cases q:bg m (cL B [m])with
     |false=>rfl
     |true=>exact absurd (by simp) (na hB [m] m q).2)]
   rw[hq]
   simp only[bC]
   refine ai (nO dD (.atom m) B) ?_
   simp only[↓zq,zs,af,zt]
   refine⟨fun h=>by simp at h,fun _=>?_⟩
   have hgood:∀d,nN (cL B [m]) m=some d->fV d/\(uu (.rc (cL B [m]))->uu d):=fun d hd=>rI (Wf.rc hm hB) hrt hm hd
   refine aO (PT hm hB hats) (kU.ne fun t h=>(hgood t h).1) ?_
   rintro r o ⟨rfl,c1,d1,hd1,rfl,hc1⟩
   simp only[↓zq,zs,af,zt,gy hd1]
   cases q1:nN (cL B [m]) m with
   |
    none =>
    simp only[cj,bK]
    exact⟨fun _=>⟨rfl,rfl⟩,fun h=>(by cases h)⟩
   |
    some d =>
    simp only[bH,a8]
    refine⟨fun h=>(by cases h),fun _=>?_⟩
    obtain⟨ed,wd,td,rfl,rfl⟩:=hc1 d q1
    have hl:d.aC<=400:=by
     simp only[nN,a6,eJ]at q1
     obtain⟨_,_,h1,h2⟩:=q1
     rw[<-h2];exact h1
    have hcn:=Pj wd (wd.iL td hl) (by rw[td];exact(hgood d q1).2 (hte ▸ AF ht))
    rw[td]at hcn
    refine ai hcn ?_
    cases told d<;>simp only[lu,↓zq,zs,af,zt]<;>exact⟨rfl,rfl⟩
end Go.Proofs.Trees
namespace Go.Proofs.Trees
open Go Go.VL Go.RowKit
def vT(n:Nat):Vl->Ty->Bool
 | .u,.one=>true
 | .el k,.name _=>decide (k<n)
 | .l w,.plus a _=>vT n w a
 | .r w,.plus _ b=>vT n w b
 | .p x y,.times a b=>vT n x a&&vT n y b
 | .f w,.rc a=>vT n w (dy (.rc a) a 0)
 |_,_=>false
def lW(us:List Ty):Ty->Nat->Ty
 | .bJ k,i=>if k<i then .bJ k else us.getD (k-i) .zero
 | .plus a b,i=>.plus (lW us a i) (lW us b i)
 | .times a b,i=>.times (lW us a i) (lW us b i)
 | .rc a,i=>.rc (lW us a (i+1))
 |t,_=>t
def xW:List Fr->List Ty
 |[]=>[]
 |f::r=>lW (xW r) (yn f.ex r) 0::xW r
theorem lL(u:Ty):∀(t:Ty) {i:Nat},jv t i->dy u t i=t
 | .bJ k,i,h=>by simp only[dy];rw[if_neg (by have:k<i:=h;omega)]
 | .plus a b,i,h=>by simp only[dy];rw[lL u a h.1,lL u b h.2]
 | .times a b,i,h=>by simp only[dy];rw[lL u a h.1,lL u b h.2]
 | .rc a,i,h=>by simp only[dy];rw[lL u a (i:=i+1) h]
 | .zero,_,_=>rfl
 | .one,_,_=>rfl
 | .name _,_,_=>rfl
theorem pA(us:List Ty):∀(t:Ty) {i:Nat},jv t i->lW us t i=t
 | .bJ k,i,h=>by simp only[lW];rw[if_pos (by have:k<i:=h;omega)]
 | .plus a b,i,h=>by simp only[lW];rw[pA us a h.1,pA us b h.2]
 | .times a b,i,h=>by simp only[lW];rw[pA us a h.1,pA us b h.2]
 | .rc a,i,h=>by simp only[lW];rw[pA us a (i:=i+1) h]
 | .zero,_,_=>rfl
 | .one,_,_=>rfl
 | .name _,_,_=>rfl
theorem xf{us:List Ty}(hu:∀u,u∈us->jv u 0)(k:Nat):jv (us.getD k .zero) 0:=by
 by_cases h:k<us.length
 ·rw[aa,bm h];exact hu _ (bQ h)
 ·rw[aa,List.getElem?_eq_none (by omega)];trivial
theorem pF{us:List Ty}(hu:∀u,u∈us->jv u 0):∀(t:Ty) (i:Nat),jv (lW us t i) i
 |
  .bJ k,i=>by
  simp only[lW]
  split
  ·rename_i h;exact h
  ·exact gD _ (xf hu _) (dS _)
 | .plus a b,i=>⟨pF hu a i,pF hu b i⟩
 | .times a b,i=>⟨pF hu a i,pF hu b i⟩
 | .rc a,i=>pF hu a (i+1)
 | .zero,_=>trivial
 | .one,_=>trivial
 | .name _,_=>trivial
theorem mR{us:List Ty}(hu:∀u,u∈us->jv u 0)(U:Ty):∀(t:Ty) (i:Nat),dy U (lW us t (i+1)) i=lW (U::us) t i
 |
  .bJ k,i=>by
  simp only[lW]
  by_cases h1:k<i
  ·rw[if_pos (by omega),if_pos h1];simp only[dy];rw[if_neg (by omega)]
  ·rw[if_neg h1]
   by_cases h2:k=i
   ·subst h2;rw[if_pos (by omega)];simp[dy]
   ·rw[if_neg (by omega),lL U _ (gD _ (xf hu _) (dS _)),show k-i=(k-(i+1))+1 by omega,List.getD_cons_succ]
 | .plus a b,i=>by simp only[lW,dy];rw[mR hu U a i,mR hu U b i]
 | .times a b,i=>by simp only[lW,dy];rw[mR hu U a i,mR hu U b i]
 | .rc a,i=>by simp only[lW,dy];rw[mR hu U a (i+1)]
 | .zero,_=>rfl
 | .one,_=>rfl
 | .name _,_=>rfl
theorem wD:∀env:List Fr,∀u,u∈xW env->jv u 0
 |[],u,h=>by cases h
 |
  f::r,u,h=>by
  rcases aI.1 h with rfl|h
  ·exact pF (wD r) _ 0
  ·exact wD r u h
theorem CW{env:List Fr}(h:WF env):∀{u:Nat} {g:Fr},env[u]?=some g->(xW env).getD u .zero=lW (xW g.out) (yn g.ex g.out) 0:=by
 induction h with
 |nil=>intro u g hg;simp at hg
 |
  cons hs hok hx ht hf hr ih =>
  intro u g hg
  cases u with
  |zero=>simp at hg;subst hg;rfl
  |
   succ u =>
   have:=ih (u:=u) (g:=g) (by simpa using hg)
   simpa[xW]using this
theorem pj(n:Nat):∀(m:Nat) (v:Vl),v.nodes<=m->∀(e:E) (env:List Fr) (t:Ty),Ask e env t->eV n v (e,env)=vT n v (lW (xW env) t 0)
 |0,v,hm=>by have:=dr v;omega
 |
  m+1,v,hm=>by
  intro e env t A
  have recCase:∀(x a b:E) (env:List Fr) (t1:Ty),Ask (.list [x,a,b]) env (.rc t1)->x.at=[114,101,99]->eV n v (.list [x,a,b],env)=vT n v (lW (xW env) (.rc t1) 0):=by
   intro x a b env t1 A hx
   have hhd:hd (.list [x,a,b]) env=(.list [x,a,b],env):=po A.wf
   obtain⟨t1',he1,h1,f1,hw1⟩:=jm A.wf A.ok hx A.ty A.cl
   cases he1
   obtain⟨ok1,ok2,ok3,_⟩:=A.ok
   have A':Ask b (.mk a.at (.list [x,a,b]) env::env) t1:=⟨ok3,hw1,h1,f1⟩
   cases v with
   |
    f w =>
    simp only[Vl.nodes]at hm
    simp only[eV,hhd,hx,beq_self_eq_true,bO]
    rw[pj n m w (by omega) b _ t1 A']
    have hty:yn (.list [x,a,b]) env=.rc t1:=by unfold yn;rw[A.ty];rfl
    show vT n w (lW (lW (xW env) (yn (.list [x,a,b]) env) 0::xW env) t1 0)=vT n w (dy (.rc (lW (xW env) t1 1)) (lW (xW env) t1 1) 0)
    rw[hty,mR (wD env)]
    rfl
   |_=>simp[eV,hhd,hx,lW,vT]
  rcases gq A.wf A.ty with⟨hb,hq⟩|⟨u,g,rfl,hq,hu⟩
  ·have hhd:hd e env=(e,env):=kj hq
   rcases fI A.ty hb A.cl with⟨rfl,rfl⟩|⟨rfl,rfl⟩|⟨s,rfl,rfl,hp,h0,h1⟩|⟨x,a,b,t1,t2,rfl,hx,rfl,ha,hbb⟩|⟨x,a,b,t1,t2,rfl,hx,rfl,ha,hbb⟩|⟨x,a,b,t1,rfl,hx,rfl⟩
   ·have hp0:gV [48]=false:=rfl
    cases v<;>simp[eV,hhd,lW,vT,hp0]
   ·cases v<;>simp[eV,hhd,lW,vT]
   ·cases v<;>simp[eV,hhd,lW,vT,hp,h1]
   ·obtain⟨ok1,ok2,ok3,_⟩:=A.ok
    obtain⟨f1,f2⟩:=fB A.cl
    cases v with
    |
     l w =>
     simp only[Vl.nodes]at hm
     simp only[eV,hhd,hx,beq_self_eq_true,bO,lW,vT]
     exact pj n m w (by omega) a env t1 ⟨ok2,A.wf,ha,f1⟩
    |
     r w =>
     simp only[Vl.nodes]at hm
     simp only[eV,hhd,hx,beq_self_eq_true,bO,lW,vT]
     exact pj n m w (by omega) b env t2 ⟨ok3,A.wf,hbb,f2⟩
    |_=>simp[eV,hhd,hx,lW,vT]
   ·obtain⟨ok1,ok2,ok3,_⟩:=A.ok
    obtain⟨f1,f2⟩:=eU A.cl
    cases v with
    |
     p w w' =>
     simp only[Vl.nodes]at hm
     simp only[eV,hhd,hx,beq_self_eq_true,bO,lW,vT]
     rw[pj n m w (by omega) a env t1 ⟨ok2,A.wf,ha,f1⟩,pj n m w' (by omega) b env t2 ⟨ok3,A.wf,hbb,f2⟩]
    |_=>simp[eV,hhd,hx,lW,vT]
   ·exact recCase x a b env t1 A hx
  ·obtain⟨x,a,b,t',hfe,hok,hx,ht',hf',hwf,hlt⟩:=oC A.wf hq
   have hrec:hd g.ex g.out=(g.ex,g.out):=by rw[hfe];exact po hwf
   rw[ue n v (qv hq) hrec]
   have hcl:lW (xW env) (.bJ u) 0=lW (xW g.out) (yn g.ex g.out) 0:=by
    simp only[lW];rw[if_neg (by omega),Nat.sub_zero];exact CW A.wf hu
   rw[hcl]
   have hty:yn g.ex g.out=t':=by unfold yn;rw[ht'];rfl
   rw[hty,hfe]
   rw[hfe]at ht'
   obtain⟨t1,_,_,rfl⟩:=dw hx ht'
   exact recCase x a b g.out t1 ⟨hok,hwf,ht',hf'⟩ hx
theorem lK{n:Nat}{v:Vl}{e:E}{t:Ty}(A:Ask e [] t):eV n v (e,[])=vT n v t:=by
 have:=pj n v.nodes v (aq _) e [] t A
 rw[this]
 obtain⟨w,ht⟩:=ki e [] t A.ok (fun w hw=>by cases hw) A.ty
 have hl:=tK w []
 rw[ht]at hl
 exact congrArg (vT n v) (pA _ t hl)
def eS(σ:Nm->Option Ty):Ty->Ty
 | .name s=>(σ s).getD (.name s)
 | .plus a b=>.plus (eS σ a) (eS σ b)
 | .times a b=>.times (eS σ a) (eS σ b)
 | .rc a=>.rc (eS σ a)
 |t=>t
def iN(σ:Nm->Option Ty)(x:Nm)(u:Ty):Nm->Option Ty:=fun s=>if s=x then some u else σ s
theorem im(σ:Nm->Option Ty)(x:Nm)(u:Ty):∀t:Ty,eS σ (sub x u t)=eS (iN σ x (eS σ u)) t
 |
  .name s=>by
  by_cases h:s=x
  ·simp[sub,eS,iN,h]
  ·simp[sub,eS,iN,h]
 | .plus a b=>by simp only[sub,eS,im σ x u a,im σ x u b]
 | .times a b=>by simp only[sub,eS,im σ x u a,im σ x u b]
 | .rc a=>by simp only[sub,eS,im σ x u a]
 | .zero=>rfl
 | .one=>rfl
 | .bJ k=>rfl
def BW(σ:Nm->Option Ty):Prop:=∀s u,σ s=some u->jv u 0
theorem jS{σ:Nm->Option Ty}(hσ:BW σ):∀(t:Ty) {i:Nat},jv t i->jv (eS σ t) i
 |
  .name s,i,_=>by
  simp only[eS]
  cases q:σ s with
  |none=>trivial
  |some u=>exact gD u (hσ s u q) (dS _)
 | .plus a b,i,h=>⟨jS hσ a h.1,jS hσ b h.2⟩
 | .times a b,i,h=>⟨jS hσ a h.1,jS hσ b h.2⟩
 | .rc a,i,h=>jS hσ a (i:=i+1) h
 | .zero,_,_=>trivial
 | .one,_,_=>trivial
 | .bJ k,_,h=>h
theorem jF{σ:Nm->Option Ty}(hσ:BW σ)(x:Nm)(U:Ty):∀(t:Ty) (i:Nat),bg x t=false->eS (iN σ x U) (dy (.name x) t i)=dy U (eS σ t) i
 |
  .name s,i,h=>by
  have hs:s≠x:=by simpa[bg]using h
  simp only[dy,eS,iN,if_neg hs]
  cases q:σ s with
  |none=>rfl
  |some u=>exact(lL U u (gD u (hσ s u q) (dS _))).symm
 |
  .bJ k,i,h=>by
  simp only[dy,eS]
  split
  ·simp[eS,iN]
  ·rfl
 |
  .plus a b,i,h=>by
  simp only[bg,bU]at h
  simp only[dy,eS,jF hσ x U a i h.1,jF hσ x U b i h.2]
 |
  .times a b,i,h=>by
  simp only[bg,bU]at h
  simp only[dy,eS,jF hσ x U a i h.1,jF hσ x U b i h.2]
 | .rc a,i,h=>by simp only[dy,eS,jF hσ x U a (i+1) h]
 | .zero,_,_=>rfl
 | .one,_,_=>rfl
theorem lH{σ:Nm->Option Ty}(hσ:BW σ)(x:Nm){u:Ty}(hu:jv u 0):BW (iN σ x u):=fun s v h=>by
 unfold iN at h
 split at h
 ·cases h;exact hu
 ·exact hσ s v h
theorem je(x:Nm):∀(n:Nat) (c:Vl) (t:Ty) (i:Nat),c.nodes<=n->dP (dy (.name x) t i) c=dP t c
 |0,c,_,_,h=>by have:=dr c;omega
 |
  n+1,c,t,i,hn=>by
  cases t with
  |bJ k=>simp only[dy];split<;>(cases c<;>rfl)
  |
   plus a b =>
   cases c with
   |l c=>simp only[Vl.nodes]at hn;exact je x n c a i (by omega)
   |r c=>simp only[Vl.nodes]at hn;exact je x n c b i (by omega)
   |_=>rfl
  |
   times a b =>
   cases c with
   |
    l c =>
    cases c with
    |p y z=>simp only[Vl.nodes]at hn;exact je x n y a i (by omega)
    |_=>rfl
   |
    r c =>
    cases c with
    |p y z=>simp only[Vl.nodes]at hn;exact je x n z b i (by omega)
    |_=>rfl
   |_=>rfl
  |
   rc a =>
   cases c with
   |
    f c =>
    cases c with
    |l y=>simp only[Vl.nodes]at hn;exact je x n y a (i+1) (by omega)
    |
     r c =>
     cases c with
     |
      p y z =>
      simp only[Vl.nodes]at hn
      have h1:=je x n y a (i+1) (by omega)
      have h2:=je x n z (.rc a) i (by omega)
      show (dP (dy (.name x) a (i+1)) y&&dP (.rc (dy (.name x) a (i+1))) z)=(dP a y&&dP (.rc a) z)
      rw[h1]
      exact congrArg _ h2
     |_=>rfl
    |_=>rfl
   |_=>rfl
  |_=>rfl
end Go.Proofs.Trees
namespace Go.Proofs.Trees
open Go Go.VL Go.RowKit
theorem dM(x:Nm):∀(n:Nat) (c:Vl) (t:Ty) (i:Nat) (v:Vl),c.nodes<=n->cM (dy (.name x) t i) c v=cM t c v
 |0,c,_,_,_,h=>by have:=dr c;omega
 |
  n+1,c,t,i,v,hn=>by
  cases t with
  |bJ k=>simp only[dy];split<;>(cases c<;>rfl)
  |
   plus a b =>
   cases c with
   |l c=>simp only[Vl.nodes]at hn;exact congrArg Vl.l (dM x n c a i v (by omega))
   |r c=>simp only[Vl.nodes]at hn;exact congrArg Vl.r (dM x n c b i v (by omega))
   |_=>rfl
  |
   times a b =>
   cases c with
   |
    l c =>
    cases c with
    |p y z=>simp only[Vl.nodes]at hn;exact congrArg (fun q=>Vl.p q z) (dM x n y a i v (by omega))
    |_=>rfl
   |
    r c =>
    cases c with
    |p y z=>simp only[Vl.nodes]at hn;exact congrArg (Vl.p y) (dM x n z b i v (by omega))
    |_=>rfl
   |_=>rfl
  |
   rc a =>
   cases c with
   |
    f c =>
    cases c with
    |l y=>simp only[Vl.nodes]at hn;exact congrArg Vl.f (dM x n y a (i+1) v (by omega))
    |
     r c =>
     cases c with
     |
      p y z =>
      simp only[Vl.nodes]at hn
      have h2:=dM x n z (.rc a) i v (by omega)
      have h1:=dM x n y a (i+1) (cM (.rc a) z v) (by omega)
      show Vl.f (cM (dy (.name x) a (i+1)) y (cM (.rc (dy (.name x) a (i+1))) z v))=Vl.f (cM a y (cM (.rc a) z v))
      have h3:cM (.rc (dy (.name x) a (i+1))) z v=cM (.rc a) z v:=h2
      rw[h3,h1]
     |_=>rfl
    |_=>rfl
   |_=>rfl
  |_=>rfl
theorem By{n:Nat}{c:Vl}{a:Ty}(h:vT n c (.rc a)=true):∃w,c=.f w/\vT n w (dy (.rc a) a 0)=true:=by
 cases c with
 |f w=>exact⟨w,rfl,h⟩
 |_=>simp[vT]at h
theorem iY{n:Nat}{c:Vl}{a b:Ty}(h:vT n c (.plus a b)=true):(∃w,c=.l w/\vT n w a=true)\/∃w,c=.r w/\vT n w b=true:=by
 cases c with
 |l w=>exact .inl ⟨w,rfl,h⟩
 |r w=>exact .inr ⟨w,rfl,h⟩
 |_=>simp[vT]at h
theorem gr{n:Nat}{c:Vl}{a b:Ty}(h:vT n c (.times a b)=true):∃x y,c=.p x y/\vT n x a=true/\vT n y b=true:=by
 cases c with
 |p x y=>simp only[vT,au]at h;exact⟨x,y,rfl,h.1,h.2⟩
 |_=>simp[vT]at h
theorem oL{σ:Nm->Option Ty}(hσ:BW σ){a c d:Ty}{x:Nm}(ha:jv (.rc a) 0)(hc:jv c 0)(hd:jv d 0):∃X,eS σ (pg a x c d)=.rc X/\dy (.rc X) X 0=.plus (eS (iN σ x (eS σ (.rc a))) c) (.times (eS (iN σ x (eS σ (.rc a))) d) (eS σ (pg a x c d))):=by
 refine⟨.plus (eS σ (sub x (.rc a) c)) (.times (eS σ (sub x (.rc a) d)) (.bJ 0)),rfl,?_⟩
 have h1:=jS hσ (sub x (.rc a) c) (kt ha c hc)
 have h2:=jS hσ (sub x (.rc a) d) (kt ha d hd)
 simp only[dy,lL _ _ h1,lL _ _ h2,if_true]
 rw[im,im]
 simp only[pg,eS,im]
theorem vK(n:Nat):∀(m:Nat) (c:Vl),c.nodes<=m->∀(t:Ty) (s:Nm) (d:Ty) (σ:Nm->Option Ty),Dv t s d->BW σ->jv t 0->vT n c (eS σ d)=true->dP t c=true
 |0,c,h=>by have:=dr c;omega
 |
  m+1,c,hm=>by
  intro t s d σ hd hσ hl hv
  cases hd with
  |zero=>cases c<;>rfl
  |one=>cases c<;>rfl
  |bJ=>cases c<;>rfl
  |hit=>cases c<;>rfl
  |qf=>cases c<;>rfl
  |
   plus h1 h2 _ =>
   rcases iY hv with⟨w,rfl,hw⟩|⟨w,rfl,hw⟩
   ·simp only[Vl.nodes]at hm;exact vK n m w (by omega) _ s _ σ h1 hσ hl.1 hw
   ·simp only[Vl.nodes]at hm;exact vK n m w (by omega) _ s _ σ h2 hσ hl.2 hw
  |
   times h1 h2 _ =>
   rcases iY hv with⟨w,rfl,hw⟩|⟨w,rfl,hw⟩
   ·obtain⟨x,y,rfl,hx,hy⟩:=gr hw
    simp only[Vl.nodes]at hm;exact vK n m x (by omega) _ s _ σ h1 hσ hl.1 hx
   ·obtain⟨x,y,rfl,hx,hy⟩:=gr hw
    simp only[Vl.nodes]at hm;exact vK n m y (by omega) _ s _ σ h2 hσ hl.2 hy
  |
   @rc a _ c0 d0 x hx hs h1 h2 hsz =>
   have lo:jv (dy (.name x) a 0) 0:=gH x a hl
   obtain⟨X,e1,e2⟩:=oL (x:=x) hσ hl (h1.lc lo) (h2.lc lo)
   have hv':=hv
   rw[e1]at hv'
   obtain⟨w,rfl,hw⟩:=By hv'
   rw[e2]at hw
   have hcl:=lH hσ x (jS hσ (.rc a) hl)
   rcases iY hw with⟨y,rfl,hy⟩|⟨y,rfl,hy⟩
   ·simp only[Vl.nodes]at hm
    have:=vK n m y (by omega) _ s _ _ h1 hcl lo hy
    rw[je x y.nodes y a 0 (aq _)]at this
    exact this
   ·obtain⟨y,z,rfl,hy,hz⟩:=gr hy
    simp only[Vl.nodes]at hm
    have q1:=vK n m y (by omega) _ x _ _ h2 hcl lo hy
    rw[je x y.nodes y a 0 (aq _)]at q1
    have q2:=vK n m z (by omega) (.rc a) s _ σ (.rc x hx hs h1 h2 hsz) hσ hl hz
    show (dP a y&&dP (.rc a) z)=true
    rw[q1,q2];rfl
theorem pV(n:Nat):∀(m:Nat) (c:Vl),c.nodes<=m->∀(t:Ty) (s:Nm) (d:Ty) (σ:Nm->Option Ty),Dv t s d->BW σ->jv t 0->vT n c (eS σ d)=true->∀v,vT n v (eS σ (.name s))=true->vT n (cM t c v) (eS σ t)=true
 |0,c,h=>by have:=dr c;omega
 |
  m+1,c,hm=>by
  intro t s d σ hd hσ hl hv v hvv
  have no:∀c,vT n c .zero=false:=fun c=>by cases c<;>rfl
  cases hd with
  |zero=>rw[show eS σ .zero=.zero from rfl,no]at hv;cases hv
  |one=>rw[show eS σ .zero=.zero from rfl,no]at hv;cases hv
  |bJ=>rw[show eS σ .zero=.zero from rfl,no]at hv;cases hv
  |qf=>rw[show eS σ .zero=.zero from rfl,no]at hv;cases hv
  |hit=>rw[ky];exact hvv
  |
   plus h1 h2 _ =>
   rcases iY hv with⟨w,rfl,hw⟩|⟨w,rfl,hw⟩
   ·simp only[Vl.nodes]at hm;exact pV n m w (by omega) _ s _ σ h1 hσ hl.1 hw v hvv
   ·simp only[Vl.nodes]at hm;exact pV n m w (by omega) _ s _ σ h2 hσ hl.2 hw v hvv
  |
   times h1 h2 _ =>
   rcases iY hv with⟨w,rfl,hw⟩|⟨w,rfl,hw⟩
   ·obtain⟨x,y,rfl,hx,hy⟩:=gr hw
    simp only[Vl.nodes]at hm
    have:=pV n m x (by omega) _ s _ σ h1 hσ hl.1 hx v hvv
    show (vT n _ _&&vT n _ _)=true
    rw[this,hy];rfl
   ·obtain⟨x,y,rfl,hx,hy⟩:=gr hw
    simp only[Vl.nodes]at hm
    have:=pV n m y (by omega) _ s _ σ h2 hσ hl.2 hy v hvv
    show (vT n _ _&&vT n _ _)=true
    rw[this,hx];rfl
  |
   @rc a _ c0 d0 x hx hs h1 h2 hsz =>
   have lo:jv (dy (.name x) a 0) 0:=gH x a hl
   obtain⟨X,e1,e2⟩:=oL (x:=x) hσ hl (h1.lc lo) (h2.lc lo)
   have hv':=hv
   rw[e1]at hv'
   obtain⟨w,rfl,hw⟩:=By hv'
   rw[e2]at hw
   have hcl:=lH hσ x (jS hσ (.rc a) hl)
   have hop:eS (iN σ x (eS σ (.rc a))) (dy (.name x) a 0)=dy (eS σ (.rc a)) (eS σ a) 0:=jF hσ x _ a 0 hx
   have hns:eS (iN σ x (eS σ (.rc a))) (.name s)=eS σ (.name s):=by simp only[eS,iN,if_neg (Ne.symm hs)]
   have hnx:eS (iN σ x (eS σ (.rc a))) (.name x)=eS σ (.rc a):=by simp[eS,iN]
   rcases iY hw with⟨y,rfl,hy⟩|⟨y,rfl,hy⟩
   ·simp only[Vl.nodes]at hm
    have:=pV n m y (by omega) _ s _ _ h1 hcl lo hy v (by rw[hns];exact hvv)
    rw[hop,dM x y.nodes y a 0 v (aq _)]at this
    exact this
   ·obtain⟨y,z,rfl,hy,hz⟩:=gr hy
    simp only[Vl.nodes]at hm
    have q2:=pV n m z (by omega) (.rc a) s _ σ (.rc x hx hs h1 h2 hsz) hσ hl hz v hvv
    have q1:=pV n m y (by omega) _ x _ _ h2 hcl lo hy (cM (.rc a) z v) (by rw[hnx];exact q2)
    rw[hop,dM x y.nodes y a 0 _ (aq _)]at q1
    exact q1
def C9:Nm->Option Ty:=fun _=>none
theorem rM:BW C9:=fun _ _ h=>by cases h
theorem iM:∀t:Ty,eS C9 t=t
 | .name s=>rfl
 | .plus a b=>by simp only[eS,iM a,iM b]
 | .times a b=>by simp only[eS,iM a,iM b]
 | .rc a=>by simp only[eS,iM a]
 | .zero=>rfl
 | .one=>rfl
 | .bJ k=>rfl
theorem Fe{n:Nat}{a D:Ty}{x:Nm}(hx:bg x a=false)(hl:jv (.rc a) 0)(h:nN a x=some D){c:Vl}(hc:vT n c D=true) :
 dP a c=true/\∀v,vT n v (.rc a)=true->vT n (.f (cM a c v)) (.rc a)=true:=by
 simp only[nN,a6,cK,eJ]at h
 obtain⟨d,hd,_,rfl⟩:=h
 have lo:jv (dy (.name x) a 0) 0:=gH x a hl
 have hcl:=lH rM x hl
 have e1:sub x (.rc a) d=eS (iN C9 x (.rc a)) d:=by
  have:=im C9 x (.rc a) d
  rw[iM,iM]at this;exact this
 rw[e1]at hc
 have h1:=vK n c.nodes c (aq _) _ x _ _ hd hcl lo hc
 rw[je x c.nodes c a 0 (aq _)]at h1
 refine⟨h1,fun v hv=>?_⟩
 have h2:=pV n c.nodes c (aq _) _ x _ _ hd hcl lo hc v (by simpa[eS,iN]using hv)
 rw[dM x c.nodes c a 0 v (aq _),jF rM x _ a 0 hx,iM]at h2
 exact h2
end Go.Proofs.Trees
namespace Go.Proofs.Trees
open Go Go.VL Go.RowKit
theorem yJ{env:List Fr}(h:WF env):∀w,w∈names env->db w=true:=by
 induction h with
 |nil=>intro w hw;cases hw
 |
  cons hs _ _ _ _ _ ih =>
  intro w hw
  simp only[names,aL,aS]at hw
  rcases hw with hw|rfl
  ·exact ih w hw
  ·exact hs
theorem A7{ar:List (List UInt8)}{k:Nat}(h:k<ar.length):gh ar k∈ar:=by
 unfold gh
 have:ar.length-1-k<ar.length:=by omega
 simp[aa,this]
def Ae(s:List UInt8)(ar:List (List UInt8)):Prop:=gV s=true\/(bG s ar ar.length).isSome=true
theorem uR{s:List UInt8}{ar:List (List UInt8)}{u:Nat}(hl:∀w,w∈ar->db w=true)(h:bG s ar ar.length=some u):db s=true:=by
 obtain⟨h1,h2⟩:=fG _ _ (aq _) h
 rw[<-h2];exact hl _ (A7 h1)
theorem Ff{s0 s:List UInt8}{ar:List (List UInt8)}{t:Ty}(ht:cN (.atom s0) ar=some t)(hl:∀w,w∈ar->db w=true)(hs:Ae s ar):eF t (oz s ar)=decide (s0=s):=by
 have h48:∀b:UInt8,gV [b]=false->db [b]=false->s≠[b]:=fun b h1 h2 e=>by
  subst e
  rcases hs with h|h
  ·rw[h1]at h;cases h
  ·obtain⟨u,hu⟩:=bq.1 h
   rw[uR hl hu]at h2;cases h2
 simp only[cN]at ht
 split at ht
 ·rename_i e;cases ht;subst e
  have:=h48 48 rfl rfl
  rw[decide_eq_false (fun h=>this h.symm)];cases oz s ar<;>rfl
 ·split at ht
  ·rename_i e;cases ht;subst e
   have:=h48 49 rfl rfl
   rw[decide_eq_false (fun h=>this h.symm)];cases oz s ar<;>rfl
  ·split at ht
   ·rename_i hp
    cases ht
    unfold oz
    cases e:bG s ar ar.length with
    |none=>rfl
    |
     some u =>
     have hloo:=uR hl e
     show false=_
     rw[decide_eq_false]
     rintro rfl
     rw[j3 hp]at hloo;cases hloo
   ·rename_i hnp
    split at ht
    ·split at ht
     ·rename_i u hu
      cases ht
      unfold oz
      cases e:bG s ar ar.length with
      |
       none =>
       show false=_
       rw[decide_eq_false]
       rintro rfl
       rw[hu]at e;cases e
      |
       some u' =>
       show decide (u=u')=_
       rw[cn,decide_eq_true_eq,decide_eq_true_eq]
       constructor
       ·rintro rfl
        rw[<-(fG _ _ (aq _) hu).2,<-(fG _ _ (aq _) e).2]
       ·rintro rfl
        rw[hu]at e;cases e;rfl
     ·rename_i hn
      cases ht
      unfold oz
      cases e:bG s ar ar.length with
      |none=>rfl
      |
       some u =>
       show false=_
       rw[decide_eq_false]
       rintro rfl
       rw[hn]at e;cases e
    ·cases ht
theorem CQ{b:E}{ar:List (List UInt8)}{w:List UInt8}{t:Ty}(hb:cN b (ar++[w])=some t)(hw:db w=true)(hs:Ae w ar):uz t (oz w ar).up=false:=by
 rcases hs with h|h
 ·rw[j3 h]at hw;cases hw
 ·obtain⟨u,hu⟩:=bq.1 h
  rw[oz,hu];exact Ga hb hu
theorem yN{s w:List UInt8}{ar:List (List UInt8)}(h:w≠s)(hs:Ae s ar):Ae s (ar++[w]):=by
 rcases hs with h1|h1
 ·exact .inl h1
 ·right;rw[jD ar h];obtain⟨u,hu⟩:=bq.1 h1;rw[hu];rfl
def OZ(e:E)(s:List UInt8)(t:Ty)(tg:Tg)(v:Vl):Prop:=ap Tryz.prog 110 [.agg [.v (.string (mk e.at)),e.sp],.v (.string (mk s)),.agg [.v (.string (mk v.cz.at)),v.cz.sp]] [] (bD (.sl (lY (bZ t tg v))))
theorem DZ(n:Nat):∀(m:Nat) (v:Vl),v.nodes<=m->∀(e:E) (env:List Fr) (t:Ty),Ask e env t->eV n v (e,env)=true->env.length+v.nodes<100000->∀(s:List UInt8),Ae s (names env)->OZ e s t (oz s (names env)) v
 |0,v,hm=>by have:=dr v;omega
 |
  m+1,v,hm=>by
  intro e env t A hv hl s hs
  have hloo:=yJ A.wf
  unfold OZ
  refine Pr _ _ _ _ _ ((aU _).mpr trivial) ((aU _).mpr trivial) ?_
  have hlen:=mP t (oz s (names env)) v
  have atomCase:∀s0,e=.atom s0->stuck t v=true->eT Tryz.prog 244 (wt (mk e.at) e.sp (mk s) (mk v.cz.at) v.cz.sp) fun _ xs obs=>bD (.sl (lY (bZ t (oz s (names env)) v))) (xs.headD .any) obs:=by
   rintro s0 rfl hst
   have hat:=Ff A.ty hloo hs
   have hne:s0≠[]:=A.ok
   simp only[wt,E.at,↓zq,zs,af,zt]
   refine⟨fun _=>⟨fun h=>?_,fun h=>?_⟩,fun h=>absurd h hne⟩
   ·rw[decide_eq_true h]at hat
    rw[mz v hat]
    refine⟨⟨yO _ _ _ _,by omega⟩,?_⟩
    simp[bD,lY,Vl.cz,E.at,E.sp]
   ·rw[decide_eq_false h]at hat
    rw[dW hat hst]
    simp[bD,lY]
  have hvh:=AD v
  rw[dh]at hvh
  rcases gq A.wf A.ty with⟨hb,hq⟩|⟨u,g,rfl,hq,hu⟩
  ·have hhd:hd e env=(e,env):=kj hq
   rcases fI A.ty hb A.cl with⟨rfl,rfl⟩|⟨rfl,rfl⟩|⟨s0,rfl,rfl,hp,h0,h1⟩|⟨x,a,b,t1,t2,rfl,hx,rfl,ha,hbb⟩|⟨x,a,b,t1,t2,rfl,hx,rfl,ha,hbb⟩|⟨x,a,b,t1,rfl,hx,rfl⟩
   ·exact atomCase _ rfl (by cases v<;>rfl)
   ·exact atomCase _ rfl (by cases v<;>rfl)
   ·exact atomCase _ rfl (by cases v<;>rfl)
   ·obtain⟨ok1,ok2,ok3,_⟩:=A.ok
    obtain⟨f1,f2⟩:=fB A.cl
    have hP:=P3.of x a b
    cases v with
    |
     l w =>
     simp only[eV,hhd,hx,beq_self_eq_true,bO]at hv
     simp only[Vl.nodes]at hm hl hlen
     rw[mS]at hlen |-
     rw[fQ]at hlen
     have hW:=P2.of (.atom [108]) w.cz
     simp only[wt,E.at,↓zq,zs,af,zt]
     refine⟨fun h=>absurd rfl h,fun _=>ai hvh ?_⟩
     simp only[vh,Vl.cz,toNat_one,a7,↓zq,zs,af,zt,hP.1,hP.2.1,hP.2.2.1,hP.2.2.2,hW.1,hW.2.1,hW.2.2,aK]
     refine⟨fun _=>?_,fun h=>absurd rfl h⟩
     repeat refine⟨by omega,?_⟩
     refine ai (DZ n m w (by omega) a env t1 ⟨ok2,A.wf,ha,f1⟩ hv (by omega) s hs) ?_
     simp only[↓zq,zs,af]
     refine bc (Lf [108] Vl.l (fun c=>rfl) (bZ t1 (oz s (names env)) w) [] (by simp;omega)) ?_
     simp[↓zq,zs,af,bD,bi,bB]
    |
     r w =>
     simp only[eV,hhd,hx,beq_self_eq_true,bO]at hv
     simp only[Vl.nodes]at hm hl hlen
     rw[mO]at hlen |-
     rw[fQ]at hlen
     have hW:=P2.of (.atom [114]) w.cz
     simp only[wt,E.at,↓zq,zs,af,zt]
     refine⟨fun h=>absurd rfl h,fun _=>ai hvh ?_⟩
     simp only[vh,Vl.cz,toNat_one,a7,↓zq,zs,af,zt,hP.1,hP.2.1,hP.2.2.1,hP.2.2.2,hW.1,hW.2.1,hW.2.2,aK]
     refine⟨fun h=>by simp at h,fun _=>⟨fun _=>?_,fun h=>absurd rfl h⟩⟩
     repeat refine⟨by omega,?_⟩
     refine ai (DZ n m w (by omega) b env t2 ⟨ok3,A.wf,hbb,f2⟩ hv (by omega) s hs) ?_
     simp only[↓zq,zs,af]
     refine bc (Lf [114] Vl.r (fun c=>rfl) (bZ t2 (oz s (names env)) w) [] (by simp;omega)) ?_
     simp[↓zq,zs,af,bD,bi,bB]
    |_=>simp[eV,hhd,hx]at hv
   ·obtain⟨ok1,ok2,ok3,_⟩:=A.ok
    obtain⟨f1,f2⟩:=eU A.cl
    have hP:=P3.of x a b
    cases v with
    |
     p w w' =>
     simp only[eV,hhd,hx,beq_self_eq_true,bO,au]at hv
     simp only[Vl.nodes]at hm hl hlen
     rw[mU]at hlen |-
     simp only[an,fQ]at hlen
     have hW:=P3.of (.atom [112]) w.cz w'.cz
     simp only[wt,E.at,↓zq,zs,af,zt]
     refine⟨fun h=>absurd rfl h,fun _=>ai hvh ?_⟩
     simp only[vh,Vl.cz,toNat_one,a7,↓zq,zs,af,zt,hP.1,hP.2.1,hP.2.2.1,hP.2.2.2,hW.1,hW.2.1,hW.2.2.1,hW.2.2.2,aK]
     refine⟨fun h=>by simp at h,fun _=>⟨fun h=>by simp at h,fun _=>⟨fun _=>?_,fun h=>absurd rfl h⟩⟩⟩
     repeat refine⟨by omega,?_⟩
     refine ai (DZ n m w (by omega) a env t1 ⟨ok2,A.wf,ha,f1⟩ hv.1 (by omega) s hs) ?_
     simp only[↓zq,zs,af]
     have h1:=Mj s (mk []) (E.list [x,a,b]).sp ((aU _).mpr trivial) (mk []) (E.list [.atom [112],w.cz,w'.cz]).sp w w' (P3.of _ _ _) (bZ t1 (oz s (names env)) w) (by omega) _ 0 [] (aV _) (by simp;omega)
     rw[bp,aT]at h1
     refine cw h1 ?_
     simp only[↓zq,zs,af,aU,af,a7,hP.1,hP.2.1,hP.2.2.2,hW.1,hW.2.1,hW.2.2.2,aK]
     repeat refine⟨by omega,?_⟩
     refine ai (DZ n m w' (by omega) b env t2 ⟨ok3,A.wf,hbb,f2⟩ hv.2 (by omega) s hs) ?_
     simp only[↓zq,zs,af]
     have h2:=HD (mk []) (E.list [.atom [112],w.cz,w'.cz]).sp w w' (P3.of _ _ _) (bZ t2 (oz s (names env)) w') (by omega) _ 0 (iK (fun c=>Vl.l (.p c w')) (bZ t1 (oz s (names env)) w)) (aV _) (by rw[fQ];omega)
     rw[bp]at h2
     refine cw h2 ?_
     simp[↓zq,zs,af,bD]
    |_=>simp[eV,hhd,hx]at hv
   ·obtain⟨t1',he1,h1,f1,hw1⟩:=jm A.wf A.ok hx A.ty A.cl
    cases he1
    obtain⟨ok1,ok2,ok3,_⟩:=A.ok
    obtain⟨_,hla,_,_⟩:=dw hx A.ty
    have A':Ask b (.mk a.at (.list [x,a,b]) env::env) t1:=⟨ok3,hw1,h1,f1⟩
    have hnm:names (.mk a.at (.list [x,a,b]) env::env)=names env++[a.at]:=rfl
    have hP:=P3.of x a b
    cases v with
    |
     f w =>
     simp only[eV,hhd,hx,beq_self_eq_true,bO]at hv
     simp only[Vl.nodes]at hm hl hlen
     have hW:=P2.of (.atom [102]) w.cz
     simp only[wt,E.at,↓zq,zs,af,zt]
     refine⟨fun h=>absurd rfl h,fun _=>ai hvh ?_⟩
     simp only[vh,Vl.cz,toNat_one,a7,↓zq,zs,af,zt,hP.1,hP.2.1,hP.2.2.1,hP.2.2.2,hW.1,hW.2.1,hW.2.2,aK]
     refine⟨fun h=>by simp at h,fun _=>⟨fun h=>by simp at h,fun _=>⟨fun h=>by simp at h,fun _=>?_⟩⟩⟩
     repeat refine⟨by omega,?_⟩
     refine⟨fun h=>?_,fun h=>?_⟩
     ·
      have hh:a.at=s:=h
      subst hh
      have:uz (.rc t1) (oz a.at (names env))=false:=CQ h1 hla hs
      rw[iQ _ _ (aq _) _ _ this]
      simp[bD,lY]
     ·have hh:a.at≠s:=h
      rw[mX]at hlen |-
      simp only[an,fQ]at hlen
      repeat refine⟨by omega,?_⟩
      have i1:=DZ n m w (by omega) b _ t1 A' hv (by simp;omega) s (by rw[hnm];exact yN hh hs)
      rw[hnm,zh _ hh]at i1
      refine ai i1 ?_
      simp only[↓zq,zs,af]
      have h3:=LL s a.at (mk []) (E.list [x,a,b]).sp ((aU _).mpr trivial) (mk []) (E.list [.atom [102],w.cz]).sp ((aU _).mpr trivial) (bZ t1 (oz s (names env)).up w) (by omega) _ 0 [] (aV _) (by simp;omega)
      rw[bp,aT]at h3
      refine cw h3 ?_
      simp only[↓zq,zs,af,aU,af,toNat_one,a7,hP.1,hP.2.1,hP.2.2.2,hW.1,hW.2.1,hW.2.2,aK]
      repeat refine⟨by omega,?_⟩
      have i2:=DZ n m w (by omega) b _ t1 A' hv (by simp;omega) a.at (by rw[hnm];right;rw[fm];rfl)
      rw[hnm,ve]at i2
      refine ai i2 ?_
      simp only[↓zq,zs,af]
      have hl2:=mP t1 (.bd 0) w
      have ih3:∀h,h∈bZ t1 (.bd 0) w->OZ (.list [x,a,b]) s (.rc t1) (oz s (names env)) h.2:=fun h hh=>by
       have h3:=(jp hh).1
       have h4:=io n m w (by omega) b _ t1 A' hv 0 _ rfl h hh
       exact DZ n m h.2 (by omega) (.list [x,a,b]) env (.rc t1) A h4 (by omega) s hs
      have h4:=Jn s (.list [x,a,b]) t1 (oz s (names env)) (bZ t1 (.bd 0) w) (by omega) ih3 _ 0 (iK (fun c=>.f (.l c)) (bZ t1 (oz s (names env)).up w)) (aV _) (by
       simp only[bp,an,fQ]
       have hlen2:(bZ t1 (oz s (names env)).up w).length+((bZ t1 (.bd 0) w).flatMap (zL t1 (oz s (names env)))).length<=1+w.nodes:=hlen
       omega)
      rw[bp]at h4
      simp only[E.at]at h4
      refine cw h4 ?_
      simp[↓zq,zs,af,bD]
    |_=>simp[eV,hhd,hx]at hv
  ·cases e with
   |atom s0=>exact atomCase _ rfl (by cases v<;>rfl)
   |list l=>exact absurd hq (by rw[show (E.list l).at=[] from rfl,kN A.wf];simp)
end Go.Proofs.Trees
namespace Go.Proofs.Trees
open Go Go.VL Go.RowKit
def l9(s:List UInt8):Option Ty:=match wh s with
 |some (.rc a)=>some a
 |_=>none
def AU:Option Ty->AV
 |some a=>(Ty.rc a).av
 |none=>jh
theorem OG(s:List UInt8):ap Tryz.prog 120 [.v (.string (mk s))] [] (bD (AU (l9 s))):=by
 refine Nd _ ?_
 unfold KJ
 refine ai (Jo s) ?_
 cases h:wh s with
 |none=>simp[↓zq,zs,af,ia,AU,l9,h,bD]
 |some t=>cases t<;>simp[↓zq,zs,af,ia,AU,l9,h,bD,Ty.av]
def jP(s v:List UInt8):Option Vl:=match l9 s with
 |some _=>mG s v 100
 |none=>none
def EW(s:List UInt8):AV:=match l9 s with
 |some a=>(Ty.rc a).av
 |none=>jh
theorem ug{s:List UInt8}{a:Ty}(h:l9 s=some a):wh s=some (.rc a):=by
 unfold l9 at h
 split at h
 ·rename_i e;cases h;exact e
 ·cases h
theorem Hq(s v:List UInt8):ap Tryz.prog 64 [.v (.string (mk s)),.v (.string (mk v))] [] (bD (.cA [EW s,iD (jP s v)])):=by
 refine Ow _ _ ?_
 unfold HQ
 refine ai (OG s) ?_
 cases h:l9 s with
 |none=>simp[↓zq,zs,af,AU,EW,jP,h,bD,iD]
 |
  some a =>
  simp only[↓zq,zs,af,AU,aF,fM]
  refine⟨fun h=>(by cases h),fun _=>?_⟩
  refine ai (I3 s v 100) ?_
  rw[ug h]
  simp[↓zq,zs,af,ia,jl,EW,jP,h,bD,aF]
structure LV(s v:List UInt8)(w:Vl)(a:Ty)(x A B:E):Prop where
 l:l9 s=some a
 ce:jC s=some (.list [x,A,B])
 v:rR v=some w
 ask:Ask (.list [x,A,B]) [] (.rc a)
 hx:x.at=[114,101,99]
 Qs:db A.at=true
 body:Ask B [.mk A.at (.list [x,A,B]) []] a
 eV:eV 100 w (.list [x,A,B],[])=true
theorem sU{e:E}{env:List Fr}{a:Ty}(A:Ask e env (.rc a)):∃x y z,e=.list [x,y,z]/\x.at=[114,101,99]/\db y.at=true/\Ask z (.mk y.at (.list [x,y,z]) env::env) a:=by
 rcases fI A.ty rfl A.cl with⟨_,h⟩|⟨_,h⟩|⟨s,_,h,_⟩|⟨x,y,z,t1,t2,_,_,h,_⟩|⟨x,y,z,t1,t2,_,_,h,_⟩|⟨x,y,z,t1,rfl,hx,h⟩
 ·cases h
 ·cases h
 ·cases h
 ·cases h
 ·cases h
 ·cases h
  obtain⟨t1',he1,h1,f1,hw1⟩:=jm A.wf A.ok hx A.ty A.cl
  cases he1
  obtain⟨_,_,ok3,_⟩:=A.ok
  obtain⟨_,hla,_,_⟩:=dw hx A.ty
  exact⟨x,y,z,rfl,hx,hla,ok3,hw1,h1,f1⟩
theorem mZ{s v:List UInt8}{w:Vl}(h:jP s v=some w):∃a x A B,LV s v w a x A B:=by
 unfold jP at h
 split at h
 ·rename_i a hl
  obtain⟨e,t,m,h1,h2,h3,h4,h5,h6,h7⟩:=kI h
  rw[ug hl]at h3
  cases h3
  obtain⟨x,A,B,rfl,hx,hA,hB⟩:=sU h4
  have:m=100:=by omega
  subst this
  exact⟨a,x,A,B,hl,h1,h2,h4,hx,hA,hB,h7⟩
 ·cases h
theorem LV.gz{s v:List UInt8}{w:Vl}{a:Ty}{x A B:E}(h:LV s v w a x A B):w.gz 100:=(lh h.v).2.1
theorem LV.nodes{s v:List UInt8}{w:Vl}{a:Ty}{x A B:E}(h:LV s v w a x A B):w.nodes<=200:=(lh h.v).2.2
theorem tn{n:Nat}{v:Vl}{x A B:E}{env:List Fr}(hw:WF env)(hx:x.at=[114,101,99])(h:eV n v (.list [x,A,B],env)=true):∃w,v=.f w/\eV n w (B,.mk A.at (.list [x,A,B]) env::env)=true:=by
 have hd:=po (x:=x) (a:=A) (b:=B) hw
 cases v<;>simp[eV,hd,hx]at h |-
 exact h
theorem MC(n:Nat)(v:Vl)(x A B:E)(a:Ty)(hA:Ask B [.mk A.at (.list [x,A,B]) []] a)(hx:x.at=[114,101,99])(hv:eV n v (.list [x,A,B],[])=true)(hl:v.nodes<90000):ap Tryz.prog 70 [(Ty.rc a).av,v.ct] [] (bD (.sl (iv (kids a v)))):=by
 obtain⟨w,rfl,hw⟩:=tn .nil hx hv
 refine NK _ _ ((aF _).mpr trivial) ((aN _).mpr trivial) ?_
 unfold Iu
 refine aO (Cp a jh [] .nil) (zZ.ne a jh []) ?_
 rintro r o ⟨⟨m,hm,rfl⟩,rfl⟩
 have he2:kl (.ptr [.pid m [(Ty.rc a).av,jh],jh]) [m]:=.cons hm .nil
 have hfr:LK.ptr.has (.pid m [(Ty.rc a).av,jh]):=.inr (.inr ⟨_,_,rfl⟩)
 simp only[Ty.av]at he2 hfr
 simp only[↓zq,zs,af,bz,aF,he2.has,hfr,Vl.ct,aN,Ty.av]
 repeat refine⟨by omega,?_⟩
 simp only[Vl.nodes]at hl
 have i2:=DT n w.nodes w (aq _) B _ a hA hw (by simp;omega) _ _ he2 (by simp) (.bd 0) [] _ (by have:=zK.bd (k:=0) (ids:=[m]) (by simp) [(Ty.rc a).av,jh] [];simpa only[bn,Ty.av]using this)
 unfold Gr at i2
 refine ai i2 ?_
 simp[↓zq,zs,af,bD,kids]
def rz(l:List Nat):List (List AV):=l.map fun(k:Nat)=>[.v (.int .i64 (k:Int))]
theorem wo(l:List Nat):(rz l).length=l.length:=by simp[rz]
end Go.Proofs.Trees
namespace Go.Proofs.Trees
open Go Go.VL Go.RowKit
theorem EZ{b:UInt8}(h:ib b=true):eZ b=true:=by
 simp only[ib,eZ,decide_eq_true_eq]at h |-;omega
theorem Di{y:Nm}(h:IS y):y≠[]/\y.all eZ=true:=by
 have key:∀lo hi,97<=lo->hi<=122->named lo hi y=true->y≠[]/\y.all eZ=true:=fun lo hi h1 h2 h=>by
  cases y with
  |nil=>cases h
  |
   cons c r =>
   simp only[named,au,decide_eq_true_eq]at h
   refine⟨by simp,?_⟩
   rw[cV,au]
   refine⟨?_,?_⟩
   ·simp only[eZ,decide_eq_true_eq];omega
   ·rw[bP]
    intro b hb
    exact EZ (bP.1 h.2 b hb)
 rcases h with h|h
 ·exact key 120 122 (by omega) (by omega) h
 ·exact key 116 116 (by omega) (by omega) h
theorem Au(m:Nat):(tN m).all eZ=true:=by
 rw[cV,wS (m+1) m (by omega)];rfl
theorem pC(F:List Nm):∀(t:Ty) (to:List Nm) (k:Nat),(∀y,bg y t=true->y≠[]/\y.all eZ=true)->(∀w,w∈to->w≠[]/\w.all eZ=true)->jv t to.length->(gP F t to k).1.pr
 | .zero,_,_,_,_,_=>⟨by simp,by decide⟩
 | .one,_,_,_,_,_=>⟨by simp,by decide⟩
 | .name s,_,_,hn,_,_=>hn s (by simp[bg])
 |
  .bJ u,to,_,_,ht,hl=>by
  have:to.length-1-u<to.length:=by have:u<to.length:=hl;omega
  show (E.atom (gh to u)).pr
  unfold gh
  rw[aa,bm this]
  exact ht _ (bQ this)
 | .plus a b,to,k,hn,ht,hl=>⟨by simp,⟨by simp,by decide⟩,pC F a to k (fun y hy=>hn y (by simp[bg,hy])) ht hl.1,pC F b to _ (fun y hy=>hn y (by simp[bg,hy])) ht hl.2,trivial⟩
 | .times a b,to,k,hn,ht,hl=>⟨by simp,⟨by simp,by decide⟩,pC F a to k (fun y hy=>hn y (by simp[bg,hy])) ht hl.1,pC F b to _ (fun y hy=>hn y (by simp[bg,hy])) ht hl.2,trivial⟩
 |
  .rc a,to,k,hn,ht,hl=>by
  refine⟨by simp,⟨by simp,by decide⟩,⟨by simp,Au _⟩,pC F a (to++[tN (nx F k)]) _ hn (fun w hw=>?_) (by rw[an];exact hl),trivial⟩
  rcases aL.1 hw with hw|hw
  ·exact ht w hw
  ·simp only[aS]at hw;rw[hw];exact⟨by simp,Au _⟩
theorem zu{D:Ty}{dt:Nm}(g:fV D)(hn:∀y,bg y D=true->IS y)(h:told D=some dt):qy dt=some D:=by
 unfold told at h
 split at h
 ·rename_i hh
  cases h
  obtain⟨t,ht⟩:=bq.1 hh.2
  obtain⟨e,he,hw,hte,_,_⟩:=nK ht
  obtain⟨h1,_,_⟩:=pw he
  obtain⟨hx,hpr,_⟩:=xq h1
  obtain⟨w1,w2,_⟩:=ku (bF D []) D [] 0 (.nil _ _) g.1 fun y hy=>⟨(eM D [] y).2 (.inr hy),g.2 y hy⟩
  have hp:=pC (bF D []) D [] 0 (fun y hy=>Di (hn y hy)) (fun w hw=>by cases hw) g.1
  have:=AG hp hpr hx
  rw[ht,<-hte,<-this,w2]
 ·cases h
theorem se{a d:Ty}{x:Nm}(h:nN a x=some d):∀y,bg y d=true->bg y a=true:=by
 simp only[nN,a6,cK,eJ]at h
 obtain⟨d',h1,_,rfl⟩:=h
 intro y hy
 rcases i6 _ hy with h|⟨h,h'⟩
 ·exact h
 ·rcases gA a 0 (h1.names y h')with e|e
  ·exact absurd e h
  ·exact e
structure ZT(s d:Nm)(a:Ty)(x A B:E)(D:Ty):Prop where
 l:l9 s=some a
 ce:jC s=some (.list [x,A,B])
 ask:Ask (.list [x,A,B]) [] (.rc a)
 hx:x.at=[114,101,99]
 body:Ask B [.mk A.at (.list [x,A,B]) []] a
 dl:cY s=some d
 y:qy s=some (.rc a)
 lp:nN a lT=some D
 bk:qy d=some D
theorem uo{s:Nm}{t:Ty}(h:wh s=some t):qy s=some t:=by
 unfold wh at h
 split at h
 ·cases h
 ·rename_i u hu
  split at h
  ·cases h;exact hu
  ·cases h
theorem ZT.of{s d:Nm}{a:Ty}(hl:l9 s=some a)(hd:cY s=some d):∃x A B D,ZT s d a x A B D:=by
 have hc:=ug hl
 cases hce:jC s with
 |none=>rw[mN hce]at hc;cases hc
 |
  some e =>
  obtain⟨t,h1,hA,_⟩:=gU hce
  rw[hc]at h1;cases h1
  obtain⟨x,A,B,rfl,hx,hA',hB⟩:=sU hA
  have hy:=uo hc
  have hd':=hd
  unfold cY at hd'
  rw[hy]at hd'
  obtain⟨D,h2,h3⟩:=a6.1 hd'
  obtain⟨e2,he2,hw2,hte2,_,_⟩:=nK hy
  have hg:=rI hw2 hte2 (x:=lT) ⟨by simp,by simp,by simp⟩ h2
  exact⟨x,A,B,D,hl,hce,hA,hx,hB,hd,hy,h2,zu hg.1 (fun y hy'=>mM hy y (se h2 y hy')) h3⟩
structure Cx(a:Ty)(w:Vl):Prop where
 ok:dP a w=true
 ty:∀v,vT 100 v (.rc a)=true->vT 100 (.f (cM a w v)) (.rc a)=true
 gz:w.gz 100
 nd:w.nodes<=200
structure Fo(a:Ty)(v:Vl):Prop where
 ty:vT 100 v (.rc a)=true
 gz:v.gz 100
 nd:v.nodes<=200
theorem ZT.DH{s d:Nm}{a:Ty}{x A B:E}{D:Ty}(z:ZT s d a x A B D){c:Nm}{w:Vl}(h:mG d c 100=some w):Cx a w:=by
 obtain⟨e,t,m,h1,h2,h3,h4,h5,h6,h7⟩:=kI h
 have hm:m=100:=by omega
 subst hm
 have:=uo h3
 rw[z.bk]at this;cases this
 rw[lK h4]at h7
 obtain⟨e2,he2,hw2,hte2,_,_⟩:=nK z.y
 have hlc:jv (.rc a) 0:=hte2 ▸ hw2.qi.1
 obtain⟨q1,q2⟩:=Fe (ub z.y) hlc z.lp h7
 exact⟨q1,q2,(lh h2).2.1,(lh h2).2.2⟩
theorem ZT.Ac{s d:Nm}{a:Ty}{x A B:E}{D:Ty}(z:ZT s d a x A B D){f:Nm}{v:Vl}(h:jP s f=some v):Fo a v/\f=v.dq:=by
 obtain⟨a',x',A',B',L⟩:=mZ h
 have:=L.l
 rw[z.l]at this;cases this
 exact⟨⟨by rw[<-lK L.ask];exact L.eV,L.gz,L.nodes⟩,lg L.v⟩
theorem Fo.eV{s d:Nm}{a:Ty}{x A B:E}{D:Ty}(z:ZT s d a x A B D){v:Vl}(h:Fo a v):eV 100 v (.list [x,A,B],[])=true:=by rw[lK z.ask];exact h.ty
theorem ZT.dq{s d:Nm}{a:Ty}{x A B:E}{D:Ty}(z:ZT s d a x A B D){w:Vl}(hb:w.gz 100)(hv:vT 100 w (.rc a)=true):mG s w.dq 100=if w.nodes<=200 then some w else none:=by
 unfold mG
 rw[z.ce]
 by_cases hn:w.nodes<=200
 ·rw[qn hb hn,if_pos hn]
  simp only
  rw[if_pos ⟨by omega,by rw[show (100:Int).toNat=100 from rfl,lK z.ask];exact hv⟩]
 ·rw[if_neg hn]
  cases q:rR w.dq with
  |none=>rfl
  |
   some w' =>
   exfalso
   obtain⟨_,h2,h3⟩:=lh q
   have:=yd hb h2 (lg q)
   rw[this]at hn;exact hn h3
theorem ZT.lv{s d:Nm}{a:Ty}{x A B:E}{D:Ty}(z:ZT s d a x A B D)(f:Nm):jP s f=mG s f 100:=by
 unfold jP;rw[z.l]
def iE(d:Nm):List Nm->Option (List Vl)
 |[]=>some []
 |
  c::r=>match mG d c 100,iE d r with
  |some w,some l=>some (w::l)
  |_,_=>none
theorem rA{s d:Nm}{a:Ty}{x A B:E}{D:Ty}(z:ZT s d a x A B D):∀(p:List Nm) (l:List Vl),iE d p=some l->p=l.map (·.dq)/\∀c,c∈l->Cx a c
 |[],l,h=>by cases h;exact⟨rfl,fun c hc=>by cases hc⟩
 |
  c::r,l,h=>by
  simp only[iE]at h
  split at h
  ·rename_i w l' h1 h2
   cases h
   obtain⟨q1,q2⟩:=rA z r l' h2
   obtain⟨_,_,_,_,hv,_⟩:=kI h1
   refine⟨by rw[bL,<-q1,<-lg hv],fun c' hc'=>?_⟩
   rcases aI.1 hc' with rfl|hc'
   ·exact z.DH h1
   ·exact q2 c' hc'
  ·cases h
theorem sV(d:Nm):∀(p q:List Nm),iE d (p++q)=(iE d p).bind fun l=>(iE d q).map (l++·)
 |[],q=>by cases h:iE d q<;>simp[iE,h]
 |
  c::p,q=>by
  simp only[ba,iE,sV d p q]
  cases mG d c 100 with
  |none=>rfl
  |
   some w =>
   cases iE d p with
   |none=>rfl
   |some l=>cases iE d q<;>rfl
noncomputable def Fk (s:Nm) (p:List Nm) (f:Nm):Option (List Vl×Vl):=match jP s f,cY s with
 |some v,some d=>if p.length<=50 then(iE d p).map fun l=>(l,v)else none
 |_,_=>none
def zA(s:Nm):Ty:=(l9 s).getD .zero
def D3(a:Ty)(l:List Vl)(v:Vl):Option (List Vl×Vl):=match l.getLast? with
 |none=>none
 |some c=>if(Vl.f (cM a c v)).nodes<=200 then some (l.dropLast,.f (cM a c v))else none
def qH:Nat->Ty->List Vl->Vl->Option Vl
 |0,_,_,v=>some v
 |n+1,a,l,v=>(D3 a l v).bind fun r=>qH n a r.1 r.2
def yT(a:Ty)(l:List Vl)(v:Vl):Option Vl:=qH l.length a l v
noncomputable def vD (s:Nm) (p:List Nm) (f:Nm):Option (List Vl×Vl):=(Fk s p f).bind fun r=>if(yT (zA s) r.1 r.2).isSome=true then some r else none
structure ZI(a:Ty)(l:List Vl)(v:Vl):Prop where
 DH:∀c,c∈l->Cx a c
 Ac:Fo a v
theorem FK{a:Ty}{l l':List Vl}{v w:Vl}(h:ZI a l v)(hu:D3 a l v=some (l',w)):ZI a l' w/\l'.length+1=l.length/\∃c,l=l'++[c]/\w=.f (cM a c v):=by
 unfold D3 at hu
 cases q:l.getLast? with
 |none=>rw[q]at hu;cases hu
 |
  some c =>
  rw[q]at hu
  simp only at hu
  split at hu
  ·rename_i hn
   cases hu
   have hne:l≠[]:=by rintro rfl;cases q
   have hl:l.dropLast++[c]=l:=by
    have:=List.dropLast_concat_getLast hne
    rw[List.getLast?_eq_some_getLast hne]at q
    cases q;exact this
   have hc:c∈l:=by rw[<-hl];simp
   have hC:=h.DH c hc
   refine⟨⟨fun c' hc'=>h.DH c' (by rw[<-hl];exact aA _ hc'),hC.ty v h.Ac.ty,mn 100 a c v hC.gz h.Ac.gz,hn⟩,?_,c,hl.symm,rfl⟩
   have:=congrArg List.length hl
   simpa using this
  ·cases hu
end Go.Proofs.Trees
namespace Go.Proofs.Trees
open Go Go.VL Go.RowKit
theorem wK(w:World)(k:Nat)(os:Array Obj):Below w.heap.size w (Go.«Sort».grow (w.drewN k) os):=by
 refine⟨rfl,rfl,rfl,?_,fun b hb=>?_⟩
 ·simp[Go.«Sort».grow,World.drewN]
 ·simp only[Go.«Sort».grow,World.drewN]
  rw[Array.getElem?_append_left hb]
theorem GL(k:Nat)(hk:k<1000000000):ap Tryz.prog 94 [.v (.int .i64 (k:Int))] [] (bD (.v (.string (mk (dd k))))):=by
 refine ap.No (xs:=[.int .i64 (k:Int)]) ⟨qg,by kernel_rfl,by kernel_rfl,by kernel_rfl⟩ fun w ht=>?_
 have:=Any.strconv_Itoa Tryz.AW (k:Int) (by omega) (by omega) w ht
 refine Calls.mono this fun e w' ⟨h1,n,os,h2⟩=>⟨?_,?_⟩
 ·rw[h1,Lib.itoa_nonneg];rfl
 ·rw[h2];exact wK w n os
abbrev hN(k:Nat):Nm:=35::dd k
theorem s9{j k:Nat}(h:hN j=hN k):j=k:=wN (j+1) j k (by omega) (List.cons.inj h).2
theorem wR(u:Ty):∀(t:Ty) (i:Nat),i+t.aC<1000000->ap Tryz.prog 158 [t.av,u.av,.v (.int .i64 (i:Int))] [] (bD (dy u t i).av)
 |
  .zero,i,_=>by
  refine wO _ _ _ ((aF _).mpr trivial) ((aF _).mpr trivial) ?_
  simp[DN,Ty.av,dy,↓zq,zs,af,bD]
 |
  .one,i,_=>by
  refine wO _ _ _ ((aF _).mpr trivial) ((aF _).mpr trivial) ?_
  simp[DN,Ty.av,dy,↓zq,zs,af,bD]
 |
  .name s,i,_=>by
  refine wO _ _ _ ((aF _).mpr trivial) ((aF _).mpr trivial) ?_
  simp[DN,Ty.av,dy,↓zq,zs,af,bD]
 |
  .bJ k,i,_=>by
  refine wO _ _ _ ((aF _).mpr trivial) ((aF _).mpr trivial) ?_
  simp only[DN,Ty.av,dy,↓zq,zs,af,bD]
  refine⟨by omega,fun _=>⟨by omega,fun h=>?_,fun h=>?_⟩,fun h=>absurd rfl h⟩
  ·rw[if_pos (by omega)]
  ·rw[if_neg (by omega)];rfl
 |
  .plus a b,i,hl=>by
  simp only[Ty.aC]at hl
  refine wO _ _ _ ((aF _).mpr trivial) ((aF _).mpr trivial) ?_
  simp only[DN,Ty.av,dy,↓zq,zs,af,aF]
  refine⟨by omega,fun h=>by omega,fun _=>⟨fun _=>?_,fun h=>absurd rfl h⟩⟩
  repeat refine⟨by omega,?_⟩
  refine ai (wR u a i (by omega)) ?_
  simp only[↓zq,zs,af,aF]
  repeat refine⟨by omega,?_⟩
  refine ai (wR u b i (by omega)) ?_
  simp only[↓zq,zs,af,aF]
  exact⟨rfl,rfl⟩
 |
  .times a b,i,hl=>by
  simp only[Ty.aC]at hl
  refine wO _ _ _ ((aF _).mpr trivial) ((aF _).mpr trivial) ?_
  simp only[DN,Ty.av,dy,↓zq,zs,af,aF]
  refine⟨by omega,fun h=>by omega,fun _=>⟨fun h=>by omega,fun _=>⟨fun _=>?_,fun h=>absurd rfl h⟩⟩⟩
  repeat refine⟨by omega,?_⟩
  refine ai (wR u a i (by omega)) ?_
  simp only[↓zq,zs,af,aF]
  repeat refine⟨by omega,?_⟩
  refine ai (wR u b i (by omega)) ?_
  simp only[↓zq,zs,af,aF]
  exact⟨rfl,rfl⟩
 |
  .rc a,i,hl=>by
  simp only[Ty.aC]at hl
  refine wO _ _ _ ((aF _).mpr trivial) ((aF _).mpr trivial) ?_
  simp only[DN,Ty.av,dy,↓zq,zs,af,aF]
  refine⟨by omega,fun h=>by omega,fun _=>⟨fun h=>by omega,fun _=>⟨fun h=>by omega,fun _=>⟨fun _=>?_,fun h=>absurd rfl h⟩⟩⟩⟩
  repeat refine⟨by omega,?_⟩
  rw[bE i (by omega)]
  refine ai (wR u a (i+1) (by omega)) ?_
  simp only[↓zq,zs,af,aF]
  exact⟨rfl,rfl⟩
theorem Bf(x:Nm)(u:Ty):∀(t:Ty),ap Tryz.prog 159 [t.av,.v (.string (mk x)),u.av] [] (bD (sub x u t).av)
 |
  .zero=>by
  refine Gt _ _ _ ((aF _).mpr trivial) ((aF _).mpr trivial) ?_
  simp[DK,Ty.av,sub,↓zq,zs,af,bD]
 |
  .one=>by
  refine Gt _ _ _ ((aF _).mpr trivial) ((aF _).mpr trivial) ?_
  simp[DK,Ty.av,sub,↓zq,zs,af,bD]
 |
  .bJ k=>by
  refine Gt _ _ _ ((aF _).mpr trivial) ((aF _).mpr trivial) ?_
  simp[DK,Ty.av,sub,↓zq,zs,af,bD]
 |
  .name s=>by
  refine Gt _ _ _ ((aF _).mpr trivial) ((aF _).mpr trivial) ?_
  simp only[DK,Ty.av,sub,↓zq,zs,af,zt,bD]
  refine⟨by omega,fun _=>⟨by omega,fun h=>?_,fun h=>?_⟩,fun h=>absurd rfl h⟩
  ·rw[if_pos h]
  ·rw[if_neg h];rfl
 |
  .plus a b=>by
  refine Gt _ _ _ ((aF _).mpr trivial) ((aF _).mpr trivial) ?_
  simp only[DK,Ty.av,sub,↓zq,zs,af,aF]
  refine⟨by omega,fun h=>by omega,fun _=>⟨fun _=>?_,fun h=>absurd rfl h⟩⟩
  repeat refine⟨by omega,?_⟩
  refine ai (Bf x u a) ?_
  simp only[↓zq,zs,af,aF]
  repeat refine⟨by omega,?_⟩
  refine ai (Bf x u b) ?_
  simp only[↓zq,zs,af,aF]
  exact⟨rfl,rfl⟩
 |
  .times a b=>by
  refine Gt _ _ _ ((aF _).mpr trivial) ((aF _).mpr trivial) ?_
  simp only[DK,Ty.av,sub,↓zq,zs,af,aF]
  refine⟨by omega,fun h=>by omega,fun _=>⟨fun h=>by omega,fun _=>⟨fun _=>?_,fun h=>absurd rfl h⟩⟩⟩
  repeat refine⟨by omega,?_⟩
  refine ai (Bf x u a) ?_
  simp only[↓zq,zs,af,aF]
  repeat refine⟨by omega,?_⟩
  refine ai (Bf x u b) ?_
  simp only[↓zq,zs,af,aF]
  exact⟨rfl,rfl⟩
 |
  .rc a=>by
  refine Gt _ _ _ ((aF _).mpr trivial) ((aF _).mpr trivial) ?_
  simp only[DK,Ty.av,sub,↓zq,zs,af,aF]
  refine⟨by omega,fun h=>by omega,fun _=>⟨fun h=>by omega,fun _=>⟨fun h=>by omega,fun _=>⟨fun _=>?_,fun h=>absurd rfl h⟩⟩⟩⟩
  repeat refine⟨by omega,?_⟩
  refine ai (Bf x u a) ?_
  simp only[↓zq,zs,af,aF]
  exact⟨rfl,rfl⟩
theorem xz(c:Int)(a b:Ty):ap Tryz.prog 183 [.v (.int .u8 c),a.av,b.av] [] (bD (.ptr [.v (.int .u8 c),.v (.string (mk [])),.v (.int .i64 0),a.av,b.av])):=by
 refine MV _ _ _ ((aF _).mpr trivial) ((aF _).mpr trivial) ?_
 simp[KH,↓zq,zs,af,bD]
abbrev B8(f:Nat)(g:Bool):Ob:=.cells [.v (.int .i64 (f:Int)),.v (.bool g)]
theorem Mk(f:Nat)(g:Bool)(hf:f<100000000):ap Tryz.prog 155 [.ref 0 0] [B8 f g] (dA (.v (.string (mk (hN (f+1))))) [B8 (f+1) g]):=by
 refine Pv _ _ ?_
 simp only[L0,↓zq,zs,af,zt]
 rw[bE f (by omega)]
 refine ai (GL (f+1) (by omega)) ?_
 have hd:=nT 8 (f+1) (by omega)
 simp only[↓zq,zs,af,zt,ba,aT]
 exact⟨by simp[cB];omega,rfl,rfl⟩
def uA(g:Bool)(t:Ty):Ty:=if g=true\/400<t.aC then .zero else t
def zJ(g:Bool)(t:Ty):Bool:=g||decide (400<t.aC)
theorem yr(t:Ty):uA true t=.zero:=by simp[uA]
theorem uX(t:Ty):zJ true t=true:=rfl
theorem uE{t:Ty}(h:t.aC<=400):uA false t=t:=by simp[uA,show ¬400<t.aC by omega]
theorem vH{t:Ty}(h:t.aC<=400):zJ false t=false:=by simp[zJ,show ¬400<t.aC by omega]
theorem D1{t:Ty}(h:¬t.aC<=400):zJ false t=true:=by simp[zJ,show 400<t.aC by omega]
theorem DQ{t:Ty}(h:¬t.aC<=400):uA false t=.zero:=by simp[uA,show 400<t.aC by omega]
theorem vc(f:Nat)(g:Bool)(t:Ty)(hl:t.aC<1000000):ap Tryz.prog 156 [.ref 0 0,t.av] [B8 f g] (dA (uA g t).av [B8 f (zJ g t)]):=by
 refine Nb _ _ _ ((aF _).mpr trivial) ?_
 simp only[Ln,↓zq,zs,af,zt]
 cases g with
 |true=>exact⟨fun _=>⟨rfl,rfl⟩,fun h=>(by cases h)⟩
 |
  false =>
  refine⟨fun h=>(by cases h),fun _=>?_⟩
  refine ai (D4 t hl) ?_
  simp only[↓zq,zs,af,zt]
  refine⟨fun h=>?_,fun h=>?_⟩
  ·have h:400<t.aC:=by omega
   simp[uA,zJ,h,dA,Ty.av]
  ·have h:¬400<t.aC:=by omega
   simp[uA,zJ,h,dA]
theorem Gb(t:Ty)(s:Nm)(f:Nat):ap Tryz.prog 157 [.ref 0 0,t.av,.v (.string (mk s))] [B8 f true] (dA Ty.zero.av [B8 f true]):=by
 refine LU _ _ _ _ ((aF _).mpr trivial) ?_
 simp only[Dq,↓zq,zs,af]
 exact⟨fun _=>⟨rfl,rfl⟩,fun h=>(by cases h)⟩
def BY(f:Nat)(t:Ty):Prop:=∀j,f<j->bg (hN j) t=false
def pI(o:Option Ty)(t:Ty):Nat:=match o with|some d=>d.aC|none=>1000*t.aC
def Av(o:Option Ty)(f B:Nat):AV->List Ob->Prop:=fun r ob=>∃f':Nat,f<=f'/\f'<=f+B/\r=(o.getD .zero).av/\ob=[B8 f' o.isNone]
theorem Av.ne(o:Option Ty)(f B:Nat):∃r ob,Av o f B r ob:=⟨_,_,f,aq _,cW _ _,rfl,rfl⟩
theorem ry{f f':Nat}{t:Ty}(h:BY f t)(hf:f<=f'):BY f' t:=fun j hj=>h j (by omega)
theorem ww:∀(n:Nat) (t:Ty),t.aC<=n->t.aC<=400->∀(s:Nm) (f:Nat),BY f t->(∀j,f<j->s≠hN j)->f+1000*t.aC<50000000->ap Tryz.prog 157 [.ref 0 0,t.av,.v (.string (mk s))] [B8 f false] (Av (lf t s) f (pI (lf t s) t))
 |0,t,h=>by have:=ep t;omega
 |
  n+1,t,hn=>by
  intro h4 s f hf hs hb
  refine LU _ _ _ _ ((aF _).mpr trivial) ?_
  have fin0:∀u:Ty,lf t s=some u->Av (lf t s) f (pI (lf t s) t) u.av [B8 f false]:=fun u hu=>by
   rw[hu];exact⟨f,aq _,cW _ _,rfl,rfl⟩
  cases t with
  |
   zero =>
   have:=fin0 .zero (uB s)
   simpa[Dq,Ty.av,↓zq,zs,af]using this
  |
   one =>
   have:=fin0 .zero (yl s)
   simpa[Dq,Ty.av,↓zq,zs,af]using this
  |
   bJ k =>
   have:=fin0 .zero (zD k s)
   simpa[Dq,Ty.av,↓zq,zs,af]using this
  |
   name c =>
   simp only[Dq,Ty.av,↓zq,zs,af,zt]
   refine⟨fun h=>(by cases h),fun _=>⟨by omega,fun _=>⟨by omega,fun h=>?_,fun h=>?_⟩,fun h=>absurd rfl h⟩⟩
   ·exact fin0 .one (by rw[n8,if_pos h])
   ·exact fin0 .zero (by rw[n8,if_neg h])
  |
   plus a b =>
   simp only[Ty.aC]at hn h4 hb
   have pa:=ep a
   have pb:=ep b
   have fa:BY f a:=fun j hj=>by have:=hf j hj;simp only[bg,bU]at this;exact this.1
   have fb:BY f b:=fun j hj=>by have:=hf j hj;simp only[bg,bU]at this;exact this.2
   simp only[Dq,Ty.av,↓zq,zs,af,zt,aF]
   refine⟨fun h=>(by cases h),fun _=>⟨by omega,fun h=>by omega,fun _=>⟨fun _=>?_,fun h=>absurd rfl h⟩⟩⟩
   repeat refine⟨by omega,?_⟩
   rw[vC]
   refine aO (ww n a (by omega) (by omega) s f fa hs (by omega)) (Av.ne _ _ _) ?_
   rintro r ob ⟨f1,g1,g2,rfl,rfl⟩
   simp only[↓zq,zs,af,zt,aM,aF]
   repeat refine⟨by omega,?_⟩
   cases q1:lf a s with
   |
    none =>
    rw[q1]at g2
    simp only[pI]at g2
    simp only[Option.isNone_none,Option.getD_none,bK]
    refine bc (Gb b s f1) ?_
    simp only[↓zq,zs,af,zt,aM,aF]
    repeat refine⟨by omega,?_⟩
    refine ai (xz 43 _ _) ?_
    simp only[↓zq,zs,af,zt,ck]
    refine bc (vc f1 true (.plus .zero .zero) (by simp[Ty.aC])) ?_
    simp only[↓zq,zs,af,zt,aM,aF]
    exact⟨f1,g1,by simp only[pI,Ty.aC];omega,rfl,rfl⟩
   |
    some a' =>
    rw[q1]at g2
    simp only[pI]at g2
    have la:=(cK.1 q1).small
    simp only[Option.isNone_some,cU,a8]
    refine aO (ww n b (by omega) (by omega) s f1 (ry fb g1) (fun j hj=>hs j (by omega)) (by omega)) (Av.ne _ _ _) ?_
    rintro r ob ⟨f2,k1,k2,rfl,rfl⟩
    simp only[↓zq,zs,af,zt,aM,aF]
    repeat refine⟨by omega,?_⟩
    refine ai (xz 43 _ _) ?_
    simp only[↓zq,zs,af,zt,ck]
    cases q2:lf b s with
    |
     none =>
     rw[q2]at k2
     simp only[pI]at k2
     simp only[Option.isNone_none,Option.getD_none,bK]
     refine bc (vc f2 true (.plus a' .zero) (by simp[Ty.aC];omega)) ?_
     simp only[↓zq,zs,af,zt,aM,aF]
     exact⟨f2,by omega,by simp only[pI,Ty.aC];omega,rfl,rfl⟩
    |
     some b' =>
     rw[q2]at k2
     simp only[pI]at k2
     have lb:=(cK.1 q2).small
     simp only[Option.isNone_some,cU,a8]
     refine bc (vc f2 false (.plus a' b') (by simp only[Ty.aC];omega)) ?_
     simp only[↓zq,zs,af,zt,aM,aF]
     unfold nl
     by_cases hle:(Ty.plus a' b').aC<=400
     ·rw[if_pos hle]
      refine⟨f2,by omega,by simp only[pI,Ty.aC];omega,?_,?_⟩
      ·simp[uA,show ¬400<(Ty.plus a' b').aC by omega]
      ·simp[zJ,show ¬400<(Ty.plus a' b').aC by omega]
     ·rw[if_neg hle]
      refine⟨f2,by omega,by simp only[pI,Ty.aC];omega,?_,?_⟩
      ·simp[uA,show 400<(Ty.plus a' b').aC by omega]
      ·simp[zJ,show 400<(Ty.plus a' b').aC by omega]
  |
   times a b =>
   simp only[Ty.aC]at hn h4 hb
   have pa:=ep a
   have pb:=ep b
   have fa:BY f a:=fun j hj=>by have:=hf j hj;simp only[bg,bU]at this;exact this.1
   have fb:BY f b:=fun j hj=>by have:=hf j hj;simp only[bg,bU]at this;exact this.2
   simp only[Dq,Ty.av,↓zq,zs,af,zt,aF]
   refine⟨fun h=>(by cases h),fun _=>⟨by omega,fun h=>by omega,fun _=>⟨fun h=>by omega,fun _=>⟨fun _=>?_,fun h=>absurd rfl h⟩⟩⟩⟩
   repeat refine⟨by omega,?_⟩
   rw[sX]
   refine aO (ww n a (by omega) (by omega) s f fa hs (by omega)) (Av.ne _ _ _) ?_
   rintro r ob ⟨f1,g1,g2,rfl,rfl⟩
   simp only[↓zq,zs,af,zt,aM,aF]
   repeat refine⟨by omega,?_⟩
   refine ai (xz 42 _ _) ?_
   simp only[↓zq,zs,af,zt,ck]
   repeat refine⟨by omega,?_⟩
   cases q1:lf a s with
   |
    none =>
    rw[q1]at g2
    simp only[pI]at g2
    simp only[Option.isNone_none,Option.getD_none,bK]
    refine bc (Gb b s f1) ?_
    simp only[↓zq,zs,af,zt,aM,aF]
    repeat refine⟨by omega,?_⟩
    refine ai (xz 42 _ _) ?_
    simp only[↓zq,zs,af,zt,ck]
    refine ai (xz 43 (.times .zero b) (.times a .zero)) ?_
    simp only[↓zq,zs,af,zt,ck]
    refine bc (vc f1 true (.plus (.times .zero b) (.times a .zero)) (by simp only[Ty.aC];omega)) ?_
    simp only[↓zq,zs,af,zt,aM,aF]
    exact⟨f1,g1,by simp only[pI,Ty.aC];omega,rfl,rfl⟩
   |
    some a' =>
    rw[q1]at g2
    simp only[pI]at g2
    have la:=(cK.1 q1).small
    simp only[Option.isNone_some,cU,a8]
    refine aO (ww n b (by omega) (by omega) s f1 (ry fb g1) (fun j hj=>hs j (by omega)) (by omega)) (Av.ne _ _ _) ?_
    rintro r ob ⟨f2,k1,k2,rfl,rfl⟩
    simp only[↓zq,zs,af,zt,aM,aF]
    repeat refine⟨by omega,?_⟩
    refine ai (xz 42 _ _) ?_
    simp only[↓zq,zs,af,zt,ck]
    cases q2:lf b s with
    |
     none =>
     rw[q2]at k2
     simp only[pI]at k2
     simp only[Option.isNone_none,Option.getD_none,bK]
     refine ai (xz 43 (.times a' b) (.times a .zero)) ?_
     simp only[↓zq,zs,af,zt,ck]
     refine bc (vc f2 true (.plus (.times a' b) (.times a .zero)) (by simp only[Ty.aC];omega)) ?_
     simp only[↓zq,zs,af,zt,aM,aF]
     exact⟨f2,by omega,by simp only[pI,Ty.aC];omega,rfl,rfl⟩
    |
     some b' =>
     rw[q2]at k2
     simp only[pI]at k2
     have lb:=(cK.1 q2).small
     simp only[Option.isNone_some,cU,a8]
     refine ai (xz 43 (.times a' b) (.times a b')) ?_
     simp only[↓zq,zs,af,zt,ck]
     refine bc (vc f2 false (.plus (.times a' b) (.times a b')) (by simp only[Ty.aC];omega)) ?_
     simp only[↓zq,zs,af,zt,aM,aF]
     unfold nl
     by_cases hle:(Ty.plus (.times a' b) (.times a b')).aC<=400
     ·rw[if_pos hle]
      refine⟨f2,by omega,by simp only[pI,Ty.aC];omega,?_,?_⟩
      ·simp[uA,show ¬400<(Ty.plus (.times a' b) (.times a b')).aC by omega]
      ·simp[zJ,show ¬400<(Ty.plus (.times a' b) (.times a b')).aC by omega]
     ·rw[if_neg hle]
      refine⟨f2,by omega,by simp only[pI,Ty.aC];omega,?_,?_⟩
      ·simp[uA,show 400<(Ty.plus (.times a' b) (.times a b')).aC by omega]
      ·simp[zJ,show 400<(Ty.plus (.times a' b) (.times a b')).aC by omega]
  |
   rc a =>
   simp only[Ty.aC]at hn h4 hb
   have pa:=ep a
   have fa:BY f a:=fun j hj=>hf j hj
   have hxa:bg (hN (f+1)) a=false:=fa _ (by omega)
   have hxs:hN (f+1)≠s:=fun e=>hs _ (by omega) e.symm
   have fo:BY (f+1) (dy (.name (hN (f+1))) a 0):=fun j hj=>by
    cases q:bg (hN j) (dy (.name (hN (f+1))) a 0)with
    |false=>rfl
    |
     true =>
     rcases gA a 0 q with e|e
     ·have:=s9 e;omega
     ·rw[fa j (by omega)]at e;cases e
   have hoa:(dy (.name (hN (f+1))) a 0).aC=a.aC:=fJ _ _ _
   have hop:=wR (.name (hN (f+1))) a 0 (by omega)
   rw[A5 hxa hxs]
   simp only[Dq,Ty.av,↓zq,zs,af,zt,aF]
   refine⟨fun h=>(by cases h),fun _=>⟨by omega,fun h=>by omega,fun _=>⟨fun h=>by omega,fun _=>⟨fun h=>by omega,fun _=>⟨fun _=>?_,fun h=>absurd rfl h⟩⟩⟩⟩⟩
   refine bc (Mk f false (by omega)) ?_
   simp only[↓zq,zs,af,zt,aM,aF]
   repeat refine⟨by omega,?_⟩
   simp only[Ty.av]at hop
   refine ai hop ?_
   simp only[↓zq,zs,af,zt,aM,aF]
   refine aO (ww n (dy (.name (hN (f+1))) a 0) (by omega) (by omega) s (f+1) fo (fun j hj=>hs j (by omega)) (by omega)) (Av.ne _ _ _) ?_
   rintro r ob ⟨f1,g1,g2,rfl,rfl⟩
   simp only[↓zq,zs,af,zt,aM,aF]
   generalize hx:hN (f+1)=x at *
   generalize hin:dy (.name x) a 0=i at *
   have hrc:(Ty.rc a).av=.ptr [.v (.int .u8 114),.v (.string (mk [])),.v (.int .i64 0),a.av,.v (.pointer none)]:=rfl
   cases q1:lf i s with
   |
    none =>
    rw[q1]at g2
    simp only[pI]at g2
    simp only[Option.isNone_none,Option.getD_none,bK]
    refine bc (vc f1 true .zero (by simp[Ty.aC])) ?_
    simp only[↓zq,zs,af,zt,aM,aF]
    rw[<-hrc]
    refine ai (Bf x (.rc a) _) ?_
    simp only[↓zq,zs,af,zt,aF]
    refine bc (Gb i x f1) ?_
    simp only[↓zq,zs,af,zt,aM,aF]
    refine bc (vc f1 true .zero (by simp[Ty.aC])) ?_
    simp only[↓zq,zs,af,zt,aM,aF]
    refine ai (Bf x (.rc a) _) ?_
    simp only[↓zq,zs,af,zt,aF]
    refine ai (xz 42 _ (.bJ 0)) ?_
    simp only[↓zq,zs,af,zt,ck]
    refine ai (xz 43 (sub x (.rc a) (uA true .zero)) (.times (sub x (.rc a) (uA true .zero)) (.bJ 0))) ?_
    simp only[↓zq,zs,af,zt,ck,uX]
    have hz:sub x (.rc a) (uA true .zero)=.zero:=by rw[yr];rfl
    refine bc (vc f1 true (.rc (.plus (sub x (.rc a) (uA true .zero)) (.times (sub x (.rc a) (uA true .zero)) (.bJ 0)))) (by rw[hz];simp only[Ty.aC];omega)) ?_
    simp only[↓zq,zs,af,zt,aM,aF]
    rw[yr,uX]
    exact⟨f1,by omega,by simp only[pI,Ty.aC];omega,rfl,rfl⟩
   |
    some c =>
    rw[q1]at g2
    simp only[pI]at g2
    have lc:=(cK.1 q1).small
    simp only[Option.isNone_some,cU,a8]
    refine bc (vc f1 false c (by omega)) ?_
    simp only[↓zq,zs,af,zt,aM,aF]
    rw[uE lc,vH lc,<-hrc]
    refine ai (Bf x (.rc a) c) ?_
    simp only[↓zq,zs,af,zt,aF]
    refine aO (ww n i (by omega) (by omega) x f1 (ry fo g1) (fun j hj=>by rw[<-hx];exact fun e=>by have:=s9 e;omega) (by omega)) (Av.ne _ _ _) ?_
    rintro r ob ⟨f2,k1,k2,rfl,rfl⟩
    simp only[↓zq,zs,af,zt,aM,aF]
    have hsc:(sub x (.rc a) c).aC+fA x c=c.aC+fA x c*(Ty.rc a).aC:=ef x (.rc a) c
    have hcc:∀t:Ty,fA x t<=t.aC:=fun t=>by
     have h1:=ef x .zero t
     have h2:=gT x .zero t
     simp only[Ty.aC,dG]at h1
     have h3:∀t:Ty,fA x t<=t.aC:=by
      intro t
      induction t with
      |name s=>simp only[fA,Ty.aC];split<;>omega
      |plus a b i1 i2=>simp only[fA,Ty.aC];omega
      |times a b i1 i2=>simp only[fA,Ty.aC];omega
      |rc a i=>simp only[fA,Ty.aC];omega
      |_=>simp[fA,Ty.aC]
     exact h3 t
    have hbig:∀t:Ty,t.aC<=400->(sub x (.rc a) t).aC<=400+400*402:=fun t ht=>by
     have h1:=ef x (.rc a) t
     have h2:=hcc t
     have h3:fA x t*(Ty.rc a).aC<=400*402:=Nat.mul_le_mul (by omega) (by simp only[Ty.aC];omega)
     omega
    have b1:=hbig c lc
    cases q2:lf i x with
    |
     none =>
     rw[q2]at k2
     simp only[pI]at k2
     simp only[Option.isNone_none,Option.getD_none,bK]
     refine bc (vc f2 true .zero (by simp[Ty.aC])) ?_
     simp only[↓zq,zs,af,zt,aM,aF]
     rw[yr,uX]
     refine ai (Bf x (.rc a) .zero) ?_
     simp only[↓zq,zs,af,zt,aF]
     refine ai (xz 42 _ (.bJ 0)) ?_
     simp only[↓zq,zs,af,zt,ck]
     refine ai (xz 43 (sub x (.rc a) c) (.times (sub x (.rc a) .zero) (.bJ 0))) ?_
     simp only[↓zq,zs,af,zt,ck]
     refine bc (vc f2 true (.rc (.plus (sub x (.rc a) c) (.times (sub x (.rc a) .zero) (.bJ 0)))) (by simp only[sub,Ty.aC];omega)) ?_
     simp only[↓zq,zs,af,zt,aM,aF]
     rw[yr,uX]
     exact⟨f2,by omega,by simp only[pI,Ty.aC];omega,rfl,rfl⟩
    |
     some d =>
     rw[q2]at k2
     simp only[pI]at k2
     have ld:=(cK.1 q2).small
     have b2:=hbig d ld
     simp only[Option.isNone_some,cU,a8]
     refine bc (vc f2 false d (by omega)) ?_
     simp only[↓zq,zs,af,zt,aM,aF]
     rw[uE ld,vH ld]
     refine ai (Bf x (.rc a) d) ?_
     simp only[↓zq,zs,af,zt,aF]
     refine ai (xz 42 _ (.bJ 0)) ?_
     simp only[↓zq,zs,af,zt,ck]
     refine ai (xz 43 (sub x (.rc a) c) (.times (sub x (.rc a) d) (.bJ 0))) ?_
     simp only[↓zq,zs,af,zt,ck]
     have hdrc:pg a x c d=.rc (.plus (sub x (.rc a) c) (.times (sub x (.rc a) d) (.bJ 0))):=rfl
     refine bc (vc f2 false (pg a x c d) (by rw[hdrc];simp only[Ty.aC];omega)) ?_
     simp only[↓zq,zs,af,zt,aM,aF]
     have s1:=gT x (.rc a) c
     have s2:=gT x (.rc a) d
     unfold nl
     by_cases hle:(pg a x c d).aC<=400
     ·rw[if_pos hle,uE hle,vH hle]
      exact⟨f2,by omega,by simp only[pI,hdrc,Ty.aC];omega,rfl,rfl⟩
     ·rw[if_neg hle,DQ hle,D1 hle]
      exact⟨f2,by omega,by simp only[pI,Ty.aC];omega,rfl,rfl⟩
def Ms(o:Option Ty):AV->List Ob->Prop:=fun r ob=>ob=[]/\∃p,LK.ptr.has p/\r=.cA [p,.v (.bool o.isSome)]/\∀d,o=some d->p=d.av
theorem Ms.ne(o:Option Ty):∃r ob,Ms o r ob:=by
 cases o with
 |none=>exact⟨_,_,rfl,jh,(jd).mpr trivial,rfl,fun d h=>by cases h⟩
 |some d=>exact⟨_,_,rfl,d.av,(aF _).mpr trivial,rfl,fun d' h=>by cases h;rfl⟩
theorem EQ:hN 1=lT:=by show (35::dd 1:Nm)=_;rw[eH (by omega)];rfl
theorem OV(a:Ty)(h4:a.aC+2<=400)(hf:∀j,bg (hN j) a=false):ap Tryz.prog 122 [(Ty.rc a).av] [] (Ms (nN a lT)):=by
 have hxa:bg (hN 1) a=false:=hf 1
 have fo:BY 1 (dy (.name (hN 1)) a 0):=fun j hj=>by
  cases q:bg (hN j) (dy (.name (hN 1)) a 0)with
  |false=>rfl
  |
   true =>
   rcases gA a 0 q with e|e
   ·have:=s9 e;omega
   ·rw[hf j]at e;cases e
 have hoa:(dy (.name (hN 1)) a 0).aC=a.aC:=fJ _ _ _
 have hop:=wR (.name (hN 1)) a 0 (by omega)
 rw[<-EQ]
 have hrc:(Ty.rc a).av=.ptr [.v (.int .u8 114),.v (.string (mk [])),.v (.int .i64 0),a.av,.v (.pointer none)]:=rfl
 refine OJ _ ((aF _).mpr trivial) ?_
 unfold KB
 refine bc (Mk 0 false (by omega)) ?_
 simp only[Ty.av,↓zq,zs,af,zt,aM,aF]
 repeat refine⟨by omega,?_⟩
 simp only[Ty.av]at hop
 refine ai hop ?_
 simp only[↓zq,zs,af,zt,aM,aF]
 refine aO (ww 400 (dy (.name (hN 1)) a 0) (by omega) (by omega) (hN 1) 1 fo (fun j hj e=>by have:=s9 e;omega) (by omega)) (Av.ne _ _ _) ?_
 rintro r ob ⟨f1,g1,g2,rfl,rfl⟩
 simp only[↓zq,zs,af,zt,aM,aF]
 unfold nN
 cases q1:lf (dy (.name (hN 1)) a 0) (hN 1)with
 |
  none =>
  simp only[Option.isNone_none,Option.getD_none,bK]
  refine bc (vc f1 true .zero (by simp[Ty.aC])) ?_
  simp only[↓zq,zs,af,zt,aM,aF,uX]
  exact⟨fun _=>⟨rfl,jh,(jd).mpr trivial,rfl,fun d h=>(by cases h)⟩,fun h=>(by cases h)⟩
 |
  some d =>
  have ld:=(cK.1 q1).small
  simp only[Option.isNone_some,cU,a8]
  refine bc (vc f1 false d (by omega)) ?_
  simp only[↓zq,zs,af,zt,aM,aF]
  rw[uE ld,vH ld]
  refine⟨fun h=>(by cases h),fun _=>?_⟩
  rw[<-hrc]
  refine ai (Bf (hN 1) (.rc a) d) ?_
  simp only[↓zq,zs,af,zt,aF]
  have h1:=ef (hN 1) (.rc a) d
  have hcn:fA (hN 1) d<=d.aC:=by
   have h3:∀t:Ty,fA (hN 1) t<=t.aC:=by
    intro t
    induction t with
    |name s=>simp only[fA,Ty.aC];split<;>omega
    |plus a b i1 i2=>simp only[fA,Ty.aC];omega
    |times a b i1 i2=>simp only[fA,Ty.aC];omega
    |rc a i=>simp only[fA,Ty.aC];omega
    |_=>simp[fA,Ty.aC]
   exact h3 d
  have h3:fA (hN 1) d*(Ty.rc a).aC<=400*402:=Nat.mul_le_mul (by omega) (by simp only[Ty.aC];omega)
  refine bc (vc f1 false (sub (hN 1) (.rc a) d) (by omega)) ?_
  simp only[↓zq,zs,af,zt,aM,aF]
  unfold nl
  by_cases hle:(sub (hN 1) (.rc a) d).aC<=400
  ·rw[if_pos hle,uE hle,vH hle]
   exact⟨rfl,_,(aF _).mpr trivial,rfl,fun d' h=>by cases h;rfl⟩
  ·rw[if_neg hle,DQ hle,D1 hle]
   exact⟨rfl,_,(aF _).mpr trivial,rfl,fun d' h=>(by cases h)⟩
end Go.Proofs.Trees
namespace Go.Proofs.Trees
open Go Go.VL Go.RowKit
theorem rm(h:Nm)(a b:E):(eY (.list [.atom h,a,b])).length=h.length+(eY a).length+(eY b).length+4:=by
 simp only[eY,ek,aw,an,aG];omega
theorem i7(F:List Nm)(hF:F.length<=10000):∀(t:Ty) (to:List Nm) (k:Nat),uu t->(∀w,w∈to->w.length<=20)->k+(F.length+1)*t.aC<90000000->(eY (gP F t to k).1).length<=50*t.aC
 | .zero,_,_,_,_,_=>by simp[gP,eY,Ty.aC]
 | .one,_,_,_,_,_=>by simp[gP,eY,Ty.aC]
 | .name s,_,_,hn,_,_=>by have:=hn s (by simp[bg]);simp only[gP,eY,Ty.aC];omega
 |
  .bJ u,to,_,_,ht,_=>by
  show (gh to u).length<=50*1
  unfold gh
  by_cases h:to.length-1-u<to.length
  ·rw[aa,bm h];have:=ht _ (bQ h);simp only[cU];omega
  ·rw[aa,List.getElem?_eq_none (by omega)];simp
 |
  .plus a b,to,k,hn,ht,hk=>by
  have h1:=ij F a to k
  have:(F.length+1)*(1+a.aC+b.aC)=(F.length+1)+(F.length+1)*a.aC+(F.length+1)*b.aC:=by simp only[cP,dG]
  simp only[Ty.aC]at hk
  have i1:=i7 F hF a to k (fun y hy=>hn y (by simp[bg,hy])) ht (by omega)
  have i2:=i7 F hF b to _ (fun y hy=>hn y (by simp[bg,hy])) ht (show (gP F a to k).2+_<_ by omega)
  simp only[gP,rm,Ty.aC,aw,aG];omega
 |
  .times a b,to,k,hn,ht,hk=>by
  have h1:=ij F a to k
  have:(F.length+1)*(1+a.aC+b.aC)=(F.length+1)+(F.length+1)*a.aC+(F.length+1)*b.aC:=by simp only[cP,dG]
  simp only[Ty.aC]at hk
  have i1:=i7 F hF a to k (fun y hy=>hn y (by simp[bg,hy])) ht (by omega)
  have i2:=i7 F hF b to _ (fun y hy=>hn y (by simp[bg,hy])) ht (show (gP F a to k).2+_<_ by omega)
  simp only[gP,rm,Ty.aC,aw,aG];omega
 |
  .rc a,to,k,hn,ht,hk=>by
  obtain⟨g1,g2,_,_⟩:=gx F k
  have:(F.length+1)*(2+a.aC)=(F.length+1)*2+(F.length+1)*a.aC:=by simp only[cP]
  simp only[Ty.aC]at hk
  have hl:=vS (k:=nx F k) (by omega)
  have i1:=i7 F hF a (to++[tN (nx F k)]) (nx F k+1) hn (fun w hw=>by
   rcases aL.1 hw with hw|hw
   ·exact ht w hw
   ·simp only[aS]at hw;rw[hw];exact hl) (by omega)
  simp only[gP,rm,Ty.aC,aw,aG]
  simp only[eY]
  simp only[aw]at hl |-
  omega
theorem K3(x0 a fv:AV)(F:List Nm)(h0:LK.ptr.has x0)(ha:LK.sl.has a)(hfv:dV fv F)(hF:F.length<100000):∀(n j:Nat),pK F n j<j+n->j+n<100000000 ->
 Cg [x0,a,.v (.string (mk (tN j)))] [.cells [fv],.cells [.v (.int .i64 ((j+1:Nat):Int))]] (iF 1 [x0,a,.v (.string (mk (tN (pK F n j))))] [.cells [fv],.cells [.v (.int .i64 ((pK F n j+1:Nat):Int))]])
 |0,j,h,_=>by simp only[pK]at h;omega
 |
  n+1,j,h,hj=>by
  refine Kb _ _ _ _ _ ?_
  simp only[GY,↓zq,zs,af,zt,af,hfv.1,h0,ha]
  refine⟨fun h=>(by simp at h),fun _=>?_⟩
  refine ai (J6 F fv hfv (tN j) (by omega)) ?_
  simp only[↓zq,zs,af,zt]
  rw[pK]at h |-
  refine⟨fun hm=>?_,fun hm=>?_⟩
  ·rw[if_pos hm]at h |-
   refine ai (GL (j+1) (by omega)) ?_
   have hd:=nT 8 (j+1) (by omega)
   simp only[↓zq,zs,af,zt,ba,aT]
   rw[bE (j+1) (by omega)]
   exact⟨by simp[cB];omega,K3 x0 a fv F h0 ha hfv hF n (j+1) (by omega) (by omega)⟩
  ·rw[if_neg hm]
   exact⟨rfl,rfl,rfl⟩
theorem Pp(x0 a fv:AV)(F:List Nm)(h0:LK.ptr.has x0)(ha:LK.sl.has a)(hfv:dV fv F)(hF:F.length<10000)(k:Nat)(hk:k<90000000) :
 Cg [x0,a,.v (.string (mk []))] [.cells [fv],.cells [.v (.int .i64 (k:Int))]] (iF 1 [x0,a,.v (.string (mk (tN (nx F k))))] [.cells [fv],.cells [.v (.int .i64 ((nx F k+1:Nat):Int))]]):=by
 obtain⟨g1,g2,_,_⟩:=gx F k
 refine Kb _ _ _ _ _ ?_
 simp only[GY,↓zq,zs,af,zt,af,hfv.1,h0,ha]
 refine⟨fun _=>?_,fun h=>(by simp at h)⟩
 refine ai (GL k (by omega)) ?_
 have hd:=nT 8 k (by omega)
 simp only[↓zq,zs,af,zt,ba,aT]
 rw[bE k (by omega)]
 exact⟨by simp[cB];omega,K3 x0 a fv F h0 ha hfv (by omega) (F.length+1) k (by show nx F k<_;omega) (by omega)⟩
theorem zx(F:List Nm)(fv:AV)(hfv:dV fv F)(hF:F.length<=1000):∀(t:Ty) (to:List Nm) (a:AV) (k:Nat),dV a to->to.length+t.aC<10000->jv t to.length->uu t->(∀w,w∈to->w.length<=20)->k+(F.length+1)*t.aC<80000000 ->
 ap Tryz.prog 184 [t.av,a,.gM 184 [none,some 0,some 1],.ref 0 0,.ref 1 0] [.cells [fv],.cells [.v (.int .i64 (k:Int))]] (dA (.v (.string (mk (eY (gP F t to k).1)))) [.cells [fv],.cells [.v (.int .i64 ((gP F t to k).2:Int))]])
 |
  .zero,to,a,k,ha,hl,hlc,hs,ht,hk=>by
  refine GH _ _ _ _ ((aF _).mpr trivial) ha.1 hfv.1 ?_
  simp only[Ea,Ty.av,↓zq,zs,af,zt,aF]
  refine⟨by omega,fun h=>by omega,fun _=>⟨fun h=>by omega,fun _=>⟨fun h=>by omega,fun _=>⟨fun h=>by omega,fun _=>⟨fun h=>by omega,fun _=>?_⟩⟩⟩⟩⟩
  repeat refine⟨by omega,?_⟩
  exact⟨⟨rfl,(lN _ _).mpr trivial,trivial⟩,rfl,rfl⟩
 |
  .one,to,a,k,ha,hl,hlc,hs,ht,hk=>by
  refine GH _ _ _ _ ((aF _).mpr trivial) ha.1 hfv.1 ?_
  simp only[Ea,Ty.av,↓zq,zs,af,zt,aF]
  refine⟨by omega,fun h=>by omega,fun _=>⟨fun h=>by omega,fun _=>⟨fun h=>by omega,fun _=>⟨fun h=>by omega,fun _=>⟨fun h=>by omega,fun _=>?_⟩⟩⟩⟩⟩
  repeat refine⟨by omega,?_⟩
  exact⟨⟨rfl,(lN _ _).mpr trivial,trivial⟩,rfl,rfl⟩
 |
  .name s,to,a,k,ha,hl,hlc,hs,ht,hk=>by
  refine GH _ _ _ _ ((aF _).mpr trivial) ha.1 hfv.1 ?_
  simp[Ea,Ty.av,↓zq,zs,af,dA,gP,eY]
 |
  .bJ u,to,a,k,ha,hl,hlc,hs,ht,hk=>by
  have hu:u<to.length:=hlc
  refine GH _ _ _ _ ((aF _).mpr trivial) ha.1 hfv.1 ?_
  simp only[Ea,Ty.av,↓zq,zs,af,zt,ha.len]
  rw[wrap64 ((to.length:Int)-1) (by omega) (by omega),wrap64 _ (by omega) (by omega)]
  have e1:(to.length:Int)-1-(u:Int)=((to.length-1-u:Nat):Int):=by omega
  rw[e1]
  simp only[cb,ha.idx (show to.length-1-u<to.length by omega),↓zq,zs,af,zt]
  refine⟨by omega,fun h=>by omega,fun _=>⟨fun _=>⟨ha.1,by omega,⟨ha.1,by omega,by omega⟩,by omega,rfl,rfl⟩,fun h=>absurd rfl h⟩⟩
 |
  .plus x y,to,a,k,ha,hl,hlc,hs,ht,hk=>by
  simp only[Ty.aC]at hl hk
  have h1:=ij F x to k
  have hm:(F.length+1)*(1+x.aC+y.aC)=(F.length+1)+(F.length+1)*x.aC+(F.length+1)*y.aC:=by simp only[cP,dG]
  have sx:uu x:=fun z hz=>hs z (by simp[bg,hz])
  have sy:uu y:=fun z hz=>hs z (by simp[bg,hz])
  have t1:=i7 F (by omega) x to k sx ht (by omega)
  have t2:=i7 F (by omega) y to (gP F x to k).2 sy ht (by omega)
  have hb:(⟨(bytesOf [[.v (.int .u8 43)]]).toArray⟩:ByteArray)=mk [43]:=rfl
  have h8:jy [[AV.v (.int .u8 43)]]:=⟨rfl,(lN _ _).mpr trivial,trivial⟩
  refine GH _ _ _ _ ((aF _).mpr trivial) ha.1 hfv.1 ?_
  simp only[Ea,Ty.av,↓zq,zs,af,zt,aF,hb]
  refine⟨by omega,fun h=>by omega,fun _=>⟨fun h=>by omega,fun _=>⟨fun _=>?_,fun h=>absurd rfl h⟩⟩⟩
  repeat refine⟨by omega,?_⟩
  refine bc (zx F fv hfv hF x to a k ha (by omega) hlc.1 sx ht (by omega)) ?_
  simp only[↓zq,zs,af,zt,aM,hfv.1,hb,ba,aT]
  repeat (first|refine⟨by omega,?_⟩|refine⟨h8,?_⟩|refine⟨by simp[cB];omega,?_⟩)
  refine bc (zx F fv hfv hF y to a _ ha (by omega) hlc.2 sy ht (by omega)) ?_
  simp only[↓zq,zs,af,zt,aM,hfv.1,hb,ba,aT]
  repeat (first|refine⟨by omega,?_⟩|refine⟨h8,?_⟩|refine⟨by simp[cB];omega,?_⟩)
  refine⟨?_,rfl⟩
  simp[gP,eY,ek]
 |
  .times x y,to,a,k,ha,hl,hlc,hs,ht,hk=>by
  simp only[Ty.aC]at hl hk
  have h1:=ij F x to k
  have hm:(F.length+1)*(1+x.aC+y.aC)=(F.length+1)+(F.length+1)*x.aC+(F.length+1)*y.aC:=by simp only[cP,dG]
  have sx:uu x:=fun z hz=>hs z (by simp[bg,hz])
  have sy:uu y:=fun z hz=>hs z (by simp[bg,hz])
  have t1:=i7 F (by omega) x to k sx ht (by omega)
  have t2:=i7 F (by omega) y to (gP F x to k).2 sy ht (by omega)
  have hb:(⟨(bytesOf [[.v (.int .u8 42)]]).toArray⟩:ByteArray)=mk [42]:=rfl
  have h8:jy [[AV.v (.int .u8 42)]]:=⟨rfl,(lN _ _).mpr trivial,trivial⟩
  refine GH _ _ _ _ ((aF _).mpr trivial) ha.1 hfv.1 ?_
  simp only[Ea,Ty.av,↓zq,zs,af,zt,aF,hb]
  refine⟨by omega,fun h=>by omega,fun _=>⟨fun h=>by omega,fun _=>⟨fun h=>by omega,fun _=>⟨fun _=>?_,fun h=>absurd rfl h⟩⟩⟩⟩
  repeat refine⟨by omega,?_⟩
  refine bc (zx F fv hfv hF x to a k ha (by omega) hlc.1 sx ht (by omega)) ?_
  simp only[↓zq,zs,af,zt,aM,hfv.1,hb,ba,aT]
  repeat (first|refine⟨by omega,?_⟩|refine⟨h8,?_⟩|refine⟨by simp[cB];omega,?_⟩)
  refine bc (zx F fv hfv hF y to a _ ha (by omega) hlc.2 sy ht (by omega)) ?_
  simp only[↓zq,zs,af,zt,aM,hfv.1,hb,ba,aT]
  repeat (first|refine⟨by omega,?_⟩|refine⟨h8,?_⟩|refine⟨by simp[cB];omega,?_⟩)
  refine⟨?_,rfl⟩
  simp[gP,eY,ek]
 |
  .rc x,to,a,k,ha,hl,hlc,hs,ht,hk=>by
  simp only[Ty.aC]at hl hk
  obtain⟨g1,g2,_,_⟩:=gx F k
  have hm:(F.length+1)*(2+x.aC)=(F.length+1)*2+(F.length+1)*x.aC:=by simp only[cP]
  have hln:=vS (k:=nx F k) (by omega)
  have ht':∀w,w∈to++[tN (nx F k)]->w.length<=20:=fun w hw=>by
   rcases aL.1 hw with hw|hw
   ·exact ht w hw
   ·simp only[aS]at hw;rw[hw];exact hln
  have t1:=i7 F (by omega) x (to++[tN (nx F k)]) (nx F k+1) hs ht' (by omega)
  have hrc:(Ty.rc x).av=.ptr [.v (.int .u8 114),.v (.string (mk [])),.v (.int .i64 0),x.av,.v (.pointer none)]:=rfl
  refine GH _ _ _ _ ((aF _).mpr trivial) ha.1 hfv.1 ?_
  simp only[Ea,Ty.av,↓zq,zs,af,zt,aF]
  refine⟨by omega,fun h=>by omega,fun _=>⟨fun h=>by omega,fun _=>⟨fun h=>by omega,fun _=>⟨fun h=>by omega,fun _=>⟨fun _=>?_,fun h=>absurd rfl h⟩⟩⟩⟩⟩
  rw[<-hrc]
  repeat refine⟨by omega,?_⟩
  refine cw (Pp (Ty.rc x).av a fv F ((aF _).mpr trivial) ha.1 hfv (by omega) k (by omega)) ?_
  simp only[Ty.av,↓zq,zs,af,zt,af,aM,hfv.1,ha.1,aF,ha.2,yR,aT,pQ,j6]
  have hl2:(dd (nx F k)).length+1<=20:=hln
  have hl3:(tN (nx F k)).length=(dd (nx F k)).length+1:=rfl
  refine⟨by omega,by simp only[an,aw,aG,hl3];omega,by omega,by omega,⟨fun c hc=>by simp at hc;rw[hc];rfl,by omega⟩,?_⟩
  refine bc (zx F fv hfv hF x (to++[tN (nx F k)]) _ (nx F k+1) (.of _) (by simp;omega) (by rw[an];exact hlc) hs ht' (by omega)) ?_
  simp only[↓zq,zs,af,zt,aM,hfv.1]
  repeat refine⟨by omega,?_⟩
  refine⟨by simp only[an,aw,aG,hl3];omega,by simp only[an,aw,aG,hl3];omega,?_,rfl⟩
  simp[gP,eY,ek]
theorem PN(t:Ty)(g:fV t)(hs:uu t)(h4:t.aC<=400):ap Tryz.prog 160 [t.av] [] (bD (.v (.string (mk (DX t))))):=by
 refine ON _ ((aF _).mpr trivial) ?_
 unfold Ix
 have hn:=eC t []
 simp only[aG,aV]at hn
 have hm:((bF t []).length+1)*t.aC<=401*400:=Nat.mul_le_mul (by omega) h4
 refine ai (IJ t (by omega)) ?_
 simp only[↓zq,zs,af,zt,cd]
 refine bc (zx (bF t []) _ (.of _) (by omega) t [] zN 0 .nil (by simp;omega) g.1 hs (fun w hw=>by cases hw) (by omega)) ?_
 simp only[↓zq,zs,af,zt,aM,cd]
 exact⟨rfl,rfl⟩
theorem Oh(t:Ty)(g:fV t)(hs:uu t)(hl:t.aC<1000000):ap Tryz.prog 123 [t.av] [] (bD (lu (told t))):=by
 refine N3 _ ((aF _).mpr trivial) ?_
 unfold IA
 refine ai (D4 t hl) ?_
 simp only[↓zq,zs,af,zt]
 refine⟨fun h=>?_,fun h=>?_⟩
 ·have:told t=none:=by unfold told;rw[if_neg fun h'=>by have:=h'.1;omega]
  rw[this];exact⟨rfl,rfl⟩
 ·have h4:t.aC<=400:=by omega
  refine ai (PN t g hs h4) ?_
  simp only[↓zq,zs,af,zt]
  refine ai (Gx (DX t)) ?_
  simp only[↓zq,zs,af,zt,gm]
  unfold told
  cases q:qy (DX t)with
  |
   none =>
   simp only[ia,↓zq,zs,af]
   rw[if_neg (by simp)]
   exact⟨fun _=>⟨rfl,rfl⟩,fun h=>(by cases h)⟩
  |
   some u =>
   simp only[ia,↓zq,zs,af,fM]
   rw[if_pos ⟨h4,rfl⟩]
   exact⟨fun h=>(by cases h),fun _=>⟨rfl,rfl⟩⟩
theorem KQ(s:Nm):ap Tryz.prog 65 [.v (.string (mk s))] [] (bD (lu (cY s))):=by
 refine OF _ ?_
 unfold H0
 refine ai (Gx s) ?_
 simp only[↓zq,zs,af,zt,gm]
 cases q:qy s with
 |
  none =>
  have:cY s=none:=by unfold cY;rw[q]
  rw[this]
  simp only[ia,↓zq,zs,af]
  exact⟨fun _=>⟨rfl,rfl⟩,fun h=>(by cases h)⟩
 |
  some t =>
  simp only[ia,↓zq,zs,af,fM]
  have notRec:(∀a,t≠.rc a)->cY s=none:=fun hn=>by
   unfold cY;rw[q]
   cases t<;>first|rfl|exact absurd rfl (hn _)
  refine⟨fun h=>(by cases h),fun _=>?_⟩
  cases t with
  |
   rc a =>
   have h4:=sK q
   simp only[Ty.aC]at h4
   have hq:cY s=(nN a lT).bind told:=by unfold cY;rw[q]
   obtain⟨e,he,hw,hte,hats,hok⟩:=nK q
   have hgood:∀d,nN a lT=some d->fV d/\(uu (.rc a)->uu d):=fun d hd=>rI hw hte ⟨by simp,by simp,by simp⟩ hd
   rw[hq]
   simp only[Ty.av,↓zq,zs,af]
   refine⟨by omega,fun h=>by omega,fun _=>?_⟩
   have hld:=OV a (by omega) (fun j=>by
    cases q2:bg (hN j) a with
    |false=>rfl
    |true=>exact absurd rfl ((vZ (mM q (hN j) q2)).2 (dd j)))
   simp only[Ty.av]at hld
   refine aO hld (Ms.ne _) ?_
   rintro r ob ⟨rfl,p,hp,rfl,hpe⟩
   simp only[↓zq,zs,af,zt,eq_true hp]
   cases q1:nN a lT with
   |
    none =>
    simp only[cj,bK]
    exact⟨fun _=>⟨rfl,rfl⟩,fun h=>(by cases h)⟩
   |
    some d =>
    simp only[bH,a8]
    refine⟨fun h=>(by cases h),fun _=>?_⟩
    rw[hpe d q1]
    have hl:d.aC<=400:=by
     simp only[nN,a6,eJ]at q1
     obtain⟨_,_,h1,h2⟩:=q1
     rw[<-h2];exact h1
    refine ai (Oh d (hgood d q1).1 ((hgood d q1).2 (AF q)) (by omega)) ?_
    cases told d<;>simp only[lu,↓zq,zs,af,zt]<;>exact⟨rfl,rfl⟩
  |
   _ =>
   rw[notRec fun a h=>by cases h]
   simp only[Ty.av,↓zq,zs,af]
   exact⟨by omega,fun _=>⟨rfl,rfl⟩,fun h=>by omega⟩
end Go.Proofs.Trees
namespace Go.Proofs.Trees
open Go Go.VL Go.RowKit
theorem D0:∀(m:Nat) (c:Vl),c.nodes<=m->∀(t:Ty) (v:Vl),dP t c=true->∀(ea:AV) (ids:List Nat),kl ea ids->∀(s:List UInt8) (fr:AV),LK.has .ptr fr->ap Tryz.prog 49 [.agg [t.av,ea],c.ct,.agg [.v (.string (mk s)),fr],v.ct] [] (bD (cM t c v).ct)
 |0,c,hm=>by have:=dr c;omega
 |
  m+1,c,hm=>by
  intro t v hc ea ids he s fr hf
  refine NV _ _ _ _ _ _ ((aF _).mpr trivial) he.has ((aN _).mpr trivial) hf ((aN _).mpr trivial) ?_
  have fin:∀x:AV,LK.has .ptr x->LK.has .ptr x=True:=fun x h=>eq_true h
  cases t with
  |zero=>rw[s5];simp[BI,Ty.av,↓zq,zs,af,bD]
  |one=>rw[vL];simp[BI,Ty.av,↓zq,zs,af,bD]
  |name n=>rw[ky];simp[BI,Ty.av,↓zq,zs,af,bD]
  |bJ u=>rw[qJ];simp[BI,Ty.av,↓zq,zs,af,bD]
  |
   plus a b =>
   have hL:=yY a.av b.av ea 43 (mk []) 0 ((aF _).mpr trivial) he.has
   have hR:=y7 a.av b.av ea 43 (mk []) 0 ((aF _).mpr trivial) he.has
   rcases vy hc with⟨x,rfl,hx⟩|⟨x,rfl,hx⟩
   ·simp only[Vl.nodes]at hm
    simp only[BI,Ty.av,↓zq,zs,af]
    refine⟨by omega,fun _=>?_,fun h=>absurd rfl h⟩
    refine ai hL ?_
    simp only[↓zq,zs,af,bz,aF,he.has,Vl.ct,aN]
    refine⟨by omega,fun h=>by omega,fun _=>⟨by omega,by omega,?_⟩⟩
    refine ai (D0 m x (by omega) a v hx ea ids he s fr hf) ?_
    simp only[↓zq,zs,af,aN]
    refine ai (yE 108 _ ((aN _).mpr trivial)) ?_
    simp[↓zq,zs,af,bD,cM,Vl.ct,ck]
   ·simp only[Vl.nodes]at hm
    simp only[BI,Ty.av,↓zq,zs,af]
    refine⟨by omega,fun _=>?_,fun h=>absurd rfl h⟩
    refine ai hL ?_
    simp only[↓zq,zs,af,bz,aF,he.has,Vl.ct,aN]
    refine⟨by omega,fun _=>?_,fun h=>absurd rfl h⟩
    refine ai hR ?_
    simp only[↓zq,zs,af,bz,aF,he.has,Vl.ct,aN]
    refine⟨by omega,by omega,?_⟩
    refine ai (D0 m x (by omega) b v hx ea ids he s fr hf) ?_
    simp only[↓zq,zs,af,aN]
    refine ai (yE 114 _ ((aN _).mpr trivial)) ?_
    simp[↓zq,zs,af,bD,cM,Vl.ct,ck]
  |
   times a b =>
   have hL:=yY a.av b.av ea 42 (mk []) 0 ((aF _).mpr trivial) he.has
   have hR:=y7 a.av b.av ea 42 (mk []) 0 ((aF _).mpr trivial) he.has
   rcases sq hc with⟨x,y,rfl,hx⟩|⟨x,y,rfl,hx⟩
   ·simp only[Vl.nodes]at hm
    simp only[BI,Ty.av,↓zq,zs,af,Vl.ct]
    refine⟨by omega,fun h=>by omega,fun _=>⟨fun _=>⟨by omega,fun _=>?_,fun h=>absurd rfl h⟩,fun h=>absurd rfl h⟩⟩
    refine ai hL ?_
    simp only[↓zq,zs,af,bz,aF,he.has,Vl.ct,aN]
    repeat refine⟨by omega,?_⟩
    refine ai (D0 m x (by omega) a v hx ea ids he s fr hf) ?_
    simp only[↓zq,zs,af,aN]
    repeat refine⟨by omega,?_⟩
    refine ai (yH _ _ ((aN _).mpr trivial) ((aN _).mpr trivial)) ?_
    simp[↓zq,zs,af,bD,cM,Vl.ct,ck]
   ·simp only[Vl.nodes]at hm
    simp only[BI,Ty.av,↓zq,zs,af,Vl.ct,aN]
    refine⟨by omega,fun h=>by omega,fun _=>⟨fun _=>⟨by omega,fun h=>by omega,fun _=>?_⟩,fun h=>absurd rfl h⟩⟩
    repeat refine⟨by omega,?_⟩
    refine ai hR ?_
    simp only[↓zq,zs,af,bz,aF,he.has,Vl.ct,aN]
    repeat refine⟨by omega,?_⟩
    refine ai (D0 m y (by omega) b v hx ea ids he s fr hf) ?_
    simp only[↓zq,zs,af,aN]
    refine ai (yH _ _ ((aN _).mpr trivial) ((aN _).mpr trivial)) ?_
    simp[↓zq,zs,af,bD,cM,Vl.ct,ck]
  |
   rc a =>
   have hin:=Cp a ea ids he
   simp only[Ty.av]at hin
   rcases BP hc with⟨x,rfl,hx⟩|⟨x,y,rfl,hx,hy⟩
   ·simp only[Vl.nodes]at hm
    simp only[BI,Ty.av,↓zq,zs,af,Vl.ct,aN]
    refine⟨by omega,fun h=>by omega,fun _=>⟨fun h=>by omega,fun _=>⟨fun _=>?_,fun h=>absurd rfl h⟩⟩⟩
    refine aO hin (by have:=zZ.ne a ea ids;simpa only[zZ,Ty.av]using this) ?_
    intro r o hr
    obtain⟨⟨q,hq,rfl⟩,rfl⟩:=hr
    have he2:kl (.ptr [.pid q [(Ty.rc a).av,ea],ea]) (q::ids):=.cons hq he
    have hfr:LK.ptr.has (.pid q [(Ty.rc a).av,ea]):=.inr (.inr ⟨_,_,rfl⟩)
    simp only[Ty.av]at he2 hfr
    simp only[↓zq,zs,af,bz,aF,he2.has,hfr,Vl.ct,aN,Ty.av]
    repeat refine⟨by omega,?_⟩
    refine⟨fun _=>?_,fun h=>absurd rfl h⟩
    repeat refine⟨by omega,?_⟩
    refine ai (D0 m x (by omega) a v hx _ _ he2 s fr hf) ?_
    simp only[↓zq,zs,af,aN]
    refine ai (yE 102 _ ((aN _).mpr trivial)) ?_
    simp[↓zq,zs,af,bD,cM,Vl.ct,ck]
   ·simp only[Vl.nodes]at hm
    simp only[BI,Ty.av,↓zq,zs,af,Vl.ct,aN]
    refine⟨by omega,fun h=>by omega,fun _=>⟨fun h=>by omega,fun _=>⟨fun _=>?_,fun h=>absurd rfl h⟩⟩⟩
    refine aO hin (by have:=zZ.ne a ea ids;simpa only[zZ,Ty.av]using this) ?_
    intro r o hr
    obtain⟨⟨q,hq,rfl⟩,rfl⟩:=hr
    have he2:kl (.ptr [.pid q [(Ty.rc a).av,ea],ea]) (q::ids):=.cons hq he
    have hfr:LK.ptr.has (.pid q [(Ty.rc a).av,ea]):=.inr (.inr ⟨_,_,rfl⟩)
    simp only[Ty.av]at he2 hfr
    simp only[↓zq,zs,af,bz,aF,he2.has,hfr,Vl.ct,aN,Ty.av]
    repeat refine⟨by omega,?_⟩
    refine fun _=>?_
    repeat refine⟨by omega,?_⟩
    have i1:=D0 m y (by omega) (.rc a) v hy ea ids he s fr hf
    simp only[Ty.av]at i1
    refine ai i1 ?_
    simp only[↓zq,zs,af,aN]
    repeat refine⟨by omega,?_⟩
    refine ai (D0 m x (by omega) a (cM (.rc a) y v) hx _ _ he2 [] _ hfr) ?_
    simp only[↓zq,zs,af,aN]
    refine ai (yE 102 _ ((aN _).mpr trivial)) ?_
    simp[↓zq,zs,af,bD,cM,Vl.ct,ck]
theorem OY(a:Ty)(c v:Vl)(hc:dP a c=true):ap Tryz.prog 66 [(Ty.rc a).av,c.ct,v.ct] [] (bD (Vl.f (cM a c v)).ct):=by
 refine N9 _ _ _ ((aF _).mpr trivial) ((aN _).mpr trivial) ((aN _).mpr trivial) ?_
 unfold HL
 refine aO (Cp a jh [] .nil) (zZ.ne a jh []) ?_
 rintro r o ⟨⟨m,hm,rfl⟩,rfl⟩
 have he2:kl (.ptr [.pid m [(Ty.rc a).av,jh],jh]) [m]:=.cons hm .nil
 have hfr:LK.ptr.has (.pid m [(Ty.rc a).av,jh]):=.inr (.inr ⟨_,_,rfl⟩)
 simp only[Ty.av]at he2 hfr
 simp only[↓zq,zs,af,bz,aF,he2.has,hfr,Ty.av]
 repeat refine⟨by omega,?_⟩
 refine ai (D0 c.nodes c (aq _) a v hc _ _ he2 [] _ hfr) ?_
 simp only[↓zq,zs,af,aN]
 refine ai (yE 102 _ ((aN _).mpr trivial)) ?_
 simp[↓zq,zs,af,bD,Vl.ct,ck]
end Go.Proofs.Trees
namespace Go.Proofs.Trees
open Go Go.VL Go.RowKit
theorem Bc{s:Nm}{p:List Nm}{f:Nm}{l:List Vl}{v:Vl}(h:Fk s p f=some (l,v)):∃d a x A B D,ZT s d a x A B D/\ZI a l v/\p=l.map (·.dq)/\f=v.dq/\p.length<=50/\zA s=a/\jP s f=some v/\iE d p=some l:=by
 unfold Fk at h
 split at h
 ·rename_i v' d h1 h2
  split at h
  ·rename_i hl
   obtain⟨l',h3,h4⟩:=Option.map_eq_some_iff.1 h
   cases h4
   obtain⟨a,_,_,_,L⟩:=mZ h1
   obtain⟨x,A,B,D,z⟩:=ZT.of L.l h2
   obtain⟨q1,q2⟩:=rA z p l h3
   obtain⟨q3,q4⟩:=z.Ac h1
   exact⟨d,a,x,A,B,D,z,⟨q2,q3⟩,q1,q4,hl,by unfold zA;rw[L.l];rfl,h1,h3⟩
  ·cases h
 ·cases h
end Go.Proofs.Trees
namespace Go.Proofs.Trees
open Go Go.VL Go.RowKit
abbrev tZ(s:Nm):Option (List Vl×Vl)->Nm×List Nm×Nm
 |some r=>(s,r.1.map (·.dq),r.2.dq)
 |none=>([],[],[])
def GZ(o:Option (List Vl×Vl)):Prop:=∀r,o=some r->(∀c,c∈r.1->c.dq.length<=900000)/\r.2.dq.length<=900000/\r.1.length<=51
theorem Cx.dq{a:Ty}{c:Vl}(h:Cx a c):c.dq.length<=900000:=by have:=iq c h.gz;have:=h.nd;omega
theorem Fo.dq{a:Ty}{c:Vl}(h:Fo a c):c.dq.length<=900000:=by have:=iq c h.gz;have:=h.nd;omega
theorem GZ.none:GZ none:=fun r hr=>by cases hr
theorem ph{s:Nm}{p:List Nm}{f:Nm}{l:List Vl}{v:Vl}(h:vD s p f=some (l,v)):Fk s p f=some (l,v)/\(yT (zA s) l v).isSome=true:=by
 unfold vD at h
 obtain⟨r,h1,h2⟩:=a6.1 h
 split at h2
 ·rename_i hc
  cases h2
  exact⟨h1,hc⟩
 ·cases h2
end Go.Proofs.Trees
namespace Go.Proofs.Trees
open Go Go.VL Go.RowKit
def kZ:E->Option E
 | .list [x,a,b]=>if x.at=[114,101,99]then some (.list [x,a,b])else none
 |_=>none
def nP(s:List UInt8):Option E:=match jC s with
 |some e=>kZ e
 |none=>none
theorem Dg(s:List UInt8):ap Tryz.prog 67 [.v (.string (mk s))] [] (jn (nP s) (nP s).isSome):=by
 refine MW _ ?_
 unfold Hw
 refine aO (FQ s) (jn.ne _ _ (fun h=>h)) ?_
 rintro r o ⟨c,d,hd,rfl,hh⟩
 have hhas:bz [.str,.sl] [.v (.string (mk c)),d] 0:=by simp[bz,dI,hd]
 simp only[↓zq,zs,af,zt]
 refine⟨hhas,fun h=>?_,fun h=>?_⟩
 ·obtain⟨e,he,hce⟩:=hh h
  obtain⟨t,h1,hA,h3,h4,h5,_⟩:=gU he
  have hce':=hce
  rw[dh]at hce'
  simp only[AV.agg.injEq,List.cons.injEq,AV.v.injEq,Value.string.injEq,and_true]at hce'
  obtain⟨hc1,rfl⟩:=hce'
  have hc2:=vV hc1
  subst hc2
  have head:∀w:List UInt8,ap Tryz.prog 90 [.agg [.v (.string (mk e.at)),e.sp]] [] (bD (.v (.string (mk w))))->(w=[114,101,99]↔(kZ e).isSome=true)->((kZ e).isSome=true->kZ e=some e) ->
   eT Tryz.prog 18 (Tree.call 90 [.agg [.v (.string (mk e.at)),e.sp]] [] fun r2 o2=>Tree.ak (LK.str.has r2) (Tree.done 0 [.cA [.agg [.v (.string (mk e.at)),e.sp],.v (.bool (ac r2.ag==[114,101,99]))]] [])) fun _ xs obs=>jn (nP s) (nP s).isSome (xs.headD .any) obs:=by
   intro w hw h1 h2
   refine ai hw ?_
   simp only[↓zq,zs,af,zt]
   refine⟨e.at,e.sp,hd,?_,fun hs=>⟨e,?_,(dh e).symm⟩⟩
   ·congr 3
    simp only[nP,he,AV.v.injEq,Value.bool.injEq,List.cons.injEq,and_true]
    rw[cn];simpa using h1
   ·simp only[nP,he]at hs |-;exact h2 hs
  have hl:∀x l,e=.list (x::l)->ap Tryz.prog 90 [.agg [.v (.string (mk e.at)),e.sp]] [] (bD (.v (.string (mk x.at)))):=by
   rintro x l rfl;exact uw x l
  have ha:∀s0,e=.atom s0->ap Tryz.prog 90 [.agg [.v (.string (mk e.at)),e.sp]] [] (bD (.v (.string (mk [])))):=by
   rintro s0 rfl;exact yW s0 _ ((bu).mpr trivial) hA.ok
  rcases gq hA.wf hA.ty with⟨hb,_⟩|⟨u,g,rfl,_,hg⟩
  ·rcases fI hA.ty hb hA.cl with⟨rfl,rfl⟩|⟨rfl,rfl⟩|⟨s0,rfl,rfl,hp,h0,h1⟩|⟨x,a,b,t1,t2,rfl,hx,rfl,ha',hbb⟩|⟨x,a,b,t1,t2,rfl,hx,rfl,ha',hbb⟩|⟨x,a,b,t1,rfl,hx,rfl⟩
   ·exact head _ (ha _ rfl) (by simp[kZ]) (by simp[kZ])
   ·exact head _ (ha _ rfl) (by simp[kZ]) (by simp[kZ])
   ·exact head _ (ha _ rfl) (by simp[kZ]) (by simp[kZ])
   ·exact head _ (hl _ _ rfl) (by simp[kZ,hx]) (by simp[kZ,hx])
   ·exact head _ (hl _ _ rfl) (by simp[kZ,hx]) (by simp[kZ,hx])
   ·exact head _ (hl _ _ rfl) (by simp[kZ,hx]) (by simp[kZ,hx])
  ·simp at hg
 ·have hn:jC s=none:=by cases hq:jC s<;>simp[hq]at h |-
  refine⟨c,d,hd,?_,fun h=>?_⟩
  ·simp[nP,hn]
  ·simp[nP,hn]at h
theorem uP(s:List UInt8):(nP s).isSome=(l9 s).isSome:=by
 unfold nP l9
 cases h:jC s with
 |none=>rw[mN h];rfl
 |
  some e =>
  obtain⟨t,h1,hA,h3,h4,h5,_⟩:=gU h
  rw[h1]
  simp only
  rcases gq hA.wf hA.ty with⟨hb,_⟩|⟨u,g,rfl,_,hg⟩
  ·rcases fI hA.ty hb hA.cl with⟨rfl,rfl⟩|⟨rfl,rfl⟩|⟨s0,rfl,rfl,hp,h0,h1⟩|⟨x,a,b,t1,t2,rfl,hx,rfl,ha',hbb⟩|⟨x,a,b,t1,t2,rfl,hx,rfl,ha',hbb⟩|⟨x,a,b,t1,rfl,hx,rfl⟩<;>simp_all[kZ]
  ·simp at hg
theorem LV.le{s v:List UInt8}{w:Vl}{a:Ty}{x A B:E}(h:LV s v w a x A B):nP s=some (.list [x,A,B]):=by
 unfold nP;rw[h.ce];simp[kZ,h.hx]
theorem PJ(n:Nat)(v:Vl)(x A B:E)(a:Ty)(hA:Ask B [.mk A.at (.list [x,A,B]) []] a)(hx:x.at=[114,101,99])(w:Vl)(hw:v=.f w)(hv:eV n v (.list [x,A,B],[])=true)(hl:v.nodes<90000) :
 ap Tryz.prog 110 [.agg [.v (.string (mk B.at)),B.sp],.v (.string (mk A.at)),.agg [.v (.string (mk w.cz.at)),w.cz.sp]] [] (bD (.sl (lY (kids a v)))):=by
 subst hw
 obtain⟨w',e,hw'⟩:=tn .nil hx hv
 cases e
 simp only[Vl.nodes]at hl
 have hnm:names [Fr.mk A.at (.list [x,A,B]) []]=[]++[A.at]:=rfl
 have h:=DZ n w.nodes w (aq _) B _ a hA hw' (by simp;omega) A.at (by rw[hnm];right;rw[fm];rfl)
 rw[hnm,ve]at h
 exact h
end Go.Proofs.Trees
namespace Go.Proofs.Trees
open Go Go.VL Go.RowKit
def Np(e:E)(s:List UInt8)(t:Ty)(c v:Vl):Prop:=ap Tryz.prog 58 [.agg [.v (.string (mk e.at)),e.sp],.v (.string (mk s)),.agg [.v (.string (mk c.cz.at)),c.cz.sp],.agg [.v (.string (mk v.cz.at)),v.cz.sp]] [] (bD (.agg [.v (.string (mk (cM t c v).cz.at)),(cM t c v).cz.sp]))
theorem DM:∀(m:Nat) (c:Vl),c.nodes<=m->∀(e:E) (env:List Fr) (t:Ty),Ask e env t->dP t c=true->∀(s:List UInt8) (v:Vl),Np e s t c v
 |0,c,hm=>by have:=dr c;omega
 |
  m+1,c,hm=>by
  intro e env t A hc s v
  unfold Np
  refine OK _ _ _ _ _ _ _ ((aU _).mpr trivial) ((aU _).mpr trivial) ((aU _).mpr trivial) ?_
  have atomCase:∀s0,e=.atom s0->cM t c v=v->eT Tryz.prog 244 (Dw (mk e.at) e.sp (mk s) (mk c.cz.at) c.cz.sp (mk v.cz.at) v.cz.sp) fun _ xs obs=>bD (.agg [.v (.string (mk (cM t c v).cz.at)),(cM t c v).cz.sp]) (xs.headD .any) obs:=by
   rintro s0 rfl hp
   have hne:s0≠[]:=A.ok
   rw[hp]
   simp only[Dw,E.at,↓zq,zs,af,zt,bD]
   exact⟨fun _=>trivial,fun h=>absurd h hne⟩
  have hvh:=AD c
  rw[dh]at hvh
  rcases gq A.wf A.ty with⟨hb,hq⟩|⟨u,g,rfl,hq,hu⟩
  ·rcases fI A.ty hb A.cl with⟨rfl,rfl⟩|⟨rfl,rfl⟩|⟨s0,rfl,rfl,hp,h0,h1⟩|⟨x,a,b,t1,t2,rfl,hx,rfl,ha,hbb⟩|⟨x,a,b,t1,t2,rfl,hx,rfl,ha,hbb⟩|⟨x,a,b,t1,rfl,hx,rfl⟩
   ·exact atomCase _ rfl (s5 _ _)
   ·exact atomCase _ rfl (vL _ _)
   ·exact atomCase _ rfl (ky _ _ _)
   ·obtain⟨ok1,ok2,ok3,_⟩:=A.ok
    obtain⟨f1,f2⟩:=fB A.cl
    have hP:=P3.of x a b
    have hH:ap Tryz.prog 90 [.agg [.v (.string (mk [])),(E.list [x,a,b]).sp]] [] (bD (.v (.string (mk [43])))):=by rw[<-hx];exact uw x [a,b]
    rcases vy hc with⟨y,rfl,hy⟩|⟨y,rfl,hy⟩
    ·simp only[Vl.nodes]at hm
     have hW:=P2.of (.atom [108]) y.cz
     simp only[Vl.cz,bC]at hvh
     simp only[Dw,bC,Vl.cz,toNat_one,a7,↓zq,zs,af,zt,hP.1,hP.2.1,hP.2.2.1,hP.2.2.2,hW.1,hW.2.1,hW.2.2,aK]
     refine⟨fun h=>absurd rfl h,fun _=>?_⟩
     repeat refine⟨by omega,?_⟩
     refine ai hH ?_
     simp only[↓zq,zs,af,zt]
     refine ai hvh ?_
     simp only[vh,↓zq,zs,af,zt,ba,aT]
     refine⟨by simp[cB],fun _=>?_,fun h=>absurd rfl h⟩
     repeat refine⟨by omega,?_⟩
     refine ai (DM m y (by omega) a env t1 ⟨ok2,A.wf,ha,f1⟩ hy s v) ?_
     simp only[↓zq,zs,af,zt,aK]
     repeat refine⟨by omega,?_⟩
     refine ai (wJ _ _) ?_
     simp only[↓zq,zs,af,zt,aK]
     repeat refine⟨by omega,?_⟩
     exact⟨rfl,rfl⟩
    ·simp only[Vl.nodes]at hm
     have hW:=P2.of (.atom [114]) y.cz
     simp only[Vl.cz,bC]at hvh
     simp only[Dw,bC,Vl.cz,toNat_one,a7,↓zq,zs,af,zt,hP.1,hP.2.1,hP.2.2.1,hP.2.2.2,hW.1,hW.2.1,hW.2.2,aK]
     refine⟨fun h=>absurd rfl h,fun _=>?_⟩
     repeat refine⟨by omega,?_⟩
     refine ai hH ?_
     simp only[↓zq,zs,af,zt]
     refine ai hvh ?_
     simp only[vh,↓zq,zs,af,zt,ba,aT]
     refine⟨by simp[cB],fun h=>by simp at h,fun _=>⟨fun _=>?_,fun h=>absurd rfl h⟩⟩
     repeat refine⟨by omega,?_⟩
     refine ai (DM m y (by omega) b env t2 ⟨ok3,A.wf,hbb,f2⟩ hy s v) ?_
     simp only[↓zq,zs,af,zt,aK]
     repeat refine⟨by omega,?_⟩
     refine ai (wJ _ _) ?_
     simp only[↓zq,zs,af,zt,aK]
     repeat refine⟨by omega,?_⟩
     exact⟨rfl,rfl⟩
   ·obtain⟨ok1,ok2,ok3,_⟩:=A.ok
    obtain⟨f1,f2⟩:=eU A.cl
    have hP:=P3.of x a b
    have hH:ap Tryz.prog 90 [.agg [.v (.string (mk [])),(E.list [x,a,b]).sp]] [] (bD (.v (.string (mk [42])))):=by rw[<-hx];exact uw x [a,b]
    rcases sq hc with⟨y,z,rfl,hy⟩|⟨y,z,rfl,hy⟩
    ·simp only[Vl.nodes]at hm
     have hW:=P2.of (.atom [108]) (E.list [.atom [112],y.cz,z.cz])
     have hQ:=P3.of (.atom [112]) y.cz z.cz
     simp only[Vl.cz,bC]at hvh
     simp only[Dw,bC,Vl.cz,toNat_one,a7,↓zq,zs,af,zt,hP.1,hP.2.1,hP.2.2.1,hP.2.2.2,hW.1,hW.2.1,hW.2.2,hQ.1,hQ.2.1,hQ.2.2.1,hQ.2.2.2,aK]
     refine⟨fun h=>absurd rfl h,fun _=>?_⟩
     repeat refine⟨by omega,?_⟩
     refine ai hH ?_
     simp only[↓zq,zs,af,zt]
     refine ai hvh ?_
     simp only[vh,↓zq,zs,af,zt,ba,aT]
     refine⟨by simp[cB],fun h=>by simp at h,fun _=>⟨fun h=>by simp at h,fun _=>⟨fun _=>?_,fun h=>absurd rfl h⟩⟩⟩
     repeat refine⟨by omega,?_⟩
     refine ai (DM m y (by omega) a env t1 ⟨ok2,A.wf,ha,f1⟩ hy s v) ?_
     simp only[↓zq,zs,af,zt,aK]
     repeat refine⟨by omega,?_⟩
     refine ai (wL _ _ _) ?_
     simp only[↓zq,zs,af,zt,aK]
     repeat refine⟨by omega,?_⟩
     exact⟨rfl,rfl⟩
    ·simp only[Vl.nodes]at hm
     have hW:=P2.of (.atom [114]) (E.list [.atom [112],y.cz,z.cz])
     have hQ:=P3.of (.atom [112]) y.cz z.cz
     simp only[Vl.cz,bC]at hvh
     simp only[Dw,bC,Vl.cz,toNat_one,a7,↓zq,zs,af,zt,hP.1,hP.2.1,hP.2.2.1,hP.2.2.2,hW.1,hW.2.1,hW.2.2,hQ.1,hQ.2.1,hQ.2.2.1,hQ.2.2.2,aK]
     refine⟨fun h=>absurd rfl h,fun _=>?_⟩
     repeat refine⟨by omega,?_⟩
     refine ai hH ?_
     simp only[↓zq,zs,af,zt]
     refine ai hvh ?_
     simp only[vh,↓zq,zs,af,zt,ba,aT]
     refine⟨by simp[cB],fun h=>by simp at h,fun _=>⟨fun h=>by simp at h,fun _=>⟨fun h=>by simp at h,fun _=>⟨fun _=>?_,fun h=>absurd rfl h⟩⟩⟩⟩
     repeat refine⟨by omega,?_⟩
     refine ai (DM m z (by omega) b env t2 ⟨ok3,A.wf,hbb,f2⟩ hy s v) ?_
     simp only[↓zq,zs,af,zt,aK]
     repeat refine⟨by omega,?_⟩
     refine ai (wL _ _ _) ?_
     simp only[↓zq,zs,af,zt,aK]
     repeat refine⟨by omega,?_⟩
     exact⟨rfl,rfl⟩
   ·obtain⟨t1',he1,h1,f1,hw1⟩:=jm A.wf A.ok hx A.ty A.cl
    cases he1
    obtain⟨ok1,ok2,ok3,_⟩:=A.ok
    have A':Ask b (.mk a.at (.list [x,a,b]) env::env) t1:=⟨ok3,hw1,h1,f1⟩
    have hP:=P3.of x a b
    have hH:ap Tryz.prog 90 [.agg [.v (.string (mk [])),(E.list [x,a,b]).sp]] [] (bD (.v (.string (mk [114,101,99])))):=by rw[<-hx];exact uw x [a,b]
    rcases BP hc with⟨y,rfl,hy⟩|⟨y,z,rfl,hy,hz⟩
    ·simp only[Vl.nodes]at hm
     have hW:=P2.of (.atom [102]) (E.list [.atom [108],y.cz])
     have hQ:=P2.of (.atom [108]) y.cz
     have hvi:=AD (.l y)
     rw[dh]at hvi
     simp only[Vl.cz,bC]at hvh hvi
     simp only[Dw,bC,Vl.cz,toNat_one,a7,↓zq,zs,af,zt,hP.1,hP.2.1,hP.2.2.1,hP.2.2.2,hW.1,hW.2.1,hW.2.2,hQ.1,hQ.2.1,hQ.2.2,aK]
     refine⟨fun h=>absurd rfl h,fun _=>?_⟩
     repeat refine⟨by omega,?_⟩
     refine ai hH ?_
     simp only[↓zq,zs,af,zt]
     refine ai hvh ?_
     simp only[vh,↓zq,zs,af,zt,ba,aT]
     refine⟨by simp[cB],fun h=>by simp at h,fun _=>⟨fun h=>by simp at h,fun _=>⟨fun h=>by simp at h,fun _=>⟨fun h=>by simp at h,fun _=>?_⟩⟩⟩⟩
     repeat refine⟨by omega,?_⟩
     refine ai hvi ?_
     simp only[vh,↓zq,zs,af,zt]
     refine⟨fun _=>?_,fun h=>absurd rfl h⟩
     repeat refine⟨by omega,?_⟩
     refine ai (DM m y (by omega) b _ t1 A' hy s v) ?_
     simp only[↓zq,zs,af,zt,aK]
     repeat refine⟨by omega,?_⟩
     refine ai (wJ _ _) ?_
     simp only[↓zq,zs,af,zt,aK]
     repeat refine⟨by omega,?_⟩
     exact⟨rfl,rfl⟩
    ·simp only[Vl.nodes]at hm
     have hW:=P2.of (.atom [102]) (E.list [.atom [114],E.list [.atom [112],y.cz,z.cz]])
     have hQ:=P2.of (.atom [114]) (E.list [.atom [112],y.cz,z.cz])
     have hR:=P3.of (.atom [112]) y.cz z.cz
     have hvi:=AD (.r (.p y z))
     rw[dh]at hvi
     simp only[Vl.cz,bC]at hvh hvi
     simp only[Dw,bC,Vl.cz,toNat_one,a7,↓zq,zs,af,zt,hP.1,hP.2.1,hP.2.2.1,hP.2.2.2,hW.1,hW.2.1,hW.2.2,hQ.1,hQ.2.1,hQ.2.2,hR.1,hR.2.1,hR.2.2.1,hR.2.2.2,aK]
     refine⟨fun h=>absurd rfl h,fun _=>?_⟩
     repeat refine⟨by omega,?_⟩
     refine ai hH ?_
     simp only[↓zq,zs,af,zt]
     refine ai hvh ?_
     simp only[vh,↓zq,zs,af,zt,ba,aT]
     refine⟨by simp[cB],fun h=>by simp at h,fun _=>⟨fun h=>by simp at h,fun _=>⟨fun h=>by simp at h,fun _=>⟨fun h=>by simp at h,fun _=>?_⟩⟩⟩⟩
     repeat refine⟨by omega,?_⟩
     refine ai hvi ?_
     simp only[vh,↓zq,zs,af,zt]
     refine⟨fun h=>by simp at h,fun _=>?_⟩
     repeat refine⟨by omega,?_⟩
     have i1:=DM m z (by omega) (.list [x,a,b]) env (.rc t1) A hz s v
     unfold Np at i1
     simp only[bC]at i1
     refine ai i1 ?_
     simp only[↓zq,zs,af,zt,aK]
     repeat refine⟨by omega,?_⟩
     refine ai (DM m y (by omega) b _ t1 A' hy a.at (cM (.rc t1) z v)) ?_
     simp only[↓zq,zs,af,zt,aK]
     repeat refine⟨by omega,?_⟩
     refine ai (wJ _ _) ?_
     simp only[↓zq,zs,af,zt,aK]
     repeat refine⟨by omega,?_⟩
     exact⟨rfl,rfl⟩
  ·cases e with
   |atom s0=>exact atomCase _ rfl (qJ _ _ _)
   |list l=>exact absurd hq (by rw[show (E.list l).at=[] from rfl,kN A.wf];simp)
end Go.Proofs.Trees
namespace Go.Proofs.Trees
open Go Go.VL Go.RowKit
theorem ZT.le{s d:Nm}{a:Ty}{x A B:E}{D:Ty}(z:ZT s d a x A B D):nP s=some (.list [x,A,B]):=by
 unfold nP;rw[z.ce];simp[kZ,z.hx]
theorem tI(o:Option Nm):lu o=.cA [.v (.string (mk (o.getD []))),.v (.bool o.isSome)]:=by cases o<;>rfl
theorem zn{a:Ty}{w v:Vl}(hw:Cx a w)(hv:Fo a v):(Vl.f (cM a w v)).dq.length<=900000:=by
 have h1:=iq (Vl.f (cM a w v)) (by exact mn 100 a w v hw.gz hv.gz)
 have h2:=rB a w v
 have:=hw.nd
 have:=hv.nd
 simp only[Vl.nodes]at h1
 omega
abbrev yy(a:Ty)(w v:Vl):Option Nm:=if(Vl.f (cM a w v)).nodes<=200 then some (Vl.f (cM a w v)).dq else none
theorem Nj{s d:Nm}{a:Ty}{x A B:E}{D:Ty}(z:ZT s d a x A B D)(w v:Vl)(hw:mG d w.dq 100=some w)(hv:Fo a v):ap Tryz.prog 23 [.v (.string (mk s)),.v (.string (mk w.dq)),.v (.string (mk v.dq))] [] (bD (lu (yy a w v))):=by
 have hC:=z.DH hw
 have hv2:mG s v.dq 100=some v:=by rw[z.dq hv.gz hv.ty,if_pos hv.nd]
 refine KE _ _ _ ?_
 unfold Fv
 refine aO (Dg s) (jn.ne _ _ (fun h=>h)) ?_
 rintro r o ⟨c,e,he,rfl,hh⟩
 rw[z.le]at hh
 obtain⟨e',he',hce⟩:=hh rfl
 cases he'
 rw[dh]at hce
 simp only[AV.agg.injEq,List.cons.injEq,AV.v.injEq,Value.string.injEq,and_true]at hce
 obtain⟨hc1,rfl⟩:=hce
 rw[z.le,hc1]
 simp only[↓zq,zs,af,zt,aK,bC]
 repeat refine⟨by omega,?_⟩
 refine ai (L4 s) ?_
 rw[tI,z.dl]
 simp only[↓zq,zs,af,zt,bH,cU]
 refine⟨fun h=>by simp at h,fun _=>⟨fun h=>by simp at h,fun _=>?_⟩⟩
 refine ai (Gp d w.dq 100) ?_
 rw[hw]
 simp only[↓zq,zs,af,bH]
 refine⟨fun h=>by simp at h,fun _=>?_⟩
 refine ai (Gp s v.dq 100) ?_
 rw[hv2]
 simp only[↓zq,zs,af,bH]
 refine⟨fun h=>by simp at h,fun _=>?_⟩
 have hP:=P3.of x A B
 have rd:∀q:Vl,q.gz 100->q.nodes<=200->∀{Q:AV->List Ob->Prop},(∀o,Q (.cA [.agg [.v (.string (mk q.cz.at)),q.cz.sp],.v (.bool true)]) o)->∀r o,jn ((rR q.dq).map Vl.cz) (rR q.dq).isSome r o->Q r o:=by
  intro q hu hn Q hQ r o
  rw[qn hu hn]
  rintro⟨c,e,he,rfl,hh⟩
  obtain⟨e',he',hce⟩:=hh rfl
  cases he'
  rw[dh]at hce
  rw[hce]
  exact hQ o
 refine aO (zV w.dq) (jn.ne _ _ (fun h=>by simpa using h)) (rd w hC.gz hC.nd fun o=>?_)
 simp only[↓zq,zs,af,zt,aK]
 repeat refine⟨by omega,?_⟩
 refine aO (zV v.dq) (jn.ne _ _ (fun h=>by simpa using h)) (rd v hv.gz hv.nd fun o=>?_)
 simp only[toNat_one,a7,↓zq,zs,af,zt,hP.1,hP.2.1,hP.2.2.1,hP.2.2.2,aK,aU]
 repeat refine⟨by omega,?_⟩
 refine ai (DM w.nodes w (aq _) B _ a z.body hC.ok A.at v) ?_
 simp only[↓zq,zs,af,zt,aK]
 repeat refine⟨by omega,?_⟩
 refine ai (wJ _ _) ?_
 simp only[↓zq,zs,af,zt,aK]
 repeat refine⟨by omega,?_⟩
 have htx:=DF (Vl.f (cM a w v)).cz (mh _) (zn hC hv)
 rw[dh]at htx
 simp only[Vl.cz,bC]at htx
 refine ai htx ?_
 simp only[↓zq,zs,af,zt]
 refine ai (Gp s (Vl.f (cM a w v)).dq 100) ?_
 rw[z.dq (w:=Vl.f (cM a w v)) (by exact mn 100 a w v hC.gz hv.gz) (hC.ty v hv.ty)]
 unfold yy
 by_cases hn:(Vl.f (cM a w v)).nodes<=200
 ·rw[if_pos hn,if_pos hn]
  simp only[↓zq,zs,af,bH]
  exact⟨fun h=>by simp at h,fun _=>⟨rfl,rfl⟩⟩
 ·rw[if_neg hn,if_neg hn]
  simp only[↓zq,zs,af,cj]
  exact⟨fun _=>⟨rfl,rfl⟩,fun h=>by simp at h⟩
theorem rO{d:Nm}:∀{p:List Nm} {l:List Vl},iE d p=some l->p=l.map (·.dq)->∀c,c∈l->mG d c.dq 100=some c
 |[],l,h,_,c,hc=>by cases h;cases hc
 |
  q::r,l,h,hp,c,hc=>by
  simp only[iE]at h
  split at h
  ·rename_i w l' h1 h2
   cases h
   simp only[bL,List.cons.injEq]at hp
   rcases aI.1 hc with rfl|hc
   ·rw[<-hp.1];exact h1
   ·exact rO h2 hp.2 c hc
  ·cases h
structure St(s d:Nm)(a:Ty)(l:List Vl)(v:Vl):Prop where
 z:∃x A B D,ZT s d a x A B D
 i:ZI a l v
 each:∀c,c∈l->mG d c.dq 100=some c
 len:l.length<=50
theorem St.up{s d:Nm}{a:Ty}{l l':List Vl}{v w:Vl}(h:St s d a l v)(hu:D3 a l v=some (l',w)):St s d a l' w:=by
 obtain⟨h1,h2,c,h3,_⟩:=FK h.i hu
 have hl:=h.len
 exact⟨h.z,h1,fun c' hc'=>h.each c' (by rw[h3];exact aA _ hc'),by omega⟩
def Ky(o:Option Vl):AV->List Ob->Prop:=fun r ob=>ob=[]/\∃c0 pa c2,LK.sl.has pa/\r=.cA [.agg [.v (.string c0),pa,.v (.string c2)],.v (.bool o.isSome)]/\∀w,o=some w->c2=mk w.dq
theorem Ky.ne(o:Option Vl):∃r ob,Ky o r ob:=⟨_,[],rfl,mk [],.sl [],mk ((o.map (·.dq)).getD []),(cd _).mpr trivial,rfl,fun w h=>by rw[h];rfl⟩
theorem Bo(s:Nm)(p:List Nm)(f:Nm):Fk s p f=(cY s).bind fun d=>(l9 s).bind fun _=>(mG s f 100).bind fun v=>if p.length<=50 then(iE d p).map fun l=>(l,v)else none:=by
 unfold Fk jP
 cases l9 s with
 |none=>cases cY s<;>rfl
 |some a=>cases mG s f 100<;>cases cY s<;>rfl
end Go.Proofs.Trees
namespace Go.Proofs.Trees
open Go Go.VL Go.RowKit
inductive Rl(x:Nm):Nat->Tg->Tg->Prop
 |nm (i):Rl x i (.nm x) (.bd i)
 |kq (i s) (h:s≠x):Rl x i (.nm s) (.nm s)
 |bd (i j) (h:j≠i):Rl x i (.bd j) (.bd j)
theorem Rl.up{x:Nm}{i:Nat}{a b:Tg}(h:Rl x i a b):Rl x (i+1) a.up b.up:=by
 cases h with
 |nm=>exact .nm _
 |kq s h=>exact .kq _ _ h
 |bd j h=>exact .bd _ _ (by omega)
theorem Rl.at{x:Nm}{i:Nat}{a b:Tg}(h:Rl x i a b):∀t:Ty,bg x t=false->eF (dy (.name x) t i) a=eF t b
 |
  .bJ k,_=>by
  simp only[dy]
  cases h with
  |
   nm =>
   by_cases e:k=i
   ·simp[e,eF]
   ·simp[e,eF]
  |
   kq s h =>
   by_cases e:k=i
   ·simp[e,eF,Ne.symm h]
   ·simp[e,eF]
  |
   bd j h =>
   by_cases e:k=i
   ·simp[e,eF,Ne.symm h]
   ·simp[e,eF]
 |
  .name s,hn=>by
  have hs:s≠x:=by simpa[bg]using hn
  cases h with
  |nm=>simp[dy,eF,hs]
  |kq=>rfl
  |bd=>rfl
 | .plus _ _,_=>by cases h<;>rfl
 | .times _ _,_=>by cases h<;>rfl
 | .rc _,_=>by cases h<;>rfl
 | .zero,_=>by cases h<;>rfl
 | .one,_=>by cases h<;>rfl
theorem gW(x:Nm):∀(n:Nat) (t:Ty) (i:Nat) (a b:Tg) (v:Vl),bg x t=false->Rl x i a b->dN n (dy (.name x) t i) a v=dN n t b v
 |0,_,_,_,_,_,_,_=>rfl
 |
  n+1,t,i,a,b,v,hn,h=>by
  rw[dN,dN,h.at t hn]
  by_cases ht:eF t b=true
  ·rw[if_pos ht,if_pos ht]
  ·rw[if_neg ht,if_neg ht]
   cases t with
   |
    plus p q =>
    simp only[bg,bU]at hn
    cases v<;>simp only[dy,ju,gW x n p i a b _ hn.1 h,gW x n q i a b _ hn.2 h]
   |
    times p q =>
    simp only[bg,bU]at hn
    cases v<;>simp only[dy,ju,gW x n p i a b _ hn.1 h,gW x n q i a b _ hn.2 h]
   |
    rc p =>
    have h0:Rl x (i+1) (.bd 0) (.bd 0):=.bd _ _ (by omega)
    cases v<;>simp only[dy,ju]
    rename_i w
    rw[gW x n p (i+1) a.up b.up w hn h.up,gW x n p (i+1) (.bd 0) (.bd 0) w hn h0]
    congr 1
    apply iR
    intro k _
    have:=gW x n (.rc p) i a b k.2 hn h
    simp only[dy]at this
    rw[this]
   |
    bJ k =>
    simp only[dy]
    by_cases e:k=i
    ·rw[if_pos e];cases v<;>rfl
    ·rw[if_neg e];cases v<;>rfl
   |name s=>rfl
   |zero=>rfl
   |one=>rfl
theorem nw(x:Nm){t:Ty}{i:Nat}{a b:Tg}(v:Vl)(hn:bg x t=false)(h:Rl x i a b):bZ (dy (.name x) t i) a v=bZ t b v:=gW x _ t i a b v hn h
theorem mv(n:Nat):∀(m:Nat) (v:Vl),v.nodes<=m->∀(t:Ty) (s:Nm) (d:Ty) (σ:Nm->Option Ty),Dv t s d->BW σ->jv t 0->vT n v (eS σ t)=true->∀h,h∈bZ t (.nm s) v ->
 vT n h.1 (eS σ d)=true/\vT n h.2 (eS σ (.name s))=true/\cM t h.1 h.2=v
 |0,v,hm=>by have:=dr v;omega
 |
  m+1,v,hm=>by
  intro t s d σ hd hσ hl hv h hh
  cases hd with
  |zero=>rw[dW rfl (by cases v<;>rfl)]at hh;cases hh
  |one=>rw[dW rfl (by cases v<;>rfl)]at hh;cases hh
  |bJ=>rw[dW rfl (by cases v<;>rfl)]at hh;cases hh
  |qf hne=>rw[dW (by simp[eF,hne]) (by cases v<;>rfl)]at hh;cases hh
  |
   hit =>
   rw[mz v (by simp[eF])]at hh
   simp only[aS]at hh
   subst hh
   exact⟨rfl,hv,ky _ _ _⟩
  |
   @plus a b _ a' b' h1 h2 _ =>
   rcases iY hv with⟨w,rfl,hw⟩|⟨w,rfl,hw⟩
   ·simp only[Vl.nodes]at hm
    rw[mS]at hh
    obtain⟨k,hk,rfl⟩:=dH hh
    obtain⟨q1,q2,q3⟩:=mv n m w (by omega) _ s _ σ h1 hσ hl.1 hw k hk
    exact⟨q1,q2,congrArg Vl.l q3⟩
   ·simp only[Vl.nodes]at hm
    rw[mO]at hh
    obtain⟨k,hk,rfl⟩:=dH hh
    obtain⟨q1,q2,q3⟩:=mv n m w (by omega) _ s _ σ h2 hσ hl.2 hw k hk
    exact⟨q1,q2,congrArg Vl.r q3⟩
  |
   @times a b _ a' b' h1 h2 _ =>
   obtain⟨x,y,rfl,hx,hy⟩:=gr hv
   simp only[Vl.nodes]at hm
   rw[mU]at hh
   rcases aL.1 hh with hh|hh
   ·obtain⟨k,hk,rfl⟩:=dH hh
    obtain⟨q1,q2,q3⟩:=mv n m x (by omega) _ s _ σ h1 hσ hl.1 hx k hk
    refine⟨?_,q2,congrArg (fun q=>Vl.p q y) q3⟩
    show (vT n k.1 (eS σ a')&&vT n y (eS σ b))=true
    rw[q1,hy];rfl
   ·obtain⟨k,hk,rfl⟩:=dH hh
    obtain⟨q1,q2,q3⟩:=mv n m y (by omega) _ s _ σ h2 hσ hl.2 hy k hk
    refine⟨?_,q2,congrArg (Vl.p x) q3⟩
    show (vT n x (eS σ a)&&vT n k.1 (eS σ b'))=true
    rw[q1,hx];rfl
  |
   @rc a _ c0 d0 x hx hs h1 h2 hsz =>
   have lo:jv (dy (.name x) a 0) 0:=gH x a hl
   obtain⟨X,e1,e2⟩:=oL (x:=x) hσ hl (h1.lc lo) (h2.lc lo)
   obtain⟨w,rfl,hw⟩:=By hv
   simp only[Vl.nodes]at hm
   have hcl:=lH hσ x (jS hσ (.rc a) hl)
   have hop:eS (iN σ x (eS σ (.rc a))) (dy (.name x) a 0)=dy (eS σ (.rc a)) (eS σ a) 0:=jF hσ x _ a 0 hx
   have hns:eS (iN σ x (eS σ (.rc a))) (.name s)=eS σ (.name s):=by simp only[eS,iN,if_neg (Ne.symm hs)]
   have hnx:eS (iN σ x (eS σ (.rc a))) (.name x)=eS σ (.rc a):=by simp[eS,iN]
   have hw':vT n w (eS (iN σ x (eS σ (.rc a))) (dy (.name x) a 0))=true:=by rw[hop];exact hw
   have ty:∀y,vT n y (dy (.rc X) X 0)=true->vT n (.f y) (eS σ (pg a x c0 d0))=true:=fun y hy=>by rw[e1];exact hy
   rw[mX]at hh
   rcases aL.1 hh with hh|hh
   ·obtain⟨k,hk,rfl⟩:=dH hh
    have hk':k∈bZ (dy (.name x) a 0) (.nm s) w:=by rw[nw x w hx (.kq 0 s (Ne.symm hs))];exact hk
    obtain⟨q1,q2,q3⟩:=mv n m w (by omega) _ s _ _ h1 hcl lo hw' k hk'
    rw[dM x k.1.nodes k.1 a 0 k.2 (aq _)]at q3
    refine⟨ty _ ?_,by rw[<-hns];exact q2,congrArg Vl.f q3⟩
    rw[e2];exact q1
   ·obtain⟨k,hk,hh⟩:=List.mem_flatMap.1 hh
    obtain⟨k2,hk2,rfl⟩:=dH hh
    have hk':k∈bZ (dy (.name x) a 0) (.nm x) w:=by rw[nw x w hx (.nm 0)];exact hk
    obtain⟨q1,q2,q3⟩:=mv n m w (by omega) _ x _ _ h2 hcl lo hw' k hk'
    rw[dM x k.1.nodes k.1 a 0 k.2 (aq _)]at q3
    rw[hnx]at q2
    have hsz2:=(jp hk).1
    obtain⟨r1,r2,r3⟩:=mv n m k.2 (by omega) (.rc a) s _ σ (.rc x hx hs h1 h2 hsz) hσ hl q2 k2 hk2
    refine⟨ty _ ?_,r2,?_⟩
    ·rw[e2]
     show (vT n k.1 _&&vT n k2.1 _)=true
     rw[q1,r1];rfl
    ·show Vl.f (cM a k.1 (cM (.rc a) k2.1 k2.2))=.f w
     rw[r3,q3]
theorem DD{n:Nat}{a D:Ty}{x:Nm}(hx:bg x a=false)(hl:jv (.rc a) 0)(h:nN a x=some D){v:Vl}(hv:vT n v (.rc a)=true){k:Hl}(hk:k∈kids a v) :
 vT n k.1 D=true/\vT n k.2 (.rc a)=true/\.f (cM a k.1 k.2)=v:=by
 simp only[nN,a6,cK,eJ]at h
 obtain⟨d,hd,_,rfl⟩:=h
 have lo:jv (dy (.name x) a 0) 0:=gH x a hl
 have hcl:=lH rM x hl
 have e1:sub x (.rc a) d=eS (iN C9 x (.rc a)) d:=by
  have:=im C9 x (.rc a) d
  rw[iM,iM]at this;exact this
 obtain⟨w,rfl,hw⟩:=By hv
 have hk':k∈bZ (dy (.name x) a 0) (.nm x) w:=by rw[nw x w hx (.nm 0)];exact hk
 have hop:eS (iN C9 x (.rc a)) (dy (.name x) a 0)=dy (.rc a) a 0:=by rw[jF rM x _ a 0 hx,iM]
 obtain⟨q1,q2,q3⟩:=mv n w.nodes w (aq _) _ x _ _ hd hcl lo (by rw[hop];exact hw) k hk'
 rw[dM x k.1.nodes k.1 a 0 k.2 (aq _)]at q3
 refine⟨by rw[e1];exact q1,?_,congrArg Vl.f q3⟩
 simpa[eS,iN]using q2
theorem gX:∀{t:Ty},bR t=true->∃y,bg y t=true/\db y=true
 | .name s,h=>⟨s,by simp[bg],h⟩
 |
  .plus a b,h=>by
  simp only[bR,bo]at h
  rcases h with h|h
  ·obtain⟨y,h1,h2⟩:=gX h;exact⟨y,by simp[bg,h1],h2⟩
  ·obtain⟨y,h1,h2⟩:=gX h;exact⟨y,by simp[bg,h1],h2⟩
 |
  .times a b,h=>by
  simp only[bR,bo]at h
  rcases h with h|h
  ·obtain⟨y,h1,h2⟩:=gX h;exact⟨y,by simp[bg,h1],h2⟩
  ·obtain⟨y,h1,h2⟩:=gX h;exact⟨y,by simp[bg,h1],h2⟩
 |
  .rc a,h=>by
  obtain⟨y,h1,h2⟩:=gX (t:=a) h;exact⟨y,by simp[bg,h1],h2⟩
theorem gY:∀{t:Ty} {y:Nm},bg y t=true->db y=true->bR t=true
 |
  .name s,y,h,hl=>by
  have:s=y:=by simpa[bg]using h
  rw[this];exact hl
 |
  .plus a b,y,h,hl=>by
  simp only[bg,bo]at h
  simp only[bR,bo]
  exact h.imp (gY · hl) (gY · hl)
 |
  .times a b,y,h,hl=>by
  simp only[bg,bo]at h
  simp only[bR,bo]
  exact h.imp (gY · hl) (gY · hl)
 | .rc a,y,h,hl=>gY (t:=a) h hl
 | .zero,y,h,_=>by simp[bg]at h
 | .one,y,h,_=>by simp[bg]at h
 | .bJ k,y,h,_=>by simp[bg]at h
theorem ZT.Qk{s d:Nm}{a:Ty}{x A B:E}{D:Ty}(z:ZT s d a x A B D):∃e,jC d=some e/\Ask e [] D:=by
 have hcl:bR D=false:=by
  cases q:bR D with
  |false=>rfl
  |
   true =>
   obtain⟨y,h1,h2⟩:=gX q
   have:=gY (t:=.rc a) (se z.lp y h1) h2
   rw[z.ask.cl]at this;cases this
 have hc:wh d=some D:=by unfold wh;rw[z.bk];simp only;rw[if_pos (by rw[sk,hcl];rfl)]
 cases q:jC d with
 |none=>rw[mN q]at hc;cases hc
 |
  some e =>
  obtain⟨t,h1,hA,_⟩:=gU q
  rw[hc]at h1;cases h1
  exact⟨e,rfl,hA⟩
theorem ZT.PY{s d:Nm}{a:Ty}{x A B:E}{D:Ty}(z:ZT s d a x A B D){w:Vl}(hb:w.gz 100)(hv:vT 100 w D=true):mG d w.dq 100=if w.nodes<=200 then some w else none:=by
 obtain⟨e,he,hA⟩:=z.Qk
 unfold mG
 rw[he]
 by_cases hn:w.nodes<=200
 ·rw[qn hb hn,if_pos hn]
  simp only
  rw[if_pos ⟨by omega,by rw[show (100:Int).toNat=100 from rfl,lK hA];exact hv⟩]
 ·rw[if_neg hn]
  cases q:rR w.dq with
  |none=>rfl
  |
   some w' =>
   exfalso
   obtain⟨_,h2,h3⟩:=lh q
   have:=yd hb h2 (lg q)
   rw[this]at hn;exact hn h3
theorem ZT.PZ{s d:Nm}{a:Ty}{x A B:E}{D:Ty}(z:ZT s d a x A B D){v:Vl}(hv:Fo a v){k:Hl}(hk:k∈kids a v):vT 100 k.1 D=true/\Fo a k.2/\.f (cM a k.1 k.2)=v:=by
 obtain⟨e2,he2,hw2,hte2,_,_⟩:=nK z.y
 have hlc:jv (.rc a) 0:=hte2 ▸ hw2.qi.1
 obtain⟨q1,q2,q3⟩:=DD (ub z.y) hlc z.lp hv.ty hk
 have:=yf hk
 have:=hv.nd
 exact⟨q1,⟨q2,(nQ hv.gz hk).2,by omega⟩,q3⟩
def D8(a:Ty)(l:List Vl)(v:Vl)(k:Int):Option (List Vl×Vl) :=
 if l.length=50 then none else if 0<=k/\k.toNat<(kids a v).length then
  (if((kids a v).getD k.toNat (.u,.u)).1.nodes<=200 then some (l++[((kids a v).getD k.toNat (.u,.u)).1],((kids a v).getD k.toNat (.u,.u)).2)else none)else none
theorem u7{a:Ty}{l:List Vl}{c e v:Vl}(h:.f (cM a c e)=v)(hn:v.nodes<=200):D3 a (l++[c]) e=some (l,v)/\yT a (l++[c]) e=yT a l v:=by
 have hu:D3 a (l++[c]) e=some (l,v):=by
  unfold D3
  rw[List.getLast?_concat]
  simp only
  rw[h,if_pos hn,List.dropLast_concat]
 refine⟨hu,?_⟩
 unfold yT
 rw[an,List.length_singleton,qH,hu]
 rfl
theorem yD{s d:Nm}{l:List Vl}{v:Vl}(hs:St s d (zA s) l v)(hd:cY s=some d)(hv:vD s (l.map (·.dq)) v.dq=some (l,v)){k:Hl}(hk:k∈kids (zA s) v) :
 vD s (l.map (·.dq)++[k.1.dq]) k.2.dq=if l.length=50 then none else if k.1.nodes<=200 then some (l++[k.1],k.2)else none:=by
 obtain⟨x,A,B,D,z⟩:=hs.z
 obtain⟨t1,t2,t3⟩:=z.PZ hs.i.Ac hk
 have hb:=(nQ hs.i.Ac.gz hk).1
 have hz:=(ph hv).1
 have hclo:=(ph hv).2
 have hlen:=hs.len
 have hlp:iE d (l.map (·.dq))=some l:=by
  rw[Bo,hd]at hz
  simp only[a8,z.l]at hz
  obtain⟨_,h1,h2⟩:=a6.1 hz
  split at h2
  ·obtain⟨l',h3,h4⟩:=Option.map_eq_some_iff.1 h2
   cases h4;exact h3
  ·cases h2
 have e1:mG s k.2.dq 100=some k.2:=by rw[z.dq t2.gz t2.ty,if_pos t2.nd]
 unfold vD
 rw[Bo,hd]
 simp only[a8,z.l,e1,sV,hlp,iE,z.PY hb t1,an,cT,List.length_singleton]
 by_cases h50:l.length=50
 ·rw[if_neg (by omega),if_pos h50];rfl
 ·rw[if_pos (by omega),if_neg h50]
  by_cases hn:k.1.nodes<=200
  ·rw[if_pos hn,if_pos hn]
   simp only[cv,a8,(u7 (l:=l) t3 hs.i.Ac.nd).2]
   rw[if_pos hclo]
  ·rw[if_neg hn,if_neg hn];rfl
end Go.Proofs.Trees
namespace Go.Proofs.Trees
open Go Go.VL Go.RowKit
def My(s:Nm)(o:Option (List Vl×Vl)):AV->List Ob->Prop:=fun r obs=>obs=[]/\∃pa,dV pa (tZ s o).2.1/\r=.cA [.agg [.v (.string (mk (tZ s o).1)),pa,.v (.string (mk (tZ s o).2.2))],.v (.bool o.isSome)]
theorem My.ne(s:Nm)(o:Option (List Vl×Vl)):∃r ob,My s o r ob:=⟨_,[],rfl,_,dV.of _,rfl⟩
theorem My.none(s:Nm):My s none (.cA [.agg [.v (.string (mk [])),.v (.slice none 0 0),.v (.string (mk []))],.v (.bool false)]) []:=⟨rfl,_,dV.nil,rfl⟩
def fN(l:List Hl):List (List AV):=l.map fun h=>[.v (.string (mk h.1.dq)),.v (.string (mk h.2.dq))]
theorem gJ(l:List Hl):(fN l).length=l.length:=by simp[fN]
theorem Mh(l:List Hl)(hl:l.length<=1000)(h1:∀h,h∈l->h.1.dq.length<=900000)(h2:∀h,h∈l->h.2.dq.length<=900000):∀(k i:Nat) (out:List Hl),i+k=l.length->out.length<=i ->
 Gs [.sl (lY l),.v (.int .i64 (i:Int))] [.vec 2 (fN out)] (iF 1 [] [.vec 2 (fN (out++l.drop i))])
 |
  0,i,out,hi,ho=>by
  refine KN _ _ _ ?_
  have:i=l.length:=by omega
  subst this
  simp only[FA,↓zq,zs,af,fu,List.drop_length]
  exact⟨fun h=>by omega,fun _=>by simp[iF]⟩
 |
  k+1,i,out,hi,ho=>by
  have hlt:i<l.length:=by omega
  have hm:=bQ hlt
  have t1:=DF (l[i]).1.cz (mh _) (h1 _ hm)
  have t2:=DF (l[i]).2.cz (mh _) (h2 _ hm)
  rw[dh]at t1 t2
  refine KN _ _ _ ?_
  simp only[FA,↓zq,zs,af,zt,fu,gC hlt,bz,aU]
  refine⟨fun _=>?_,fun h=>by omega⟩
  repeat refine⟨by omega,?_⟩
  refine ai t1 ?_
  simp only[↓zq,zs,af,zt]
  repeat refine⟨by omega,?_⟩
  refine ai t2 ?_
  simp only[↓zq,zs,af,zt,gJ]
  refine⟨⟨fun c hc=>by simp at hc;rw[hc];rfl,by omega⟩,?_⟩
  rw[bE i (by omega),aY hlt]
  have:=Mh l hl h1 h2 k (i+1) (out++[l[i]]) (by omega) (by simp;omega)
  rw[bb]at this
  simpa[fN]using this
theorem PQ(l:List Hl)(hl:l.length<=1000)(h1:∀h,h∈l->h.1.dq.length<=900000)(h2:∀h,h∈l->h.2.dq.length<=900000):ap Tryz.prog 109 [.sl (lY l)] [] (bD (.sl (fN l))):=by
 refine O7 _ ((cd _).mpr trivial) ?_
 unfold IX
 refine cw (Mh l hl h1 h2 l.length 0 [] (by omega) (by simp)) ?_
 simp only[↓zq,zs,af]
 exact⟨rfl,rfl⟩
theorem n7{a:Ty}{v:Vl}(h:Fo a v){k:Hl}(hk:k∈kids a v):k.1.dq.length<=900000/\k.2.dq.length<=900000:=by
 obtain⟨b1,b2⟩:=nQ h.gz hk
 have h1:=iq _ b1
 have h2:=iq _ b2
 have h3:=yf hk
 have h4:=h.nd
 have h5:k.1.nodes<=4*v.nodes:=by
  cases v with
  |f w=>have:=(jp hk).2;simp only[Vl.nodes];omega
  |_=>cases hk
 omega
end Go.Proofs.Trees
namespace Go.Proofs.Trees
open Go Go.VL Go.RowKit
theorem vf{a:Ty}{l l':List Vl}{v w:Vl}{k:Int}(h:D8 a l v k=some (l',w)):∃q,q∈kids a v/\l'=l++[q.1]/\w=q.2/\q.1.nodes<=200/\l.length≠50/\0<=k/\(kids a v)[k.toNat]?=some q:=by
 unfold D8 at h
 split at h
 ·cases h
 ·rename_i h0
  split at h
  ·rename_i h1
   split at h
   ·rename_i h2
    cases h
    have e:(kids a v).getD k.toNat (.u,.u)=(kids a v)[k.toNat]'h1.2:=by simp[aa,h1.2]
    rw[e]at h2 |-
    exact⟨_,bQ _,rfl,rfl,h2,h0,h1.1,by simp[h1.2]⟩
   ·cases h
  ·cases h
theorem St.dn{s d:Nm}{a:Ty}{l l':List Vl}{v w:Vl}{k:Int}(h:St s d a l v)(hu:D8 a l v k=some (l',w)):St s d a l' w/\D3 a l' w=some (l,v)/\l'.length=l.length+1:=by
 obtain⟨q,hq,rfl,rfl,hn,h50,_,_⟩:=vf hu
 obtain⟨x,A,B,D,z⟩:=h.z
 obtain⟨t1,t2,t3⟩:=z.PZ h.i.Ac hq
 have hv:mG d q.1.dq 100=some q.1:=by rw[z.PY (nQ h.i.Ac.gz hq).1 t1,if_pos hn]
 have hlen:=h.len
 refine⟨⟨⟨x,A,B,D,z⟩,⟨fun c hc=>?_,t2⟩,fun c hc=>?_,by simp;omega⟩,(u7 t3 h.i.Ac.nd).1,by simp⟩
 ·rcases aL.1 hc with hc|hc
  ·exact h.i.DH c hc
  ·simp only[aS]at hc;subst hc;exact z.DH hv
 ·rcases aL.1 hc with hc|hc
  ·exact h.each c hc
  ·simp only[aS]at hc;subst hc;exact hv
theorem wg{l:List Hl}{i:Nat}(h:i<l.length):(fN l).getD i []=[.v (.string (mk (l[i]).1.dq)),.v (.string (mk (l[i]).2.dq))]:=by simp[fN,aa,h]
theorem Fh{s:Nm}{p:List Nm}{f:Nm}{r:List Vl×Vl}(h:Fk s p f=some r):∃d,cY s=some d/\St s d (zA s) r.1 r.2/\p=r.1.map (·.dq)/\f=r.2.dq:=by
 obtain⟨d,a,x,A,B,D,z,hz,hp,hf,hl,hza,_,hr⟩:=Bc (l:=r.1) (v:=r.2) h
 rw[hza]
 exact⟨d,z.dl,⟨⟨x,A,B,D,z⟩,hz,rO hr hp,by rw[hp]at hl;simpa using hl⟩,hp,hf⟩
theorem HX{s d:Nm}{l:List Vl}{v:Vl}(hs:St s d (zA s) l v)(hd:cY s=some d)(hv:vD s (l.map (·.dq)) v.dq=some (l,v)){k:Int}(h0:0<=k)(hk:k.toNat<(kids (zA s) v).length) :
 vD s (l.map (·.dq)++[((kids (zA s) v)[k.toNat]).1.dq]) ((kids (zA s) v)[k.toNat]).2.dq=D8 (zA s) l v k:=by
 rw[yD hs hd hv (bQ hk)]
 unfold D8
 by_cases h5:l.length=50
 ·rw[if_pos h5,if_pos h5]
 ·rw[if_neg h5,if_neg h5,if_pos (show 0<=k/\k.toNat<(kids (zA s) v).length from ⟨h0,hk⟩)]
  have hg2:(kids (zA s) v).getD k.toNat (.u,.u)=(kids (zA s) v)[k.toNat]:=by simp[aa,hk]
  rw[hg2]
end Go.Proofs.Trees
namespace Go.Proofs.Trees
open Go Go.VL Go.RowKit
def PW(n:Nat):AV->List Ob->Prop:=fun r o=>∃x:Int,r=.v (.int .i64 x)/\(0<=x->n<=1048576)
theorem PW.ne(n:Nat):∃r o,PW n r o:=⟨_,[],-1,rfl,fun h=>by omega⟩
end Go.Proofs.Trees
namespace Go.Proofs.Trees
open Go Go.VL Go.RowKit
def pY(a:AV)(l:List Nat):Prop:=LK.sl.has a/\a.aR=rz l
theorem pY.of(l:List Nat):pY (.sl (rz l)) l:=⟨(cd _).mpr trivial,rfl⟩
theorem pY.nil:pY (.v (.slice none 0 0)) []:=⟨(bu).mpr trivial,rfl⟩
theorem pY.len{a:AV}{l:List Nat}(h:pY a l):a.aR.length=l.length:=by rw[h.2,wo]
theorem pY.idx{a:AV}{l:List Nat}(h:pY a l){i:Nat}(hi:i<l.length):a.aR.getD i []=[.v (.int .i64 (l.getD i 0:Nat))]:=by
 rw[h.2];simp[rz,aa,hi]
end Go.Proofs.Trees
namespace Go.Proofs.Trees
open Go Go.VL Go.RowKit
def uI(l:List Int):List (List AV):=l.map fun k=>[.v (.int .i64 k)]
def p6(a:AV)(l:List Int):Prop:=LK.sl.has a/\a.aR=uI l
theorem yC(l:List Int):(uI l).length=l.length:=by simp[uI]
theorem p6.of(l:List Int):p6 (.sl (uI l)) l:=⟨(cd _).mpr trivial,rfl⟩
theorem p6.nil:p6 (.v (.slice none 0 0)) []:=⟨(bu).mpr trivial,rfl⟩
theorem p6.len{a:AV}{l:List Int}(h:p6 a l):a.aR.length=l.length:=by rw[h.2,yC]
theorem p6.idx{a:AV}{l:List Int}(h:p6 a l){i:Nat}(hi:i<l.length):a.aR.getD i []=[.v (.int .i64 (l.getD i 0))]:=by
 rw[h.2];simp[uI,aa,hi]
end Go.Proofs.Trees
namespace Go.Proofs.Trees
open Go Go.VL Go.RowKit
abbrev ZO:=Option (List Vl×Vl)
def Ev(s:Nm)(o:ZO):Prop:=∀r,o=some r->∃d,St s d (zA s) r.1 r.2
def P4(a:Ty)(pl:List Int)(o:ZO):ZO:=pl.foldl (fun o k=>o.bind fun r=>D8 a r.1 r.2 k) o
theorem Ev.dn{s:Nm}{o:ZO}(h:Ev s o)(k:Int):Ev s (o.bind fun r=>D8 (zA s) r.1 r.2 k):=fun r hr=>by
 obtain⟨q,h1,h2⟩:=a6.1 hr
 obtain⟨d,hs⟩:=h q h1
 exact⟨d,(hs.dn (l':=r.1) (w:=r.2) h2).1⟩
theorem Ev.go{s:Nm}:∀{pl:List Int} {o:ZO},Ev s o->Ev s (P4 (zA s) pl o)
 |[],o,h=>h
 |k::pl,o,h=>Ev.go (pl:=pl) (h.dn k)
def O4(s:Nm)(o:ZO):Prop:=∀r,o=some r->vD s (r.1.map (·.dq)) r.2.dq=some r
theorem O4.dn{s:Nm}{o:ZO}(h:O4 s o)(k:Int):O4 s (o.bind fun r=>D8 (zA s) r.1 r.2 k):=fun r hr=>by
 obtain⟨q,h1,h2⟩:=a6.1 hr
 have hq:=h q h1
 obtain⟨d,hd,hs,_⟩:=Fh (ph (l:=q.1) (v:=q.2) hq).1
 obtain⟨e,_,h3,h4,_,_,h0,h5⟩:=vf (l':=r.1) (w:=r.2) h2
 have hk:k.toNat<(kids (zA s) q.2).length:=by
  rcases Nat.lt_or_ge k.toNat (kids (zA s) q.2).length with h|h
  ·exact h
  ·rw[List.getElem?_eq_none h]at h5;cases h5
 have he:(kids (zA s) q.2)[k.toNat]=e:=by rw[bm hk]at h5;cases h5;rfl
 have:=HX hs hd hq h0 hk
 rw[h2,he]at this
 obtain⟨l1,v1⟩:=r
 simp only at h3 h4 |-
 subst h3 h4
 rw[List.map_append]
 exact this
end Go.Proofs.Trees
namespace Go.Proofs.Trees
open Go Go.VL Go.RowKit
def Aa(x:Nm)(i:Nat)(tg tg':Tg):Prop:=(tg=.bd i/\tg'=.nm x)\/(∃s,s≠x/\tg=.nm s/\tg'=.nm s)\/∃j,j<i/\tg=.bd j/\tg'=.bd j
theorem Aa.up{x:Nm}{i:Nat}{tg tg':Tg}(h:Aa x i tg tg'):Aa x (i+1) tg.up tg'.up:=by
 rcases h with⟨rfl,rfl⟩|⟨s,h,rfl,rfl⟩|⟨j,h,rfl,rfl⟩
 ·exact .inl ⟨rfl,rfl⟩
 ·exact .inr (.inl ⟨s,h,rfl,rfl⟩)
 ·exact .inr (.inr ⟨j+1,by omega,rfl,rfl⟩)
theorem As{x:Nm}{i:Nat}{tg tg':Tg}(h:Aa x i tg tg')(t:Ty)(hx:bg x t=false):eF (dy (.name x) t i) tg'=eF t tg:=by
 cases t with
 |
  bJ k =>
  simp only[dy]
  rcases h with⟨rfl,rfl⟩|⟨s,h,rfl,rfl⟩|⟨j,h,rfl,rfl⟩
  ·split
   ·rename_i e;simp[eF,e]
   ·rename_i e;simp[eF,e]
  ·split
   ·simp[eF,Ne.symm h]
   ·simp[eF]
  ·split
   ·rename_i e;simp only[eF];exact(decide_eq_false (by omega)).symm
   ·simp[eF]
 |
  name n =>
  have hn:¬n=x:=by simpa[bg]using hx
  rcases h with⟨rfl,rfl⟩|⟨s,h,rfl,rfl⟩|⟨j,h,rfl,rfl⟩<;>simp[dy,eF,hn]
 |_=>rcases h with⟨rfl,rfl⟩|⟨s,h,rfl,rfl⟩|⟨j,h,rfl,rfl⟩<;>rfl
theorem fK(x:Nm):∀(n:Nat) (t:Ty) (i:Nat) (tg tg':Tg) (v:Vl),bg x t=false->Aa x i tg tg'->dN n (dy (.name x) t i) tg' v=dN n t tg v
 |0,_,_,_,_,_,_,_=>rfl
 |
  n+1,t,i,tg,tg',v,hx,hr=>by
  rw[dN,dN,As hr t hx]
  split
  ·rfl
  ·cases t with
   |
    plus a b =>
    simp only[bg,bU]at hx
    cases v with
    |l w=>exact congrArg (iK .l) (fK x n a i tg tg' w hx.1 hr)
    |r w=>exact congrArg (iK .r) (fK x n b i tg tg' w hx.2 hr)
    |_=>rfl
   |
    times a b =>
    simp only[bg,bU]at hx
    cases v with
    |
     p y z =>
     simp only[dy,ju]
     rw[fK x n a i tg tg' y hx.1 hr,fK x n b i tg tg' z hx.2 hr]
    |_=>rfl
   |
    rc a =>
    cases v with
    |
     f w =>
     simp only[dy,ju]
     rw[fK x n a (i+1) tg.up tg'.up w hx hr.up,fK x n a (i+1) (.bd 0) (.bd 0) w hx (.inr (.inr ⟨0,by omega,rfl,rfl⟩))]
     congr 1
     refine iR fun h hh=>?_
     have:=fK x n (.rc a) i tg tg' h.2 hx hr
     simp only[dy]at this
     rw[this]
    |_=>rfl
   |
    bJ k =>
    simp only[dy]
    split<;>(cases v<;>rfl)
   |_=>rfl
theorem oZ{g:Vl->Vl}{l:List Hl}{c v:Vl}(h:(c,v)∈l):(g c,v)∈iK g l:=cm.2 ⟨_,h,rfl⟩
theorem pR(n:Nat):∀(m:Nat) (c:Vl),c.nodes<=m->∀(t:Ty) (s:Nm) (d:Ty) (σ:Nm->Option Ty),Dv t s d->BW σ->jv t 0->vT n c (eS σ d)=true->∀(v:Vl) (k:Nat),(cM t c v).nodes<=k->(c,v)∈dN k t (.nm s) (cM t c v)
 |0,c,h=>by have:=dr c;omega
 |
  m+1,c,hm=>by
  intro t s d σ hd hσ hl hv v k hk
  have no:∀c,vT n c .zero=false:=fun c=>by cases c<;>rfl
  obtain⟨k,rfl⟩:∃j,k=j+1:=⟨k-1,by have:=dr (cM t c v);omega⟩
  cases hd with
  |zero=>rw[show eS σ .zero=.zero from rfl,no]at hv;cases hv
  |one=>rw[show eS σ .zero=.zero from rfl,no]at hv;cases hv
  |bJ=>rw[show eS σ .zero=.zero from rfl,no]at hv;cases hv
  |qf=>rw[show eS σ .zero=.zero from rfl,no]at hv;cases hv
  |
   hit =>
   have hc:c=.u:=by
    have hv:vT n c .one=true:=hv
    cases c<;>first|rfl|simp[vT]at hv
   rw[ky,dN,if_pos (by simp[eF]),hc];exact aj
  |
   plus h1 h2 _ =>
   rcases iY hv with⟨w,rfl,hw⟩|⟨w,rfl,hw⟩
   ·simp only[Vl.nodes]at hm
    rename_i a b _ _
    simp only[cM,Vl.nodes]at hk
    have:=pR n m w (by omega) _ s _ σ h1 hσ hl.1 hw v k (by omega)
    exact oZ (g:=.l) this
   ·simp only[Vl.nodes]at hm
    simp only[cM,Vl.nodes]at hk
    have:=pR n m w (by omega) _ s _ σ h2 hσ hl.2 hw v k (by omega)
    exact oZ (g:=.r) this
  |
   times h1 h2 _ =>
   rcases iY hv with⟨w,rfl,hw⟩|⟨w,rfl,hw⟩
   ·obtain⟨x,y,rfl,hx,hy⟩:=gr hw
    simp only[Vl.nodes]at hm
    simp only[cM,Vl.nodes]at hk
    have:=pR n m x (by omega) _ s _ σ h1 hσ hl.1 hx v k (by omega)
    exact aA _ (oZ (g:=fun c=>.l (.p c y)) this)
   ·obtain⟨x,y,rfl,hx,hy⟩:=gr hw
    simp only[Vl.nodes]at hm
    simp only[cM,Vl.nodes]at hk
    have:=pR n m y (by omega) _ s _ σ h2 hσ hl.2 hy v k (by omega)
    exact az _ (oZ (g:=fun c=>.r (.p x c)) this)
  |
   @rc a _ c0 d0 x hx hs h1 h2 hsz =>
   have lo:jv (dy (.name x) a 0) 0:=gH x a hl
   obtain⟨X,e1,e2⟩:=oL (x:=x) hσ hl (h1.lc lo) (h2.lc lo)
   have hv':=hv
   rw[e1]at hv'
   obtain⟨w,rfl,hw⟩:=By hv'
   rw[e2]at hw
   have hcl:=lH hσ x (jS hσ (.rc a) hl)
   rcases iY hw with⟨y,rfl,hy⟩|⟨y,rfl,hy⟩
   ·simp only[Vl.nodes]at hm
    simp only[cM,Vl.nodes]at hk
    have:=pR n m y (by omega) _ s _ _ h1 hcl lo hy v k (by rw[dM x y.nodes y a 0 v (aq _)];omega)
    rw[dM x y.nodes y a 0 v (aq _),fK x k a 0 (.nm s) (.nm s) _ hx (.inr (.inl ⟨s,Ne.symm hs,rfl,rfl⟩))]at this
    exact aA _ (oZ (g:=fun c=>.f (.l c)) this)
   ·obtain⟨y,z,rfl,hy,hz⟩:=gr hy
    simp only[Vl.nodes]at hm
    simp only[cM,Vl.nodes]at hk
    have q1:=pR n m y (by omega) _ x _ _ h2 hcl lo hy (cM (.rc a) z v) k (by rw[dM x y.nodes y a 0 _ (aq _)];omega)
    rw[dM x y.nodes y a 0 _ (aq _),fK x k a 0 (.bd 0) (.nm x) _ hx (.inl ⟨rfl,rfl⟩)]at q1
    have hsz2:=(fh k a (.bd 0) _ _ q1).1
    have q2:=pR n m z (by omega) (.rc a) s _ σ (.rc x hx hs h1 h2 hsz) hσ hl hz v k (by simp only at hsz2;omega)
    exact az _ (List.mem_flatMap.2 ⟨_,q1,oZ (g:=fun c=>.f (.r (.p y c))) q2⟩)
theorem Gd{n:Nat}{a D:Ty}{x:Nm}(hx:bg x a=false)(hl:jv (.rc a) 0)(h:nN a x=some D){c:Vl}(hc:vT n c D=true)(v:Vl):(c,v)∈kids a (.f (cM a c v)):=by
 simp only[nN,a6,cK,eJ]at h
 obtain⟨d,hd,_,rfl⟩:=h
 have lo:jv (dy (.name x) a 0) 0:=gH x a hl
 have hcl:=lH rM x hl
 have e1:sub x (.rc a) d=eS (iN C9 x (.rc a)) d:=by
  have:=im C9 x (.rc a) d
  rw[iM,iM]at this;exact this
 rw[e1]at hc
 have h1:=pR n c.nodes c (aq _) _ x _ _ hd hcl lo hc v (cM a c v).nodes (by rw[dM x c.nodes c a 0 v (aq _)];omega)
 rw[dM x c.nodes c a 0 v (aq _),fK x _ a 0 (.bd 0) (.nm x) _ hx (.inl ⟨rfl,rfl⟩)]at h1
 exact h1
end Go.Proofs.Trees
namespace Go.Proofs.Trees
open Go Go.VL Go.RowKit
noncomputable def rL (s c v:Nm):Option Nm:=(jP s v).bind fun w=>(cY s).bind fun d=>(mG d c 100).bind fun c'=>yy (zA s) c' w
def AC(s v:Nm):Option (List Hl):=(jP s v).map fun w=>kids (zA s) w
theorem ZT.O2{s d:Nm}{a:Ty}{x A B:E}{D:Ty}(z:ZT s d a x A B D){c:Nm}{w:Vl}(h:mG d c 100=some w)(v:Vl):(w,v)∈kids a (.f (cM a w v)):=by
 obtain⟨e,t,m,h1,h2,h3,h4,h5,h6,h7⟩:=kI h
 have hm:m=100:=by omega
 subst hm
 have:=uo h3
 rw[z.bk]at this;cases this
 rw[lK h4]at h7
 obtain⟨e2,he2,hw2,hte2,_,_⟩:=nK z.y
 have hlc:jv (.rc a) 0:=hte2 ▸ hw2.qi.1
 exact Gd (ub z.y) hlc z.lp h7 v
theorem sI{s c v o:Nm}(h:rL s c v=some o):∃d a x A B D w c',ZT s d a x A B D/\zA s=a/\jP s v=some w/\mG d c 100=some c'/\Fo a w/\v=w.dq/\Cx a c'/\c=c'.dq/\(Vl.f (cM a c' w)).nodes<=200/\o=(Vl.f (cM a c' w)).dq:=by
 unfold rL at h
 obtain⟨w,hw,h⟩:=a6.1 h
 obtain⟨d,hd,h⟩:=a6.1 h
 obtain⟨c',hc,h⟩:=a6.1 h
 obtain⟨a,x',A',B',L⟩:=mZ hw
 obtain⟨x,A,B,D,z⟩:=ZT.of L.l hd
 have ha:zA s=a:=by unfold zA;rw[L.l];rfl
 rw[ha]at h
 obtain⟨hf,hv⟩:=z.Ac hw
 obtain⟨_,_,_,_,h2,_⟩:=kI hc
 unfold yy at h
 split at h
 ·rename_i hn
  cases h
  exact⟨d,a,x,A,B,D,w,c',z,ha,hw,hc,hf,hv,z.DH hc,lg h2,hn,rfl⟩
 ·cases h
theorem Co{s c v o:Nm}(h:rL s c v=some o):∃l,AC s o=some l/\∃q,q∈l/\q.1.dq=c/\q.2.dq=v:=by
 obtain⟨d,a,x,A,B,D,w,c',z,ha,hw,hc,hf,rfl,hx,rfl,hn,rfl⟩:=sI h
 have hb:(Vl.f (cM a c' w)).gz 100:=mn 100 a c' w hx.gz hf.gz
 refine⟨kids a (.f (cM a c' w)),?_,(c',w),z.O2 hc w,rfl,rfl⟩
 unfold AC
 rw[z.lv,z.dq hb (hx.ty w hf.ty),if_pos hn,ha];rfl
end Go.Proofs.Trees
namespace Go.Proofs.Trees
open Go Go.VL Go.RowKit
theorem KP(l:List Hl)(hl:l.length<=1000)(h1:∀h,h∈l->h.1.dq.length<=900000)(h2:∀h,h∈l->h.2.dq.length<=900000):∀(k i:Nat) (out:List Hl),i+k=l.length->out.length<=i ->
 FO [.sl (iv l),.v (.int .i64 (l.length:Int)),.v (.int .i64 (i:Int))] [.vec 2 (fN out)] (iF 1 [] [.vec 2 (fN (out++l.drop i))])
 |
  0,i,out,hi,ho=>by
  have:i=l.length:=by omega
  subst this
  refine H5 _ _ _ _ ?_
  simp only[E8,↓zq,zs,af,dZ,List.drop_length,cH]
  exact⟨fun h=>by omega,fun _=>⟨rfl,rfl,rfl⟩⟩
 |
  k+1,i,out,hi,ho=>by
  have hlt:i<l.length:=by omega
  have hm:=bQ hlt
  refine H5 _ _ _ _ ?_
  simp only[E8,↓zq,zs,af,zt,dZ,k8 hlt,bz,aN,cb]
  refine⟨fun _=>?_,fun h=>by omega⟩
  repeat refine⟨by first|trivial|omega,?_⟩
  refine ai (D7 _ (h1 _ hm)) ?_
  simp only[↓zq,zs,af,zt,aN]
  repeat refine⟨by first|trivial|omega,?_⟩
  refine ai (D7 _ (h2 _ hm)) ?_
  simp only[↓zq,zs,af,zt,gJ]
  refine⟨⟨fun c hc=>by simp at hc;rw[hc];rfl,by omega⟩,?_⟩
  rw[bE i (by omega),aY hlt]
  have:=KP l hl h1 h2 k (i+1) (out++[l[i]]) (by omega) (by simp;omega)
  rw[bb]at this
  simpa[fN]using this
theorem Ot(l:List Hl)(hl:l.length<=1000)(h1:∀h,h∈l->h.1.dq.length<=900000)(h2:∀h,h∈l->h.2.dq.length<=900000):ap Tryz.prog 60 [.sl (iv l)] [] (bD (.sl (fN l))):=by
 refine MG _ ((cd _).mpr trivial) ?_
 simp only[Me,↓zq,zs,af,dZ]
 refine cw (KP l hl h1 h2 l.length 0 [] (by omega) (by simp)) ?_
 simp only[↓zq,zs,af,Ob.es,bi]
 exact⟨rfl,rfl⟩
def Mv:Option (List Hl)->AV
 |some l=>.cA [.sl (fN l),.v (.bool true)]
 |none=>.cA [.v (.slice none 0 0),.v (.bool false)]
theorem pu{a:Ty}{v:Vl}(h:Fo a v):(kids a v).length<=1000:=by
 have hlen:=sg a v
 have:=oy (kids a v)
 have:=h.nd
 omega
theorem oi{s v:Nm}{w:Vl}(h:jP s v=some w):∃x A B,l9 s=some (zA s)/\Fo (zA s) w/\v=w.dq/\LV s v w (zA s) x A B:=by
 obtain⟨a,x,A,B,L⟩:=mZ h
 have ha:zA s=a:=by unfold zA;rw[L.l];rfl
 rw[ha]
 exact⟨x,A,B,L.l,⟨by rw[<-lK L.ask];exact L.eV,L.gz,L.nodes⟩,lg L.v,L⟩
theorem vk{s:Nm}{a:Ty}(h:l9 s=some a):EW s=(Ty.rc a).av:=by unfold EW;rw[h]
theorem PB(s v:Nm):ap Tryz.prog 24 [.v (.string (mk s)),.v (.string (mk v))] [] (bD (Mv (AC s v))):=by
 refine OM _ _ ?_
 unfold Jd
 refine ai (Hq s v) ?_
 unfold AC
 cases q:jP s v with
 |
  none =>
  simp only[↓zq,zs,af,iD,Mv,Option.map_none]
  refine⟨by unfold EW;split<;>simp[aF,jd],?_⟩
  exact⟨fun _=>⟨rfl,rfl⟩,fun h=>(by cases h)⟩
 |
  some w =>
  obtain⟨x,A,B,hl,hf,hv,L⟩:=oi q
  rw[vk hl]
  simp only[↓zq,zs,af,iD,Mv,cv,aN,fg,aF]
  refine⟨fun h=>(by cases h),fun _=>?_⟩
  have:=hf.nd
  refine ai (MC 100 w x A B (zA s) L.body L.hx L.eV (by omega)) ?_
  simp only[↓zq,zs,af,zt]
  refine ai (Ot (kids (zA s) w) (pu hf) (fun h hh=>(n7 hf hh).1) (fun h hh=>(n7 hf hh).2)) ?_
  simp only[↓zq,zs,af,zt]
  exact⟨rfl,rfl⟩
theorem Nh(s c v:Nm):ap Tryz.prog 22 [.v (.string (mk s)),.v (.string (mk c)),.v (.string (mk v))] [] (bD (lu (rL s c v))):=by
 refine PF _ _ _ ?_
 unfold LJ
 refine ai (Hq s v) ?_
 unfold rL
 cases q:jP s v with
 |
  none =>
  simp only[↓zq,zs,af,iD,bK]
  refine⟨by unfold EW;split<;>simp[aF,jd],?_⟩
  refine ai (KQ s) ?_
  rw[tI]
  simp only[↓zq,zs,af,zt]
  exact⟨fun _=>⟨rfl,rfl⟩,fun h=>(by cases h)⟩
 |
  some w =>
  obtain⟨x,A,B,hl,hf,hv,L⟩:=oi q
  rw[vk hl]
  simp only[↓zq,zs,af,iD,a8,aN,fg,aF]
  refine ai (KQ s) ?_
  cases q2:cY s with
  |
   none =>
   simp only[↓zq,zs,af,zt,lu,bK]
   exact⟨fun h=>(by cases h),fun _=>⟨fun _=>⟨rfl,rfl⟩,fun h=>(by cases h)⟩⟩
  |
   some d =>
   simp only[↓zq,zs,af,zt,lu,a8]
   refine⟨fun h=>(by cases h),fun _=>⟨fun h=>(by cases h),fun _=>?_⟩⟩
   refine ai (I3 d c 100) ?_
   cases q3:mG d c 100 with
   |
    none =>
    simp only[↓zq,zs,af,zt,iD,gm,bK]
    exact⟨fun _=>⟨rfl,rfl⟩,fun h=>(by cases h)⟩
   |
    some c' =>
    obtain⟨x2,A2,B2,D,z⟩:=ZT.of hl q2
    have hx:=z.DH q3
    simp only[↓zq,zs,af,zt,iD,gm,a8,aN,fg,aF]
    refine⟨fun h=>(by cases h),fun _=>?_⟩
    refine ai (OY (zA s) c' w hx.ok) ?_
    simp only[↓zq,zs,af,zt,aN]
    have hb:(Vl.f (cM (zA s) c' w)).gz 100:=mn 100 _ c' w hx.gz hf.gz
    have hn:(Vl.f (cM (zA s) c' w)).nodes<100000:=by
     have:=rB (zA s) c' w
     have:=hx.nd
     have:=hf.nd
     simp only[Vl.nodes];omega
    refine ai (Pc _ hb hn) ?_
    unfold yy
    split<;>simp[lu,↓zq,zs,af,zt,bD]
end Go.Proofs.Trees
namespace Go.Proofs.Trees
open Go Go.VL Go.RowKit
def pW(l:List UInt8):List (List AV):=l.map fun(x:UInt8)=>[.v (.int .u8 (x.toNat:Int))]
structure sb(b:AV)(l:List UInt8):Prop where
 has:LK.sl.has b
 el:b.aR=pW l
 len:l.length<=2000
theorem sb.ln{b:AV}{l:List UInt8}(h:sb b l):b.aR.length=l.length:=by rw[h.el];simp[pW]
theorem sb.get{b:AV}{l:List UInt8}(h:sb b l){i:Nat}(hi:i<l.length):b.aR.getD i []=[.v (.int .u8 ((l[i]).toNat:Int))]:=by rw[h.el];simp[pW,aa,hi]
def eX(b:AV)(p c:Nat)(X:AV->Prop):AV->List Ob->Prop:=fun r o=>∃q:Nat,p<=q/\q<=p+c/\X r/\o=[.cells [b,.v (.int .i64 (q:Int))]]
theorem eX.ne{b:AV}{p c:Nat}{X:AV->Prop}{r:AV}(h:X r):∃r o,eX b p c X r o:=⟨r,_,p,aq _,cW _ _,h,rfl⟩
theorem CF{a b:Int}(ha:0<=a)(hb:0<=b)(ha':a<9223372036854775808)(hb':b<9223372036854775808):∃W:Nat,Af .i64 a b=(W:Int):=by
 obtain⟨x,rfl⟩:∃x:Nat,a=(x:Int):=⟨a.toNat,by omega⟩
 obtain⟨y,rfl⟩:∃y:Nat,b=(y:Int):=⟨b.toNat,by omega⟩
 have e1:(BitVec.ofInt 64 (x:Int)).toNat=x:=by simp;omega
 have e2:(BitVec.ofInt 64 (y:Int)).toNat=y:=by simp;omega
 have hlt:x ^^^ y<2 ^ 63:=Nat.xor_lt_two_pow (by omega) (by omega)
 refine⟨x ^^^ y,?_⟩
 unfold Af
 have e3:(BitVec.ofInt (IntKind.bits .i64) (x:Int) ^^^ BitVec.ofInt (IntKind.bits .i64) (y:Int)).toNat=x ^^^ y:=by
  show (BitVec.ofInt 64 (x:Int) ^^^ BitVec.ofInt 64 (y:Int)).toNat=_
  rw[BitVec.toNat_xor,e1,e2]
 rw[e3,VL.wrap64]<;>omega
theorem xF(a b:Nat):Int.tdiv (a:Int) (b:Int)=((a/b:Nat):Int):=(Int.ofNat_tdiv a b).symm
theorem qt(a b:Nat):dF (a:Int) (b:Int)=((a%b:Nat):Int):=(Int.ofNat_tmod a b).symm
theorem vz(n:Nat)(h:n<9223372036854775808):IntKind.wrap .i64 (n:Int)=(n:Int):=VL.wrap64 _ (by omega) (by omega)
def Ee(n:Nat):AV->Prop:=fun r=>∃k:Nat,r=.v (.int .i64 (k:Int))/\(1<=n->k<n)/\k<=n
abbrev p9:Nat:=1000000000000000
theorem vN(b:AV)(l:List UInt8)(hb:sb b l)(p n:Nat)(hp:p<2*p9)(hn:n<p9):ap Tryz.prog 32 [.ref 0 0,.v (.int .i64 (n:Int))] [.cells [b,.v (.int .i64 (p:Int))]] (eX b p 1 (Ee n)):=by
 refine N5 _ _ _ hb.has ?_
 have e1:IntKind.wrap .i64 ((p:Int)+1)=((p+1:Nat):Int):=by rw[VL.wrap64]<;>simp[p9]at hp<;>omega
 have e2:IntKind.wrap .i64 (((p+1:Nat):Int)-1)=(p:Int):=by rw[VL.wrap64]<;>simp[p9]at hp<;>omega
 have fin:∀k:Nat,(1<=n->k<n)->k<=n->eX b p 1 (Ee n) (.v (.int .i64 (k:Int))) [.cells [b,.v (.int .i64 ((p+1:Nat):Int))]]:=fun k h h'=>⟨p+1,by omega,aq _,⟨k,rfl,h,h'⟩,rfl⟩
 simp only[Is,↓zq,zs,af,e1,e2,hb.ln,xF,qt]
 refine⟨fun h=>fin 0 (fun h'=>by omega) (dS _),fun h=>⟨hb.has,fun h0=>fin 0 (fun h'=>by omega) (dS _),fun h0=>?_⟩⟩
 have hl:0<l.length:=by omega
 have hll:=hb.len
 refine⟨hb.has,fun hlt=>?_,fun hge=>?_⟩
 ·have hlt:p<l.length:=by omega
  have hx:=(l[p]).toNat_lt
  simp only[cb,hb.get hlt,hb.has,↓zq,zs,af]
  rw[vz _ (by omega),qt]
  have:=fin ((l[p]).toNat%n) (fun h'=>eu _ (by omega)) (Nat.le_of_lt (eu _ (by omega)))
  repeat (first|exact this|refine⟨by omega,?_⟩)
 ·have h1:p%l.length<l.length:=eu _ hl
  have e3:IntKind.wrap .i64 ((p:Int)*7)=((p*7:Nat):Int):=by rw[VL.wrap64]<;>simp[p9]at hp<;>omega
  have e4:IntKind.wrap .i64 (((p*7:Nat):Int)+3)=((p*7+3:Nat):Int):=by rw[VL.wrap64]<;>simp[p9]at hp<;>omega
  have h2:(p*7+3)%l.length<l.length:=eu _ hl
  have hx:=(l[p%l.length]).toNat_lt
  have hy:=(l[(p*7+3)%l.length]).toNat_lt
  have hq:p/l.length<=p:=Nat.div_le_self _ _
  simp only[e3,e4,qt,cb,hb.get h1,hb.get h2,hb.has,↓zq,zs,af]
  generalize hxx:(l[p%l.length]).toNat=x at hx |-
  generalize hyy:(l[(p*7+3)%l.length]).toNat=y at hy |-
  generalize hqq:p/l.length=q at hq |-
  have f1:IntKind.wrap .i64 ((x:Int))=(x:Int):=vz _ (by omega)
  have f2:IntKind.wrap .i64 ((y:Int))=(y:Int):=vz _ (by omega)
  have f3:IntKind.wrap .i64 ((x:Int)*131)=((x*131:Nat):Int):=by rw[VL.wrap64]<;>omega
  have f4:IntKind.wrap .i64 ((y:Int)*1117)=((y*1117:Nat):Int):=by rw[VL.wrap64]<;>omega
  have f5:IntKind.wrap .i64 (((x*131:Nat):Int)+((y*1117:Nat):Int))=((x*131+y*1117:Nat):Int):=by rw[VL.wrap64]<;>omega
  have f6:IntKind.wrap .i64 ((p:Int)*29)=((p*29:Nat):Int):=by rw[VL.wrap64]<;>simp[p9]at hp<;>omega
  have f7:IntKind.wrap .i64 (((x*131+y*1117:Nat):Int)+((p*29:Nat):Int))=((x*131+y*1117+p*29:Nat):Int):=by rw[VL.wrap64]<;>simp[p9]at hp<;>omega
  have f8:IntKind.wrap .i64 ((q:Int))=(q:Int):=vz _ (by simp[p9]at hp;omega)
  have f9:IntKind.wrap .i64 ((q:Int)*53)=((q*53:Nat):Int):=by rw[VL.wrap64]<;>simp[p9]at hp<;>omega
  have f10:IntKind.wrap .i64 (((x*131+y*1117+p*29:Nat):Int)+((q*53:Nat):Int))=((x*131+y*1117+p*29+q*53:Nat):Int):=by rw[VL.wrap64]<;>simp[p9]at hp<;>omega
  simp only[f1,f2,f3,f4,f5,f6,f7,f8,f9,f10]
  generalize hV:x*131+y*1117+p*29+q*53=V
  have hVl:V<1000000000000000000:=by simp[p9]at hp;omega
  have f11:IntKind.wrap .i64 (Int.tdiv (V:Int) 64)=((V/64:Nat):Int):=by
   have:Int.tdiv (V:Int) 64=((V/64:Nat):Int):=xF V 64
   rw[this,vz _ (by omega)]
  rw[f11]
  obtain⟨W,hW⟩:=CF (a:=(V:Int)) (b:=((V/64:Nat):Int)) (by omega) (by omega) (by omega) (by omega)
  rw[hW,qt]
  have:=fin (W%n) (fun h'=>eu _ (by omega)) (Nat.le_of_lt (eu _ (by omega)))
  repeat (first|exact this|refine⟨by omega,?_⟩)
def kR(L:List (List UInt8)):AV->Prop:=fun r=>∃s,s∈L/\r=.v (.string (mk s))
theorem B6(b:AV)(l:List UInt8)(hb:sb b l)(p:Nat)(hp:p<2*p9)(L:List (List UInt8))(a:AV)(ha:dV a L)(hL:0<L.length)(hLl:L.length<1000000):ap Tryz.prog 55 [.ref 0 0,a] [.cells [b,.v (.int .i64 (p:Int))]] (eX b p 1 (kR L)):=by
 refine Ng _ _ _ ha.1 hb.has ?_
 unfold IQ
 simp only[↓zq,zs,af,ha.len]
 refine⟨ha.1,?_⟩
 have hpk:=vN b l hb p L.length hp (by simp[p9];omega)
 refine aO hpk (eX.ne ⟨0,rfl,fun h=>h,dS _⟩) ?_
 rintro r o ⟨q,h1,h2,⟨k,rfl,h3,h4⟩,rfl⟩
 have hk:=h3 hL
 simp only[↓zq,zs,af,zt,aM,hb.has,ha.idx hk,cb]
 refine⟨⟨ha.1,by omega⟩,?_⟩
 have:eX b p 1 (kR L) (.v (.string (mk (L.getD k [])))) [.cells [b,.v (.int .i64 (q:Int))]]:=⟨q,h1,h2,⟨_,by simp[aa,hk],rfl⟩,rfl⟩
 repeat (first|exact this|refine⟨by omega,?_⟩)
def gu(n:Nat):AV->Prop:=fun r=>∃s:List UInt8,r=.v (.string (mk s))/\s.length<=n
theorem kR.dq{L:List (List UInt8)}{n:Nat}(h:∀s,s∈L->s.length<=n){r:AV}(hr:kR L r):gu n r:=by
 obtain⟨s,h1,h2⟩:=hr;exact⟨s,h2,h s h1⟩
end Go.Proofs.Trees
namespace Go.Proofs.Trees
open Go Go.VL Go.RowKit
def jZ:AV->List Ob->Prop:=fun r o=>o=[]/\∃b:Bool,r=.v (.bool b)
theorem jZ.ne:∃r o,jZ r o:=⟨_,_,rfl,true,rfl⟩
theorem jZ.mk(b:Bool):jZ (.v (.bool b)) []:=⟨rfl,b,rfl⟩
theorem jZ.call{n:Nat}{f:Nat}{xs:List AV}{k:AV->List Ob->Tree}{Q:Nat->List AV->List Ob->Prop}(h:ap Tryz.prog f xs [] jZ)(hk:∀b:Bool,eT Tryz.prog n (k (.v (.bool b)) []) Q):eT Tryz.prog n (.call f xs [] k) Q :=
 aO h jZ.ne (by rintro r o ⟨rfl,b,rfl⟩;exact hk b)
theorem IT{e:E}(h:Wf e):∀(l:List Nm) (a:AV),dV a l->l.length+e.sz<100000->ap Tryz.prog 128 [.agg [.v (.string (mk e.at)),e.sp],a] [] jZ:=by
 induction h with
 |
  @atom s hs =>
  intro l a ha hl
  simp only[E.sz]at hl
  refine Dh _ _ _ ((aU _).mpr trivial) ha.1 ?_
  simp only[z7,dX,↓zq,zs,af]
  refine ai (yW s _ ((aU (.atom s)).mpr trivial) hs) ?_
  simp only[↓zq,zs,af,zt,ha.1]
  refine⟨fun h=>(by cases h),fun _=>⟨fun h=>(by cases h),fun _=>⟨fun h=>(by cases h),fun _=>⟨fun _=>.mk true,fun _=>?_⟩⟩⟩⟩
  refine ai (vY l a ha s (by omega)) ?_
  simp only[↓zq,zs,af]
  exact .mk _
 |
  @plus x y hx hy i1 i2 =>
  intro l a ha hl
  simp only[E.sz,E.jt]at hl
  refine Dh _ _ _ ((aU _).mpr trivial) ha.1 ?_
  have hP:=P3.of (.atom [43]) x y
  simp only[z7,bC,toNat_one,a7,↓zq,zs,af,zt,hP.1,hP.2.1,hP.2.2.1,hP.2.2.2,aK]
  refine ai (nO [43] x y) ?_
  simp only[↓zq,zs,af,zt,ha.1,aK]
  refine⟨fun _=>⟨by omega,by omega,jZ.call (i1 l a ha (by omega)) fun b=>?_⟩,fun h=>absurd rfl h⟩
  simp only[↓zq,zs,af]
  refine⟨fun _=>⟨by omega,by omega,jZ.call (i2 l a ha (by omega)) fun b=>?_⟩,fun _=>.mk _⟩
  simp only[↓zq,zs,af]
  exact .mk _
 |
  @times x y hx hy i1 i2 =>
  intro l a ha hl
  simp only[E.sz,E.jt]at hl
  refine Dh _ _ _ ((aU _).mpr trivial) ha.1 ?_
  have hP:=P3.of (.atom [42]) x y
  simp only[z7,bC,toNat_one,a7,↓zq,zs,af,zt,hP.1,hP.2.1,hP.2.2.1,hP.2.2.2,aK]
  refine ai (nO [42] x y) ?_
  simp only[↓zq,zs,af,zt,ha.1,aK]
  refine⟨fun h=>(by cases h),fun _=>⟨fun _=>⟨by omega,by omega,jZ.call (i1 l a ha (by omega)) fun b=>?_⟩,fun h=>absurd rfl h⟩⟩
  simp only[↓zq,zs,af]
  refine⟨fun _=>.mk _,fun _=>⟨by omega,by omega,jZ.call (i2 l a ha (by omega)) fun b=>?_⟩⟩
  simp only[↓zq,zs,af]
  exact .mk _
 |
  @rc n b hn hb i =>
  intro l a ha hl
  simp only[E.sz,E.jt]at hl
  refine Dh _ _ _ ((aU _).mpr trivial) ha.1 ?_
  have hP:=P3.of (.atom dD) (.atom n) b
  simp only[z7,bC,toNat_one,a7,↓zq,zs,af,zt,hP.1,hP.2.1,hP.2.2.1,hP.2.2.2,aK]
  refine ai (nO dD (.atom n) b) ?_
  simp only[↓zq,zs,af,zt,ha.1,aK]
  refine⟨fun h=>(by cases h),fun _=>⟨fun h=>(by cases h),fun _=>⟨fun _=>⟨by omega,by omega,by omega,by omega,?_⟩,fun h=>absurd rfl h⟩⟩⟩
  refine ai (yG l a ha n (by omega)) ?_
  simp only[↓zq,zs,af,zt]
  refine jZ.call (i (l++[n]) _ (.of _) (by simp;omega)) fun b=>?_
  simp only[↓zq,zs,af]
  exact .mk _
def Oo:AV->List Ob->Prop:=fun r o=>o=[]/\∃(g:E) (b:Bool),r=.cA [.agg [.v (.string (mk g.at)),g.sp],.v (.bool b)]/\Wf g/\g.cX<=400
theorem Ov{n:Nm}{b:E}(hn:qx n)(hb:Wf b)(hl:(E.list [.atom dD,.atom n,b]).cX<=400):ap Tryz.prog 130 [.agg [.v (.string (mk [])),(E.list [.atom dD,.atom n,b]).sp]] [] Oo:=by
 have hw:Wf (.list [.atom dD,.atom n,b]):=.rc hn hb
 refine NC _ _ ((aU _).mpr trivial) ?_
 have hP:=P3.of (.atom dD) (.atom n) b
 have hbl:b.cX<=400:=by simp only[E.cX,E.eW]at hl;omega
 simp only[KZ,toNat_one,a7,↓zq,zs,af,zt,hP.1,hP.2.1,hP.2.2.1,hP.2.2.2,aK]
 refine⟨by omega,by omega,by omega,by omega,?_⟩
 have hf:=Ka hn hb hw (by omega) (by omega)
 obtain⟨g,g1,g2,g3⟩:=JS hn hb hw hbl hl
 simp only[bC]at hf g3
 refine ai hf ?_
 simp only[↓zq,zs,af,zt,aK]
 refine⟨fun h=>⟨rfl,_,false,rfl,hw,hl⟩,fun h=>?_⟩
 repeat refine⟨by omega,?_⟩
 refine ai g3 ?_
 simp only[↓zq,zs,af,zt,aK]
 refine⟨rfl,g,true,rfl,g1,?_⟩
 rw[g1.cX [],g2]
 simpa using h
end Go.Proofs.Trees
namespace Go.Proofs.Trees
open Go Go.VL Go.RowKit
def jY(n:Nat):AV->Prop:=fun r=>∃e:E,r=.agg [.v (.string (mk e.at)),e.sp]/\e.ok/\(eY e).length<=n
theorem jY.u(n:Nat)(h:1<=n):jY n (.agg [.v (.string (mk [117])),.v (.slice none 0 0)]):=⟨.atom [117],rfl,by simp[E.ok],by simpa[eY]using h⟩
def jU(b:AV)(d:Int)(e:E)(B C:Nat):Prop:=∀p:Nat,p+C<p9->ap Tryz.prog 77 [.ref 0 0,.agg [.v (.string (mk e.at)),e.sp],.v (.int .i64 d)] [.cells [b,.v (.int .i64 (p:Int))]] (eX b p C (jY B))
theorem jU.mono{b:AV}{d:Int}{e:E}{B C B' C':Nat}(h:jU b d e B C)(hB:B<=B')(hC:C<=C'):jU b d e B' C':=fun p hp=>ap.mono (h p (by omega)) fun r o ⟨q,h1,h2,⟨g,h3,h4,h5⟩,h6⟩=>⟨q,h1,by omega,⟨g,h3,h4,by omega⟩,h6⟩
theorem oc(b:AV)(p C B:Nat)(h:1<=B):∃r o,eX b p C (jY B) r o:=eX.ne (jY.u B h)
theorem Qm(w:Nm)(e:E)(h:w.length=1):(eY (.list [.atom w,e])).length=(eY e).length+4:=by
 simp[eY,ek];omega
theorem Qo(w:Nm)(e f:E)(h:w.length=1):(eY (.list [.atom w,e,f])).length=(eY e).length+(eY f).length+5:=by
 simp[eY,ek];omega
theorem IL{b:AV}{p q q' C B:Nat}{w:Nm}{e:E}(hw:w.length=1)(h1:p<=q)(h2:q<=p+1)(h3:q<=q')(h4:q'<=q+C)(ho:e.ok)(hl:(eY e).length<=B) :
 eX b p (C+1) (jY (B+5)) (.agg [.v (.string (mk [])),(E.list [.atom w,e]).sp]) [.cells [b,.v (.int .i64 (q':Int))]] :=
 ⟨q',by omega,by omega,⟨.list [.atom w,e],rfl,⟨by intro h;rw[h]at hw;simp at hw,ho,trivial⟩,by rw[Qm w e hw];omega⟩,rfl⟩
theorem JQ(b:AV)(l:List UInt8)(hb:sb b l)(d:Int){s:Nm}(hs:s≠[]):jU b d (.atom s) 5 1:=by
 intro p hp
 refine DA _ _ _ _ _ ((aU (.atom s)).mpr trivial) hb.has ?_
 simp only[zX,dX,↓zq,zs,af]
 refine ai (yW s _ ((aU (.atom s)).mpr trivial) hs) ?_
 simp only[↓zq,zs,af,zt]
 refine⟨fun h=>(by cases h),fun _=>⟨fun h=>(by cases h),fun _=>⟨fun h=>(by cases h),fun _=>⟨fun _=>?_,fun _=>?_⟩⟩⟩⟩
 ·exact⟨p,aq _,by omega,jY.u 5 (by omega),rfl⟩
 ·refine aO (vN b l hb p 3 (by omega) (by decide)) (eX.ne ⟨0,rfl,fun h=>by omega,by omega⟩) ?_
  rintro r o ⟨q,h1,h2,⟨k,rfl,h3,h4⟩,rfl⟩
  have hk:k<3:=h3 (by omega)
  simp only[↓zq,zs,af,aM,hb.has]
  refine ai (za (k+1) k (by omega) (by omega)) ?_
  have hd:dd k=[be (48+k)]:=eH (by omega)
  simp only[↓zq,zs,af,zt,hd]
  refine⟨by simp,q,h1,h2,⟨.atom ([101]++[be (48+k)]),rfl,by simp[E.ok],by simp[eY]⟩,rfl⟩
theorem Ll(b:AV)(l:List UInt8)(hb:sb b l)(d:Int)(hd:-100000<=d/\d<=100000){n:Nm}{e:E}(hn:qx n)(he:Wf e)(hl:(E.list [.atom dD,.atom n,e]).cX<=400)(B C:Nat)(ih:-12<=d->∀g,Wf g->g.cX<=400->jU b (d-1) g B C)(hB:1<=B):jU b d (.list [.atom dD,.atom n,e]) (B+5) (C+1):=by
 intro p hp
 refine DA _ _ _ _ _ ((aU _).mpr trivial) hb.has ?_
 have ed:IntKind.wrap .i64 (d-1)=d-1:=VL.wrap64 _ (by omega) (by omega)
 simp only[zX,bC,↓zq,zs,af,ed]
 refine ai (nO dD (.atom n) e) ?_
 simp only[↓zq,zs,af,zt]
 have hu:=Ov hn he hl
 refine⟨fun h=>(by cases h),fun _=>⟨fun h=>(by cases h),fun _=>⟨fun _=>?_,fun h=>absurd rfl h⟩⟩⟩
 refine aO hu ⟨_,_,rfl,.atom [117],true,rfl,.atom (by simp),by simp[E.cX]⟩ ?_
 rintro r o ⟨rfl,g,c,rfl,g1,g2⟩
 have u:eX b p (C+1) (jY (B+5)) (.agg [.v (.string (mk [117])),.v (.slice none 0 0)]) [.cells [b,.v (.int .i64 (p:Int))]]:=⟨p,aq _,by omega,jY.u _ (by omega),rfl⟩
 simp only[↓zq,zs,af,zt,aK]
 refine⟨fun _=>u,fun _=>⟨fun _=>u,fun hd2=>?_⟩⟩
 refine aO (ih (by omega) g g1 g2 p (by omega)) (oc b p C B hB) ?_
 rintro r o ⟨q,h1,h2,⟨f,rfl,h4,h5⟩,rfl⟩
 simp only[↓zq,zs,af,zt,aM,hb.has,aK]
 repeat refine⟨by omega,?_⟩
 refine ai (wJ [102] f) ?_
 simp only[↓zq,zs,af,zt,aM,hb.has,aK]
 have fin:=IL (b:=b) (w:=[102]) rfl (aq p) (by omega) h1 h2 h4 h5
 first|exact fin|exact⟨by omega,fin⟩
theorem I8(b:AV)(l:List UInt8)(hb:sb b l)(d:Int)(hd:-100000<=d/\d<=100000){x y:E}(hx:Wf x)(hy:Wf y)(B1 C1 B2 C2:Nat)(ix:jU b (d-1) x B1 C1)(iy:jU b (d-1) y B2 C2)(hB:1<=B1)(hB2:1<=B2):jU b d (.list [.atom [42],x,y]) (B1+B2+5) (C1+C2+1):=by
 intro p hp
 refine DA _ _ _ _ _ ((aU _).mpr trivial) hb.has ?_
 have ed:IntKind.wrap .i64 (d-1)=d-1:=VL.wrap64 _ (by omega) (by omega)
 have hP:=P3.of (.atom [42]) x y
 simp only[zX,bC,toNat_one,a7,↓zq,zs,af,zt,hP.1,hP.2.1,hP.2.2.1,hP.2.2.2,aK,ed]
 refine ai (nO [42] x y) ?_
 simp only[↓zq,zs,af,zt]
 refine⟨fun h=>(by cases h),fun _=>⟨fun _=>?_,fun h=>absurd rfl h⟩⟩
 refine⟨by omega,by omega,aO (ix p (by omega)) (oc b p C1 B1 hB) ?_⟩
 rintro r o ⟨q,h1,h2,⟨f,rfl,h4,h5⟩,rfl⟩
 simp only[↓zq,zs,af,zt,aM,hb.has,aK]
 repeat refine⟨by omega,?_⟩
 refine aO (iy q (by omega)) (oc b q C2 B2 hB2) ?_
 rintro r o ⟨q',g1,g2,⟨g,rfl,g4,g5⟩,rfl⟩
 simp only[↓zq,zs,af,zt,aM,hb.has,aK]
 repeat refine⟨by omega,?_⟩
 refine ai (wL [112] f g) ?_
 simp only[↓zq,zs,af,zt,aM,hb.has,aK]
 have fin:eX b p (C1+C2+1) (jY (B1+B2+5)) (.agg [.v (.string (mk [])),(E.list [.atom [112],f,g]).sp]) [.cells [b,.v (.int .i64 (q':Int))]]:=⟨q',by omega,by omega,⟨.list [.atom [112],f,g],rfl,⟨by simp[E.ok],h4,g4,trivial⟩,by rw[Qo [112] f g rfl];omega⟩,rfl⟩
 first|exact fin|exact⟨by omega,fin⟩
theorem Iv(b:AV)(l:List UInt8)(hb:sb b l)(d:Int)(hd:-100000<=d/\d<=100000){x y:E}(hx:Wf x)(hy:Wf y)(hl:(E.list [.atom [43],x,y]).cX<=400)(B C:Nat)(ix:jU b (d-1) x B C)(iy:jU b (d-1) y B C)(hB:1<=B):jU b d (.list [.atom [43],x,y]) (B+5) (C+1):=by
 intro p hp
 refine DA _ _ _ _ _ ((aU _).mpr trivial) hb.has ?_
 have ed:IntKind.wrap .i64 (d-1)=d-1:=VL.wrap64 _ (by omega) (by omega)
 have hP:=P3.of (.atom [43]) x y
 simp only[E.cX,E.eW]at hl
 have s1:=hx.sz
 have s2:=hy.sz
 simp only[zX,bC,toNat_one,a7,↓zq,zs,af,zt,hP.1,hP.2.1,hP.2.2.1,hP.2.2.2,aK,ed]
 refine ai (nO [43] x y) ?_
 simp only[↓zq,zs,af,zt]
 refine⟨fun _=>?_,fun h=>absurd rfl h⟩
 refine aO (vN b l hb p 2 (by omega) (by decide)) (eX.ne ⟨0,rfl,fun h=>by omega,by omega⟩) ?_
 rintro r o ⟨q,h1,h2,⟨k,rfl,_,_⟩,rfl⟩
 simp only[↓zq,zs,af,zt,aM,hb.has,aK]
 have ex:=IT hx [] (.sl []) (.of []) (by simp;omega)
 have ey:=IT hy [] (.sl []) (.of []) (by simp;omega)
 have ax:=CH x hx.ok (by omega)
 have ay:=CH y hy.ok (by omega)
 rw[dh]at ax ay
 have lx:=ix q (by omega)
 have ly:=iy q (by omega)
 have t:=oc b q C B hB
 have leaf:∀(w:Nm) (q':Nat) (f:E),w.length=1->q<=q'->q'<=q+C->f.ok->(eY f).length<=B->eX b p (C+1) (jY (B+5)) (.agg [.v (.string (mk [])),(E.list [.atom w,f]).sp]) [.cells [b,.v (.int .i64 (q':Int))]]:=fun w q' f hw g1 g2 h4 h5=>IL hw h1 h2 g1 g2 h4 h5
 repeat' first
  |intro _
  |refine⟨by omega,?_⟩
  |(
   with_reducible refine aO lx t ?_
   rintro r o ⟨q',g1,g2,⟨f,rfl,h4,h5⟩,rfl⟩
   simp only[↓zq,zs,af,zt,aM,hb.has,aK]
   repeat refine⟨by omega,?_⟩
   refine ai (wJ _ f) ?_
   simp only[↓zq,zs,af,zt,aM,hb.has,aK]
   have fin:=leaf [108] q' f rfl g1 g2 h4 h5
   first|exact fin|exact⟨by omega,fin⟩)
  |(
   with_reducible refine aO ly t ?_
   rintro r o ⟨q',g1,g2,⟨f,rfl,h4,h5⟩,rfl⟩
   simp only[↓zq,zs,af,zt,aM,hb.has,aK]
   repeat refine⟨by omega,?_⟩
   refine ai (wJ _ f) ?_
   simp only[↓zq,zs,af,zt,aM,hb.has,aK]
   have fin:=leaf [114] q' f rfl g1 g2 h4 h5
   first|exact fin|exact⟨by omega,fin⟩)
  |(with_reducible refine jZ.call ex fun _=>?_;simp only[↓zq,zs,af,zt,aK])
  |(with_reducible refine jZ.call ey fun _=>?_;simp only[↓zq,zs,af,zt,aK])
  |(with_reducible refine ai ax ?_;simp only[↓zq,zs,af,zt,aK])
  |(with_reducible refine ai ay ?_;simp only[↓zq,zs,af,zt,aK])
  |with_reducible refine aH ?_ ?_
  |(exfalso;omega)
end Go.Proofs.Trees
namespace Go.Proofs.Trees
open Go Go.VL Go.RowKit
def nf:Nat->Nat
 |0=>2
 |d+1=>2*nf d+15
def ni:Nat->Nat
 |0=>3
 |d+1=>2*ni d+8
theorem Pf(d:Nat):2<=nf d:=by cases d<;>simp only[nf]<;>omega
theorem ND(d:Nat):3<=ni d:=by cases d<;>simp only[ni]<;>omega
theorem G4:∀d:Nat,d<=10->nf d<=100000000
 |0,_=>by decide
 |1,_=>by decide
 |2,_=>by decide
 |3,_=>by decide
 |4,_=>by decide
 |5,_=>by decide
 |6,_=>by decide
 |7,_=>by decide
 |8,_=>by decide
 |9,_=>by decide
 |10,_=>by decide
 |d+11,h=>by omega
theorem Bn(b:AV)(l:List UInt8)(hb:sb b l)(p:Nat)(hp:p<2*p9):ap Tryz.prog 119 [.ref 0 0] [.cells [b,.v (.int .i64 (p:Int))]] (eX b p 1 (gu 60)):=by
 refine Pt _ _ hb.has ?_
 unfold L9
 refine aO (B6 b l hb p hp _ _ (.of [_,_,_,_,_,_,_]) (by simp) (by simp)) (eX.ne ⟨_,aj,rfl⟩) ?_
 rintro r o ⟨q,h1,h2,hr,rfl⟩
 obtain⟨s,rfl,hs⟩:=kR.dq (n:=60) (by decide) hr
 simp only[↓zq,zs,af,aM,hb.has]
 exact⟨q,h1,h2,⟨s,rfl,hs⟩,rfl⟩
theorem FH(b:AV)(l:List UInt8)(hb:sb b l):∀(d:Nat),d<=10->∀(p:Nat) (ls:List (List UInt8)) (a:AV),dV a ls->(∀s,s∈ls->s.length<=2)->ls.length+d<=100->p+ni d<2*p9 ->
 ap Tryz.prog 127 [.ref 0 0,a,.v (.int .i64 (d:Int))] [.cells [b,.v (.int .i64 (p:Int))]] (eX b p (ni d) (gu (nf d))):=by
 intro d
 induction d with
 |
  zero =>
  intro hd p ls a ha hls hll hp
  simp only[ni]at hp
  refine KG _ _ _ _ ha.1 hb.has ?_
  simp only[Ew,↓zq,zs,af,ha.len]
  refine⟨fun _=>⟨ha.1,fun hpos=>?_,fun _=>?_⟩,fun h=>by omega⟩
  ·refine aO (vN b l hb p 3 (by omega) (by decide)) (eX.ne ⟨0,rfl,fun h=>by omega,by omega⟩) ?_
   rintro r o ⟨q1,h1,h2,⟨k,rfl,h3,h4⟩,rfl⟩
   simp only[↓zq,zs,af,aM,hb.has]
   refine⟨fun _=>⟨ha.1,?_⟩,fun _=>?_⟩
   ·refine aO (vN b l hb q1 ls.length (by omega) (by simp[p9];omega)) (eX.ne ⟨0,rfl,fun h=>by omega,by omega⟩) ?_
    rintro r o ⟨q2,g1,g2,⟨k2,rfl,g3,g4⟩,rfl⟩
    have hk:=g3 (by omega)
    simp only[↓zq,zs,af,aM,hb.has,cb,ha.idx hk]
    have:eX b p (ni 0) (gu (nf 0)) (.v (.string (mk (ls.getD k2 [])))) [.cells [b,.v (.int .i64 (q2:Int))]]:=⟨q2,by omega,by simp only[ni];omega,⟨_,rfl,by
     have:=hls (ls.getD k2 []) (by simp[aa,hk]);simp only[nf];omega⟩,rfl⟩
    refine⟨⟨ha.1,by omega⟩,?_⟩
    repeat (first|exact this|refine⟨by omega,?_⟩)
   ·refine aO (B6 b l hb q1 (by omega) _ _ (.of [_,_,_,_,_,_]) (by simp) (by simp)) (eX.ne ⟨_,aj,rfl⟩) ?_
    rintro r o ⟨q2,g1,g2,hr,rfl⟩
    obtain⟨s,rfl,hs⟩:=kR.dq (n:=2) (by decide) hr
    simp only[↓zq,zs,af,aM,hb.has]
    exact⟨q2,by omega,by simp only[ni];omega,⟨s,rfl,by simp only[nf];omega⟩,rfl⟩
  ·refine aO (B6 b l hb p (by omega) _ _ (.of [_,_,_,_,_,_]) (by simp) (by simp)) (eX.ne ⟨_,aj,rfl⟩) ?_
   rintro r o ⟨q2,g1,g2,hr,rfl⟩
   obtain⟨s,rfl,hs⟩:=kR.dq (n:=2) (by decide) hr
   simp only[↓zq,zs,af,aM,hb.has]
   exact⟨q2,by omega,by simp only[ni];omega,⟨s,rfl,by simp only[nf];omega⟩,rfl⟩
 |
  succ d ih =>
  intro hd p ls a ha hls hll hp
  simp only[ni]at hp
  have hL:=Pf d
  have hC:=ND d
  have ih:=ih (by omega)
  have hL8:=G4 d (by omega)
  have ed:IntKind.wrap .i64 (((d+1:Nat):Int)-1)=(d:Int):=by rw[VL.wrap64]<;>omega
  refine KG _ _ _ _ ha.1 hb.has ?_
  simp only[Ew,↓zq,zs,af,ha.len,ed]
  refine⟨fun h=>by omega,fun _=>?_⟩
  refine aO (vN b l hb p 4 (by omega) (by decide)) (eX.ne ⟨0,rfl,fun h=>by omega,by omega⟩) ?_
  rintro r o ⟨q0,a1,a2,⟨k0,rfl,_,_⟩,rfl⟩
  simp only[↓zq,zs,af,aM,hb.has]
  refine⟨fun _=>⟨ha.1,fun hpos=>?_,fun _=>?_⟩,fun _=>?_⟩
  ·refine aO (vN b l hb q0 3 (by omega) (by decide)) (eX.ne ⟨0,rfl,fun h=>by omega,by omega⟩) ?_
   rintro r o ⟨q1,h1,h2,⟨k,rfl,h3,h4⟩,rfl⟩
   simp only[↓zq,zs,af,aM,hb.has]
   refine⟨fun _=>⟨ha.1,?_⟩,fun _=>?_⟩
   ·refine aO (vN b l hb q1 ls.length (by omega) (by simp[p9];omega)) (eX.ne ⟨0,rfl,fun h=>by omega,by omega⟩) ?_
    rintro r o ⟨q2,g1,g2,⟨k2,rfl,g3,g4⟩,rfl⟩
    have hk:=g3 (by omega)
    simp only[↓zq,zs,af,aM,hb.has,cb,ha.idx hk]
    have:eX b p (ni (d+1)) (gu (nf (d+1))) (.v (.string (mk (ls.getD k2 [])))) [.cells [b,.v (.int .i64 (q2:Int))]]:=⟨q2,by omega,by simp only[ni];omega,⟨_,rfl,by
     have:=hls (ls.getD k2 []) (by simp[aa,hk]);simp only[nf];omega⟩,rfl⟩
    refine⟨⟨ha.1,by omega⟩,?_⟩
    repeat (first|exact this|refine⟨by omega,?_⟩)
   ·refine aO (B6 b l hb q1 (by omega) _ _ (.of [_,_,_,_,_,_]) (by simp) (by simp)) (eX.ne ⟨_,aj,rfl⟩) ?_
    rintro r o ⟨q2,g1,g2,hr,rfl⟩
    obtain⟨s,rfl,hs⟩:=kR.dq (n:=2) (by decide) hr
    simp only[↓zq,zs,af,aM,hb.has]
    exact⟨q2,by omega,by simp only[ni];omega,⟨s,rfl,by simp only[nf];omega⟩,rfl⟩
  ·refine aO (B6 b l hb q0 (by omega) _ _ (.of [_,_,_,_,_,_]) (by simp) (by simp)) (eX.ne ⟨_,aj,rfl⟩) ?_
   rintro r o ⟨q2,g1,g2,hr,rfl⟩
   obtain⟨s,rfl,hs⟩:=kR.dq (n:=2) (by decide) hr
   simp only[↓zq,zs,af,aM,hb.has]
   exact⟨q2,by omega,by simp only[ni];omega,⟨s,rfl,by simp only[nf];omega⟩,rfl⟩
  ·refine aO (vN b l hb q0 5 (by omega) (by decide)) (eX.ne ⟨0,rfl,fun h=>by omega,by omega⟩) ?_
   rintro r o ⟨q1,b1,b2,⟨k1,rfl,c3,_⟩,rfl⟩
   have hk1:=c3 (by omega)
   obtain rfl|rfl|rfl|rfl|rfl:k1=0\/k1=1\/k1=2\/k1=3\/k1=4:=by omega
   ·simp only[↓zq,zs,af,aM,hb.has]
    refine⟨fun _=>?_,fun h=>absurd rfl h⟩
    refine aO (ih q1 ls a ha hls (by omega) (by omega)) (eX.ne ⟨[],rfl,by simp⟩) ?_
    rintro r o ⟨q2,d1,d2,⟨s1,rfl,d3⟩,rfl⟩
    simp only[↓zq,zs,af,zt,aM,hb.has,an]
    repeat refine⟨by first|omega|(simp only[an,aw,aG];omega),?_⟩
    refine aO (ih q2 ls a ha hls (by omega) (by omega)) (eX.ne ⟨[],rfl,by simp⟩) ?_
    rintro r o ⟨q3,e1,e2,⟨s2,rfl,e3⟩,rfl⟩
    simp only[↓zq,zs,af,zt,aM,hb.has,an]
    have fin:∀s:List UInt8,s.length<=nf (d+1)->eX b p (ni (d+1)) (gu (nf (d+1))) (.v (.string (mk s))) [.cells [b,.v (.int .i64 (q3:Int))]]:=fun s hs=>⟨q3,by omega,by simp only[ni];omega,⟨s,rfl,hs⟩,rfl⟩
    repeat (first|exact fin _ (by simp only[an,aw,aG,nf];omega)|refine⟨by first|omega|(simp only[an,aw,aG];omega),?_⟩)
   ·simp only[↓zq,zs,af,aM,hb.has]
    refine⟨fun h=>by omega,fun _=>⟨fun _=>?_,fun h=>absurd rfl h⟩⟩
    refine aO (ih q1 ls a ha hls (by omega) (by omega)) (eX.ne ⟨[],rfl,by simp⟩) ?_
    rintro r o ⟨q2,d1,d2,⟨s1,rfl,d3⟩,rfl⟩
    simp only[↓zq,zs,af,zt,aM,hb.has,an]
    repeat refine⟨by first|omega|(simp only[an,aw,aG];omega),?_⟩
    refine aO (ih q2 ls a ha hls (by omega) (by omega)) (eX.ne ⟨[],rfl,by simp⟩) ?_
    rintro r o ⟨q3,e1,e2,⟨s2,rfl,e3⟩,rfl⟩
    simp only[↓zq,zs,af,zt,aM,hb.has,an]
    have fin:∀s:List UInt8,s.length<=nf (d+1)->eX b p (ni (d+1)) (gu (nf (d+1))) (.v (.string (mk s))) [.cells [b,.v (.int .i64 (q3:Int))]]:=fun s hs=>⟨q3,by omega,by simp only[ni];omega,⟨s,rfl,hs⟩,rfl⟩
    repeat (first|exact fin _ (by simp only[an,aw,aG,nf];omega)|refine⟨by first|omega|(simp only[an,aw,aG];omega),?_⟩)
   ·simp only[↓zq,zs,af,aM,hb.has]
    refine⟨fun h=>by omega,fun _=>⟨fun h=>by omega,fun _=>⟨fun _=>?_,fun h=>absurd rfl h⟩⟩⟩
    refine aO (ih q1 ls a ha hls (by omega) (by omega)) (eX.ne ⟨[],rfl,by simp⟩) ?_
    rintro r o ⟨q2,d1,d2,⟨s1,rfl,d3⟩,rfl⟩
    simp only[↓zq,zs,af,zt,aM,hb.has,an]
    repeat refine⟨by first|omega|(simp only[an,aw,aG];omega),?_⟩
    refine aO (ih q2 ls a ha hls (by omega) (by omega)) (eX.ne ⟨[],rfl,by simp⟩) ?_
    rintro r o ⟨q3,e1,e2,⟨s2,rfl,e3⟩,rfl⟩
    simp only[↓zq,zs,af,zt,aM,hb.has,an]
    have fin:∀s:List UInt8,s.length<=nf (d+1)->eX b p (ni (d+1)) (gu (nf (d+1))) (.v (.string (mk s))) [.cells [b,.v (.int .i64 (q3:Int))]]:=fun s hs=>⟨q3,by omega,by simp only[ni];omega,⟨s,rfl,hs⟩,rfl⟩
    repeat (first|exact fin _ (by simp only[an,aw,aG,nf];omega)|refine⟨by first|omega|(simp only[an,aw,aG];omega),?_⟩)
   ·simp only[↓zq,zs,af,aM,hb.has]
    refine⟨fun h=>by omega,fun _=>⟨fun h=>by omega,fun _=>⟨fun h=>by omega,fun _=>⟨fun _=>?_,fun h=>absurd rfl h⟩⟩⟩⟩
    refine aO (ih q1 ls a ha hls (by omega) (by omega)) (eX.ne ⟨[],rfl,by simp⟩) ?_
    rintro r o ⟨q2,d1,d2,⟨s1,rfl,d3⟩,rfl⟩
    simp only[↓zq,zs,af,zt,aM,hb.has,an]
    repeat refine⟨by first|omega|(simp only[an,aw,aG];omega),?_⟩
    refine aO (ih q2 ls a ha hls (by omega) (by omega)) (eX.ne ⟨[],rfl,by simp⟩) ?_
    rintro r o ⟨q3,e1,e2,⟨s2,rfl,e3⟩,rfl⟩
    simp only[↓zq,zs,af,zt,aM,hb.has,an]
    have fin:∀s:List UInt8,s.length<=nf (d+1)->eX b p (ni (d+1)) (gu (nf (d+1))) (.v (.string (mk s))) [.cells [b,.v (.int .i64 (q3:Int))]]:=fun s hs=>⟨q3,by omega,by simp only[ni];omega,⟨s,rfl,hs⟩,rfl⟩
    repeat (first|exact fin _ (by simp only[an,aw,aG,nf];omega)|refine⟨by first|omega|(simp only[an,aw,aG];omega),?_⟩)
   ·simp only[↓zq,zs,af,aM,hb.has]
    refine⟨fun h=>by omega,fun _=>⟨fun h=>by omega,fun _=>⟨fun h=>by omega,fun _=>⟨fun h=>by omega,fun _=>?_⟩⟩⟩⟩
    refine aO (B6 b l hb q1 (by omega) _ _ (.of [_,_,_]) (by simp) (by simp)) (eX.ne ⟨_,aj,rfl⟩) ?_
    rintro r o ⟨q2,g1,g2,hr,rfl⟩
    obtain⟨s,rfl,hs⟩:=kR.dq (n:=2) (by decide) hr
    simp only[↓zq,zs,af,zt,aM,hb.has]
    repeat refine⟨by first|omega|(simp only[an,aw,aG];omega),?_⟩
    refine ai (yG ls a ha s (by omega)) ?_
    simp only[↓zq,zs,af]
    refine aO (ih q2 (ls++[s]) _ (.of _) (fun w hw=>by
     rcases aL.1 hw with hw|hw
     ·exact hls w hw
     ·simp at hw;rw[hw];exact hs) (by simp;omega) (by omega)) (eX.ne ⟨[],rfl,by simp⟩) ?_
    rintro r o ⟨q3,e1,e2,⟨s2,rfl,e3⟩,rfl⟩
    simp only[↓zq,zs,af,zt,aM,hb.has,an]
    have fin:∀s:List UInt8,s.length<=nf (d+1)->eX b p (ni (d+1)) (gu (nf (d+1))) (.v (.string (mk s))) [.cells [b,.v (.int .i64 (q3:Int))]]:=fun s hs=>⟨q3,by omega,by simp only[ni];omega,⟨s,rfl,hs⟩,rfl⟩
    repeat (first|exact fin _ (by simp only[an,aw,aG,nf];omega)|refine⟨by first|omega|(simp only[an,aw,aG];omega),?_⟩)
end Go.Proofs.Trees
namespace Go.Proofs.Trees
open Go Go.VL Go.RowKit
theorem eX.mono{b:AV}{p c c':Nat}{X Y:AV->Prop}(hc:c<=c')(h:∀r,X r->Y r){r:AV}{o:List Ob}(hr:eX b p c X r o):eX b p c' Y r o:=by
 obtain⟨q,h1,h2,h3,h4⟩:=hr;exact⟨q,h1,by omega,h r h3,h4⟩
theorem gu.le{n m:Nat}(h:n<=m){r:AV}(hr:gu n r):gu m r:=by obtain⟨s,h1,h2⟩:=hr;exact⟨s,h1,by omega⟩
theorem Pe(b:AV)(l:List UInt8)(hb:sb b l)(p:Nat)(hp:p<p9):ap Tryz.prog 76 [.ref 0 0] [.cells [b,.v (.int .i64 (p:Int))]] (eX b p 100 (gu 200)):=by
 refine Oz _ _ hb.has ?_
 unfold La
 have hfar:p9=1000000000000000:=rfl
 refine aO (vN b l hb p 12 (by omega) (by decide)) (eX.ne ⟨0,rfl,fun h=>by omega,by omega⟩) ?_
 rintro r o ⟨q,h1,h2,⟨k,rfl,_,_⟩,rfl⟩
 have kn:∀(c m:Nat) (r:AV) (o:List Ob),c<=90->m<=200->eX b q c (gu m) r o->∃q':Nat,∃s:List UInt8,r=.v (.string (mk s))/\o=[.cells [b,.v (.int .i64 (q':Int))]]/\eX b p 100 (gu 200) (.v (.string (mk s))) [.cells [b,.v (.int .i64 (q':Int))]]:=by
  rintro c m r o hc hm ⟨q',g1,g2,⟨s,rfl,hs⟩,rfl⟩
  exact⟨q',s,rfl,rfl,q',by omega,by omega,⟨s,rfl,by omega⟩,rfl⟩
 simp only[↓zq,zs,af,aM,hb.has]
 refine⟨fun _=>?_,fun _=>⟨fun _=>?_,fun _=>⟨fun _=>?_,fun _=>⟨fun _=>?_,fun _=>⟨fun _=>?_,fun _=>?_⟩⟩⟩⟩⟩
 ·refine aO (B6 b l hb q (by omega) _ _ (.of [_,_,_,_,_,_,_,_,_]) (by simp) (by simp)) (eX.ne ⟨_,aj,rfl⟩) ?_
  intro r o hr
  obtain⟨q',s,rfl,rfl,hd⟩:=kn 1 20 r o (by omega) (by omega) (hr.mono (aq _) fun r h=>kR.dq (n:=20) (by decide) h)
  simp only[↓zq,zs,af,aM,hb.has];exact hd
 ·refine aO (Bn b l hb q (by omega)) (eX.ne ⟨[],rfl,by simp⟩) ?_
  intro r o hr
  obtain⟨q',s,rfl,rfl,hd⟩:=kn _ _ r o (by omega) (by omega) hr
  simp only[↓zq,zs,af,aM,hb.has];exact hd
 ·refine aO (Bn b l hb q (by omega)) (eX.ne ⟨[],rfl,by simp⟩) ?_
  intro r o hr
  obtain⟨q',s,rfl,rfl,hd⟩:=kn _ _ r o (by omega) (by omega) hr
  simp only[↓zq,zs,af,aM,hb.has];exact hd
 ·refine aO (Bn b l hb q (by omega)) (eX.ne ⟨[],rfl,by simp⟩) ?_
  intro r o hr
  obtain⟨q',s,rfl,rfl,hd⟩:=kn _ _ r o (by omega) (by omega) hr
  simp only[↓zq,zs,af,aM,hb.has];exact hd
 ·refine aO (FH b l hb 2 (by omega) q [[116],[116,49]] _ (dV.of [[116],[116,49]]) (by decide) (by simp) (by simp[ni];omega)) (eX.ne ⟨[],rfl,by simp⟩) ?_
  intro r o hr
  obtain⟨q',s,rfl,rfl,hd⟩:=kn _ _ r o (by simp[ni]) (by simp[nf]) hr
  simp only[↓zq,zs,af,aM,hb.has];exact hd
 ·refine aO (FH b l hb 3 (by omega) q [] _ (dV.of []) (by simp) (by simp) (by simp[ni];omega)) (eX.ne ⟨[],rfl,by simp⟩) ?_
  intro r o hr
  obtain⟨q',s,rfl,rfl,hd⟩:=kn _ _ r o (by simp[ni]) (by simp[nf]) hr
  simp only[↓zq,zs,af,aM,hb.has];exact hd
def xU(a:AV):Prop:=LK.sl.has a/\∃l:List UInt8,a.aR=pW l
def Mx(r:AV)(o:List Ob):Prop:=∃(b:AV) (l:List UInt8),sb b l/\r=.ref 0 0/\o=[.cells [b,.v (.int .i64 0)]]
theorem Mx.ne:∃r o,Mx r o:=⟨_,_,.v (.slice none 0 0),[],⟨(bu).mpr trivial,rfl,by simp⟩,rfl,rfl⟩
theorem OX(a:AV)(ha:xU a):ap Tryz.prog 30 [a] [] Mx:=by
 obtain⟨hs,l,hl⟩:=ha
 have hln:a.aR.length=l.length:=by rw[hl];simp[pW]
 refine OA _ hs ?_
 simp only[Kd,↓zq,zs,af,hln]
 refine⟨hs,fun h=>⟨⟨hs,by omega⟩,?_⟩,fun h=>?_⟩
 ·refine⟨_,l.take 2000,⟨(cd _).mpr trivial,?_,?_⟩,rfl,rfl⟩
  ·rw[fD,hl];simp[pW]
  ·simp;omega
 ·exact⟨a,l,⟨hs,hl,by omega⟩,rfl,rfl⟩
end Go.Proofs.Trees
namespace Go.Proofs.Trees
open Go Go.VL Go.RowKit
theorem AS(b:AV)(l:List UInt8)(hb:sb b l){e:E}(h:Wf e):∀d:Int,d<=-13->-50000+(e.sz:Int)<=d->e.cX<=400->jU b d e (5*e.sz) e.sz:=by
 induction h with
 |
  @atom s hs =>
  intro d h1 h2 h3
  exact(JQ b l hb d hs).mono (by simp[E.sz]) (by simp[E.sz])
 |
  @plus x y hx hy i1 i2 =>
  intro d h1 h2 h3
  have h4:=h3
  simp only[E.sz,E.jt,E.cX,E.eW]at h2 h4 |-
  exact(Iv b l hb d (by omega) hx hy h3 (5*(x.sz+y.sz)+1) (x.sz+y.sz) ((i1 (d-1) (by omega) (by omega) (by omega)).mono (by omega) (by omega)) ((i2 (d-1) (by omega) (by omega) (by omega)).mono (by omega) (by omega)) (by omega)).mono (by omega) (by omega)
 |
  @times x y hx hy i1 i2 =>
  intro d h1 h2 h3
  have h4:=h3
  simp only[E.sz,E.jt,E.cX,E.eW]at h2 h4 |-
  exact(I8 b l hb d (by omega) hx hy (5*x.sz+1) x.sz (5*y.sz+1) y.sz ((i1 (d-1) (by omega) (by omega) (by omega)).mono (by omega) (by omega)) ((i2 (d-1) (by omega) (by omega) (by omega)).mono (by omega) (by omega)) (by omega) (by omega)).mono (by omega) (by omega)
 |
  @rc n x hn hx i =>
  intro d h1 h2 h3
  simp only[E.sz,E.jt]at h2 |-
  exact(Ll b l hb d (by omega) hn hx h3 1 0 (fun h=>absurd h (by omega)) (by omega)).mono (by omega) (by omega)
def oY:Nat->Nat
 |0=>6100
 |n+1=>2*oY n+5
theorem EF:∀n,6100<=oY n
 |0=>aq _
 |n+1=>by have:=EF n;simp only[oY];omega
theorem wI:∀n k:Nat,oY (n+k)+5=2 ^ k*(oY n+5)
 |n,0=>by simp
 |
  n,k+1=>by
  have:=wI n k
  rw[show n+(k+1)=n+k+1 from rfl,oY,Nat.pow_succ,Nat.mul_comm (2 ^ k) 2,Nat.mul_assoc,<-this];omega
theorem AA{n m:Nat}(h:n<=m):oY n<=oY m:=by
 obtain⟨k,rfl⟩:=Nat.exists_eq_add_of_le h
 have:=wI n k
 have h2:1*(oY n+5)<=2 ^ k*(oY n+5):=aX _ Nat.one_le_two_pow
 omega
theorem HO:oY 22<=30000000000:=by
 have:=wI 0 22
 simp only[aV]at this
 have h0:oY 0=6100:=rfl
 rw[h0]at this
 omega
theorem xX(b:AV)(l:List UInt8)(hb:sb b l):∀n:Nat,n<=40->∀e,Wf e->e.cX<=400->jU b ((n:Int)-13) e (oY n) (oY n)
 |
  0,hn,e,h,hl=>by
  have:=h.sz
  exact(AS b l hb h _ (by simp) (by simp;omega) hl).mono (by simp only[oY];omega) (by simp only[oY];omega)
 |
  n+1,hn,e,h,hl=>by
  have hb1:=EF n
  have ih:∀g,Wf g->g.cX<=400->jU b (((n+1:Nat):Int)-13-1) g (oY n) (oY n):=by
   rw[show ((n+1:Nat):Int)-13-1=(n:Int)-13 by omega];exact xX b l hb n (by omega)
  cases h with
  |@atom s hs=>exact(JQ b l hb _ hs).mono (by simp only[oY];omega) (by simp only[oY];omega)
  |
   @plus x y hx hy =>
   have h4:=hl
   simp only[E.cX,E.eW]at h4
   exact(Iv b l hb _ (by omega) hx hy hl _ _ (ih x hx (by omega)) (ih y hy (by omega)) (by omega)).mono (by simp only[oY];omega) (by simp only[oY];omega)
  |
   @times x y hx hy =>
   simp only[E.cX,E.eW]at hl
   exact(I8 b l hb _ (by omega) hx hy _ _ _ _ (ih x hx (by omega)) (ih y hy (by omega)) (by omega) (by omega)).mono (by simp only[oY];omega) (by simp only[oY];omega)
  |@rc m x hm hx=>exact(Ll b l hb _ (by omega) hm hx hl _ _ (fun _=>ih) (by omega)).mono (by simp only[oY];omega) (by simp only[oY];omega)
theorem FZ(b:AV)(l:List UInt8)(hb:sb b l)(p:Nat)(hp:p<100000000000000)(s:Nm):ap Tryz.prog 33 [.ref 0 0,.v (.string (mk s))] [.cells [b,.v (.int .i64 (p:Int))]] (eX b p 40000000000 (gu 40000000000)):=by
 refine PA _ _ _ hb.has ?_
 have hfar:p9=1000000000000000:=rfl
 have oneL:∀(q:Nat) (r:AV) (o:List Ob),p<=q->q<=p+1->eX b q 1 (kR [[],[117],[101,48],[101,48,48],[101,49,48,48],[40,108,32,117,41],[40,112,32,117,41],[40,102,32,40,108,32,117,41,41],[40,120,32,117,41],[40,108,32,32,117,41]]) r o->∃q':Nat,∃t:List UInt8,r=.v (.string (mk t))/\o=[.cells [b,.v (.int .i64 (q':Int))]]/\eX b p 40000000000 (gu 40000000000) (.v (.string (mk t))) [.cells [b,.v (.int .i64 (q':Int))]]:=by
  rintro q r o h1 h2 ⟨q',g1,g2,hr,rfl⟩
  obtain⟨t,rfl,ht⟩:=kR.dq (n:=20) (by decide) hr
  exact⟨q',t,rfl,rfl,q',by omega,by omega,⟨t,rfl,by omega⟩,rfl⟩
 unfold H3
 refine aO (FQ s) (jn.ne _ _ (fun h=>h)) ?_
 rintro r o ⟨c,d,hd,rfl,hh⟩
 have hhas:bz [.str,.sl] [.v (.string (mk c)),d] 0:=by simp[bz,dI,hd]
 simp only[↓zq,zs,af,zt]
 refine⟨hhas,fun h=>?_,fun h=>?_⟩
 ·refine aO (B6 b l hb p (by omega) _ _ (.of [_,_,_,_,_,_,_,_,_,_]) (by simp) (by simp)) (eX.ne ⟨_,aj,rfl⟩) ?_
  intro r o hr
  obtain⟨q',t,rfl,rfl,hd⟩:=oneL p r o (aq _) (by omega) hr
  simp only[↓zq,zs,af,aM,hb.has];exact hd
 ·obtain⟨e,he,hce⟩:=hh (by simpa using h)
  obtain⟨t,h1,hA,h3,h4,h5,_⟩:=gU he
  rw[dh]at hce
  simp only[AV.agg.injEq,List.cons.injEq,AV.v.injEq,Value.string.injEq,and_true]at hce
  obtain⟨hc1,rfl⟩:=hce
  have hc2:=vV hc1
  subst hc2
  obtain⟨hw,hwt⟩:=ki e [] t hA.ok (by simp) hA.ty
  have hats:e.cX<=400:=by rw[hw.cX [],hwt];exact h5
  have hsz:=hw.sz
  refine aO (vN b l hb p 16 (by omega) (by decide)) (eX.ne ⟨0,rfl,fun h=>by omega,by omega⟩) ?_
  rintro r o ⟨q,h1,h2,⟨k,rfl,_,_⟩,rfl⟩
  simp only[↓zq,zs,af,aM,hb.has]
  refine⟨fun _=>?_,fun _=>?_⟩
  ·refine aO (B6 b l hb q (by omega) _ _ (.of [_,_,_,_,_,_,_,_,_,_]) (by simp) (by simp)) (eX.ne ⟨_,aj,rfl⟩) ?_
   intro r o hr
   obtain⟨q',t,rfl,rfl,hd⟩:=oneL q r o h1 h2 hr
   simp only[↓zq,zs,af,aM,hb.has];exact hd
  ·obtain⟨w1,w2,_⟩:=wW (os:=[]) hw
   have hap:=Dk hw (.v (.slice none 0 0)) [] ⟨(bu).mpr trivial,rfl⟩ (by omega) (by simp) (by simp)
   refine ai hap ?_
   simp only[↓zq,zs,af,zt,aK]
   repeat refine⟨by omega,?_⟩
   have hats2:(yF e []).cX<=400:=by rw[w1.cX [],w2,<-hw.cX []];exact hats
   refine aO (vN b l hb q 5 (by omega) (by decide)) (eX.ne ⟨0,rfl,fun h=>by omega,by omega⟩) ?_
   rintro r o ⟨q1,g1,g2,⟨k1,rfl,c3,_⟩,rfl⟩
   have hk1:=c3 (by omega)
   simp only[↓zq,zs,af,zt,aM,hb.has,aK]
   have ed:IntKind.wrap .i64 (5+(k1:Int))=((18+k1:Nat):Int)-13:=by rw[VL.wrap64 _ (by omega) (by omega)];omega
   have hB:=HO
   have hB2:oY (18+k1)<=oY 22:=AA (by omega)
   have hB3:=EF (18+k1)
   rw[ed]
   refine aO (xX b l hb (18+k1) (by omega) (yF e []) w1 hats2 q1 (by omega)) (oc b q1 _ _ (by omega)) ?_
   rintro r o ⟨q2,d1,d2,⟨f,rfl,f1,f2⟩,rfl⟩
   simp only[↓zq,zs,af,zt,aM,hb.has,aK]
   repeat refine⟨by omega,?_⟩
   have ht:=Cc (f.sz+1) f (by omega) f1 (by omega)
   rw[dh]at ht
   refine ai ht ?_
   simp only[↓zq,zs,af,zt,aM,hb.has,aK]
   exact⟨q2,by omega,by omega,⟨eY f,rfl,by omega⟩,rfl⟩
theorem OL(b:AV)(l:List UInt8)(hb:sb b l)(p:Nat)(hp:p<100000000000000):ap Tryz.prog 108 [.ref 0 0] [.cells [b,.v (.int .i64 (p:Int))]] (eX b p 200 (gu 200)):=by
 refine Oy _ _ hb.has ?_
 unfold JU
 have hfar:p9=1000000000000000:=rfl
 refine aO (vN b l hb p 8 (by omega) (by decide)) (eX.ne ⟨0,rfl,fun h=>by omega,by omega⟩) ?_
 rintro r o ⟨q,h1,h2,⟨k,rfl,_,_⟩,rfl⟩
 have kn:∀(c m:Nat) (r:AV) (o:List Ob),c<=190->m<=200->eX b q c (gu m) r o->∃q':Nat,∃s:List UInt8,r=.v (.string (mk s))/\o=[.cells [b,.v (.int .i64 (q':Int))]]/\eX b p 200 (gu 200) (.v (.string (mk s))) [.cells [b,.v (.int .i64 (q':Int))]]:=by
  rintro c m r o hc hm ⟨q',g1,g2,⟨s,rfl,hs⟩,rfl⟩
  exact⟨q',s,rfl,rfl,q',by omega,by omega,⟨s,rfl,by omega⟩,rfl⟩
 have sh:=FH b l hb 3 (by omega) q [] _ (dV.of []) (by simp) (by simp) (by simp[ni];omega)
 have ty:=Pe b l hb q (by omega)
 have kw:=Bn b l hb q (by omega)
 simp only[↓zq,zs,af,aM,hb.has]
 refine⟨fun _=>?_,fun _=>⟨fun _=>?_,fun _=>⟨fun _=>?_,fun _=>⟨fun _=>?_,fun _=>?_⟩⟩⟩⟩
 ·refine aO ty (eX.ne ⟨[],rfl,by simp⟩) ?_
  intro r o hr
  obtain⟨q',s,rfl,rfl,hd⟩:=kn _ _ r o (by omega) (by omega) hr
  simp only[↓zq,zs,af,aM,hb.has];exact hd
 ·refine aO sh (eX.ne ⟨[],rfl,by simp⟩) ?_
  intro r o hr
  obtain⟨q',s,rfl,rfl,hd⟩:=kn _ _ r o (by simp[ni]) (by simp[nf]) hr
  simp only[↓zq,zs,af,aM,hb.has];exact hd
 ·refine aO sh (eX.ne ⟨[],rfl,by simp⟩) ?_
  intro r o hr
  obtain⟨q',s,rfl,rfl,hd⟩:=kn _ _ r o (by simp[ni]) (by simp[nf]) hr
  simp only[↓zq,zs,af,aM,hb.has];exact hd
 ·refine aO sh (eX.ne ⟨[],rfl,by simp⟩) ?_
  intro r o hr
  obtain⟨q',s,rfl,rfl,hd⟩:=kn _ _ r o (by simp[ni]) (by simp[nf]) hr
  simp only[↓zq,zs,af,aM,hb.has];exact hd
 ·refine aO kw (eX.ne ⟨[],rfl,by simp⟩) ?_
  intro r o hr
  obtain⟨q',s,rfl,rfl,hd⟩:=kn _ _ r o (by omega) (by omega) hr
  simp only[↓zq,zs,af,aM,hb.has];exact hd
def Ml:AV->Prop:=fun r=>∃s t:Nm,r=.cA [.v (.string (mk s)),.v (.string (mk t))]
theorem N0(b:AV)(l:List UInt8)(hb:sb b l)(p:Nat)(hp:p<10000000000000):ap Tryz.prog 51 [.ref 0 0] [.cells [b,.v (.int .i64 (p:Int))]] (eX b p 50000000000 Ml):=by
 refine MJ _ _ hb.has ?_
 unfold LC
 refine aO (OL b l hb p (by omega)) (eX.ne ⟨[],rfl,by simp⟩) ?_
 rintro r o ⟨q,h1,h2,⟨s,rfl,_⟩,rfl⟩
 simp only[↓zq,zs,af,aM,hb.has]
 refine aO (FZ b l hb q (by omega) s) (eX.ne ⟨[],rfl,by simp⟩) ?_
 rintro r o ⟨q1,g1,g2,⟨t,rfl,_⟩,rfl⟩
 simp only[↓zq,zs,af,aM,hb.has]
 exact⟨q1,by omega,by omega,⟨s,t,rfl⟩,rfl⟩
theorem MP(b:AV)(l:List UInt8)(hb:sb b l)(p:Nat)(hp:p<1000000000000):ap Tryz.prog 62 [.ref 0 0] [.cells [b,.v (.int .i64 (p:Int))]] (eX b p 60000000000 Ml):=by
 refine M8 _ _ hb.has ?_
 unfold Mq
 have hfar:p9=1000000000000000:=rfl
 refine aO (Bn b l hb p (by omega)) (eX.ne ⟨[],rfl,by simp⟩) ?_
 rintro r o ⟨q,h1,h2,⟨s,rfl,_⟩,rfl⟩
 simp only[↓zq,zs,af,aM,hb.has]
 refine aO (vN b l hb q 12 (by omega) (by decide)) (eX.ne ⟨0,rfl,fun h=>by omega,by omega⟩) ?_
 rintro r o ⟨q1,g1,g2,⟨k,rfl,_,_⟩,rfl⟩
 simp only[↓zq,zs,af,aM,hb.has]
 refine⟨fun _=>?_,fun _=>?_⟩
 ·refine aO (N0 b l hb q1 (by omega)) (eX.ne ⟨[],[],rfl⟩) ?_
  rintro r o ⟨q2,e1,e2,⟨x,y,rfl⟩,rfl⟩
  simp only[↓zq,zs,af,zt,aM,hb.has]
  exact⟨q2,by omega,by omega,⟨x,y,rfl⟩,rfl⟩
 ·refine aO (FZ b l hb q1 (by omega) s) (eX.ne ⟨[],rfl,by simp⟩) ?_
  rintro r o ⟨q2,e1,e2,⟨t,rfl,_⟩,rfl⟩
  simp only[↓zq,zs,af,aM,hb.has]
  exact⟨q2,by omega,by omega,⟨s,t,rfl⟩,rfl⟩
end Go.Proofs.Trees
namespace Go.Proofs.Trees
open Go Go.VL Go.RowKit
theorem MB{s:Nm}{a:Ty}{x A B:E}{v:Vl}(z:LV s v.dq v a x A B)(hv2:mG s v.dq 100=some v)(hv:Fo a v):ap Tryz.prog 63 [.v (.string (mk s)),.v (.string (mk v.dq))] [] (bD (.cA [.sl (fN (kids a v)),.v (.bool true)])):=by
 have hP:=P3.of x A B
 have hn:=hv.nd
 obtain⟨v0,hv0,_⟩:=tn .nil z.hx (z.eV)
 have hkids:=PJ 100 v x A B a z.body z.hx v0 hv0 (z.eV) (by omega)
 have hV:=P2.of (.atom [102]) v0.cz
 refine Ki _ _ ?_
 unfold Ey
 refine aO (Dg s) (jn.ne _ _ (fun h=>h)) ?_
 rintro r o ⟨c,e,he,rfl,hh⟩
 rw[z.le]at hh
 obtain⟨e',he',hce⟩:=hh rfl
 cases he'
 rw[dh]at hce
 rw[hce,z.le]
 simp only[↓zq,zs,af,zt,aK,bC]
 repeat refine⟨by omega,?_⟩
 refine aO (zV v.dq) (jn.ne _ _ (fun h=>by simpa using h)) ?_
 rw[qn hv.gz hn]
 rintro r o ⟨c,e,he,rfl,hh⟩
 obtain⟨e',he',hce⟩:=hh rfl
 cases he'
 rw[dh]at hce
 rw[hce]
 simp only[↓zq,zs,af,zt,aK,bH]
 repeat refine⟨by omega,?_⟩
 refine⟨fun h=>by simp at h,fun _=>?_⟩
 refine ai (Gp s v.dq 100) ?_
 rw[hv2,hv0]
 simp only[toNat_one,a7,Vl.cz,bC,↓zq,zs,af,zt,hP.1,hP.2.1,hP.2.2.1,hP.2.2.2,hV.1,hV.2.1,hV.2.2,aK,aU,bH]
 refine⟨fun h=>by simp at h,fun _=>?_⟩
 repeat refine⟨by omega,?_⟩
 refine ai hkids ?_
 simp only[↓zq,zs,af]
 repeat refine⟨by omega,?_⟩
 have hlen:=sg a v
 have:=oy (kids a v)
 refine ai (PQ (kids a v) (by omega) (fun h hh=>(n7 hv hh).1) (fun h hh=>(n7 hv hh).2)) ?_
 rw[<-hv0]
 simp only[↓zq,zs,af]
 exact⟨rfl,rfl⟩
def Lb:AV->List Ob->Prop:=fun r o=>o=[]/\∃(l:List Hl) (b:Bool),l.length<=1000/\r=.cA [.sl (fN l),.v (.bool b)]
theorem Lb.ne:∃r o,Lb r o:=⟨_,_,rfl,[],false,by simp,rfl⟩
theorem M6(s v:Nm):ap Tryz.prog 63 [.v (.string (mk s)),.v (.string (mk v))] [] Lb:=by
 cases q:jP s v with
 |
  some w =>
  obtain⟨x,A,B,hl,hf,rfl,L⟩:=oi q
  have hv2:mG s w.dq 100=some w:=by have:=q;unfold jP at this;rw[hl]at this;exact this
  exact ap.mono (MB L hv2 hf) fun r o ⟨h1,h2⟩=>⟨h2,_,true,pu hf,h1⟩
 |
  none =>
  refine Ki _ _ ?_
  unfold Ey
  refine aO (Dg s) (jn.ne _ _ (fun h=>h)) ?_
  rintro r o ⟨c,e,he,rfl,hh⟩
  have hhas:bz [.str,.sl] [.v (.string (mk c)),e] 0:=by simp[bz,dI,he]
  simp only[↓zq,zs,af,zt]
  refine⟨hhas,?_⟩
  refine aO (zV v) (jn.ne _ _ (fun h=>by simpa using h)) ?_
  rintro r o ⟨c2,e2,he2,rfl,hh2⟩
  have hhas2:bz [.str,.sl] [.v (.string (mk c2)),e2] 0:=by simp[bz,dI,he2]
  have no:Lb (.cA [.sl [],.v (.bool false)]) []:=⟨rfl,[],false,by simp,rfl⟩
  simp only[↓zq,zs,af,zt]
  refine⟨hhas2,fun _=>no,fun h=>?_⟩
  refine ai (Gp s v 100) ?_
  have hn:mG s v 100=none:=by
   rw[uP]at h
   obtain⟨a,ha⟩:=bq.1 h
   unfold jP at q;rw[ha]at q;exact q
  simp only[hn,↓zq,zs,af,zt]
  exact⟨fun _=>no,fun h=>(by cases h)⟩
theorem Hu(s c v:Nm):ap Tryz.prog 23 [.v (.string (mk s)),.v (.string (mk c)),.v (.string (mk v))] [] (bD (lu (rL s c v))):=by
 by_cases hall:∃w d c',jP s v=some w/\cY s=some d/\mG d c 100=some c'
 ·obtain⟨w,d,c',h1,h2,h3⟩:=hall
  obtain⟨_,_,_,hl,hf,rfl,L⟩:=oi h1
  obtain⟨x,A,B,D,z⟩:=ZT.of hl h2
  obtain⟨_,_,_,_,h5,_⟩:=kI h3
  obtain rfl:=lg h5
  have:rL s c'.dq w.dq=yy (zA s) c' w:=by unfold rL;rw[h1,a8,h2,a8,h3,a8]
  rw[this]
  exact Nj z c' w h3 hf
 ·have hm:rL s c v=none:=by
   cases q:rL s c v with
   |none=>rfl
   |
    some o =>
    obtain⟨d,a,x,A,B,D,w,c',z,_,h1,h2,_⟩:=sI q
    exact absurd ⟨w,d,c',h1,z.dl,h2⟩ hall
  rw[hm]
  refine KE _ _ _ ?_
  unfold Fv
  refine aO (Dg s) (jn.ne _ _ (fun h=>h)) ?_
  rintro r o ⟨c0,e,he,rfl,hh⟩
  have hhas:bz [.str,.sl] [.v (.string (mk c0)),e] 0:=by simp[bz,dI,he]
  simp only[↓zq,zs,af,zt]
  refine⟨hhas,?_⟩
  refine ai (L4 s) ?_
  rw[tI]
  simp only[↓zq,zs,af,zt]
  refine⟨fun _=>⟨rfl,rfl⟩,fun h1=>⟨fun _=>⟨rfl,rfl⟩,fun h2=>?_⟩⟩
  obtain⟨d,hd⟩:=bq.1 h2
  rw[hd]
  refine ai (Gp d c 100) ?_
  simp only[↓zq,zs,af,zt]
  refine⟨fun _=>⟨rfl,rfl⟩,fun h3=>?_⟩
  obtain⟨c',hc⟩:=bq.1 h3
  refine ai (Gp s v 100) ?_
  have hn:mG s v 100=none:=by
   rw[uP]at h1
   obtain⟨a,ha⟩:=bq.1 h1
   cases q:mG s v 100 with
   |none=>rfl
   |some w=>exact absurd ⟨w,d,c',by unfold jP;rw[ha];exact q,hd,hc⟩ hall
  simp only[hn,↓zq,zs,af,zt]
  exact⟨fun _=>⟨rfl,rfl⟩,fun h=>(by cases h)⟩
def OU:AV->List Ob->Prop:=fun r o=>o=[]/\∃s c v:Nm,r=.cA [.v (.string (mk s)),.v (.string (mk c)),.v (.string (mk v))]
theorem O5(a:AV)(ha:xU a):ap Tryz.prog 21 [a] [] OU:=by
 refine O9 _ ha.1 ?_
 unfold KW
 have hfar:p9=1000000000000000:=rfl
 refine aO (OX a ha) Mx.ne ?_
 rintro r o ⟨b,l,hb,rfl,rfl⟩
 simp only[↓zq,zs,af,zt,hb.has]
 refine⟨by simp[bz,hb.has,lN],aO (MP b l hb 0 (by omega)) (eX.ne ⟨[],[],rfl⟩) ?_⟩
 rintro r o ⟨q,a1,a2,⟨s,t,rfl⟩,rfl⟩
 simp only[↓zq,zs,af,zt,aM,hb.has]
 refine aO (M6 s t) Lb.ne ?_
 rintro r o ⟨rfl,hl,ok,hll,rfl⟩
 simp only[↓zq,zs,af,zt,aM,hb.has]
 refine aO (FZ b l hb q (by omega) s) (eX.ne ⟨[],rfl,by simp⟩) ?_
 rintro r o ⟨q1,b1,b2,⟨v,rfl,_⟩,rfl⟩
 simp only[↓zq,zs,af,zt,aM,hb.has,gJ]
 refine⟨fun _=>⟨fun hpos=>?_,fun _=>⟨rfl,s,t,v,rfl⟩⟩,fun _=>⟨rfl,s,t,v,rfl⟩⟩
 refine aO (vN b l hb q1 8 (by omega) (by decide)) (eX.ne ⟨0,rfl,fun h=>by omega,by omega⟩) ?_
 rintro r o ⟨q2,c1,c2,⟨k,rfl,_,_⟩,rfl⟩
 simp only[↓zq,zs,af,zt,aM,hb.has,gJ]
 refine⟨fun _=>?_,fun _=>⟨rfl,s,t,v,rfl⟩⟩
 obtain⟨n,hn1,hn2,hn3⟩:∃n:Nat,(if(hl.length:Int)<100 then(hl.length:Int)else 100)=(n:Int)/\1<=n/\n<=hl.length:=by
  split
  ·exact⟨hl.length,rfl,by omega,aq _⟩
  ·exact⟨100,rfl,by omega,by omega⟩
 rw[hn1]
 refine aO (vN b l hb q2 n (by omega) (by omega)) (eX.ne ⟨0,rfl,fun h=>by omega,by omega⟩) ?_
 rintro r o ⟨q3,d1,d2,⟨k2,rfl,hk,_⟩,rfl⟩
 have hk:=hk hn2
 have hg:(fN hl).getD k2 []=[.v (.string (mk (hl[k2]'(by omega)).1.dq)),.v (.string (mk (hl[k2]'(by omega)).2.dq))]:=by simp[fN,aa,show k2<hl.length by omega]
 simp only[↓zq,zs,af,zt,aM,hb.has,gJ,cb,hg]
 refine⟨by omega,by omega,rfl,s,_,v,rfl⟩
end Go.Proofs.Trees
namespace Go.Proofs.Trees
open Go Go.VL Go.RowKit
def wa(c v:Nm)(l:List Hl):Bool:=l.any fun h=>decide (h.1.dq=c)&&decide (h.2.dq=v)
theorem CZ(c v:Nm)(l:List Hl)(hl:l.length<=1000)(p:Bool):∀(k i:Nat) (b:Bool),i+k=l.length->b=wa c v (l.take i) ->
 EB [.v (.string (mk c)),.v (.string (mk v)),.sl (fN l),.v (.bool p),.v (.bool b),.v (.int .i64 (i:Int))] [] (iF 1 [.v (.bool p),.v (.bool (wa c v l))] [])
 |
  0,i,b,hi,hb=>by
  have:i=l.length:=by omega
  subst this
  refine K7 _ _ _ _ _ _ ?_
  simp only[Gm,↓zq,zs,af,gJ]
  rw[List.take_length]at hb
  exact⟨fun h=>by omega,fun _=>⟨rfl,by rw[hb],rfl⟩⟩
 |
  k+1,i,b,hi,hb=>by
  have hlt:i<l.length:=by omega
  have step:wa c v (l.take (i+1))=(b||(decide ((l[i]).1.dq=c)&&decide ((l[i]).2.dq=v))):=by
   rw[hb];unfold wa
   rw[List.take_succ_eq_append_getElem hlt,List.any_append]
   simp only[List.any_cons,List.any_nil,Bool.or_false]
  refine K7 _ _ _ _ _ _ ?_
  simp only[Gm,↓zq,zs,af,zt,gJ,wg hlt,cb]
  rw[bE i (by omega)]
  refine⟨fun _=>⟨fun hbt=>?_,fun hbf=>?_⟩,fun h=>by omega⟩
  ·exact CZ c v l hl p k (i+1) true (by omega) (by rw[step,hbt];rfl)
  ·repeat refine⟨by omega,?_⟩
   refine⟨fun h1=>?_,fun h1=>?_⟩
   ·repeat refine⟨by omega,?_⟩
    refine CZ c v l hl p k (i+1) _ (by omega) ?_
    rw[step,hbf,cn]
    simp[h1]
   ·refine CZ c v l hl p k (i+1) false (by omega) ?_
    rw[step,hbf]
    simp[h1]
theorem MU(a:AV)(ha:xU a):ap Tryz.prog 6 [a] [] (bD (.v (.bool true))):=by
 refine OD _ ha.1 ?_
 simp only[IU,↓zq,zs,af,zt,bD]
 refine⟨ha.1,fun _=>trivial,fun _=>?_⟩
 refine aO (O5 a ha) ⟨_,_,rfl,[],[],[],rfl⟩ ?_
 rintro r o ⟨rfl,s,c,v,rfl⟩
 simp only[↓zq,zs,af,zt]
 refine ai (Nh s c v) ?_
 cases hr:rL s c v with
 |
  none =>
  simp only[lu,↓zq,zs,af,zt]
  refine ai (Hu s c v) ?_
  simp[hr,lu,↓zq,zs,af,zt]
 |
  some x =>
  obtain⟨l,h1,q,h2,h3,h4⟩:=Co hr
  simp only[lu,↓zq,zs,af,zt]
  refine ai (Hu s c v) ?_
  simp only[hr,lu,↓zq,zs,af,zt]
  refine⟨fun h=>by simp at h,fun _=>⟨fun h=>by simp at h,fun _=>⟨fun h=>by simp at h,fun _=>?_⟩⟩⟩
  refine ai (PB s x) ?_
  simp only[h1,Mv,↓zq,zs,af,zt]
  have hll:l.length<=1000:=by
   unfold AC at h1
   cases q2:jP s x with
   |none=>rw[q2]at h1;cases h1
   |
    some w =>
    obtain⟨_,_,_,_,hf,_⟩:=oi q2
    rw[q2]at h1;cases h1
    exact pu hf
  refine cw (CZ c v l hll true l.length 0 false (by omega) (by simp[wa])) ?_
  have hh:wa c v l=true:=by
   unfold wa
   rw[bS]
   exact⟨q,h2,by simp[h3,h4]⟩
  simp only[↓zq,zs,af,zt,hh,bi,bB]
  simp
end Go.Proofs.Trees
