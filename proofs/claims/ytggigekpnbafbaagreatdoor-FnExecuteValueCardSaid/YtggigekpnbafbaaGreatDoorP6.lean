/-
  Part of a proof: Go functions read by values, trees of functions, their contracts.
-/
import Derived.Test.YtggigekpnbafbaaGreatDoorP5
import Derived.Shelf.Strings.Cut
import Derived.Shelf.Strings.Split
set_option linter.unusedVariables false
set_option linter.unusedSimpArgs false
open And renaming intro→aI
open Bool renaming and_eq_true→az,eq_iff_iff→cF,or_eq_false_iff→cB,or_eq_true→bD,true_and→cn
open ByteArray renaming toList→ae
open Int renaming tmod→da,toNat→bq,toNat_natCast→bR
open List renaming all_cons→cT,all_eq_true→bM,append_assoc→bK,append_nil→cR,cons_append→aW,drop_eq_getElem_cons→aY,drop_zero→bG,eq_nil_of_length_eq_zero→bV,getD_cons_zero→bp,getD_eq_getElem?_getD→aa,getElem?_eq_getElem→bg,getElem_mem→bN,headD_cons→aP,length_append→aq,length_cons→au,length_map→cg,length_nil→aG,map_cons→bz,mem_append→aK,mem_append_left→aC,mem_append_right→aB,mem_cons→aH,mem_cons_of_mem→al,mem_cons_self→ai,mem_map→bJ,mem_singleton→aS,nil_append→aT,tail_cons→bO
open Nat renaming le_add_right→cU,le_refl→aw,mul_add→cM,mul_le_mul_right→aX,mul_one→dq,zero_add→aZ,zero_le→dN
open Option renaming bind_eq_some_iff→bc,bind_none→bE,bind_some→ba,getD_some→cz,isSome_none→bC,isSome_some→bu,map_some→cu
open UInt8 renaming ofNat→a8
namespace Go.Proofs.Trees
open Go Go.VL Go.RowKit
theorem ri(m:Nat)(t:Ty)(c v:Vl):c.gX m->v.gX m->(cP t c v).gX m:=by
 induction t,c,v using cP.induct with
 |case1 a b c v ih=>exact fun h h'=>ih h h'
 |case2 a b c v ih=>exact fun h h'=>ih h h'
 |case3 a b x y v ih=>exact fun h h'=>⟨ih h.1 h',h.2⟩
 |case4 a b x y v ih=>exact fun h h'=>⟨h.1,ih h.2 h'⟩
 |case5 a x v ih=>exact fun h h'=>ih h h'
 |case6 a x y v ih1 ih2=>exact fun h h'=>ih2 h.1 (ih1 h.2 h')
 |case7=>intro h h';simpa only[cP]using h'
def HQ:Hl:=(.u,.u)
end Go.Proofs.Trees
namespace Go.Proofs.Trees
open Go Go.VL Go.RowKit
theorem nG(s:Nm)(a b:E):an Tryz.prog 104 [.agg [.v (.string (mk [])),(E.list [.atom s,a,b]).sp]] [] (bB (.v (.string (mk s)))):=uM (.atom s) [a,b]
theorem DB{e:E}(h:Wf e):∀(bd l:List Nm) (a:AV),cw a bd->bd.length+l.length+e.sz<100000->an Tryz.prog 102 [.agg [.v (.string (mk e.at)),e.sp],a,.vec 0] [.vec 1 (bn l)] (cK (.vec 1) [.dead,.vec 1 (bn (j1 e bd l))]):=by
 induction h with
 |
  @atom s hs =>
  intro bd l a ha hl
  simp only[E.sz]at hl
  refine yT _ _ _ _ ((bh _).mpr trivial) ha.1 ?_
  have hll:(bn l).length=l.length:=by simp[bn]
  simp only[wE,dQ,↓zq,zs,ag,zt,cK,j1]
  refine⟨fun _=>⟨fun h=>?_,fun h=>⟨fun h1=>?_,fun h1=>?_⟩⟩,fun h=>absurd h hs⟩
  ·rw[if_pos (.inl h)]
  ·rw[if_pos (.inr (.inl h1))]
  ·refine ak (wv bd a ha s (by omega)) ?_
   simp only[↓zq,zs,ag]
   refine⟨fun h2=>?_,fun h2=>ak (wv l _ (.of l) s (by omega)) ?_⟩
   ·rw[if_pos (.inr (.inr (.inl h2)))]
   ·simp only[↓zq,zs,ag]
    refine⟨fun h3=>?_,fun h3=>⟨⟨fun c hc=>(by simp at hc;rw[hc];rfl),by omega⟩,?_⟩⟩
    ·rw[if_pos (.inr (.inr (.inr h3)))]
    ·rw[Ez,if_neg]
     rintro(q|q|q|q)
     ·exact h q
     ·exact h1 q
     ·exact h2 q
     ·exact h3 q
 |
  @plus x y hx hy i1 i2 =>
  intro bd l a ha hl
  simp only[E.sz,E.iY]at hl
  have hfl:=fP x bd l
  refine yT _ _ _ _ ((bh _).mpr trivial) ha.1 ?_
  have hP:=P3.of (.atom [43]) x y
  simp only[wE,bH,toNat_one,bw,↓zq,zs,ag,zt,hP.1,hP.2.1,hP.2.2.1,hP.2.2.2,aR,cK]
  refine⟨fun h=>absurd rfl h,fun _=>?_⟩
  refine ak (nG [43] x y) ?_
  simp only[↓zq,zs,ag,zt]
  refine⟨fun h=>by simp at h,fun _=>?_⟩
  repeat refine⟨by omega,?_⟩
  refine aU (i1 bd l a ha (by omega)) ?_
  simp only[↓zq,zs,ag,zt,aP,bO,Ob.es]
  repeat refine⟨by omega,?_⟩
  refine aU (i2 bd (j1 x bd l) a ha (by omega)) ?_
  simp only[↓zq,zs,ag,zt,aP,bO,Ob.es]
  rw[j1,if_neg (by decide)]
 |
  @times x y hx hy i1 i2 =>
  intro bd l a ha hl
  simp only[E.sz,E.iY]at hl
  have hfl:=fP x bd l
  refine yT _ _ _ _ ((bh _).mpr trivial) ha.1 ?_
  have hP:=P3.of (.atom [42]) x y
  simp only[wE,bH,toNat_one,bw,↓zq,zs,ag,zt,hP.1,hP.2.1,hP.2.2.1,hP.2.2.2,aR,cK]
  refine⟨fun h=>absurd rfl h,fun _=>?_⟩
  refine ak (nG [42] x y) ?_
  simp only[↓zq,zs,ag,zt]
  refine⟨fun h=>by simp at h,fun _=>?_⟩
  repeat refine⟨by omega,?_⟩
  refine aU (i1 bd l a ha (by omega)) ?_
  simp only[↓zq,zs,ag,zt,aP,bO,Ob.es]
  repeat refine⟨by omega,?_⟩
  refine aU (i2 bd (j1 x bd l) a ha (by omega)) ?_
  simp only[↓zq,zs,ag,zt,aP,bO,Ob.es]
  rw[j1,if_neg (by decide)]
 |
  @rc n y hn hy i =>
  intro bd l a ha hl
  simp only[E.sz,E.iY]at hl
  refine yT _ _ _ _ ((bh _).mpr trivial) ha.1 ?_
  have hP:=P3.of (.atom dC) (.atom n) y
  simp only[wE,bH,toNat_one,bw,↓zq,zs,ag,zt,hP.1,hP.2.1,hP.2.2.1,hP.2.2.2,aR,cK]
  refine⟨fun h=>absurd rfl h,fun _=>?_⟩
  refine ak (nG dC (.atom n) y) ?_
  simp only[↓zq,zs,ag,zt]
  refine⟨fun _=>?_,fun h=>absurd rfl h⟩
  repeat refine⟨by omega,?_⟩
  refine aU (zg bd a ha n (by omega)) ?_
  simp only[↓zq,zs,ag,Ob.es,aP]
  refine⟨ej _,?_⟩
  refine aU (i (bd++[n]) l _ (.of _) (by simp;omega)) ?_
  simp only[↓zq,zs,ag,aP,bO,Ob.es]
  rw[j1,if_pos (dQ _)];rfl
theorem Pc(x:Nm)(u:E){e:E}(h:Wf e):an Tryz.prog 197 [.agg [.v (.string (mk e.at)),e.sp],.v (.string (mk x)),.agg [.v (.string (mk u.at)),u.sp]] [] (bB (.agg [.v (.string (mk (rC x u e).at)),(rC x u e).sp])):=by
 induction h with
 |
  @atom s hs =>
  refine C6 _ _ _ _ _ ((bh _).mpr trivial) ((bh _).mpr trivial) ?_
  simp only[Af,dQ,↓zq,zs,ag,zt,bB,rC]
  refine⟨fun _=>⟨fun h=>?_,fun h=>?_⟩,fun h=>absurd h hs⟩
  ·rw[if_pos h]
  ·rw[if_neg h];rfl
 |
  @plus a b ha hb i1 i2 =>
  refine C6 _ _ _ _ _ ((bh _).mpr trivial) ((bh _).mpr trivial) ?_
  have hP:=P3.of (.atom [43]) a b
  simp only[Af,bH,toNat_one,bw,↓zq,zs,ag,zt,hP.1,hP.2.1,hP.2.2.1,hP.2.2.2,aR]
  refine⟨fun h=>absurd rfl h,fun _=>?_⟩
  refine ak (nG [43] a b) ?_
  simp only[↓zq,zs,ag,zt]
  refine⟨fun h=>by simp at h,fun _=>?_⟩
  refine ak (nG [43] a b) ?_
  simp only[↓zq,zs,ag,zt]
  repeat refine⟨by omega,?_⟩
  refine ak i1 ?_
  simp only[↓zq,zs,ag,zt,aR]
  repeat refine⟨by omega,?_⟩
  refine ak i2 ?_
  simp only[↓zq,zs,ag,zt,aR]
  repeat refine⟨by omega,?_⟩
  refine ak (z7 _ _ _) ?_
  simp only[↓zq,zs,ag,zt,aR,vr,bH]
  repeat refine⟨by omega,?_⟩
  exact⟨rfl,rfl⟩
 |
  @times a b ha hb i1 i2 =>
  refine C6 _ _ _ _ _ ((bh _).mpr trivial) ((bh _).mpr trivial) ?_
  have hP:=P3.of (.atom [42]) a b
  simp only[Af,bH,toNat_one,bw,↓zq,zs,ag,zt,hP.1,hP.2.1,hP.2.2.1,hP.2.2.2,aR]
  refine⟨fun h=>absurd rfl h,fun _=>?_⟩
  refine ak (nG [42] a b) ?_
  simp only[↓zq,zs,ag,zt]
  refine⟨fun h=>by simp at h,fun _=>?_⟩
  refine ak (nG [42] a b) ?_
  simp only[↓zq,zs,ag,zt]
  repeat refine⟨by omega,?_⟩
  refine ak i1 ?_
  simp only[↓zq,zs,ag,zt,aR]
  repeat refine⟨by omega,?_⟩
  refine ak i2 ?_
  simp only[↓zq,zs,ag,zt,aR]
  repeat refine⟨by omega,?_⟩
  refine ak (z7 _ _ _) ?_
  simp only[↓zq,zs,ag,zt,aR,tD,bH]
  repeat refine⟨by omega,?_⟩
  exact⟨rfl,rfl⟩
 |
  @rc n b hn hb i =>
  refine C6 _ _ _ _ _ ((bh _).mpr trivial) ((bh _).mpr trivial) ?_
  have hP:=P3.of (.atom dC) (.atom n) b
  simp only[Af,bH,toNat_one,bw,↓zq,zs,ag,zt,hP.1,hP.2.1,hP.2.2.1,hP.2.2.2,aR]
  refine⟨fun h=>absurd rfl h,fun _=>?_⟩
  refine ak (nG dC (.atom n) b) ?_
  simp only[↓zq,zs,ag,zt]
  refine⟨fun _=>?_,fun h=>absurd rfl h⟩
  repeat refine⟨by omega,?_⟩
  rw[AA]
  refine⟨fun h=>?_,fun h=>?_⟩
  ·have hh:n=x:=h
   rw[if_pos hh];exact⟨rfl,rfl⟩
  ·have hh:¬n=x:=h
   rw[if_neg hh]
   repeat refine⟨by omega,?_⟩
   refine ak i ?_
   simp only[↓zq,zs,ag,zt,aR]
   repeat refine⟨by omega,?_⟩
   refine ak (z7 dC (.atom n) (rC x u b)) ?_
   simp only[↓zq,zs,ag,zt,aR,bH]
   repeat refine⟨by omega,?_⟩
   exact⟨rfl,rfl⟩
theorem rR(x:Nm){e:E}(h:Wf e):mF x e<=e.cW:=by
 induction h with
 |atom hs=>simp only[mF,E.cW];split<;>omega
 |plus ha hb i1 i2=>rw[rK];simp only[E.cW,E.eT];omega
 |times ha hb i1 i2=>rw[pI];simp only[E.cW,E.eT];omega
 |rc hn hb i=>rw[wJ];simp only[E.cW,E.eT];split<;>omega
theorem Qs(x:Nm){e:E}(h:Wf e):e.cW<1000000->an Tryz.prog 196 [.agg [.v (.string (mk e.at)),e.sp],.v (.string (mk x))] [] (bB (.v (.int .i64 (mF x e:Int)))):=by
 induction h with
 |
  @atom s hs =>
  intro hl
  refine Ct _ _ _ ((bh _).mpr trivial) ?_
  simp only[Bg,dQ,↓zq,zs,ag,zt,bB,mF]
  refine⟨fun _=>⟨fun h=>?_,fun h=>?_⟩,fun h=>absurd h hs⟩
  ·rw[if_pos h];rfl
  ·rw[if_neg h];rfl
 |
  @plus a b ha hb i1 i2 =>
  intro hl
  simp only[E.cW,E.eT]at hl
  have u1:=rR x ha
  have u2:=rR x hb
  refine Ct _ _ _ ((bh _).mpr trivial) ?_
  have hP:=P3.of (.atom [43]) a b
  simp only[Bg,bH,toNat_one,bw,↓zq,zs,ag,zt,hP.1,hP.2.1,hP.2.2.1,hP.2.2.2,aR]
  refine⟨fun h=>absurd rfl h,fun _=>?_⟩
  refine ak (nG [43] a b) ?_
  simp only[↓zq,zs,ag,zt]
  refine⟨fun h=>by simp at h,fun _=>?_⟩
  repeat refine⟨by omega,?_⟩
  refine ak (i1 (by omega)) ?_
  simp only[↓zq,zs,ag,zt]
  repeat refine⟨by omega,?_⟩
  refine ak (i2 (by omega)) ?_
  simp only[↓zq,zs,ag,zt]
  rw[rK,wrap64 _ (by omega) (by omega)]
  exact⟨by simp,rfl⟩
 |
  @times a b ha hb i1 i2 =>
  intro hl
  simp only[E.cW,E.eT]at hl
  have u1:=rR x ha
  have u2:=rR x hb
  refine Ct _ _ _ ((bh _).mpr trivial) ?_
  have hP:=P3.of (.atom [42]) a b
  simp only[Bg,bH,toNat_one,bw,↓zq,zs,ag,zt,hP.1,hP.2.1,hP.2.2.1,hP.2.2.2,aR]
  refine⟨fun h=>absurd rfl h,fun _=>?_⟩
  refine ak (nG [42] a b) ?_
  simp only[↓zq,zs,ag,zt]
  refine⟨fun h=>by simp at h,fun _=>?_⟩
  repeat refine⟨by omega,?_⟩
  refine ak (i1 (by omega)) ?_
  simp only[↓zq,zs,ag,zt]
  repeat refine⟨by omega,?_⟩
  refine ak (i2 (by omega)) ?_
  simp only[↓zq,zs,ag,zt]
  rw[pI,wrap64 _ (by omega) (by omega)]
  exact⟨by simp,rfl⟩
 |
  @rc n b hn hb i =>
  intro hl
  simp only[E.cW,E.eT]at hl
  refine Ct _ _ _ ((bh _).mpr trivial) ?_
  have hP:=P3.of (.atom dC) (.atom n) b
  simp only[Bg,bH,toNat_one,bw,↓zq,zs,ag,zt,hP.1,hP.2.1,hP.2.2.1,hP.2.2.2,aR]
  refine⟨fun h=>absurd rfl h,fun _=>?_⟩
  refine ak (nG dC (.atom n) b) ?_
  simp only[↓zq,zs,ag,zt]
  refine⟨fun _=>?_,fun h=>absurd rfl h⟩
  repeat refine⟨by omega,?_⟩
  rw[wJ]
  refine⟨fun h=>?_,fun h=>?_⟩
  ·have hh:n=x:=h
   rw[if_pos hh];exact⟨rfl,rfl⟩
  ·have hh:¬n=x:=h
   rw[if_neg hh]
   repeat refine⟨by omega,?_⟩
   refine ak (i (by omega)) ?_
   simp only[↓zq,zs,ag,zt]
   exact⟨rfl,rfl⟩
theorem K4{x:Nm}(hx:qG x){e u:E}(h:Wf e)(hu:Wf u)(hl:e.cW<=1000)(hlu:u.cW<=1000):an Tryz.prog 155 [.agg [.v (.string (mk e.at)),e.sp],.v (.string (mk x)),.agg [.v (.string (mk u.at)),u.sp]] [] (bB (.v (.bool (decide ((sub x (cJ u []) (cJ e [])).atoms<=400))))):=by
 refine Qz _ _ _ _ _ ((bh _).mpr trivial) ((bh _).mpr trivial) ?_
 unfold LN
 have a1:=Cn e h.ok (by have:=h.sz;omega)
 have a2:=Cn u hu.ok (by have:=hu.sz;omega)
 rw[dA]at a1 a2
 have hle:=rR x h
 have hpos:1<=u.cW:=by rw[hu.cW []];exact ef _
 refine ak a1 ?_
 simp only[↓zq,zs,ag,zt]
 refine ak (Qs x h (by omega)) ?_
 simp only[↓zq,zs,ag,zt]
 refine ak a2 ?_
 simp only[↓zq,zs,ag,zt]
 have e1:=dT x (cJ u []) (cJ e [])
 have e2:=Cr hx h []
 rw[if_neg (by simp)]at e2
 rw[e2,<-h.cW [],<-hu.cW []]at e1
 have hm:mF x e*(u.cW-1)<=1000*1000:=Nat.mul_le_mul (by omega) (by omega)
 have e3:(mF x e:Int)*((u.cW:Int)-1)=((mF x e*(u.cW-1):Nat):Int):=by
  rw[Int.natCast_mul];congr 1;omega
 have e4:mF x e*(u.cW-1)+mF x e=mF x e*u.cW:=by
  rw[Nat.mul_sub,dq]
  have:=Nat.le_mul_of_pos_right (mF x e) hpos
  omega
 rw[wrap64 ((u.cW:Int)-1) (by omega) (by omega),e3,wrap64 ((mF x e*(u.cW-1):Nat):Int) (by omega) (by omega),wrap64 _ (by omega) (by omega)]
 refine⟨?_,rfl⟩
 congr 2
 rw[cF,decide_eq_true_eq,decide_eq_true_eq]
 omega
end Go.Proofs.Trees
namespace Go.Proofs.Trees
open Go Go.VL Go.RowKit
abbrev xT:AV:=.v (.slice none 0 0)
abbrev zE:Ob:=.cells [.v (.string (mk [])),xT]
theorem LP(s:Nm)(p a b:AV)(hp:LK.sl.has p)(F fr to:List Nm)(k:Int)(ha:cw a fr)(hb:cw b to)(hft:fr.length=to.length)(hl:fr.length<1000000):∀(i:Nat),i<=fr.length ->
 Ha [a,b,.v (.int .i64 ((i:Int)-1))] [.cells [.v (.string (mk s)),p],zE,.cells [.any,.v (.int .i64 k)],.vec 1 (bn F)]
  (pk (match cb s fr i with|some u=>(2,[],[.cells [.v (.string (mk (jG to u))),xT],.cells [.any,.v (.int .i64 k)],.vec 1 (bn F)])|none=>(1,[],[.cells [.v (.string (mk s)),p],zE,.cells [.any,.v (.int .i64 k)],.vec 1 (bn F)])))
 |
  0,hi=>by
  refine Io _ _ _ _ _ _ _ _ _ ?_
  simp only[E9,↓zq,zs,ag,ag,hp,bj]
  exact⟨ha.1,hb.1,fun h=>by omega,fun _=>rfl⟩
 |
  i+1,hi=>by
  have hlt:i<fr.length:=by omega
  have hlt':i<to.length:=by omega
  have e1:((i+1:Nat):Int)-1=(i:Int):=by omega
  rw[e1]
  refine Io _ _ _ _ _ _ _ _ _ ?_
  simp only[E9,↓zq,zs,ag,zt,ag,hp,bj,ha.len,hb.len,ha.idx hlt,hb.idx hlt',bR]
  refine⟨ha.1,hb.1,fun _=>⟨⟨ha.1,by omega,by omega⟩,by omega,fun h=>?_,fun h=>?_⟩,fun h=>by omega⟩
  ·refine⟨⟨hb.1,by omega,by omega⟩,by omega,?_⟩
   have hh:fr.getD i []=s:=h
   simp only[cb,hh,if_true,pk]
   have:jG to (fr.length-1-i)=to.getD i []:=by unfold jG;congr 1;omega
   rw[this]
  ·have hh:¬fr.getD i []=s:=h
   simp only[cb,hh,if_false]
   rw[wrap64 _ (by omega) (by omega)]
   exact LP s p a b hp F fr to k ha hb hft hl i (by omega)
theorem Jz(a b:AV)(ha:LK.sl.has a)(hb:LK.sl.has b)(F:List Nm)(hF:F.length<100000)(t:ByteArray)(p:AV)(hp:LK.sl.has p):∀(n j:Nat),p8 F n j<j+n->j+n<100000000 ->
 F0 [a,b,.v (.string (mk (tN j)))] [.cells [.any,.v (.int .i64 (j:Int))],.vec 1 (bn F),.cells [.v (.string t),p],zE] (jX 1 [a,b,.v (.string (mk (tN (p8 F n j))))] [.cells [.any,.v (.int .i64 (p8 F n j:Int))],.vec 1 (bn F),.cells [.v (.string t),p],zE])
 |0,j,h,_=>by simp only[p8]at h;omega
 |
  n+1,j,h,hj=>by
  refine QI _ _ _ _ _ _ _ _ _ ?_
  simp only[Ix,↓zq,zs,ag,zt,ag,hp,bj]
  refine⟨ha,hb,?_⟩
  refine ak (wv F _ (.of F) (tN j) (by omega)) ?_
  simp only[↓zq,zs,ag,zt]
  rw[p8]at h |-
  refine⟨fun hm=>?_,fun hm=>?_⟩
  ·rw[if_pos hm]at h |-
   rw[bS j (by omega)]
   refine ak (zG (j+2) (j+1) (by omega) (by omega)) ?_
   have hd:=iw (j+2) (j+1) (by omega)
   simp only[↓zq,zs,ag,zt,aW,aT]
   refine⟨by simp[cq];omega,?_⟩
   exact Jz a b ha hb F hF t p hp n (j+1) (by omega) (by omega)
  ·rw[if_neg hm]
   exact⟨rfl,rfl,rfl⟩
theorem gU(F:List Nm):∀(t:Ty) (to:List Nm) (k:Nat),k<=(gD F t to k).2/\(gD F t to k).2<=k+(F.length+1)*t.atoms
 | .zero,_,k=>⟨aw _,cU _ _⟩
 | .one,_,k=>⟨aw _,cU _ _⟩
 | .name _,_,k=>⟨aw _,cU _ _⟩
 | .bound _,_,k=>⟨aw _,cU _ _⟩
 |
  .plus a b,to,k=>by
  have h1:=gU F a to k
  have h2:=gU F b to (gD F a to k).2
  simp only[gD,Ty.atoms]
  have:(F.length+1)*(1+a.atoms+b.atoms)=(F.length+1)+(F.length+1)*a.atoms+(F.length+1)*b.atoms:=by simp only[cM,dq]
  omega
 |
  .times a b,to,k=>by
  have h1:=gU F a to k
  have h2:=gU F b to (gD F a to k).2
  simp only[gD,Ty.atoms]
  have:(F.length+1)*(1+a.atoms+b.atoms)=(F.length+1)+(F.length+1)*a.atoms+(F.length+1)*b.atoms:=by simp only[cM,dq]
  omega
 |
  .rc a,to,k=>by
  obtain⟨g1,g2,_,_⟩:=gb F k
  have h1:=gU F a (to++[tN (nx F k)]) (nx F k+1)
  simp only[gD,Ty.atoms]
  have:(F.length+1)*(2+a.atoms)=(F.length+1)*2+(F.length+1)*a.atoms:=by simp only[cM]
  omega
theorem j6(l:List Nm):(bn l).length=l.length:=by simp[bn]
theorem NF(F:List Nm)(hF:F.length<10000){e:E}(h:Wf e):∀(fr to:List Nm) (a b:AV) (k:Nat),cw a fr->cw b to->fr.length=to.length->(∀w,w∈fr->qG w)->fr.length+e.sz<10000->k+(F.length+1)*(cJ e fr).atoms<99000000 ->
 an Tryz.prog 110 [.agg [.v (.string (mk e.at)),e.sp],a,b,.ref 0 0] [.cells [.vec 1,.v (.int .i64 (k:Int))],.vec 1 (bn F)] (cK (.agg [.v (.string (mk (gD F (cJ e fr) to k).1.at)),(gD F (cJ e fr) to k).1.sp]) [.cells [.vec 1,.v (.int .i64 ((gD F (cJ e fr) to k).2:Int))],.vec 1 (bn F)]):=by
 induction h with
 |
  @atom s hs =>
  intro fr to a b k ha hb hft hfr hl hk
  simp only[E.sz]at hl
  refine D4 _ _ _ _ _ _ ((bh _).mpr trivial) ha.1 hb.1 ?_
  have hz:∀c,(c=[48]\/c=[49])->cb c fr fr.length=none:=fun c hc=>(fg c fr).2 fun hm=>by
   obtain⟨h1,h2,h3⟩:=hfr c hm
   rcases hc with rfl|rfl
   ·exact h2 rfl
   ·exact h3 rfl
  have hq:gD F (cJ (.atom s) fr) to k=(match cb s fr fr.length with|some u=>.atom (jG to u)|none=>.atom s,k):=by
   simp only[cJ]
   by_cases h0:s=[48]
   ·rw[if_pos h0,hz s (.inl h0),h0];rfl
   ·rw[if_neg h0]
    by_cases h1:s=[49]
    ·rw[if_pos h1,hz s (.inr h1),h1];rfl
    ·rw[if_neg h1]
     cases cb s fr fr.length<;>rfl
  simp only[A1,dQ,↓zq,zs,ag,zt]
  refine⟨fun _=>⟨ha.1,?_⟩,fun h=>absurd h hs⟩
  rw[ha.len,wrap64 _ (by omega) (by omega)]
  refine fH (LP s _ a b ((bh _).mpr trivial) F fr to (k:Int) ha hb hft (by omega) fr.length (aw _)) (fun ys o e=>?_) (fun ys o e=>?_)
  ·rw[hq]
   cases q:cb s fr fr.length<;>rw[q]at e<;>cases e
   simp only[↓zq,zs,ag,zt,ag,aL,bj,bh]
   exact⟨rfl,rfl⟩
  ·rw[hq]
   cases q:cb s fr fr.length<;>rw[q]at e<;>cases e
   simp only[↓zq,zs,ag,zt,ag,aL,bj]
   exact⟨rfl,rfl⟩
 |
  @plus x y hx hy i1 i2 =>
  intro fr to a b k ha hb hft hfr hl hk
  simp only[E.sz,E.iY]at hl
  rw[dI]at hk |-
  simp only[Ty.atoms]at hk
  have hm:(F.length+1)*(1+(cJ x fr).atoms+(cJ y fr).atoms)=(F.length+1)+(F.length+1)*(cJ x fr).atoms+(F.length+1)*(cJ y fr).atoms:=by simp only[cM,dq]
  have hc:=gU F (cJ x fr) to k
  refine D4 _ _ _ _ _ _ ((bh _).mpr trivial) ha.1 hb.1 ?_
  have hP:=P3.of (.atom [43]) x y
  simp only[A1,bH,toNat_one,bw,↓zq,zs,ag,zt,hP.1,hP.2.1,hP.2.2.1,hP.2.2.2,aR]
  refine⟨fun h=>absurd rfl h,fun _=>?_⟩
  refine ak (nG [43] x y) ?_
  simp only[↓zq,zs,ag,zt]
  refine⟨fun h=>by simp at h,fun _=>?_⟩
  repeat refine⟨by omega,?_⟩
  refine aU (i1 fr to a b k ha hb hft hfr (by omega) (by omega)) ?_
  simp only[↓zq,zs,ag,zt,aL,aR,aP,bO,Ob.es]
  repeat refine⟨by omega,?_⟩
  refine ak (nG [43] x y) ?_
  simp only[↓zq,zs,ag,zt]
  repeat refine⟨by omega,?_⟩
  refine aU (i2 fr to a b _ ha hb hft hfr (by omega) (by omega)) ?_
  simp only[↓zq,zs,ag,zt,aL,aR,aP,bO,Ob.es]
  repeat refine⟨by omega,?_⟩
  refine ak (z7 _ _ _) ?_
  simp only[↓zq,zs,ag,zt,aR,bH]
  repeat refine⟨by omega,?_⟩
  exact⟨rfl,rfl⟩
 |
  @times x y hx hy i1 i2 =>
  intro fr to a b k ha hb hft hfr hl hk
  simp only[E.sz,E.iY]at hl
  rw[dk]at hk |-
  simp only[Ty.atoms]at hk
  have hm:(F.length+1)*(1+(cJ x fr).atoms+(cJ y fr).atoms)=(F.length+1)+(F.length+1)*(cJ x fr).atoms+(F.length+1)*(cJ y fr).atoms:=by simp only[cM,dq]
  have hc:=gU F (cJ x fr) to k
  refine D4 _ _ _ _ _ _ ((bh _).mpr trivial) ha.1 hb.1 ?_
  have hP:=P3.of (.atom [42]) x y
  simp only[A1,bH,toNat_one,bw,↓zq,zs,ag,zt,hP.1,hP.2.1,hP.2.2.1,hP.2.2.2,aR]
  refine⟨fun h=>absurd rfl h,fun _=>?_⟩
  refine ak (nG [42] x y) ?_
  simp only[↓zq,zs,ag,zt]
  refine⟨fun h=>by simp at h,fun _=>?_⟩
  repeat refine⟨by omega,?_⟩
  refine aU (i1 fr to a b k ha hb hft hfr (by omega) (by omega)) ?_
  simp only[↓zq,zs,ag,zt,aL,aR,aP,bO,Ob.es]
  repeat refine⟨by omega,?_⟩
  refine ak (nG [42] x y) ?_
  simp only[↓zq,zs,ag,zt]
  repeat refine⟨by omega,?_⟩
  refine aU (i2 fr to a b _ ha hb hft hfr (by omega) (by omega)) ?_
  simp only[↓zq,zs,ag,zt,aL,aR,aP,bO,Ob.es]
  repeat refine⟨by omega,?_⟩
  refine ak (z7 _ _ _) ?_
  simp only[↓zq,zs,ag,zt,aR,bH]
  repeat refine⟨by omega,?_⟩
  exact⟨rfl,rfl⟩
 |
  @rc n y hn hy i =>
  intro fr to a b k ha hb hft hfr hl hk
  simp only[E.sz,E.iY]at hl
  rw[e7]at hk |-
  simp only[Ty.atoms,dQ]at hk
  have hm:(F.length+1)*(2+(cJ y (fr++[n])).atoms)=(F.length+1)*2+(F.length+1)*(cJ y (fr++[n])).atoms:=by simp only[cM]
  have hc:=gU F (cJ y (fr++[n])) (to++[tN (nx F k)]) (nx F k+1)
  obtain⟨g1,g2,_,_⟩:=gb F k
  refine D4 _ _ _ _ _ _ ((bh _).mpr trivial) ha.1 hb.1 ?_
  have hP:=P3.of (.atom dC) (.atom n) y
  simp only[A1,bH,toNat_one,bw,↓zq,zs,ag,zt,hP.1,hP.2.1,hP.2.2.1,hP.2.2.2,aR]
  refine⟨fun h=>absurd rfl h,fun _=>?_⟩
  refine ak (nG dC (.atom n) y) ?_
  simp only[↓zq,zs,ag,zt]
  refine⟨fun _=>?_,fun h=>absurd rfl h⟩
  refine ak (zG (k+1) k (by omega) (by omega)) ?_
  have hd:=iw (k+1) k (by omega)
  simp only[↓zq,zs,ag,zt,aW,aT]
  refine⟨by simp[cq];omega,?_⟩
  refine cX (Jz a b ha.1 hb.1 F (by omega) (mk []) _ ((bh _).mpr trivial) (F.length+1) k (by show nx F k<_;omega) (by omega)) ?_
  simp only[↓zq,zs,ag,zt,ag,aL,bj,bh,ha.1,hb.1,hP.1,hP.2.1,hP.2.2.1,hP.2.2.2,toNat_one,bw,aR]
  repeat refine⟨by omega,?_⟩
  have hnx:p8 F (F.length+1) k=nx F k:=rfl
  rw[hnx]
  refine aU (zg fr a ha n (by omega)) ?_
  simp only[↓zq,zs,ag,zt,Ob.es,aP]
  refine⟨ej _,?_⟩
  refine aU (zg to b hb (tN (nx F k)) (by omega)) ?_
  simp only[↓zq,zs,ag,zt,Ob.es,aP]
  refine⟨ej _,?_⟩
  rw[bS (nx F k) (by omega)]
  have hmk:=z7 dC (.atom (tN (nx F k))) (gD F (cJ y (fr++[n])) (to++[tN (nx F k)]) (nx F k+1)).1
  simp only[dQ]at hmk
  refine aU (i (fr++[n]) (to++[tN (nx F k)]) _ _ (nx F k+1) (.of _) (.of _) (by simp[hft]) (fun w hw=>by
   rcases aK.1 hw with hw|hw
   ·exact hfr w hw
   ·simp only[aS]at hw;rw[hw];exact hn) (by simp;omega) (by omega)) ?_
  simp only[↓zq,zs,ag,zt,aL,aR,aP,bO,Ob.es]
  repeat refine⟨by omega,?_⟩
  refine ak hmk ?_
  simp only[↓zq,zs,ag,zt,aR,bH]
  repeat refine⟨by omega,?_⟩
  exact⟨rfl,rfl⟩
theorem wt(l r:List Nm):bn (l++r)=bn l++bn r:=by simp[bn]
def rA(os:List E):List Nm:=os.flatMap fun o=>j1 o [] []
theorem vu{os:List E}{i:Nat}(h:i<os.length):(E.bo os).getD i []=[.v (.string (mk (os[i]).at)),(os[i]).sp]:=by
 have:∀(os:List E) (i:Nat) (h:i<os.length),(E.bo os).getD i []=(os[i]).gV:=by
  intro os
  induction os with
  |nil=>intro i h;simp at h
  |
   cons o os ih =>
   intro i h
   cases i with
   |zero=>simp[E.bo]
   |succ i=>simpa[E.bo]using ih i (by simpa using h)
 rw[this os i h,fq]
theorem yV(os:List E){i:Nat}(h:i<os.length):rA (os.drop i)=j1 (os[i]) [] []++rA (os.drop (i+1)):=by
 unfold rA;rw[aY h,List.flatMap_cons]
theorem MZ(a:AV)(os:List E)(ha:LK.sl.has a/\a.elems=E.bo os)(ho:∀o,o∈os->Wf o/\o.sz<5000)(hl:os.length<100)(t:ByteArray)(p:AV)(hp:LK.sl.has p):∀(k i:Nat) (F:List Nm),i+k=os.length->F.length<=5000+5000*i ->
 HC [a,.v (.int .i64 (i:Int))] [.cells [.v (.string t),p],zE,.vec 1 (bn F)] (jX 1 [] [.cells [.v (.string t),p],zE,.vec 1 (bn (F++rA (os.drop i)))])
 |
  0,i,F,hi,hF=>by
  refine KE _ _ _ _ _ _ _ ?_
  have:i=os.length:=by omega
  subst this
  simp only[Ft,↓zq,zs,ag,zt,ag,hp,bj,ha.1,ha.2,dX,List.drop_length]
  exact⟨fun h=>by omega,fun _=>by simp[jX,rA]⟩
 |
  k+1,i,F,hi,hF=>by
  have hlt:i<os.length:=by omega
  obtain⟨hw,hsz⟩:=ho _ (bN hlt)
  have hfl:=fP (os[i]) [] []
  refine KE _ _ _ _ _ _ _ ?_
  simp only[Ft,↓zq,zs,ag,zt,ag,hp,bj,ha.1,ha.2,dX,vu hlt,aR,bR]
  refine⟨fun _=>?_,fun h=>by omega⟩
  repeat refine⟨by omega,?_⟩
  have hfre:=DB hw [] [] (.sl []) (.of []) (by simp;omega)
  refine aU hfre ?_
  simp only[↓zq,zs,ag,zt,aP,bO,Ob.es,j6,<-wt]
  rw[bS i (by omega),yV os hlt,<-bK]
  simp only[aG,aZ]at hfl
  refine⟨⟨j9 _,by omega⟩,?_⟩
  exact MZ a os ha ho hl t p hp k (i+1) _ (by omega) (by simp;omega)
def z6(e:E)(os:List E):List Nm:=j1 e [] []++rA os
def zz(e:E)(os:List E):E:=(gD (z6 e os) (cJ e []) [] 0).1
theorem DS{e:E}{os:List E}(h:e.sz<=2000)(ho:∀o,o∈os->Wf o/\o.sz<=2000)(hl:os.length<=2):(z6 e os).length<=6000:=by
 have h1:=fP e [] []
 have h2:∀(l:List E),(∀o,o∈l->o.sz<=2000)->(rA l).length<=2000*l.length:=by
  intro l
  induction l with
  |nil=>intro _;simp[rA]
  |
   cons o l ih =>
   intro hl
   have:=ih fun q hq=>hl q (al _ hq)
   have:=hl o ai
   have:=fP o [] []
   simp only[rA,List.flatMap_cons,aq,au,aG]at *
   omega
 have:=h2 os fun o ho'=>(ho o ho').2
 simp only[z6,aq,aG]at *
 omega
theorem DW{e:E}(h:Wf e)(a:AV)(os:List E)(ha:LK.sl.has a/\a.elems=E.bo os)(he:e.sz<=2000)(ho:∀o,o∈os->Wf o/\o.sz<=2000)(hl:os.length<=2) :
 an Tryz.prog 57 [.agg [.v (.string (mk e.at)),e.sp],a] [] (bB (.agg [.v (.string (mk (zz e os).at)),(zz e os).sp])):=by
 refine Pn _ _ _ ((bh _).mpr trivial) ha.1 ?_
 unfold Nk
 have hfl:=fP e [] []
 simp only[aG,aZ]at hfl
 have hap:=DS he ho hl
 have hats:(cJ e []).atoms<=2000:=by
  rw[<-h.cW []]
  have:e.cW<=e.sz:=by
   clear hap hfl ha he ho hl
   induction h with
   |atom _=>simp[E.cW,E.sz]
   |plus _ _ i1 i2=>simp only[E.cW,E.eT,E.sz,E.iY];omega
   |times _ _ i1 i2=>simp only[E.cW,E.eT,E.sz,E.iY];omega
   |rc _ _ i=>simp only[E.cW,E.eT,E.sz,E.iY];omega
  omega
 have hfre:=DB h [] [] (.sl []) (.of []) (by simp;omega)
 simp only[↓zq,zs,ag,zt]
 refine aU hfre ?_
 simp only[↓zq,zs,ag,zt,aP,bO,Ob.es]
 have hlp:=MZ a os ha (fun o hq=>⟨(ho o hq).1,by have:=(ho o hq).2;omega⟩) (by omega) (mk e.at) e.sp ((bh _).mpr trivial) os.length 0 (j1 e [] []) (by omega) (by omega)
 rw[bG]at hlp
 refine cX hlp ?_
 simp only[↓zq,zs,ag,zt,ag,aL,bj,bh,aP,bO,Ob.es]
 have hmul:((z6 e os).length+1)*(cJ e []).atoms<=6001*2000:=Nat.mul_le_mul (by omega) hats
 have hren:=NF (z6 e os) (by omega) h [] [] (.sl []) (.sl []) 0 (.of []) (.of []) rfl (fun w hw=>by cases hw) (by simp;omega) (by omega)
 refine aU hren ?_
 simp only[↓zq,zs,ag,zt,aL,aR]
 repeat refine⟨by omega,?_⟩
 exact⟨rfl,rfl⟩
end Go.Proofs.Trees
namespace Go.Proofs.Trees
open Go Go.VL Go.RowKit
def fJ(t:Ty):Prop:=jd t 0/\∀y,bb y t=true->qG y
theorem ga:∀(t:Ty) {i j:Nat},jd t i->i<=j->jd t j
 | .bound u,i,j,h,hj=>Nat.lt_of_lt_of_le h hj
 | .plus a b,i,j,h,hj=>⟨ga a h.1 hj,ga b h.2 hj⟩
 | .times a b,i,j,h,hj=>⟨ga a h.1 hj,ga b h.2 hj⟩
 | .rc a,i,j,h,hj=>ga (i:=i+1) (j:=j+1) a h (by omega)
 | .zero,_,_,_,_=>trivial
 | .one,_,_,_,_=>trivial
 | .name _,_,_,_,_=>trivial
theorem gm(x:Nm):∀(t:Ty) {i:Nat},jd t (i+1)->jd (du (.name x) t i) i
 |
  .bound u,i,h=>by
  simp only[du]
  split
  ·trivial
  ·have:u<i+1:=h
   show u<i;omega
 | .plus a b,i,h=>⟨gm x a h.1,gm x b h.2⟩
 | .times a b,i,h=>⟨gm x a h.1,gm x b h.2⟩
 | .rc a,i,h=>gm x (i:=i+1) a h
 | .zero,_,_=>trivial
 | .one,_,_=>trivial
 | .name _,_,_=>trivial
theorem kk{x:Nm}{u:Ty}(hu:jd u 0):∀(t:Ty) {i:Nat},jd t i->jd (sub x u t) i
 | .name s,i,_=>by simp only[sub];split;exact ga u hu (dN _);trivial
 | .plus a b,i,h=>⟨kk hu a h.1,kk hu b h.2⟩
 | .times a b,i,h=>⟨kk hu a h.1,kk hu b h.2⟩
 | .rc a,i,h=>kk hu (i:=i+1) a h
 | .zero,_,_=>trivial
 | .one,_,_=>trivial
 | .bound _,_,h=>h
theorem Dv.lc{t d:Ty}{s:Nm}(h:Dv t s d):jd t 0->jd d 0:=by
 induction h with
 |zero s=>exact fun _=>trivial
 |one s=>exact fun _=>trivial
 |bound k s=>exact fun _=>trivial
 |hit s=>exact fun _=>trivial
 |qf h=>exact fun _=>trivial
 |plus h1 h2 hl i1 i2=>exact fun h=>⟨i1 h.1,i2 h.2⟩
 |times h1 h2 hl i1 i2=>exact fun h=>⟨⟨i1 h.1,h.2⟩,h.1,i2 h.2⟩
 |
  rc x hx hs h1 h2 hl i1 i2 =>
  intro h
  have g1:=kk (x:=x) h _ (i1 (gm x _ h))
  have g2:=kk (x:=x) h _ (i2 (gm x _ h))
  exact⟨ga _ g1 (by omega),ga _ g2 (by omega),Nat.zero_lt_one⟩
theorem Wf.ql{e:E}(h:Wf e):fJ (cJ e []):=⟨tL h [],fun y hy=>(mI h [] y hy).1⟩
theorem fJ.dv{t d:Ty}{s:Nm}(g:fJ t)(h:Dv t s d):fJ d:=⟨h.lc g.1,fun y hy=>g.2 y (h.names y hy)⟩
theorem fJ.tree{t:Ty}(g:fJ t):∃e,Wf e/\cJ e []=t:=by
 obtain⟨h1,h2,_⟩:=ki (bI t []) t [] 0 (.nil _ _) g.1 fun y hy=>⟨(eM t [] y).2 (.inr hy),g.2 y hy⟩
 exact⟨_,h1,h2⟩
theorem fJ.sub{x:Nm}{u t:Ty}(hu:fJ u)(ht:fJ t):fJ (sub x u t):=⟨kk hu.1 t ht.1,fun y hy=>by
 rcases iU t hy with h|h
 ·exact hu.2 y h
 ·exact ht.2 y h.2⟩
def kF(o:Option Ty):AV->List Ob->Prop:=fun r ob=>ob=[]/\∃(c:Nm) (d:AV),LK.sl.has d/\r=.cy [.agg [.v (.string (mk c)),d],.v (.bool o.isSome)]/\∀t,o=some t->∃e,Wf e/\cJ e []=t/\c=e.at/\d=e.sp
theorem kF.ne{o:Option Ty}(h:∀t,o=some t->fJ t):∃r ob,kF o r ob:=by
 cases o with
 |none=>exact⟨_,_,rfl,[],xT,(bj).mpr trivial,rfl,fun t h=>by cases h⟩
 |
  some t =>
  obtain⟨e,h1,h2⟩:=(h t rfl).tree
  exact⟨_,_,rfl,e.at,e.sp,(bh _).mpr trivial,rfl,fun t' h'=>by cases h';exact⟨e,h1,h2,rfl,rfl⟩⟩
theorem kF.of{e:E}(h:Wf e):kF (some (cJ e [])) (.cy [.agg [.v (.string (mk e.at)),e.sp],.v (.bool true)]) [] :=
 ⟨rfl,e.at,e.sp,(bh _).mpr trivial,rfl,fun t h'=>by cases h';exact⟨e,h,rfl,rfl,rfl⟩⟩
theorem kF.no(c:Nm)(d:AV)(hd:LK.sl.has d):kF none (.cy [.agg [.v (.string (mk c)),d],.v (.bool false)]) [] :=
 ⟨rfl,c,d,hd,rfl,fun t h'=>by cases h'⟩
theorem gh{c:ByteArray}{d:AV}(h:LK.sl.has d):bF [.str,.sl] [.v (.string c),d] 0=True:=by simp[bF,eh,h]
theorem wu{e:E}{os:List E}(h:Wf e):Wf (zz e os)/\cJ (zz e os) []=cJ e []/\uB (·∉z6 e os) (zz e os):=by
 obtain⟨h1,h2,_,_,h5⟩:=ki (z6 e os) (cJ e []) [] 0 (.nil _ _) (tL h []) fun y hy=>⟨aC _ ((kU h [] [] y).2 (.inr hy)),(mI h [] y hy).1⟩
 exact⟨h1,h2,h5⟩
theorem re{os:List E}{o:E}(ho:o∈os)(hw:Wf o){y:Nm}(hy:bb y (cJ o [])=true):y∈rA os :=
 List.mem_flatMap.2 ⟨o,ho,(kU hw [] [] y).2 (.inr hy)⟩
theorem rp{s:Nm}(hs:qG s):cJ (.atom s) []=.name s:=iN hs (by simp)
theorem KP{x:Nm}(hx:qG x){e u:E}(h:Wf e)(hu:Wf u)(hl:e.cW<=400)(hlu:u.cW<=400):∃g,Wf g/\cJ g []=sub x (cJ u []) (cJ e [])/\an Tryz.prog 156 [.agg [.v (.string (mk e.at)),e.sp],.v (.string (mk x)),.agg [.v (.string (mk u.at)),u.sp]] [] (bB (.agg [.v (.string (mk g.at)),g.sp])):=by
 obtain⟨w1,w2,w3⟩:=wu (os:=[u,.atom x]) h
 have hap:uB (fun n=>n≠x/\bb n (cJ u [])=false) (zz e [u,.atom x]):=Ai (fun n hn=>⟨fun e1=>hn (by
  subst e1
  exact aB _ (re (o:=.atom n) (by simp) (.atom hx.1) (by rw[rp hx];simp[bb]))),by
  cases q:bb n (cJ u [])with
  |false=>rfl
  |true=>exact absurd (aB _ (re (o:=u) (by simp) hu q)) hn⟩) w1 w3
 obtain⟨p1,p2⟩:=D7 hx hu w1 hap [] (by simp) (fun y hy=>by cases hy)
 refine⟨_,p1,by rw[p2,w2],?_⟩
 refine PD _ _ _ _ _ ((bh _).mpr trivial) ((bh _).mpr trivial) ?_
 unfold MA
 have s1:=h.sz
 have s2:=hu.sz
 have hA:=DW h (.sl [[.v (.string (mk u.at)),u.sp],[.v (.string (mk x)),xT]]) [u,.atom x] ⟨(ck _).mpr trivial,by simp only[fY,E.bo,fq];rfl⟩ (by omega) (fun o ho=>by
  simp only[aH,List.not_mem_nil,or_false]at ho
  rcases ho with rfl|rfl
  ·exact⟨hu,by omega⟩
  ·exact⟨.atom hx.1,by simp[E.sz]⟩) (by simp)
 refine ak hA ?_
 simp only[↓zq,zs,ag,zt,aR]
 repeat refine⟨by omega,?_⟩
 refine ak (Pc x u w1) ?_
 simp only[↓zq,zs,ag,zt,aR]
 repeat refine⟨by omega,?_⟩
 exact⟨rfl,rfl⟩
theorem EN{x:Nm}(hx:qG x){e u:E}(h:Wf e)(hu:Wf u)(hl:e.cW<=400)(hlu:u.cW<=400):an Tryz.prog 208 [.agg [.v (.string (mk e.at)),e.sp],.v (.string (mk x)),.agg [.v (.string (mk u.at)),u.sp]] [] (kF (m8 (sub x (cJ u []) (cJ e [])))):=by
 refine PN _ _ _ _ _ ((bh _).mpr trivial) ((bh _).mpr trivial) ?_
 unfold Lu
 refine ak (K4 hx h hu (by omega) (by omega)) ?_
 simp only[↓zq,zs,ag,zt]
 refine⟨fun hn=>?_,fun hy=>?_⟩
 ·rw[show m8 (sub x (cJ u []) (cJ e []))=none by unfold m8;rw[if_neg hn]]
  exact kF.no _ _ ((bh _).mpr trivial)
 ·rw[show m8 (sub x (cJ u []) (cJ e []))=some (sub x (cJ u []) (cJ e [])) by unfold m8;rw[if_pos hy]]
  obtain⟨g,g1,g2,g3⟩:=KP hx h hu hl hlu
  refine ak g3 ?_
  simp only[↓zq,zs,ag,zt,aR]
  repeat refine⟨by omega,?_⟩
  rw[<-g2]
  exact kF.of g1
end Go.Proofs.Trees
namespace Go.Proofs.Trees
open Go Go.VL Go.RowKit
theorem BP(w:Nm)(c1 c2:Nm)(d1 d2:AV):an Tryz.prog 107 [.v (.string (mk w)),.sl [[.v (.string (mk c1)),d1],[.v (.string (mk c2)),d2]]] [] (bB (.agg [.v (.string (mk [])),.sl [[.v (.string (mk w)),xT],[.v (.string (mk c1)),d1],[.v (.string (mk c2)),d2]]])):=by
 refine KH _ _ ((ck _).mpr trivial) ?_
 simp only[Hz,↓zq,zs,ag,bB]
 exact⟨⟨fun c hc=>by
  simp only[aH,List.not_mem_nil,or_false]at hc
  rcases hc with rfl|rfl<;>rfl,by omega⟩,rfl⟩
theorem Lx(F:List Nm)(hF:F.length<100000)(c1 c2:Nm)(d1 d2:AV)(h1:LK.sl.has d1)(h2:LK.sl.has d2):∀(n j:Nat),p8 F n j<j+n->j+n<100000000 ->
 Gy [.v (.int .i64 (j:Int))] [zE,.cells [.v (.string (mk c1)),d1],.cells [.v (.string (mk c2)),d2],.vec 1 (bn F)] (jX 1 [.v (.int .i64 (p8 F n j:Int))] [zE,.cells [.v (.string (mk c1)),d1],.cells [.v (.string (mk c2)),d2]])
 |0,j,h,_=>by simp only[p8]at h;omega
 |
  n+1,j,h,hj=>by
  refine Pg _ _ _ _ _ _ _ _ ?_
  simp only[H4,↓zq,zs,ag,zt,ag,bj,h1,h2]
  refine ak (zG (j+1) j (by omega) (by omega)) ?_
  have hd:=iw (j+1) j (by omega)
  simp only[↓zq,zs,ag,zt,aW,aT]
  refine⟨by simp[cq];omega,?_⟩
  refine ak (wv F _ (.of F) (tN j) (by omega)) ?_
  simp only[↓zq,zs,ag,zt]
  rw[p8]at h |-
  refine⟨fun hm=>?_,fun hm=>?_⟩
  ·rw[if_pos hm]at h |-
   rw[bS j (by omega)]
   exact Lx F hF c1 c2 d1 d2 h1 h2 n (j+1) (by omega) (by omega)
  ·rw[if_neg hm]
   exact⟨rfl,rfl,rfl⟩
theorem uc{x:Nm}{a c d:Ty}(h:(pK a x c d).atoms<=400):(sub x (.rc a) c).atoms<=400/\(sub x (.rc a) d).atoms<=400:=by
 simp only[pK,Ty.atoms]at h;omega
theorem Wf.ir{e:E}(h:Wf e){t:Ty}(ht:cJ e []=t)(hl:t.atoms<=400):e.cW<=400:=by rw[h.cW [],ht];exact hl
def Ro(n:Nat):Prop:=∀(e:E) (s:Nm),Wf e->e.cW<=n->e.cW<=400->qG s->an Tryz.prog 207 [.agg [.v (.string (mk e.at)),e.sp],.v (.string (mk s))] [] (kF (lC (cJ e []) s))
theorem ka{e:E}{s:Nm}(h:Wf e):∀t,lC (cJ e []) s=some t->fJ t:=fun t ht=>h.ql.dv (cI.1 ht)
theorem qT{t:Ty}(h:fJ t):∀d,m8 t=some d->fJ d:=fun d hd=>by obtain⟨_,rfl⟩:=eS.1 hd;exact h
theorem Pu(n:Nat)(ih:Ro n)(m:Nm)(B:E)(hm:qG m)(hB:Wf B)(hl:(E.list [.atom dC,.atom m,B]).cW<=n+1)(hl4:(E.list [.atom dC,.atom m,B]).cW<=400)(s:Nm)(hs:qG s) :
 an Tryz.prog 238 [.agg [.v (.string (mk [])),(E.list [.atom dC,.atom m,B]).sp],.v (.string (mk s))] [] (kF (lC (cJ (.list [.atom dC,.atom m,B]) []) s)):=by
 have hw:Wf (.list [.atom dC,.atom m,B]):=.rc hm hB
 have hsz:=hw.sz
 have hA:=DW hw (.sl [[.v (.string (mk s)),xT]]) [.atom s] ⟨(ck _).mpr trivial,by simp only[fY,E.bo,fq];rfl⟩ (by omega) (fun o ho=>by
  simp only[aH,List.not_mem_nil,or_false]at ho
  subst ho
  exact⟨.atom hs.1,by simp[E.sz]⟩) (by simp)
 have hatsB:B.cW+2=(E.list [.atom dC,.atom m,B]).cW:=by simp only[E.cW,E.eT];omega
 have hT:cJ (.list [.atom dC,.atom m,B]) []=.rc (cJ B [m]):=e7 _ _ _
 obtain⟨w1,w2,_,_,w5⟩:=ki (z6 (.list [.atom dC,.atom m,B]) [.atom s]) (cJ (.list [.atom dC,.atom m,B]) []) [] 0 (.nil _ _) (tL hw []) fun y hy=>⟨aC _ ((kU hw [] [] y).2 (.inr hy)),(mI hw [] y hy).1⟩
 have hsF:s∈z6 (.list [.atom dC,.atom m,B]) [.atom s]:=aB _ (re (o:=.atom s) (by simp) (.atom hs.1) (by rw[rp hs];simp[bb]))
 have haF:∀y,bb y (cJ B [m])=true->y∈z6 (.list [.atom dC,.atom m,B]) [.atom s]:=fun y hy=>aC _ ((kU hw [] [] y).2 (.inr (by rw[hT];exact hy)))
 unfold zz at hA
 rw[hT]at hA w1 w2 w5
 rw[hT]
 generalize z6 (.list [.atom dC,.atom m,B]) [.atom s]=F at *
 obtain⟨_,_,_,hxF⟩:=gb F 0
 simp only[gD,aT]at hA w1 w2 w5
 generalize hxd:tN (nx F 0)=x at *
 have hx:qG x:=by rw[<-hxd];exact xV _
 generalize (gD F (cJ B [m]) [x] (nx F 0+1)).1=b at *
 have hb:Wf b:=by cases w1;assumption
 rw[e7]at w2
 have hbt:cJ b [x]=cJ B [m]:=by injection w2
 have hxa:bb x (cJ B [m])=false:=by
  cases q:bb x (cJ B [m])with
  |false=>rfl
  |true=>exact absurd (haF x q) hxF
 have hxs:x≠s:=fun e=>hxF (by rw[e];exact hsF)
 generalize cJ B [m]=a at *
 have hbo:cJ b []=du (.name x) a 0:=by
  have:=xG x hb []
  rw[cR,hbt]at this;exact this
 have hba:b.cW+2=(E.list [.atom dC,.atom m,B]).cW:=by
  rw[hw.cW [],hT,hb.cW [],hbo,fw];simp only[Ty.atoms];omega
 have i1:=ih b s hb (by omega) (by omega) hs
 have i2:=ih b x hb (by omega) (by omega) hx
 have n1:=ka (s:=s) hb
 have n2:=ka (s:=x) hb
 rw[hbo]at i1 i2 n1 n2
 have hP:=P3.of (.atom dC) (.atom x) b
 rw[BB hxa hxs]
 have hE1:Wf (.list [.atom dC,.atom x,b]):=w1
 have hE1t:cJ (.list [.atom dC,.atom x,b]) []=.rc a:=by rw[e7];exact w2
 have hE1l:(E.list [.atom dC,.atom x,b]).cW<=400:=by
  have:(E.list [.atom dC,.atom x,b]).cW=b.cW+2:=by simp only[E.cW,E.eT];omega
  omega
 refine NH _ _ _ ((bh _).mpr trivial) ?_
 unfold MB
 refine ak hA ?_
 simp only[↓zq,zs,ag,zt,aR,bH,toNat_one,bw,hP.1,hP.2.1,hP.2.2.1,hP.2.2.2,dQ]
 repeat refine⟨by omega,?_⟩
 refine aO i1 (kF.ne n1) ?_
 rintro r o ⟨rfl,c1,d1,hd1,rfl,hc1⟩
 simp only[↓zq,zs,ag,zt,gh hd1]
 repeat refine⟨by omega,?_⟩
 refine aO i2 (kF.ne n2) ?_
 rintro r o ⟨rfl,c2,d2,hd2,rfl,hc2⟩
 simp only[↓zq,zs,ag,zt,gh hd2]
 cases q1:lC (du (.name x) a 0) s with
 |
  none =>
  simp only[bC,bE]
  exact⟨fun _=>kF.no _ _ ((bh _).mpr trivial),fun h=>(by cases h)⟩
 |some c =>
 cases q2:lC (du (.name x) a 0) x with
 |
  none =>
  simp only[bC,bu,bE,ba]
  exact⟨fun h=>(by cases h),fun _=>⟨fun _=>kF.no _ _ ((bh _).mpr trivial),fun h=>(by cases h)⟩⟩
 |some d =>
 simp only[bu,ba]
 refine⟨fun h=>(by cases h),fun _=>⟨fun h=>(by cases h),fun _=>?_⟩⟩
 obtain⟨ec,wc,tc,rfl,rfl⟩:=hc1 c q1
 obtain⟨ed,wd,td,rfl,rfl⟩:=hc2 d q2
 have lc:=(cI.1 q1).small
 have ld:=(cI.1 q2).small
 have p1:=EN hx wc hE1 (wc.ir tc lc) hE1l
 have p2:=EN hx wd hE1 (wd.ir td ld) hE1l
 have g1:=qT (hE1.ql.sub (x:=x) wc.ql)
 have g2:=qT (hE1.ql.sub (x:=x) wd.ql)
 rw[hE1t,tc]at p1 g1
 rw[hE1t,td]at p2 g2
 simp only[bH]at p1 p2
 repeat refine⟨by omega,?_⟩
 refine aO p1 (kF.ne g1) ?_
 rintro r o ⟨rfl,c3,d3,hd3,rfl,hc3⟩
 simp only[↓zq,zs,ag,zt,gh hd3]
 repeat refine⟨by omega,?_⟩
 refine aO p2 (kF.ne g2) ?_
 rintro r o ⟨rfl,c4,d4,hd4,rfl,hc4⟩
 simp only[↓zq,zs,ag,zt,gh hd4]
 have big:∀t:Ty,m8 t=none->¬t.atoms<=400:=fun t ht hle=>by unfold m8 at ht;rw[if_pos hle]at ht;cases ht
 have out0:(m8 (sub x (.rc a) c)=none\/m8 (sub x (.rc a) d)=none)->m8 (pK a x c d)=none:=fun h=>by
  unfold m8
  rw[if_neg fun hle=>?_]
  have:=uc hle
  rcases h with h|h
  ·exact big _ h this.1
  ·exact big _ h this.2
 cases q3:m8 (sub x (.rc a) c)with
 |
  none =>
  rw[out0 (.inl q3)]
  simp only[bC]
  exact⟨fun _=>kF.no _ _ ((bh _).mpr trivial),fun h=>(by cases h)⟩
 |some c' =>
 cases q4:m8 (sub x (.rc a) d)with
 |
  none =>
  rw[out0 (.inr q4)]
  simp only[bC,bu]
  exact⟨fun h=>(by cases h),fun _=>⟨fun _=>kF.no _ _ ((bh _).mpr trivial),fun h=>(by cases h)⟩⟩
 |some d' =>
 simp only[bu]
 refine⟨fun h=>(by cases h),fun _=>⟨fun h=>(by cases h),fun _=>?_⟩⟩
 obtain⟨ec',wc',tc',rfl,rfl⟩:=hc3 c' q3
 obtain⟨ed',wd',td',rfl,rfl⟩:=hc4 d' q4
 obtain⟨lc',e3⟩:=eS.1 q3
 obtain⟨ld',e4⟩:=eS.1 q4
 rw[e3]at lc';rw[e4]at ld'
 have z1:=wc'.sz
 have z2:=wd'.sz
 have k1:=wc'.ir tc' lc'
 have k2:=wd'.ir td' ld'
 have f1:=DB wd' [] [] (.sl []) (.of []) (by simp;omega)
 have fl1:=fP ed' [] []
 have fl2:=fP ec' [] (j1 ed' [] [])
 simp only[aG,aZ]at fl1
 have f2:=DB wc' [] (j1 ed' [] []) (.sl []) (.of []) (by simp;omega)
 refine aU f1 ?_
 simp only[↓zq,zs,ag,zt,aP,bO,Ob.es]
 refine aU f2 ?_
 simp only[↓zq,zs,ag,zt,aP,bO,Ob.es]
 have hF3:∀y,(bb y c'=true\/bb y d'=true)->y∈j1 ec' [] (j1 ed' [] []):=fun y hy=>by
  rw[kU wc',kU wd']
  rcases hy with hy|hy
  ·exact .inr (by rw[tc'];exact hy)
  ·exact .inl (.inr (by rw[td'];exact hy))
 generalize j1 ec' [] (j1 ed' [] [])=F3 at *
 obtain⟨_,y2,_,hyF⟩:=gb F3 0
 refine cX (Lx F3 (by omega) _ _ _ _ ((bh _).mpr trivial) ((bh _).mpr trivial) (F3.length+1) 0 (by show nx F3 0<_;omega) (by omega)) ?_
 have hnx:p8 F3 (F3.length+1) 0=nx F3 0:=rfl
 rw[hnx]
 simp only[↓zq,zs,ag,zt,ag,aL,bj,bh]
 refine ak (zG (nx F3 0+1) (nx F3 0) (by omega) (by omega)) ?_
 have hdl:=iw (nx F3 0+1) (nx F3 0) (by omega)
 simp only[↓zq,zs,ag,zt,aW,aT]
 refine⟨by omega,?_⟩
 obtain⟨y,hyd⟩:∃y:Nm,(116::dd (nx F3 0):Nm)=y:=⟨_,rfl⟩
 rw[hyd]
 rw[show tN (nx F3 0)=y from hyd]at hyF
 have hy:qG y:=by rw[<-hyd];exact xV _
 have hcy:cJ ec' [y]=c':=by
  have:=ub [y] wc' [] (fun z hz hm=>hyF (by
   simp only[aS]at hm
   rw[<-hm];exact hF3 z (.inl (by rw[<-tc'];exact hz))))
  rw[cR,tc']at this;exact this
 have hdy:cJ ed' [y]=d':=by
  have:=ub [y] wd' [] (fun z hz hm=>hyF (by
   simp only[aS]at hm
   rw[<-hm];exact hF3 z (.inr (by rw[<-td'];exact hz))))
  rw[cR,td']at this;exact this
 have hyb:cJ (.atom y) [y]=.bound 0:=by
  simp only[cJ];rw[if_neg hy.2.1,if_neg hy.2.2,show cb y [y] [y].length=some 0 from j8 y []]
 let o1:E:=.list [.atom [42],ed',.atom y]
 let o2:E:=.list [.atom [43],ec',o1]
 let o3:E:=.list [.atom dC,.atom y,o2]
 have hw3:Wf o3:=.rc hy (.plus wc' (.times wd' (.atom hy.1)))
 have ht3:cJ o3 []=pK a x c d:=by
  show cJ (.list [.atom dC,.atom y,o2]) []=_
  rw[e7]
  show Ty.rc (cJ (.list [.atom [43],ec',o1]) [y])=_
  rw[dI]
  show Ty.rc (.plus (cJ ec' [y]) (cJ (.list [.atom [42],ed',.atom y]) [y]))=_
  rw[dk,hcy,hdy,hyb,pK,e3,e4]
 have m1:=z7 [42] ed' (.atom y)
 have m2:=z7 [43] ec' o1
 have m3:=z7 dC (.atom y) o2
 simp only[o1,bH,dQ]at m1 m2 m3
 refine ak m1 ?_
 simp only[↓zq,zs,ag,zt,aR]
 repeat refine⟨by omega,?_⟩
 refine ak m2 ?_
 simp only[↓zq,zs,ag,zt,aR]
 repeat refine⟨by omega,?_⟩
 refine ak m3 ?_
 simp only[↓zq,zs,ag,zt,aR]
 repeat refine⟨by omega,?_⟩
 have z3:=hw3.sz
 have hats3:o3.cW=ec'.cW+ed'.cW+5:=by simp only[o3,o2,o1,E.cW,E.eT];omega
 have ma:=Cn o3 hw3.ok (by omega)
 rw[dA]at ma
 simp only[o3,o2,o1,bH]at ma
 refine ak ma ?_
 simp only[↓zq,zs,ag,zt]
 have hd3:(pK a x c d).atoms=o3.cW:=by rw[<-ht3,<-hw3.cW []]
 unfold m8
 by_cases hle:(pK a x c d).atoms<=400
 ·rw[if_pos hle]
  have:=kF.of hw3
  rw[ht3]at this
  rw[show decide ((((E.list [.atom dC,.atom y,.list [.atom [43],ec',.list [.atom [42],ed',.atom y]]]).cW:Nat):Int)<=400)=true from decide_eq_true (by show ((o3.cW:Nat):Int)<=400;omega)]
  exact this
 ·rw[if_neg hle]
  rw[show decide ((((E.list [.atom dC,.atom y,.list [.atom [43],ec',.list [.atom [42],ed',.atom y]]]).cW:Nat):Int)<=400)=false from decide_eq_false (by show ¬((o3.cW:Nat):Int)<=400;omega)]
  exact kF.no _ _ ((bh o3).mpr trivial)
theorem y9:∀n,Ro n
 |0=>fun e s h hl=>by have:=ef (cJ e []);rw[<-h.cW []]at this;omega
 |
  n+1=>by
  intro e s h hl h4 hs
  cases h with
  |
   @atom c hc =>
   refine Dt _ _ _ ((bh _).mpr trivial) ?_
   simp only[AO,dQ,↓zq,zs,ag,zt]
   refine⟨fun _=>⟨fun he=>?_,fun hne=>?_⟩,fun h=>absurd h hc⟩
   ·have he:c=s:=he
    subst he
    rw[rp hs,oj,if_pos rfl]
    exact kF.of (e:=.atom [49]) (.atom (by simp))
   ·have hne:¬c=s:=hne
    have:lC (cJ (.atom c) []) s=some .zero:=by
     simp only[cJ]
     split
     ·exact uY _
     ·split
      ·exact xy _
      ·rw[show cb c [] ([]:List Nm).length=none from rfl,oj,if_neg hne]
    rw[this]
    exact kF.of (e:=.atom [48]) (.atom (by simp))
  |
   @plus x y hx hy =>
   have hxy:(E.list [.atom [43],x,y]).cW=x.cW+y.cW+1:=by simp only[E.cW,E.eT];omega
   have p1:1<=x.cW:=by rw[hx.cW []];exact ef _
   have p2:1<=y.cW:=by rw[hy.cW []];exact ef _
   refine Dt _ _ _ ((bh _).mpr trivial) ?_
   have hP:=P3.of (.atom [43]) x y
   simp only[AO,bH,toNat_one,bw,↓zq,zs,ag,zt,hP.1,hP.2.1,hP.2.2.1,hP.2.2.2,aR]
   refine⟨fun h=>absurd rfl h,fun _=>?_⟩
   refine ak (nG [43] x y) ?_
   simp only[↓zq,zs,ag,zt]
   refine⟨fun h=>by simp at h,fun _=>?_⟩
   repeat refine⟨by omega,?_⟩
   rw[dI,vC]
   refine aO (y9 n x s hx (by omega) (by omega) hs) (kF.ne (ka hx)) ?_
   rintro r o ⟨rfl,c1,d1,hd1,rfl,hc1⟩
   simp only[↓zq,zs,ag,zt,gh hd1]
   repeat refine⟨by omega,?_⟩
   refine aO (y9 n y s hy (by omega) (by omega) hs) (kF.ne (ka hy)) ?_
   rintro r o ⟨rfl,c2,d2,hd2,rfl,hc2⟩
   simp only[↓zq,zs,ag,zt,gh hd2]
   refine ak (BP [43] c1 c2 d1 d2) ?_
   simp only[↓zq,zs,ag,zt,bF,eh,ck]
   repeat refine⟨by omega,?_⟩
   refine ak (nG [43] x y) ?_
   simp only[↓zq,zs,ag,zt]
   refine⟨fun h=>by simp at h,fun _=>?_⟩
   cases q1:lC (cJ x []) s with
   |
    none =>
    simp only[bC,bE]
    exact⟨fun h=>(by cases h),fun _=>kF.no _ _ ((ck _).mpr trivial)⟩
   |some tx =>
   cases q2:lC (cJ y []) s with
   |
    none =>
    simp only[bC,bu,bE,ba]
    exact⟨fun _=>⟨fun h=>(by cases h),fun _=>kF.no _ _ ((ck _).mpr trivial)⟩,fun h=>(by cases h)⟩
   |some t2 =>
   simp only[bu,ba]
   refine⟨fun _=>⟨fun _=>?_,fun h=>(by cases h)⟩,fun h=>(by cases h)⟩
   obtain⟨e1,w1,te1,rfl,rfl⟩:=hc1 tx q1
   obtain⟨e2,w2,te2,rfl,rfl⟩:=hc2 t2 q2
   have l1:=w1.ir te1 (cI.1 q1).small
   have l2:=w2.ir te2 (cI.1 q2).small
   have z1:=w1.sz
   have z2:=w2.sz
   have hw3:Wf (.list [.atom [43],e1,e2]):=.plus w1 w2
   have ht3:cJ (.list [.atom [43],e1,e2]) []=.plus tx t2:=by rw[dI,te1,te2]
   have ma:=Cn _ hw3.ok (by simp only[E.sz,E.iY];omega)
   rw[dA]at ma
   simp only[bH]at ma
   have e3:AV.sl [[.v (.string (mk [43])),xT],[.v (.string (mk e1.at)),e1.sp],[.v (.string (mk e2.at)),e2.sp]]=(E.list [.atom [43],e1,e2]).sp:=by simp only[E.sp,E.bo,fq];rfl
   rw[e3]
   refine ak ma ?_
   simp only[↓zq,zs,ag,zt]
   have hd3:(Ty.plus tx t2).atoms=(E.list [.atom [43],e1,e2]).cW:=by rw[<-ht3,<-hw3.cW []]
   unfold m8
   by_cases hle:(Ty.plus tx t2).atoms<=400
   ·rw[if_pos hle,show decide ((((E.list [.atom [43],e1,e2]).cW:Nat):Int)<=400)=true from decide_eq_true (by omega)]
    have:=kF.of hw3
    rw[ht3]at this
    exact this
   ·rw[if_neg hle,show decide ((((E.list [.atom [43],e1,e2]).cW:Nat):Int)<=400)=false from decide_eq_false (by omega)]
    exact kF.no _ _ ((bh _).mpr trivial)
  |
   @times x y hx hy =>
   have hxy:(E.list [.atom [42],x,y]).cW=x.cW+y.cW+1:=by simp only[E.cW,E.eT];omega
   have p1:1<=x.cW:=by rw[hx.cW []];exact ef _
   have p2:1<=y.cW:=by rw[hy.cW []];exact ef _
   refine Dt _ _ _ ((bh _).mpr trivial) ?_
   have hP:=P3.of (.atom [42]) x y
   simp only[AO,bH,toNat_one,bw,↓zq,zs,ag,zt,hP.1,hP.2.1,hP.2.2.1,hP.2.2.2,aR]
   refine⟨fun h=>absurd rfl h,fun _=>?_⟩
   refine ak (nG [42] x y) ?_
   simp only[↓zq,zs,ag,zt]
   refine⟨fun h=>by simp at h,fun _=>?_⟩
   repeat refine⟨by omega,?_⟩
   rw[dk,sP]
   refine aO (y9 n x s hx (by omega) (by omega) hs) (kF.ne (ka hx)) ?_
   rintro r o ⟨rfl,c1,d1,hd1,rfl,hc1⟩
   simp only[↓zq,zs,ag,zt,gh hd1]
   repeat refine⟨by omega,?_⟩
   refine aO (y9 n y s hy (by omega) (by omega) hs) (kF.ne (ka hy)) ?_
   rintro r o ⟨rfl,c2,d2,hd2,rfl,hc2⟩
   simp only[↓zq,zs,ag,zt,gh hd2]
   refine ak (BP [43] c1 c2 d1 d2) ?_
   simp only[↓zq,zs,ag,zt,bF,eh,ck]
   repeat refine⟨by omega,?_⟩
   refine ak (nG [42] x y) ?_
   simp only[↓zq,zs,ag,zt]
   refine⟨fun _=>?_,fun h=>by simp at h⟩
   repeat refine⟨by omega,?_⟩
   refine ak (BP [42] c1 y.at d1 y.sp) ?_
   simp only[↓zq,zs,ag,zt,bF,eh,ck,bh]
   repeat refine⟨by omega,?_⟩
   refine ak (BP [42] x.at c2 x.sp d2) ?_
   simp only[↓zq,zs,ag,zt,bF,eh,ck,bh]
   repeat refine⟨by omega,?_⟩
   refine ak (BP [43] [] [] _ _) ?_
   simp only[↓zq,zs,ag,zt,bF,eh,ck]
   repeat refine⟨by omega,?_⟩
   cases q1:lC (cJ x []) s with
   |
    none =>
    simp only[bC,bE]
    exact⟨fun h=>(by cases h),fun _=>kF.no _ _ ((ck _).mpr trivial)⟩
   |some tx =>
   cases q2:lC (cJ y []) s with
   |
    none =>
    simp only[bC,bu,bE,ba]
    exact⟨fun _=>⟨fun h=>(by cases h),fun _=>kF.no _ _ ((ck _).mpr trivial)⟩,fun h=>(by cases h)⟩
   |some t2 =>
   simp only[bu,ba]
   refine⟨fun _=>⟨fun _=>?_,fun h=>(by cases h)⟩,fun h=>(by cases h)⟩
   obtain⟨e1,w1,te1,rfl,rfl⟩:=hc1 tx q1
   obtain⟨e2,w2,te2,rfl,rfl⟩:=hc2 t2 q2
   have l1:=w1.ir te1 (cI.1 q1).small
   have l2:=w2.ir te2 (cI.1 q2).small
   have z1:=w1.sz
   have z2:=w2.sz
   have z3:=hx.sz
   have z4:=hy.sz
   have hw3:Wf (.list [.atom [43],.list [.atom [42],e1,y],.list [.atom [42],x,e2]]):=.plus (.times w1 hy) (.times hx w2)
   have ht3:cJ (.list [.atom [43],.list [.atom [42],e1,y],.list [.atom [42],x,e2]]) []=.plus (.times tx (cJ y [])) (.times (cJ x []) t2):=by rw[dI,dk,dk,te1,te2]
   have ma:=Cn _ hw3.ok (by simp only[E.sz,E.iY];omega)
   rw[dA]at ma
   simp only[bH]at ma
   have e3:AV.sl [[.v (.string (mk [43])),xT],[.v (.string (mk [])),.sl [[.v (.string (mk [42])),xT],[.v (.string (mk e1.at)),e1.sp],[.v (.string (mk y.at)),y.sp]]],[.v (.string (mk [])),.sl [[.v (.string (mk [42])),xT],[.v (.string (mk x.at)),x.sp],[.v (.string (mk e2.at)),e2.sp]]]]=(E.list [.atom [43],.list [.atom [42],e1,y],.list [.atom [42],x,e2]]).sp:=by simp only[E.sp,E.bo,fq];rfl
   rw[e3]
   refine ak ma ?_
   simp only[↓zq,zs,ag,zt]
   have hd3:(Ty.plus (.times tx (cJ y [])) (.times (cJ x []) t2)).atoms=(E.list [.atom [43],.list [.atom [42],e1,y],.list [.atom [42],x,e2]]).cW:=by rw[<-ht3,<-hw3.cW []]
   unfold m8
   by_cases hle:(Ty.plus (.times tx (cJ y [])) (.times (cJ x []) t2)).atoms<=400
   ·rw[if_pos hle,show decide ((((E.list [.atom [43],.list [.atom [42],e1,y],.list [.atom [42],x,e2]]).cW:Nat):Int)<=400)=true from decide_eq_true (by omega)]
    have:=kF.of hw3
    rw[ht3]at this
    exact this
   ·rw[if_neg hle,show decide ((((E.list [.atom [43],.list [.atom [42],e1,y],.list [.atom [42],x,e2]]).cW:Nat):Int)<=400)=false from decide_eq_false (by omega)]
    exact kF.no _ _ ((bh _).mpr trivial)
  |
   @rc m B hm hB =>
   have hlp:=Pu n (y9 n) m B hm hB hl h4 s hs
   have hg:=ka (s:=s) (Wf.rc hm hB)
   refine Dt _ _ _ ((bh _).mpr trivial) ?_
   have hP:=P3.of (.atom dC) (.atom m) B
   simp only[AO,bH,toNat_one,bw,↓zq,zs,ag,zt,hP.1,hP.2.1,hP.2.2.1,hP.2.2.2,aR]
   refine⟨fun h=>absurd rfl h,fun _=>?_⟩
   refine ak (nG dC (.atom m) B) ?_
   simp only[↓zq,zs,ag,zt]
   refine⟨fun _=>?_,fun h=>absurd rfl h⟩
   refine aO hlp (kF.ne hg) ?_
   rintro r o ⟨rfl,c1,d1,hd1,rfl,hc1⟩
   simp only[↓zq,zs,ag,zt,gh hd1]
   exact⟨rfl,c1,d1,hd1,rfl,hc1⟩
end Go.Proofs.Trees
namespace Go.Proofs.Trees
open Go Go.VL Go.RowKit
theorem ox:∀(n k:Nat),k<10 ^ (n+1)->(dd k).length<=n+1
 |0,k,h=>by rw[ez (by omega)];simp
 |
  n+1,k,h=>by
  by_cases h1:k<10
  ·rw[ez h1];simp
  ·rw[fe h1]
   have:=ox n (k/10) (by
    have:10 ^ (n+1+1)=10*10 ^ (n+1):=by rw[Nat.pow_succ,Nat.mul_comm]
    omega)
   simp;omega
inductive Sh:E->Prop
 |atom {s:Nm} (h:s.length<=20):Sh (.atom s)
 |l3 {h:Nm} {a b:E} (hh:h.length<=20) (ha:Sh a) (hb:Sh b):Sh (.list [.atom h,a,b])
theorem Sh.df{e:E}(hw:Wf e)(h:Sh e):(eG e).length<=50*e.cW:=by
 induction hw with
 |atom _=>cases h with|atom h=>simp only[eG,E.cW];omega
 |
  plus _ _ i1 i2 =>
  cases h with|l3 hh ha hb =>
  have:=i1 ha
  have:=i2 hb
  simp only[eG,dP,au,aq,aG,E.cW,E.eT];omega
 |
  times _ _ i1 i2 =>
  cases h with|l3 hh ha hb =>
  have:=i1 ha
  have:=i2 hb
  simp only[eG,dP,au,aq,aG,E.cW,E.eT];omega
 |
  rc _ _ i =>
  cases h with|l3 hh ha hb =>
  cases ha with|atom ha =>
  have:=i hb
  simp only[eG,dP,au,aq,aG,E.cW,E.eT];omega
def uV(t:Ty):Prop:=∀y,bb y t=true->y.length<=20
theorem wU{k:Nat}(h:k<100000000):(tN k).length<=20:=by
 have:=ox 7 k (by omega)
 simp;omega
theorem pH(F:List Nm)(hF:F.length<=10000):∀(t:Ty) (to:List Nm) (k:Nat),uV t->(∀w,w∈to->w.length<=20)->k+(F.length+1)*t.atoms<90000000->Sh (gD F t to k).1
 | .zero,_,_,_,_,_=>.atom (by simp)
 | .one,_,_,_,_,_=>.atom (by simp)
 | .name s,_,_,hn,_,_=>.atom (hn s (by simp[bb]))
 |
  .bound u,to,_,_,ht,_=>by
  refine .atom ?_
  show (jG to u).length<=20
  unfold jG
  by_cases h:to.length-1-u<to.length
  ·rw[aa,bg h];exact ht _ (bN h)
  ·rw[aa,List.getElem?_eq_none (by omega)];simp
 |
  .plus a b,to,k,hn,ht,hk=>by
  have h1:=gU F a to k
  have:(F.length+1)*(1+a.atoms+b.atoms)=(F.length+1)+(F.length+1)*a.atoms+(F.length+1)*b.atoms:=by simp only[cM,dq]
  simp only[Ty.atoms]at hk
  exact .l3 (by simp) (pH F hF a to k (fun y hy=>hn y (by simp[bb,hy])) ht (by omega)) (pH F hF b to _ (fun y hy=>hn y (by simp[bb,hy])) ht (by omega))
 |
  .times a b,to,k,hn,ht,hk=>by
  have h1:=gU F a to k
  have:(F.length+1)*(1+a.atoms+b.atoms)=(F.length+1)+(F.length+1)*a.atoms+(F.length+1)*b.atoms:=by simp only[cM,dq]
  simp only[Ty.atoms]at hk
  exact .l3 (by simp) (pH F hF a to k (fun y hy=>hn y (by simp[bb,hy])) ht (by omega)) (pH F hF b to _ (fun y hy=>hn y (by simp[bb,hy])) ht (by omega))
 |
  .rc a,to,k,hn,ht,hk=>by
  obtain⟨g1,g2,_,_⟩:=gb F k
  have:(F.length+1)*(2+a.atoms)=(F.length+1)*2+(F.length+1)*a.atoms:=by simp only[cM]
  simp only[Ty.atoms]at hk
  have hl:=wU (k:=nx F k) (by omega)
  exact .l3 (by simp) (.atom hl) (pH F hF a _ _ hn (fun w hw=>by
   rcases aK.1 hw with hw|hw
   ·exact ht w hw
   ·simp only[aS]at hw;rw[hw];exact hl) (by omega))
def Es(t:Ty):Nm:=eG (gD (bI t []) t [] 0).1
def told(t:Ty):Option Nm:=if t.atoms<=400/\(qD (Es t)).isSome=true then some (Es t)else none
theorem DF{t:Ty}(g:fJ t)(hs:uV t)(ha:t.atoms<=400):(Es t).length<=20000:=by
 obtain⟨h1,h2,_⟩:=ki (bI t []) t [] 0 (.nil _ _) g.1 fun y hy=>⟨(eM t [] y).2 (.inr hy),g.2 y hy⟩
 have hn:=er t []
 simp only[aG,aZ]at hn
 have hm:((bI t []).length+1)*t.atoms<=401*400:=Nat.mul_le_mul (by omega) ha
 have:=(pH (bI t []) (by omega) t [] 0 hs (fun w hw=>by cases hw) (by omega)).df h1
 have:=h1.ir h2 ha
 unfold Es;omega
theorem uH(s:Nm):(we s).isSome=(qD s).isSome:=by
 rw[tJ]
 cases he:we s with
 |none=>rfl
 |
  some e =>
  obtain⟨h1,h2,h3⟩:=oW he
  simp only[iF e [],h2];rfl
theorem QD(s:Nm):an Tryz.prog 209 [.v (.string (mk s))] [] (bB (.v (.bool (qD s).isSome))):=by
 refine Qh _ ?_
 unfold Na
 refine aO (EY s) (j0.ne _ _ (fun h=>h)) ?_
 rintro r o ⟨c,d,hd,rfl,hh⟩
 have hhas:bF [.str,.sl] [.v (.string (mk c)),d] 0:=by simp[bF,eh,hd]
 simp only[↓zq,zs,ag,zt,uH]
 exact⟨hhas,rfl,rfl⟩
theorem Q6{e:E}(h:Wf e)(hl:e.cW<=400)(hs:uV (cJ e [])):an Tryz.prog 166 [.agg [.v (.string (mk e.at)),e.sp]] [] (bB (qY (told (cJ e [])))):=by
 refine QX _ _ ((bh _).mpr trivial) ?_
 unfold Ig
 have z:=h.sz
 have ma:=Cn e h.ok (by omega)
 rw[dA]at ma
 have hA:=DW h xT [] ⟨(bj).mpr trivial,rfl⟩ (by omega) (fun o ho=>by cases ho) (by simp)
 have ha:(cJ e []).atoms<=400:=by rw[<-h.cW []];exact hl
 have hc:zz e []=(gD (bI (cJ e []) []) (cJ e []) [] 0).1:=by
  unfold zz z6 rA
  rw[List.flatMap_nil,cR,jt (F':=bI (cJ e []) []) fun y=>by rw[kU h,eM]]
 have hx:eG (zz e [])=Es (cJ e []):=by rw[hc];rfl
 have hlen:=DF h.ql hs ha
 have hT:=JR (zz e []) (wu h).1.ok (by rw[hx];omega)
 rw[dA,hx]at hT
 refine ak ma ?_
 simp only[↓zq,zs,ag,zt]
 refine⟨fun h=>by omega,fun _=>?_⟩
 refine ak hA ?_
 simp only[↓zq,zs,ag,zt,aR]
 refine ak hT ?_
 simp only[↓zq,zs,ag,zt]
 refine ak (QD _) ?_
 simp only[↓zq,zs,ag,zt]
 unfold told
 refine⟨fun hn=>?_,fun hy=>?_⟩
 ·rw[if_neg (by rw[hn];simp)];exact⟨rfl,rfl⟩
 ·rw[if_pos ⟨ha,hy⟩];exact⟨rfl,rfl⟩
abbrev lN:Nm:=[35,49]
noncomputable def cE (s:Nm):Option Nm:=match qD s with
 |some (.rc a)=>(nH a lN).bind told
 |_=>none
theorem nq{s:Nm}{t:Ty}(h:qD s=some t):∃e,we s=some e/\Wf e/\cJ e []=t/\e.cW<=400/\e.ok:=by
 rw[tJ]at h
 cases he:we s with
 |none=>rw[he]at h;cases h
 |
  some e =>
  rw[he]at h
  obtain⟨h1,h2,h3⟩:=oW he
  obtain⟨hok,_⟩:=nB h1
  obtain⟨w1,w2⟩:=j2 e [] t hok (fun w hw=>by cases hw) h
  exact⟨e,rfl,w1,w2,h3,hok⟩
theorem qS{e:E}{x:Nm}{a d:Ty}(hw:Wf e)(ht:cJ e []=.rc a)(hx:qG x)(hd:nH a x=some d):fJ d/\(uV (.rc a)->uV d):=by
 simp only[nH,bc,cI,eS]at hd
 obtain⟨d',h1,_,rfl⟩:=hd
 have g:fJ (.rc a):=ht ▸ hw.ql
 have go:fJ (du (.name x) a 0):=⟨gm x a g.1,fun y hy=>by
  rcases gf a 0 hy with rfl|h
  ·exact hx
  ·exact g.2 y h⟩
 refine⟨g.sub (go.dv h1),fun hs y hy=>?_⟩
 rcases iU _ hy with h|⟨h,h'⟩
 ·exact hs y h
 ·rcases gf a 0 (h1.names y h')with e|e
  ·exact absurd e h
  ·exact hs y e
def J5(y:Nm):Prop:=iq y=true\/dD y=true
theorem iD:∀(e:E) (ar:List Nm) (t:Ty),cY e ar=some t->∀y,bb y t=true->J5 y
 |
  .atom s,ar,t,ht,y,hy=>by
  simp only[cY]at ht
  split at ht
  ·cases ht;cases hy
  ·split at ht
   ·cases ht;cases hy
   ·split at ht
    ·rename_i hp
     cases ht
     simp only[bb,decide_eq_true_eq]at hy
     subst hy;exact .inl hp
    ·split at ht
     ·rename_i hq
      split at ht
      ·cases ht;cases hy
      ·cases ht
       simp only[bb,decide_eq_true_eq]at hy
       subst hy;exact .inr hq
     ·cases ht
 |
  .list [x,a,b],ar,t,ht,y,hy=>by
  by_cases h0:x.at=[43]
  ·obtain⟨t1,t2,h1,h2,rfl⟩:=fZ h0 ht
   simp only[bb,bD]at hy
   rcases hy with hy|hy
   ·exact iD a ar t1 h1 y hy
   ·exact iD b ar t2 h2 y hy
  ·by_cases h1:x.at=[42]
   ·obtain⟨t1,t2,h2,h3,rfl⟩:=fG h1 ht
    simp only[bb,bD]at hy
    rcases hy with hy|hy
    ·exact iD a ar t1 h2 y hy
    ·exact iD b ar t2 h3 y hy
   ·by_cases h2:x.at=[114,101,99]
    ·obtain⟨t1,hla,h3,rfl⟩:=dU h2 ht
     exact iD b _ t1 h3 y hy
    ·rw[ji _ h0 h1 h2]at ht;cases ht
 | .list [],ar,t,ht,_,_=>by cases ht
 | .list [_],ar,t,ht,_,_=>by cases ht
 | .list [_,_],ar,t,ht,_,_=>by cases ht
 | .list (_::_::_::_::_),ar,t,ht,_,_=>by cases ht
theorem xk{y:Nm}(h:J5 y):y.length<=3/\∀r,y≠35::r:=by
 have key:∀lo hi,116<=lo->named lo hi y=true->y.length<=3/\∀r,y≠35::r:=fun lo hi hlo h=>by
  cases y with
  |nil=>cases h
  |
   cons c r =>
   simp only[named,az,decide_eq_true_eq]at h
   refine⟨by simp;omega,fun r' e=>?_⟩
   have:c=35:=by injection e
   subst this
   have:=h.1.2.1
   have e35:(35:UInt8).toNat=35:=rfl
   omega
 rcases h with h|h
 ·exact key 120 122 (by omega) h
 ·exact key 116 116 (by omega) h
theorem mK{s:Nm}{t:Ty}(h:qD s=some t):∀y,bb y t=true->J5 y:=by
 rw[tJ]at h
 cases he:we s with
 |none=>rw[he]at h;cases h
 |some e=>rw[he]at h;exact iD e [] t h
theorem tQ{s:Nm}{a:Ty}(h:qD s=some (.rc a)):bb lN a=false:=by
 cases q:bb lN a with
 |false=>rfl
 |true=>exact absurd rfl ((xk (mK h lN q)).2 [49])
theorem AN{s:Nm}{t:Ty}(h:qD s=some t):uV t:=fun y hy=>by have:=(xk (mK h y hy)).1;omega
theorem PM{m:Nm}{B:E}(hm:qG m)(hB:Wf B)(hl:(E.list [.atom dC,.atom m,B]).cW<=400):an Tryz.prog 165 [.agg [.v (.string (mk [])),(E.list [.atom dC,.atom m,B]).sp]] [] (kF (nH (cJ B [m]) m)):=by
 have hw:Wf (.list [.atom dC,.atom m,B]):=.rc hm hB
 have hT:cJ (.list [.atom dC,.atom m,B]) []=.rc (cJ B [m]):=e7 _ _ _
 have hP:=P3.of (.atom dC) (.atom m) B
 have hbo:cJ B []=du (.name m) (cJ B [m]) 0:=by
  have:=xG m hB []
  rw[cR]at this;exact this
 have hba:B.cW+2=(E.list [.atom dC,.atom m,B]).cW:=by simp only[E.cW,E.eT];omega
 have i1:=y9 400 B m hB (by omega) (by omega) hm
 have n1:=ka (s:=m) hB
 rw[hbo]at i1 n1
 refine Rm _ _ ((bh _).mpr trivial) ?_
 simp only[HV,bH,toNat_one,bw,↓zq,zs,ag,zt,hP.1,hP.2.1,hP.2.2.1,hP.2.2.2,aR,dQ]
 repeat refine⟨by omega,?_⟩
 refine aO i1 (kF.ne n1) ?_
 rintro r o ⟨rfl,c1,d1,hd1,rfl,hc1⟩
 simp only[↓zq,zs,ag,zt,gh hd1,nH]
 cases q1:lC (du (.name m) (cJ B [m]) 0) m with
 |
  none =>
  simp only[bC,bE]
  exact⟨fun _=>kF.no _ _ ((bh _).mpr trivial),fun h=>(by cases h)⟩
 |
  some d =>
  simp only[bu,ba]
  refine⟨fun h=>(by cases h),fun _=>?_⟩
  obtain⟨ed,wd,td,rfl,rfl⟩:=hc1 d q1
  have p1:=EN hm wd hw (wd.ir td (cI.1 q1).small) hl
  have g1:=qT (hw.ql.sub (x:=m) wd.ql)
  rw[hT,td]at p1 g1
  simp only[bH]at p1
  repeat refine⟨by omega,?_⟩
  refine aO p1 (kF.ne g1) ?_
  rintro r o ⟨rfl,c2,d2,hd2,rfl,hc2⟩
  simp only[↓zq,zs,ag,zt,gh hd2]
  exact⟨rfl,c2,d2,hd2,rfl,hc2⟩
theorem Ki(s:Nm):an Tryz.prog 122 [.v (.string (mk s))] [] (bB (qY (cE s))):=by
 refine Pe _ ?_
 unfold Kx
 refine aO (EY s) (j0.ne _ _ (fun h=>h)) ?_
 rintro r o ⟨c,d,hd,rfl,hh⟩
 have hhas:bF [.str,.sl] [.v (.string (mk c)),d] 0:=by simp[bF,eh,hd]
 simp only[↓zq,zs,ag,zt]
 refine⟨hhas,fun h=>?_,fun h=>?_⟩
 ·rw[uH]at h
  have:qD s=none:=by cases hq:qD s<;>simp[hq]at h |-
  unfold cE;rw[this];exact⟨rfl,rfl⟩
 ·rw[uH]at h
  obtain⟨t,ht⟩:=Option.isSome_iff_exists.1 h
  obtain⟨e,he,hw,hte,hats,hok⟩:=nq ht
  obtain⟨e',he',hce⟩:=hh (by rw[he];rfl)
  rw[he]at he';cases he'
  have notRec:(∀a,t≠.rc a)->cE s=none:=fun hn=>by
   unfold cE;rw[ht]
   cases t<;>first|rfl|exact absurd rfl (hn _)
  rw[hce,dA]
  cases hw with
  |
   @atom c hc =>
   have hn:cE s=none:=notRec fun a q=>by
    rw[<-hte]at q
    simp only[cJ]at q
    split at q
    ·cases q
    ·split at q
     ·cases q
     ·split at q<;>cases q
   rw[hn]
   refine ak (zd c _ ((bh _).mpr trivial) hc) ?_
   simp only[↓zq,zs,ag,zt]
   exact⟨fun _=>⟨rfl,rfl⟩,fun h=>by simp at h⟩
  |
   @plus x y hx hy =>
   have hn:cE s=none:=notRec fun a q=>by rw[<-hte,dI]at q;cases q
   rw[hn]
   simp only[bH]
   refine ak (nG [43] x y) ?_
   simp only[↓zq,zs,ag,zt]
   exact⟨fun _=>⟨rfl,rfl⟩,fun h=>by simp at h⟩
  |
   @times x y hx hy =>
   have hn:cE s=none:=notRec fun a q=>by rw[<-hte,dk]at q;cases q
   rw[hn]
   simp only[bH]
   refine ak (nG [42] x y) ?_
   simp only[↓zq,zs,ag,zt]
   exact⟨fun _=>⟨rfl,rfl⟩,fun h=>by simp at h⟩
  |
   @rc m B hm hB =>
   have hrt:cJ (.list [.atom dC,.atom m,B]) []=.rc (cJ B [m]):=e7 _ _ _
   rw[hrt]at hte
   have hq:cE s=(nH (cJ B [m]) m).bind told:=by
    unfold cE;rw[ht,<-hte]
    show (nH (cJ B [m]) lN).bind told=_
    rw[EW (tQ (by rw[ht,<-hte])) (by
     cases q:bb m (cJ B [m])with
     |false=>rfl
     |true=>exact absurd (by simp) (mI hB [m] m q).2)]
   rw[hq]
   simp only[bH]
   refine ak (nG dC (.atom m) B) ?_
   simp only[↓zq,zs,ag,zt]
   refine⟨fun h=>by simp at h,fun _=>?_⟩
   have hgood:∀d,nH (cJ B [m]) m=some d->fJ d/\(uV (.rc (cJ B [m]))->uV d):=fun d hd=>qS (Wf.rc hm hB) hrt hm hd
   refine aO (PM hm hB hats) (kF.ne fun t h=>(hgood t h).1) ?_
   rintro r o ⟨rfl,c1,d1,hd1,rfl,hc1⟩
   simp only[↓zq,zs,ag,zt,gh hd1]
   cases q1:nH (cJ B [m]) m with
   |
    none =>
    simp only[bC,bE]
    exact⟨fun _=>⟨rfl,rfl⟩,fun h=>(by cases h)⟩
   |
    some d =>
    simp only[bu,ba]
    refine⟨fun h=>(by cases h),fun _=>?_⟩
    obtain⟨ed,wd,td,rfl,rfl⟩:=hc1 d q1
    have hl:d.atoms<=400:=by
     simp only[nH,bc,eS]at q1
     obtain⟨_,_,h1,h2⟩:=q1
     rw[<-h2];exact h1
    have hcn:=Q6 wd (wd.ir td hl) (by rw[td];exact(hgood d q1).2 (hte ▸ AN ht))
    rw[td]at hcn
    refine ak hcn ?_
    cases told d<;>simp only[qY,↓zq,zs,ag,zt]<;>exact⟨rfl,rfl⟩
end Go.Proofs.Trees
namespace Go.Proofs.Trees
open Go Go.VL Go.RowKit
theorem wA(w:World)(k:Nat)(os:Array Obj):Below w.heap.size w (Go.«Sort».grow (w.drewN k) os):=by
 refine⟨rfl,rfl,rfl,?_,fun b hb=>?_⟩
 ·simp[Go.«Sort».grow,World.drewN]
 ·simp only[Go.«Sort».grow,World.drewN]
  rw[Array.getElem?_append_left hb]
theorem BQ(k:Nat)(hk:k<1000000000):an Tryz.prog 21 [.v (.int .i64 (k:Int))] [] (bB (.v (.string (mk (dd k))))):=by
 refine an.Oc (xs:=[.int .i64 (k:Int)]) ⟨qd,by kernel_rfl,by kernel_rfl,by kernel_rfl⟩ fun w ht=>?_
 have:=Any.strconv_Itoa Tryz.BJ (k:Int) (by omega) (by omega) w ht
 refine Calls.mono this fun e w' ⟨h1,n,os,h2⟩=>⟨?_,?_⟩
 ·rw[h1,Lib.itoa_nonneg];rfl
 ·rw[h2];exact wA w n os
abbrev hN(k:Nat):Nm:=35::dd k
theorem uv{j k:Nat}(h:hN j=hN k):j=k:=wh (j+1) j k (by omega) (List.cons.inj h).2
theorem wm(u:Ty):∀(t:Ty) (i:Nat),i+t.atoms<1000000->an Tryz.prog 116 [t.av,u.av,.v (.int .i64 (i:Int))] [] (bB (du u t i).av)
 |
  .zero,i,_=>by
  refine Ff _ _ _ ((aF _).mpr trivial) ((aF _).mpr trivial) ?_
  simp[Eu,Ty.av,du,↓zq,zs,ag,bB]
 |
  .one,i,_=>by
  refine Ff _ _ _ ((aF _).mpr trivial) ((aF _).mpr trivial) ?_
  simp[Eu,Ty.av,du,↓zq,zs,ag,bB]
 |
  .name s,i,_=>by
  refine Ff _ _ _ ((aF _).mpr trivial) ((aF _).mpr trivial) ?_
  simp[Eu,Ty.av,du,↓zq,zs,ag,bB]
 |
  .bound k,i,_=>by
  refine Ff _ _ _ ((aF _).mpr trivial) ((aF _).mpr trivial) ?_
  simp only[Eu,Ty.av,du,↓zq,zs,ag,bB]
  refine⟨by omega,fun _=>⟨by omega,fun h=>?_,fun h=>?_⟩,fun h=>absurd rfl h⟩
  ·rw[if_pos (by omega)]
  ·rw[if_neg (by omega)];rfl
 |
  .plus a b,i,hl=>by
  simp only[Ty.atoms]at hl
  refine Ff _ _ _ ((aF _).mpr trivial) ((aF _).mpr trivial) ?_
  simp only[Eu,Ty.av,du,↓zq,zs,ag,aF]
  refine⟨by omega,fun h=>by omega,fun _=>⟨fun _=>?_,fun h=>absurd rfl h⟩⟩
  repeat refine⟨by omega,?_⟩
  refine ak (wm u a i (by omega)) ?_
  simp only[↓zq,zs,ag,aF]
  repeat refine⟨by omega,?_⟩
  refine ak (wm u b i (by omega)) ?_
  simp only[↓zq,zs,ag,aF]
  exact⟨rfl,rfl⟩
 |
  .times a b,i,hl=>by
  simp only[Ty.atoms]at hl
  refine Ff _ _ _ ((aF _).mpr trivial) ((aF _).mpr trivial) ?_
  simp only[Eu,Ty.av,du,↓zq,zs,ag,aF]
  refine⟨by omega,fun h=>by omega,fun _=>⟨fun h=>by omega,fun _=>⟨fun _=>?_,fun h=>absurd rfl h⟩⟩⟩
  repeat refine⟨by omega,?_⟩
  refine ak (wm u a i (by omega)) ?_
  simp only[↓zq,zs,ag,aF]
  repeat refine⟨by omega,?_⟩
  refine ak (wm u b i (by omega)) ?_
  simp only[↓zq,zs,ag,aF]
  exact⟨rfl,rfl⟩
 |
  .rc a,i,hl=>by
  simp only[Ty.atoms]at hl
  refine Ff _ _ _ ((aF _).mpr trivial) ((aF _).mpr trivial) ?_
  simp only[Eu,Ty.av,du,↓zq,zs,ag,aF]
  refine⟨by omega,fun h=>by omega,fun _=>⟨fun h=>by omega,fun _=>⟨fun h=>by omega,fun _=>⟨fun _=>?_,fun h=>absurd rfl h⟩⟩⟩⟩
  repeat refine⟨by omega,?_⟩
  rw[bS i (by omega)]
  refine ak (wm u a (i+1) (by omega)) ?_
  simp only[↓zq,zs,ag,aF]
  exact⟨rfl,rfl⟩
theorem Ah(x:Nm)(u:Ty):∀(t:Ty),an Tryz.prog 117 [t.av,.v (.string (mk x)),u.av] [] (bB (sub x u t).av)
 |
  .zero=>by
  refine wR _ _ _ ((aF _).mpr trivial) ((aF _).mpr trivial) ?_
  simp[Ej,Ty.av,sub,↓zq,zs,ag,bB]
 |
  .one=>by
  refine wR _ _ _ ((aF _).mpr trivial) ((aF _).mpr trivial) ?_
  simp[Ej,Ty.av,sub,↓zq,zs,ag,bB]
 |
  .bound k=>by
  refine wR _ _ _ ((aF _).mpr trivial) ((aF _).mpr trivial) ?_
  simp[Ej,Ty.av,sub,↓zq,zs,ag,bB]
 |
  .name s=>by
  refine wR _ _ _ ((aF _).mpr trivial) ((aF _).mpr trivial) ?_
  simp only[Ej,Ty.av,sub,↓zq,zs,ag,zt,bB]
  refine⟨by omega,fun _=>⟨by omega,fun h=>?_,fun h=>?_⟩,fun h=>absurd rfl h⟩
  ·rw[if_pos h]
  ·rw[if_neg h];rfl
 |
  .plus a b=>by
  refine wR _ _ _ ((aF _).mpr trivial) ((aF _).mpr trivial) ?_
  simp only[Ej,Ty.av,sub,↓zq,zs,ag,aF]
  refine⟨by omega,fun h=>by omega,fun _=>⟨fun _=>?_,fun h=>absurd rfl h⟩⟩
  repeat refine⟨by omega,?_⟩
  refine ak (Ah x u a) ?_
  simp only[↓zq,zs,ag,aF]
  repeat refine⟨by omega,?_⟩
  refine ak (Ah x u b) ?_
  simp only[↓zq,zs,ag,aF]
  exact⟨rfl,rfl⟩
 |
  .times a b=>by
  refine wR _ _ _ ((aF _).mpr trivial) ((aF _).mpr trivial) ?_
  simp only[Ej,Ty.av,sub,↓zq,zs,ag,aF]
  refine⟨by omega,fun h=>by omega,fun _=>⟨fun h=>by omega,fun _=>⟨fun _=>?_,fun h=>absurd rfl h⟩⟩⟩
  repeat refine⟨by omega,?_⟩
  refine ak (Ah x u a) ?_
  simp only[↓zq,zs,ag,aF]
  repeat refine⟨by omega,?_⟩
  refine ak (Ah x u b) ?_
  simp only[↓zq,zs,ag,aF]
  exact⟨rfl,rfl⟩
 |
  .rc a=>by
  refine wR _ _ _ ((aF _).mpr trivial) ((aF _).mpr trivial) ?_
  simp only[Ej,Ty.av,sub,↓zq,zs,ag,aF]
  refine⟨by omega,fun h=>by omega,fun _=>⟨fun h=>by omega,fun _=>⟨fun h=>by omega,fun _=>⟨fun _=>?_,fun h=>absurd rfl h⟩⟩⟩⟩
  repeat refine⟨by omega,?_⟩
  refine ak (Ah x u a) ?_
  simp only[↓zq,zs,ag,aF]
  exact⟨rfl,rfl⟩
theorem yB(c:Int)(a b:Ty):an Tryz.prog 158 [.v (.int .u8 c),a.av,b.av] [] (bB (.ptr [.v (.int .u8 c),.v (.string (mk [])),.v (.int .i64 0),a.av,b.av])):=by
 refine Pm _ _ _ ((aF _).mpr trivial) ((aF _).mpr trivial) ?_
 simp[Mn,↓zq,zs,ag,bB]
abbrev Cw(f:Nat)(g:Bool):Ob:=.cells [.v (.int .i64 (f:Int)),.v (.bool g)]
theorem Ni(f:Nat)(g:Bool)(hf:f<100000000):an Tryz.prog 113 [.ref 0 0] [Cw f g] (cK (.v (.string (mk (hN (f+1))))) [Cw (f+1) g]):=by
 refine Qu _ _ ?_
 simp only[IU,↓zq,zs,ag,zt]
 rw[bS f (by omega)]
 refine ak (BQ (f+1) (by omega)) ?_
 have hd:=ox 8 (f+1) (by omega)
 simp only[↓zq,zs,ag,zt,aW,aT]
 exact⟨by simp[cq];omega,rfl,rfl⟩
def uS(g:Bool)(t:Ty):Ty:=if g=true\/400<t.atoms then .zero else t
def zV(g:Bool)(t:Ty):Bool:=g||decide (400<t.atoms)
theorem yx(t:Ty):uS true t=.zero:=by simp[uS]
theorem vS(t:Ty):zV true t=true:=rfl
theorem vt{t:Ty}(h:t.atoms<=400):uS false t=t:=by simp[uS,show ¬400<t.atoms by omega]
theorem vx{t:Ty}(h:t.atoms<=400):zV false t=false:=by simp[zV,show ¬400<t.atoms by omega]
theorem En{t:Ty}(h:¬t.atoms<=400):zV false t=true:=by simp[zV,show 400<t.atoms by omega]
theorem EC{t:Ty}(h:¬t.atoms<=400):uS false t=.zero:=by simp[uS,show 400<t.atoms by omega]
theorem vL(f:Nat)(g:Bool)(t:Ty)(hl:t.atoms<1000000):an Tryz.prog 114 [.ref 0 0,t.av] [Cw f g] (cK (uS g t).av [Cw f (zV g t)]):=by
 refine Po _ _ _ ((aF _).mpr trivial) ?_
 simp only[MU,↓zq,zs,ag,zt]
 cases g with
 |true=>exact⟨fun _=>⟨rfl,rfl⟩,fun h=>(by cases h)⟩
 |
  false =>
  refine⟨fun h=>(by cases h),fun _=>?_⟩
  refine ak (Ew t hl) ?_
  simp only[↓zq,zs,ag,zt]
  refine⟨fun h=>?_,fun h=>?_⟩
  ·have h:400<t.atoms:=by omega
   simp[uS,zV,h,cK,Ty.av]
  ·have h:¬400<t.atoms:=by omega
   simp[uS,zV,h,cK]
theorem GM(t:Ty)(s:Nm)(f:Nat):an Tryz.prog 115 [.ref 0 0,t.av,.v (.string (mk s))] [Cw f true] (cK Ty.zero.av [Cw f true]):=by
 refine MG _ _ _ _ ((aF _).mpr trivial) ?_
 simp only[CX,↓zq,zs,ag]
 exact⟨fun _=>⟨rfl,rfl⟩,fun h=>(by cases h)⟩
def Ce(f:Nat)(t:Ty):Prop:=∀j,f<j->bb (hN j) t=false
def pQ(o:Option Ty)(t:Ty):Nat:=match o with|some d=>d.atoms|none=>1000*t.atoms
def AM(o:Option Ty)(f B:Nat):AV->List Ob->Prop:=fun r ob=>∃f':Nat,f<=f'/\f'<=f+B/\r=(o.getD .zero).av/\ob=[Cw f' o.isNone]
theorem AM.ne(o:Option Ty)(f B:Nat):∃r ob,AM o f B r ob:=⟨_,_,f,aw _,cU _ _,rfl,rfl⟩
theorem rP{f f':Nat}{t:Ty}(h:Ce f t)(hf:f<=f'):Ce f' t:=fun j hj=>h j (by omega)
theorem Gx:∀(n:Nat) (t:Ty),t.atoms<=n->t.atoms<=400->∀(s:Nm) (f:Nat),Ce f t->(∀j,f<j->s≠hN j)->f+1000*t.atoms<50000000->an Tryz.prog 115 [.ref 0 0,t.av,.v (.string (mk s))] [Cw f false] (AM (lC t s) f (pQ (lC t s) t))
 |0,t,h=>by have:=ef t;omega
 |
  n+1,t,hn=>by
  intro h4 s f hf hs hb
  refine MG _ _ _ _ ((aF _).mpr trivial) ?_
  have fin0:∀u:Ty,lC t s=some u->AM (lC t s) f (pQ (lC t s) t) u.av [Cw f false]:=fun u hu=>by
   rw[hu];exact⟨f,aw _,cU _ _,rfl,rfl⟩
  cases t with
  |
   zero =>
   have:=fin0 .zero (uY s)
   simpa[CX,Ty.av,↓zq,zs,ag]using this
  |
   one =>
   have:=fin0 .zero (xy s)
   simpa[CX,Ty.av,↓zq,zs,ag]using this
  |
   bound k =>
   have:=fin0 .zero (zh k s)
   simpa[CX,Ty.av,↓zq,zs,ag]using this
  |
   name c =>
   simp only[CX,Ty.av,↓zq,zs,ag,zt]
   refine⟨fun h=>(by cases h),fun _=>⟨by omega,fun _=>⟨by omega,fun h=>?_,fun h=>?_⟩,fun h=>absurd rfl h⟩⟩
   ·exact fin0 .one (by rw[oj,if_pos h])
   ·exact fin0 .zero (by rw[oj,if_neg h])
  |
   plus a b =>
   simp only[Ty.atoms]at hn h4 hb
   have pa:=ef a
   have pb:=ef b
   have fa:Ce f a:=fun j hj=>by have:=hf j hj;simp only[bb,cB]at this;exact this.1
   have fb:Ce f b:=fun j hj=>by have:=hf j hj;simp only[bb,cB]at this;exact this.2
   simp only[CX,Ty.av,↓zq,zs,ag,zt,aF]
   refine⟨fun h=>(by cases h),fun _=>⟨by omega,fun h=>by omega,fun _=>⟨fun _=>?_,fun h=>absurd rfl h⟩⟩⟩
   repeat refine⟨by omega,?_⟩
   rw[vC]
   refine aO (Gx n a (by omega) (by omega) s f fa hs (by omega)) (AM.ne _ _ _) ?_
   rintro r ob ⟨f1,g1,g2,rfl,rfl⟩
   simp only[↓zq,zs,ag,zt,aL,aF]
   repeat refine⟨by omega,?_⟩
   cases q1:lC a s with
   |
    none =>
    rw[q1]at g2
    simp only[pQ]at g2
    simp only[Option.isNone_none,Option.getD_none,bE]
    refine aU (GM b s f1) ?_
    simp only[↓zq,zs,ag,zt,aL,aF]
    repeat refine⟨by omega,?_⟩
    refine ak (yB 43 _ _) ?_
    simp only[↓zq,zs,ag,zt,ca]
    refine aU (vL f1 true (.plus .zero .zero) (by simp[Ty.atoms])) ?_
    simp only[↓zq,zs,ag,zt,aL,aF]
    exact⟨f1,g1,by simp only[pQ,Ty.atoms];omega,rfl,rfl⟩
   |
    some a' =>
    rw[q1]at g2
    simp only[pQ]at g2
    have la:=(cI.1 q1).small
    simp only[Option.isNone_some,cz,ba]
    refine aO (Gx n b (by omega) (by omega) s f1 (rP fb g1) (fun j hj=>hs j (by omega)) (by omega)) (AM.ne _ _ _) ?_
    rintro r ob ⟨f2,k1,k2,rfl,rfl⟩
    simp only[↓zq,zs,ag,zt,aL,aF]
    repeat refine⟨by omega,?_⟩
    refine ak (yB 43 _ _) ?_
    simp only[↓zq,zs,ag,zt,ca]
    cases q2:lC b s with
    |
     none =>
     rw[q2]at k2
     simp only[pQ]at k2
     simp only[Option.isNone_none,Option.getD_none,bE]
     refine aU (vL f2 true (.plus a' .zero) (by simp[Ty.atoms];omega)) ?_
     simp only[↓zq,zs,ag,zt,aL,aF]
     exact⟨f2,by omega,by simp only[pQ,Ty.atoms];omega,rfl,rfl⟩
    |
     some b' =>
     rw[q2]at k2
     simp only[pQ]at k2
     have lb:=(cI.1 q2).small
     simp only[Option.isNone_some,cz,ba]
     refine aU (vL f2 false (.plus a' b') (by simp only[Ty.atoms];omega)) ?_
     simp only[↓zq,zs,ag,zt,aL,aF]
     unfold m8
     by_cases hle:(Ty.plus a' b').atoms<=400
     ·rw[if_pos hle]
      refine⟨f2,by omega,by simp only[pQ,Ty.atoms];omega,?_,?_⟩
      ·simp[uS,show ¬400<(Ty.plus a' b').atoms by omega]
      ·simp[zV,show ¬400<(Ty.plus a' b').atoms by omega]
     ·rw[if_neg hle]
      refine⟨f2,by omega,by simp only[pQ,Ty.atoms];omega,?_,?_⟩
      ·simp[uS,show 400<(Ty.plus a' b').atoms by omega]
      ·simp[zV,show 400<(Ty.plus a' b').atoms by omega]
  |
   times a b =>
   simp only[Ty.atoms]at hn h4 hb
   have pa:=ef a
   have pb:=ef b
   have fa:Ce f a:=fun j hj=>by have:=hf j hj;simp only[bb,cB]at this;exact this.1
   have fb:Ce f b:=fun j hj=>by have:=hf j hj;simp only[bb,cB]at this;exact this.2
   simp only[CX,Ty.av,↓zq,zs,ag,zt,aF]
   refine⟨fun h=>(by cases h),fun _=>⟨by omega,fun h=>by omega,fun _=>⟨fun h=>by omega,fun _=>⟨fun _=>?_,fun h=>absurd rfl h⟩⟩⟩⟩
   repeat refine⟨by omega,?_⟩
   rw[sP]
   refine aO (Gx n a (by omega) (by omega) s f fa hs (by omega)) (AM.ne _ _ _) ?_
   rintro r ob ⟨f1,g1,g2,rfl,rfl⟩
   simp only[↓zq,zs,ag,zt,aL,aF]
   repeat refine⟨by omega,?_⟩
   refine ak (yB 42 _ _) ?_
   simp only[↓zq,zs,ag,zt,ca]
   repeat refine⟨by omega,?_⟩
   cases q1:lC a s with
   |
    none =>
    rw[q1]at g2
    simp only[pQ]at g2
    simp only[Option.isNone_none,Option.getD_none,bE]
    refine aU (GM b s f1) ?_
    simp only[↓zq,zs,ag,zt,aL,aF]
    repeat refine⟨by omega,?_⟩
    refine ak (yB 42 _ _) ?_
    simp only[↓zq,zs,ag,zt,ca]
    refine ak (yB 43 (.times .zero b) (.times a .zero)) ?_
    simp only[↓zq,zs,ag,zt,ca]
    refine aU (vL f1 true (.plus (.times .zero b) (.times a .zero)) (by simp only[Ty.atoms];omega)) ?_
    simp only[↓zq,zs,ag,zt,aL,aF]
    exact⟨f1,g1,by simp only[pQ,Ty.atoms];omega,rfl,rfl⟩
   |
    some a' =>
    rw[q1]at g2
    simp only[pQ]at g2
    have la:=(cI.1 q1).small
    simp only[Option.isNone_some,cz,ba]
    refine aO (Gx n b (by omega) (by omega) s f1 (rP fb g1) (fun j hj=>hs j (by omega)) (by omega)) (AM.ne _ _ _) ?_
    rintro r ob ⟨f2,k1,k2,rfl,rfl⟩
    simp only[↓zq,zs,ag,zt,aL,aF]
    repeat refine⟨by omega,?_⟩
    refine ak (yB 42 _ _) ?_
    simp only[↓zq,zs,ag,zt,ca]
    cases q2:lC b s with
    |
     none =>
     rw[q2]at k2
     simp only[pQ]at k2
     simp only[Option.isNone_none,Option.getD_none,bE]
     refine ak (yB 43 (.times a' b) (.times a .zero)) ?_
     simp only[↓zq,zs,ag,zt,ca]
     refine aU (vL f2 true (.plus (.times a' b) (.times a .zero)) (by simp only[Ty.atoms];omega)) ?_
     simp only[↓zq,zs,ag,zt,aL,aF]
     exact⟨f2,by omega,by simp only[pQ,Ty.atoms];omega,rfl,rfl⟩
    |
     some b' =>
     rw[q2]at k2
     simp only[pQ]at k2
     have lb:=(cI.1 q2).small
     simp only[Option.isNone_some,cz,ba]
     refine ak (yB 43 (.times a' b) (.times a b')) ?_
     simp only[↓zq,zs,ag,zt,ca]
     refine aU (vL f2 false (.plus (.times a' b) (.times a b')) (by simp only[Ty.atoms];omega)) ?_
     simp only[↓zq,zs,ag,zt,aL,aF]
     unfold m8
     by_cases hle:(Ty.plus (.times a' b) (.times a b')).atoms<=400
     ·rw[if_pos hle]
      refine⟨f2,by omega,by simp only[pQ,Ty.atoms];omega,?_,?_⟩
      ·simp[uS,show ¬400<(Ty.plus (.times a' b) (.times a b')).atoms by omega]
      ·simp[zV,show ¬400<(Ty.plus (.times a' b) (.times a b')).atoms by omega]
     ·rw[if_neg hle]
      refine⟨f2,by omega,by simp only[pQ,Ty.atoms];omega,?_,?_⟩
      ·simp[uS,show 400<(Ty.plus (.times a' b) (.times a b')).atoms by omega]
      ·simp[zV,show 400<(Ty.plus (.times a' b) (.times a b')).atoms by omega]
  |
   rc a =>
   simp only[Ty.atoms]at hn h4 hb
   have pa:=ef a
   have fa:Ce f a:=fun j hj=>hf j hj
   have hxa:bb (hN (f+1)) a=false:=fa _ (by omega)
   have hxs:hN (f+1)≠s:=fun e=>hs _ (by omega) e.symm
   have fo:Ce (f+1) (du (.name (hN (f+1))) a 0):=fun j hj=>by
    cases q:bb (hN j) (du (.name (hN (f+1))) a 0)with
    |false=>rfl
    |
     true =>
     rcases gf a 0 q with e|e
     ·have:=uv e;omega
     ·rw[fa j (by omega)]at e;cases e
   have hoa:(du (.name (hN (f+1))) a 0).atoms=a.atoms:=fw _ _ _
   have hop:=wm (.name (hN (f+1))) a 0 (by omega)
   rw[BB hxa hxs]
   simp only[CX,Ty.av,↓zq,zs,ag,zt,aF]
   refine⟨fun h=>(by cases h),fun _=>⟨by omega,fun h=>by omega,fun _=>⟨fun h=>by omega,fun _=>⟨fun h=>by omega,fun _=>⟨fun _=>?_,fun h=>absurd rfl h⟩⟩⟩⟩⟩
   refine aU (Ni f false (by omega)) ?_
   simp only[↓zq,zs,ag,zt,aL,aF]
   repeat refine⟨by omega,?_⟩
   simp only[Ty.av]at hop
   refine ak hop ?_
   simp only[↓zq,zs,ag,zt,aL,aF]
   refine aO (Gx n (du (.name (hN (f+1))) a 0) (by omega) (by omega) s (f+1) fo (fun j hj=>hs j (by omega)) (by omega)) (AM.ne _ _ _) ?_
   rintro r ob ⟨f1,g1,g2,rfl,rfl⟩
   simp only[↓zq,zs,ag,zt,aL,aF]
   generalize hx:hN (f+1)=x at *
   generalize hin:du (.name x) a 0=i at *
   have hrc:(Ty.rc a).av=.ptr [.v (.int .u8 114),.v (.string (mk [])),.v (.int .i64 0),a.av,.v (.pointer none)]:=rfl
   cases q1:lC i s with
   |
    none =>
    rw[q1]at g2
    simp only[pQ]at g2
    simp only[Option.isNone_none,Option.getD_none,bE]
    refine aU (vL f1 true .zero (by simp[Ty.atoms])) ?_
    simp only[↓zq,zs,ag,zt,aL,aF]
    rw[<-hrc]
    refine ak (Ah x (.rc a) _) ?_
    simp only[↓zq,zs,ag,zt,aF]
    refine aU (GM i x f1) ?_
    simp only[↓zq,zs,ag,zt,aL,aF]
    refine aU (vL f1 true .zero (by simp[Ty.atoms])) ?_
    simp only[↓zq,zs,ag,zt,aL,aF]
    refine ak (Ah x (.rc a) _) ?_
    simp only[↓zq,zs,ag,zt,aF]
    refine ak (yB 42 _ (.bound 0)) ?_
    simp only[↓zq,zs,ag,zt,ca]
    refine ak (yB 43 (sub x (.rc a) (uS true .zero)) (.times (sub x (.rc a) (uS true .zero)) (.bound 0))) ?_
    simp only[↓zq,zs,ag,zt,ca,vS]
    have hz:sub x (.rc a) (uS true .zero)=.zero:=by rw[yx];rfl
    refine aU (vL f1 true (.rc (.plus (sub x (.rc a) (uS true .zero)) (.times (sub x (.rc a) (uS true .zero)) (.bound 0)))) (by rw[hz];simp only[Ty.atoms];omega)) ?_
    simp only[↓zq,zs,ag,zt,aL,aF]
    rw[yx,vS]
    exact⟨f1,by omega,by simp only[pQ,Ty.atoms];omega,rfl,rfl⟩
   |
    some c =>
    rw[q1]at g2
    simp only[pQ]at g2
    have lc:=(cI.1 q1).small
    simp only[Option.isNone_some,cz,ba]
    refine aU (vL f1 false c (by omega)) ?_
    simp only[↓zq,zs,ag,zt,aL,aF]
    rw[vt lc,vx lc,<-hrc]
    refine ak (Ah x (.rc a) c) ?_
    simp only[↓zq,zs,ag,zt,aF]
    refine aO (Gx n i (by omega) (by omega) x f1 (rP fo g1) (fun j hj=>by rw[<-hx];exact fun e=>by have:=uv e;omega) (by omega)) (AM.ne _ _ _) ?_
    rintro r ob ⟨f2,k1,k2,rfl,rfl⟩
    simp only[↓zq,zs,ag,zt,aL,aF]
    have hsc:(sub x (.rc a) c).atoms+ff x c=c.atoms+ff x c*(Ty.rc a).atoms:=dT x (.rc a) c
    have hcc:∀t:Ty,ff x t<=t.atoms:=fun t=>by
     have h1:=dT x .zero t
     have h2:=gJ x .zero t
     simp only[Ty.atoms,dq]at h1
     have h3:∀t:Ty,ff x t<=t.atoms:=by
      intro t
      induction t with
      |name s=>simp only[ff,Ty.atoms];split<;>omega
      |plus a b i1 i2=>simp only[ff,Ty.atoms];omega
      |times a b i1 i2=>simp only[ff,Ty.atoms];omega
      |rc a i=>simp only[ff,Ty.atoms];omega
      |_=>simp[ff,Ty.atoms]
     exact h3 t
    have hbig:∀t:Ty,t.atoms<=400->(sub x (.rc a) t).atoms<=400+400*402:=fun t ht=>by
     have h1:=dT x (.rc a) t
     have h2:=hcc t
     have h3:ff x t*(Ty.rc a).atoms<=400*402:=Nat.mul_le_mul (by omega) (by simp only[Ty.atoms];omega)
     omega
    have b1:=hbig c lc
    cases q2:lC i x with
    |
     none =>
     rw[q2]at k2
     simp only[pQ]at k2
     simp only[Option.isNone_none,Option.getD_none,bE]
     refine aU (vL f2 true .zero (by simp[Ty.atoms])) ?_
     simp only[↓zq,zs,ag,zt,aL,aF]
     rw[yx,vS]
     refine ak (Ah x (.rc a) .zero) ?_
     simp only[↓zq,zs,ag,zt,aF]
     refine ak (yB 42 _ (.bound 0)) ?_
     simp only[↓zq,zs,ag,zt,ca]
     refine ak (yB 43 (sub x (.rc a) c) (.times (sub x (.rc a) .zero) (.bound 0))) ?_
     simp only[↓zq,zs,ag,zt,ca]
     refine aU (vL f2 true (.rc (.plus (sub x (.rc a) c) (.times (sub x (.rc a) .zero) (.bound 0)))) (by simp only[sub,Ty.atoms];omega)) ?_
     simp only[↓zq,zs,ag,zt,aL,aF]
     rw[yx,vS]
     exact⟨f2,by omega,by simp only[pQ,Ty.atoms];omega,rfl,rfl⟩
    |
     some d =>
     rw[q2]at k2
     simp only[pQ]at k2
     have ld:=(cI.1 q2).small
     have b2:=hbig d ld
     simp only[Option.isNone_some,cz,ba]
     refine aU (vL f2 false d (by omega)) ?_
     simp only[↓zq,zs,ag,zt,aL,aF]
     rw[vt ld,vx ld]
     refine ak (Ah x (.rc a) d) ?_
     simp only[↓zq,zs,ag,zt,aF]
     refine ak (yB 42 _ (.bound 0)) ?_
     simp only[↓zq,zs,ag,zt,ca]
     refine ak (yB 43 (sub x (.rc a) c) (.times (sub x (.rc a) d) (.bound 0))) ?_
     simp only[↓zq,zs,ag,zt,ca]
     have hdrc:pK a x c d=.rc (.plus (sub x (.rc a) c) (.times (sub x (.rc a) d) (.bound 0))):=rfl
     refine aU (vL f2 false (pK a x c d) (by rw[hdrc];simp only[Ty.atoms];omega)) ?_
     simp only[↓zq,zs,ag,zt,aL,aF]
     have s1:=gJ x (.rc a) c
     have s2:=gJ x (.rc a) d
     unfold m8
     by_cases hle:(pK a x c d).atoms<=400
     ·rw[if_pos hle,vt hle,vx hle]
      exact⟨f2,by omega,by simp only[pQ,hdrc,Ty.atoms];omega,rfl,rfl⟩
     ·rw[if_neg hle,EC hle,En hle]
      exact⟨f2,by omega,by simp only[pQ,Ty.atoms];omega,rfl,rfl⟩
def Ny(o:Option Ty):AV->List Ob->Prop:=fun r ob=>ob=[]/\∃p,LK.ptr.has p/\r=.cy [p,.v (.bool o.isSome)]/\∀d,o=some d->p=d.av
theorem Ny.ne(o:Option Ty):∃r ob,Ny o r ob:=by
 cases o with
 |none=>exact⟨_,_,rfl,gR,(iT).mpr trivial,rfl,fun d h=>by cases h⟩
 |some d=>exact⟨_,_,rfl,d.av,(aF _).mpr trivial,rfl,fun d' h=>by cases h;rfl⟩
theorem Gc:hN 1=lN:=by show (35::dd 1:Nm)=_;rw[ez (by omega)];rfl
theorem QO(a:Ty)(h4:a.atoms+2<=400)(hf:∀j,bb (hN j) a=false):an Tryz.prog 60 [(Ty.rc a).av] [] (Ny (nH a lN)):=by
 have hxa:bb (hN 1) a=false:=hf 1
 have fo:Ce 1 (du (.name (hN 1)) a 0):=fun j hj=>by
  cases q:bb (hN j) (du (.name (hN 1)) a 0)with
  |false=>rfl
  |
   true =>
   rcases gf a 0 q with e|e
   ·have:=uv e;omega
   ·rw[hf j]at e;cases e
 have hoa:(du (.name (hN 1)) a 0).atoms=a.atoms:=fw _ _ _
 have hop:=wm (.name (hN 1)) a 0 (by omega)
 rw[<-Gc]
 have hrc:(Ty.rc a).av=.ptr [.v (.int .u8 114),.v (.string (mk [])),.v (.int .i64 0),a.av,.v (.pointer none)]:=rfl
 refine Pb _ ((aF _).mpr trivial) ?_
 unfold Lj
 refine aU (Ni 0 false (by omega)) ?_
 simp only[Ty.av,↓zq,zs,ag,zt,aL,aF]
 repeat refine⟨by omega,?_⟩
 simp only[Ty.av]at hop
 refine ak hop ?_
 simp only[↓zq,zs,ag,zt,aL,aF]
 refine aO (Gx 400 (du (.name (hN 1)) a 0) (by omega) (by omega) (hN 1) 1 fo (fun j hj e=>by have:=uv e;omega) (by omega)) (AM.ne _ _ _) ?_
 rintro r ob ⟨f1,g1,g2,rfl,rfl⟩
 simp only[↓zq,zs,ag,zt,aL,aF]
 unfold nH
 cases q1:lC (du (.name (hN 1)) a 0) (hN 1)with
 |
  none =>
  simp only[Option.isNone_none,Option.getD_none,bE]
  refine aU (vL f1 true .zero (by simp[Ty.atoms])) ?_
  simp only[↓zq,zs,ag,zt,aL,aF,vS]
  exact⟨fun _=>⟨rfl,gR,(iT).mpr trivial,rfl,fun d h=>(by cases h)⟩,fun h=>(by cases h)⟩
 |
  some d =>
  have ld:=(cI.1 q1).small
  simp only[Option.isNone_some,cz,ba]
  refine aU (vL f1 false d (by omega)) ?_
  simp only[↓zq,zs,ag,zt,aL,aF]
  rw[vt ld,vx ld]
  refine⟨fun h=>(by cases h),fun _=>?_⟩
  rw[<-hrc]
  refine ak (Ah (hN 1) (.rc a) d) ?_
  simp only[↓zq,zs,ag,zt,aF]
  have h1:=dT (hN 1) (.rc a) d
  have hcn:ff (hN 1) d<=d.atoms:=by
   have h3:∀t:Ty,ff (hN 1) t<=t.atoms:=by
    intro t
    induction t with
    |name s=>simp only[ff,Ty.atoms];split<;>omega
    |plus a b i1 i2=>simp only[ff,Ty.atoms];omega
    |times a b i1 i2=>simp only[ff,Ty.atoms];omega
    |rc a i=>simp only[ff,Ty.atoms];omega
    |_=>simp[ff,Ty.atoms]
   exact h3 d
  have h3:ff (hN 1) d*(Ty.rc a).atoms<=400*402:=Nat.mul_le_mul (by omega) (by simp only[Ty.atoms];omega)
  refine aU (vL f1 false (sub (hN 1) (.rc a) d) (by omega)) ?_
  simp only[↓zq,zs,ag,zt,aL,aF]
  unfold m8
  by_cases hle:(sub (hN 1) (.rc a) d).atoms<=400
  ·rw[if_pos hle,vt hle,vx hle]
   exact⟨rfl,_,(aF _).mpr trivial,rfl,fun d' h=>by cases h;rfl⟩
  ·rw[if_neg hle,EC hle,En hle]
   exact⟨rfl,_,(aF _).mpr trivial,rfl,fun d' h=>(by cases h)⟩
end Go.Proofs.Trees
namespace Go.Proofs.Trees
open Go Go.VL Go.RowKit
theorem wZ(c:UInt8)(r:List UInt8):∀l:List UInt8,c∉l->Lib.indexByte (l++c::r) c=(l.length:Int)
 |[],_=>by simp[Lib.indexByte]
 |
  b::l,h=>by
  simp only[aH,not_or]at h
  have hb:(b==c)=false:=by simp;exact fun e=>h.1 e.symm
  have ih:=wZ c r l h.2
  simp only[aW,Lib.indexByte,hb,ih,au]
  have hn:((l.length:Int)==-1)=false:=by simp
  simp[hn]
theorem yp(c:UInt8):∀l:List UInt8,c∉l->Lib.indexByte l c = -1
 |[],_=>rfl
 |
  b::l,h=>by
  simp only[aH,not_or]at h
  have hb:(b==c)=false:=by simp;exact fun e=>h.1 e.symm
  simp[Lib.indexByte,hb,yp c l h.2]
def uI(s:List UInt8):List (List UInt8):=Lib.splitK [10] 0 (Lib.count s [10]) s
theorem pD(l r:List UInt8)(h:10∉l):uI (l++10::r)=l::uI r:=by
 have hc:Lib.count (l++10::r) [10]=Lib.count r [10]+1:=by
  rw[Lib.count_one,Lib.count_one,List.count_append,List.count_cons_self,List.count_eq_zero.2 h];omega
 have hi:Lib.index (l++10::r) [10]=(l.length:Int):=by rw[Lib.index_one];exact wZ 10 r l h
 have hn:((l.length:Int)==-1)=false:=by simp
 unfold uI
 rw[hc,Lib.splitK,hi,hn]
 simp
theorem AL:uI []=[[]]:=by simp[uI,Lib.count_one,Lib.splitK]
theorem mk_data(l:List UInt8):(mk l).data.toList=l:=by simp[mk]
theorem CM(s:ByteArray):mk s.data.toList=s:=by simp[mk]
theorem PF(l:List UInt8)(hl:l.length<4000000):an Tryz.prog 19 [.v (.string (mk l)),.v (.string (mk [10]))] [] (bB (.sl (bn (uI l)))):=by
 have e:bn (uI l)=(Lib.splitB (mk [10]) 0 (Lib.countB (mk l) (mk [10])) (mk l)).map fun s=>[.v (.string s)]:=by
  have h:=Lib.splitB_data (mk [10]) 0 (Lib.countB (mk l) (mk [10])) (mk l)
  have hcb:Lib.countB (mk l) (mk [10])=Lib.count l [10]:=by simp only[Lib.countB,mk_data]
  rw[mk_data,mk_data]at h
  unfold uI bn
  rw[<-hcb,<-h,List.map_map]
  exact List.map_congr_left fun s _=>by simp[CM]
 rw[e]
 refine an.N7 (xs:=[.string (mk l),.string (mk [10])]) (t:=Tryz.l4.t 9) ⟨ph,by kernel_rfl,by kernel_rfl,by kernel_rfl⟩ fun w g m hg hm=>?_
 have hg2:Tryz.prog.globalNamed Gt=some (Tryz.l4.g 1):=by kernel_rfl
 rw[hg2]at hg;cases hg
 have:=Any.strings_Split Tryz.DK (by kernel_rfl) (mk l) (mk [10]) m w (by rw[cq];omega) hm (by rw[cq];simp)
 have hlen:=Lib.splitB_all (mk [10]) (by rw[cq];simp) 0 _ (mk l) rfl
 refine Calls.mono this fun e w' ⟨h1,h2⟩=>⟨?_,h2⟩
 rw[h1,hlen]
theorem wS(w:World)(n:Nat):Below w.heap.size w (w.drewN n):=⟨rfl,rfl,rfl,aw _,fun _ _=>rfl⟩
theorem Fi(l:List UInt8)(hl:l.length<4000000):an Tryz.prog 36 [.v (.string (mk l)),.v (.string (mk [32]))] [] (bB (.cy [.v (.string (mk (Lib.cut l [32]).1)),.v (.string (mk (Lib.cut l [32]).2.1)),.v (.bool (Lib.cut l [32]).2.2)])):=by
 refine an.OO (xs:=[.string (mk l),.string (mk [32])]) (v:=.tuple #[.string (mk (Lib.cut l [32]).1),.string (mk (Lib.cut l [32]).2.1),.bool (Lib.cut l [32]).2.2]) ⟨rO,by kernel_rfl,by kernel_rfl,by kernel_rfl⟩ (fun M=>?_) fun w g m hg hm=>?_
 ·refine .cy _ _ [.string (mk (Lib.cut l [32]).1),.string (mk (Lib.cut l [32]).2.1),.bool (Lib.cut l [32]).2.2] rfl fun i hi=>?_
  match i,hi with
  |0,_=>exact .v _ _
  |1,_=>exact .v _ _
  |2,_=>exact .v _ _
 ·have hg2:Tryz.prog.globalNamed Gt=some (Tryz.pZ.g 1):=by kernel_rfl
  rw[hg2]at hg;cases hg
  have:=Any.strings_Cut Tryz.CL (mk l) (mk [32]) m w (by rw[cq];omega) hm
  refine Calls.mono this fun e w' ⟨h1,n,h2⟩=>⟨?_,?_⟩
  ·rw[h1,mk_data,mk_data];rfl
  ·rw[h2];exact wS w n
theorem Dz(l r:List UInt8)(h:32∉l):Lib.cut (l++32::r) [32]=(l,r,true):=by
 have hi:Lib.index (l++32::r) [32]=(l.length:Int):=by rw[Lib.index_one];exact wZ 32 r l h
 unfold Lib.cut
 rw[hi,if_pos (by omega)]
 simp
theorem u3(l:List UInt8)(h:32∉l):Lib.cut l [32]=(l,[],false):=by
 have hi:Lib.index l [32] = -1:=by rw[Lib.index_one];exact yp 32 l h
 unfold Lib.cut
 rw[hi,if_neg (by omega)]
end Go.Proofs.Trees
namespace Go.Proofs.Trees
open Go Go.VL Go.RowKit
def vT(n:Nat):Vl->Ty->Bool
 | .u,.one=>true
 | .el k,.name _=>decide (k<n)
 | .l w,.plus a _=>vT n w a
 | .r w,.plus _ b=>vT n w b
 | .p x y,.times a b=>vT n x a&&vT n y b
 | .f w,.rc a=>vT n w (du (.rc a) a 0)
 |_,_=>false
def cls(us:List Ty):Ty->Nat->Ty
 | .bound k,i=>if k<i then .bound k else us.getD (k-i) .zero
 | .plus a b,i=>.plus (cls us a i) (cls us b i)
 | .times a b,i=>.times (cls us a i) (cls us b i)
 | .rc a,i=>.rc (cls us a (i+1))
 |t,_=>t
def yk:List Fr->List Ty
 |[]=>[]
 |f::r=>cls (yk r) (ym f.ex r) 0::yk r
theorem lF(u:Ty):∀(t:Ty) {i:Nat},jd t i->du u t i=t
 | .bound k,i,h=>by simp only[du];rw[if_neg (by have:k<i:=h;omega)]
 | .plus a b,i,h=>by simp only[du];rw[lF u a h.1,lF u b h.2]
 | .times a b,i,h=>by simp only[du];rw[lF u a h.1,lF u b h.2]
 | .rc a,i,h=>by simp only[du];rw[lF u a (i:=i+1) h]
 | .zero,_,_=>rfl
 | .one,_,_=>rfl
 | .name _,_,_=>rfl
theorem pw(us:List Ty):∀(t:Ty) {i:Nat},jd t i->cls us t i=t
 | .bound k,i,h=>by simp only[cls];rw[if_pos (by have:k<i:=h;omega)]
 | .plus a b,i,h=>by simp only[cls];rw[pw us a h.1,pw us b h.2]
 | .times a b,i,h=>by simp only[cls];rw[pw us a h.1,pw us b h.2]
 | .rc a,i,h=>by simp only[cls];rw[pw us a (i:=i+1) h]
 | .zero,_,_=>rfl
 | .one,_,_=>rfl
 | .name _,_,_=>rfl
theorem yK{us:List Ty}(hu:∀u,u∈us->jd u 0)(k:Nat):jd (us.getD k .zero) 0:=by
 by_cases h:k<us.length
 ·rw[aa,bg h];exact hu _ (bN h)
 ·rw[aa,List.getElem?_eq_none (by omega)];trivial
theorem pe{us:List Ty}(hu:∀u,u∈us->jd u 0):∀(t:Ty) (i:Nat),jd (cls us t i) i
 |
  .bound k,i=>by
  simp only[cls]
  split
  ·rename_i h;exact h
  ·exact ga _ (yK hu _) (dN _)
 | .plus a b,i=>⟨pe hu a i,pe hu b i⟩
 | .times a b,i=>⟨pe hu a i,pe hu b i⟩
 | .rc a,i=>pe hu a (i+1)
 | .zero,_=>trivial
 | .one,_=>trivial
 | .name _,_=>trivial
theorem mE{us:List Ty}(hu:∀u,u∈us->jd u 0)(U:Ty):∀(t:Ty) (i:Nat),du U (cls us t (i+1)) i=cls (U::us) t i
 |
  .bound k,i=>by
  simp only[cls]
  by_cases h1:k<i
  ·rw[if_pos (by omega),if_pos h1];simp only[du];rw[if_neg (by omega)]
  ·rw[if_neg h1]
   by_cases h2:k=i
   ·subst h2;rw[if_pos (by omega)];simp[du]
   ·rw[if_neg (by omega),lF U _ (ga _ (yK hu _) (dN _)),show k-i=(k-(i+1))+1 by omega,List.getD_cons_succ]
 | .plus a b,i=>by simp only[cls,du];rw[mE hu U a i,mE hu U b i]
 | .times a b,i=>by simp only[cls,du];rw[mE hu U a i,mE hu U b i]
 | .rc a,i=>by simp only[cls,du];rw[mE hu U a (i+1)]
 | .zero,_=>rfl
 | .one,_=>rfl
 | .name _,_=>rfl
theorem w8:∀env:List Fr,∀u,u∈yk env->jd u 0
 |[],u,h=>by cases h
 |
  f::r,u,h=>by
  rcases aH.1 h with rfl|h
  ·exact pe (w8 r) _ 0
  ·exact w8 r u h
theorem D0{env:List Fr}(h:WF env):∀{u:Nat} {g:Fr},env[u]?=some g->(yk env).getD u .zero=cls (yk g.out) (ym g.ex g.out) 0:=by
 induction h with
 |nil=>intro u g hg;simp at hg
 |
  cons hs hok hx ht hf hr ih =>
  intro u g hg
  cases u with
  |zero=>simp at hg;subst hg;rfl
  |
   succ u =>
   have:=ih (u:=u) (g:=g) (by simpa using hg)
   simpa[yk]using this
theorem pn(n:Nat):∀(m:Nat) (v:Vl),v.nodes<=m->∀(e:E) (env:List Fr) (t:Ty),Ask e env t->fA n v (e,env)=vT n v (cls (yk env) t 0)
 |0,v,hm=>by have:=dB v;omega
 |
  m+1,v,hm=>by
  intro e env t A
  have recCase:∀(x a b:E) (env:List Fr) (t1:Ty),Ask (.list [x,a,b]) env (.rc t1)->x.at=[114,101,99]->fA n v (.list [x,a,b],env)=vT n v (cls (yk env) (.rc t1) 0):=by
   intro x a b env t1 A hx
   have hhd:hd (.list [x,a,b]) env=(.list [x,a,b],env):=oX A.wf
   obtain⟨t1',he1,h1,f1,hw1⟩:=jJ A.wf A.ok hx A.ty A.cl
   cases he1
   obtain⟨ok1,ok2,ok3,_⟩:=A.ok
   have A':Ask b (.mk a.at (.list [x,a,b]) env::env) t1:=⟨ok3,hw1,h1,f1⟩
   cases v with
   |
    f w =>
    simp only[Vl.nodes]at hm
    simp only[fA,hhd,hx,beq_self_eq_true,cn]
    rw[pn n m w (by omega) b _ t1 A']
    have hty:ym (.list [x,a,b]) env=.rc t1:=by unfold ym;rw[A.ty];rfl
    show vT n w (cls (cls (yk env) (ym (.list [x,a,b]) env) 0::yk env) t1 0)=vT n w (du (.rc (cls (yk env) t1 1)) (cls (yk env) t1 1) 0)
    rw[hty,mE (w8 env)]
    rfl
   |_=>simp[fA,hhd,hx,cls,vT]
  rcases hG A.wf A.ty with⟨hb,hq⟩|⟨u,g,rfl,hq,hu⟩
  ·have hhd:hd e env=(e,env):=lG hq
   rcases fL A.ty hb A.cl with⟨rfl,rfl⟩|⟨rfl,rfl⟩|⟨s,rfl,rfl,hp,h0,h1⟩|⟨x,a,b,t1,t2,rfl,hx,rfl,ha,hbb⟩|⟨x,a,b,t1,t2,rfl,hx,rfl,ha,hbb⟩|⟨x,a,b,t1,rfl,hx,rfl⟩
   ·have hp0:iq [48]=false:=rfl
    cases v<;>simp[fA,hhd,cls,vT,hp0]
   ·cases v<;>simp[fA,hhd,cls,vT]
   ·cases v<;>simp[fA,hhd,cls,vT,hp,h1]
   ·obtain⟨ok1,ok2,ok3,_⟩:=A.ok
    obtain⟨f1,f2⟩:=fQ A.cl
    cases v with
    |
     l w =>
     simp only[Vl.nodes]at hm
     simp only[fA,hhd,hx,beq_self_eq_true,cn,cls,vT]
     exact pn n m w (by omega) a env t1 ⟨ok2,A.wf,ha,f1⟩
    |
     r w =>
     simp only[Vl.nodes]at hm
     simp only[fA,hhd,hx,beq_self_eq_true,cn,cls,vT]
     exact pn n m w (by omega) b env t2 ⟨ok3,A.wf,hbb,f2⟩
    |_=>simp[fA,hhd,hx,cls,vT]
   ·obtain⟨ok1,ok2,ok3,_⟩:=A.ok
    obtain⟨f1,f2⟩:=fu A.cl
    cases v with
    |
     p w w' =>
     simp only[Vl.nodes]at hm
     simp only[fA,hhd,hx,beq_self_eq_true,cn,cls,vT]
     rw[pn n m w (by omega) a env t1 ⟨ok2,A.wf,ha,f1⟩,pn n m w' (by omega) b env t2 ⟨ok3,A.wf,hbb,f2⟩]
    |_=>simp[fA,hhd,hx,cls,vT]
   ·exact recCase x a b env t1 A hx
  ·obtain⟨x,a,b,t',hfe,hok,hx,ht',hf',hwf,hlt⟩:=nV A.wf hq
   have hrec:hd g.ex g.out=(g.ex,g.out):=by rw[hfe];exact oX hwf
   rw[ue n v (qM hq) hrec]
   have hcl:cls (yk env) (.bound u) 0=cls (yk g.out) (ym g.ex g.out) 0:=by
    simp only[cls];rw[if_neg (by omega),Nat.sub_zero];exact D0 A.wf hu
   rw[hcl]
   have hty:ym g.ex g.out=t':=by unfold ym;rw[ht'];rfl
   rw[hty,hfe]
   rw[hfe]at ht'
   obtain⟨t1,_,_,rfl⟩:=dU hx ht'
   exact recCase x a b g.out t1 ⟨hok,hwf,ht',hf'⟩ hx
theorem mG{n:Nat}{v:Vl}{e:E}{t:Ty}(A:Ask e [] t):fA n v (e,[])=vT n v t:=by
 have:=pn n v.nodes v (aw _) e [] t A
 rw[this]
 obtain⟨w,ht⟩:=j2 e [] t A.ok (fun w hw=>by cases hw) A.ty
 have hl:=tL w []
 rw[ht]at hl
 exact congrArg (vT n v) (pw _ t hl)
def eK(σ:Nm->Option Ty):Ty->Ty
 | .name s=>(σ s).getD (.name s)
 | .plus a b=>.plus (eK σ a) (eK σ b)
 | .times a b=>.times (eK σ a) (eK σ b)
 | .rc a=>.rc (eK σ a)
 |t=>t
def iC(σ:Nm->Option Ty)(x:Nm)(u:Ty):Nm->Option Ty:=fun s=>if s=x then some u else σ s
theorem hJ(σ:Nm->Option Ty)(x:Nm)(u:Ty):∀t:Ty,eK σ (sub x u t)=eK (iC σ x (eK σ u)) t
 |
  .name s=>by
  by_cases h:s=x
  ·simp[sub,eK,iC,h]
  ·simp[sub,eK,iC,h]
 | .plus a b=>by simp only[sub,eK,hJ σ x u a,hJ σ x u b]
 | .times a b=>by simp only[sub,eK,hJ σ x u a,hJ σ x u b]
 | .rc a=>by simp only[sub,eK,hJ σ x u a]
 | .zero=>rfl
 | .one=>rfl
 | .bound k=>rfl
def Cb(σ:Nm->Option Ty):Prop:=∀s u,σ s=some u->jd u 0
theorem jP{σ:Nm->Option Ty}(hσ:Cb σ):∀(t:Ty) {i:Nat},jd t i->jd (eK σ t) i
 |
  .name s,i,_=>by
  simp only[eK]
  cases q:σ s with
  |none=>trivial
  |some u=>exact ga u (hσ s u q) (dN _)
 | .plus a b,i,h=>⟨jP hσ a h.1,jP hσ b h.2⟩
 | .times a b,i,h=>⟨jP hσ a h.1,jP hσ b h.2⟩
 | .rc a,i,h=>jP hσ a (i:=i+1) h
 | .zero,_,_=>trivial
 | .one,_,_=>trivial
 | .bound k,_,h=>h
theorem jq{σ:Nm->Option Ty}(hσ:Cb σ)(x:Nm)(U:Ty):∀(t:Ty) (i:Nat),bb x t=false->eK (iC σ x U) (du (.name x) t i)=du U (eK σ t) i
 |
  .name s,i,h=>by
  have hs:s≠x:=by simpa[bb]using h
  simp only[du,eK,iC,if_neg hs]
  cases q:σ s with
  |none=>rfl
  |some u=>exact(lF U u (ga u (hσ s u q) (dN _))).symm
 |
  .bound k,i,h=>by
  simp only[du,eK]
  split
  ·simp[eK,iC]
  ·rfl
 |
  .plus a b,i,h=>by
  simp only[bb,cB]at h
  simp only[du,eK,jq hσ x U a i h.1,jq hσ x U b i h.2]
 |
  .times a b,i,h=>by
  simp only[bb,cB]at h
  simp only[du,eK,jq hσ x U a i h.1,jq hσ x U b i h.2]
 | .rc a,i,h=>by simp only[du,eK,jq hσ x U a (i+1) h]
 | .zero,_,_=>rfl
 | .one,_,_=>rfl
theorem k8{σ:Nm->Option Ty}(hσ:Cb σ)(x:Nm){u:Ty}(hu:jd u 0):Cb (iC σ x u):=fun s v h=>by
 unfold iC at h
 split at h
 ·cases h;exact hu
 ·exact hσ s v h
theorem iP(x:Nm):∀(n:Nat) (c:Vl) (t:Ty) (i:Nat),c.nodes<=n->dH (du (.name x) t i) c=dH t c
 |0,c,_,_,h=>by have:=dB c;omega
 |
  n+1,c,t,i,hn=>by
  cases t with
  |bound k=>simp only[du];split<;>(cases c<;>rfl)
  |
   plus a b =>
   cases c with
   |l c=>simp only[Vl.nodes]at hn;exact iP x n c a i (by omega)
   |r c=>simp only[Vl.nodes]at hn;exact iP x n c b i (by omega)
   |_=>rfl
  |
   times a b =>
   cases c with
   |
    l c =>
    cases c with
    |p y z=>simp only[Vl.nodes]at hn;exact iP x n y a i (by omega)
    |_=>rfl
   |
    r c =>
    cases c with
    |p y z=>simp only[Vl.nodes]at hn;exact iP x n z b i (by omega)
    |_=>rfl
   |_=>rfl
  |
   rc a =>
   cases c with
   |
    f c =>
    cases c with
    |l y=>simp only[Vl.nodes]at hn;exact iP x n y a (i+1) (by omega)
    |
     r c =>
     cases c with
     |
      p y z =>
      simp only[Vl.nodes]at hn
      have h1:=iP x n y a (i+1) (by omega)
      have h2:=iP x n z (.rc a) i (by omega)
      show (dH (du (.name x) a (i+1)) y&&dH (.rc (du (.name x) a (i+1))) z)=(dH a y&&dH (.rc a) z)
      rw[h1]
      exact congrArg _ h2
     |_=>rfl
    |_=>rfl
   |_=>rfl
  |_=>rfl
end Go.Proofs.Trees
namespace Go.Proofs.Trees
open Go Go.VL Go.RowKit
theorem dJ(x:Nm):∀(n:Nat) (c:Vl) (t:Ty) (i:Nat) (v:Vl),c.nodes<=n->cP (du (.name x) t i) c v=cP t c v
 |0,c,_,_,_,h=>by have:=dB c;omega
 |
  n+1,c,t,i,v,hn=>by
  cases t with
  |bound k=>simp only[du];split<;>(cases c<;>rfl)
  |
   plus a b =>
   cases c with
   |l c=>simp only[Vl.nodes]at hn;exact congrArg Vl.l (dJ x n c a i v (by omega))
   |r c=>simp only[Vl.nodes]at hn;exact congrArg Vl.r (dJ x n c b i v (by omega))
   |_=>rfl
  |
   times a b =>
   cases c with
   |
    l c =>
    cases c with
    |p y z=>simp only[Vl.nodes]at hn;exact congrArg (fun q=>Vl.p q z) (dJ x n y a i v (by omega))
    |_=>rfl
   |
    r c =>
    cases c with
    |p y z=>simp only[Vl.nodes]at hn;exact congrArg (Vl.p y) (dJ x n z b i v (by omega))
    |_=>rfl
   |_=>rfl
  |
   rc a =>
   cases c with
   |
    f c =>
    cases c with
    |l y=>simp only[Vl.nodes]at hn;exact congrArg Vl.f (dJ x n y a (i+1) v (by omega))
    |
     r c =>
     cases c with
     |
      p y z =>
      simp only[Vl.nodes]at hn
      have h2:=dJ x n z (.rc a) i v (by omega)
      have h1:=dJ x n y a (i+1) (cP (.rc a) z v) (by omega)
      show Vl.f (cP (du (.name x) a (i+1)) y (cP (.rc (du (.name x) a (i+1))) z v))=Vl.f (cP a y (cP (.rc a) z v))
      have h3:cP (.rc (du (.name x) a (i+1))) z v=cP (.rc a) z v:=h2
      rw[h3,h1]
     |_=>rfl
    |_=>rfl
   |_=>rfl
  |_=>rfl
theorem Ao{n:Nat}{c:Vl}{a:Ty}(h:vT n c (.rc a)=true):∃w,c=.f w/\vT n w (du (.rc a) a 0)=true:=by
 cases c with
 |f w=>exact⟨w,rfl,h⟩
 |_=>simp[vT]at h
theorem iS{n:Nat}{c:Vl}{a b:Ty}(h:vT n c (.plus a b)=true):(∃w,c=.l w/\vT n w a=true)\/∃w,c=.r w/\vT n w b=true:=by
 cases c with
 |l w=>exact .inl ⟨w,rfl,h⟩
 |r w=>exact .inr ⟨w,rfl,h⟩
 |_=>simp[vT]at h
theorem fX{n:Nat}{c:Vl}{a b:Ty}(h:vT n c (.times a b)=true):∃x y,c=.p x y/\vT n x a=true/\vT n y b=true:=by
 cases c with
 |p x y=>simp only[vT,az]at h;exact⟨x,y,rfl,h.1,h.2⟩
 |_=>simp[vT]at h
theorem nM{σ:Nm->Option Ty}(hσ:Cb σ){a c d:Ty}{x:Nm}(ha:jd (.rc a) 0)(hc:jd c 0)(hd:jd d 0):∃X,eK σ (pK a x c d)=.rc X/\du (.rc X) X 0=.plus (eK (iC σ x (eK σ (.rc a))) c) (.times (eK (iC σ x (eK σ (.rc a))) d) (eK σ (pK a x c d))):=by
 refine⟨.plus (eK σ (sub x (.rc a) c)) (.times (eK σ (sub x (.rc a) d)) (.bound 0)),rfl,?_⟩
 have h1:=jP hσ (sub x (.rc a) c) (kk ha c hc)
 have h2:=jP hσ (sub x (.rc a) d) (kk ha d hd)
 simp only[du,lF _ _ h1,lF _ _ h2,if_true]
 rw[hJ,hJ]
 simp only[pK,eK,hJ]
theorem vB(n:Nat):∀(m:Nat) (c:Vl),c.nodes<=m->∀(t:Ty) (s:Nm) (d:Ty) (σ:Nm->Option Ty),Dv t s d->Cb σ->jd t 0->vT n c (eK σ d)=true->dH t c=true
 |0,c,h=>by have:=dB c;omega
 |
  m+1,c,hm=>by
  intro t s d σ hd hσ hl hv
  cases hd with
  |zero=>cases c<;>rfl
  |one=>cases c<;>rfl
  |bound=>cases c<;>rfl
  |hit=>cases c<;>rfl
  |qf=>cases c<;>rfl
  |
   plus h1 h2 _ =>
   rcases iS hv with⟨w,rfl,hw⟩|⟨w,rfl,hw⟩
   ·simp only[Vl.nodes]at hm;exact vB n m w (by omega) _ s _ σ h1 hσ hl.1 hw
   ·simp only[Vl.nodes]at hm;exact vB n m w (by omega) _ s _ σ h2 hσ hl.2 hw
  |
   times h1 h2 _ =>
   rcases iS hv with⟨w,rfl,hw⟩|⟨w,rfl,hw⟩
   ·obtain⟨x,y,rfl,hx,hy⟩:=fX hw
    simp only[Vl.nodes]at hm;exact vB n m x (by omega) _ s _ σ h1 hσ hl.1 hx
   ·obtain⟨x,y,rfl,hx,hy⟩:=fX hw
    simp only[Vl.nodes]at hm;exact vB n m y (by omega) _ s _ σ h2 hσ hl.2 hy
  |
   @rc a _ c0 d0 x hx hs h1 h2 hsz =>
   have lo:jd (du (.name x) a 0) 0:=gm x a hl
   obtain⟨X,e1,e2⟩:=nM (x:=x) hσ hl (h1.lc lo) (h2.lc lo)
   have hv':=hv
   rw[e1]at hv'
   obtain⟨w,rfl,hw⟩:=Ao hv'
   rw[e2]at hw
   have hcl:=k8 hσ x (jP hσ (.rc a) hl)
   rcases iS hw with⟨y,rfl,hy⟩|⟨y,rfl,hy⟩
   ·simp only[Vl.nodes]at hm
    have:=vB n m y (by omega) _ s _ _ h1 hcl lo hy
    rw[iP x y.nodes y a 0 (aw _)]at this
    exact this
   ·obtain⟨y,z,rfl,hy,hz⟩:=fX hy
    simp only[Vl.nodes]at hm
    have q1:=vB n m y (by omega) _ x _ _ h2 hcl lo hy
    rw[iP x y.nodes y a 0 (aw _)]at q1
    have q2:=vB n m z (by omega) (.rc a) s _ σ (.rc x hx hs h1 h2 hsz) hσ hl hz
    show (dH a y&&dH (.rc a) z)=true
    rw[q1,q2];rfl
theorem qa(n:Nat):∀(m:Nat) (c:Vl),c.nodes<=m->∀(t:Ty) (s:Nm) (d:Ty) (σ:Nm->Option Ty),Dv t s d->Cb σ->jd t 0->vT n c (eK σ d)=true->∀v,vT n v (eK σ (.name s))=true->vT n (cP t c v) (eK σ t)=true
 |0,c,h=>by have:=dB c;omega
 |
  m+1,c,hm=>by
  intro t s d σ hd hσ hl hv v hvv
  have no:∀c,vT n c .zero=false:=fun c=>by cases c<;>rfl
  cases hd with
  |zero=>rw[show eK σ .zero=.zero from rfl,no]at hv;cases hv
  |one=>rw[show eK σ .zero=.zero from rfl,no]at hv;cases hv
  |bound=>rw[show eK σ .zero=.zero from rfl,no]at hv;cases hv
  |qf=>rw[show eK σ .zero=.zero from rfl,no]at hv;cases hv
  |hit=>rw[ky];exact hvv
  |
   plus h1 h2 _ =>
   rcases iS hv with⟨w,rfl,hw⟩|⟨w,rfl,hw⟩
   ·simp only[Vl.nodes]at hm;exact qa n m w (by omega) _ s _ σ h1 hσ hl.1 hw v hvv
   ·simp only[Vl.nodes]at hm;exact qa n m w (by omega) _ s _ σ h2 hσ hl.2 hw v hvv
  |
   times h1 h2 _ =>
   rcases iS hv with⟨w,rfl,hw⟩|⟨w,rfl,hw⟩
   ·obtain⟨x,y,rfl,hx,hy⟩:=fX hw
    simp only[Vl.nodes]at hm
    have:=qa n m x (by omega) _ s _ σ h1 hσ hl.1 hx v hvv
    show (vT n _ _&&vT n _ _)=true
    rw[this,hy];rfl
   ·obtain⟨x,y,rfl,hx,hy⟩:=fX hw
    simp only[Vl.nodes]at hm
    have:=qa n m y (by omega) _ s _ σ h2 hσ hl.2 hy v hvv
    show (vT n _ _&&vT n _ _)=true
    rw[this,hx];rfl
  |
   @rc a _ c0 d0 x hx hs h1 h2 hsz =>
   have lo:jd (du (.name x) a 0) 0:=gm x a hl
   obtain⟨X,e1,e2⟩:=nM (x:=x) hσ hl (h1.lc lo) (h2.lc lo)
   have hv':=hv
   rw[e1]at hv'
   obtain⟨w,rfl,hw⟩:=Ao hv'
   rw[e2]at hw
   have hcl:=k8 hσ x (jP hσ (.rc a) hl)
   have hop:eK (iC σ x (eK σ (.rc a))) (du (.name x) a 0)=du (eK σ (.rc a)) (eK σ a) 0:=jq hσ x _ a 0 hx
   have hns:eK (iC σ x (eK σ (.rc a))) (.name s)=eK σ (.name s):=by simp only[eK,iC,if_neg (Ne.symm hs)]
   have hnx:eK (iC σ x (eK σ (.rc a))) (.name x)=eK σ (.rc a):=by simp[eK,iC]
   rcases iS hw with⟨y,rfl,hy⟩|⟨y,rfl,hy⟩
   ·simp only[Vl.nodes]at hm
    have:=qa n m y (by omega) _ s _ _ h1 hcl lo hy v (by rw[hns];exact hvv)
    rw[hop,dJ x y.nodes y a 0 v (aw _)]at this
    exact this
   ·obtain⟨y,z,rfl,hy,hz⟩:=fX hy
    simp only[Vl.nodes]at hm
    have q2:=qa n m z (by omega) (.rc a) s _ σ (.rc x hx hs h1 h2 hsz) hσ hl hz v hvv
    have q1:=qa n m y (by omega) _ x _ _ h2 hcl lo hy (cP (.rc a) z v) (by rw[hnx];exact q2)
    rw[hop,dJ x y.nodes y a 0 _ (aw _)]at q1
    exact q1
def Ch:Nm->Option Ty:=fun _=>none
theorem sf:Cb Ch:=fun _ _ h=>by cases h
theorem iI:∀t:Ty,eK Ch t=t
 | .name s=>rfl
 | .plus a b=>by simp only[eK,iI a,iI b]
 | .times a b=>by simp only[eK,iI a,iI b]
 | .rc a=>by simp only[eK,iI a]
 | .zero=>rfl
 | .one=>rfl
 | .bound k=>rfl
theorem Hr{n:Nat}{a D:Ty}{x:Nm}(hx:bb x a=false)(hl:jd (.rc a) 0)(h:nH a x=some D){c:Vl}(hc:vT n c D=true) :
 dH a c=true/\∀v,vT n v (.rc a)=true->vT n (.f (cP a c v)) (.rc a)=true:=by
 simp only[nH,bc,cI,eS]at h
 obtain⟨d,hd,_,rfl⟩:=h
 have lo:jd (du (.name x) a 0) 0:=gm x a hl
 have hcl:=k8 sf x hl
 have e1:sub x (.rc a) d=eK (iC Ch x (.rc a)) d:=by
  have:=hJ Ch x (.rc a) d
  rw[iI,iI]at this;exact this
 rw[e1]at hc
 have h1:=vB n c.nodes c (aw _) _ x _ _ hd hcl lo hc
 rw[iP x c.nodes c a 0 (aw _)]at h1
 refine⟨h1,fun v hv=>?_⟩
 have h2:=qa n c.nodes c (aw _) _ x _ _ hd hcl lo hc v (by simpa[eK,iC]using hv)
 rw[dJ x c.nodes c a 0 v (aw _),jq sf x _ a 0 hx,iI]at h2
 exact h2
end Go.Proofs.Trees
namespace Go.Proofs.Trees
open Go Go.VL Go.RowKit
def kl(s:List UInt8):Option Ty:=match wC s with
 |some (.rc a)=>some a
 |_=>none
def BR:Option Ty->AV
 |some a=>(Ty.rc a).av
 |none=>gR
theorem OI(s:List UInt8):an Tryz.prog 58 [.v (.string (mk s))] [] (bB (BR (kl s))):=by
 refine Rg _ ?_
 unfold IQ
 refine ak (H8 s) ?_
 cases h:wC s with
 |none=>simp[↓zq,zs,ag,gM,BR,kl,h,bB]
 |some t=>cases t<;>simp[↓zq,zs,ag,gM,BR,kl,h,bB,Ty.av]
def pg(s v:List UInt8):Option Vl:=match kl s with
 |some _=>nD s v 100
 |none=>none
def GY(s:List UInt8):AV:=match kl s with
 |some a=>(Ty.rc a).av
 |none=>gR
theorem ur{s:List UInt8}{a:Ty}(h:kl s=some a):wC s=some (.rc a):=by
 unfold kl at h
 split at h
 ·rename_i e;cases h;exact e
 ·cases h
theorem QQ(s v:List UInt8):an Tryz.prog 31 [.v (.string (mk s)),.v (.string (mk v))] [] (bB (.cy [GY s,ij (pg s v)])):=by
 refine OD _ _ ?_
 unfold Mm
 refine ak (OI s) ?_
 cases h:kl s with
 |none=>simp[↓zq,zs,ag,BR,GY,pg,h,bB,ij]
 |
  some a =>
  simp only[↓zq,zs,ag,BR,aF,fC]
  refine⟨fun h=>(by cases h),fun _=>?_⟩
  refine ak (Kv s v 100) ?_
  rw[ur h]
  simp[↓zq,zs,ag,gM,fF,GY,pg,h,bB,aF]
structure LV(s v:List UInt8)(w:Vl)(a:Ty)(x A B:E):Prop where
 l:kl s=some a
 ce:jn s=some (.list [x,A,B])
 v:pY v=some w
 ask:Ask (.list [x,A,B]) [] (.rc a)
 hx:x.at=[114,101,99]
 RY:dD A.at=true
 body:Ask B [.mk A.at (.list [x,A,B]) []] a
 fA:fA 100 w (.list [x,A,B],[])=true
theorem sE{e:E}{env:List Fr}{a:Ty}(A:Ask e env (.rc a)):∃x y z,e=.list [x,y,z]/\x.at=[114,101,99]/\dD y.at=true/\Ask z (.mk y.at (.list [x,y,z]) env::env) a:=by
 rcases fL A.ty rfl A.cl with⟨_,h⟩|⟨_,h⟩|⟨s,_,h,_⟩|⟨x,y,z,t1,t2,_,_,h,_⟩|⟨x,y,z,t1,t2,_,_,h,_⟩|⟨x,y,z,t1,rfl,hx,h⟩
 ·cases h
 ·cases h
 ·cases h
 ·cases h
 ·cases h
 ·cases h
  obtain⟨t1',he1,h1,f1,hw1⟩:=jJ A.wf A.ok hx A.ty A.cl
  cases he1
  obtain⟨_,_,ok3,_⟩:=A.ok
  obtain⟨_,hla,_,_⟩:=dU hx A.ty
  exact⟨x,y,z,rfl,hx,hla,ok3,hw1,h1,f1⟩
theorem pJ{s v:List UInt8}{w:Vl}(h:pg s v=some w):∃a x A B,LV s v w a x A B:=by
 unfold pg at h
 split at h
 ·rename_i a hl
  obtain⟨e,t,m,h1,h2,h3,h4,h5,h6,h7⟩:=n6 h
  rw[ur hl]at h3
  cases h3
  obtain⟨x,A,B,rfl,hx,hA,hB⟩:=sE h4
  have:m=100:=by omega
  subst this
  exact⟨a,x,A,B,hl,h1,h2,h4,hx,hA,hB,h7⟩
 ·cases h
theorem LV.gX{s v:List UInt8}{w:Vl}{a:Ty}{x A B:E}(h:LV s v w a x A B):w.gX 100:=(jy h.v).2.1
theorem LV.nodes{s v:List UInt8}{w:Vl}{a:Ty}{x A B:E}(h:LV s v w a x A B):w.nodes<=200:=(jy h.v).2.2
theorem DN{n:Nat}{v:Vl}{x A B:E}{env:List Fr}(hw:WF env)(hx:x.at=[114,101,99])(h:fA n v (.list [x,A,B],env)=true):∃w,v=.f w/\fA n w (B,.mk A.at (.list [x,A,B]) env::env)=true:=by
 have hd:=oX (x:=x) (a:=A) (b:=B) hw
 cases v<;>simp[fA,hd,hx]at h |-
 exact h
theorem QV(n:Nat)(v:Vl)(x A B:E)(a:Ty)(hA:Ask B [.mk A.at (.list [x,A,B]) []] a)(hx:x.at=[114,101,99])(hv:fA n v (.list [x,A,B],[])=true)(hl:v.nodes<90000):an Tryz.prog 23 [(Ty.rc a).av,v.cv] [] (bB (.sl (ia (kids a v)))):=by
 obtain⟨w,rfl,hw⟩:=DN .nil hx hv
 refine PI _ _ ((aF _).mpr trivial) ((aM _).mpr trivial) ?_
 unfold IN
 refine aO (CD a gR [] .nil) (BF.ne a gR []) ?_
 rintro r o ⟨⟨m,hm,rfl⟩,rfl⟩
 have he2:kg (.ptr [.pid m [(Ty.rc a).av,gR],gR]) [m]:=.cons hm .nil
 have hfr:LK.ptr.has (.pid m [(Ty.rc a).av,gR]):=.inr (.inr ⟨_,_,rfl⟩)
 simp only[Ty.av]at he2 hfr
 simp only[↓zq,zs,ag,bF,aF,he2.has,hfr,Vl.cv,aM,Ty.av]
 repeat refine⟨by omega,?_⟩
 simp only[Vl.nodes]at hl
 have i2:=Ek n w.nodes w (aw _) B _ a hA hw (by simp;omega) _ _ he2 (by simp) (.bd 0) [] _ (by have:=zW.bd (k:=0) (ids:=[m]) (by simp) [(Ty.rc a).av,gR] [];simpa only[bp,Ty.av]using this)
 unfold FW at i2
 refine ak i2 ?_
 simp[↓zq,zs,ag,bB,kids]
def rD(l:List Nat):List (List AV):=l.map fun(k:Nat)=>[.v (.int .i64 (k:Int))]
theorem wg(l:List Nat):(rD l).length=l.length:=by simp[rD]
end Go.Proofs.Trees
namespace Go.Proofs.Trees
open Go Go.VL Go.RowKit
theorem Hu{b:UInt8}(h:gL b=true):eV b=true:=by
 simp only[gL,eV,decide_eq_true_eq]at h |-;omega
theorem Df{y:Nm}(h:J5 y):y≠[]/\y.all eV=true:=by
 have key:∀lo hi,97<=lo->hi<=122->named lo hi y=true->y≠[]/\y.all eV=true:=fun lo hi h1 h2 h=>by
  cases y with
  |nil=>cases h
  |
   cons c r =>
   simp only[named,az,decide_eq_true_eq]at h
   refine⟨by simp,?_⟩
   rw[cT,az]
   refine⟨?_,?_⟩
   ·simp only[eV,decide_eq_true_eq];omega
   ·rw[bM]
    intro b hb
    exact Hu (bM.1 h.2 b hb)
 rcases h with h|h
 ·exact key 120 122 (by omega) (by omega) h
 ·exact key 116 116 (by omega) (by omega) h
theorem A0(m:Nat):(tN m).all eV=true:=by
 rw[cT,tX (m+1) m (by omega)];rfl
theorem pq(F:List Nm):∀(t:Ty) (to:List Nm) (k:Nat),(∀y,bb y t=true->y≠[]/\y.all eV=true)->(∀w,w∈to->w≠[]/\w.all eV=true)->jd t to.length->(gD F t to k).1.pr
 | .zero,_,_,_,_,_=>⟨by simp,by decide⟩
 | .one,_,_,_,_,_=>⟨by simp,by decide⟩
 | .name s,_,_,hn,_,_=>hn s (by simp[bb])
 |
  .bound u,to,_,_,ht,hl=>by
  have:to.length-1-u<to.length:=by have:u<to.length:=hl;omega
  show (E.atom (jG to u)).pr
  unfold jG
  rw[aa,bg this]
  exact ht _ (bN this)
 | .plus a b,to,k,hn,ht,hl=>⟨by simp,⟨by simp,by decide⟩,pq F a to k (fun y hy=>hn y (by simp[bb,hy])) ht hl.1,pq F b to _ (fun y hy=>hn y (by simp[bb,hy])) ht hl.2,trivial⟩
 | .times a b,to,k,hn,ht,hl=>⟨by simp,⟨by simp,by decide⟩,pq F a to k (fun y hy=>hn y (by simp[bb,hy])) ht hl.1,pq F b to _ (fun y hy=>hn y (by simp[bb,hy])) ht hl.2,trivial⟩
 |
  .rc a,to,k,hn,ht,hl=>by
  refine⟨by simp,⟨by simp,by decide⟩,⟨by simp,A0 _⟩,pq F a (to++[tN (nx F k)]) _ hn (fun w hw=>?_) (by rw[aq];exact hl),trivial⟩
  rcases aK.1 hw with hw|hw
  ·exact ht w hw
  ·simp only[aS]at hw;rw[hw];exact⟨by simp,A0 _⟩
theorem zL{D:Ty}{dt:Nm}(g:fJ D)(hn:∀y,bb y D=true->J5 y)(h:told D=some dt):qD dt=some D:=by
 unfold told at h
 split at h
 ·rename_i hh
  cases h
  obtain⟨t,ht⟩:=Option.isSome_iff_exists.1 hh.2
  obtain⟨e,he,hw,hte,_,_⟩:=nq ht
  obtain⟨h1,_,_⟩:=oW he
  obtain⟨hx,hpr,_⟩:=xx h1
  obtain⟨w1,w2,_⟩:=ki (bI D []) D [] 0 (.nil _ _) g.1 fun y hy=>⟨(eM D [] y).2 (.inr hy),g.2 y hy⟩
  have hp:=pq (bI D []) D [] 0 (fun y hy=>Df (hn y hy)) (fun w hw=>by cases hw) g.1
  have:=AX hp hpr hx
  rw[ht,<-hte,<-this,w2]
 ·cases h
theorem tC{a d:Ty}{x:Nm}(h:nH a x=some d):∀y,bb y d=true->bb y a=true:=by
 simp only[nH,bc,cI,eS]at h
 obtain⟨d',h1,_,rfl⟩:=h
 intro y hy
 rcases iU _ hy with h|⟨h,h'⟩
 ·exact h
 ·rcases gf a 0 (h1.names y h')with e|e
  ·exact absurd e h
  ·exact e
structure ZT(s d:Nm)(a:Ty)(x A B:E)(D:Ty):Prop where
 l:kl s=some a
 ce:jn s=some (.list [x,A,B])
 ask:Ask (.list [x,A,B]) [] (.rc a)
 hx:x.at=[114,101,99]
 body:Ask B [.mk A.at (.list [x,A,B]) []] a
 dl:cE s=some d
 y:qD s=some (.rc a)
 lp:nH a lN=some D
 bk:qD d=some D
theorem tG{s:Nm}{t:Ty}(h:wC s=some t):qD s=some t:=by
 unfold wC at h
 split at h
 ·cases h
 ·rename_i u hu
  split at h
  ·cases h;exact hu
  ·cases h
theorem ZT.of{s d:Nm}{a:Ty}(hl:kl s=some a)(hd:cE s=some d):∃x A B D,ZT s d a x A B D:=by
 have hc:=ur hl
 cases hce:jn s with
 |none=>rw[mN hce]at hc;cases hc
 |
  some e =>
  obtain⟨t,h1,hA,_⟩:=gp hce
  rw[hc]at h1;cases h1
  obtain⟨x,A,B,rfl,hx,hA',hB⟩:=sE hA
  have hy:=tG hc
  have hd':=hd
  unfold cE at hd'
  rw[hy]at hd'
  obtain⟨D,h2,h3⟩:=bc.1 hd'
  obtain⟨e2,he2,hw2,hte2,_,_⟩:=nq hy
  have hg:=qS hw2 hte2 (x:=lN) ⟨by simp,by simp,by simp⟩ h2
  exact⟨x,A,B,D,hl,hce,hA,hx,hB,hd,hy,h2,zL hg.1 (fun y hy'=>mK hy y (tC h2 y hy')) h3⟩
structure Cx(a:Ty)(w:Vl):Prop where
 ok:dH a w=true
 ty:∀v,vT 100 v (.rc a)=true->vT 100 (.f (cP a w v)) (.rc a)=true
 gX:w.gX 100
 nd:w.nodes<=200
structure Fo(a:Ty)(v:Vl):Prop where
 ty:vT 100 v (.rc a)=true
 gX:v.gX 100
 nd:v.nodes<=200
theorem ZT.ctx{s d:Nm}{a:Ty}{x A B:E}{D:Ty}(z:ZT s d a x A B D){c:Nm}{w:Vl}(h:nD d c 100=some w):Cx a w:=by
 obtain⟨e,t,m,h1,h2,h3,h4,h5,h6,h7⟩:=n6 h
 have hm:m=100:=by omega
 subst hm
 have:=tG h3
 rw[z.bk]at this;cases this
 rw[mG h4]at h7
 obtain⟨e2,he2,hw2,hte2,_,_⟩:=nq z.y
 have hlc:jd (.rc a) 0:=hte2 ▸ hw2.ql.1
 obtain⟨q1,q2⟩:=Hr (tQ z.y) hlc z.lp h7
 exact⟨q1,q2,(jy h2).2.1,(jy h2).2.2⟩
theorem ZT.qu{s d:Nm}{a:Ty}{x A B:E}{D:Ty}(z:ZT s d a x A B D){f:Nm}{v:Vl}(h:pg s f=some v):Fo a v/\f=v.df:=by
 obtain⟨a',x',A',B',L⟩:=pJ h
 have:=L.l
 rw[z.l]at this;cases this
 exact⟨⟨by rw[<-mG L.ask];exact L.fA,L.gX,L.nodes⟩,qQ L.v⟩
theorem Fo.fA{s d:Nm}{a:Ty}{x A B:E}{D:Ty}(z:ZT s d a x A B D){v:Vl}(h:Fo a v):fA 100 v (.list [x,A,B],[])=true:=by rw[mG z.ask];exact h.ty
theorem ZT.df{s d:Nm}{a:Ty}{x A B:E}{D:Ty}(z:ZT s d a x A B D){w:Vl}(hb:w.gX 100)(hv:vT 100 w (.rc a)=true):nD s w.df 100=if w.nodes<=200 then some w else none:=by
 unfold nD
 rw[z.ce]
 by_cases hn:w.nodes<=200
 ·rw[qC hb hn,if_pos hn]
  simp only
  rw[if_pos ⟨by omega,by rw[show (100:Int).toNat=100 from rfl,mG z.ask];exact hv⟩]
 ·rw[if_neg hn]
  cases q:pY w.df with
  |none=>rfl
  |
   some w' =>
   exfalso
   obtain⟨_,h2,h3⟩:=jy q
   have:=tE hb h2 (qQ q)
   rw[this]at hn;exact hn h3
theorem ZT.lv{s d:Nm}{a:Ty}{x A B:E}{D:Ty}(z:ZT s d a x A B D)(f:Nm):pg s f=nD s f 100:=by
 unfold pg;rw[z.l]
def eJ(d:Nm):List Nm->Option (List Vl)
 |[]=>some []
 |
  c::r=>match nD d c 100,eJ d r with
  |some w,some l=>some (w::l)
  |_,_=>none
theorem rU{s d:Nm}{a:Ty}{x A B:E}{D:Ty}(z:ZT s d a x A B D):∀(p:List Nm) (l:List Vl),eJ d p=some l->p=l.map (·.df)/\∀c,c∈l->Cx a c
 |[],l,h=>by cases h;exact⟨rfl,fun c hc=>by cases hc⟩
 |
  c::r,l,h=>by
  simp only[eJ]at h
  split at h
  ·rename_i w l' h1 h2
   cases h
   obtain⟨q1,q2⟩:=rU z r l' h2
   obtain⟨_,_,_,_,hv,_⟩:=n6 h1
   refine⟨by rw[bz,<-q1,<-qQ hv],fun c' hc'=>?_⟩
   rcases aH.1 hc' with rfl|hc'
   ·exact z.ctx h1
   ·exact q2 c' hc'
  ·cases h
theorem tt(d:Nm):∀(p q:List Nm),eJ d (p++q)=(eJ d p).bind fun l=>(eJ d q).map (l++·)
 |[],q=>by cases h:eJ d q<;>simp[eJ,h]
 |
  c::p,q=>by
  simp only[aW,eJ,tt d p q]
  cases nD d c 100 with
  |none=>rfl
  |
   some w =>
   cases eJ d p with
   |none=>rfl
   |some l=>cases eJ d q<;>rfl
noncomputable def l8 (s:Nm) (p:List Nm) (f:Nm):Option (List Vl×Vl):=match pg s f,cE s with
 |some v,some d=>if p.length<=50 then(eJ d p).map fun l=>(l,v)else none
 |_,_=>none
def zA(s:Nm):Ty:=(kl s).getD .zero
def uR(a:Ty)(l:List Vl)(v:Vl):Option (List Vl×Vl):=match l.getLast? with
 |none=>none
 |some c=>if(Vl.f (cP a c v)).nodes<=200 then some (l.dropLast,.f (cP a c v))else none
def jY:Nat->Ty->List Vl->Vl->Option Vl
 |0,_,_,v=>some v
 |n+1,a,l,v=>(uR a l v).bind fun r=>jY n a r.1 r.2
def su(a:Ty)(l:List Vl)(v:Vl):Option Vl:=jY l.length a l v
noncomputable def jU (s:Nm) (p:List Nm) (f:Nm):Option (List Vl×Vl):=(l8 s p f).bind fun r=>if(su (zA s) r.1 r.2).isSome=true then some r else none
structure ZI(a:Ty)(l:List Vl)(v:Vl):Prop where
 ctx:∀c,c∈l->Cx a c
 qu:Fo a v
theorem rz{a:Ty}{l l':List Vl}{v w:Vl}(h:ZI a l v)(hu:uR a l v=some (l',w)):ZI a l' w/\l'.length+1=l.length/\∃c,l=l'++[c]/\w=.f (cP a c v):=by
 unfold uR at hu
 cases q:l.getLast? with
 |none=>rw[q]at hu;cases hu
 |
  some c =>
  rw[q]at hu
  simp only at hu
  split at hu
  ·rename_i hn
   cases hu
   have hne:l≠[]:=by rintro rfl;cases q
   have hl:l.dropLast++[c]=l:=by
    have:=List.dropLast_concat_getLast hne
    rw[List.getLast?_eq_some_getLast hne]at q
    cases q;exact this
   have hc:c∈l:=by rw[<-hl];simp
   have hC:=h.ctx c hc
   refine⟨⟨fun c' hc'=>h.ctx c' (by rw[<-hl];exact aC _ hc'),hC.ty v h.qu.ty,ri 100 a c v hC.gX h.qu.gX,hn⟩,?_,c,hl.symm,rfl⟩
   have:=congrArg List.length hl
   simpa using this
  ·cases hu
end Go.Proofs.Trees
namespace Go.Proofs.Trees
open Go Go.VL Go.RowKit
def gN:Nm:=[40,114,101,99,32,116,48,32,40,43,32,49,32,40,42,32,120,32,116,48,41,41,41]
def xi:Nm:=[40,102,32,40,108,32,117,41,41]
theorem CT{v:Nm}{r:List Vl×Vl}(h:l8 gN [] v=some r):l8 gN [] xi=some ([],.f (.l .u)):=by
 have e:pg gN xi=some (.f (.l .u)):=by kernel_rfl
 unfold l8 at h |-
 rw[e]
 split at h
 ·rename_i d _ hd
  rw[hd];rfl
 ·cases h
theorem JK(k:Nat):(10:UInt8)∉dd k:=fun h=>by
 have h1:=bM.1 (tX (k+1) k (by omega)) _ h
 exact absurd h1 (by decide)
theorem oY:∀v:Vl,(10:UInt8)∉v.df
 |
  .u=>by
  show (10:UInt8)∉[117]
  decide
 |
  .el k=>by
  have:=JK k
  show (10:UInt8)∉101::dd k
  rw[aH,not_or]
  exact⟨by decide,this⟩
 |
  .l v=>by
  have:=oY v
  simp only[Vl.df,Vl.dG,eG,dP,aH,aK,List.not_mem_nil,or_false,not_or]at this |-
  exact⟨by decide,by decide,⟨by decide,this⟩,by decide⟩
 |
  .r v=>by
  have:=oY v
  simp only[Vl.df,Vl.dG,eG,dP,aH,aK,List.not_mem_nil,or_false,not_or]at this |-
  exact⟨by decide,by decide,⟨by decide,this⟩,by decide⟩
 |
  .f v=>by
  have:=oY v
  simp only[Vl.df,Vl.dG,eG,dP,aH,aK,List.not_mem_nil,or_false,not_or]at this |-
  exact⟨by decide,by decide,⟨by decide,this⟩,by decide⟩
 |
  .p a b=>by
  have h1:=oY a
  have h2:=oY b
  simp only[Vl.df,Vl.dG,eG,dP,aH,aK,List.not_mem_nil,or_false,not_or]at h1 h2 |-
  exact⟨by decide,by decide,⟨by decide,h1,by decide,h2⟩,by decide⟩
end Go.Proofs.Trees
namespace Go.Proofs.Trees
open Go Go.VL Go.RowKit
def pX(l:List UInt8):List (List AV):=l.map fun(x:UInt8)=>[.v (.int .u8 (x.toNat:Int))]
structure s8(b:AV)(l:List UInt8):Prop where
 has:LK.sl.has b
 el:b.elems=pX l
 len:l.length<=2000
theorem s8.ln{b:AV}{l:List UInt8}(h:s8 b l):b.elems.length=l.length:=by rw[h.el];simp[pX]
theorem s8.get{b:AV}{l:List UInt8}(h:s8 b l){i:Nat}(hi:i<l.length):b.elems.getD i []=[.v (.int .u8 ((l[i]).toNat:Int))]:=by rw[h.el];simp[pX,aa,hi]
def eW(b:AV)(p c:Nat)(X:AV->Prop):AV->List Ob->Prop:=fun r o=>∃q:Nat,p<=q/\q<=p+c/\X r/\o=[.cells [b,.v (.int .i64 (q:Int))]]
theorem eW.ne{b:AV}{p c:Nat}{X:AV->Prop}{r:AV}(h:X r):∃r o,eW b p c X r o:=⟨r,_,p,aw _,cU _ _,h,rfl⟩
theorem DC{a b:Int}(ha:0<=a)(hb:0<=b)(ha':a<9223372036854775808)(hb':b<9223372036854775808):∃W:Nat,A8 .i64 a b=(W:Int):=by
 obtain⟨x,rfl⟩:∃x:Nat,a=(x:Int):=⟨a.toNat,by omega⟩
 obtain⟨y,rfl⟩:∃y:Nat,b=(y:Int):=⟨b.toNat,by omega⟩
 have e1:(BitVec.ofInt 64 (x:Int)).toNat=x:=by simp;omega
 have e2:(BitVec.ofInt 64 (y:Int)).toNat=y:=by simp;omega
 have hlt:x ^^^ y<2 ^ 63:=Nat.xor_lt_two_pow (by omega) (by omega)
 refine⟨x ^^^ y,?_⟩
 unfold A8
 have e3:(BitVec.ofInt (IntKind.bits .i64) (x:Int) ^^^ BitVec.ofInt (IntKind.bits .i64) (y:Int)).toNat=x ^^^ y:=by
  show (BitVec.ofInt 64 (x:Int) ^^^ BitVec.ofInt 64 (y:Int)).toNat=_
  rw[BitVec.toNat_xor,e1,e2]
 rw[e3,VL.wrap64]<;>omega
theorem yI(a b:Nat):Int.tdiv (a:Int) (b:Int)=((a/b:Nat):Int):=(Int.ofNat_tdiv a b).symm
theorem qv(a b:Nat):da (a:Int) (b:Int)=((a%b:Nat):Int):=(Int.ofNat_tmod a b).symm
theorem vH(n:Nat)(h:n<9223372036854775808):IntKind.wrap .i64 (n:Int)=(n:Int):=VL.wrap64 _ (by omega) (by omega)
def isNum(n:Nat):AV->Prop:=fun r=>∃k:Nat,r=.v (.int .i64 (k:Int))/\(1<=n->k<n)/\k<=n
abbrev qx:Nat:=1000000000000000
theorem xN(b:AV)(l:List UInt8)(hb:s8 b l)(p n:Nat)(hp:p<2*qx)(hn:n<qx):an Tryz.prog 27 [.ref 0 0,.v (.int .i64 (n:Int))] [.cells [b,.v (.int .i64 (p:Int))]] (eW b p 1 (isNum n)):=by
 refine QH _ _ _ hb.has ?_
 have e1:IntKind.wrap .i64 ((p:Int)+1)=((p+1:Nat):Int):=by rw[VL.wrap64]<;>simp[qx]at hp<;>omega
 have e2:IntKind.wrap .i64 (((p+1:Nat):Int)-1)=(p:Int):=by rw[VL.wrap64]<;>simp[qx]at hp<;>omega
 have fin:∀k:Nat,(1<=n->k<n)->k<=n->eW b p 1 (isNum n) (.v (.int .i64 (k:Int))) [.cells [b,.v (.int .i64 ((p+1:Nat):Int))]]:=fun k h h'=>⟨p+1,by omega,aw _,⟨k,rfl,h,h'⟩,rfl⟩
 simp only[KC,↓zq,zs,ag,e1,e2,hb.ln,yI,qv]
 refine⟨fun h=>fin 0 (fun h'=>by omega) (dN _),fun h=>⟨hb.has,fun h0=>fin 0 (fun h'=>by omega) (dN _),fun h0=>?_⟩⟩
 have hl:0<l.length:=by omega
 have hll:=hb.len
 refine⟨hb.has,fun hlt=>?_,fun hge=>?_⟩
 ·have hlt:p<l.length:=by omega
  have hx:=(l[p]).toNat_lt
  simp only[bR,hb.get hlt,hb.has,↓zq,zs,ag]
  rw[vH _ (by omega),qv]
  have:=fin ((l[p]).toNat%n) (fun h'=>Nat.mod_lt _ (by omega)) (Nat.le_of_lt (Nat.mod_lt _ (by omega)))
  repeat (first|exact this|refine⟨by omega,?_⟩)
 ·have h1:p%l.length<l.length:=Nat.mod_lt _ hl
  have e3:IntKind.wrap .i64 ((p:Int)*7)=((p*7:Nat):Int):=by rw[VL.wrap64]<;>simp[qx]at hp<;>omega
  have e4:IntKind.wrap .i64 (((p*7:Nat):Int)+3)=((p*7+3:Nat):Int):=by rw[VL.wrap64]<;>simp[qx]at hp<;>omega
  have h2:(p*7+3)%l.length<l.length:=Nat.mod_lt _ hl
  have hx:=(l[p%l.length]).toNat_lt
  have hy:=(l[(p*7+3)%l.length]).toNat_lt
  have hq:p/l.length<=p:=Nat.div_le_self _ _
  simp only[e3,e4,qv,bR,hb.get h1,hb.get h2,hb.has,↓zq,zs,ag]
  generalize hxx:(l[p%l.length]).toNat=x at hx |-
  generalize hyy:(l[(p*7+3)%l.length]).toNat=y at hy |-
  generalize hqq:p/l.length=q at hq |-
  have f1:IntKind.wrap .i64 ((x:Int))=(x:Int):=vH _ (by omega)
  have f2:IntKind.wrap .i64 ((y:Int))=(y:Int):=vH _ (by omega)
  have f3:IntKind.wrap .i64 ((x:Int)*131)=((x*131:Nat):Int):=by rw[VL.wrap64]<;>omega
  have f4:IntKind.wrap .i64 ((y:Int)*1117)=((y*1117:Nat):Int):=by rw[VL.wrap64]<;>omega
  have f5:IntKind.wrap .i64 (((x*131:Nat):Int)+((y*1117:Nat):Int))=((x*131+y*1117:Nat):Int):=by rw[VL.wrap64]<;>omega
  have f6:IntKind.wrap .i64 ((p:Int)*29)=((p*29:Nat):Int):=by rw[VL.wrap64]<;>simp[qx]at hp<;>omega
  have f7:IntKind.wrap .i64 (((x*131+y*1117:Nat):Int)+((p*29:Nat):Int))=((x*131+y*1117+p*29:Nat):Int):=by rw[VL.wrap64]<;>simp[qx]at hp<;>omega
  have f8:IntKind.wrap .i64 ((q:Int))=(q:Int):=vH _ (by simp[qx]at hp;omega)
  have f9:IntKind.wrap .i64 ((q:Int)*53)=((q*53:Nat):Int):=by rw[VL.wrap64]<;>simp[qx]at hp<;>omega
  have f10:IntKind.wrap .i64 (((x*131+y*1117+p*29:Nat):Int)+((q*53:Nat):Int))=((x*131+y*1117+p*29+q*53:Nat):Int):=by rw[VL.wrap64]<;>simp[qx]at hp<;>omega
  simp only[f1,f2,f3,f4,f5,f6,f7,f8,f9,f10]
  generalize hV:x*131+y*1117+p*29+q*53=V
  have hVl:V<1000000000000000000:=by simp[qx]at hp;omega
  have f11:IntKind.wrap .i64 (Int.tdiv (V:Int) 64)=((V/64:Nat):Int):=by
   have:Int.tdiv (V:Int) 64=((V/64:Nat):Int):=yI V 64
   rw[this,vH _ (by omega)]
  rw[f11]
  obtain⟨W,hW⟩:=DC (a:=(V:Int)) (b:=((V/64:Nat):Int)) (by omega) (by omega) (by omega) (by omega)
  rw[hW,qv]
  have:=fin (W%n) (fun h'=>Nat.mod_lt _ (by omega)) (Nat.le_of_lt (Nat.mod_lt _ (by omega)))
  repeat (first|exact this|refine⟨by omega,?_⟩)
def kK(L:List (List UInt8)):AV->Prop:=fun r=>∃s,s∈L/\r=.v (.string (mk s))
theorem CJ(b:AV)(l:List UInt8)(hb:s8 b l)(p:Nat)(hp:p<2*qx)(L:List (List UInt8))(a:AV)(ha:cw a L)(hL:0<L.length)(hLl:L.length<1000000):an Tryz.prog 52 [.ref 0 0,a] [.cells [b,.v (.int .i64 (p:Int))]] (eW b p 1 (kK L)):=by
 refine Q4 _ _ _ ha.1 hb.has ?_
 unfold I3
 simp only[↓zq,zs,ag,ha.len]
 refine⟨ha.1,?_⟩
 have hpk:=xN b l hb p L.length hp (by simp[qx];omega)
 refine aO hpk (eW.ne ⟨0,rfl,fun h=>h,dN _⟩) ?_
 rintro r o ⟨q,h1,h2,⟨k,rfl,h3,h4⟩,rfl⟩
 have hk:=h3 hL
 simp only[↓zq,zs,ag,zt,aL,hb.has,ha.idx hk,bR]
 refine⟨⟨ha.1,by omega⟩,?_⟩
 have:eW b p 1 (kK L) (.v (.string (mk (L.getD k [])))) [.cells [b,.v (.int .i64 (q:Int))]]:=⟨q,h1,h2,⟨_,by simp[aa,hk],rfl⟩,rfl⟩
 repeat (first|exact this|refine⟨by omega,?_⟩)
def fW(n:Nat):AV->Prop:=fun r=>∃s:List UInt8,r=.v (.string (mk s))/\s.length<=n
theorem kK.df{L:List (List UInt8)}{n:Nat}(h:∀s,s∈L->s.length<=n){r:AV}(hr:kK L r):fW n r:=by
 obtain⟨s,h1,h2⟩:=hr;exact⟨s,h2,h s h1⟩
end Go.Proofs.Trees
namespace Go.Proofs.Trees
open Go Go.VL Go.RowKit
def jB:AV->List Ob->Prop:=fun r o=>o=[]/\∃b:Bool,r=.v (.bool b)
theorem jB.ne:∃r o,jB r o:=⟨_,_,rfl,true,rfl⟩
theorem jB.mk(b:Bool):jB (.v (.bool b)) []:=⟨rfl,b,rfl⟩
theorem jB.call{n:Nat}{f:Nat}{xs:List AV}{k:AV->List Ob->Tree}{Q:Nat->List AV->List Ob->Prop}(h:an Tryz.prog f xs [] jB)(hk:∀b:Bool,eU Tryz.prog n (k (.v (.bool b)) []) Q):eU Tryz.prog n (.call f xs [] k) Q :=
 aO h jB.ne (by rintro r o ⟨rfl,b,rfl⟩;exact hk b)
theorem K3{e:E}(h:Wf e):∀(l:List Nm) (a:AV),cw a l->l.length+e.sz<100000->an Tryz.prog 105 [.agg [.v (.string (mk e.at)),e.sp],a] [] jB:=by
 induction h with
 |
  @atom s hs =>
  intro l a ha hl
  simp only[E.sz]at hl
  refine C9 _ _ _ ((bh _).mpr trivial) ha.1 ?_
  simp only[AI,dQ,↓zq,zs,ag]
  refine ak (zd s _ ((bh (.atom s)).mpr trivial) hs) ?_
  simp only[↓zq,zs,ag,zt,ha.1]
  refine⟨fun h=>(by cases h),fun _=>⟨fun h=>(by cases h),fun _=>⟨fun h=>(by cases h),fun _=>⟨fun _=>.mk true,fun _=>?_⟩⟩⟩⟩
  refine ak (wv l a ha s (by omega)) ?_
  simp only[↓zq,zs,ag]
  exact .mk _
 |
  @plus x y hx hy i1 i2 =>
  intro l a ha hl
  simp only[E.sz,E.iY]at hl
  refine C9 _ _ _ ((bh _).mpr trivial) ha.1 ?_
  have hP:=P3.of (.atom [43]) x y
  simp only[AI,bH,toNat_one,bw,↓zq,zs,ag,zt,hP.1,hP.2.1,hP.2.2.1,hP.2.2.2,aR]
  refine ak (nG [43] x y) ?_
  simp only[↓zq,zs,ag,zt,ha.1,aR]
  refine⟨fun _=>⟨by omega,by omega,jB.call (i1 l a ha (by omega)) fun b=>?_⟩,fun h=>absurd rfl h⟩
  simp only[↓zq,zs,ag]
  refine⟨fun _=>⟨by omega,by omega,jB.call (i2 l a ha (by omega)) fun b=>?_⟩,fun _=>.mk _⟩
  simp only[↓zq,zs,ag]
  exact .mk _
 |
  @times x y hx hy i1 i2 =>
  intro l a ha hl
  simp only[E.sz,E.iY]at hl
  refine C9 _ _ _ ((bh _).mpr trivial) ha.1 ?_
  have hP:=P3.of (.atom [42]) x y
  simp only[AI,bH,toNat_one,bw,↓zq,zs,ag,zt,hP.1,hP.2.1,hP.2.2.1,hP.2.2.2,aR]
  refine ak (nG [42] x y) ?_
  simp only[↓zq,zs,ag,zt,ha.1,aR]
  refine⟨fun h=>(by cases h),fun _=>⟨fun _=>⟨by omega,by omega,jB.call (i1 l a ha (by omega)) fun b=>?_⟩,fun h=>absurd rfl h⟩⟩
  simp only[↓zq,zs,ag]
  refine⟨fun _=>.mk _,fun _=>⟨by omega,by omega,jB.call (i2 l a ha (by omega)) fun b=>?_⟩⟩
  simp only[↓zq,zs,ag]
  exact .mk _
 |
  @rc n b hn hb i =>
  intro l a ha hl
  simp only[E.sz,E.iY]at hl
  refine C9 _ _ _ ((bh _).mpr trivial) ha.1 ?_
  have hP:=P3.of (.atom dC) (.atom n) b
  simp only[AI,bH,toNat_one,bw,↓zq,zs,ag,zt,hP.1,hP.2.1,hP.2.2.1,hP.2.2.2,aR]
  refine ak (nG dC (.atom n) b) ?_
  simp only[↓zq,zs,ag,zt,ha.1,aR]
  refine⟨fun h=>(by cases h),fun _=>⟨fun h=>(by cases h),fun _=>⟨fun _=>⟨by omega,by omega,by omega,by omega,?_⟩,fun h=>absurd rfl h⟩⟩⟩
  refine aU (zg l a ha n (by omega)) ?_
  simp only[↓zq,zs,ag,zt,Ob.es,aP]
  refine⟨ej _,?_⟩
  refine jB.call (i (l++[n]) _ (.of _) (by simp;omega)) fun b=>?_
  simp only[↓zq,zs,ag]
  exact .mk _
def NV:AV->List Ob->Prop:=fun r o=>o=[]/\∃(g:E) (b:Bool),r=.cy [.agg [.v (.string (mk g.at)),g.sp],.v (.bool b)]/\Wf g/\g.cW<=400
theorem QR{n:Nm}{b:E}(hn:qG n)(hb:Wf b)(hl:(E.list [.atom dC,.atom n,b]).cW<=400):an Tryz.prog 108 [.agg [.v (.string (mk [])),(E.list [.atom dC,.atom n,b]).sp]] [] NV:=by
 have hw:Wf (.list [.atom dC,.atom n,b]):=.rc hn hb
 refine Q5 _ _ ((bh _).mpr trivial) ?_
 have hP:=P3.of (.atom dC) (.atom n) b
 have hbl:b.cW<=400:=by simp only[E.cW,E.eT]at hl;omega
 simp only[JU,toNat_one,bw,↓zq,zs,ag,zt,hP.1,hP.2.1,hP.2.2.1,hP.2.2.2,aR]
 refine⟨by omega,by omega,by omega,by omega,?_⟩
 have hf:=K4 hn hb hw (by omega) (by omega)
 obtain⟨g,g1,g2,g3⟩:=KP hn hb hw hbl hl
 simp only[bH]at hf g3
 refine ak hf ?_
 simp only[↓zq,zs,ag,zt,aR]
 refine⟨fun h=>⟨rfl,_,false,rfl,hw,hl⟩,fun h=>?_⟩
 repeat refine⟨by omega,?_⟩
 refine ak g3 ?_
 simp only[↓zq,zs,ag,zt,aR]
 refine⟨rfl,g,true,rfl,g1,?_⟩
 rw[g1.cW [],g2]
 simpa using h
end Go.Proofs.Trees
namespace Go.Proofs.Trees
open Go Go.VL Go.RowKit
def jW(n:Nat):AV->Prop:=fun r=>∃e:E,r=.agg [.v (.string (mk e.at)),e.sp]/\e.ok/\(eG e).length<=n
theorem jW.u(n:Nat)(h:1<=n):jW n (.agg [.v (.string (mk [117])),.v (.slice none 0 0)]):=⟨.atom [117],rfl,by simp[E.ok],by simpa[eG]using h⟩
def jx(b:AV)(d:Int)(e:E)(B C:Nat):Prop:=∀p:Nat,p+C<qx->an Tryz.prog 56 [.ref 0 0,.agg [.v (.string (mk e.at)),e.sp],.v (.int .i64 d)] [.cells [b,.v (.int .i64 (p:Int))]] (eW b p C (jW B))
theorem jx.mono{b:AV}{d:Int}{e:E}{B C B' C':Nat}(h:jx b d e B C)(hB:B<=B')(hC:C<=C'):jx b d e B' C':=fun p hp=>an.mono (h p (by omega)) fun r o ⟨q,h1,h2,⟨g,h3,h4,h5⟩,h6⟩=>⟨q,h1,by omega,⟨g,h3,h4,by omega⟩,h6⟩
theorem n8(b:AV)(p C B:Nat)(h:1<=B):∃r o,eW b p C (jW B) r o:=eW.ne (jW.u B h)
theorem RQ(w:Nm)(e:E)(h:w.length=1):(eG (.list [.atom w,e])).length=(eG e).length+4:=by
 simp[eG,dP];omega
theorem RS(w:Nm)(e f:E)(h:w.length=1):(eG (.list [.atom w,e,f])).length=(eG e).length+(eG f).length+5:=by
 simp[eG,dP];omega
theorem Lb{b:AV}{p q q' C B:Nat}{w:Nm}{e:E}(hw:w.length=1)(h1:p<=q)(h2:q<=p+1)(h3:q<=q')(h4:q'<=q+C)(ho:e.ok)(hl:(eG e).length<=B) :
 eW b p (C+1) (jW (B+5)) (.agg [.v (.string (mk [])),(E.list [.atom w,e]).sp]) [.cells [b,.v (.int .i64 (q':Int))]] :=
 ⟨q',by omega,by omega,⟨.list [.atom w,e],rfl,⟨by intro h;rw[h]at hw;simp at hw,ho,trivial⟩,by rw[RQ w e hw];omega⟩,rfl⟩
theorem Mr(b:AV)(l:List UInt8)(hb:s8 b l)(d:Int){s:Nm}(hs:s≠[]):jx b d (.atom s) 5 1:=by
 intro p hp
 refine DM _ _ _ _ _ ((bh (.atom s)).mpr trivial) hb.has ?_
 simp only[Aw,dQ,↓zq,zs,ag]
 refine ak (zd s _ ((bh (.atom s)).mpr trivial) hs) ?_
 simp only[↓zq,zs,ag,zt]
 refine⟨fun h=>(by cases h),fun _=>⟨fun h=>(by cases h),fun _=>⟨fun h=>(by cases h),fun _=>⟨fun _=>?_,fun _=>?_⟩⟩⟩⟩
 ·exact⟨p,aw _,by omega,jW.u 5 (by omega),rfl⟩
 ·refine aO (xN b l hb p 3 (by omega) (by decide)) (eW.ne ⟨0,rfl,fun h=>by omega,by omega⟩) ?_
  rintro r o ⟨q,h1,h2,⟨k,rfl,h3,h4⟩,rfl⟩
  have hk:k<3:=h3 (by omega)
  simp only[↓zq,zs,ag,aL,hb.has]
  refine ak (zG (k+1) k (by omega) (by omega)) ?_
  have hd:dd k=[a8 (48+k)]:=ez (by omega)
  simp only[↓zq,zs,ag,zt,hd]
  refine⟨by simp,q,h1,h2,⟨.atom ([101]++[a8 (48+k)]),rfl,by simp[E.ok],by simp[eG]⟩,rfl⟩
theorem K7(b:AV)(l:List UInt8)(hb:s8 b l)(d:Int)(hd:-100000<=d/\d<=100000){n:Nm}{e:E}(hn:qG n)(he:Wf e)(hl:(E.list [.atom dC,.atom n,e]).cW<=400)(B C:Nat)(ih:-12<=d->∀g,Wf g->g.cW<=400->jx b (d-1) g B C)(hB:1<=B):jx b d (.list [.atom dC,.atom n,e]) (B+5) (C+1):=by
 intro p hp
 refine DM _ _ _ _ _ ((bh _).mpr trivial) hb.has ?_
 have ed:IntKind.wrap .i64 (d-1)=d-1:=VL.wrap64 _ (by omega) (by omega)
 simp only[Aw,bH,↓zq,zs,ag,ed]
 refine ak (nG dC (.atom n) e) ?_
 simp only[↓zq,zs,ag,zt]
 have hu:=QR hn he hl
 refine⟨fun h=>(by cases h),fun _=>⟨fun h=>(by cases h),fun _=>⟨fun _=>?_,fun h=>absurd rfl h⟩⟩⟩
 refine aO hu ⟨_,_,rfl,.atom [117],true,rfl,.atom (by simp),by simp[E.cW]⟩ ?_
 rintro r o ⟨rfl,g,c,rfl,g1,g2⟩
 have u:eW b p (C+1) (jW (B+5)) (.agg [.v (.string (mk [117])),.v (.slice none 0 0)]) [.cells [b,.v (.int .i64 (p:Int))]]:=⟨p,aw _,by omega,jW.u _ (by omega),rfl⟩
 simp only[↓zq,zs,ag,zt,aR]
 refine⟨fun _=>u,fun _=>⟨fun _=>u,fun hd2=>?_⟩⟩
 refine aO (ih (by omega) g g1 g2 p (by omega)) (n8 b p C B hB) ?_
 rintro r o ⟨q,h1,h2,⟨f,rfl,h4,h5⟩,rfl⟩
 simp only[↓zq,zs,ag,zt,aL,hb.has,aR]
 repeat refine⟨by omega,?_⟩
 refine ak (Ey [102] f) ?_
 simp only[↓zq,zs,ag,zt,aL,hb.has,aR]
 have fin:=Lb (b:=b) (w:=[102]) rfl (aw p) (by omega) h1 h2 h4 h5
 first|exact fin|exact⟨by omega,fin⟩
theorem ID(b:AV)(l:List UInt8)(hb:s8 b l)(d:Int)(hd:-100000<=d/\d<=100000){x y:E}(hx:Wf x)(hy:Wf y)(B1 C1 B2 C2:Nat)(ix:jx b (d-1) x B1 C1)(iy:jx b (d-1) y B2 C2)(hB:1<=B1)(hB2:1<=B2):jx b d (.list [.atom [42],x,y]) (B1+B2+5) (C1+C2+1):=by
 intro p hp
 refine DM _ _ _ _ _ ((bh _).mpr trivial) hb.has ?_
 have ed:IntKind.wrap .i64 (d-1)=d-1:=VL.wrap64 _ (by omega) (by omega)
 have hP:=P3.of (.atom [42]) x y
 simp only[Aw,bH,toNat_one,bw,↓zq,zs,ag,zt,hP.1,hP.2.1,hP.2.2.1,hP.2.2.2,aR,ed]
 refine ak (nG [42] x y) ?_
 simp only[↓zq,zs,ag,zt]
 refine⟨fun h=>(by cases h),fun _=>⟨fun _=>?_,fun h=>absurd rfl h⟩⟩
 refine⟨by omega,by omega,aO (ix p (by omega)) (n8 b p C1 B1 hB) ?_⟩
 rintro r o ⟨q,h1,h2,⟨f,rfl,h4,h5⟩,rfl⟩
 simp only[↓zq,zs,ag,zt,aL,hb.has,aR]
 repeat refine⟨by omega,?_⟩
 refine aO (iy q (by omega)) (n8 b q C2 B2 hB2) ?_
 rintro r o ⟨q',g1,g2,⟨g,rfl,g4,g5⟩,rfl⟩
 simp only[↓zq,zs,ag,zt,aL,hb.has,aR]
 repeat refine⟨by omega,?_⟩
 refine ak (z7 [112] f g) ?_
 simp only[↓zq,zs,ag,zt,aL,hb.has,aR]
 have fin:eW b p (C1+C2+1) (jW (B1+B2+5)) (.agg [.v (.string (mk [])),(E.list [.atom [112],f,g]).sp]) [.cells [b,.v (.int .i64 (q':Int))]]:=⟨q',by omega,by omega,⟨.list [.atom [112],f,g],rfl,⟨by simp[E.ok],h4,g4,trivial⟩,by rw[RS [112] f g rfl];omega⟩,rfl⟩
 first|exact fin|exact⟨by omega,fin⟩
theorem K5(b:AV)(l:List UInt8)(hb:s8 b l)(d:Int)(hd:-100000<=d/\d<=100000){x y:E}(hx:Wf x)(hy:Wf y)(hl:(E.list [.atom [43],x,y]).cW<=400)(B C:Nat)(ix:jx b (d-1) x B C)(iy:jx b (d-1) y B C)(hB:1<=B):jx b d (.list [.atom [43],x,y]) (B+5) (C+1):=by
 intro p hp
 refine DM _ _ _ _ _ ((bh _).mpr trivial) hb.has ?_
 have ed:IntKind.wrap .i64 (d-1)=d-1:=VL.wrap64 _ (by omega) (by omega)
 have hP:=P3.of (.atom [43]) x y
 simp only[E.cW,E.eT]at hl
 have s1:=hx.sz
 have s2:=hy.sz
 simp only[Aw,bH,toNat_one,bw,↓zq,zs,ag,zt,hP.1,hP.2.1,hP.2.2.1,hP.2.2.2,aR,ed]
 refine ak (nG [43] x y) ?_
 simp only[↓zq,zs,ag,zt]
 refine⟨fun _=>?_,fun h=>absurd rfl h⟩
 refine aO (xN b l hb p 2 (by omega) (by decide)) (eW.ne ⟨0,rfl,fun h=>by omega,by omega⟩) ?_
 rintro r o ⟨q,h1,h2,⟨k,rfl,_,_⟩,rfl⟩
 simp only[↓zq,zs,ag,zt,aL,hb.has,aR]
 have ex:=K3 hx [] (.sl []) (.of []) (by simp;omega)
 have ey:=K3 hy [] (.sl []) (.of []) (by simp;omega)
 have ax:=Cn x hx.ok (by omega)
 have ay:=Cn y hy.ok (by omega)
 rw[dA]at ax ay
 have lx:=ix q (by omega)
 have ly:=iy q (by omega)
 have t:=n8 b q C B hB
 have leaf:∀(w:Nm) (q':Nat) (f:E),w.length=1->q<=q'->q'<=q+C->f.ok->(eG f).length<=B->eW b p (C+1) (jW (B+5)) (.agg [.v (.string (mk [])),(E.list [.atom w,f]).sp]) [.cells [b,.v (.int .i64 (q':Int))]]:=fun w q' f hw g1 g2 h4 h5=>Lb hw h1 h2 g1 g2 h4 h5
 repeat' first
  |intro _
  |refine⟨by omega,?_⟩
  |(
   with_reducible refine aO lx t ?_
   rintro r o ⟨q',g1,g2,⟨f,rfl,h4,h5⟩,rfl⟩
   simp only[↓zq,zs,ag,zt,aL,hb.has,aR]
   repeat refine⟨by omega,?_⟩
   refine ak (Ey _ f) ?_
   simp only[↓zq,zs,ag,zt,aL,hb.has,aR]
   have fin:=leaf [108] q' f rfl g1 g2 h4 h5
   first|exact fin|exact⟨by omega,fin⟩)
  |(
   with_reducible refine aO ly t ?_
   rintro r o ⟨q',g1,g2,⟨f,rfl,h4,h5⟩,rfl⟩
   simp only[↓zq,zs,ag,zt,aL,hb.has,aR]
   repeat refine⟨by omega,?_⟩
   refine ak (Ey _ f) ?_
   simp only[↓zq,zs,ag,zt,aL,hb.has,aR]
   have fin:=leaf [114] q' f rfl g1 g2 h4 h5
   first|exact fin|exact⟨by omega,fin⟩)
  |(with_reducible refine jB.call ex fun _=>?_;simp only[↓zq,zs,ag,zt,aR])
  |(with_reducible refine jB.call ey fun _=>?_;simp only[↓zq,zs,ag,zt,aR])
  |(with_reducible refine ak ax ?_;simp only[↓zq,zs,ag,zt,aR])
  |(with_reducible refine ak ay ?_;simp only[↓zq,zs,ag,zt,aR])
  |with_reducible refine aI ?_ ?_
  |(exfalso;omega)
end Go.Proofs.Trees
namespace Go.Proofs.Trees
open Go Go.VL Go.RowKit
def mR:Nat->Nat
 |0=>2
 |d+1=>2*mR d+15
def mT:Nat->Nat
 |0=>3
 |d+1=>2*mT d+8
theorem N0(d:Nat):2<=mR d:=by cases d<;>simp only[mR]<;>omega
theorem QY(d:Nat):3<=mT d:=by cases d<;>simp only[mT]<;>omega
theorem FU:∀d:Nat,d<=10->mR d<=100000000
 |0,_=>by decide
 |1,_=>by decide
 |2,_=>by decide
 |3,_=>by decide
 |4,_=>by decide
 |5,_=>by decide
 |6,_=>by decide
 |7,_=>by decide
 |8,_=>by decide
 |9,_=>by decide
 |10,_=>by decide
 |d+11,h=>by omega
theorem A9(b:AV)(l:List UInt8)(hb:s8 b l)(p:Nat)(hp:p<2*qx):an Tryz.prog 26 [.ref 0 0] [.cells [b,.v (.int .i64 (p:Int))]] (eW b p 1 (fW 60)):=by
 refine Qv _ _ hb.has ?_
 unfold Kn
 refine aO (CJ b l hb p hp _ _ (.of [_,_,_,_,_,_,_]) (by simp) (by simp)) (eW.ne ⟨_,ai,rfl⟩) ?_
 rintro r o ⟨q,h1,h2,hr,rfl⟩
 obtain⟨s,rfl,hs⟩:=kK.df (n:=60) (by decide) hr
 simp only[↓zq,zs,ag,aL,hb.has]
 exact⟨q,h1,h2,⟨s,rfl,hs⟩,rfl⟩
theorem G8(b:AV)(l:List UInt8)(hb:s8 b l):∀(d:Nat),d<=10->∀(p:Nat) (ls:List (List UInt8)) (a:AV),cw a ls->(∀s,s∈ls->s.length<=2)->ls.length+d<=100->p+mT d<2*qx ->
 an Tryz.prog 100 [.ref 0 0,a,.v (.int .i64 (d:Int))] [.cells [b,.v (.int .i64 (p:Int))]] (eW b p (mT d) (fW (mR d))):=by
 intro d
 induction d with
 |
  zero =>
  intro hd p ls a ha hls hll hp
  simp only[mT]at hp
  refine MO _ _ _ _ ha.1 hb.has ?_
  simp only[GL,↓zq,zs,ag,ha.len]
  refine⟨fun _=>⟨ha.1,fun hpos=>?_,fun _=>?_⟩,fun h=>by omega⟩
  ·refine aO (xN b l hb p 3 (by omega) (by decide)) (eW.ne ⟨0,rfl,fun h=>by omega,by omega⟩) ?_
   rintro r o ⟨q1,h1,h2,⟨k,rfl,h3,h4⟩,rfl⟩
   simp only[↓zq,zs,ag,aL,hb.has]
   refine⟨fun _=>⟨ha.1,?_⟩,fun _=>?_⟩
   ·refine aO (xN b l hb q1 ls.length (by omega) (by simp[qx];omega)) (eW.ne ⟨0,rfl,fun h=>by omega,by omega⟩) ?_
    rintro r o ⟨q2,g1,g2,⟨k2,rfl,g3,g4⟩,rfl⟩
    have hk:=g3 (by omega)
    simp only[↓zq,zs,ag,aL,hb.has,bR,ha.idx hk]
    have:eW b p (mT 0) (fW (mR 0)) (.v (.string (mk (ls.getD k2 [])))) [.cells [b,.v (.int .i64 (q2:Int))]]:=⟨q2,by omega,by simp only[mT];omega,⟨_,rfl,by
     have:=hls (ls.getD k2 []) (by simp[aa,hk]);simp only[mR];omega⟩,rfl⟩
    refine⟨⟨ha.1,by omega⟩,?_⟩
    repeat (first|exact this|refine⟨by omega,?_⟩)
   ·refine aO (CJ b l hb q1 (by omega) _ _ (.of [_,_,_,_,_,_]) (by simp) (by simp)) (eW.ne ⟨_,ai,rfl⟩) ?_
    rintro r o ⟨q2,g1,g2,hr,rfl⟩
    obtain⟨s,rfl,hs⟩:=kK.df (n:=2) (by decide) hr
    simp only[↓zq,zs,ag,aL,hb.has]
    exact⟨q2,by omega,by simp only[mT];omega,⟨s,rfl,by simp only[mR];omega⟩,rfl⟩
  ·refine aO (CJ b l hb p (by omega) _ _ (.of [_,_,_,_,_,_]) (by simp) (by simp)) (eW.ne ⟨_,ai,rfl⟩) ?_
   rintro r o ⟨q2,g1,g2,hr,rfl⟩
   obtain⟨s,rfl,hs⟩:=kK.df (n:=2) (by decide) hr
   simp only[↓zq,zs,ag,aL,hb.has]
   exact⟨q2,by omega,by simp only[mT];omega,⟨s,rfl,by simp only[mR];omega⟩,rfl⟩
 |
  succ d ih =>
  intro hd p ls a ha hls hll hp
  simp only[mT]at hp
  have hL:=N0 d
  have hC:=QY d
  have ih:=ih (by omega)
  have hL8:=FU d (by omega)
  have ed:IntKind.wrap .i64 (((d+1:Nat):Int)-1)=(d:Int):=by rw[VL.wrap64]<;>omega
  refine MO _ _ _ _ ha.1 hb.has ?_
  simp only[GL,↓zq,zs,ag,ha.len,ed]
  refine⟨fun h=>by omega,fun _=>?_⟩
  refine aO (xN b l hb p 4 (by omega) (by decide)) (eW.ne ⟨0,rfl,fun h=>by omega,by omega⟩) ?_
  rintro r o ⟨q0,a1,a2,⟨k0,rfl,_,_⟩,rfl⟩
  simp only[↓zq,zs,ag,aL,hb.has]
  refine⟨fun _=>⟨ha.1,fun hpos=>?_,fun _=>?_⟩,fun _=>?_⟩
  ·refine aO (xN b l hb q0 3 (by omega) (by decide)) (eW.ne ⟨0,rfl,fun h=>by omega,by omega⟩) ?_
   rintro r o ⟨q1,h1,h2,⟨k,rfl,h3,h4⟩,rfl⟩
   simp only[↓zq,zs,ag,aL,hb.has]
   refine⟨fun _=>⟨ha.1,?_⟩,fun _=>?_⟩
   ·refine aO (xN b l hb q1 ls.length (by omega) (by simp[qx];omega)) (eW.ne ⟨0,rfl,fun h=>by omega,by omega⟩) ?_
    rintro r o ⟨q2,g1,g2,⟨k2,rfl,g3,g4⟩,rfl⟩
    have hk:=g3 (by omega)
    simp only[↓zq,zs,ag,aL,hb.has,bR,ha.idx hk]
    have:eW b p (mT (d+1)) (fW (mR (d+1))) (.v (.string (mk (ls.getD k2 [])))) [.cells [b,.v (.int .i64 (q2:Int))]]:=⟨q2,by omega,by simp only[mT];omega,⟨_,rfl,by
     have:=hls (ls.getD k2 []) (by simp[aa,hk]);simp only[mR];omega⟩,rfl⟩
    refine⟨⟨ha.1,by omega⟩,?_⟩
    repeat (first|exact this|refine⟨by omega,?_⟩)
   ·refine aO (CJ b l hb q1 (by omega) _ _ (.of [_,_,_,_,_,_]) (by simp) (by simp)) (eW.ne ⟨_,ai,rfl⟩) ?_
    rintro r o ⟨q2,g1,g2,hr,rfl⟩
    obtain⟨s,rfl,hs⟩:=kK.df (n:=2) (by decide) hr
    simp only[↓zq,zs,ag,aL,hb.has]
    exact⟨q2,by omega,by simp only[mT];omega,⟨s,rfl,by simp only[mR];omega⟩,rfl⟩
  ·refine aO (CJ b l hb q0 (by omega) _ _ (.of [_,_,_,_,_,_]) (by simp) (by simp)) (eW.ne ⟨_,ai,rfl⟩) ?_
   rintro r o ⟨q2,g1,g2,hr,rfl⟩
   obtain⟨s,rfl,hs⟩:=kK.df (n:=2) (by decide) hr
   simp only[↓zq,zs,ag,aL,hb.has]
   exact⟨q2,by omega,by simp only[mT];omega,⟨s,rfl,by simp only[mR];omega⟩,rfl⟩
  ·refine aO (xN b l hb q0 5 (by omega) (by decide)) (eW.ne ⟨0,rfl,fun h=>by omega,by omega⟩) ?_
   rintro r o ⟨q1,b1,b2,⟨k1,rfl,c3,_⟩,rfl⟩
   have hk1:=c3 (by omega)
   obtain rfl|rfl|rfl|rfl|rfl:k1=0\/k1=1\/k1=2\/k1=3\/k1=4:=by omega
   ·simp only[↓zq,zs,ag,aL,hb.has]
    refine⟨fun _=>?_,fun h=>absurd rfl h⟩
    refine aO (ih q1 ls a ha hls (by omega) (by omega)) (eW.ne ⟨[],rfl,by simp⟩) ?_
    rintro r o ⟨q2,d1,d2,⟨s1,rfl,d3⟩,rfl⟩
    simp only[↓zq,zs,ag,zt,aL,hb.has,aq]
    repeat refine⟨by first|omega|(simp only[aq,au,aG];omega),?_⟩
    refine aO (ih q2 ls a ha hls (by omega) (by omega)) (eW.ne ⟨[],rfl,by simp⟩) ?_
    rintro r o ⟨q3,e1,e2,⟨s2,rfl,e3⟩,rfl⟩
    simp only[↓zq,zs,ag,zt,aL,hb.has,aq]
    have fin:∀s:List UInt8,s.length<=mR (d+1)->eW b p (mT (d+1)) (fW (mR (d+1))) (.v (.string (mk s))) [.cells [b,.v (.int .i64 (q3:Int))]]:=fun s hs=>⟨q3,by omega,by simp only[mT];omega,⟨s,rfl,hs⟩,rfl⟩
    repeat (first|exact fin _ (by simp only[aq,au,aG,mR];omega)|refine⟨by first|omega|(simp only[aq,au,aG];omega),?_⟩)
   ·simp only[↓zq,zs,ag,aL,hb.has]
    refine⟨fun h=>by omega,fun _=>⟨fun _=>?_,fun h=>absurd rfl h⟩⟩
    refine aO (ih q1 ls a ha hls (by omega) (by omega)) (eW.ne ⟨[],rfl,by simp⟩) ?_
    rintro r o ⟨q2,d1,d2,⟨s1,rfl,d3⟩,rfl⟩
    simp only[↓zq,zs,ag,zt,aL,hb.has,aq]
    repeat refine⟨by first|omega|(simp only[aq,au,aG];omega),?_⟩
    refine aO (ih q2 ls a ha hls (by omega) (by omega)) (eW.ne ⟨[],rfl,by simp⟩) ?_
    rintro r o ⟨q3,e1,e2,⟨s2,rfl,e3⟩,rfl⟩
    simp only[↓zq,zs,ag,zt,aL,hb.has,aq]
    have fin:∀s:List UInt8,s.length<=mR (d+1)->eW b p (mT (d+1)) (fW (mR (d+1))) (.v (.string (mk s))) [.cells [b,.v (.int .i64 (q3:Int))]]:=fun s hs=>⟨q3,by omega,by simp only[mT];omega,⟨s,rfl,hs⟩,rfl⟩
    repeat (first|exact fin _ (by simp only[aq,au,aG,mR];omega)|refine⟨by first|omega|(simp only[aq,au,aG];omega),?_⟩)
   ·simp only[↓zq,zs,ag,aL,hb.has]
    refine⟨fun h=>by omega,fun _=>⟨fun h=>by omega,fun _=>⟨fun _=>?_,fun h=>absurd rfl h⟩⟩⟩
    refine aO (ih q1 ls a ha hls (by omega) (by omega)) (eW.ne ⟨[],rfl,by simp⟩) ?_
    rintro r o ⟨q2,d1,d2,⟨s1,rfl,d3⟩,rfl⟩
    simp only[↓zq,zs,ag,zt,aL,hb.has,aq]
    repeat refine⟨by first|omega|(simp only[aq,au,aG];omega),?_⟩
    refine aO (ih q2 ls a ha hls (by omega) (by omega)) (eW.ne ⟨[],rfl,by simp⟩) ?_
    rintro r o ⟨q3,e1,e2,⟨s2,rfl,e3⟩,rfl⟩
    simp only[↓zq,zs,ag,zt,aL,hb.has,aq]
    have fin:∀s:List UInt8,s.length<=mR (d+1)->eW b p (mT (d+1)) (fW (mR (d+1))) (.v (.string (mk s))) [.cells [b,.v (.int .i64 (q3:Int))]]:=fun s hs=>⟨q3,by omega,by simp only[mT];omega,⟨s,rfl,hs⟩,rfl⟩
    repeat (first|exact fin _ (by simp only[aq,au,aG,mR];omega)|refine⟨by first|omega|(simp only[aq,au,aG];omega),?_⟩)
   ·simp only[↓zq,zs,ag,aL,hb.has]
    refine⟨fun h=>by omega,fun _=>⟨fun h=>by omega,fun _=>⟨fun h=>by omega,fun _=>⟨fun _=>?_,fun h=>absurd rfl h⟩⟩⟩⟩
    refine aO (ih q1 ls a ha hls (by omega) (by omega)) (eW.ne ⟨[],rfl,by simp⟩) ?_
    rintro r o ⟨q2,d1,d2,⟨s1,rfl,d3⟩,rfl⟩
    simp only[↓zq,zs,ag,zt,aL,hb.has,aq]
    repeat refine⟨by first|omega|(simp only[aq,au,aG];omega),?_⟩
    refine aO (ih q2 ls a ha hls (by omega) (by omega)) (eW.ne ⟨[],rfl,by simp⟩) ?_
    rintro r o ⟨q3,e1,e2,⟨s2,rfl,e3⟩,rfl⟩
    simp only[↓zq,zs,ag,zt,aL,hb.has,aq]
    have fin:∀s:List UInt8,s.length<=mR (d+1)->eW b p (mT (d+1)) (fW (mR (d+1))) (.v (.string (mk s))) [.cells [b,.v (.int .i64 (q3:Int))]]:=fun s hs=>⟨q3,by omega,by simp only[mT];omega,⟨s,rfl,hs⟩,rfl⟩
    repeat (first|exact fin _ (by simp only[aq,au,aG,mR];omega)|refine⟨by first|omega|(simp only[aq,au,aG];omega),?_⟩)
   ·simp only[↓zq,zs,ag,aL,hb.has]
    refine⟨fun h=>by omega,fun _=>⟨fun h=>by omega,fun _=>⟨fun h=>by omega,fun _=>⟨fun h=>by omega,fun _=>?_⟩⟩⟩⟩
    refine aO (CJ b l hb q1 (by omega) _ _ (.of [_,_,_]) (by simp) (by simp)) (eW.ne ⟨_,ai,rfl⟩) ?_
    rintro r o ⟨q2,g1,g2,hr,rfl⟩
    obtain⟨s,rfl,hs⟩:=kK.df (n:=2) (by decide) hr
    simp only[↓zq,zs,ag,zt,aL,hb.has]
    repeat refine⟨by first|omega|(simp only[aq,au,aG];omega),?_⟩
    refine aU (zg ls a ha s (by omega)) ?_
    simp only[↓zq,zs,ag,Ob.es,aP]
    refine⟨ej _,?_⟩
    refine aO (ih q2 (ls++[s]) _ (.of _) (fun w hw=>by
     rcases aK.1 hw with hw|hw
     ·exact hls w hw
     ·simp at hw;rw[hw];exact hs) (by simp;omega) (by omega)) (eW.ne ⟨[],rfl,by simp⟩) ?_
    rintro r o ⟨q3,e1,e2,⟨s2,rfl,e3⟩,rfl⟩
    simp only[↓zq,zs,ag,zt,aL,hb.has,aq]
    have fin:∀s:List UInt8,s.length<=mR (d+1)->eW b p (mT (d+1)) (fW (mR (d+1))) (.v (.string (mk s))) [.cells [b,.v (.int .i64 (q3:Int))]]:=fun s hs=>⟨q3,by omega,by simp only[mT];omega,⟨s,rfl,hs⟩,rfl⟩
    repeat (first|exact fin _ (by simp only[aq,au,aG,mR];omega)|refine⟨by first|omega|(simp only[aq,au,aG];omega),?_⟩)
end Go.Proofs.Trees
namespace Go.Proofs.Trees
open Go Go.VL Go.RowKit
theorem eW.mono{b:AV}{p c c':Nat}{X Y:AV->Prop}(hc:c<=c')(h:∀r,X r->Y r){r:AV}{o:List Ob}(hr:eW b p c X r o):eW b p c' Y r o:=by
 obtain⟨q,h1,h2,h3,h4⟩:=hr;exact⟨q,h1,by omega,h r h3,h4⟩
theorem fW.le{n m:Nat}(h:n<=m){r:AV}(hr:fW n r):fW m r:=by obtain⟨s,h1,h2⟩:=hr;exact⟨s,h1,by omega⟩
theorem NR(b:AV)(l:List UInt8)(hb:s8 b l)(p:Nat)(hp:p<qx):an Tryz.prog 99 [.ref 0 0] [.cells [b,.v (.int .i64 (p:Int))]] (eW b p 100 (fW 200)):=by
 refine NN _ _ hb.has ?_
 unfold H7
 have hfar:qx=1000000000000000:=rfl
 refine aO (xN b l hb p 12 (by omega) (by decide)) (eW.ne ⟨0,rfl,fun h=>by omega,by omega⟩) ?_
 rintro r o ⟨q,h1,h2,⟨k,rfl,_,_⟩,rfl⟩
 have kn:∀(c m:Nat) (r:AV) (o:List Ob),c<=90->m<=200->eW b q c (fW m) r o->∃q':Nat,∃s:List UInt8,r=.v (.string (mk s))/\o=[.cells [b,.v (.int .i64 (q':Int))]]/\eW b p 100 (fW 200) (.v (.string (mk s))) [.cells [b,.v (.int .i64 (q':Int))]]:=by
  rintro c m r o hc hm ⟨q',g1,g2,⟨s,rfl,hs⟩,rfl⟩
  exact⟨q',s,rfl,rfl,q',by omega,by omega,⟨s,rfl,by omega⟩,rfl⟩
 simp only[↓zq,zs,ag,aL,hb.has]
 refine⟨fun _=>?_,fun _=>⟨fun _=>?_,fun _=>⟨fun _=>?_,fun _=>⟨fun _=>?_,fun _=>⟨fun _=>?_,fun _=>?_⟩⟩⟩⟩⟩
 ·refine aO (CJ b l hb q (by omega) _ _ (.of [_,_,_,_,_,_,_,_,_]) (by simp) (by simp)) (eW.ne ⟨_,ai,rfl⟩) ?_
  intro r o hr
  obtain⟨q',s,rfl,rfl,hd⟩:=kn 1 20 r o (by omega) (by omega) (hr.mono (aw _) fun r h=>kK.df (n:=20) (by decide) h)
  simp only[↓zq,zs,ag,aL,hb.has];exact hd
 ·refine aO (A9 b l hb q (by omega)) (eW.ne ⟨[],rfl,by simp⟩) ?_
  intro r o hr
  obtain⟨q',s,rfl,rfl,hd⟩:=kn _ _ r o (by omega) (by omega) hr
  simp only[↓zq,zs,ag,aL,hb.has];exact hd
 ·refine aO (A9 b l hb q (by omega)) (eW.ne ⟨[],rfl,by simp⟩) ?_
  intro r o hr
  obtain⟨q',s,rfl,rfl,hd⟩:=kn _ _ r o (by omega) (by omega) hr
  simp only[↓zq,zs,ag,aL,hb.has];exact hd
 ·refine aO (A9 b l hb q (by omega)) (eW.ne ⟨[],rfl,by simp⟩) ?_
  intro r o hr
  obtain⟨q',s,rfl,rfl,hd⟩:=kn _ _ r o (by omega) (by omega) hr
  simp only[↓zq,zs,ag,aL,hb.has];exact hd
 ·refine aO (G8 b l hb 2 (by omega) q [[116],[116,49]] _ (cw.of [[116],[116,49]]) (by decide) (by simp) (by simp[mT];omega)) (eW.ne ⟨[],rfl,by simp⟩) ?_
  intro r o hr
  obtain⟨q',s,rfl,rfl,hd⟩:=kn _ _ r o (by simp[mT]) (by simp[mR]) hr
  simp only[↓zq,zs,ag,aL,hb.has];exact hd
 ·refine aO (G8 b l hb 3 (by omega) q [] _ (cw.of []) (by simp) (by simp) (by simp[mT];omega)) (eW.ne ⟨[],rfl,by simp⟩) ?_
  intro r o hr
  obtain⟨q',s,rfl,rfl,hd⟩:=kn _ _ r o (by simp[mT]) (by simp[mR]) hr
  simp only[↓zq,zs,ag,aL,hb.has];exact hd
def xK(a:AV):Prop:=LK.sl.has a/\∃l:List UInt8,a.elems=pX l
def Nw(r:AV)(o:List Ob):Prop:=∃(b:AV) (l:List UInt8),s8 b l/\r=.ref 0 0/\o=[.cells [b,.v (.int .i64 0)]]
theorem Nw.ne:∃r o,Nw r o:=⟨_,_,.v (.slice none 0 0),[],⟨(bj).mpr trivial,rfl,by simp⟩,rfl,rfl⟩
theorem OR(a:AV)(ha:xK a):an Tryz.prog 14 [a] [] Nw:=by
 obtain⟨hs,l,hl⟩:=ha
 have hln:a.elems.length=l.length:=by rw[hl];simp[pX]
 refine QN _ hs ?_
 simp only[MM,↓zq,zs,ag,hln]
 refine⟨hs,fun h=>⟨⟨hs,by omega⟩,?_⟩,fun h=>?_⟩
 ·refine⟨_,l.take 2000,⟨(ck _).mpr trivial,?_,?_⟩,rfl,rfl⟩
  ·rw[fY,hl];simp[pX]
  ·simp;omega
 ·exact⟨a,l,⟨hs,hl,by omega⟩,rfl,rfl⟩
end Go.Proofs.Trees
namespace Go.Proofs.Trees
open Go Go.VL Go.RowKit
theorem BS(b:AV)(l:List UInt8)(hb:s8 b l){e:E}(h:Wf e):∀d:Int,d<=-13->-50000+(e.sz:Int)<=d->e.cW<=400->jx b d e (5*e.sz) e.sz:=by
 induction h with
 |
  @atom s hs =>
  intro d h1 h2 h3
  exact(Mr b l hb d hs).mono (by simp[E.sz]) (by simp[E.sz])
 |
  @plus x y hx hy i1 i2 =>
  intro d h1 h2 h3
  have h4:=h3
  simp only[E.sz,E.iY,E.cW,E.eT]at h2 h4 |-
  exact(K5 b l hb d (by omega) hx hy h3 (5*(x.sz+y.sz)+1) (x.sz+y.sz) ((i1 (d-1) (by omega) (by omega) (by omega)).mono (by omega) (by omega)) ((i2 (d-1) (by omega) (by omega) (by omega)).mono (by omega) (by omega)) (by omega)).mono (by omega) (by omega)
 |
  @times x y hx hy i1 i2 =>
  intro d h1 h2 h3
  have h4:=h3
  simp only[E.sz,E.iY,E.cW,E.eT]at h2 h4 |-
  exact(ID b l hb d (by omega) hx hy (5*x.sz+1) x.sz (5*y.sz+1) y.sz ((i1 (d-1) (by omega) (by omega) (by omega)).mono (by omega) (by omega)) ((i2 (d-1) (by omega) (by omega) (by omega)).mono (by omega) (by omega)) (by omega) (by omega)).mono (by omega) (by omega)
 |
  @rc n x hn hx i =>
  intro d h1 h2 h3
  simp only[E.sz,E.iY]at h2 |-
  exact(K7 b l hb d (by omega) hn hx h3 1 0 (fun h=>absurd h (by omega)) (by omega)).mono (by omega) (by omega)
def oU:Nat->Nat
 |0=>6100
 |n+1=>2*oU n+5
theorem FM:∀n,6100<=oU n
 |0=>aw _
 |n+1=>by have:=FM n;simp only[oU];omega
theorem xd:∀n k:Nat,oU (n+k)+5=2 ^ k*(oU n+5)
 |n,0=>by simp
 |
  n,k+1=>by
  have:=xd n k
  rw[show n+(k+1)=n+k+1 from rfl,oU,Nat.pow_succ,Nat.mul_comm (2 ^ k) 2,Nat.mul_assoc,<-this];omega
theorem Ar{n m:Nat}(h:n<=m):oU n<=oU m:=by
 obtain⟨k,rfl⟩:=Nat.exists_eq_add_of_le h
 have:=xd n k
 have h2:1*(oU n+5)<=2 ^ k*(oU n+5):=aX _ Nat.one_le_two_pow
 omega
theorem Ly:oU 22<=30000000000:=by
 have:=xd 0 22
 simp only[aZ]at this
 have h0:oU 0=6100:=rfl
 rw[h0]at this
 omega
theorem yh(b:AV)(l:List UInt8)(hb:s8 b l):∀n:Nat,n<=40->∀e,Wf e->e.cW<=400->jx b ((n:Int)-13) e (oU n) (oU n)
 |
  0,hn,e,h,hl=>by
  have:=h.sz
  exact(BS b l hb h _ (by simp) (by simp;omega) hl).mono (by simp only[oU];omega) (by simp only[oU];omega)
 |
  n+1,hn,e,h,hl=>by
  have hb1:=FM n
  have ih:∀g,Wf g->g.cW<=400->jx b (((n+1:Nat):Int)-13-1) g (oU n) (oU n):=by
   rw[show ((n+1:Nat):Int)-13-1=(n:Int)-13 by omega];exact yh b l hb n (by omega)
  cases h with
  |@atom s hs=>exact(Mr b l hb _ hs).mono (by simp only[oU];omega) (by simp only[oU];omega)
  |
   @plus x y hx hy =>
   have h4:=hl
   simp only[E.cW,E.eT]at h4
   exact(K5 b l hb _ (by omega) hx hy hl _ _ (ih x hx (by omega)) (ih y hy (by omega)) (by omega)).mono (by simp only[oU];omega) (by simp only[oU];omega)
  |
   @times x y hx hy =>
   simp only[E.cW,E.eT]at hl
   exact(ID b l hb _ (by omega) hx hy _ _ _ _ (ih x hx (by omega)) (ih y hy (by omega)) (by omega) (by omega)).mono (by simp only[oU];omega) (by simp only[oU];omega)
  |@rc m x hm hx=>exact(K7 b l hb _ (by omega) hm hx hl _ _ (fun _=>ih) (by omega)).mono (by simp only[oU];omega) (by simp only[oU];omega)
theorem KI(b:AV)(l:List UInt8)(hb:s8 b l)(p:Nat)(hp:p<100000000000000)(s:Nm):an Tryz.prog 29 [.ref 0 0,.v (.string (mk s))] [.cells [b,.v (.int .i64 (p:Int))]] (eW b p 40000000000 (fW 40000000000)):=by
 refine OZ _ _ _ hb.has ?_
 have hfar:qx=1000000000000000:=rfl
 have oneL:∀(q:Nat) (r:AV) (o:List Ob),p<=q->q<=p+1->eW b q 1 (kK [[],[117],[101,48],[101,48,48],[101,49,48,48],[40,108,32,117,41],[40,112,32,117,41],[40,102,32,40,108,32,117,41,41],[40,120,32,117,41],[40,108,32,32,117,41]]) r o->∃q':Nat,∃t:List UInt8,r=.v (.string (mk t))/\o=[.cells [b,.v (.int .i64 (q':Int))]]/\eW b p 40000000000 (fW 40000000000) (.v (.string (mk t))) [.cells [b,.v (.int .i64 (q':Int))]]:=by
  rintro q r o h1 h2 ⟨q',g1,g2,hr,rfl⟩
  obtain⟨t,rfl,ht⟩:=kK.df (n:=20) (by decide) hr
  exact⟨q',t,rfl,rfl,q',by omega,by omega,⟨t,rfl,by omega⟩,rfl⟩
 unfold LH
 refine aO (FX s) (j0.ne _ _ (fun h=>h)) ?_
 rintro r o ⟨c,d,hd,rfl,hh⟩
 have hhas:bF [.str,.sl] [.v (.string (mk c)),d] 0:=by simp[bF,eh,hd]
 simp only[↓zq,zs,ag,zt]
 refine⟨hhas,fun h=>?_,fun h=>?_⟩
 ·refine aO (CJ b l hb p (by omega) _ _ (.of [_,_,_,_,_,_,_,_,_,_]) (by simp) (by simp)) (eW.ne ⟨_,ai,rfl⟩) ?_
  intro r o hr
  obtain⟨q',t,rfl,rfl,hd⟩:=oneL p r o (aw _) (by omega) hr
  simp only[↓zq,zs,ag,aL,hb.has];exact hd
 ·obtain⟨e,he,hce⟩:=hh (by simpa using h)
  obtain⟨t,h1,hA,h3,h4,h5,_⟩:=gp he
  rw[dA]at hce
  simp only[AV.agg.injEq,List.cons.injEq,AV.v.injEq,Value.string.injEq,and_true]at hce
  obtain⟨hc1,rfl⟩:=hce
  have hc2:=mk_inj hc1
  subst hc2
  obtain⟨hw,hwt⟩:=j2 e [] t hA.ok (by simp) hA.ty
  have hats:e.cW<=400:=by rw[hw.cW [],hwt];exact h5
  have hsz:=hw.sz
  refine aO (xN b l hb p 16 (by omega) (by decide)) (eW.ne ⟨0,rfl,fun h=>by omega,by omega⟩) ?_
  rintro r o ⟨q,h1,h2,⟨k,rfl,_,_⟩,rfl⟩
  simp only[↓zq,zs,ag,aL,hb.has]
  refine⟨fun _=>?_,fun _=>?_⟩
  ·refine aO (CJ b l hb q (by omega) _ _ (.of [_,_,_,_,_,_,_,_,_,_]) (by simp) (by simp)) (eW.ne ⟨_,ai,rfl⟩) ?_
   intro r o hr
   obtain⟨q',t,rfl,rfl,hd⟩:=oneL q r o h1 h2 hr
   simp only[↓zq,zs,ag,aL,hb.has];exact hd
  ·obtain⟨w1,w2,_⟩:=wu (os:=[]) hw
   have hap:=DW hw (.v (.slice none 0 0)) [] ⟨(bj).mpr trivial,rfl⟩ (by omega) (by simp) (by simp)
   refine ak hap ?_
   simp only[↓zq,zs,ag,zt,aR]
   repeat refine⟨by omega,?_⟩
   have hats2:(zz e []).cW<=400:=by rw[w1.cW [],w2,<-hw.cW []];exact hats
   refine aO (xN b l hb q 5 (by omega) (by decide)) (eW.ne ⟨0,rfl,fun h=>by omega,by omega⟩) ?_
   rintro r o ⟨q1,g1,g2,⟨k1,rfl,c3,_⟩,rfl⟩
   have hk1:=c3 (by omega)
   simp only[↓zq,zs,ag,zt,aL,hb.has,aR]
   have ed:IntKind.wrap .i64 (5+(k1:Int))=((18+k1:Nat):Int)-13:=by rw[VL.wrap64 _ (by omega) (by omega)];omega
   have hB:=Ly
   have hB2:oU (18+k1)<=oU 22:=Ar (by omega)
   have hB3:=FM (18+k1)
   rw[ed]
   refine aO (yh b l hb (18+k1) (by omega) (zz e []) w1 hats2 q1 (by omega)) (n8 b q1 _ _ (by omega)) ?_
   rintro r o ⟨q2,d1,d2,⟨f,rfl,f1,f2⟩,rfl⟩
   simp only[↓zq,zs,ag,zt,aL,hb.has,aR]
   repeat refine⟨by omega,?_⟩
   have ht:=Dc (f.sz+1) f (by omega) f1 (by omega)
   rw[dA]at ht
   refine ak ht ?_
   simp only[↓zq,zs,ag,zt,aL,hb.has,aR]
   exact⟨q2,by omega,by omega,⟨eG f,rfl,by omega⟩,rfl⟩
theorem Rb(b:AV)(l:List UInt8)(hb:s8 b l)(p:Nat)(hp:p<100000000000000):an Tryz.prog 53 [.ref 0 0] [.cells [b,.v (.int .i64 (p:Int))]] (eW b p 200 (fW 200)):=by
 refine OP _ _ hb.has ?_
 unfold KQ
 have hfar:qx=1000000000000000:=rfl
 refine aO (xN b l hb p 8 (by omega) (by decide)) (eW.ne ⟨0,rfl,fun h=>by omega,by omega⟩) ?_
 rintro r o ⟨q,h1,h2,⟨k,rfl,_,_⟩,rfl⟩
 have kn:∀(c m:Nat) (r:AV) (o:List Ob),c<=190->m<=200->eW b q c (fW m) r o->∃q':Nat,∃s:List UInt8,r=.v (.string (mk s))/\o=[.cells [b,.v (.int .i64 (q':Int))]]/\eW b p 200 (fW 200) (.v (.string (mk s))) [.cells [b,.v (.int .i64 (q':Int))]]:=by
  rintro c m r o hc hm ⟨q',g1,g2,⟨s,rfl,hs⟩,rfl⟩
  exact⟨q',s,rfl,rfl,q',by omega,by omega,⟨s,rfl,by omega⟩,rfl⟩
 have sh:=G8 b l hb 3 (by omega) q [] _ (cw.of []) (by simp) (by simp) (by simp[mT];omega)
 have ty:=NR b l hb q (by omega)
 have kw:=A9 b l hb q (by omega)
 simp only[↓zq,zs,ag,aL,hb.has]
 refine⟨fun _=>?_,fun _=>⟨fun _=>?_,fun _=>⟨fun _=>?_,fun _=>⟨fun _=>?_,fun _=>?_⟩⟩⟩⟩
 ·refine aO ty (eW.ne ⟨[],rfl,by simp⟩) ?_
  intro r o hr
  obtain⟨q',s,rfl,rfl,hd⟩:=kn _ _ r o (by omega) (by omega) hr
  simp only[↓zq,zs,ag,aL,hb.has];exact hd
 ·refine aO sh (eW.ne ⟨[],rfl,by simp⟩) ?_
  intro r o hr
  obtain⟨q',s,rfl,rfl,hd⟩:=kn _ _ r o (by simp[mT]) (by simp[mR]) hr
  simp only[↓zq,zs,ag,aL,hb.has];exact hd
 ·refine aO sh (eW.ne ⟨[],rfl,by simp⟩) ?_
  intro r o hr
  obtain⟨q',s,rfl,rfl,hd⟩:=kn _ _ r o (by simp[mT]) (by simp[mR]) hr
  simp only[↓zq,zs,ag,aL,hb.has];exact hd
 ·refine aO sh (eW.ne ⟨[],rfl,by simp⟩) ?_
  intro r o hr
  obtain⟨q',s,rfl,rfl,hd⟩:=kn _ _ r o (by simp[mT]) (by simp[mR]) hr
  simp only[↓zq,zs,ag,aL,hb.has];exact hd
 ·refine aO kw (eW.ne ⟨[],rfl,by simp⟩) ?_
  intro r o hr
  obtain⟨q',s,rfl,rfl,hd⟩:=kn _ _ r o (by omega) (by omega) hr
  simp only[↓zq,zs,ag,aL,hb.has];exact hd
def Gv:AV->Prop:=fun r=>∃s t:Nm,r=.cy [.v (.string (mk s)),.v (.string (mk t))]
theorem N2(b:AV)(l:List UInt8)(hb:s8 b l)(p:Nat)(hp:p<10000000000000):an Tryz.prog 28 [.ref 0 0] [.cells [b,.v (.int .i64 (p:Int))]] (eW b p 50000000000 Gv):=by
 refine Qd _ _ hb.has ?_
 unfold H9
 refine aO (Rb b l hb p (by omega)) (eW.ne ⟨[],rfl,by simp⟩) ?_
 rintro r o ⟨q,h1,h2,⟨s,rfl,_⟩,rfl⟩
 simp only[↓zq,zs,ag,aL,hb.has]
 refine aO (KI b l hb q (by omega) s) (eW.ne ⟨[],rfl,by simp⟩) ?_
 rintro r o ⟨q1,g1,g2,⟨t,rfl,_⟩,rfl⟩
 simp only[↓zq,zs,ag,aL,hb.has]
 exact⟨q1,by omega,by omega,⟨s,t,rfl⟩,rfl⟩
theorem N5(b:AV)(l:List UInt8)(hb:s8 b l)(p:Nat)(hp:p<1000000000000):an Tryz.prog 13 [.ref 0 0] [.cells [b,.v (.int .i64 (p:Int))]] (eW b p 60000000000 Gv):=by
 refine N4 _ _ hb.has ?_
 unfold MW
 have hfar:qx=1000000000000000:=rfl
 refine aO (A9 b l hb p (by omega)) (eW.ne ⟨[],rfl,by simp⟩) ?_
 rintro r o ⟨q,h1,h2,⟨s,rfl,_⟩,rfl⟩
 simp only[↓zq,zs,ag,aL,hb.has]
 refine aO (xN b l hb q 12 (by omega) (by decide)) (eW.ne ⟨0,rfl,fun h=>by omega,by omega⟩) ?_
 rintro r o ⟨q1,g1,g2,⟨k,rfl,_,_⟩,rfl⟩
 simp only[↓zq,zs,ag,aL,hb.has]
 refine⟨fun _=>?_,fun _=>?_⟩
 ·refine aO (N2 b l hb q1 (by omega)) (eW.ne ⟨[],[],rfl⟩) ?_
  rintro r o ⟨q2,e1,e2,⟨x,y,rfl⟩,rfl⟩
  simp only[↓zq,zs,ag,zt,aL,hb.has]
  exact⟨q2,by omega,by omega,⟨x,y,rfl⟩,rfl⟩
 ·refine aO (KI b l hb q1 (by omega) s) (eW.ne ⟨[],rfl,by simp⟩) ?_
  rintro r o ⟨q2,e1,e2,⟨t,rfl,_⟩,rfl⟩
  simp only[↓zq,zs,ag,aL,hb.has]
  exact⟨q2,by omega,by omega,⟨s,t,rfl⟩,rfl⟩
end Go.Proofs.Trees
namespace Go.Proofs.Trees
open Go Go.VL Go.RowKit
theorem rZ(h:Nm)(a b:E):(eG (.list [.atom h,a,b])).length=h.length+(eG a).length+(eG b).length+4:=by
 simp only[eG,dP,au,aq,aG];omega
theorem iR(F:List Nm)(hF:F.length<=10000):∀(t:Ty) (to:List Nm) (k:Nat),uV t->(∀w,w∈to->w.length<=20)->k+(F.length+1)*t.atoms<90000000->(eG (gD F t to k).1).length<=50*t.atoms
 | .zero,_,_,_,_,_=>by simp[gD,eG,Ty.atoms]
 | .one,_,_,_,_,_=>by simp[gD,eG,Ty.atoms]
 | .name s,_,_,hn,_,_=>by have:=hn s (by simp[bb]);simp only[gD,eG,Ty.atoms];omega
 |
  .bound u,to,_,_,ht,_=>by
  show (jG to u).length<=50*1
  unfold jG
  by_cases h:to.length-1-u<to.length
  ·rw[aa,bg h];have:=ht _ (bN h);simp only[cz];omega
  ·rw[aa,List.getElem?_eq_none (by omega)];simp
 |
  .plus a b,to,k,hn,ht,hk=>by
  have h1:=gU F a to k
  have:(F.length+1)*(1+a.atoms+b.atoms)=(F.length+1)+(F.length+1)*a.atoms+(F.length+1)*b.atoms:=by simp only[cM,dq]
  simp only[Ty.atoms]at hk
  have i1:=iR F hF a to k (fun y hy=>hn y (by simp[bb,hy])) ht (by omega)
  have i2:=iR F hF b to _ (fun y hy=>hn y (by simp[bb,hy])) ht (show (gD F a to k).2+_<_ by omega)
  simp only[gD,rZ,Ty.atoms,au,aG];omega
 |
  .times a b,to,k,hn,ht,hk=>by
  have h1:=gU F a to k
  have:(F.length+1)*(1+a.atoms+b.atoms)=(F.length+1)+(F.length+1)*a.atoms+(F.length+1)*b.atoms:=by simp only[cM,dq]
  simp only[Ty.atoms]at hk
  have i1:=iR F hF a to k (fun y hy=>hn y (by simp[bb,hy])) ht (by omega)
  have i2:=iR F hF b to _ (fun y hy=>hn y (by simp[bb,hy])) ht (show (gD F a to k).2+_<_ by omega)
  simp only[gD,rZ,Ty.atoms,au,aG];omega
 |
  .rc a,to,k,hn,ht,hk=>by
  obtain⟨g1,g2,_,_⟩:=gb F k
  have:(F.length+1)*(2+a.atoms)=(F.length+1)*2+(F.length+1)*a.atoms:=by simp only[cM]
  simp only[Ty.atoms]at hk
  have hl:=wU (k:=nx F k) (by omega)
  have i1:=iR F hF a (to++[tN (nx F k)]) (nx F k+1) hn (fun w hw=>by
   rcases aK.1 hw with hw|hw
   ·exact ht w hw
   ·simp only[aS]at hw;rw[hw];exact hl) (by omega)
  simp only[gD,rZ,Ty.atoms,au,aG]
  simp only[eG]
  simp only[au]at hl |-
  omega
theorem Jj(x0 a fv:AV)(F:List Nm)(h0:LK.ptr.has x0)(ha:LK.sl.has a)(hfv:cw fv F)(hF:F.length<100000):∀(n j:Nat),p8 F n j<j+n->j+n<100000000 ->
 Cs [x0,a,.v (.string (mk (tN j)))] [.cells [fv],.cells [.v (.int .i64 ((j+1:Nat):Int))]] (jX 1 [x0,a,.v (.string (mk (tN (p8 F n j))))] [.cells [fv],.cells [.v (.int .i64 ((p8 F n j+1:Nat):Int))]])
 |0,j,h,_=>by simp only[p8]at h;omega
 |
  n+1,j,h,hj=>by
  refine K9 _ _ _ _ _ ?_
  simp only[F8,↓zq,zs,ag,zt,ag,hfv.1,h0,ha]
  refine⟨fun h=>(by simp at h),fun _=>?_⟩
  refine ak (Jp F fv hfv (tN j) (by omega)) ?_
  simp only[↓zq,zs,ag,zt]
  rw[p8]at h |-
  refine⟨fun hm=>?_,fun hm=>?_⟩
  ·rw[if_pos hm]at h |-
   refine ak (BQ (j+1) (by omega)) ?_
   have hd:=ox 8 (j+1) (by omega)
   simp only[↓zq,zs,ag,zt,aW,aT]
   rw[bS (j+1) (by omega)]
   exact⟨by simp[cq];omega,Jj x0 a fv F h0 ha hfv hF n (j+1) (by omega) (by omega)⟩
  ·rw[if_neg hm]
   exact⟨rfl,rfl,rfl⟩
theorem PU(x0 a fv:AV)(F:List Nm)(h0:LK.ptr.has x0)(ha:LK.sl.has a)(hfv:cw fv F)(hF:F.length<10000)(k:Nat)(hk:k<90000000) :
 Cs [x0,a,.v (.string (mk []))] [.cells [fv],.cells [.v (.int .i64 (k:Int))]] (jX 1 [x0,a,.v (.string (mk (tN (nx F k))))] [.cells [fv],.cells [.v (.int .i64 ((nx F k+1:Nat):Int))]]):=by
 obtain⟨g1,g2,_,_⟩:=gb F k
 refine K9 _ _ _ _ _ ?_
 simp only[F8,↓zq,zs,ag,zt,ag,hfv.1,h0,ha]
 refine⟨fun _=>?_,fun h=>(by simp at h)⟩
 refine ak (BQ k (by omega)) ?_
 have hd:=ox 8 k (by omega)
 simp only[↓zq,zs,ag,zt,aW,aT]
 rw[bS k (by omega)]
 exact⟨by simp[cq];omega,Jj x0 a fv F h0 ha hfv (by omega) (F.length+1) k (by show nx F k<_;omega) (by omega)⟩
theorem zw(F:List Nm)(fv:AV)(hfv:cw fv F)(hF:F.length<=1000):∀(t:Ty) (to:List Nm) (a:AV) (k:Nat),cw a to->to.length+t.atoms<10000->jd t to.length->uV t->(∀w,w∈to->w.length<=20)->k+(F.length+1)*t.atoms<80000000 ->
 an Tryz.prog 160 [t.av,a,.fm 160 [none,some 0,some 1],.ref 0 0,.ref 1 0] [.cells [fv],.cells [.v (.int .i64 (k:Int))]] (cK (.v (.string (mk (eG (gD F t to k).1)))) [.cells [fv],.cells [.v (.int .i64 ((gD F t to k).2:Int))]])
 |
  .zero,to,a,k,ha,hl,hlc,hs,ht,hk=>by
  refine w6 _ _ _ _ ((aF _).mpr trivial) ha.1 hfv.1 ?_
  simp only[Ep,Ty.av,↓zq,zs,ag,zt,aF]
  refine⟨by omega,fun h=>by omega,fun _=>⟨fun h=>by omega,fun _=>⟨fun h=>by omega,fun _=>⟨fun h=>by omega,fun _=>⟨fun h=>by omega,fun _=>?_⟩⟩⟩⟩⟩
  repeat refine⟨by omega,?_⟩
  exact⟨⟨rfl,(kW _ _).mpr trivial,trivial⟩,rfl,rfl⟩
 |
  .one,to,a,k,ha,hl,hlc,hs,ht,hk=>by
  refine w6 _ _ _ _ ((aF _).mpr trivial) ha.1 hfv.1 ?_
  simp only[Ep,Ty.av,↓zq,zs,ag,zt,aF]
  refine⟨by omega,fun h=>by omega,fun _=>⟨fun h=>by omega,fun _=>⟨fun h=>by omega,fun _=>⟨fun h=>by omega,fun _=>⟨fun h=>by omega,fun _=>?_⟩⟩⟩⟩⟩
  repeat refine⟨by omega,?_⟩
  exact⟨⟨rfl,(kW _ _).mpr trivial,trivial⟩,rfl,rfl⟩
 |
  .name s,to,a,k,ha,hl,hlc,hs,ht,hk=>by
  refine w6 _ _ _ _ ((aF _).mpr trivial) ha.1 hfv.1 ?_
  simp[Ep,Ty.av,↓zq,zs,ag,cK,gD,eG]
 |
  .bound u,to,a,k,ha,hl,hlc,hs,ht,hk=>by
  have hu:u<to.length:=hlc
  refine w6 _ _ _ _ ((aF _).mpr trivial) ha.1 hfv.1 ?_
  simp only[Ep,Ty.av,↓zq,zs,ag,zt,ha.len]
  rw[wrap64 ((to.length:Int)-1) (by omega) (by omega),wrap64 _ (by omega) (by omega)]
  have e1:(to.length:Int)-1-(u:Int)=((to.length-1-u:Nat):Int):=by omega
  rw[e1]
  simp only[bR,ha.idx (show to.length-1-u<to.length by omega),↓zq,zs,ag,zt]
  refine⟨by omega,fun h=>by omega,fun _=>⟨fun _=>⟨ha.1,by omega,⟨ha.1,by omega,by omega⟩,by omega,rfl,rfl⟩,fun h=>absurd rfl h⟩⟩
 |
  .plus x y,to,a,k,ha,hl,hlc,hs,ht,hk=>by
  simp only[Ty.atoms]at hl hk
  have h1:=gU F x to k
  have hm:(F.length+1)*(1+x.atoms+y.atoms)=(F.length+1)+(F.length+1)*x.atoms+(F.length+1)*y.atoms:=by simp only[cM,dq]
  have sx:uV x:=fun z hz=>hs z (by simp[bb,hz])
  have sy:uV y:=fun z hz=>hs z (by simp[bb,hz])
  have t1:=iR F (by omega) x to k sx ht (by omega)
  have t2:=iR F (by omega) y to (gD F x to k).2 sy ht (by omega)
  have hb:(⟨(bytesOf [[.v (.int .u8 43)]]).toArray⟩:ByteArray)=mk [43]:=rfl
  have h8:im [[AV.v (.int .u8 43)]]:=⟨rfl,(kW _ _).mpr trivial,trivial⟩
  refine w6 _ _ _ _ ((aF _).mpr trivial) ha.1 hfv.1 ?_
  simp only[Ep,Ty.av,↓zq,zs,ag,zt,aF,hb]
  refine⟨by omega,fun h=>by omega,fun _=>⟨fun h=>by omega,fun _=>⟨fun _=>?_,fun h=>absurd rfl h⟩⟩⟩
  repeat refine⟨by omega,?_⟩
  refine aU (zw F fv hfv hF x to a k ha (by omega) hlc.1 sx ht (by omega)) ?_
  simp only[↓zq,zs,ag,zt,aL,hfv.1,hb,aW,aT]
  repeat (first|refine⟨by omega,?_⟩|refine⟨h8,?_⟩|refine⟨by simp[cq];omega,?_⟩)
  refine aU (zw F fv hfv hF y to a _ ha (by omega) hlc.2 sy ht (by omega)) ?_
  simp only[↓zq,zs,ag,zt,aL,hfv.1,hb,aW,aT]
  repeat (first|refine⟨by omega,?_⟩|refine⟨h8,?_⟩|refine⟨by simp[cq];omega,?_⟩)
  refine⟨?_,rfl⟩
  simp[gD,eG,dP]
 |
  .times x y,to,a,k,ha,hl,hlc,hs,ht,hk=>by
  simp only[Ty.atoms]at hl hk
  have h1:=gU F x to k
  have hm:(F.length+1)*(1+x.atoms+y.atoms)=(F.length+1)+(F.length+1)*x.atoms+(F.length+1)*y.atoms:=by simp only[cM,dq]
  have sx:uV x:=fun z hz=>hs z (by simp[bb,hz])
  have sy:uV y:=fun z hz=>hs z (by simp[bb,hz])
  have t1:=iR F (by omega) x to k sx ht (by omega)
  have t2:=iR F (by omega) y to (gD F x to k).2 sy ht (by omega)
  have hb:(⟨(bytesOf [[.v (.int .u8 42)]]).toArray⟩:ByteArray)=mk [42]:=rfl
  have h8:im [[AV.v (.int .u8 42)]]:=⟨rfl,(kW _ _).mpr trivial,trivial⟩
  refine w6 _ _ _ _ ((aF _).mpr trivial) ha.1 hfv.1 ?_
  simp only[Ep,Ty.av,↓zq,zs,ag,zt,aF,hb]
  refine⟨by omega,fun h=>by omega,fun _=>⟨fun h=>by omega,fun _=>⟨fun h=>by omega,fun _=>⟨fun _=>?_,fun h=>absurd rfl h⟩⟩⟩⟩
  repeat refine⟨by omega,?_⟩
  refine aU (zw F fv hfv hF x to a k ha (by omega) hlc.1 sx ht (by omega)) ?_
  simp only[↓zq,zs,ag,zt,aL,hfv.1,hb,aW,aT]
  repeat (first|refine⟨by omega,?_⟩|refine⟨h8,?_⟩|refine⟨by simp[cq];omega,?_⟩)
  refine aU (zw F fv hfv hF y to a _ ha (by omega) hlc.2 sy ht (by omega)) ?_
  simp only[↓zq,zs,ag,zt,aL,hfv.1,hb,aW,aT]
  repeat (first|refine⟨by omega,?_⟩|refine⟨h8,?_⟩|refine⟨by simp[cq];omega,?_⟩)
  refine⟨?_,rfl⟩
  simp[gD,eG,dP]
 |
  .rc x,to,a,k,ha,hl,hlc,hs,ht,hk=>by
  simp only[Ty.atoms]at hl hk
  obtain⟨g1,g2,_,_⟩:=gb F k
  have hm:(F.length+1)*(2+x.atoms)=(F.length+1)*2+(F.length+1)*x.atoms:=by simp only[cM]
  have hln:=wU (k:=nx F k) (by omega)
  have ht':∀w,w∈to++[tN (nx F k)]->w.length<=20:=fun w hw=>by
   rcases aK.1 hw with hw|hw
   ·exact ht w hw
   ·simp only[aS]at hw;rw[hw];exact hln
  have t1:=iR F (by omega) x (to++[tN (nx F k)]) (nx F k+1) hs ht' (by omega)
  have hrc:(Ty.rc x).av=.ptr [.v (.int .u8 114),.v (.string (mk [])),.v (.int .i64 0),x.av,.v (.pointer none)]:=rfl
  refine w6 _ _ _ _ ((aF _).mpr trivial) ha.1 hfv.1 ?_
  simp only[Ep,Ty.av,↓zq,zs,ag,zt,aF]
  refine⟨by omega,fun h=>by omega,fun _=>⟨fun h=>by omega,fun _=>⟨fun h=>by omega,fun _=>⟨fun h=>by omega,fun _=>⟨fun _=>?_,fun h=>absurd rfl h⟩⟩⟩⟩⟩
  rw[<-hrc]
  repeat refine⟨by omega,?_⟩
  refine cX (PU (Ty.rc x).av a fv F ((aF _).mpr trivial) ha.1 hfv (by omega) k (by omega)) ?_
  simp only[Ty.av,↓zq,zs,ag,zt,ag,aL,hfv.1,ha.1,aF,ha.2,Ez,aT,j6,j9]
  have hl2:(dd (nx F k)).length+1<=20:=hln
  have hl3:(tN (nx F k)).length=(dd (nx F k)).length+1:=rfl
  refine⟨by omega,by simp only[aq,au,aG,hl3];omega,by omega,by omega,⟨fun c hc=>by simp at hc;rw[hc];rfl,by omega⟩,?_⟩
  refine aU (zw F fv hfv hF x (to++[tN (nx F k)]) _ (nx F k+1) (.of _) (by simp;omega) (by rw[aq];exact hlc) hs ht' (by omega)) ?_
  simp only[↓zq,zs,ag,zt,aL,hfv.1]
  repeat refine⟨by omega,?_⟩
  refine⟨by simp only[aq,au,aG,hl3];omega,by simp only[aq,au,aG,hl3];omega,?_,rfl⟩
  simp[gD,eG,dP]
theorem Qk(t:Ty)(g:fJ t)(hs:uV t)(h4:t.atoms<=400):an Tryz.prog 118 [t.av] [] (bB (.v (.string (mk (Es t))))):=by
 refine O5 _ ((aF _).mpr trivial) ?_
 unfold KB
 have hn:=er t []
 simp only[aG,aZ]at hn
 have hm:((bI t []).length+1)*t.atoms<=401*400:=Nat.mul_le_mul (by omega) h4
 refine ak (ME t (by omega)) ?_
 simp only[↓zq,zs,ag,zt,ck]
 refine aU (zw (bI t []) _ (.of _) (by omega) t [] xT 0 .nil (by simp;omega) g.1 hs (fun w hw=>by cases hw) (by omega)) ?_
 simp only[↓zq,zs,ag,zt,aL,ck]
 exact⟨rfl,rfl⟩
theorem Og(t:Ty)(g:fJ t)(hs:uV t)(hl:t.atoms<1000000):an Tryz.prog 61 [t.av] [] (bB (qY (told t))):=by
 refine OQ _ ((aF _).mpr trivial) ?_
 unfold Nl
 refine ak (Ew t hl) ?_
 simp only[↓zq,zs,ag,zt]
 refine⟨fun h=>?_,fun h=>?_⟩
 ·have:told t=none:=by unfold told;rw[if_neg fun h'=>by have:=h'.1;omega]
  rw[this];exact⟨rfl,rfl⟩
 ·have h4:t.atoms<=400:=by omega
  refine ak (Qk t g hs h4) ?_
  simp only[↓zq,zs,ag,zt]
  refine ak (Gs (Es t)) ?_
  simp only[↓zq,zs,ag,zt,hZ]
  unfold told
  cases q:qD (Es t)with
  |
   none =>
   simp only[gM,↓zq,zs,ag]
   rw[if_neg (by simp)]
   exact⟨fun _=>⟨rfl,rfl⟩,fun h=>(by cases h)⟩
  |
   some u =>
   simp only[gM,↓zq,zs,ag,fC]
   rw[if_pos ⟨h4,rfl⟩]
   exact⟨fun h=>(by cases h),fun _=>⟨rfl,rfl⟩⟩
theorem NO(s:Nm):an Tryz.prog 32 [.v (.string (mk s))] [] (bB (qY (cE s))):=by
 refine PH _ ?_
 unfold H6
 refine ak (Gs s) ?_
 simp only[↓zq,zs,ag,zt,hZ]
 cases q:qD s with
 |
  none =>
  have:cE s=none:=by unfold cE;rw[q]
  rw[this]
  simp only[gM,↓zq,zs,ag]
  exact⟨fun _=>⟨rfl,rfl⟩,fun h=>(by cases h)⟩
 |
  some t =>
  simp only[gM,↓zq,zs,ag,fC]
  have notRec:(∀a,t≠.rc a)->cE s=none:=fun hn=>by
   unfold cE;rw[q]
   cases t<;>first|rfl|exact absurd rfl (hn _)
  refine⟨fun h=>(by cases h),fun _=>?_⟩
  cases t with
  |
   rc a =>
   have h4:=tu q
   simp only[Ty.atoms]at h4
   have hq:cE s=(nH a lN).bind told:=by unfold cE;rw[q]
   obtain⟨e,he,hw,hte,hats,hok⟩:=nq q
   have hgood:∀d,nH a lN=some d->fJ d/\(uV (.rc a)->uV d):=fun d hd=>qS hw hte ⟨by simp,by simp,by simp⟩ hd
   rw[hq]
   simp only[Ty.av,↓zq,zs,ag]
   refine⟨by omega,fun h=>by omega,fun _=>?_⟩
   have hld:=QO a (by omega) (fun j=>by
    cases q2:bb (hN j) a with
    |false=>rfl
    |true=>exact absurd rfl ((xk (mK q (hN j) q2)).2 (dd j)))
   simp only[Ty.av]at hld
   refine aO hld (Ny.ne _) ?_
   rintro r ob ⟨rfl,p,hp,rfl,hpe⟩
   simp only[↓zq,zs,ag,zt,eq_true hp]
   cases q1:nH a lN with
   |
    none =>
    simp only[bC,bE]
    exact⟨fun _=>⟨rfl,rfl⟩,fun h=>(by cases h)⟩
   |
    some d =>
    simp only[bu,ba]
    refine⟨fun h=>(by cases h),fun _=>?_⟩
    rw[hpe d q1]
    have hl:d.atoms<=400:=by
     simp only[nH,bc,eS]at q1
     obtain⟨_,_,h1,h2⟩:=q1
     rw[<-h2];exact h1
    refine ak (Og d (hgood d q1).1 ((hgood d q1).2 (AN q)) (by omega)) ?_
    cases told d<;>simp only[qY,↓zq,zs,ag,zt]<;>exact⟨rfl,rfl⟩
  |
   _ =>
   rw[notRec fun a h=>by cases h]
   simp only[Ty.av,↓zq,zs,ag]
   exact⟨by omega,fun _=>⟨rfl,rfl⟩,fun h=>by omega⟩
end Go.Proofs.Trees
namespace Go.Proofs.Trees
open Go Go.VL Go.RowKit
theorem EA:∀(m:Nat) (c:Vl),c.nodes<=m->∀(t:Ty) (v:Vl),dH t c=true->∀(ea:AV) (ids:List Nat),kg ea ids->∀(s:List UInt8) (fr:AV),LK.has .ptr fr->an Tryz.prog 148 [.agg [t.av,ea],c.cv,.agg [.v (.string (mk s)),fr],v.cv] [] (bB (cP t c v).cv)
 |0,c,hm=>by have:=dB c;omega
 |
  m+1,c,hm=>by
  intro t v hc ea ids he s fr hf
  refine OC _ _ _ _ _ _ ((aF _).mpr trivial) he.has ((aM _).mpr trivial) hf ((aM _).mpr trivial) ?_
  have fin:∀x:AV,LK.has .ptr x->LK.has .ptr x=True:=fun x h=>eq_true h
  cases t with
  |zero=>rw[s7];simp[AR,Ty.av,↓zq,zs,ag,bB]
  |one=>rw[vO];simp[AR,Ty.av,↓zq,zs,ag,bB]
  |name n=>rw[ky];simp[AR,Ty.av,↓zq,zs,ag,bB]
  |bound u=>rw[sb];simp[AR,Ty.av,↓zq,zs,ag,bB]
  |
   plus a b =>
   have hL:=yY a.av b.av ea 43 (mk []) 0 ((aF _).mpr trivial) he.has
   have hR:=zI a.av b.av ea 43 (mk []) 0 ((aF _).mpr trivial) he.has
   rcases u9 hc with⟨x,rfl,hx⟩|⟨x,rfl,hx⟩
   ·simp only[Vl.nodes]at hm
    simp only[AR,Ty.av,↓zq,zs,ag]
    refine⟨by omega,fun _=>?_,fun h=>absurd rfl h⟩
    refine ak hL ?_
    simp only[↓zq,zs,ag,bF,aF,he.has,Vl.cv,aM]
    refine⟨by omega,fun h=>by omega,fun _=>⟨by omega,by omega,?_⟩⟩
    refine ak (EA m x (by omega) a v hx ea ids he s fr hf) ?_
    simp only[↓zq,zs,ag,aM]
    refine ak (zD 108 _ ((aM _).mpr trivial)) ?_
    simp[↓zq,zs,ag,bB,cP,Vl.cv,ca]
   ·simp only[Vl.nodes]at hm
    simp only[AR,Ty.av,↓zq,zs,ag]
    refine⟨by omega,fun _=>?_,fun h=>absurd rfl h⟩
    refine ak hL ?_
    simp only[↓zq,zs,ag,bF,aF,he.has,Vl.cv,aM]
    refine⟨by omega,fun _=>?_,fun h=>absurd rfl h⟩
    refine ak hR ?_
    simp only[↓zq,zs,ag,bF,aF,he.has,Vl.cv,aM]
    refine⟨by omega,by omega,?_⟩
    refine ak (EA m x (by omega) b v hx ea ids he s fr hf) ?_
    simp only[↓zq,zs,ag,aM]
    refine ak (zD 114 _ ((aM _).mpr trivial)) ?_
    simp[↓zq,zs,ag,bB,cP,Vl.cv,ca]
  |
   times a b =>
   have hL:=yY a.av b.av ea 42 (mk []) 0 ((aF _).mpr trivial) he.has
   have hR:=zI a.av b.av ea 42 (mk []) 0 ((aF _).mpr trivial) he.has
   rcases tA hc with⟨x,y,rfl,hx⟩|⟨x,y,rfl,hx⟩
   ·simp only[Vl.nodes]at hm
    simp only[AR,Ty.av,↓zq,zs,ag,Vl.cv]
    refine⟨by omega,fun h=>by omega,fun _=>⟨fun _=>⟨by omega,fun _=>?_,fun h=>absurd rfl h⟩,fun h=>absurd rfl h⟩⟩
    refine ak hL ?_
    simp only[↓zq,zs,ag,bF,aF,he.has,Vl.cv,aM]
    repeat refine⟨by omega,?_⟩
    refine ak (EA m x (by omega) a v hx ea ids he s fr hf) ?_
    simp only[↓zq,zs,ag,aM]
    repeat refine⟨by omega,?_⟩
    refine ak (zN _ _ ((aM _).mpr trivial) ((aM _).mpr trivial)) ?_
    simp[↓zq,zs,ag,bB,cP,Vl.cv,ca]
   ·simp only[Vl.nodes]at hm
    simp only[AR,Ty.av,↓zq,zs,ag,Vl.cv,aM]
    refine⟨by omega,fun h=>by omega,fun _=>⟨fun _=>⟨by omega,fun h=>by omega,fun _=>?_⟩,fun h=>absurd rfl h⟩⟩
    repeat refine⟨by omega,?_⟩
    refine ak hR ?_
    simp only[↓zq,zs,ag,bF,aF,he.has,Vl.cv,aM]
    repeat refine⟨by omega,?_⟩
    refine ak (EA m y (by omega) b v hx ea ids he s fr hf) ?_
    simp only[↓zq,zs,ag,aM]
    refine ak (zN _ _ ((aM _).mpr trivial) ((aM _).mpr trivial)) ?_
    simp[↓zq,zs,ag,bB,cP,Vl.cv,ca]
  |
   rc a =>
   have hin:=CD a ea ids he
   simp only[Ty.av]at hin
   rcases Bi hc with⟨x,rfl,hx⟩|⟨x,y,rfl,hx,hy⟩
   ·simp only[Vl.nodes]at hm
    simp only[AR,Ty.av,↓zq,zs,ag,Vl.cv,aM]
    refine⟨by omega,fun h=>by omega,fun _=>⟨fun h=>by omega,fun _=>⟨fun _=>?_,fun h=>absurd rfl h⟩⟩⟩
    refine aO hin (by have:=BF.ne a ea ids;simpa only[BF,Ty.av]using this) ?_
    intro r o hr
    obtain⟨⟨q,hq,rfl⟩,rfl⟩:=hr
    have he2:kg (.ptr [.pid q [(Ty.rc a).av,ea],ea]) (q::ids):=.cons hq he
    have hfr:LK.ptr.has (.pid q [(Ty.rc a).av,ea]):=.inr (.inr ⟨_,_,rfl⟩)
    simp only[Ty.av]at he2 hfr
    simp only[↓zq,zs,ag,bF,aF,he2.has,hfr,Vl.cv,aM,Ty.av]
    repeat refine⟨by omega,?_⟩
    refine⟨fun _=>?_,fun h=>absurd rfl h⟩
    repeat refine⟨by omega,?_⟩
    refine ak (EA m x (by omega) a v hx _ _ he2 s fr hf) ?_
    simp only[↓zq,zs,ag,aM]
    refine ak (zD 102 _ ((aM _).mpr trivial)) ?_
    simp[↓zq,zs,ag,bB,cP,Vl.cv,ca]
   ·simp only[Vl.nodes]at hm
    simp only[AR,Ty.av,↓zq,zs,ag,Vl.cv,aM]
    refine⟨by omega,fun h=>by omega,fun _=>⟨fun h=>by omega,fun _=>⟨fun _=>?_,fun h=>absurd rfl h⟩⟩⟩
    refine aO hin (by have:=BF.ne a ea ids;simpa only[BF,Ty.av]using this) ?_
    intro r o hr
    obtain⟨⟨q,hq,rfl⟩,rfl⟩:=hr
    have he2:kg (.ptr [.pid q [(Ty.rc a).av,ea],ea]) (q::ids):=.cons hq he
    have hfr:LK.ptr.has (.pid q [(Ty.rc a).av,ea]):=.inr (.inr ⟨_,_,rfl⟩)
    simp only[Ty.av]at he2 hfr
    simp only[↓zq,zs,ag,bF,aF,he2.has,hfr,Vl.cv,aM,Ty.av]
    repeat refine⟨by omega,?_⟩
    refine fun _=>?_
    repeat refine⟨by omega,?_⟩
    have i1:=EA m y (by omega) (.rc a) v hy ea ids he s fr hf
    simp only[Ty.av]at i1
    refine ak i1 ?_
    simp only[↓zq,zs,ag,aM]
    repeat refine⟨by omega,?_⟩
    refine ak (EA m x (by omega) a (cP (.rc a) y v) hx _ _ he2 [] _ hfr) ?_
    simp only[↓zq,zs,ag,aM]
    refine ak (zD 102 _ ((aM _).mpr trivial)) ?_
    simp[↓zq,zs,ag,bB,cP,Vl.cv,ca]
theorem OF(a:Ty)(c v:Vl)(hc:dH a c=true):an Tryz.prog 84 [(Ty.rc a).av,c.cv,v.cv] [] (bB (Vl.f (cP a c v)).cv):=by
 refine Qo _ _ _ ((aF _).mpr trivial) ((aM _).mpr trivial) ((aM _).mpr trivial) ?_
 unfold IF
 refine aO (CD a gR [] .nil) (BF.ne a gR []) ?_
 rintro r o ⟨⟨m,hm,rfl⟩,rfl⟩
 have he2:kg (.ptr [.pid m [(Ty.rc a).av,gR],gR]) [m]:=.cons hm .nil
 have hfr:LK.ptr.has (.pid m [(Ty.rc a).av,gR]):=.inr (.inr ⟨_,_,rfl⟩)
 simp only[Ty.av]at he2 hfr
 simp only[↓zq,zs,ag,bF,aF,he2.has,hfr,Ty.av]
 repeat refine⟨by omega,?_⟩
 refine ak (EA c.nodes c (aw _) a v hc _ _ he2 [] _ hfr) ?_
 simp only[↓zq,zs,ag,aM]
 refine ak (zD 102 _ ((aM _).mpr trivial)) ?_
 simp[↓zq,zs,ag,bB,Vl.cv,ca]
end Go.Proofs.Trees
namespace Go.Proofs.Trees
open Go Go.VL Go.RowKit
def yA(l:List Vl):List (List AV):=l.map fun c=>[c.cv]
theorem kf(l:List Vl):(yA l).length=l.length:=by simp[yA]
theorem xC{l:List Vl}{i:Nat}(h:i<l.length):(yA l).getD i []=[(l[i]).cv]:=by simp[yA,aa,h]
theorem Dl(l:List Vl)(c:Vl):yA l++[[c.cv]]=yA (l++[c]):=by simp[yA]
def tS(s:Nm)(a:Ty)(l:List Vl)(v:Vl):AV:=.ptr [.v (.string (mk s)),(Ty.rc a).av,.sl (yA l),v.cv]
def oZ(s:Nm)(a:Ty):Option (List Vl×Vl)->AV
 |some r=>tS s a r.1 r.2
 |none=>gR
theorem pd(s:Nm)(a:Ty)(o:Option (List Vl×Vl)):LK.has .ptr (oZ s a o)=True:=by cases o<;>simp[oZ,tS,iT,ca]
theorem DU(v:Vl):(Vl.f v).nodes=v.nodes+1:=by simp only[Vl.nodes];omega
theorem KJ(s:Nm)(a:Ty)(l:List Vl)(v:Vl)(h:ZI a l v)(hl:l.length<=50):an Tryz.prog 47 [tS s a l v] [] (bB (oZ s a (uR a l v))):=by
 refine OB _ ((ca _).mpr trivial) ?_
 simp only[Kk,tS,↓zq,zs,ag,kf]
 refine⟨fun h=>(by cases h),fun _=>?_⟩
 repeat refine⟨by omega,?_⟩
 unfold uR
 refine⟨fun h0=>?_,fun h0=>?_⟩
 ·have:l=[]:=bV (by omega)
  subst this
  exact⟨rfl,rfl⟩
 ·have hpos:0<l.length:=by omega
  have hne:l≠[]:=by rintro rfl;simp at hpos
  rw[wrap64 ((l.length:Int)-1) (by omega) (by omega)]
  have e1:((l.length:Int)-1).toNat=l.length-1:=by omega
  have hlt:l.length-1<l.length:=by omega
  have hlast:l.getLast?=some (l[l.length-1]):=by rw[List.getLast?_eq_some_getLast hne,List.getLast_eq_getElem]
  rw[hlast]
  have hC:=h.ctx _ (bN hlt)
  generalize hc:l[l.length-1]=c at *
  simp only[e1,xC hlt,hc,↓zq,zs,ag,aM,aF]
  repeat refine⟨by omega,?_⟩
  refine ak (OF a c v hC.ok) ?_
  simp only[↓zq,zs,ag,aM]
  have hn:=rL a c v
  have h1:=hC.nd
  have h2:=h.qu.nd
  refine ak (Er (.f (cP a c v)) (by rw[DU];omega)) ?_
  simp only[↓zq,zs,ag,aM,aF]
  refine⟨fun hb=>?_,fun hb=>?_⟩
  ·rw[if_neg (by omega)];exact⟨rfl,rfl⟩
  ·rw[if_pos (by omega)]
   repeat refine⟨by omega,?_⟩
   refine⟨?_,rfl⟩
   have:(yA l).take (l.length-1)=yA l.dropLast:=by rw[List.dropLast_eq_take];simp[yA]
   simp only[oZ,tS,Int.toNat_zero,bG,this]
theorem J7{s d:Nm}{a:Ty}{x A B:E}{D:Ty}(z:ZT s d a x A B D)(pa:AV)(p:List Nm)(hp:cw pa p)(hl:p.length<=50)(v:Vl):∀(k i:Nat) (l0:List Vl),i+k=p.length->l0.length<=i ->
 GI [.v (.string (mk d)),pa,.v (.int .i64 (p.length:Int)),.v (.int .i64 (i:Int))] [.cells [.v (.string (mk s)),(Ty.rc a).av,.any,v.cv],.vec 1 (yA l0)]
  (pk (match eJ d (p.drop i)with|some l=>(1,[],[.cells [.v (.string (mk s)),(Ty.rc a).av,.any,v.cv],.vec 1 (yA (l0++l))])|none=>(2,[gR],[])))
 |
  0,i,l0,hi,HQ=>by
  refine Iu _ _ _ _ _ _ _ _ ?_
  have:i=p.length:=by omega
  subst this
  simp only[Gi,↓zq,zs,ag,ag,aF,aM,List.drop_length]
  exact⟨hp.1,fun h=>by omega,fun _=>by simp[pk,eJ]⟩
 |
  k+1,i,l0,hi,HQ=>by
  have hlt:i<p.length:=by omega
  have hd:p.drop i=p.getD i []::p.drop (i+1):=by rw[aY hlt];simp[aa,hlt]
  refine Iu _ _ _ _ _ _ _ _ ?_
  simp only[Gi,↓zq,zs,ag,zt,ag,aF,aM,hp.len,hp.idx hlt,bR]
  refine⟨hp.1,fun _=>⟨⟨hp.1,by omega,by omega⟩,by omega,?_⟩,fun h=>by omega⟩
  refine ak (Kv d (p.getD i []) 100) ?_
  rw[hd,eJ]
  simp only[↓zq,zs,ag,zt,hZ,fF]
  cases q:nD d (p.getD i []) 100 with
  |
   none =>
   simp only[ij,↓zq,zs,ag]
   exact⟨fun _=>by first|trivial|rfl,fun h=>(by cases h)⟩
  |
   some w =>
   simp only[ij,↓zq,zs,ag,e9,Dl]
   refine⟨fun h=>(by cases h),fun _=>?_⟩
   rw[bS i (by omega)]
   have ih:=J7 z pa p hp hl v k (i+1) (l0++[w]) (by omega) (by simp;omega)
   refine⟨⟨fun c hc=>by simp at hc;rw[hc];rfl,by rw[kf];omega⟩,?_⟩
   cases q2:eJ d (p.drop (i+1))with
   |none=>rw[q2]at ih;exact ih
   |some l=>rw[q2]at ih;simp only[bK,aW,aT]at ih;exact ih
theorem gS{s:Nm}{p:List Nm}{f:Nm}{l:List Vl}{v:Vl}(h:l8 s p f=some (l,v)):∃d a x A B D,ZT s d a x A B D/\ZI a l v/\p=l.map (·.df)/\f=v.df/\p.length<=50/\zA s=a/\pg s f=some v/\eJ d p=some l:=by
 unfold l8 at h
 split at h
 ·rename_i v' d h1 h2
  split at h
  ·rename_i hl
   obtain⟨l',h3,h4⟩:=Option.map_eq_some_iff.1 h
   cases h4
   obtain⟨a,_,_,_,L⟩:=pJ h1
   obtain⟨x,A,B,D,z⟩:=ZT.of L.l h2
   obtain⟨q1,q2⟩:=rU z p l h3
   obtain⟨q3,q4⟩:=z.qu h1
   exact⟨d,a,x,A,B,D,z,⟨q2,q3⟩,q1,q4,hl,by unfold zA;rw[L.l];rfl,h1,h3⟩
  ·cases h
 ·cases h
theorem J0(s:Nm)(pa:AV)(p:List Nm)(hp:cw pa p)(f:Nm):an Tryz.prog 16 [.agg [.v (.string (mk s)),pa,.v (.string (mk f))]] [] (bB (oZ s (zA s) (l8 s p f))):=by
 refine Qr _ _ _ hp.1 ?_
 unfold II
 refine ak (QQ s f) ?_
 have hlt:LK.has .ptr (GY s)=True:=by unfold GY;split<;>simp[aF,iT]
 simp only[↓zq,zs,ag,zt,hlt,fF]
 refine ak (NO s) ?_
 have ho:∀o:Option Nm,qY o=.cy [.v (.string (mk (o.getD []))),.v (.bool o.isSome)]:=fun o=>by cases o<;>rfl
 rw[ho]
 simp only[↓zq,zs,ag,zt]
 unfold l8
 cases h1:pg s f with
 |
  none =>
  simp only[ij,↓zq,zs,ag]
  exact⟨fun _=>⟨rfl,rfl⟩,fun h=>(by cases h)⟩
 |
  some v =>
  simp only[ij,↓zq,zs,ag,e9]
  refine⟨fun h=>(by cases h),fun _=>?_⟩
  cases h2:cE s with
  |
   none =>
   simp only[bC]
   exact⟨fun _=>⟨rfl,rfl⟩,fun h=>(by cases h)⟩
  |
   some d =>
   simp only[bu,cz,hp.len]
   refine⟨fun h=>(by cases h),fun _=>⟨hp.1,fun h=>?_,fun h=>?_⟩⟩
   ·rw[if_neg (by omega)];exact⟨rfl,rfl⟩
   ·have hl:p.length<=50:=by omega
    rw[if_pos hl]
    obtain⟨a,_,_,_,L⟩:=pJ h1
    obtain⟨x,A,B,D,z⟩:=ZT.of L.l h2
    have ht:GY s=(Ty.rc a).av:=by unfold GY;rw[L.l]
    have hza:zA s=a:=by unfold zA;rw[L.l];rfl
    rw[ht,hza]
    refine⟨hp.1,?_⟩
    have hloop:=J7 z pa p hp hl v p.length 0 [] (by omega) (by simp)
    rw[bG]at hloop
    refine fH hloop (fun ys o e=>?_) (fun ys o e=>?_)
    ·cases q:eJ d p with
     |none=>rw[q]at e;cases e
     |
      some l =>
      rw[q]at e
      cases e
      simp only[↓zq,zs,ag,zt,ag,aL,aF,aM,cu]
      exact⟨rfl,rfl⟩
    ·cases q:eJ d p with
     |
      none =>
      rw[q]at e
      cases e
      simp only[↓zq,zs,ag,zt,ag,aL,Option.map_none]
      exact⟨rfl,rfl⟩
     |some l=>rw[q]at e;cases e
theorem Mi(s:Nm)(a:Ty)(x3:AV)(h3:LK.ptr.has x3):∀(n:Nat) (l:List Vl) (v:Vl),l.length=n->ZI a l v->n<=50 ->
 HF [x3,tS s a l v] [] (pk (if(jY n a l v).isSome=true then(1,[x3],[])else(2,[gR],[])))
 |
  0,l,v,hl,h,hn=>by
  refine Jf _ _ ?_
  simp only[EV,tS,↓zq,zs,ag,h3,kf,hl,jY]
  repeat refine⟨by omega,?_⟩
  exact fun _=>by simp[pk]
 |
  n+1,l,v,hl,h,hn=>by
  refine Jf _ _ ?_
  have hup:=KJ s a l v h (by omega)
  simp only[EV,↓zq,zs,ag,h3]
  simp only[tS,↓zq,zs,ag,kf,hl]at hup |-
  repeat refine⟨by omega,?_⟩
  refine⟨fun _=>?_,fun h=>by omega⟩
  refine ak hup ?_
  simp only[↓zq,zs,ag,pd]
  rw[jY]
  cases q:uR a l v with
  |
   none =>
   simp only[oZ,↓zq,zs,ag,bE]
   exact⟨fun _=>by simp[pk],fun h=>(by cases h)⟩
  |
   some r =>
   obtain⟨hz,hlen,_⟩:=rz h q
   have ih:=Mi s a x3 h3 n r.1 r.2 (by omega) hz (by omega)
   simp only[oZ,tS,↓zq,zs,ag,ba]at ih |-
   exact⟨fun h=>(by cases h),fun _=>ih⟩
theorem Rq(s:Nm)(pa:AV)(p:List Nm)(hp:cw pa p)(f:Nm):an Tryz.prog 22 [.agg [.v (.string (mk s)),pa,.v (.string (mk f))]] [] (bB (oZ s (zA s) (jU s p f))):=by
 refine PR _ _ _ hp.1 ?_
 unfold MN
 refine ak (J0 s pa p hp f) ?_
 simp only[↓zq,zs,ag,zt,pd]
 unfold jU
 cases q:l8 s p f with
 |
  none =>
  simp only[oZ,↓zq,zs,ag,bE]
  exact⟨fun _=>⟨rfl,rfl⟩,fun h=>(by cases h)⟩
 |
  some r =>
  obtain⟨l,v⟩:=r
  obtain⟨d,a,x,A,B,D,z,hz,hpt,hft,hl,hza,_,_⟩:=gS q
  rw[hza]
  have hll:l.length<=50:=by rw[hpt]at hl;simpa using hl
  have hloop:=Mi s a (tS s a l v) ((ca _).mpr trivial) l.length l v rfl hz hll
  simp only[oZ,ba]
  refine⟨fun h=>(by cases h),fun _=>?_⟩
  unfold su
  refine fH hloop (fun ys o e=>?_) (fun ys o e=>?_)
  ·split at e
   ·rename_i hc
    cases e
    rw[if_pos hc]
    simp only[↓zq,zs,ag,tS,ca]
    exact⟨rfl,rfl⟩
   ·cases e
  ·split at e
   ·cases e
   ·rename_i hc
    cases e
    rw[if_neg hc]
    simp only[↓zq,zs,ag]
    exact⟨rfl,rfl⟩
end Go.Proofs.Trees
namespace Go.Proofs.Trees
open Go Go.VL Go.RowKit
abbrev tZ(s:Nm):Option (List Vl×Vl)->Nm×List Nm×Nm
 |some r=>(s,r.1.map (·.df),r.2.df)
 |none=>([],[],[])
def GZ(o:Option (List Vl×Vl)):Prop:=∀r,o=some r->(∀c,c∈r.1->c.df.length<=900000)/\r.2.df.length<=900000/\r.1.length<=51
theorem Cx.df{a:Ty}{c:Vl}(h:Cx a c):c.df.length<=900000:=by have:=jo c h.gX;have:=h.nd;omega
theorem Fo.df{a:Ty}{c:Vl}(h:Fo a c):c.df.length<=900000:=by have:=jo c h.gX;have:=h.nd;omega
theorem ZI.gz{a:Ty}{l:List Vl}{v:Vl}(h:ZI a l v)(hl:l.length<=51):GZ (some (l,v)):=fun r hr=>by
 cases hr;exact⟨fun c hc=>(h.ctx c hc).df,h.qu.df,hl⟩
theorem GZ.none:GZ none:=fun r hr=>by cases hr
theorem Iz(l:List Vl)(hl:l.length<=51)(ht:∀c,c∈l->c.df.length<=900000)(s f:Nm):∀(k i:Nat) (out:List Nm),i+k=l.length->out.length<=i ->
 Hj [.sl (yA l),.v (.int .i64 (l.length:Int)),.v (.int .i64 (i:Int))] [.cells [.v (.string (mk [])),xT,.v (.string (mk []))],.cells [.v (.string (mk s)),.any,.v (.string (mk f))],.vec 1 (bn out)]
  (jX 1 [] [.cells [.v (.string (mk [])),xT,.v (.string (mk []))],.cells [.v (.string (mk s)),.any,.v (.string (mk f))],.vec 1 (bn (out++(l.drop i).map (·.df)))])
 |
  0,i,out,hi,ho=>by
  refine JZ _ _ _ _ _ _ _ _ _ ?_
  have:i=l.length:=by omega
  subst this
  simp only[F9,↓zq,zs,ag,zt,ag,bj,List.drop_length]
  exact⟨fun h=>by omega,fun _=>by simp[jX]⟩
 |
  k+1,i,out,hi,ho=>by
  have hlt:i<l.length:=by omega
  refine JZ _ _ _ _ _ _ _ _ _ ?_
  simp only[F9,↓zq,zs,ag,zt,ag,bj,kf,xC hlt,aM,bR]
  refine⟨fun _=>?_,fun h=>by omega⟩
  repeat refine⟨by omega,?_⟩
  refine ak (EH (l[i]) (ht _ (bN hlt))) ?_
  simp only[↓zq,zs,ag,zt,Ez,j6]
  refine⟨⟨fun c hc=>by simp at hc;rw[hc];rfl,by omega⟩,?_⟩
  rw[bS i (by omega),aY hlt,bz]
  have:=Iz l hl ht s f k (i+1) (out++[(l[i]).df]) (by omega) (by simp;omega)
  rw[bK]at this
  exact this
theorem Oe(s:Nm)(a:Ty)(o:Option (List Vl×Vl))(h:GZ o):an Tryz.prog 15 [oZ s a o] [] (cK (.cy [.agg [.v (.string (mk (tZ s o).1)),.vec 0,.v (.string (mk (tZ s o).2.2))],.v (.bool o.isSome)]) [.vec 1 (bn (tZ s o).2.1)]):=by
 refine OE _ (by rw[pd];trivial) ?_
 unfold Mc
 cases o with
 |
  none =>
  simp only[oZ,↓zq,zs,ag]
  exact⟨fun _=>⟨rfl,rfl⟩,fun h=>(by cases h)⟩
 |
  some r =>
  obtain⟨h1,h2,h3⟩:=h r rfl
  simp only[oZ,tS,↓zq,zs,ag,zt,aF,aM]
  refine⟨fun h=>(by cases h),fun _=>?_⟩
  repeat refine⟨by omega,?_⟩
  refine ak (EH r.2 h2) ?_
  simp only[↓zq,zs,ag,zt,aF,aM,kf]
  repeat refine⟨by omega,?_⟩
  have hlp:=Iz r.1 h3 h1 s r.2.df r.1.length 0 [] (by omega) (by simp)
  rw[bG,aT]at hlp
  refine cX hlp ?_
  simp only[↓zq,zs,ag,zt,ag,aL,bj]
  exact⟨rfl,rfl⟩
theorem iG{s:Nm}{p:List Nm}{f:Nm}{l:List Vl}{v:Vl}(h:jU s p f=some (l,v)):l8 s p f=some (l,v)/\(su (zA s) l v).isSome=true:=by
 unfold jU at h
 obtain⟨r,h1,h2⟩:=bc.1 h
 split at h2
 ·rename_i hc
  cases h2
  exact⟨h1,hc⟩
 ·cases h2
theorem CG{s:Nm}{p:List Nm}{f:Nm}{l:List Vl}{v:Vl}(h:jU s p f=some (l,v)):ZI (zA s) l v/\l.length<=50/\p=l.map (·.df)/\f=v.df:=by
 obtain⟨h1,_⟩:=iG h
 obtain⟨d,a,x,A,B,D,z,hz,hp,hf,hl,hza,_,_⟩:=gS h1
 rw[hza]
 exact⟨hz,by rw[hp]at hl;simpa using hl,hp,hf⟩
theorem wF(s:Nm)(p:List Nm)(f:Nm):GZ (l8 s p f):=fun r hr=>by
 obtain⟨d,a,x,A,B,D,z,hz,hp,hf,hl,hza,_,_⟩:=gS (l:=r.1) (v:=r.2) hr
 exact hz.gz (by
  rw[hp]at hl;have:r.1.length<=50:=by simpa using hl
  omega) r rfl
noncomputable def uh (s:Nm) (p:List Nm) (f:Nm):Option Nm:=(jU s p f).bind fun r=>(su (zA s) r.1 r.2).map (·.df)
noncomputable def oA (s:Nm) (p:List Nm) (f:Nm):Int:=match jU s p f with
 |some r=>((kids (zA s) r.2).length:Int)
 |none=>-1
abbrev Cp(s:Nm)(o:Option (List Vl×Vl)):AV->List Ob->Prop:=cK (.cy [.agg [.v (.string (mk (tZ s o).1)),.vec 0,.v (.string (mk (tZ s o).2.2))],.v (.bool o.isSome)]) [.vec 1 (bn (tZ s o).2.1)]
theorem CU(s f:Nm):an Tryz.prog 5 [.v (.string (mk s)),.v (.string (mk f))] [] (Cp s (l8 s [] f)):=by
 refine OG _ _ ?_
 unfold Ma
 refine ak (J0 s _ [] (cw.nil) f) ?_
 simp only[↓zq,zs,ag,zt,pd]
 refine aU (Oe s (zA s) _ (wF s [] f)) ?_
 simp only[↓zq,zs,ag,zt,aL]
 exact⟨ej _,rfl,rfl⟩
theorem Me(s:Nm)(a:Ty):∀(n:Nat) (l:List Vl) (v w:Vl),l.length=n->ZI a l v->n<=50->jY n a l v=some w->Fo a w /\
 Hp [tS s a l v] [] (jX 1 [tS s a [] w] [])
 |
  0,l,v,w,hl,h,hn,hc=>by
  cases hc
  have:l=[]:=bV hl
  subst this
  refine⟨h.qu,JM _ ?_⟩
  simp only[HN,tS,↓zq,zs,ag,kf,aG]
  refine⟨by omega,fun h=>by omega,fun _=>by simp[jX]⟩
 |
  n+1,l,v,w,hl,h,hn,hc=>by
  rw[jY]at hc
  obtain⟨r,hu,hc⟩:=bc.1 hc
  obtain⟨hz,hlen,_⟩:=rz (l':=r.1) (w:=r.2) h hu
  obtain⟨i1,i2⟩:=Me s a n r.1 r.2 w (by omega) hz (by omega) hc
  refine⟨i1,JM _ ?_⟩
  have hup:=KJ s a l v h (by omega)
  rw[hu]at hup
  simp only[HN,oZ]at hup |-
  simp only[tS,↓zq,zs,ag,kf,hl]at hup |-
  repeat refine⟨by omega,?_⟩
  refine⟨fun _=>?_,fun h=>by omega⟩
  refine ak hup ?_
  simp only[↓zq,zs,ag]
  exact i2
theorem PC(s:Nm)(pa:AV)(p:List Nm)(hp:cw pa p)(f:Nm):an Tryz.prog 42 [.agg [.v (.string (mk s)),pa,.v (.string (mk f))]] [] (bB (qY (uh s p f))):=by
 refine QP _ _ _ hp.1 ?_
 unfold JV
 refine ak (Rq s pa p hp f) ?_
 simp only[↓zq,zs,ag,pd]
 unfold uh
 cases q:jU s p f with
 |
  none =>
  simp only[oZ,↓zq,zs,ag,bE]
  exact⟨fun _=>⟨rfl,rfl⟩,fun h=>(by cases h)⟩
 |
  some r =>
  obtain⟨l,v⟩:=r
  obtain⟨hz,hl,_⟩:=CG q
  obtain⟨w,hw⟩:=Option.isSome_iff_exists.1 (iG q).2
  obtain⟨h1,h2⟩:=Me s (zA s) l.length l v w rfl hz hl hw
  simp only[oZ,ba,hw,cu]
  have hn:(tS s (zA s) l v).isNil=false:=rfl
  simp only[hn]
  refine⟨fun h=>(by cases h),fun _=>?_⟩
  refine cX h2 ?_
  simp only[↓zq,zs,ag,tS,aM,ca]
  repeat refine⟨by first|trivial|omega,?_⟩
  refine ak (EH w h1.df) ?_
  simp only[↓zq,zs,ag,zt]
  exact⟨rfl,rfl⟩
theorem JN(s:Nm)(pa:AV)(p:List Nm)(hp:cw pa p)(f:Nm):an Tryz.prog 11 [.agg [.v (.string (mk s)),pa,.v (.string (mk f))]] [] (bB (.v (.int .i64 (oA s p f)))):=by
 refine Ot _ _ _ hp.1 ?_
 unfold I7
 refine ak (Rq s pa p hp f) ?_
 simp only[↓zq,zs,ag,pd]
 unfold oA
 cases q:jU s p f with
 |
  none =>
  simp only[oZ,↓zq,zs,ag]
  exact⟨fun _=>⟨rfl,rfl⟩,fun h=>(by cases h)⟩
 |
  some r =>
  obtain⟨l,v⟩:=r
  obtain⟨d,a,x,A,B,D,z,hz,_,_,_,hza,_,_⟩:=gS (iG q).1
  simp only[oZ,tS,↓zq,zs,ag,aM,aF,hza]
  refine⟨fun h=>(by cases h),fun _=>?_⟩
  repeat refine⟨by first|trivial|omega,?_⟩
  have:=hz.qu.nd
  refine ak (QV 100 v x A B a z.body z.hx (hz.qu.fA z) (by omega)) ?_
  simp only[↓zq,zs,ag]
  exact⟨by first|rfl|simp[ia],rfl⟩
end Go.Proofs.Trees
namespace Go.Proofs.Trees
open Go Go.VL Go.RowKit
def lH:E->Option E
 | .list [x,a,b]=>if x.at=[114,101,99]then some (.list [x,a,b])else none
 |_=>none
def oh(s:List UInt8):Option E:=match jn s with
 |some e=>lH e
 |none=>none
theorem Li(s:List UInt8):an Tryz.prog 123 [.v (.string (mk s))] [] (j0 (oh s) (oh s).isSome):=by
 refine Ph _ ?_
 unfold JW
 refine aO (FX s) (j0.ne _ _ (fun h=>h)) ?_
 rintro r o ⟨c,d,hd,rfl,hh⟩
 have hhas:bF [.str,.sl] [.v (.string (mk c)),d] 0:=by simp[bF,eh,hd]
 simp only[↓zq,zs,ag,zt]
 refine⟨hhas,fun h=>?_,fun h=>?_⟩
 ·obtain⟨e,he,hce⟩:=hh h
  obtain⟨t,h1,hA,h3,h4,h5,_⟩:=gp he
  have hce':=hce
  rw[dA]at hce'
  simp only[AV.agg.injEq,List.cons.injEq,AV.v.injEq,Value.string.injEq,and_true]at hce'
  obtain⟨hc1,rfl⟩:=hce'
  have hc2:=mk_inj hc1
  subst hc2
  have head:∀w:List UInt8,an Tryz.prog 104 [.agg [.v (.string (mk e.at)),e.sp]] [] (bB (.v (.string (mk w))))->(w=[114,101,99]↔(lH e).isSome=true)->((lH e).isSome=true->lH e=some e) ->
   eU Tryz.prog 18 (Tree.call 104 [.agg [.v (.string (mk e.at)),e.sp]] [] fun r2 o2=>Tree.aj (LK.str.has r2) (Tree.done 0 [.cy [.agg [.v (.string (mk e.at)),e.sp],.v (.bool (ae r2.toStr==[114,101,99]))]] [])) fun _ xs obs=>j0 (oh s) (oh s).isSome (xs.headD .any) obs:=by
   intro w hw h1 h2
   refine ak hw ?_
   simp only[↓zq,zs,ag,zt]
   refine⟨e.at,e.sp,hd,?_,fun hs=>⟨e,?_,(dA e).symm⟩⟩
   ·congr 3
    simp only[oh,he,AV.v.injEq,Value.bool.injEq,List.cons.injEq,and_true]
    rw[cF];simpa using h1
   ·simp only[oh,he]at hs |-;exact h2 hs
  have hl:∀x l,e=.list (x::l)->an Tryz.prog 104 [.agg [.v (.string (mk e.at)),e.sp]] [] (bB (.v (.string (mk x.at)))):=by
   rintro x l rfl;exact uM x l
  have ha:∀s0,e=.atom s0->an Tryz.prog 104 [.agg [.v (.string (mk e.at)),e.sp]] [] (bB (.v (.string (mk [])))):=by
   rintro s0 rfl;exact zd s0 _ ((bj).mpr trivial) hA.ok
  rcases hG hA.wf hA.ty with⟨hb,_⟩|⟨u,g,rfl,_,hg⟩
  ·rcases fL hA.ty hb hA.cl with⟨rfl,rfl⟩|⟨rfl,rfl⟩|⟨s0,rfl,rfl,hp,h0,h1⟩|⟨x,a,b,t1,t2,rfl,hx,rfl,ha',hbb⟩|⟨x,a,b,t1,t2,rfl,hx,rfl,ha',hbb⟩|⟨x,a,b,t1,rfl,hx,rfl⟩
   ·exact head _ (ha _ rfl) (by simp[lH]) (by simp[lH])
   ·exact head _ (ha _ rfl) (by simp[lH]) (by simp[lH])
   ·exact head _ (ha _ rfl) (by simp[lH]) (by simp[lH])
   ·exact head _ (hl _ _ rfl) (by simp[lH,hx]) (by simp[lH,hx])
   ·exact head _ (hl _ _ rfl) (by simp[lH,hx]) (by simp[lH,hx])
   ·exact head _ (hl _ _ rfl) (by simp[lH,hx]) (by simp[lH,hx])
  ·simp at hg
 ·have hn:jn s=none:=by cases hq:jn s<;>simp[hq]at h |-
  refine⟨c,d,hd,?_,fun h=>?_⟩
  ·simp[oh,hn]
  ·simp[oh,hn]at h
theorem A4(s:List UInt8):(oh s).isSome=(kl s).isSome:=by
 unfold oh kl
 cases h:jn s with
 |none=>rw[mN h];rfl
 |
  some e =>
  obtain⟨t,h1,hA,h3,h4,h5,_⟩:=gp h
  rw[h1]
  simp only
  rcases hG hA.wf hA.ty with⟨hb,_⟩|⟨u,g,rfl,_,hg⟩
  ·rcases fL hA.ty hb hA.cl with⟨rfl,rfl⟩|⟨rfl,rfl⟩|⟨s0,rfl,rfl,hp,h0,h1⟩|⟨x,a,b,t1,t2,rfl,hx,rfl,ha',hbb⟩|⟨x,a,b,t1,t2,rfl,hx,rfl,ha',hbb⟩|⟨x,a,b,t1,rfl,hx,rfl⟩<;>simp_all[lH]
  ·simp at hg
theorem LV.le{s v:List UInt8}{w:Vl}{a:Ty}{x A B:E}(h:LV s v w a x A B):oh s=some (.list [x,A,B]):=by
 unfold oh;rw[h.ce];simp[lH,h.hx]
end Go.Proofs.Trees
namespace Go.Proofs.Trees
open Go Go.VL Go.RowKit
def PL(e:E)(s:List UInt8)(t:Ty)(c v:Vl):Prop:=an Tryz.prog 215 [.agg [.v (.string (mk e.at)),e.sp],.v (.string (mk s)),.agg [.v (.string (mk c.dG.at)),c.dG.sp],.agg [.v (.string (mk v.dG.at)),v.dG.sp]] [] (bB (.agg [.v (.string (mk (cP t c v).dG.at)),(cP t c v).dG.sp]))
theorem Eg:∀(m:Nat) (c:Vl),c.nodes<=m->∀(e:E) (env:List Fr) (t:Ty),Ask e env t->dH t c=true->∀(s:List UInt8) (v:Vl),PL e s t c v
 |0,c,hm=>by have:=dB c;omega
 |
  m+1,c,hm=>by
  intro e env t A hc s v
  unfold PL
  refine Oh _ _ _ _ _ _ _ ((bh _).mpr trivial) ((bh _).mpr trivial) ((bh _).mpr trivial) ?_
  have atomCase:∀s0,e=.atom s0->cP t c v=v->eU Tryz.prog 244 (DD (mk e.at) e.sp (mk s) (mk c.dG.at) c.dG.sp (mk v.dG.at) v.dG.sp) fun _ xs obs=>bB (.agg [.v (.string (mk (cP t c v).dG.at)),(cP t c v).dG.sp]) (xs.headD .any) obs:=by
   rintro s0 rfl hp
   have hne:s0≠[]:=A.ok
   rw[hp]
   simp only[DD,E.at,↓zq,zs,ag,zt,bB]
   exact⟨fun _=>trivial,fun h=>absurd h hne⟩
  have hvh:=Dp c
  rw[dA]at hvh
  rcases hG A.wf A.ty with⟨hb,hq⟩|⟨u,g,rfl,hq,hu⟩
  ·rcases fL A.ty hb A.cl with⟨rfl,rfl⟩|⟨rfl,rfl⟩|⟨s0,rfl,rfl,hp,h0,h1⟩|⟨x,a,b,t1,t2,rfl,hx,rfl,ha,hbb⟩|⟨x,a,b,t1,t2,rfl,hx,rfl,ha,hbb⟩|⟨x,a,b,t1,rfl,hx,rfl⟩
   ·exact atomCase _ rfl (s7 _ _)
   ·exact atomCase _ rfl (vO _ _)
   ·exact atomCase _ rfl (ky _ _ _)
   ·obtain⟨ok1,ok2,ok3,_⟩:=A.ok
    obtain⟨f1,f2⟩:=fQ A.cl
    have hP:=P3.of x a b
    have hH:an Tryz.prog 104 [.agg [.v (.string (mk [])),(E.list [x,a,b]).sp]] [] (bB (.v (.string (mk [43])))):=by rw[<-hx];exact uM x [a,b]
    rcases u9 hc with⟨y,rfl,hy⟩|⟨y,rfl,hy⟩
    ·simp only[Vl.nodes]at hm
     have hW:=P2.of (.atom [108]) y.dG
     simp only[Vl.dG,bH]at hvh
     simp only[DD,bH,Vl.dG,toNat_one,bw,↓zq,zs,ag,zt,hP.1,hP.2.1,hP.2.2.1,hP.2.2.2,hW.1,hW.2.1,hW.2.2,aR]
     refine⟨fun h=>absurd rfl h,fun _=>?_⟩
     repeat refine⟨by omega,?_⟩
     refine ak hH ?_
     simp only[↓zq,zs,ag,zt]
     refine ak hvh ?_
     simp only[vh,↓zq,zs,ag,zt,aW,aT]
     refine⟨by simp[cq],fun _=>?_,fun h=>absurd rfl h⟩
     repeat refine⟨by omega,?_⟩
     refine ak (Eg m y (by omega) a env t1 ⟨ok2,A.wf,ha,f1⟩ hy s v) ?_
     simp only[↓zq,zs,ag,zt,aR]
     repeat refine⟨by omega,?_⟩
     refine ak (Ey _ _) ?_
     simp only[↓zq,zs,ag,zt,aR]
     repeat refine⟨by omega,?_⟩
     exact⟨rfl,rfl⟩
    ·simp only[Vl.nodes]at hm
     have hW:=P2.of (.atom [114]) y.dG
     simp only[Vl.dG,bH]at hvh
     simp only[DD,bH,Vl.dG,toNat_one,bw,↓zq,zs,ag,zt,hP.1,hP.2.1,hP.2.2.1,hP.2.2.2,hW.1,hW.2.1,hW.2.2,aR]
     refine⟨fun h=>absurd rfl h,fun _=>?_⟩
     repeat refine⟨by omega,?_⟩
     refine ak hH ?_
     simp only[↓zq,zs,ag,zt]
     refine ak hvh ?_
     simp only[vh,↓zq,zs,ag,zt,aW,aT]
     refine⟨by simp[cq],fun h=>by simp at h,fun _=>⟨fun _=>?_,fun h=>absurd rfl h⟩⟩
     repeat refine⟨by omega,?_⟩
     refine ak (Eg m y (by omega) b env t2 ⟨ok3,A.wf,hbb,f2⟩ hy s v) ?_
     simp only[↓zq,zs,ag,zt,aR]
     repeat refine⟨by omega,?_⟩
     refine ak (Ey _ _) ?_
     simp only[↓zq,zs,ag,zt,aR]
     repeat refine⟨by omega,?_⟩
     exact⟨rfl,rfl⟩
   ·obtain⟨ok1,ok2,ok3,_⟩:=A.ok
    obtain⟨f1,f2⟩:=fu A.cl
    have hP:=P3.of x a b
    have hH:an Tryz.prog 104 [.agg [.v (.string (mk [])),(E.list [x,a,b]).sp]] [] (bB (.v (.string (mk [42])))):=by rw[<-hx];exact uM x [a,b]
    rcases tA hc with⟨y,z,rfl,hy⟩|⟨y,z,rfl,hy⟩
    ·simp only[Vl.nodes]at hm
     have hW:=P2.of (.atom [108]) (E.list [.atom [112],y.dG,z.dG])
     have hQ:=P3.of (.atom [112]) y.dG z.dG
     simp only[Vl.dG,bH]at hvh
     simp only[DD,bH,Vl.dG,toNat_one,bw,↓zq,zs,ag,zt,hP.1,hP.2.1,hP.2.2.1,hP.2.2.2,hW.1,hW.2.1,hW.2.2,hQ.1,hQ.2.1,hQ.2.2.1,hQ.2.2.2,aR]
     refine⟨fun h=>absurd rfl h,fun _=>?_⟩
     repeat refine⟨by omega,?_⟩
     refine ak hH ?_
     simp only[↓zq,zs,ag,zt]
     refine ak hvh ?_
     simp only[vh,↓zq,zs,ag,zt,aW,aT]
     refine⟨by simp[cq],fun h=>by simp at h,fun _=>⟨fun h=>by simp at h,fun _=>⟨fun _=>?_,fun h=>absurd rfl h⟩⟩⟩
     repeat refine⟨by omega,?_⟩
     refine ak (Eg m y (by omega) a env t1 ⟨ok2,A.wf,ha,f1⟩ hy s v) ?_
     simp only[↓zq,zs,ag,zt,aR]
     repeat refine⟨by omega,?_⟩
     refine ak (z7 _ _ _) ?_
     simp only[↓zq,zs,ag,zt,aR]
     repeat refine⟨by omega,?_⟩
     exact⟨rfl,rfl⟩
    ·simp only[Vl.nodes]at hm
     have hW:=P2.of (.atom [114]) (E.list [.atom [112],y.dG,z.dG])
     have hQ:=P3.of (.atom [112]) y.dG z.dG
     simp only[Vl.dG,bH]at hvh
     simp only[DD,bH,Vl.dG,toNat_one,bw,↓zq,zs,ag,zt,hP.1,hP.2.1,hP.2.2.1,hP.2.2.2,hW.1,hW.2.1,hW.2.2,hQ.1,hQ.2.1,hQ.2.2.1,hQ.2.2.2,aR]
     refine⟨fun h=>absurd rfl h,fun _=>?_⟩
     repeat refine⟨by omega,?_⟩
     refine ak hH ?_
     simp only[↓zq,zs,ag,zt]
     refine ak hvh ?_
     simp only[vh,↓zq,zs,ag,zt,aW,aT]
     refine⟨by simp[cq],fun h=>by simp at h,fun _=>⟨fun h=>by simp at h,fun _=>⟨fun h=>by simp at h,fun _=>⟨fun _=>?_,fun h=>absurd rfl h⟩⟩⟩⟩
     repeat refine⟨by omega,?_⟩
     refine ak (Eg m z (by omega) b env t2 ⟨ok3,A.wf,hbb,f2⟩ hy s v) ?_
     simp only[↓zq,zs,ag,zt,aR]
     repeat refine⟨by omega,?_⟩
     refine ak (z7 _ _ _) ?_
     simp only[↓zq,zs,ag,zt,aR]
     repeat refine⟨by omega,?_⟩
     exact⟨rfl,rfl⟩
   ·obtain⟨t1',he1,h1,f1,hw1⟩:=jJ A.wf A.ok hx A.ty A.cl
    cases he1
    obtain⟨ok1,ok2,ok3,_⟩:=A.ok
    have A':Ask b (.mk a.at (.list [x,a,b]) env::env) t1:=⟨ok3,hw1,h1,f1⟩
    have hP:=P3.of x a b
    have hH:an Tryz.prog 104 [.agg [.v (.string (mk [])),(E.list [x,a,b]).sp]] [] (bB (.v (.string (mk [114,101,99])))):=by rw[<-hx];exact uM x [a,b]
    rcases Bi hc with⟨y,rfl,hy⟩|⟨y,z,rfl,hy,hz⟩
    ·simp only[Vl.nodes]at hm
     have hW:=P2.of (.atom [102]) (E.list [.atom [108],y.dG])
     have hQ:=P2.of (.atom [108]) y.dG
     have hvi:=Dp (.l y)
     rw[dA]at hvi
     simp only[Vl.dG,bH]at hvh hvi
     simp only[DD,bH,Vl.dG,toNat_one,bw,↓zq,zs,ag,zt,hP.1,hP.2.1,hP.2.2.1,hP.2.2.2,hW.1,hW.2.1,hW.2.2,hQ.1,hQ.2.1,hQ.2.2,aR]
     refine⟨fun h=>absurd rfl h,fun _=>?_⟩
     repeat refine⟨by omega,?_⟩
     refine ak hH ?_
     simp only[↓zq,zs,ag,zt]
     refine ak hvh ?_
     simp only[vh,↓zq,zs,ag,zt,aW,aT]
     refine⟨by simp[cq],fun h=>by simp at h,fun _=>⟨fun h=>by simp at h,fun _=>⟨fun h=>by simp at h,fun _=>⟨fun h=>by simp at h,fun _=>?_⟩⟩⟩⟩
     repeat refine⟨by omega,?_⟩
     refine ak hvi ?_
     simp only[vh,↓zq,zs,ag,zt]
     refine⟨fun _=>?_,fun h=>absurd rfl h⟩
     repeat refine⟨by omega,?_⟩
     refine ak (Eg m y (by omega) b _ t1 A' hy s v) ?_
     simp only[↓zq,zs,ag,zt,aR]
     repeat refine⟨by omega,?_⟩
     refine ak (Ey _ _) ?_
     simp only[↓zq,zs,ag,zt,aR]
     repeat refine⟨by omega,?_⟩
     exact⟨rfl,rfl⟩
    ·simp only[Vl.nodes]at hm
     have hW:=P2.of (.atom [102]) (E.list [.atom [114],E.list [.atom [112],y.dG,z.dG]])
     have hQ:=P2.of (.atom [114]) (E.list [.atom [112],y.dG,z.dG])
     have hR:=P3.of (.atom [112]) y.dG z.dG
     have hvi:=Dp (.r (.p y z))
     rw[dA]at hvi
     simp only[Vl.dG,bH]at hvh hvi
     simp only[DD,bH,Vl.dG,toNat_one,bw,↓zq,zs,ag,zt,hP.1,hP.2.1,hP.2.2.1,hP.2.2.2,hW.1,hW.2.1,hW.2.2,hQ.1,hQ.2.1,hQ.2.2,hR.1,hR.2.1,hR.2.2.1,hR.2.2.2,aR]
     refine⟨fun h=>absurd rfl h,fun _=>?_⟩
     repeat refine⟨by omega,?_⟩
     refine ak hH ?_
     simp only[↓zq,zs,ag,zt]
     refine ak hvh ?_
     simp only[vh,↓zq,zs,ag,zt,aW,aT]
     refine⟨by simp[cq],fun h=>by simp at h,fun _=>⟨fun h=>by simp at h,fun _=>⟨fun h=>by simp at h,fun _=>⟨fun h=>by simp at h,fun _=>?_⟩⟩⟩⟩
     repeat refine⟨by omega,?_⟩
     refine ak hvi ?_
     simp only[vh,↓zq,zs,ag,zt]
     refine⟨fun h=>by simp at h,fun _=>?_⟩
     repeat refine⟨by omega,?_⟩
     have i1:=Eg m z (by omega) (.list [x,a,b]) env (.rc t1) A hz s v
     unfold PL at i1
     simp only[bH]at i1
     refine ak i1 ?_
     simp only[↓zq,zs,ag,zt,aR]
     repeat refine⟨by omega,?_⟩
     refine ak (Eg m y (by omega) b _ t1 A' hy a.at (cP (.rc t1) z v)) ?_
     simp only[↓zq,zs,ag,zt,aR]
     repeat refine⟨by omega,?_⟩
     refine ak (Ey _ _) ?_
     simp only[↓zq,zs,ag,zt,aR]
     repeat refine⟨by omega,?_⟩
     exact⟨rfl,rfl⟩
  ·cases e with
   |atom s0=>exact atomCase _ rfl (sb _ _ _)
   |list l=>exact absurd hq (by rw[show (E.list l).at=[] from rfl,mQ A.wf];simp)
end Go.Proofs.Trees
namespace Go.Proofs.Trees
open Go Go.VL Go.RowKit
abbrev Rs:Ob:=.cells [.v (.string (mk [])),.v (.slice none 0 0),.v (.string (mk []))]
theorem ZT.le{s d:Nm}{a:Ty}{x A B:E}{D:Ty}(z:ZT s d a x A B D):oh s=some (.list [x,A,B]):=by
 unfold oh;rw[z.ce];simp[lH,z.hx]
theorem uj(o:Option Nm):qY o=.cy [.v (.string (mk (o.getD []))),.v (.bool o.isSome)]:=by cases o<;>rfl
theorem y0{a:Ty}{w v:Vl}(hw:Cx a w)(hv:Fo a v):(Vl.f (cP a w v)).df.length<=900000:=by
 have h1:=jo (Vl.f (cP a w v)) (by exact ri 100 a w v hw.gX hv.gX)
 have h2:=rL a w v
 have:=hw.nd
 have:=hv.nd
 simp only[Vl.nodes]at h1
 omega
abbrev zk(a:Ty)(w v:Vl):Option Nm:=if(Vl.f (cP a w v)).nodes<=200 then some (Vl.f (cP a w v)).df else none
theorem P0{s d:Nm}{a:Ty}{x A B:E}{D:Ty}(z:ZT s d a x A B D)(w v:Vl)(hw:nD d w.df 100=some w)(hv:Fo a v):an Tryz.prog 170 [.v (.string (mk s)),.v (.string (mk w.df)),.v (.string (mk v.df))] [] (bB (qY (zk a w v))):=by
 have hC:=z.ctx hw
 have hv2:nD s v.df 100=some v:=by rw[z.df hv.gX hv.ty,if_pos hv.nd]
 refine O8 _ _ _ ?_
 unfold Mp
 refine aO (Li s) (j0.ne _ _ (fun h=>h)) ?_
 rintro r o ⟨c,e,he,rfl,hh⟩
 rw[z.le]at hh
 obtain⟨e',he',hce⟩:=hh rfl
 cases he'
 rw[dA]at hce
 simp only[AV.agg.injEq,List.cons.injEq,AV.v.injEq,Value.string.injEq,and_true]at hce
 obtain⟨hc1,rfl⟩:=hce
 rw[z.le,hc1]
 simp only[↓zq,zs,ag,zt,aR,bH]
 repeat refine⟨by omega,?_⟩
 refine ak (Ki s) ?_
 rw[uj,z.dl]
 simp only[↓zq,zs,ag,zt,bu,cz]
 refine⟨fun h=>by simp at h,fun _=>⟨fun h=>by simp at h,fun _=>?_⟩⟩
 refine ak (BX d w.df 100) ?_
 rw[hw]
 simp only[↓zq,zs,ag,bu]
 refine⟨fun h=>by simp at h,fun _=>?_⟩
 refine ak (BX s v.df 100) ?_
 rw[hv2]
 simp only[↓zq,zs,ag,bu]
 refine⟨fun h=>by simp at h,fun _=>?_⟩
 have hP:=P3.of x A B
 have rd:∀q:Vl,q.gX 100->q.nodes<=200->∀{Q:AV->List Ob->Prop},(∀o,Q (.cy [.agg [.v (.string (mk q.dG.at)),q.dG.sp],.v (.bool true)]) o)->∀r o,j0 ((pY q.df).map Vl.dG) (pY q.df).isSome r o->Q r o:=by
  intro q hu hn Q hQ r o
  rw[qC hu hn]
  rintro⟨c,e,he,rfl,hh⟩
  obtain⟨e',he',hce⟩:=hh rfl
  cases he'
  rw[dA]at hce
  rw[hce]
  exact hQ o
 refine aO (E4 w.df) (j0.ne _ _ (fun h=>by simpa using h)) (rd w hC.gX hC.nd fun o=>?_)
 simp only[↓zq,zs,ag,zt,aR]
 repeat refine⟨by omega,?_⟩
 refine aO (E4 v.df) (j0.ne _ _ (fun h=>by simpa using h)) (rd v hv.gX hv.nd fun o=>?_)
 simp only[toNat_one,bw,↓zq,zs,ag,zt,hP.1,hP.2.1,hP.2.2.1,hP.2.2.2,aR,bh]
 repeat refine⟨by omega,?_⟩
 refine ak (Eg w.nodes w (aw _) B _ a z.body hC.ok A.at v) ?_
 simp only[↓zq,zs,ag,zt,aR]
 repeat refine⟨by omega,?_⟩
 refine ak (Ey _ _) ?_
 simp only[↓zq,zs,ag,zt,aR]
 repeat refine⟨by omega,?_⟩
 have htx:=JR (Vl.f (cP a w v)).dG (pj _) (y0 hC hv)
 rw[dA]at htx
 simp only[Vl.dG,bH]at htx
 refine ak htx ?_
 simp only[↓zq,zs,ag,zt]
 refine ak (BX s (Vl.f (cP a w v)).df 100) ?_
 rw[z.df (w:=Vl.f (cP a w v)) (by exact ri 100 a w v hC.gX hv.gX) (hC.ty v hv.ty)]
 unfold zk
 by_cases hn:(Vl.f (cP a w v)).nodes<=200
 ·rw[if_pos hn,if_pos hn]
  simp only[↓zq,zs,ag,bu]
  exact⟨fun h=>by simp at h,fun _=>⟨rfl,rfl⟩⟩
 ·rw[if_neg hn,if_neg hn]
  simp only[↓zq,zs,ag,bC]
  exact⟨fun _=>⟨rfl,rfl⟩,fun h=>by simp at h⟩
theorem nw{d:Nm}:∀{p:List Nm} {l:List Vl},eJ d p=some l->p=l.map (·.df)->∀c,c∈l->nD d c.df 100=some c
 |[],l,h,_,c,hc=>by cases h;cases hc
 |
  q::r,l,h,hp,c,hc=>by
  simp only[eJ]at h
  split at h
  ·rename_i w l' h1 h2
   cases h
   simp only[bz,List.cons.injEq]at hp
   rcases aH.1 hc with rfl|hc
   ·rw[<-hp.1];exact h1
   ·exact nw h2 hp.2 c hc
  ·cases h
structure St(s d:Nm)(a:Ty)(l:List Vl)(v:Vl):Prop where
 z:∃x A B D,ZT s d a x A B D
 i:ZI a l v
 each:∀c,c∈l->nD d c.df 100=some c
 len:l.length<=50
def zK(s:Nm)(pa:AV)(a:Ty)(l:List Vl)(v:Vl):AV:=match l.getLast? with
 |none=>.cy [.agg [.v (.string (mk s)),pa,.v (.string (mk v.df))],.v (.bool false)]
 |some c=>.cy [.agg [.v (.string (mk s)),.sl (bn (l.dropLast.map (·.df))),.v (.string (mk ((zk a c v).getD [])))],.v (.bool (zk a c v).isSome)]
theorem P8{s d:Nm}{a:Ty}{l:List Vl}{v:Vl}(h:St s d a l v)(pa:AV)(hp:cw pa (l.map (·.df))):an Tryz.prog 125 [.agg [.v (.string (mk s)),pa,.v (.string (mk v.df))]] [] (bB (zK s pa a l v)):=by
 refine ND _ _ _ hp.1 ?_
 unfold Im
 have hlen:=h.len
 simp only[↓zq,zs,ag,zt,hp.len,cg,j6]
 unfold zK
 refine⟨hp.1,fun h0=>?_,fun h0=>?_⟩
 ·have:l=[]:=bV (by omega)
  subst this
  exact⟨rfl,rfl⟩
 ·have hpos:0<l.length:=by omega
  have hne:l≠[]:=by rintro rfl;simp at hpos
  rw[wrap64 ((l.length:Int)-1) (by omega) (by omega)]
  have e1:((l.length:Int)-1).toNat=l.length-1:=by omega
  have hlt:l.length-1<(l.map (·.df)).length:=by rw[cg];omega
  have hlt':l.length-1<l.length:=by omega
  have hlast:l.getLast?=some (l[l.length-1]):=by rw[List.getLast?_eq_some_getLast hne,List.getLast_eq_getElem]
  rw[hlast]
  have hm:=bN hlt'
  have hg:(l.map (·.df)).getD (l.length-1) []=(l[l.length-1]).df:=by rw[aa,bg hlt,List.getElem_map];rfl
  obtain⟨x,A,B,D,z⟩:=h.z
  rw[e1,hp.idx hlt,hg]
  generalize l[l.length-1]=c at *
  simp only[↓zq,zs,ag,zt]
  refine⟨⟨hp.1,by omega⟩,by omega,?_⟩
  refine ak (P0 z c v (h.each c hm) h.i.qu) ?_
  rw[uj]
  simp only[↓zq,zs,ag,zt]
  refine⟨⟨hp.1,by omega⟩,⟨fun y hy=>?_,?_⟩,?_,rfl⟩
  ·rw[hp.2]at hy
   have:=List.mem_of_mem_take hy
   obtain⟨t,_,rfl⟩:=bJ.1 this
   rfl
  ·rw[hp.2];simp[bn];omega
  ·have:pa.elems.take (l.length-1)=bn (l.dropLast.map (·.df)):=by
    rw[hp.2,List.dropLast_eq_take,List.map_take];simp[bn,List.map_take]
   rw[this];rfl
theorem St.up{s d:Nm}{a:Ty}{l l':List Vl}{v w:Vl}(h:St s d a l v)(hu:uR a l v=some (l',w)):St s d a l' w:=by
 obtain⟨h1,h2,c,h3,_⟩:=rz h.i hu
 have hl:=h.len
 exact⟨h.z,h1,fun c' hc'=>h.each c' (by rw[h3];exact aC _ hc'),by omega⟩
theorem yQ{s:Nm}{pa:AV}{a:Ty}{l l':List Vl}{v w:Vl}(hu:uR a l v=some (l',w)):zK s pa a l v=.cy [.agg [.v (.string (mk s)),.sl (bn (l'.map (·.df))),.v (.string (mk w.df))],.v (.bool true)]:=by
 unfold uR at hu
 unfold zK
 cases q:l.getLast? with
 |none=>rw[q]at hu;cases hu
 |
  some c =>
  rw[q]at hu
  simp only at hu |-
  unfold zk
  split at hu
  ·rename_i hn
   cases hu
   rw[if_pos hn];rfl
  ·cases hu
theorem zC{s:Nm}{pa:AV}{a:Ty}{l:List Vl}{v:Vl}(hpa:LK.sl.has pa)(hu:uR a l v=none):∃p f,LK.sl.has p/\zK s pa a l v=.cy [.agg [.v (.string (mk s)),p,.v (.string (mk f))],.v (.bool false)]:=by
 unfold uR at hu
 unfold zK
 cases q:l.getLast? with
 |none=>exact⟨_,_,hpa,rfl⟩
 |
  some c =>
  rw[q]at hu
  simp only at hu |-
  unfold zk
  split at hu
  ·cases hu
  ·rename_i hn
   rw[if_neg hn];exact⟨_,_,(ck _).mpr trivial,rfl⟩
def FP(s:Nm)(o:Option Vl):Nat->List AV->List Ob->Prop:=fun k ys ob=>match o with
 |some w=>k=1/\ys=[]/\∃pa,LK.sl.has pa/\ob=[.cells [.v (.string (mk s)),pa,.v (.string (mk w.df))],Rs]
 |none=>k=2/\ys=[.v (.bool false)]/\∃pa f,LK.sl.has pa/\ob=[.cells [.v (.string (mk s)),pa,.v (.string (mk f))]]
theorem Jy(s d:Nm)(a:Ty):∀(n:Nat) (l:List Vl) (v:Vl) (pa:AV),l.length=n->St s d a l v->cw pa (l.map (·.df))->Ho [] [.cells [.v (.string (mk s)),pa,.v (.string (mk v.df))],Rs] (FP s (jY n a l v))
 |
  0,l,v,pa,hl,h,hp=>by
  refine Mg _ _ _ _ _ _ ?_
  simp only[Hy,↓zq,zs,ag,zt,ag,bj,hp.len,cg,hl,jY]
  refine⟨hp.1,hp.1,fun h=>by omega,fun _=>?_⟩
  exact⟨rfl,rfl,pa,hp.1,rfl⟩
 |
  n+1,l,v,pa,hl,h,hp=>by
  refine Mg _ _ _ _ _ _ ?_
  simp only[Hy,↓zq,zs,ag,zt,ag,bj,hp.len,cg,hl]
  refine⟨hp.1,hp.1,fun _=>?_,fun h=>by omega⟩
  refine ak (P8 h pa hp) ?_
  rw[jY]
  cases q:uR a l v with
  |
   none =>
   obtain⟨p',f',h1,h2⟩:=zC (s:=s) hp.1 q
   rw[h2]
   simp only[↓zq,zs,ag,zt,bF,bE]
   exact⟨h1,fun _=>⟨rfl,rfl,pa,v.df,hp.1,rfl⟩,fun h=>by simp at h⟩
  |
   some r =>
   obtain⟨l',w⟩:=r
   obtain⟨_,hlen,_⟩:=rz h.i q
   rw[yQ q]
   simp only[↓zq,zs,ag,zt,bF,ba,ck]
   refine⟨fun h=>by simp at h,fun _=>?_⟩
   exact Jy s d a n l' w _ (by omega) (h.up q) (cw.of _)
def CY(o:Option Vl):AV->List Ob->Prop:=fun r ob=>ob=[]/\∃c0 pa c2,LK.sl.has pa/\r=.cy [.agg [.v (.string c0),pa,.v (.string c2)],.v (.bool o.isSome)]/\∀w,o=some w->c2=mk w.df
theorem CY.ne(o:Option Vl):∃r ob,CY o r ob:=⟨_,[],rfl,mk [],.sl [],mk ((o.map (·.df)).getD []),(ck _).mpr trivial,rfl,fun w h=>by rw[h];rfl⟩
theorem Ow{s d:Nm}{a:Ty}{l:List Vl}{v:Vl}(h:St s d a l v)(pa:AV)(hp:cw pa (l.map (·.df))):an Tryz.prog 65 [.agg [.v (.string (mk s)),pa,.v (.string (mk v.df))]] [] (CY (su a l v)):=by
 refine QW _ _ _ hp.1 ?_
 unfold JP
 have hloop:=Jy s d a l.length l v pa rfl h hp
 refine mq hloop (fun ys o e=>?_) (fun ys o e=>?_)
 ·unfold FP at e
  unfold su
  cases q:jY l.length a l v with
  |none=>rw[q]at e;exact absurd e.1 (by decide)
  |
   some w =>
   rw[q]at e
   obtain⟨_,rfl,p',h1,rfl⟩:=e
   simp only[↓zq,zs,ag,zt,ag,bj]
   exact⟨h1,rfl,_,_,_,h1,rfl,fun w' h=>by cases h;rfl⟩
 ·unfold FP at e
  unfold su
  cases q:jY l.length a l v with
  |some w=>rw[q]at e;exact absurd e.1 (by decide)
  |
   none =>
   rw[q]at e
   obtain⟨_,rfl,p',f',h1,rfl⟩:=e
   simp only[↓zq,zs,ag,zt,ag]
   exact⟨h1,rfl,_,_,_,h1,rfl,fun w' h=>by cases h⟩
theorem H3(s d f:Nm)(pa:AV)(p:List Nm)(hp:cw pa p)(hl:p.length<=50):∀(k i:Nat),i+k=p.length->G9 [.v (.string (mk d)),.v (.int .i64 (i:Int))] [.cells [.v (.string (mk s)),pa,.v (.string (mk f))]] (pk (if(eJ d (p.drop i)).isSome=true then(1,[],[])else(2,[.v (.bool false)],[])))
 |
  0,i,hi=>by
  refine Jr _ _ _ _ _ ?_
  have:i=p.length:=by omega
  subst this
  simp only[Hd,↓zq,zs,ag,zt,ag,hp.len,List.drop_length]
  exact⟨hp.1,hp.1,fun h=>by omega,fun _=>rfl⟩
 |
  k+1,i,hi=>by
  have hlt:i<p.length:=by omega
  have hd:p.drop i=p.getD i []::p.drop (i+1):=by rw[aY hlt];simp[aa,hlt]
  refine Jr _ _ _ _ _ ?_
  simp only[Hd,↓zq,zs,ag,zt,ag,hp.len,hp.idx hlt,bR]
  refine⟨hp.1,hp.1,fun _=>⟨⟨hp.1,by omega,by omega⟩,by omega,?_⟩,fun h=>by omega⟩
  refine ak (BX d (p.getD i []) 100) ?_
  rw[hd,eJ]
  simp only[↓zq,zs,ag]
  cases q:nD d (p.getD i []) 100 with
  |
   none =>
   simp only[bC]
   exact⟨fun _=>rfl,fun h=>by simp at h⟩
  |
   some w =>
   simp only[bu]
   refine⟨fun h=>by simp at h,fun _=>?_⟩
   rw[bS i (by omega)]
   have ih:=H3 s d f pa p hp hl k (i+1) (by omega)
   cases q2:eJ d (p.drop (i+1))with
   |none=>rw[q2]at ih;exact ih
   |some l=>rw[q2]at ih;exact ih
theorem wL(s:Nm)(p:List Nm)(f:Nm):l8 s p f=(cE s).bind fun d=>(kl s).bind fun _=>(nD s f 100).bind fun v=>if p.length<=50 then(eJ d p).map fun l=>(l,v)else none:=by
 unfold l8 pg
 cases kl s with
 |none=>cases cE s<;>rfl
 |some a=>cases nD s f 100<;>cases cE s<;>rfl
theorem PB(s:Nm)(pa:AV)(p:List Nm)(hp:cw pa p)(f:Nm):an Tryz.prog 64 [.agg [.v (.string (mk s)),pa,.v (.string (mk f))]] [] (bB (.v (.bool (l8 s p f).isSome))):=by
 refine O1 _ _ _ hp.1 ?_
 unfold KD
 refine ak (Ki s) ?_
 rw[uj]
 simp only[↓zq,zs,ag,zt]
 refine aO (Li s) (j0.ne _ _ (fun h=>h)) ?_
 rintro r o ⟨c,e,he,rfl,_⟩
 rw[A4]
 simp only[↓zq,zs,ag,zt,bF,hp.len]
 rw[wL]
 refine⟨he,fun h=>?_,fun h=>⟨fun h'=>?_,fun h'=>⟨hp.1,fun h''=>?_,fun h''=>?_⟩⟩⟩
 ·have:cE s=none:=by cases q:cE s with|none=>rfl|some d=>simp[q]at h
  rw[this]
  exact⟨rfl,rfl⟩
 ·have:kl s=none:=by cases q:kl s with|none=>rfl|some d=>simp[q]at h'
  rw[this]
  cases cE s<;>exact⟨rfl,rfl⟩
 ·simp only[if_neg (show ¬p.length<=50 by omega)]
  exact⟨by cases cE s<;>cases kl s<;>cases nD s f 100<;>rfl,rfl⟩
 ·obtain⟨d,hd⟩:∃d,cE s=some d:=by cases q:cE s with|none=>simp[q]at h|some d=>exact⟨d,rfl⟩
  obtain⟨a,ha⟩:∃a,kl s=some a:=by cases q:kl s with|none=>simp[q]at h'|some d=>exact⟨d,rfl⟩
  rw[hd,ha]
  refine ak (BX s f 100) ?_
  simp only[↓zq,zs,ag]
  cases q:nD s f 100 with
  |none=>simp only[bC];exact⟨fun _=>⟨rfl,rfl⟩,fun h=>by simp at h⟩
  |
   some v =>
   simp only[bu,cz,ba]
   refine⟨fun h=>by simp at h,fun _=>?_⟩
   have hl:p.length<=50:=by omega
   have hloop:=H3 s d f pa p hp hl p.length 0 (by omega)
   rw[bG]at hloop
   rw[if_pos hl]
   refine fH hloop (fun ys o e=>?_) (fun ys o e=>?_)
   ·cases q2:eJ d p with
    |none=>rw[q2]at e;cases e
    |some l=>exact⟨rfl,rfl⟩
   ·cases q2:eJ d p with
    |none=>rw[q2]at e;cases e;simp only[↓zq,zs,ag];exact⟨rfl,rfl⟩
    |some l=>rw[q2]at e;cases e
theorem wP{s:Nm}{p:List Nm}{f:Nm}{l:List Vl}{v:Vl}(h:l8 s p f=some (l,v)):∃d,St s d (zA s) l v/\p=l.map (·.df)/\f=v.df:=by
 obtain⟨d,a,x,A,B,D,z,hz,hp,hf,hl,hza,_,hr⟩:=gS h
 rw[hza]
 exact⟨d,⟨⟨x,A,B,D,z⟩,hz,nw hr hp,by rw[hp]at hl;simpa using hl⟩,hp,hf⟩
theorem Ox(s:Nm)(pa:AV)(p:List Nm)(hp:cw pa p)(f:Nm):an Tryz.prog 34 [.agg [.v (.string (mk s)),pa,.v (.string (mk f))]] [] (bB (.v (.bool (jU s p f).isSome))):=by
 refine Qa _ _ _ hp.1 ?_
 unfold L7
 refine ak (PB s pa p hp f) ?_
 simp only[↓zq,zs,ag]
 unfold jU
 cases q:l8 s p f with
 |none=>simp only[bC];exact⟨fun _=>⟨rfl,rfl⟩,fun h=>by simp at h⟩
 |
  some r =>
  obtain⟨l,v⟩:=r
  obtain⟨d,hs,rfl,rfl⟩:=wP q
  simp only[bu,ba]
  refine⟨fun h=>by simp at h,fun _=>?_⟩
  refine aO (Ow hs pa hp) (CY.ne _) ?_
  rintro r o ⟨rfl,c0,p',c2,h1,rfl,_⟩
  simp only[↓zq,zs,ag,zt,bF]
  refine⟨h1,?_,rfl⟩
  congr 2
  cases su (zA s) l v<;>rfl
end Go.Proofs.Trees
namespace Go.Proofs.Trees
open Go Go.VL Go.RowKit
inductive Rl(x:Nm):Nat->Tg->Tg->Prop
 |nm (i):Rl x i (.nm x) (.bd i)
 |jK (i s) (h:s≠x):Rl x i (.nm s) (.nm s)
 |bd (i j) (h:j≠i):Rl x i (.bd j) (.bd j)
theorem Rl.up{x:Nm}{i:Nat}{a b:Tg}(h:Rl x i a b):Rl x (i+1) a.up b.up:=by
 cases h with
 |nm=>exact .nm _
 |jK s h=>exact .jK _ _ h
 |bd j h=>exact .bd _ _ (by omega)
theorem Rl.at{x:Nm}{i:Nat}{a b:Tg}(h:Rl x i a b):∀t:Ty,bb x t=false->eN (du (.name x) t i) a=eN t b
 |
  .bound k,_=>by
  simp only[du]
  cases h with
  |
   nm =>
   by_cases e:k=i
   ·simp[e,eN]
   ·simp[e,eN]
  |
   jK s h =>
   by_cases e:k=i
   ·simp[e,eN,Ne.symm h]
   ·simp[e,eN]
  |
   bd j h =>
   by_cases e:k=i
   ·simp[e,eN,Ne.symm h]
   ·simp[e,eN]
 |
  .name s,hn=>by
  have hs:s≠x:=by simpa[bb]using hn
  cases h with
  |nm=>simp[du,eN,hs]
  |jK=>rfl
  |bd=>rfl
 | .plus _ _,_=>by cases h<;>rfl
 | .times _ _,_=>by cases h<;>rfl
 | .rc _,_=>by cases h<;>rfl
 | .zero,_=>by cases h<;>rfl
 | .one,_=>by cases h<;>rfl
theorem gC(x:Nm):∀(n:Nat) (t:Ty) (i:Nat) (a b:Tg) (v:Vl),bb x t=false->Rl x i a b->dy n (du (.name x) t i) a v=dy n t b v
 |0,_,_,_,_,_,_,_=>rfl
 |
  n+1,t,i,a,b,v,hn,h=>by
  rw[dy,dy,h.at t hn]
  by_cases ht:eN t b=true
  ·rw[if_pos ht,if_pos ht]
  ·rw[if_neg ht,if_neg ht]
   cases t with
   |
    plus p q =>
    simp only[bb,cB]at hn
    cases v<;>simp only[du,iJ,gC x n p i a b _ hn.1 h,gC x n q i a b _ hn.2 h]
   |
    times p q =>
    simp only[bb,cB]at hn
    cases v<;>simp only[du,iJ,gC x n p i a b _ hn.1 h,gC x n q i a b _ hn.2 h]
   |
    rc p =>
    have h0:Rl x (i+1) (.bd 0) (.bd 0):=.bd _ _ (by omega)
    cases v<;>simp only[du,iJ]
    rename_i w
    rw[gC x n p (i+1) a.up b.up w hn h.up,gC x n p (i+1) (.bd 0) (.bd 0) w hn h0]
    congr 1
    apply jL
    intro k _
    have:=gC x n (.rc p) i a b k.2 hn h
    simp only[du]at this
    rw[this]
   |
    bound k =>
    simp only[du]
    by_cases e:k=i
    ·rw[if_pos e];cases v<;>rfl
    ·rw[if_neg e];cases v<;>rfl
   |name s=>rfl
   |zero=>rfl
   |one=>rfl
theorem nC(x:Nm){t:Ty}{i:Nat}{a b:Tg}(v:Vl)(hn:bb x t=false)(h:Rl x i a b):cL (du (.name x) t i) a v=cL t b v:=gC x _ t i a b v hn h
theorem lX(n:Nat):∀(m:Nat) (v:Vl),v.nodes<=m->∀(t:Ty) (s:Nm) (d:Ty) (σ:Nm->Option Ty),Dv t s d->Cb σ->jd t 0->vT n v (eK σ t)=true->∀h,h∈cL t (.nm s) v ->
 vT n h.1 (eK σ d)=true/\vT n h.2 (eK σ (.name s))=true/\cP t h.1 h.2=v
 |0,v,hm=>by have:=dB v;omega
 |
  m+1,v,hm=>by
  intro t s d σ hd hσ hl hv h hh
  cases hd with
  |zero=>rw[en rfl (by cases v<;>rfl)]at hh;cases hh
  |one=>rw[en rfl (by cases v<;>rfl)]at hh;cases hh
  |bound=>rw[en rfl (by cases v<;>rfl)]at hh;cases hh
  |qf hne=>rw[en (by simp[eN,hne]) (by cases v<;>rfl)]at hh;cases hh
  |
   hit =>
   rw[oc v (by simp[eN])]at hh
   simp only[aS]at hh
   subst hh
   exact⟨rfl,hv,ky _ _ _⟩
  |
   @plus a b _ a' b' h1 h2 _ =>
   rcases iS hv with⟨w,rfl,hw⟩|⟨w,rfl,hw⟩
   ·simp only[Vl.nodes]at hm
    rw[qE]at hh
    obtain⟨k,hk,rfl⟩:=cS hh
    obtain⟨q1,q2,q3⟩:=lX n m w (by omega) _ s _ σ h1 hσ hl.1 hw k hk
    exact⟨q1,q2,congrArg Vl.l q3⟩
   ·simp only[Vl.nodes]at hm
    rw[qK]at hh
    obtain⟨k,hk,rfl⟩:=cS hh
    obtain⟨q1,q2,q3⟩:=lX n m w (by omega) _ s _ σ h2 hσ hl.2 hw k hk
    exact⟨q1,q2,congrArg Vl.r q3⟩
  |
   @times a b _ a' b' h1 h2 _ =>
   obtain⟨x,y,rfl,hx,hy⟩:=fX hv
   simp only[Vl.nodes]at hm
   rw[qs]at hh
   rcases aK.1 hh with hh|hh
   ·obtain⟨k,hk,rfl⟩:=cS hh
    obtain⟨q1,q2,q3⟩:=lX n m x (by omega) _ s _ σ h1 hσ hl.1 hx k hk
    refine⟨?_,q2,congrArg (fun q=>Vl.p q y) q3⟩
    show (vT n k.1 (eK σ a')&&vT n y (eK σ b))=true
    rw[q1,hy];rfl
   ·obtain⟨k,hk,rfl⟩:=cS hh
    obtain⟨q1,q2,q3⟩:=lX n m y (by omega) _ s _ σ h2 hσ hl.2 hy k hk
    refine⟨?_,q2,congrArg (Vl.p x) q3⟩
    show (vT n x (eK σ a)&&vT n k.1 (eK σ b'))=true
    rw[q1,hx];rfl
  |
   @rc a _ c0 d0 x hx hs h1 h2 hsz =>
   have lo:jd (du (.name x) a 0) 0:=gm x a hl
   obtain⟨X,e1,e2⟩:=nM (x:=x) hσ hl (h1.lc lo) (h2.lc lo)
   obtain⟨w,rfl,hw⟩:=Ao hv
   simp only[Vl.nodes]at hm
   have hcl:=k8 hσ x (jP hσ (.rc a) hl)
   have hop:eK (iC σ x (eK σ (.rc a))) (du (.name x) a 0)=du (eK σ (.rc a)) (eK σ a) 0:=jq hσ x _ a 0 hx
   have hns:eK (iC σ x (eK σ (.rc a))) (.name s)=eK σ (.name s):=by simp only[eK,iC,if_neg (Ne.symm hs)]
   have hnx:eK (iC σ x (eK σ (.rc a))) (.name x)=eK σ (.rc a):=by simp[eK,iC]
   have hw':vT n w (eK (iC σ x (eK σ (.rc a))) (du (.name x) a 0))=true:=by rw[hop];exact hw
   have ty:∀y,vT n y (du (.rc X) X 0)=true->vT n (.f y) (eK σ (pK a x c0 d0))=true:=fun y hy=>by rw[e1];exact hy
   rw[qJ]at hh
   rcases aK.1 hh with hh|hh
   ·obtain⟨k,hk,rfl⟩:=cS hh
    have hk':k∈cL (du (.name x) a 0) (.nm s) w:=by rw[nC x w hx (.jK 0 s (Ne.symm hs))];exact hk
    obtain⟨q1,q2,q3⟩:=lX n m w (by omega) _ s _ _ h1 hcl lo hw' k hk'
    rw[dJ x k.1.nodes k.1 a 0 k.2 (aw _)]at q3
    refine⟨ty _ ?_,by rw[<-hns];exact q2,congrArg Vl.f q3⟩
    rw[e2];exact q1
   ·obtain⟨k,hk,hh⟩:=List.mem_flatMap.1 hh
    obtain⟨k2,hk2,rfl⟩:=cS hh
    have hk':k∈cL (du (.name x) a 0) (.nm x) w:=by rw[nC x w hx (.nm 0)];exact hk
    obtain⟨q1,q2,q3⟩:=lX n m w (by omega) _ x _ _ h2 hcl lo hw' k hk'
    rw[dJ x k.1.nodes k.1 a 0 k.2 (aw _)]at q3
    rw[hnx]at q2
    have hsz2:=(lW hk).1
    obtain⟨r1,r2,r3⟩:=lX n m k.2 (by omega) (.rc a) s _ σ (.rc x hx hs h1 h2 hsz) hσ hl q2 k2 hk2
    refine⟨ty _ ?_,r2,?_⟩
    ·rw[e2]
     show (vT n k.1 _&&vT n k2.1 _)=true
     rw[q1,r1];rfl
    ·show Vl.f (cP a k.1 (cP (.rc a) k2.1 k2.2))=.f w
     rw[r3,q3]
theorem DL{n:Nat}{a D:Ty}{x:Nm}(hx:bb x a=false)(hl:jd (.rc a) 0)(h:nH a x=some D){v:Vl}(hv:vT n v (.rc a)=true){k:Hl}(hk:k∈kids a v) :
 vT n k.1 D=true/\vT n k.2 (.rc a)=true/\.f (cP a k.1 k.2)=v:=by
 simp only[nH,bc,cI,eS]at h
 obtain⟨d,hd,_,rfl⟩:=h
 have lo:jd (du (.name x) a 0) 0:=gm x a hl
 have hcl:=k8 sf x hl
 have e1:sub x (.rc a) d=eK (iC Ch x (.rc a)) d:=by
  have:=hJ Ch x (.rc a) d
  rw[iI,iI]at this;exact this
 obtain⟨w,rfl,hw⟩:=Ao hv
 have hk':k∈cL (du (.name x) a 0) (.nm x) w:=by rw[nC x w hx (.nm 0)];exact hk
 have hop:eK (iC Ch x (.rc a)) (du (.name x) a 0)=du (.rc a) a 0:=by rw[jq sf x _ a 0 hx,iI]
 obtain⟨q1,q2,q3⟩:=lX n w.nodes w (aw _) _ x _ _ hd hcl lo (by rw[hop];exact hw) k hk'
 rw[dJ x k.1.nodes k.1 a 0 k.2 (aw _)]at q3
 refine⟨by rw[e1];exact q1,?_,congrArg Vl.f q3⟩
 simpa[eK,iC]using q2
theorem gI:∀{t:Ty},bW t=true->∃y,bb y t=true/\dD y=true
 | .name s,h=>⟨s,by simp[bb],h⟩
 |
  .plus a b,h=>by
  simp only[bW,bD]at h
  rcases h with h|h
  ·obtain⟨y,h1,h2⟩:=gI h;exact⟨y,by simp[bb,h1],h2⟩
  ·obtain⟨y,h1,h2⟩:=gI h;exact⟨y,by simp[bb,h1],h2⟩
 |
  .times a b,h=>by
  simp only[bW,bD]at h
  rcases h with h|h
  ·obtain⟨y,h1,h2⟩:=gI h;exact⟨y,by simp[bb,h1],h2⟩
  ·obtain⟨y,h1,h2⟩:=gI h;exact⟨y,by simp[bb,h1],h2⟩
 |
  .rc a,h=>by
  obtain⟨y,h1,h2⟩:=gI (t:=a) h;exact⟨y,by simp[bb,h1],h2⟩
theorem gy:∀{t:Ty} {y:Nm},bb y t=true->dD y=true->bW t=true
 |
  .name s,y,h,hl=>by
  have:s=y:=by simpa[bb]using h
  rw[this];exact hl
 |
  .plus a b,y,h,hl=>by
  simp only[bb,bD]at h
  simp only[bW,bD]
  exact h.imp (gy · hl) (gy · hl)
 |
  .times a b,y,h,hl=>by
  simp only[bb,bD]at h
  simp only[bW,bD]
  exact h.imp (gy · hl) (gy · hl)
 | .rc a,y,h,hl=>gy (t:=a) h hl
 | .zero,y,h,_=>by simp[bb]at h
 | .one,y,h,_=>by simp[bb]at h
 | .bound k,y,h,_=>by simp[bb]at h
theorem ZT.Ry{s d:Nm}{a:Ty}{x A B:E}{D:Ty}(z:ZT s d a x A B D):∃e,jn d=some e/\Ask e [] D:=by
 have hcl:bW D=false:=by
  cases q:bW D with
  |false=>rfl
  |
   true =>
   obtain⟨y,h1,h2⟩:=gI q
   have:=gy (t:=.rc a) (tC z.lp y h1) h2
   rw[z.ask.cl]at this;cases this
 have hc:wC d=some D:=by unfold wC;rw[z.bk];simp only;rw[if_pos (by rw[sR,hcl];rfl)]
 cases q:jn d with
 |none=>rw[mN q]at hc;cases hc
 |
  some e =>
  obtain⟨t,h1,hA,_⟩:=gp q
  rw[hc]at h1;cases h1
  exact⟨e,rfl,hA⟩
theorem ZT.Om{s d:Nm}{a:Ty}{x A B:E}{D:Ty}(z:ZT s d a x A B D){w:Vl}(hb:w.gX 100)(hv:vT 100 w D=true):nD d w.df 100=if w.nodes<=200 then some w else none:=by
 obtain⟨e,he,hA⟩:=z.Ry
 unfold nD
 rw[he]
 by_cases hn:w.nodes<=200
 ·rw[qC hb hn,if_pos hn]
  simp only
  rw[if_pos ⟨by omega,by rw[show (100:Int).toNat=100 from rfl,mG hA];exact hv⟩]
 ·rw[if_neg hn]
  cases q:pY w.df with
  |none=>rfl
  |
   some w' =>
   exfalso
   obtain⟨_,h2,h3⟩:=jy q
   have:=tE hb h2 (qQ q)
   rw[this]at hn;exact hn h3
theorem ZT.OY{s d:Nm}{a:Ty}{x A B:E}{D:Ty}(z:ZT s d a x A B D){v:Vl}(hv:Fo a v){k:Hl}(hk:k∈kids a v):vT 100 k.1 D=true/\Fo a k.2/\.f (cP a k.1 k.2)=v:=by
 obtain⟨e2,he2,hw2,hte2,_,_⟩:=nq z.y
 have hlc:jd (.rc a) 0:=hte2 ▸ hw2.ql.1
 obtain⟨q1,q2,q3⟩:=DL (tQ z.y) hlc z.lp hv.ty hk
 have:=CF hk
 have:=hv.nd
 exact⟨q1,⟨q2,(l9 hv.gX hk).2,by omega⟩,q3⟩
def Cc(a:Ty)(l:List Vl)(v:Vl)(k:Int):Option (List Vl×Vl) :=
 if l.length=50 then none else if 0<=k/\k.toNat<(kids a v).length then
  (if((kids a v).getD k.toNat (.u,.u)).1.nodes<=200 then some (l++[((kids a v).getD k.toNat (.u,.u)).1],((kids a v).getD k.toNat (.u,.u)).2)else none)else none
theorem vV{a:Ty}{l:List Vl}{c e v:Vl}(h:.f (cP a c e)=v)(hn:v.nodes<=200):uR a (l++[c]) e=some (l,v)/\su a (l++[c]) e=su a l v:=by
 have hu:uR a (l++[c]) e=some (l,v):=by
  unfold uR
  rw[List.getLast?_concat]
  simp only
  rw[h,if_pos hn,List.dropLast_concat]
 refine⟨hu,?_⟩
 unfold su
 rw[aq,List.length_singleton,jY,hu]
 rfl
theorem yR{s d:Nm}{l:List Vl}{v:Vl}(hs:St s d (zA s) l v)(hd:cE s=some d)(hv:jU s (l.map (·.df)) v.df=some (l,v)){k:Hl}(hk:k∈kids (zA s) v) :
 jU s (l.map (·.df)++[k.1.df]) k.2.df=if l.length=50 then none else if k.1.nodes<=200 then some (l++[k.1],k.2)else none:=by
 obtain⟨x,A,B,D,z⟩:=hs.z
 obtain⟨t1,t2,t3⟩:=z.OY hs.i.qu hk
 have hb:=(l9 hs.i.qu.gX hk).1
 have hz:=(iG hv).1
 have hclo:=(iG hv).2
 have hlen:=hs.len
 have hlp:eJ d (l.map (·.df))=some l:=by
  rw[wL,hd]at hz
  simp only[ba,z.l]at hz
  obtain⟨_,h1,h2⟩:=bc.1 hz
  split at h2
  ·obtain⟨l',h3,h4⟩:=Option.map_eq_some_iff.1 h2
   cases h4;exact h3
  ·cases h2
 have e1:nD s k.2.df 100=some k.2:=by rw[z.df t2.gX t2.ty,if_pos t2.nd]
 unfold jU
 rw[wL,hd]
 simp only[ba,z.l,e1,tt,hlp,eJ,z.Om hb t1,aq,cg,List.length_singleton]
 by_cases h50:l.length=50
 ·rw[if_neg (by omega),if_pos h50];rfl
 ·rw[if_pos (by omega),if_neg h50]
  by_cases hn:k.1.nodes<=200
  ·rw[if_pos hn,if_pos hn]
   simp only[cu,ba,(vV (l:=l) t3 hs.i.qu.nd).2]
   rw[if_pos hclo]
  ·rw[if_neg hn,if_neg hn];rfl
end Go.Proofs.Trees
namespace Go.Proofs.Trees
open Go Go.VL Go.RowKit
def Nx(s:Nm)(o:Option (List Vl×Vl)):AV->List Ob->Prop:=fun r obs=>obs=[]/\∃pa,cw pa (tZ s o).2.1/\r=.cy [.agg [.v (.string (mk (tZ s o).1)),pa,.v (.string (mk (tZ s o).2.2))],.v (.bool o.isSome)]
theorem Bn(s:Nm){o:Option (List Vl×Vl)}(h:GZ o):(tZ s o).2.1.length<=51:=by
 cases o with
 |none=>simp
 |some r=>obtain⟨_,_,h3⟩:=h r rfl;simpa using h3
theorem Nx.ne(s:Nm)(o:Option (List Vl×Vl)):∃r ob,Nx s o r ob:=⟨_,[],rfl,_,cw.of _,rfl⟩
theorem Nx.none(s:Nm):Nx s none (.cy [.agg [.v (.string (mk [])),.v (.slice none 0 0),.v (.string (mk []))],.v (.bool false)]) []:=⟨rfl,_,cw.nil,rfl⟩
theorem yu{s:Nm}{p:List Nm}{f:Nm}{l:List Vl}{v:Vl}(h:jU s p f=some (l,v)):∃d,St s d (zA s) l v/\p=l.map (·.df)/\f=v.df:=wP (iG h).1
abbrev OA(s:Nm)(o:Option (List Vl×Vl)):AV->List Ob->Prop:=cK (.cy [.agg [.v (.string (mk (tZ s o).1)),.vec 1,.v (.string (mk (tZ s o).2.2))],.v (.bool o.isSome)]) [.dead,.vec 1 (bn (tZ s o).2.1)]
theorem Rn(s:Nm)(p:List Nm)(f:Nm):an Tryz.prog 17 [.agg [.v (.string (mk s)),.vec 0,.v (.string (mk f))]] [.vec 1 (bn p)] (OA s (jU s p f)):=by
 refine QK _ _ _ ?_
 unfold Ku
 refine ak (Ox s _ p (cw.of p) f) ?_
 simp only[↓zq,zs,ag]
 cases q:jU s p f with
 |none=>simp only[bC];exact⟨fun _=>⟨rfl,rfl⟩,fun h=>by simp at h⟩
 |
  some r =>
  obtain⟨_,_,rfl,rfl⟩:=yu (l:=r.1) (v:=r.2) q
  simp only[bu]
  exact⟨fun h=>by simp at h,fun _=>⟨rfl,rfl⟩⟩
theorem rm(s f:Nm):jU s [] f=l8 s [] f:=by
 unfold jU
 cases q:l8 s [] f with
 |none=>rfl
 |
  some r =>
  obtain⟨l,v⟩:=r
  obtain⟨_,_,h,_⟩:=wP q
  have:l=[]:=List.map_eq_nil_iff.1 h.symm
  subst this
  rfl
theorem Pz(s f:Nm):an Tryz.prog 6 [.v (.string (mk s)),.v (.string (mk f))] [] (Cp s (l8 s [] f)):=by
 refine Qb _ _ ?_
 unfold LO
 rw[<-rm]
 refine aU (Rn s [] f) ?_
 simp only[↓zq,zs,ag,zt,aL,Ob.es,aP,bO]
 exact⟨rfl,rfl⟩
end Go.Proofs.Trees
namespace Go.Proofs.Trees
open Go Go.VL Go.RowKit
theorem vi{a:Ty}{l l':List Vl}{v w:Vl}{k:Int}(h:Cc a l v k=some (l',w)):∃q,q∈kids a v/\l'=l++[q.1]/\w=q.2/\q.1.nodes<=200/\l.length≠50/\0<=k/\(kids a v)[k.toNat]?=some q:=by
 unfold Cc at h
 split at h
 ·cases h
 ·rename_i h0
  split at h
  ·rename_i h1
   split at h
   ·rename_i h2
    cases h
    have e:(kids a v).getD k.toNat (.u,.u)=(kids a v)[k.toNat]'h1.2:=by simp[aa,h1.2]
    rw[e]at h2 |-
    exact⟨_,bN _,rfl,rfl,h2,h0,h1.1,by simp[h1.2]⟩
   ·cases h
  ·cases h
theorem St.dn{s d:Nm}{a:Ty}{l l':List Vl}{v w:Vl}{k:Int}(h:St s d a l v)(hu:Cc a l v k=some (l',w)):St s d a l' w/\uR a l' w=some (l,v)/\l'.length=l.length+1:=by
 obtain⟨q,hq,rfl,rfl,hn,h50,_,_⟩:=vi hu
 obtain⟨x,A,B,D,z⟩:=h.z
 obtain⟨t1,t2,t3⟩:=z.OY h.i.qu hq
 have hv:nD d q.1.df 100=some q.1:=by rw[z.Om (l9 h.i.qu.gX hq).1 t1,if_pos hn]
 have hlen:=h.len
 refine⟨⟨⟨x,A,B,D,z⟩,⟨fun c hc=>?_,t2⟩,fun c hc=>?_,by simp;omega⟩,(vV t3 h.i.qu.nd).1,by simp⟩
 ·rcases aK.1 hc with hc|hc
  ·exact h.i.ctx c hc
  ·simp only[aS]at hc;subst hc;exact z.ctx hv
 ·rcases aK.1 hc with hc|hc
  ·exact h.each c hc
  ·simp only[aS]at hc;subst hc;exact hv
theorem St.gz{s d:Nm}{a:Ty}{l:List Vl}{v:Vl}(h:St s d a l v):GZ (some (l,v)):=h.i.gz (by have:=h.len;omega)
theorem FV{s:Nm}{p:List Nm}{f:Nm}{r:List Vl×Vl}(h:l8 s p f=some r):∃d,cE s=some d/\St s d (zA s) r.1 r.2/\p=r.1.map (·.df)/\f=r.2.df:=by
 obtain⟨d,a,x,A,B,D,z,hz,hp,hf,hl,hza,_,hr⟩:=gS (l:=r.1) (v:=r.2) h
 rw[hza]
 exact⟨d,z.dl,⟨⟨x,A,B,D,z⟩,hz,nw hr hp,by rw[hp]at hl;simpa using hl⟩,hp,hf⟩
theorem M7{s d:Nm}{l:List Vl}{v:Vl}(hs:St s d (zA s) l v)(hd:cE s=some d)(hv:jU s (l.map (·.df)) v.df=some (l,v)){k:Int}(h0:0<=k)(hk:k.toNat<(kids (zA s) v).length) :
 jU s (l.map (·.df)++[((kids (zA s) v)[k.toNat]).1.df]) ((kids (zA s) v)[k.toNat]).2.df=Cc (zA s) l v k:=by
 rw[yR hs hd hv (bN hk)]
 unfold Cc
 by_cases h5:l.length=50
 ·rw[if_pos h5,if_pos h5]
 ·rw[if_neg h5,if_neg h5,if_pos (show 0<=k/\k.toNat<(kids (zA s) v).length from ⟨h0,hk⟩)]
  have hg2:(kids (zA s) v).getD k.toNat (.u,.u)=(kids (zA s) v)[k.toNat]:=by simp[aa,hk]
  rw[hg2]
end Go.Proofs.Trees
namespace Go.Proofs.Trees
open Go Go.VL Go.RowKit
theorem Bb(s:Nm)(p:List Nm)(f:Nm):-1<=oA s p f/\oA s p f<=1000:=by
 unfold oA
 cases q:jU s p f with
 |none=>simp
 |
  some r =>
  obtain⟨d,hs,_⟩:=yu (l:=r.1) (v:=r.2) q
  have h1:=yZ (zA s) r.2
  have h2:=rJ (kids (zA s) r.2)
  have h3:=hs.i.qu.nd
  simp only
  omega
def Rv(b:AV)(p c:Nat):AV->List Ob->Prop:=fun r o=>∃(q:Nat) (s:Nm) (pth:List Nm) (f:Nm),p<=q/\q<=p+c/\pth.length<=52/\r=.agg [.v (.string (mk s)),.vec 1,.v (.string (mk f))]/\o=[.cells [b,.v (.int .i64 (q:Int))],.vec 1 (bn pth)]
theorem Rv.ne(b:AV)(p c:Nat):∃r o,Rv b p c r o:=⟨_,_,p,[],[],[],aw _,by omega,by simp,rfl,rfl⟩
end Go.Proofs.Trees
namespace Go.Proofs.Trees
open Go Go.VL Go.RowKit
def Ru:AV->List Ob->Prop:=fun r o=>o=[]/\∃(s:Nm) (p:List Nm) (f:Nm),p.length<=52/\r=.agg [.v (.string (mk s)),.sl (bn p),.v (.string (mk f))]
theorem Ru.ne:∃r o,Ru r o:=⟨_,_,rfl,[],[],[],by simp,rfl⟩
end Go.Proofs.Trees
namespace Go.Proofs.Trees
open Go Go.VL Go.RowKit
def Rr(n:Nat):AV->List Ob->Prop:=fun r o=>∃x:Int,r=.v (.int .i64 x)/\(0<=x->n<=1048576)
theorem Rr.ne(n:Nat):∃r o,Rr n r o:=⟨_,[],-1,rfl,fun h=>by omega⟩
end Go.Proofs.Trees
namespace Go.Proofs.Trees
open Go Go.VL Go.RowKit
def pS(a:AV)(l:List Nat):Prop:=LK.sl.has a/\a.elems=rD l
theorem pS.of(l:List Nat):pS (.sl (rD l)) l:=⟨(ck _).mpr trivial,rfl⟩
theorem pS.nil:pS (.v (.slice none 0 0)) []:=⟨(bj).mpr trivial,rfl⟩
theorem pS.len{a:AV}{l:List Nat}(h:pS a l):a.elems.length=l.length:=by rw[h.2,wg]
theorem pS.idx{a:AV}{l:List Nat}(h:pS a l){i:Nat}(hi:i<l.length):a.elems.getD i []=[.v (.int .i64 (l.getD i 0:Nat))]:=by
 rw[h.2];simp[rD,aa,hi]
end Go.Proofs.Trees
namespace Go.Proofs.Trees
open Go Go.VL Go.RowKit
def wa(l:List Int):List (List AV):=l.map fun k=>[.v (.int .i64 k)]
def pU(a:AV)(l:List Int):Prop:=LK.sl.has a/\a.elems=wa l
theorem zm(l:List Int):(wa l).length=l.length:=by simp[wa]
theorem pU.of(l:List Int):pU (.sl (wa l)) l:=⟨(ck _).mpr trivial,rfl⟩
theorem pU.nil:pU (.v (.slice none 0 0)) []:=⟨(bj).mpr trivial,rfl⟩
theorem pU.len{a:AV}{l:List Int}(h:pU a l):a.elems.length=l.length:=by rw[h.2,zm]
theorem pU.idx{a:AV}{l:List Int}(h:pU a l){i:Nat}(hi:i<l.length):a.elems.getD i []=[.v (.int .i64 (l.getD i 0))]:=by
 rw[h.2];simp[wa,aa,hi]
end Go.Proofs.Trees
namespace Go.Proofs.Trees
open Go Go.VL Go.RowKit
abbrev ZO:=Option (List Vl×Vl)
def Dm(s:Nm)(o:ZO):Prop:=∀r,o=some r->∃d,St s d (zA s) r.1 r.2
def RX(a:Ty)(pl:List Int)(o:ZO):ZO:=pl.foldl (fun o k=>o.bind fun r=>Cc a r.1 r.2 k) o
theorem Dm.dn{s:Nm}{o:ZO}(h:Dm s o)(k:Int):Dm s (o.bind fun r=>Cc (zA s) r.1 r.2 k):=fun r hr=>by
 obtain⟨q,h1,h2⟩:=bc.1 hr
 obtain⟨d,hs⟩:=h q h1
 exact⟨d,(hs.dn (l':=r.1) (w:=r.2) h2).1⟩
theorem Dm.go{s:Nm}:∀{pl:List Int} {o:ZO},Dm s o->Dm s (RX (zA s) pl o)
 |[],o,h=>h
 |k::pl,o,h=>Dm.go (pl:=pl) (h.dn k)
theorem Dm.gz{s:Nm}{o:ZO}(h:Dm s o):GZ o:=fun r hr=>by
 obtain⟨d,hs⟩:=h r hr
 exact hs.gz r rfl
def QA(s:Nm)(o:ZO):Prop:=∀r,o=some r->jU s (r.1.map (·.df)) r.2.df=some r
theorem QA.dn{s:Nm}{o:ZO}(h:QA s o)(k:Int):QA s (o.bind fun r=>Cc (zA s) r.1 r.2 k):=fun r hr=>by
 obtain⟨q,h1,h2⟩:=bc.1 hr
 have hq:=h q h1
 obtain⟨d,hd,hs,_⟩:=FV (iG (l:=q.1) (v:=q.2) hq).1
 obtain⟨e,_,h3,h4,_,_,h0,h5⟩:=vi (l':=r.1) (w:=r.2) h2
 have hk:k.toNat<(kids (zA s) q.2).length:=by
  rcases Nat.lt_or_ge k.toNat (kids (zA s) q.2).length with h|h
  ·exact h
  ·rw[List.getElem?_eq_none h]at h5;cases h5
 have he:(kids (zA s) q.2)[k.toNat]=e:=by rw[bg hk]at h5;cases h5;rfl
 have:=M7 hs hd hq h0 hk
 rw[h2,he]at this
 obtain⟨l1,v1⟩:=r
 simp only at h3 h4 |-
 subst h3 h4
 rw[List.map_append]
 exact this
end Go.Proofs.Trees
namespace Go.Proofs.Trees
open Go Go.VL Go.RowKit
def HU(c:Nm):List Hl->Nat->Int
 |[],_=>-1
 |h::l,i=>if h.1.df=c then(i:Int)else HU c l (i+1)
end Go.Proofs.Trees
namespace Go.Proofs.Trees
open Go Go.VL Go.RowKit
def uP(l:List Hl):Prop:=(l.map (·.1)).Nodup
theorem qp:uP []:=List.nodup_nil
theorem Ea(h:Hl):uP [h]:=by simp[uP]
theorem mP{g:Vl->Vl}(hg:∀x y,g x=g y->x=y){l:List Hl}(h:uP l):uP (kp g l):=by
 unfold uP kp at *
 rw[List.map_map]
 have:((fun x:Hl=>x.1)∘fun h:Hl=>(g h.1,h.2))=g∘(fun x:Hl=>x.1):=rfl
 rw[this,<-List.map_map]
 exact List.Pairwise.map _ (fun a b hab e=>hab (hg _ _ e)) h
theorem tM{l r:List Hl}(hl:uP l)(hr:uP r)(h:∀x y,x∈l->y∈r->x.1≠y.1):uP (l++r):=by
 unfold uP at *
 rw[List.map_append,List.nodup_append]
 refine⟨hl,hr,?_⟩
 intro a ha b hb e
 obtain⟨x,hx,rfl⟩:=bJ.1 ha
 obtain⟨y,hy,rfl⟩:=bJ.1 hb
 exact h x y hx hy e
theorem vo{f:Hl->List Hl}:∀{l:List Hl},uP l->(∀h,h∈l->uP (f h))->(∀h k,h∈l->k∈l->h.1≠k.1->∀x y,x∈f h->y∈f k->x.1≠y.1)->uP (l.flatMap f)
 |[],_,_,_=>qp
 |
  h::l,hn,hf,hd=>by
  rw[List.flatMap_cons]
  unfold uP at hn
  rw[bz,List.nodup_cons]at hn
  refine tM (hf h ai) (vo (l:=l) hn.2 (fun k hk=>hf k (al _ hk)) fun a b ha hb=>hd a b (al _ ha) (al _ hb)) ?_
  intro x y hx hy
  obtain⟨k,hk,hy⟩:=List.mem_flatMap.1 hy
  refine hd h k ai (al _ hk) (fun e=>hn.1 ?_) x y hx hy
  rw[e];exact bJ.2 ⟨k,hk,rfl⟩
theorem jb:∀(n:Nat) (t:Ty) (tg:Tg) (v:Vl),uP (dy n t tg v)
 |0,t,tg,v=>qp
 |
  n+1,t,tg,v=>by
  unfold dy
  split
  ·exact Ea _
  ·unfold iJ
   split
   ·exact mP (fun x y e=>by cases e;rfl) (jb n _ _ _)
   ·exact mP (fun x y e=>by cases e;rfl) (jb n _ _ _)
   ·refine tM (mP (fun x y e=>by cases e;rfl) (jb n _ _ _)) (mP (fun x y e=>by cases e;rfl) (jb n _ _ _)) fun x y hx hy e=>?_
    obtain⟨k,_,rfl⟩:=cS hx
    obtain⟨k',_,rfl⟩:=cS hy
    cases e
   ·refine tM (mP (fun x y e=>by cases e;rfl) (jb n _ _ _)) (vo (jb n _ _ _) (fun h hh=>mP (fun x y e=>by cases e;rfl) (jb n _ _ _)) fun h k hh hk hne x y hx hy e=>?_) fun x y hx hy e=>?_
    ·obtain⟨a,_,rfl⟩:=cS hx
     obtain⟨b,_,rfl⟩:=cS hy
     injection e with e
     injection e with e
     injection e with e1 e2
     exact hne e1
    ·obtain⟨k,_,rfl⟩:=cS hx
     obtain⟨h,_,hy⟩:=List.mem_flatMap.1 hy
     obtain⟨b,_,rfl⟩:=cS hy
     cases e
   ·exact qp
end Go.Proofs.Trees
namespace Go.Proofs.Trees
open Go Go.VL Go.RowKit
theorem CO(a:Ty)(v:Vl):uP (kids a v):=by
 cases v<;>first|exact jb _ _ _ _|exact qp
theorem AS:∀(l:List Hl) (i k:Nat) (q:Hl),uP l->(∀h,h∈l->h.1.gX 100)->l[k]?=some q->HU q.1.df l i=((i+k:Nat):Int)
 |[],i,k,q,_,_,h=>by simp at h
 |
  h::l,i,0,q,hn,hb,hk=>by
  simp only[List.getElem?_cons_zero,Option.some.injEq]at hk
  subst hk
  simp[HU]
 |
  h::l,i,k+1,q,hn,hb,hk=>by
  rw[List.getElem?_cons_succ]at hk
  have hm:q∈l:=List.mem_of_getElem? hk
  unfold uP at hn
  rw[bz,List.nodup_cons]at hn
  have hne:¬h.1.df=q.1.df:=fun e=>hn.1 (by
   have:=tE (hb h ai) (hb q (al _ hm)) e
   rw[this];exact bJ.2 ⟨q,hm,rfl⟩)
  rw[HU,if_neg hne,AS l (i+1) k q hn.2 (fun x hx=>hb x (al _ hx)) hk]
  omega
end Go.Proofs.Trees
namespace Go.Proofs.Trees
open Go Go.VL Go.RowKit
def Br(x:Nm)(i:Nat)(tg tg':Tg):Prop:=(tg=.bd i/\tg'=.nm x)\/(∃s,s≠x/\tg=.nm s/\tg'=.nm s)\/∃j,j<i/\tg=.bd j/\tg'=.bd j
theorem Br.up{x:Nm}{i:Nat}{tg tg':Tg}(h:Br x i tg tg'):Br x (i+1) tg.up tg'.up:=by
 rcases h with⟨rfl,rfl⟩|⟨s,h,rfl,rfl⟩|⟨j,h,rfl,rfl⟩
 ·exact .inl ⟨rfl,rfl⟩
 ·exact .inr (.inl ⟨s,h,rfl,rfl⟩)
 ·exact .inr (.inr ⟨j+1,by omega,rfl,rfl⟩)
theorem BA{x:Nm}{i:Nat}{tg tg':Tg}(h:Br x i tg tg')(t:Ty)(hx:bb x t=false):eN (du (.name x) t i) tg'=eN t tg:=by
 cases t with
 |
  bound k =>
  simp only[du]
  rcases h with⟨rfl,rfl⟩|⟨s,h,rfl,rfl⟩|⟨j,h,rfl,rfl⟩
  ·split
   ·rename_i e;simp[eN,e]
   ·rename_i e;simp[eN,e]
  ·split
   ·simp[eN,Ne.symm h]
   ·simp[eN]
  ·split
   ·rename_i e;simp only[eN];exact(decide_eq_false (by omega)).symm
   ·simp[eN]
 |
  name n =>
  have hn:¬n=x:=by simpa[bb]using hx
  rcases h with⟨rfl,rfl⟩|⟨s,h,rfl,rfl⟩|⟨j,h,rfl,rfl⟩<;>simp[du,eN,hn]
 |_=>rcases h with⟨rfl,rfl⟩|⟨s,h,rfl,rfl⟩|⟨j,h,rfl,rfl⟩<;>rfl
theorem fy(x:Nm):∀(n:Nat) (t:Ty) (i:Nat) (tg tg':Tg) (v:Vl),bb x t=false->Br x i tg tg'->dy n (du (.name x) t i) tg' v=dy n t tg v
 |0,_,_,_,_,_,_,_=>rfl
 |
  n+1,t,i,tg,tg',v,hx,hr=>by
  rw[dy,dy,BA hr t hx]
  split
  ·rfl
  ·cases t with
   |
    plus a b =>
    simp only[bb,cB]at hx
    cases v with
    |l w=>exact congrArg (kp .l) (fy x n a i tg tg' w hx.1 hr)
    |r w=>exact congrArg (kp .r) (fy x n b i tg tg' w hx.2 hr)
    |_=>rfl
   |
    times a b =>
    simp only[bb,cB]at hx
    cases v with
    |
     p y z =>
     simp only[du,iJ]
     rw[fy x n a i tg tg' y hx.1 hr,fy x n b i tg tg' z hx.2 hr]
    |_=>rfl
   |
    rc a =>
    cases v with
    |
     f w =>
     simp only[du,iJ]
     rw[fy x n a (i+1) tg.up tg'.up w hx hr.up,fy x n a (i+1) (.bd 0) (.bd 0) w hx (.inr (.inr ⟨0,by omega,rfl,rfl⟩))]
     congr 1
     refine jL fun h hh=>?_
     have:=fy x n (.rc a) i tg tg' h.2 hx hr
     simp only[du]at this
     rw[this]
    |_=>rfl
   |
    bound k =>
    simp only[du]
    split<;>(cases v<;>rfl)
   |_=>rfl
theorem pE{g:Vl->Vl}{l:List Hl}{c v:Vl}(h:(c,v)∈l):(g c,v)∈kp g l:=bJ.2 ⟨_,h,rfl⟩
theorem qb(n:Nat):∀(m:Nat) (c:Vl),c.nodes<=m->∀(t:Ty) (s:Nm) (d:Ty) (σ:Nm->Option Ty),Dv t s d->Cb σ->jd t 0->vT n c (eK σ d)=true->∀(v:Vl) (k:Nat),(cP t c v).nodes<=k->(c,v)∈dy k t (.nm s) (cP t c v)
 |0,c,h=>by have:=dB c;omega
 |
  m+1,c,hm=>by
  intro t s d σ hd hσ hl hv v k hk
  have no:∀c,vT n c .zero=false:=fun c=>by cases c<;>rfl
  obtain⟨k,rfl⟩:∃j,k=j+1:=⟨k-1,by have:=dB (cP t c v);omega⟩
  cases hd with
  |zero=>rw[show eK σ .zero=.zero from rfl,no]at hv;cases hv
  |one=>rw[show eK σ .zero=.zero from rfl,no]at hv;cases hv
  |bound=>rw[show eK σ .zero=.zero from rfl,no]at hv;cases hv
  |qf=>rw[show eK σ .zero=.zero from rfl,no]at hv;cases hv
  |
   hit =>
   have hc:c=.u:=by
    have hv:vT n c .one=true:=hv
    cases c<;>first|rfl|simp[vT]at hv
   rw[ky,dy,if_pos (by simp[eN]),hc];exact ai
  |
   plus h1 h2 _ =>
   rcases iS hv with⟨w,rfl,hw⟩|⟨w,rfl,hw⟩
   ·simp only[Vl.nodes]at hm
    rename_i a b _ _
    simp only[cP,Vl.nodes]at hk
    have:=qb n m w (by omega) _ s _ σ h1 hσ hl.1 hw v k (by omega)
    exact pE (g:=.l) this
   ·simp only[Vl.nodes]at hm
    simp only[cP,Vl.nodes]at hk
    have:=qb n m w (by omega) _ s _ σ h2 hσ hl.2 hw v k (by omega)
    exact pE (g:=.r) this
  |
   times h1 h2 _ =>
   rcases iS hv with⟨w,rfl,hw⟩|⟨w,rfl,hw⟩
   ·obtain⟨x,y,rfl,hx,hy⟩:=fX hw
    simp only[Vl.nodes]at hm
    simp only[cP,Vl.nodes]at hk
    have:=qb n m x (by omega) _ s _ σ h1 hσ hl.1 hx v k (by omega)
    exact aC _ (pE (g:=fun c=>.l (.p c y)) this)
   ·obtain⟨x,y,rfl,hx,hy⟩:=fX hw
    simp only[Vl.nodes]at hm
    simp only[cP,Vl.nodes]at hk
    have:=qb n m y (by omega) _ s _ σ h2 hσ hl.2 hy v k (by omega)
    exact aB _ (pE (g:=fun c=>.r (.p x c)) this)
  |
   @rc a _ c0 d0 x hx hs h1 h2 hsz =>
   have lo:jd (du (.name x) a 0) 0:=gm x a hl
   obtain⟨X,e1,e2⟩:=nM (x:=x) hσ hl (h1.lc lo) (h2.lc lo)
   have hv':=hv
   rw[e1]at hv'
   obtain⟨w,rfl,hw⟩:=Ao hv'
   rw[e2]at hw
   have hcl:=k8 hσ x (jP hσ (.rc a) hl)
   rcases iS hw with⟨y,rfl,hy⟩|⟨y,rfl,hy⟩
   ·simp only[Vl.nodes]at hm
    simp only[cP,Vl.nodes]at hk
    have:=qb n m y (by omega) _ s _ _ h1 hcl lo hy v k (by rw[dJ x y.nodes y a 0 v (aw _)];omega)
    rw[dJ x y.nodes y a 0 v (aw _),fy x k a 0 (.nm s) (.nm s) _ hx (.inr (.inl ⟨s,Ne.symm hs,rfl,rfl⟩))]at this
    exact aC _ (pE (g:=fun c=>.f (.l c)) this)
   ·obtain⟨y,z,rfl,hy,hz⟩:=fX hy
    simp only[Vl.nodes]at hm
    simp only[cP,Vl.nodes]at hk
    have q1:=qb n m y (by omega) _ x _ _ h2 hcl lo hy (cP (.rc a) z v) k (by rw[dJ x y.nodes y a 0 _ (aw _)];omega)
    rw[dJ x y.nodes y a 0 _ (aw _),fy x k a 0 (.bd 0) (.nm x) _ hx (.inl ⟨rfl,rfl⟩)]at q1
    have hsz2:=(eX k a (.bd 0) _ _ q1).1
    have q2:=qb n m z (by omega) (.rc a) s _ σ (.rc x hx hs h1 h2 hsz) hσ hl hz v k (by simp only at hsz2;omega)
    exact aB _ (List.mem_flatMap.2 ⟨_,q1,pE (g:=fun c=>.f (.r (.p y c))) q2⟩)
theorem HG{n:Nat}{a D:Ty}{x:Nm}(hx:bb x a=false)(hl:jd (.rc a) 0)(h:nH a x=some D){c:Vl}(hc:vT n c D=true)(v:Vl):(c,v)∈kids a (.f (cP a c v)):=by
 simp only[nH,bc,cI,eS]at h
 obtain⟨d,hd,_,rfl⟩:=h
 have lo:jd (du (.name x) a 0) 0:=gm x a hl
 have hcl:=k8 sf x hl
 have e1:sub x (.rc a) d=eK (iC Ch x (.rc a)) d:=by
  have:=hJ Ch x (.rc a) d
  rw[iI,iI]at this;exact this
 rw[e1]at hc
 have h1:=qb n c.nodes c (aw _) _ x _ _ hd hcl lo hc v (cP a c v).nodes (by rw[dJ x c.nodes c a 0 v (aw _)];omega)
 rw[dJ x c.nodes c a 0 v (aw _),fy x _ a 0 (.bd 0) (.nm x) _ hx (.inl ⟨rfl,rfl⟩)]at h1
 exact h1
end Go.Proofs.Trees
namespace Go.Proofs.Trees
open Go Go.VL Go.RowKit
theorem ZT.hole{s d:Nm}{a:Ty}{x A B:E}{D:Ty}(z:ZT s d a x A B D){c:Nm}{w:Vl}(h:nD d c 100=some w)(v:Vl):(w,v)∈kids a (.f (cP a w v)):=by
 obtain⟨e,t,m,h1,h2,h3,h4,h5,h6,h7⟩:=n6 h
 have hm:m=100:=by omega
 subst hm
 have:=tG h3
 rw[z.bk]at this;cases this
 rw[mG h4]at h7
 obtain⟨e2,he2,hw2,hte2,_,_⟩:=nq z.y
 have hlc:jd (.rc a) 0:=hte2 ▸ hw2.ql.1
 exact HG (tQ z.y) hlc z.lp h7 v
end Go.Proofs.Trees
namespace Go.Proofs.Trees
open Go Go.VL Go.RowKit
theorem St.G7{s d:Nm}{a:Ty}{l l':List Vl}{v w c:Vl}(h:St s d a l v)(hu:uR a l v=some (l',w))(hc:l=l'++[c]):w=.f (cP a c v)/\∃k:Nat,(kids a w)[k]?=some (c,v)/\HU c.df (kids a w) 0=(k:Int):=by
 obtain⟨x,A,B,D,z⟩:=h.z
 have h':=h.up hu
 obtain⟨_,_,c',hc',hw⟩:=rz h.i hu
 have e:c=c':=by rw[hc]at hc';exact List.singleton_inj.1 (List.append_cancel_left hc')
 subst e
 have hm:(c,v)∈kids a w:=by rw[hw];exact z.hole (h.each c (by rw[hc];simp)) v
 obtain⟨k,hk⟩:=List.getElem?_of_mem hm
 refine⟨hw,k,hk,?_⟩
 have:=AS (kids a w) 0 k _ (CO a w) (fun x hx=>(l9 h'.i.qu.gX hx).1) hk
 simpa using this
theorem St.RR{s d:Nm}{a:Ty}{l:List Vl}{v w c:Vl}(h:St s d a l v){k:Hl}(hk:k∈kids a v)(hv:nD d k.1.df 100=some k.1):k.1.nodes<=200:=by
 obtain⟨x,A,B,D,z⟩:=h.z
 obtain⟨t1,_,_⟩:=z.OY h.i.qu hk
 rw[z.Om (l9 h.i.qu.gX hk).1 t1]at hv
 split at hv
 ·assumption
 ·cases hv
theorem St.back{s d:Nm}{a:Ty}{l l':List Vl}{v w c:Vl}(h:St s d a l v)(hu:uR a l v=some (l',w))(hc:l=l'++[c]):Cc a l' w (HU c.df (kids a w) 0)=some (l,v):=by
 obtain⟨_,k,hk,e⟩:=h.G7 hu hc
 have hlen:=h.len
 have hm:=List.mem_of_getElem? hk
 have hn:c.nodes<=200:=(h.up hu).RR (w:=v) (c:=v) hm (h.each c (by rw[hc];simp))
 have hlt:k<(kids a w).length:=(List.getElem?_eq_some_iff.1 hk).1
 have hg:(kids a w).getD k (.u,.u)=(c,v):=by rw[aa,hk];rfl
 rw[e];unfold Cc
 rw[if_neg (by rw[hc]at hlen;simp at hlen;omega),if_pos ⟨by omega,by simpa using hlt⟩,bR,hg,if_pos hn,hc]
end Go.Proofs.Trees
namespace Go.Proofs.Trees
open Go Go.VL Go.RowKit
theorem H5(a b:AV)(l:List (List UInt8))(ha:cw a l)(hb:cw b l)(hl:l.length<=2000000):∀(m i:Nat),i+m=l.length->Gg [a,b,.v (.int .i64 (i:Int))] [] (jX 1 [] [])
 |
  0,i,hi=>by
  refine M5 _ _ _ ?_
  simp only[F6,↓zq,zs,ag,ha.len]
  exact⟨ha.1,hb.1,ha.1,fun h=>by omega,fun _=>⟨rfl,rfl,rfl⟩⟩
 |
  m+1,i,hi=>by
  have hlt:i<l.length:=by omega
  refine M5 _ _ _ ?_
  simp only[F6,↓zq,zs,ag,zt,ha.len,hb.len,ha.idx hlt,hb.idx hlt,bR]
  refine⟨ha.1,hb.1,ha.1,fun _=>⟨⟨ha.1,by omega,by omega⟩,by omega,⟨hb.1,by omega,by omega⟩,by omega,fun h=>by simp at h,fun _=>?_⟩,fun h=>by omega⟩
  rw[bS i (by omega)]
  exact H5 a b l ha hb hl m (i+1) (by omega)
theorem NM(a b:AV)(l:List (List UInt8))(ha:cw a l)(hb:cw b l)(hl:l.length<=2000000):an Tryz.prog 18 [a,b] [] (bB (.v (.bool true))):=by
 refine OM _ _ ha.1 hb.1 ?_
 simp only[MS,↓zq,zs,ag,ha.len,hb.len]
 refine⟨ha.1,hb.1,fun h=>by simp at h,fun _=>?_⟩
 refine cX (H5 a b l ha hb hl l.length 0 (by omega)) ?_
 simp[bB,↓zq,zs,ag]
theorem Pr(s f:(List UInt8))(x y:AV)(l:List (List UInt8))(hx:cw x l)(hy:cw y l)(hl:l.length<=2000000):an Tryz.prog 7 [.agg [.v (.string (mk s)),x,.v (.string (mk f))],.agg [.v (.string (mk s)),y,.v (.string (mk f))]] [] (bB (.v (.bool true))):=by
 refine Ri _ _ _ _ _ _ hx.1 hy.1 ?_
 simp only[KM,↓zq,zs,ag,zt,bB]
 refine⟨fun _=>⟨fun _=>?_,fun h=>absurd rfl h⟩,fun h=>absurd rfl h⟩
 refine ak (NM x y l hx hy hl) ?_
 simp only[↓zq,zs,ag,zt]
end Go.Proofs.Trees
namespace Go.Proofs.Trees
open Go Go.VL Go.RowKit
theorem FD:∀(n k:Nat),k<n->k<1000000000->an Tryz.prog 10 [.v (.int .i64 (k:Int))] [] (bB (.v (.string (mk (dd k)))))
 |0,k,h,_=>by omega
 |
  n+1,k,h,hk=>by
  refine Oy _ ?_
  simp only[LS,↓zq,zs,ag,bB]
  refine⟨fun h1=>?_,fun h1=>⟨by omega,?_⟩⟩
  ·rw[qO k (by omega)]
   refine⟨iH _,?_⟩
   rw[ke,ez (by omega)];rfl
  ·have e1:IntKind.wrap .i64 (Int.tdiv (k:Int) 10)=((k/10:Nat):Int):=by
    rw[show Int.tdiv (k:Int) 10=((k/10:Nat):Int) from (Int.ofNat_tdiv k 10).symm,wrap64 _ (by omega) (by omega)]
   have e2:da (k:Int) 10=((k%10:Nat):Int):=(Int.ofNat_tmod k 10).symm
   rw[e1,e2,qO (k%10) (by omega)]
   refine ak (FD n (k/10) (by omega) (by omega)) ?_
   have hl:=iw (k+1) (k/10) (by omega)
   simp only[↓zq,zs,ag,zt,ke]
   have h9:(k:Int)<1000000000:=by omega
   refine⟨by omega,iH _,?_,?_⟩
   ·show (mk (dd (k/10))).size+(mk [a8 (48+k%10)]).size<=_
    rw[cq,cq];simp;omega
   ·show AV.v (.string (mk (dd (k/10))++mk [a8 (48+k%10)]))=_
    rw[jw,fe (k:=k) (by omega)]
theorem Jg(s:Nm):an Tryz.prog 12 [.v (.string (mk s))] [] (bB (.v (.int .i64 (match pY s with|some v=>(v.nodes:Int)|none=>-1)))):=by
 refine Od _ ?_
 unfold Ip
 refine ak (HW s) ?_
 simp only[↓zq,zs,ag,zt,fF]
 cases q:pY s with
 |none=>simp[ij,↓zq,zs,ag,bB]
 |
  some v =>
  have hn:=(jy q).2.2
  simp only[ij,↓zq,zs,ag,e9]
  refine⟨fun h=>(by cases h),fun _=>ak (Er v (by omega)) ?_⟩
  simp only[↓zq,zs,ag]
  exact⟨rfl,rfl⟩
theorem P7(a:AV)(ha:xK a):an Tryz.prog 4 [a] [] (fun r o=>o=[]/\Gv r):=by
 refine OV _ ha.1 ?_
 unfold IV
 refine aO (OR a ha) Nw.ne ?_
 rintro r o ⟨b,l,hb,rfl,rfl⟩
 simp only[↓zq,zs,ag,zt,hb.has]
 refine⟨by simp[bF,hb.has,kW],aO (N5 b l hb 0 (by omega)) (eW.ne ⟨[],[],rfl⟩) ?_⟩
 rintro r o ⟨q,_,_,⟨s,t,rfl⟩,rfl⟩
 simp only[↓zq,zs,ag,zt,aL,hb.has]
 first|exact⟨rfl,s,t,rfl⟩|exact⟨s,t,rfl⟩|exact⟨trivial,s,t,rfl⟩
end Go.Proofs.Trees
namespace Go.Proofs.Trees
open Go Go.VL Go.RowKit
abbrev zX(s:Nm)(p:List Nm)(f:Nm):List Ob:=[.cells [.v (.string (mk s)),.vec 1,.v (.string (mk f))],.vec 1 (bn p)]
abbrev Ih:Nm:=[111,107]
theorem PZ:an Tryz.prog 8 [] [] (bB (.v (.string (mk gN)))):=by
 refine N9 ?_
 simp only[MI,↓zq,zs,ag,bB,gN]
theorem QM(s:Nm)(p:List Nm)(f:Nm)(s':Nm)(p':List Nm)(f':Nm):an Tryz.prog 38 [.ref 0 0,.agg [.v (.string (mk s')),.vec 2,.v (.string (mk f'))],.v (.bool true)] (zX s p f++[.vec 1 (bn p')]) (cK (.v (.string (mk Ih))) (zX s' p' f'++[.dead])):=by
 refine NQ _ _ _ _ _ _ _ ?_
 simp only[Lr,↓zq,zs,ag,cK]
 refine⟨fun h=>absurd h (by simp),fun _=>?_⟩
 first|exact⟨rfl,rfl⟩|rfl|trivial
theorem Jm(s:Nm):an Tryz.prog 41 [.v (.string (mk s)),.v (.bool true)] [] (bB (.v (.string (mk s)))):=by
 refine Ou _ _ ?_
 simp only[J1,↓zq,zs,ag,bB]
 exact⟨fun h=>absurd h (by simp),fun _=>trivial⟩
theorem Qe(k:Nat)(hk:k<1000000000):an Tryz.prog 45 [.v (.int .i64 (k:Int))] [] (bB (.v (.string (mk (dd k))))):=by
 refine QE _ ?_
 simp only[J8,↓zq,zs,ag,bB]
 refine ak (BQ k hk) ?_
 have h0:decide ((k:Int)≥0)=true:=decide_eq_true (by omega)
 simp only[↓zq,zs,ag,h0]
 refine ak (Jm _) ?_
 simp only[↓zq,zs,ag,bB]
theorem kR{s f:Nm}{r:List Vl×Vl}(h:l8 s [] f=some r):tZ s (some r)=(s,[],f)/\uh s [] f=some f:=by
 obtain⟨l,v⟩:=r
 obtain⟨d,a,x,A,B,D,z,hz,hp,hf,_⟩:=gS h
 have hl:l=[]:=List.map_eq_nil_iff.1 hp.symm
 subst hl
 have hv:=h
 rw[<-rm]at hv
 refine⟨by simp[tZ,hf],?_⟩
 unfold uh;rw[hv];simp[su,jY,hf]
abbrev mb:Nm:=[118,97,108,117,101]
abbrev qo:Nm:=[97,108,108]
abbrev kq:Nm:=[107,105,100,115]
theorem OH(s:Nm)(p:List Nm)(f v:Nm){r:List Vl×Vl}(h:l8 s [] v=some r):an Tryz.prog 37 [.ref 0 0,.v (.string (mk mb)),.v (.string (mk v))] (zX s p f) (cK (.v (.string (mk Ih))) (zX s [] v)):=by
 refine Oo _ _ _ _ _ ?_
 obtain⟨e1,_⟩:=kR h
 have WO:an Tryz.prog 5 [.v (.string (mk s)),.v (.string (mk v))] [] (cK (.cy [.agg [.v (.string (mk s)),.vec 0,.v (.string (mk v))],.v (.bool true)]) [.vec 1 (bn [])]):=by
  have:=CU s v
  rw[h]at this
  unfold Cp at this
  rw[e1]at this
  exact this
 simp only[HZ,↓zq,zs,ag,zt]
 refine⟨fun h=>absurd h (by decide),fun _=>⟨fun _=>?_,fun h=>absurd rfl h⟩⟩
 refine aU WO ?_
 simp only[↓zq,zs,ag,zt,aL,Ob.es,aP]
 refine⟨ej _,?_⟩
 refine aU (QM s p f s [] v) ?_
 simp only[↓zq,zs,ag,zt,aL,Ob.es,aP,aW,aT,cK]
 all_goals first|exact⟨rfl,rfl⟩|trivial
theorem Pt(s:Nm)(p:List Nm)(f v:Nm)(hv:v.length<100000){r:List Vl×Vl}(h:l8 s [] v=some r):an Tryz.prog 20 [.ref 0 0,.v (.string (mk (mb++32::v)))] (zX s p f) (cK (.v (.string (mk Ih))) (zX s [] v)):=by
 refine Gz _ _ _ _ ?_
 have WC:=Fi (mb++32::v) (by simp;omega)
 rw[Dz mb v (by decide)]at WC
 simp only[DJ,↓zq,zs,ag,zt]
 refine ak WC ?_
 simp only[↓zq,zs,ag,zt]
 refine⟨fun _=>?_,fun h=>absurd h (by simp)⟩
 refine aU (OH s p f v h) ?_
 simp only[↓zq,zs,ag,zt,aL,Ob.es,aP,cK]
 all_goals first|exact⟨rfl,rfl⟩|trivial
theorem Q7(s:Nm)(v:Nm){r:List Vl×Vl}(h:l8 s [] v=some r):an Tryz.prog 20 [.ref 0 0,.v (.string (mk qo))] (zX s [] v) (cK (.v (.string (mk v))) (zX s [] v)):=by
 refine Gz _ _ _ _ ?_
 obtain⟨_,e2⟩:=kR h
 have WC:=Fi qo (by decide)
 rw[u3 qo (by decide)]at WC
 have WZ:=PC s (.sl (bn [])) [] (cw.of []) v
 rw[e2]at WZ
 simp only[DJ,↓zq,zs,ag,zt]
 refine ak WC ?_
 simp only[↓zq,zs,ag,zt]
 refine⟨fun h=>absurd h (by simp),fun _=>⟨fun h=>absurd h (by decide),fun _=>⟨fun h=>absurd h (by decide),fun _=>⟨fun h=>absurd h (by decide),fun _=>⟨fun h=>absurd h (by decide),fun _=>⟨fun _=>?_,fun h=>absurd rfl h⟩⟩⟩⟩⟩⟩
 refine ak WZ ?_
 simp only[↓zq,zs,ag,zt,qY]
 refine ak (Jm v) ?_
 simp only[↓zq,zs,ag,zt,cK]
 all_goals first|exact⟨rfl,rfl⟩|trivial
theorem Ok(s:Nm)(v:Nm){k:Nat}(hk:oA s [] v=(k:Int))(hk2:k<1000000000):an Tryz.prog 20 [.ref 0 0,.v (.string (mk kq))] (zX s [] v) (cK (.v (.string (mk (dd k)))) (zX s [] v)):=by
 refine Gz _ _ _ _ ?_
 have WC:=Fi kq (by decide)
 rw[u3 kq (by decide)]at WC
 have WZ:=JN s (.sl (bn [])) [] (cw.of []) v
 rw[hk]at WZ
 simp only[DJ,↓zq,zs,ag,zt]
 refine ak WC ?_
 simp only[↓zq,zs,ag,zt]
 refine⟨fun h=>absurd h (by simp),fun _=>⟨fun h=>absurd h (by decide),fun _=>⟨fun h=>absurd h (by decide),fun _=>⟨fun h=>absurd h (by decide),fun _=>⟨fun h=>absurd h (by decide),fun _=>⟨fun h=>absurd h (by decide),fun _=>⟨fun h=>absurd h (by decide),fun _=>⟨fun h=>absurd h (by decide),fun _=>⟨fun _=>?_,fun h=>absurd rfl h⟩⟩⟩⟩⟩⟩⟩⟩⟩
 refine ak WZ ?_
 simp only[↓zq,zs,ag,zt]
 refine ak (Qe k hk2) ?_
 simp only[↓zq,zs,ag,zt,cK]
 all_goals first|exact⟨rfl,rfl⟩|trivial
end Go.Proofs.Trees
namespace Go.Proofs.Trees
open Go Go.VL Go.RowKit
abbrev Np(ls:List Nm)(i:Nat)(out:Nm):List AV:=[.v (.string (mk out)),.sl (bn ls),.v (.int .i64 (ls.length:Int)),.v (.int .i64 (i:Int))]
abbrev Ns(s:Nm)(p:List Nm)(f:Nm):List Ob:=[.cells [.v (.string (mk s)),.any,.v (.string (mk f))],.vec 1 (bn p)]
theorem Fc(ls:List Nm)(hls:ls.length<1000)(i:Nat)(hi:i<ls.length)(out s:Nm)(p:List Nm)(f said s':Nm)(p':List Nm)(f':Nm)(hsz:out.length+said.length<1000000)
 (hrun:an Tryz.prog 20 [.ref 0 0,.v (.string (mk ls[i]))] (zX s p f) (cK (.v (.string (mk said))) (zX s' p' f')))
 {R:Nat->List AV->List Ob->Prop} (next:BY (Np ls (i+1) (out++(said++[10]))) (Ns s' p' f') R):BY (Np ls i out) (Ns s p f) R:=by
 refine Kt _ _ _ _ _ _ _ ?_
 have hg:(bn ls).getD i []=[.v (.string (mk ls[i]))]:=by simp[bn,aa,hi]
 have hl:(bn ls).length=ls.length:=by simp[bn]
 simp only[GU,↓zq,zs,ag,zt,ag,hl,hg]
 refine⟨fun _=>⟨by omega,by omega,?_⟩,fun h=>by omega⟩
 refine aU hrun ?_
 simp only[↓zq,zs,ag,zt,aL,Ob.es,aP]
 rw[bS i (by omega)]
 have h1:said.length+[(10:UInt8)].length<=9223372036854775807:=by simp;omega
 have h2:out.length+(said++[(10:UInt8)]).length<=9223372036854775807:=by simp;omega
 exact⟨h1,h2,next⟩
theorem Oj(ls:List Nm)(out s:Nm)(p:List Nm)(f:Nm):BY (Np ls ls.length out) (Ns s p f) (jX 1 [.v (.string (mk out))] (Ns s p f)):=by
 refine Kt _ _ _ _ _ _ _ ?_
 simp only[GU,↓zq,zs,ag,zt,ag]
 exact⟨fun h=>by omega,fun _=>⟨rfl,rfl,rfl⟩⟩
abbrev EM:Nm:=[110,111,100,101,115,32]
theorem QB(v:Nm){r:List Vl×Vl}(h:l8 gN [] v=some r)(hv:v.length<=890){k:Nat}(hk:oA gN [] v=(k:Int))(hk2:k<=1000)(hnl:10∉v){m:Nat}(hm:pY v=some r.2/\r.2.nodes=m)(hm2:m<=100000) :
 (mb++32::v++[10,97,108,108,10,107,105,100,115,10]).length<=900->an Tryz.prog 9 [.v (.string (mk (mb++32::v++[10,97,108,108,10,107,105,100,115,10])))] [] (bB (.v (.string (mk (Ih++[10]++(v++[10])++(dd k++[10])++EM++dd m++[10]))))):=by
 intro hlen
 refine Pj _ ?_
 have h1:=CT h
 obtain⟨e1,_⟩:=kR h1
 have W1:an Tryz.prog 5 [.v (.string (mk gN)),.v (.string (mk xi))] [] (cK (.cy [.agg [.v (.string (mk gN)),.vec 0,.v (.string (mk xi))],.v (.bool true)]) [.vec 1 (bn [])]):=by
  have:=CU gN xi
  rw[h1]at this
  unfold Cp at this
  rw[e1]at this
  exact this
 have hd:=iw (k+1) k (by omega)
 have hd2:=iw (m+1) m (by omega)
 have esp:uI (mb++32::v++[10,97,108,108,10,107,105,100,115,10])=[mb++32::v,qo,kq,[]]:=by
  have a1:=pD (mb++32::v) (qo++10::(kq++10::[])) (by
   simp only[aK,aH,not_or]
   exact⟨by decide,by decide,hnl⟩)
  have a2:=pD qo (kq++10::[]) (by decide)
  have a3:=pD kq [] (by decide)
  rw[a2,a3,AL]at a1
  exact a1
 have WS:=PF (mb++32::v++[10,97,108,108,10,107,105,100,115,10]) (by omega)
 rw[esp]at WS
 simp only[MF,↓zq,zs,ag,zt,bB]
 refine⟨fun h=>absurd hlen (by omega),fun _=>?_⟩
 refine aU W1 ?_
 simp only[↓zq,zs,ag,zt,aL,Ob.es,aP]
 refine⟨ej _,ak WS ?_⟩
 have hw3:IntKind.wrap .i64 (((bn [mb++32::v,qo,kq,[]]).length:Int)-1)=3:=by
  show IntKind.wrap .i64 ((4:Int)-1)=3
  decide
 simp only[↓zq,zs,ag,zt,hw3]
 have ht:((bn [mb++32::v,qo,kq,[]]).take (bq 3))=bn [mb++32::v,qo,kq]:=rfl
 rw[ht]
 refine⟨by simp[bn],?_⟩
 have hl3:((bn [mb++32::v,qo,kq]).length:Int)=(([mb++32::v,qo,kq]:List Nm).length:Int):=rfl
 rw[hl3]
 refine cX (xs:=Np [mb++32::v,qo,kq] 0 []) (Fc _ (by simp) 0 (by simp) [] gN [] xi Ih gN [] v (by decide) (Pt gN [] xi v (by omega) h)
  (Fc _ (by simp) 1 (by simp) _ gN [] v v gN [] v (by simp;omega) (Q7 gN v h)
  (Fc _ (by simp) 2 (by simp) _ gN [] v (dd k) gN [] v (by simp;omega) (Ok gN v hk (by omega)) (Oj _ _ _ _ _)))) ?_
 simp only[↓zq,zs,ag,zt,ag,Ob.es,aP]
 refine⟨by simp;omega,?_⟩
 have WV:=Jg v
 rw[hm.1]at WV
 simp only[hm.2]at WV
 refine ak WV ?_
 simp only[↓zq,zs,ag,zt]
 refine ak (BQ m (by omega)) ?_
 simp only[↓zq,zs,ag,zt]
 refine⟨by simp;omega,by simp;omega,?_⟩
 simp[mk,bB]
end Go.Proofs.Trees
namespace Go.Proofs.Trees
open Go Go.VL Go.RowKit
end Go.Proofs.Trees
