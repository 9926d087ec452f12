/-
  Part of a proof: Go functions read by values, trees of functions, their contracts.
-/
import Derived.Test.YtfdpbglppfohhaaGreatDoorP5
set_option linter.unusedVariables false
set_option linter.unusedSimpArgs false
open And renaming intro→aI
open Bool renaming and_eq_true→az,eq_iff_iff→cw,or_eq_false_iff→cj,or_eq_true→bC,true_and→bY
open ByteArray renaming toList→ae
open Int renaming tmod→dH,toNat_natCast→bN
open List renaming all_cons→da,all_eq_true→bZ,append_assoc→bb,append_nil→cY,cons_append→bf,drop_eq_getElem_cons→aU,drop_zero→be,eq_nil_of_length_eq_zero→bG,getD_cons_zero→bq,getD_eq_getElem?_getD→aa,getElem?_eq_getElem→bp,getElem_mem→bD,headD_cons→aQ,length_append→aq,length_cons→aA,length_map→cr,length_nil→aH,map_cons→bE,mem_append→aO,mem_append_left→aD,mem_append_right→aB,mem_cons→aJ,mem_cons_of_mem→al,mem_cons_self→ak,mem_map→bO,mem_singleton→aS,nil_append→aW,tail_cons→bz
open Nat renaming le_add_right→db,le_refl→au,mul_add→cU,mul_le_mul_right→ba,mul_one→dI,zero_add→a6,zero_le→dQ
open Option renaming bind_eq_some_iff→bi,bind_none→bH,bind_some→a7,getD_some→cz,isSome_iff_exists→bL,isSome_none→bu,isSome_some→aZ,map_some→ci
open UInt8 renaming ofNat→bj
namespace Go.Proofs.Trees
open Go Go.VL Go.RowKit
theorem CL:∀(v:Vl),v.cE.length<=900000->an Tryz.prog 66 [v.cA] [] (bK (.v (.string (mk v.cE))))
 | .u,h=>by refine Aj _ ((aN _).mpr trivial) ?_;simp[wX,Vl.cA,↓zq,zs,ac,bK,Vl.cE,Vl.cL,fg]
 | .el k,h=>by refine Aj _ ((aN _).mpr trivial) ?_;simp[wX,Vl.cA,↓zq,zs,ac,bK,Vl.cE,Vl.cL,fg]
 |
  .l v,h=>by
  simp only[Vl.cE,Vl.cL,fg,ej,aA,aq,aH]at h
  refine Aj _ ((aN _).mpr trivial) ?_
  have hb:(⟨(bytesOf [[.v (.int .u8 108)]]).toArray⟩:ByteArray)=mk [108]:=rfl
  have ha:jE [[.v (.int .u8 108)]]:=lm 108
  simp only[wX,Vl.cA,↓zq,zs,ac,aN,fw,hb]
  refine⟨by omega,fun h=>by omega,fun _=>⟨fun h=>by omega,fun _=>⟨fun h=>by omega,fun _=>⟨by omega,ha,by simp[cN],by rw[lA,cN,cN];simp,by omega,?_⟩⟩⟩⟩
  refine aj (CL v (by simp only[Vl.cE];omega)) ?_
  simp only[↓zq,zs,ac,zt,bK,Vl.cE,Vl.cL,fg,ej]
  refine⟨by simp;omega,by simp;omega,by simp⟩
 |
  .r v,h=>by
  simp only[Vl.cE,Vl.cL,fg,ej,aA,aq,aH]at h
  refine Aj _ ((aN _).mpr trivial) ?_
  have hb:(⟨(bytesOf [[.v (.int .u8 114)]]).toArray⟩:ByteArray)=mk [114]:=rfl
  have ha:jE [[.v (.int .u8 114)]]:=lm 114
  simp only[wX,Vl.cA,↓zq,zs,ac,aN,fw,hb]
  refine⟨by omega,fun h=>by omega,fun _=>⟨fun h=>by omega,fun _=>⟨fun h=>by omega,fun _=>⟨by omega,ha,by simp[cN],by rw[lA,cN,cN];simp,by omega,?_⟩⟩⟩⟩
  refine aj (CL v (by simp only[Vl.cE];omega)) ?_
  simp only[↓zq,zs,ac,zt,bK,Vl.cE,Vl.cL,fg,ej]
  refine⟨by simp;omega,by simp;omega,by simp⟩
 |
  .f v,h=>by
  simp only[Vl.cE,Vl.cL,fg,ej,aA,aq,aH]at h
  refine Aj _ ((aN _).mpr trivial) ?_
  have hb:(⟨(bytesOf [[.v (.int .u8 102)]]).toArray⟩:ByteArray)=mk [102]:=rfl
  have ha:jE [[.v (.int .u8 102)]]:=lm 102
  simp only[wX,Vl.cA,↓zq,zs,ac,aN,fw,hb]
  refine⟨by omega,fun h=>by omega,fun _=>⟨fun h=>by omega,fun _=>⟨fun h=>by omega,fun _=>⟨by omega,ha,by simp[cN],by rw[lA,cN,cN];simp,by omega,?_⟩⟩⟩⟩
  refine aj (CL v (by simp only[Vl.cE];omega)) ?_
  simp only[↓zq,zs,ac,zt,bK,Vl.cE,Vl.cL,fg,ej]
  refine⟨by simp;omega,by simp;omega,by simp⟩
 |
  .p a b,h=>by
  simp only[Vl.cE,Vl.cL,fg,ej,aA,aq,aH]at h
  refine Aj _ ((aN _).mpr trivial) ?_
  simp only[wX,Vl.cA,↓zq,zs,ac,aN,fw]
  refine⟨by omega,fun h=>by omega,fun _=>⟨fun h=>by omega,fun _=>⟨fun _=>⟨by omega,?_⟩,fun h=>absurd rfl h⟩⟩⟩
  refine aj (CL a (by simp only[Vl.cE];omega)) ?_
  simp only[↓zq,zs,ac,zt,aN,Vl.cE]
  refine⟨by simp;omega,by simp;omega,by omega,?_⟩
  refine aj (CL b (by simp only[Vl.cE];omega)) ?_
  simp only[↓zq,zs,ac,zt,bK,Vl.cE,Vl.cL,fg,ej]
  refine⟨by simp;omega,by simp;omega,by simp⟩
def rA:Option (List UInt8)->AV
 |some s=>.cD [.v (.string (mk s)),.v (.bool true)]
 |none=>.cD [.v (.string (mk [])),.v (.bool false)]
end Go.Proofs.Trees
namespace Go.Proofs.Trees
open Go Go.VL Go.RowKit
def back(n:Nat):Ty->Nat->Vl
 | .name _,c=>.el c
 | .plus a b,c=>match IN n a with|some x=>if c<x then .l (back n a c)else .r (back n b (c-x))|none=>.u
 | .times a b,c=>match IN n b with|some y=>.p (back n a (c/y)) (back n b (c%y))|none=>.u
 |_,_=>.u
theorem yi:∀l:List E,cy 2 (E.bw l)
 |[]=>fun c hc=>by cases hc
 |
  e::l=>fun c hc=>by
  simp only[E.bw,aJ]at hc
  rcases hc with rfl|hc
  ·exact gp e
  ·exact yi l c hc
theorem Kz(w:List UInt8)(l:List E)(hl:l.length<1000000):an Tryz.prog 98 [.v (.string (mk w)),.sl (E.bw l)] [] (bK (E.kI (.list (.atom w::l)))):=by
 refine Ol _ _ ((cg _).mpr trivial) ?_
 simp only[GO,↓zq,zs,ac,eg,bK,E.kI,E.iw,E.bw]
 exact⟨⟨yi l,by omega⟩,rfl⟩
end Go.Proofs.Trees
namespace Go.Proofs.Trees
open Go Go.VL Go.RowKit
def mg(l:List Hl):List (List AV):=l.map fun h=>[.v (.string (mk h.1.cL.at)),h.1.cL.sp,.v (.string (mk h.2.cL.at)),h.2.cL.sp]
theorem fC(l:List Hl):(mg l).length=l.length:=by simp[mg]
theorem gL{l:List Hl}{i:Nat}(hi:i<l.length):(mg l).getD i []=[.v (.string (mk (l[i]).1.cL.at)),(l[i]).1.cL.sp,.v (.string (mk (l[i]).2.cL.at)),(l[i]).2.cL.sp]:=by simp[mg,aa,hi]
theorem ph(out:List Hl)(a b:Vl):mg out++[[.v (.string (mk a.cL.at)),a.cL.sp,.v (.string (mk b.cL.at)),b.cL.sp]]=mg (out++[(a,b)]):=by simp[mg]
theorem Ad(a b c d:AV):cy 4 [[a,b,c,d]]:=fun x hx=>by simp at hx;rw[hx];rfl
theorem aM(s:ByteArray)(e:E):bF [.str,.sl] [.v (.string s),e.sp] 0=True:=by simp[bF,dY,aY]
theorem lz(s:ByteArray)(e:E)(x y:AV):bF [.str,.sl] [.v (.string s),e.sp,x,y] 0=True:=by simp[bF,dY,aY]
theorem wR(w:List UInt8)(e:E):an Tryz.prog 98 [.v (.string (mk w)),.sl [[.v (.string (mk e.at)),e.sp]]] [] (bK (.agg [.v (.string (mk [])),(E.list [.atom w,e]).sp])):=by
 have:=Kz w [e] (by simp)
 simpa only[E.bw,fN,dj,E.at]using this
theorem xm(w:List UInt8)(e e':E):an Tryz.prog 98 [.v (.string (mk w)),.sl [[.v (.string (mk e.at)),e.sp],[.v (.string (mk e'.at)),e'.sp]]] [] (bK (.agg [.v (.string (mk [])),(E.list [.atom w,e,e']).sp])):=by
 have:=Kz w [e,e'] (by simp)
 simpa only[E.bw,fN,dj,E.at]using this
def P3(pv:AV)(a b:E):Prop:=LK.sl.has pv/\pv.aP.length=3/\pv.aP.getD 1 []=[.v (.string (mk a.at)),a.sp]/\pv.aP.getD 2 []=[.v (.string (mk b.at)),b.sp]
theorem P3.of(x a b:E):P3 (E.list [x,a,b]).sp a b:=⟨by simp[E.sp,cg],by simp[E.sp,E.bw,fm],by simp[E.sp,E.bw,fm,fN],by simp[E.sp,E.bw,fm,fN]⟩
def P2(pv:AV)(a:E):Prop:=LK.sl.has pv/\pv.aP.length=2/\pv.aP.getD 1 []=[.v (.string (mk a.at)),a.sp]
theorem P2.of(x a:E):P2 (E.list [x,a]).sp a:=⟨by simp[E.sp,cg],by simp[E.sp,E.bw,fm],by simp[E.sp,E.bw,fm,fN]⟩
theorem Js(w:List UInt8)(g:Vl->Vl)(hg:∀c,(g c).cL=.list [.atom w,c.cL])(l:List Hl)(hl:l.length<=1000000):∀(k i:Nat) (out:List Hl),i+k=l.length->out.length+k<=1000000 ->
 E9 [.sl (mg l),.v (.string (mk w)),.v (.int .i64 (i:Int))] [.vec 4 (mg out)] (gV 1 [] [.vec 4 (mg (out++iM g (l.drop i)))])
 |
  0,i,out,hi,ho=>by
  refine Jy _ _ _ _ ?_
  have:i=l.length:=by omega
  subst this
  simp only[H5,↓zq,zs,ac,fC]
  exact⟨fun h=>by omega,fun _=>by simp[gV,iM]⟩
 |
  k+1,i,out,hi,ho=>by
  have hlt:i<l.length:=by omega
  refine Jy _ _ _ _ ?_
  simp only[H5,↓zq,zs,ac,zt,fC,gL hlt,lz,aM]
  refine⟨fun _=>?_,fun h=>by omega⟩
  repeat refine⟨by omega,?_⟩
  refine aj (wR _ _) ?_
  simp only[↓zq,zs,ac,aM]
  repeat refine⟨by omega,?_⟩
  refine⟨⟨Ad _ _ _ _,by omega⟩,?_⟩
  rw[bA i (by omega)]
  have:=Js w g hg l hl k (i+1) (out++[(g (l[i]).1,(l[i]).2)]) (by omega) (by simp;omega)
  rw[bb,<-ph,hg]at this
  rw[gB g l hlt]
  exact this
theorem K5(w:List UInt8)(g:Vl->Vl)(hg:∀c,(g c).cL=.list [.atom w,c.cL])(l out:List Hl)(hl:out.length+l.length<=1000000) :
 an Tryz.prog 126 [.sl (mg l),.v (.string (mk w)),.vec 0] [.vec 4 (mg out)] (dh (.vec 1) [.dead,.vec 4 (mg (out++iM g l))]):=by
 refine Q7 _ _ _ ((cg _).mpr trivial) ?_
 simp only[KG,↓zq,zs,ac]
 have h:=Js w g hg l (by omega) l.length 0 out (by omega) (by omega)
 rw[be]at h
 refine cx h ?_
 simp[↓zq,zs,ac,dh]
theorem N3(s:List UInt8)(ta:ByteArray)(tp:AV)(ht:LK.sl.has tp)(va:ByteArray)(vp:AV)(x y:Vl)(hp:P3 vp x.cL y.cL)(l:List Hl)(hl:l.length<=1000000):∀(k i:Nat) (out:List Hl),i+k=l.length->out.length+k<=1000000 ->
 FI [.v (.string (mk s)),.sl (mg l),.v (.int .i64 (i:Int))] [.cells [.v (.string ta),tp],.cells [.v (.string va),vp],.vec 4 (mg out)] (gV 1 [.v (.string (mk s))] [.cells [.v (.string ta),tp],.cells [.v (.string va),vp],.vec 4 (mg (out++iM (fun c=>Vl.l (.p c y)) (l.drop i)))])
 |
  0,i,out,hi,ho=>by
  refine Ky _ _ _ _ _ _ _ _ ?_
  have:i=l.length:=by omega
  subst this
  simp only[HV,↓zq,zs,ac,fC,ht,aY,ac,hp.1]
  exact⟨fun h=>by omega,fun _=>by simp[gV,iM]⟩
 |
  k+1,i,out,hi,ho=>by
  have hlt:i<l.length:=by omega
  refine Ky _ _ _ _ _ _ _ _ ?_
  simp only[HV,↓zq,zs,ac,zt,fC,gL hlt,lz,aM,gL,ht,aY,ac,hp.1,toNat_one,bh,hp.1,hp.2.1,hp.2.2.1,hp.2.2.2]
  refine⟨fun _=>?_,fun h=>by omega⟩
  repeat refine⟨by omega,?_⟩
  refine aj (xm _ _ _) ?_
  simp only[↓zq,zs,ac,aM]
  repeat refine⟨by omega,?_⟩
  refine aj (wR [108] (E.list [.atom [112],(l[i]).1.cL,y.cL])) ?_
  simp only[↓zq,zs,ac,aM]
  repeat refine⟨by omega,?_⟩
  refine⟨⟨Ad _ _ _ _,by omega⟩,?_⟩
  rw[bA i (by omega)]
  have:=N3 s ta tp ht va vp x y hp l hl k (i+1) (out++[((fun c=>Vl.l (.p c y)) (l[i]).1,(l[i]).2)]) (by omega) (by simp;omega)
  rw[bb,<-ph]at this
  rw[gB (fun c=>Vl.l (.p c y)) l hlt]
  exact this
theorem OS(va:ByteArray)(vp:AV)(x y:Vl)(hp:P3 vp x.cL y.cL)(l:List Hl)(hl:l.length<=1000000):∀(k i:Nat) (out:List Hl),i+k=l.length->out.length+k<=1000000 ->
 Hz [.sl (mg l),.v (.int .i64 (i:Int))] [.cells [.v (.string va),vp],.vec 4 (mg out)] (gV 1 [] [.vec 4 (mg (out++iM (fun c=>Vl.r (.p x c)) (l.drop i)))])
 |
  0,i,out,hi,ho=>by
  refine M7 _ _ _ _ _ ?_
  have:i=l.length:=by omega
  subst this
  simp only[IF,↓zq,zs,ac,fC,aY,ac,hp.1]
  exact⟨fun h=>by omega,fun _=>by simp[gV,iM]⟩
 |
  k+1,i,out,hi,ho=>by
  have hlt:i<l.length:=by omega
  refine M7 _ _ _ _ _ ?_
  simp only[IF,↓zq,zs,ac,zt,fC,gL hlt,lz,aM,gL,aY,ac,hp.1,toNat_one,bh,hp.1,hp.2.1,hp.2.2.1,hp.2.2.2]
  refine⟨fun _=>?_,fun h=>by omega⟩
  repeat refine⟨by omega,?_⟩
  refine aj (xm _ _ _) ?_
  simp only[↓zq,zs,ac,aM]
  repeat refine⟨by omega,?_⟩
  refine aj (wR [114] (E.list [.atom [112],x.cL,(l[i]).1.cL])) ?_
  simp only[↓zq,zs,ac,aM]
  repeat refine⟨by omega,?_⟩
  refine⟨⟨Ad _ _ _ _,by omega⟩,?_⟩
  rw[bA i (by omega)]
  have:=OS va vp x y hp l hl k (i+1) (out++[((fun c=>Vl.r (.p x c)) (l[i]).1,(l[i]).2)]) (by omega) (by simp;omega)
  rw[bb,<-ph]at this
  rw[gB (fun c=>Vl.r (.p x c)) l hlt]
  exact this
theorem N8(s s2:List UInt8)(ta:ByteArray)(tp:AV)(ht:LK.sl.has tp)(va:ByteArray)(vp:AV)(hp:LK.sl.has vp)(l:List Hl)(hl:l.length<=1000000):∀(k i:Nat) (out:List Hl),i+k=l.length->out.length+k<=1000000 ->
 Iy [.v (.string (mk s)),.v (.string (mk s2)),.sl (mg l),.v (.int .i64 (i:Int))] [.cells [.v (.string ta),tp],.cells [.v (.string va),vp],.vec 4 (mg out)] (gV 1 [.v (.string (mk s)),.v (.string (mk s2))] [.cells [.v (.string ta),tp],.cells [.v (.string va),vp],.vec 4 (mg (out++iM (fun c=>Vl.f (.l c)) (l.drop i)))])
 |
  0,i,out,hi,ho=>by
  refine KM _ _ _ _ _ _ _ _ _ ?_
  have:i=l.length:=by omega
  subst this
  simp only[Hv,↓zq,zs,ac,fC,ht,aY,ac,hp]
  exact⟨fun h=>by omega,fun _=>by simp[gV,iM]⟩
 |
  k+1,i,out,hi,ho=>by
  have hlt:i<l.length:=by omega
  refine KM _ _ _ _ _ _ _ _ _ ?_
  simp only[Hv,↓zq,zs,ac,zt,fC,gL hlt,lz,aM,gL,ht,aY,ac,hp]
  refine⟨fun _=>?_,fun h=>by omega⟩
  repeat refine⟨by omega,?_⟩
  refine aj (wR _ _) ?_
  simp only[↓zq,zs,ac,aM]
  repeat refine⟨by omega,?_⟩
  refine aj (wR [102] (E.list [.atom [108],(l[i]).1.cL])) ?_
  simp only[↓zq,zs,ac,aM]
  repeat refine⟨by omega,?_⟩
  refine⟨⟨Ad _ _ _ _,by omega⟩,?_⟩
  rw[bA i (by omega)]
  have:=N8 s s2 ta tp ht va vp hp l hl k (i+1) (out++[((fun c=>Vl.f (.l c)) (l[i]).1,(l[i]).2)]) (by omega) (by simp;omega)
  rw[bb,<-ph]at this
  rw[gB (fun c=>Vl.f (.l c)) l hlt]
  exact this
theorem OG(s:List UInt8)(L:AV)(q:Nat)(kc:Vl)(kv:Vl)(hL:LK.sl.has L)(hq:q<L.aP.length)(hg:L.aP.getD q []=[.v (.string (mk kc.cL.at)),kc.cL.sp,.v (.string (mk kv.cL.at)),kv.cL.sp])(ta:ByteArray)(tp:AV)(ht:LK.sl.has tp)(l:List Hl)(hl:l.length<=1000000):∀(k i:Nat) (out:List Hl),i+k=l.length->out.length+k<=1000000 ->
 H9 [.v (.string (mk s)),L,.v (.int .i64 (q:Int)),.sl (mg l),.v (.int .i64 (i:Int))] [.cells [.v (.string ta),tp],.vec 4 (mg out)] (gV 1 [.v (.string (mk s)),L,.v (.int .i64 (q:Int))] [.cells [.v (.string ta),tp],.vec 4 (mg (out++iM (fun c=>Vl.f (.r (.p kc c))) (l.drop i)))])
 |
  0,i,out,hi,ho=>by
  refine J1 _ _ _ _ _ _ _ _ ?_
  have:i=l.length:=by omega
  subst this
  simp only[F9,↓zq,zs,ac,fC,ht,aY,ac,hL]
  exact⟨fun h=>by omega,fun _=>by simp[gV,iM]⟩
 |
  k+1,i,out,hi,ho=>by
  have hlt:i<l.length:=by omega
  refine J1 _ _ _ _ _ _ _ _ ?_
  simp only[F9,↓zq,zs,ac,zt,fC,gL hlt,lz,aM,gL,ht,aY,ac,hL,hg]
  refine⟨fun _=>?_,fun h=>by omega⟩
  repeat refine⟨by omega,?_⟩
  refine aj (xm _ _ _) ?_
  simp only[↓zq,zs,ac,aM]
  repeat refine⟨by omega,?_⟩
  refine aj (wR [114] (E.list [.atom [112],kc.cL,(l[i]).1.cL])) ?_
  simp only[↓zq,zs,ac,aM]
  repeat refine⟨by omega,?_⟩
  refine aj (wR [102] (E.list [.atom [114],E.list [.atom [112],kc.cL,(l[i]).1.cL]])) ?_
  simp only[↓zq,zs,ac,aM]
  repeat refine⟨by omega,?_⟩
  refine⟨⟨Ad _ _ _ _,by omega⟩,?_⟩
  rw[bA i (by omega)]
  have:=OG s L q kc kv hL hq hg ta tp ht l hl k (i+1) (out++[((fun c=>Vl.f (.r (.p kc c))) (l[i]).1,(l[i]).2)]) (by omega) (by simp;omega)
  rw[bb,<-ph]at this
  rw[gB (fun c=>Vl.f (.r (.p kc c))) l hlt]
  exact this
theorem Nh(s:List UInt8)(te:E)(a:Ty)(tg:Tg)(l:List Hl)(hl:l.length<=1000000)(ih:∀h,h∈l->an Tryz.prog 92 [.agg [.v (.string (mk te.at)),te.sp],.v (.string (mk s)),.agg [.v (.string (mk h.2.cL.at)),h.2.cL.sp]] [] (bK (.sl (mg (cm (.rc a) tg h.2))))) :
 ∀(k i:Nat) (out:List Hl),i+k=l.length->(out++(l.drop i).flatMap (Az a tg)).length<=1000000 ->
 Hn [.v (.string (mk s)),.sl (mg l),.v (.int .i64 (i:Int))] [.cells [.v (.string (mk te.at)),te.sp],.vec 4 (mg out)] (gV 1 [] [.vec 4 (mg (out++(l.drop i).flatMap (Az a tg)))])
 |
  0,i,out,hi,ho=>by
  refine Ma _ _ _ _ _ _ ?_
  have:i=l.length:=by omega
  subst this
  simp only[F7,↓zq,zs,ac,fC,aY,ac]
  exact⟨fun h=>by omega,fun _=>by simp[gV]⟩
 |
  k+1,i,out,hi,ho=>by
  have hlt:i<l.length:=by omega
  have hd:(l.drop i).flatMap (Az a tg)=Az a tg (l[i])++(l.drop (i+1)).flatMap (Az a tg):=by rw[aU hlt,List.flatMap_cons]
  rw[hd]at ho |-
  refine Ma _ _ _ _ _ _ ?_
  simp only[F7,↓zq,zs,ac,zt,fC,gL hlt,lz,aM,aY,ac]
  refine⟨fun _=>?_,fun h=>by omega⟩
  repeat refine⟨by omega,?_⟩
  refine aj (ih _ (Cy l hlt)) ?_
  simp only[↓zq,zs,ac]
  have hb:out.length+(cm (.rc a) tg (l[i]).2).length<=1000000:=by
   simp only[aq,fX]at ho;omega
  have h5:=OG s (.sl (mg l)) i (l[i]).1 (l[i]).2 ((cg _).mpr trivial) (by rw[fm,fC];omega) (by rw[fm,gL hlt]) (mk te.at) te.sp ((aY _).mpr trivial) (cm (.rc a) tg (l[i]).2) (by omega) (cm (.rc a) tg (l[i]).2).length 0 out (by omega) (by omega)
  rw[be]at h5
  refine cx h5 ?_
  simp only[↓zq,zs,ac,aY,ac]
  repeat refine⟨by omega,?_⟩
  rw[bA i (by omega),<-bb]
  exact Nh s te a tg l hl ih k (i+1) _ (by omega) (by rw[bb];exact ho)
end Go.Proofs.Trees
namespace Go.Proofs.Trees
open Go Go.VL Go.RowKit
def kids(a:Ty):Vl->List Hl
 | .f w=>cm a (.bd 0) w
 |_=>[]
theorem ng(a:Ty)(v:Vl):lu (kids a v)+1<=v.nodes:=by
 cases v with
 |f w=>have:=rG a (.bd 0) w;simp only[kids,Vl.nodes];omega
 |_=>simp only[kids,lu,Vl.nodes,List.map_nil,List.sum_nil];omega
theorem yK{a:Ty}{v:Vl}{h:Hl}(hh:h∈kids a v):h.2.nodes<v.nodes:=by
 cases v with
 |f w=>have:=(iE hh).1;simp only[Vl.nodes];omega
 |_=>cases hh
theorem lr{n:Nat}{a:Ty}{v:Vl}{h:Hl}(hv:v.ic n)(hh:h∈kids a v):h.1.ic n/\h.2.ic n:=by
 cases v with
 |f w=>exact hJ n _ _ _ w h hv hh
 |_=>cases hh
end Go.Proofs.Trees
namespace Go.Proofs.Trees
open Go Go.VL
mutual
def E.pr:E->Prop
 | .atom s=>s≠[]/\s.all fh=true
 | .list l=>l≠[]/\E.BG l
def E.BG:List E->Prop
 |[]=>True
 |e::l=>e.pr/\E.BG l
end
mutual
def E.dp:E->Nat
 | .atom _=>0
 | .list l=>1+E.uX l
def E.uX:List E->Nat
 |[]=>0
 |e::l=>max e.dp (E.uX l)
end
def K7(r:List UInt8):Prop:=∀c t,r=c::t->fh c=false
theorem uG:K7 []:=by intro c t h;cases h
theorem BW{s r:List UInt8}(hs:s.all fh=true)(hr:K7 r):(s++r).takeWhile fh=s/\(s++r).dropWhile fh=r:=by
 induction s with
 |
  nil =>
  cases r with
  |nil=>exact⟨rfl,rfl⟩
  |cons c t=>have:=hr c t rfl;simp[List.takeWhile,List.dropWhile,this]
 |
  cons c s ih =>
  simp only[da,az]at hs
  have:=ih hs.2
  simp[List.takeWhile,List.dropWhile,hs.1,this.1,this.2]
theorem wt(l:List E)(r:List UInt8):K7 (ej l++41::r):=by
 intro c t h
 cases l with
 |nil=>simp only[ej,aW,List.cons.injEq]at h;rw[<-h.1];decide
 |cons e l=>simp only[ej,bf,List.cons.injEq]at h;rw[<-h.1];decide
theorem AP{f:List UInt8->Option (E×List UInt8)}(r:List UInt8):∀(l:List E) (e:E) (acc:List E) (n:Nat),l.length<n->(∀x,x=e\/x∈l->∀r,K7 r->f (fg x++r)=some (x,r)) ->
 sA f n (fg e++(ej l++41::r)) acc=some (.list (acc++e::l),r)
 |l,e,acc,0,hn,hf=>by omega
 |
  [],e,acc,n+1,hn,hf=>by
  simp only[sA]
  rw[hf e (.inl rfl) _ (wt [] r)]
  simp[ej]
 |
  x::l,e,acc,n+1,hn,hf=>by
  simp only[sA]
  rw[hf e (.inl rfl) _ (wt (x::l) r)]
  simp only[aA]at hn
  have ih:=AP r l x (acc++[e]) n (by omega) (fun y hy=>hf y (.inr (by cases hy with|inl h=>rw[h];exact ak|inr h=>exact al _ h)))
  simp only[bb,bf,aW]at ih
  simp only[ej,bf,bb]
  simp[ih]
theorem C9{l:List E}{k:Nat}:E.BG l->E.uX l<=k->∀x,x∈l->x.pr/\x.dp<=k:=by
 induction l with
 |nil=>intro _ _ x h;cases h
 |
  cons e l ih =>
  intro h hd x hx
  simp only[E.BG,E.uX]at h hd
  cases hx with
  |head=>exact⟨h.1,by omega⟩
  |tail _ hx=>exact ih h.2 (by omega) x hx
theorem yg:∀(k:Nat) (e:E) (r:List UInt8),e.pr->e.dp<=k->K7 r->rd k (fg e++r)=some (e,r)
 |
  0,.atom s,r,hp,hd,hr=>by
  have h:=BW hp.2 hr
  simp only[fg,rd,h.1,h.2,hp.1,if_false]
 |
  k+1,.atom s,r,hp,hd,hr=>by
  have h:=BW hp.2 hr
  simp only[fg,rd,h.1,h.2,hp.1,if_false]
 |0,.list l,r,hp,hd,hr=>by simp only[E.dp]at hd;omega
 |k+1,.list [],r,hp,hd,hr=>by exact absurd rfl hp.1
 |
  k+1,.list (e::l),r,hp,hd,hr=>by
  have hs:fh 40=false:=by decide
  simp only[E.dp,E.pr]at hd hp
  have hm:=C9 (k:=k) hp.2 (by omega)
  have:=AP (f:=rd k) r l e [] ((fg e++(ej l++41::r)).length+1) (by have:=rV l;simp only[aq,aA];omega)
   (fun x hx r hr=>yg k x r (hm x (by cases hx with|inl h=>rw[h];exact ak|inr h=>exact al _ h)).1 (hm x (by cases hx with|inl h=>rw[h];exact ak|inr h=>exact al _ h)).2 hr)
  simp only[fg,bf,bb,aW]at *
  simp only[rd,List.takeWhile,hs,if_true]
  simpa using this
theorem Cr{e e':E}(h:e.pr)(h':e'.pr)(ht:fg e=fg e'):e=e':=by
 have a:=yg (max e.dp e'.dp) e [] h (by omega) uG
 have b:=yg (max e.dp e'.dp) e' [] h' (by omega) uG
 rw[ht,b]at a;cases a;rfl
theorem Hw{e:E}(h:e.pr)(hd:e.dp<=300)(hl:(fg e).length<=8000):qY (fg e)=some e:=by
 have:=yg 300 e [] h hd uG
 rw[cY]at this
 rw[qY,this];simp;omega
theorem Bk(s:List UInt8):(s.takeWhile fh).all fh=true:=by
 induction s with
 |nil=>rfl
 |cons c s ih =>
  cases h:fh c
  ·simp[List.takeWhile,h]
  ·simp only[List.takeWhile,h,da,ih];rfl
theorem DW(l r:List E):E.BG (l++r)↔E.BG l/\E.BG r:=by
 induction l with
 |nil=>simp[E.BG]
 |cons e l ih=>simp[E.BG,ih,and_assoc]
theorem Df(l r:List E):E.uX (l++r)=max (E.uX l) (E.uX r):=by
 induction l with
 |nil=>simp[E.uX]
 |cons e l ih=>simp[E.uX,ih,Nat.max_assoc]
theorem za{k:Nat}{f:List UInt8->Option (E×List UInt8)}(hf:∀s e r,f s=some (e,r)->s=fg e++r/\e.pr/\e.dp<=k):∀(n:Nat) (s:List UInt8) (acc:List E) (e:E) (r:List UInt8),sA f n s acc=some (e,r)->E.BG acc->E.uX acc<=k ->
 ∃l,e=.list (acc++l)/\l≠[]/\32::s=ej l++41::r/\E.BG l/\E.uX l<=k
 |0,s,acc,e,r,h,hp,hd=>by cases h
 |
  n+1,s,acc,e,r,h,hp,hd=>by
  simp only[sA]at h
  split at h
  ·rename_i p c r' hs
   obtain⟨h1,h2,h3⟩:=hf _ _ _ hs
   split at h
   ·rename_i hc
    have hc:c=41:=UInt8.toNat_inj.mp hc
    cases h
    exact⟨[p],rfl,by simp,by simp[ej,h1,hc],⟨h2,trivial⟩,by simp[E.uX];omega⟩
   ·split at h
    ·rename_i hc
     have hc:c=32:=UInt8.toNat_inj.mp hc
     obtain⟨l,g1,g2,g3,g4,g5⟩:=za hf n _ _ _ _ h ((DW _ _).mpr ⟨hp,h2,trivial⟩) (by rw[Df];simp[E.uX];omega)
     refine⟨p::l,by simpa using g1,by simp,?_,⟨h2,g4⟩,by simp only[E.uX];omega⟩
     rw[h1,hc,g3];simp[ej]
    ·cases h
  ·cases h
theorem AO:∀(k:Nat) (s:List UInt8) (e:E) (r:List UInt8),rd k s=some (e,r)->s=fg e++r/\e.pr/\e.dp<=k
 |
  0,s,e,r,h=>by
  simp only[rd]at h
  split at h
  ·cases h
  ·rename_i hs;cases h
   exact⟨(List.takeWhile_append_dropWhile).symm,⟨hs,Bk s⟩,au _⟩
 |
  k+1,s,e,r,h=>by
  simp only[rd]at h
  split at h
  ·split at h
   ·rename_i c r' _
    split at h
    ·rename_i hc
     have hc:c=40:=UInt8.toNat_inj.mp hc
     obtain⟨l,g1,g2,g3,g4,g5⟩:=za (k:=k) (fun s e r h=>AO k s e r h) _ _ _ _ _ h trivial (dQ _)
     simp only[aW]at g1
     subst g1;subst hc
     refine⟨?_,⟨g2,g4⟩,by simp only[E.dp];omega⟩
     cases l with
     |nil=>exact absurd rfl g2
     |
      cons x l =>
      simp only[ej,bf,bb,List.cons.injEq,true_and]at g3
      rw[g3];simp[fg]
    ·cases h
   ·cases h
  ·rename_i hs;cases h
   exact⟨(List.takeWhile_append_dropWhile).symm,⟨hs,Bk s⟩,by simp[E.dp]⟩
theorem xZ{s:List UInt8}{e:E}(h:qY s=some e):s=fg e/\e.pr/\e.dp<=300/\s.length<=8000:=by
 unfold qY at h
 split at h
 ·cases h
 ·rename_i hl
  split at h
  ·rename_i e' hr
   cases h
   have:=AO _ _ _ _ hr
   exact⟨by simpa using this.1,this.2.1,this.2.2,by omega⟩
  ·cases h
theorem Co{k:Nat}(h:k<10):fh (bj (48+k))=true:=by
 have:∀k:Fin 10,fh (bj (48+k.val))=true:=by decide
 exact this ⟨k,h⟩
theorem xt:∀(n k:Nat),k<n->(dd k).all fh=true
 |0,k,h=>by omega
 |
  n+1,k,h=>by
  by_cases hk:k<10
  ·rw[eK hk,da,Co hk];rfl
  ·rw[fU hk]
   have:=xt n (k/10) (by omega)
   rw[List.all_append,this,da,Co (Nat.mod_lt k (by omega:0<10))];rfl
theorem GQ(k:Nat):(E.atom (wY k)).pr:=⟨by simp,by have:=xt (k+1) k (by omega);simp only[wY,da,this];decide⟩
theorem mP:∀v:Vl,v.cL.pr
 | .u=>⟨by simp,by decide⟩
 | .el k=>GQ k
 | .l v=>⟨by simp,⟨by simp,by decide⟩,mP v,trivial⟩
 | .r v=>⟨by simp,⟨by simp,by decide⟩,mP v,trivial⟩
 | .f v=>⟨by simp,⟨by simp,by decide⟩,mP v,trivial⟩
 | .p a b=>⟨by simp,⟨by simp,by decide⟩,mP a,mP b,trivial⟩
theorem pW:∀v:Vl,v.cL.dp<v.nodes+1
 | .u=>by simp[Vl.cL,E.dp,Vl.nodes]
 | .el k=>by simp[Vl.cL,E.dp,Vl.nodes]
 | .l v=>by have:=pW v;simp only[Vl.cL,E.dp,E.uX,Vl.nodes]at *;omega
 | .r v=>by have:=pW v;simp only[Vl.cL,E.dp,E.uX,Vl.nodes]at *;omega
 | .f v=>by have:=pW v;simp only[Vl.cL,E.dp,E.uX,Vl.nodes]at *;omega
 | .p a b=>by have:=pW a;have:=pW b;simp only[Vl.cL,E.dp,E.uX,Vl.nodes]at *;omega
theorem DT(k:Nat)(h:k<100):(dd k).length<=2:=by
 by_cases hk:k<10
 ·rw[eK hk];simp
 ·rw[fU hk,eK (by omega:k/10<10)];simp
theorem k8:∀v:Vl,v.ic 100->v.cE.length<=5*v.nodes
 | .u,_=>by simp[Vl.cE,Vl.cL,fg,Vl.nodes]
 |
  .el k,h=>by
  have:=DT k h
  simp only[Vl.cE,Vl.cL,fg,Vl.nodes,aA];omega
 | .l v,h=>by have:=k8 v h;simp only[Vl.cE,Vl.cL,fg,ej,Vl.nodes,aA,aq,aH]at this |-;omega
 | .r v,h=>by have:=k8 v h;simp only[Vl.cE,Vl.cL,fg,ej,Vl.nodes,aA,aq,aH]at this |-;omega
 | .f v,h=>by have:=k8 v h;simp only[Vl.cE,Vl.cL,fg,ej,Vl.nodes,aA,aq,aH]at this |-;omega
 | .p a b,h=>by have:=k8 a h.1;have:=k8 b h.2;simp only[Vl.cE,Vl.cL,fg,ej,Vl.nodes,aA,aq,aH]at *;omega
theorem FF(k:Nat):wY k≠[117]:=by simp[wY]
theorem kg:∀v:Vl,v.ic 100->fT v.cL=some v
 | .u,_=>by simp[Vl.cL,fT]
 | .el k,h=>by simp only[Vl.cL,fT,FF,if_false,vB k h]
 | .l v,h=>by simp only[Vl.cL,fT,kg v h,E.at];simp
 | .r v,h=>by simp only[Vl.cL,fT,kg v h,E.at];simp
 | .f v,h=>by simp only[Vl.cL,fT,kg v h,E.at];simp
 | .p a b,h=>by simp only[Vl.cL,fT,kg a h.1,kg b h.2,E.at];simp
theorem qX{v:Vl}(h:v.ic 100)(hn:v.nodes<=200):sw v.cE=some v:=by
 have hd:=pW v
 have hl:=k8 v h
 rw[sw,Hw (mP v) (by omega) (by show v.cE.length<=8000;omega)]
 simp only[kg v h]
 rw[if_neg (by omega)]
theorem tS{v w:Vl}(h:v.ic 100)(h':w.ic 100)(ht:v.cE=w.cE):v=w:=by
 have:=Cr (mP v) (mP w) ht
 have a:=kg v h
 rw[this,kg w h']at a;cases a;rfl
theorem qJ{s:List UInt8}{v:Vl}(h:sw s=some v):s=v.cE:=(xZ (lT h).1).1
end Go.Proofs.Trees
namespace Go.Proofs.Trees
open Go Go.VL Go.RowKit
theorem bM(l:List E):(E.list l).at=[]:=rfl
def cX:Ty->Vl->Vl->Vl
 | .plus a _,.l c,v=>.l (cX a c v)
 | .plus _ b,.r c,v=>.r (cX b c v)
 | .times a _,.l (.p x y),v=>.p (cX a x v) y
 | .times _ b,.r (.p x y),v=>.p x (cX b y v)
 | .rc a,.f (.l x),v=>.f (cX a x v)
 | .rc a,.f (.r (.p x y)),v=>.f (cX a x (cX (.rc a) y v))
 |_,_,v=>v
def dL:Ty->Vl->Bool
 | .plus a _,.l c=>dL a c
 | .plus _ b,.r c=>dL b c
 | .times a _,.l (.p x _)=>dL a x
 | .times _ b,.r (.p _ y)=>dL b y
 | .rc a,.f (.l x)=>dL a x
 | .rc a,.f (.r (.p x y))=>dL a x&&dL (.rc a) y
 | .plus _ _,_=>false
 | .times _ _,_=>false
 | .rc _,_=>false
 |_,_=>true
theorem sZ(c v:Vl):cX .zero c v=v:=by cases c<;>rfl
theorem vr(c v:Vl):cX .one c v=v:=by cases c<;>rfl
theorem kT(s:List UInt8)(c v:Vl):cX (.name s) c v=v:=by cases c<;>rfl
theorem sa(u:Nat)(c v:Vl):cX (.bT u) c v=v:=by cases c<;>rfl
theorem vw{a b:Ty}{c:Vl}(h:dL (.plus a b) c=true):(∃x,c=.l x/\dL a x=true)\/∃x,c=.r x/\dL b x=true:=by
 cases c<;>simp[dL]at h<;>simp[h]
theorem sQ{a b:Ty}{c:Vl}(h:dL (.times a b) c=true):(∃x y,c=.l (.p x y)/\dL a x=true)\/∃x y,c=.r (.p x y)/\dL b y=true:=by
 cases c with
 |l c=>cases c<;>simp[dL]at h<;>simp[h]
 |r c=>cases c<;>simp[dL]at h<;>exact .inr ⟨_,_,rfl,h⟩
 |_=>simp[dL]at h
theorem Bb{a:Ty}{c:Vl}(h:dL (.rc a) c=true):(∃x,c=.f (.l x)/\dL a x=true)\/∃x y,c=.f (.r (.p x y))/\dL a x=true/\dL (.rc a) y=true:=by
 cases c with
 |
  f c =>
  cases c with
  |l c=>simp[dL]at h;simp[h]
  |r c=>cases c<;>simp[dL]at h<;>exact .inr ⟨_,_,rfl,h⟩
  |_=>simp[dL]at h
 |_=>simp[dL]at h
theorem rO(t:Ty)(c v:Vl):(cX t c v).nodes<=c.nodes+v.nodes:=by
 induction t,c,v using cX.induct<;>simp only[cX,Vl.nodes]at*<;> omega
theorem sd(m:Nat)(t:Ty)(c v:Vl):c.ic m->v.ic m->(cX t c v).ic m:=by
 induction t,c,v using cX.induct with
 |case1 a b c v ih=>exact fun h h'=>ih h h'
 |case2 a b c v ih=>exact fun h h'=>ih h h'
 |case3 a b x y v ih=>exact fun h h'=>⟨ih h.1 h',h.2⟩
 |case4 a b x y v ih=>exact fun h h'=>⟨h.1,ih h.2 h'⟩
 |case5 a x v ih=>exact fun h h'=>ih h h'
 |case6 a x y v ih1 ih2=>exact fun h h'=>ih2 h.1 (ih1 h.2 h')
 |case7=>intro h h';simpa only[cX]using h'
def IM:Hl:=(.u,.u)
end Go.Proofs.Trees
namespace Go.Proofs.Trees
open Go Go.VL Go.RowKit
theorem oj(s:Nm)(a b:E):an Tryz.prog 121 [.agg [.v (.string (mk [])),(E.list [.atom s,a,b]).sp]] [] (bK (.v (.string (mk s)))):=u7 (.atom s) [a,b]
theorem Dz{e:E}(h:Wf e):∀(bd l:List Nm) (a:AV),cH a bd->bd.length+l.length+e.sz<100000->an Tryz.prog 137 [.agg [.v (.string (mk e.at)),e.sp],a,.vec 0] [.vec 1 (bP l)] (dh (.vec 1) [.dead,.vec 1 (bP (kf e bd l))]):=by
 induction h with
 |
  @atom s hs =>
  intro bd l a ha hl
  simp only[E.sz]at hl
  refine zl _ _ _ _ ((aY _).mpr trivial) ha.1 ?_
  have hll:(bP l).length=l.length:=by simp[bP]
  simp only[w4,dT,↓zq,zs,ac,zt,dh,kf]
  refine⟨fun _=>⟨fun h=>?_,fun h=>⟨fun h1=>?_,fun h1=>?_⟩⟩,fun h=>absurd h hs⟩
  ·rw[if_pos (.inl h)]
  ·rw[if_pos (.inr (.inl h1))]
  ·refine aj (Ga bd a ha s (by omega)) ?_
   simp only[↓zq,zs,ac]
   refine⟨fun h2=>?_,fun h2=>aj (Ga l _ (.of l) s (by omega)) ?_⟩
   ·rw[if_pos (.inr (.inr (.inl h2)))]
   ·simp only[↓zq,zs,ac]
    refine⟨fun h3=>?_,fun h3=>⟨⟨fun c hc=>(by simp at hc;rw[hc];rfl),by omega⟩,?_⟩⟩
    ·rw[if_pos (.inr (.inr (.inr h3)))]
    ·rw[E3,if_neg]
     rintro(q|q|q|q)
     ·exact h q
     ·exact h1 q
     ·exact h2 q
     ·exact h3 q
 |
  @plus x y hx hy i1 i2 =>
  intro bd l a ha hl
  simp only[E.sz,E.jv]at hl
  have hfl:=gl x bd l
  refine zl _ _ _ _ ((aY _).mpr trivial) ha.1 ?_
  have hP:=P3.of (.atom [43]) x y
  simp only[w4,bM,toNat_one,bh,↓zq,zs,ac,zt,hP.1,hP.2.1,hP.2.2.1,hP.2.2.2,aM,dh]
  refine⟨fun h=>absurd rfl h,fun _=>?_⟩
  refine aj (oj [43] x y) ?_
  simp only[↓zq,zs,ac,zt]
  refine⟨fun h=>by simp at h,fun _=>?_⟩
  repeat refine⟨by omega,?_⟩
  refine aX (i1 bd l a ha (by omega)) ?_
  simp only[↓zq,zs,ac,zt,aQ,bz,Ob.es]
  repeat refine⟨by omega,?_⟩
  refine aX (i2 bd (kf x bd l) a ha (by omega)) ?_
  simp only[↓zq,zs,ac,zt,aQ,bz,Ob.es]
  rw[kf,if_neg (by decide)]
 |
  @times x y hx hy i1 i2 =>
  intro bd l a ha hl
  simp only[E.sz,E.jv]at hl
  have hfl:=gl x bd l
  refine zl _ _ _ _ ((aY _).mpr trivial) ha.1 ?_
  have hP:=P3.of (.atom [42]) x y
  simp only[w4,bM,toNat_one,bh,↓zq,zs,ac,zt,hP.1,hP.2.1,hP.2.2.1,hP.2.2.2,aM,dh]
  refine⟨fun h=>absurd rfl h,fun _=>?_⟩
  refine aj (oj [42] x y) ?_
  simp only[↓zq,zs,ac,zt]
  refine⟨fun h=>by simp at h,fun _=>?_⟩
  repeat refine⟨by omega,?_⟩
  refine aX (i1 bd l a ha (by omega)) ?_
  simp only[↓zq,zs,ac,zt,aQ,bz,Ob.es]
  repeat refine⟨by omega,?_⟩
  refine aX (i2 bd (kf x bd l) a ha (by omega)) ?_
  simp only[↓zq,zs,ac,zt,aQ,bz,Ob.es]
  rw[kf,if_neg (by decide)]
 |
  @rc n y hn hy i =>
  intro bd l a ha hl
  simp only[E.sz,E.jv]at hl
  refine zl _ _ _ _ ((aY _).mpr trivial) ha.1 ?_
  have hP:=P3.of (.atom dF) (.atom n) y
  simp only[w4,bM,toNat_one,bh,↓zq,zs,ac,zt,hP.1,hP.2.1,hP.2.2.1,hP.2.2.2,aM,dh]
  refine⟨fun h=>absurd rfl h,fun _=>?_⟩
  refine aj (oj dF (.atom n) y) ?_
  simp only[↓zq,zs,ac,zt]
  refine⟨fun _=>?_,fun h=>absurd rfl h⟩
  repeat refine⟨by omega,?_⟩
  refine aX (wD bd a ha n (by omega)) ?_
  simp only[↓zq,zs,ac,Ob.es,aQ]
  refine⟨eF _,?_⟩
  refine aX (i (bd++[n]) l _ (.of _) (by simp;omega)) ?_
  simp only[↓zq,zs,ac,aQ,bz,Ob.es]
  rw[kf,if_pos (dT _)];rfl
theorem Pe(x:Nm)(u:E){e:E}(h:Wf e):an Tryz.prog 192 [.agg [.v (.string (mk e.at)),e.sp],.v (.string (mk x)),.agg [.v (.string (mk u.at)),u.sp]] [] (bK (.agg [.v (.string (mk (so x u e).at)),(so x u e).sp])):=by
 induction h with
 |
  @atom s hs =>
  refine D8 _ _ _ _ _ ((aY _).mpr trivial) ((aY _).mpr trivial) ?_
  simp only[AI,dT,↓zq,zs,ac,zt,bK,so]
  refine⟨fun _=>⟨fun h=>?_,fun h=>?_⟩,fun h=>absurd h hs⟩
  ·rw[if_pos h]
  ·rw[if_neg h];rfl
 |
  @plus a b ha hb i1 i2 =>
  refine D8 _ _ _ _ _ ((aY _).mpr trivial) ((aY _).mpr trivial) ?_
  have hP:=P3.of (.atom [43]) a b
  simp only[AI,bM,toNat_one,bh,↓zq,zs,ac,zt,hP.1,hP.2.1,hP.2.2.1,hP.2.2.2,aM]
  refine⟨fun h=>absurd rfl h,fun _=>?_⟩
  refine aj (oj [43] a b) ?_
  simp only[↓zq,zs,ac,zt]
  refine⟨fun h=>by simp at h,fun _=>?_⟩
  refine aj (oj [43] a b) ?_
  simp only[↓zq,zs,ac,zt]
  repeat refine⟨by omega,?_⟩
  refine aj i1 ?_
  simp only[↓zq,zs,ac,zt,aM]
  repeat refine⟨by omega,?_⟩
  refine aj i2 ?_
  simp only[↓zq,zs,ac,zt,aM]
  repeat refine⟨by omega,?_⟩
  refine aj (xm _ _ _) ?_
  simp only[↓zq,zs,ac,zt,aM,wu,bM]
  repeat refine⟨by omega,?_⟩
  exact⟨rfl,rfl⟩
 |
  @times a b ha hb i1 i2 =>
  refine D8 _ _ _ _ _ ((aY _).mpr trivial) ((aY _).mpr trivial) ?_
  have hP:=P3.of (.atom [42]) a b
  simp only[AI,bM,toNat_one,bh,↓zq,zs,ac,zt,hP.1,hP.2.1,hP.2.2.1,hP.2.2.2,aM]
  refine⟨fun h=>absurd rfl h,fun _=>?_⟩
  refine aj (oj [42] a b) ?_
  simp only[↓zq,zs,ac,zt]
  refine⟨fun h=>by simp at h,fun _=>?_⟩
  refine aj (oj [42] a b) ?_
  simp only[↓zq,zs,ac,zt]
  repeat refine⟨by omega,?_⟩
  refine aj i1 ?_
  simp only[↓zq,zs,ac,zt,aM]
  repeat refine⟨by omega,?_⟩
  refine aj i2 ?_
  simp only[↓zq,zs,ac,zt,aM]
  repeat refine⟨by omega,?_⟩
  refine aj (xm _ _ _) ?_
  simp only[↓zq,zs,ac,zt,aM,tB,bM]
  repeat refine⟨by omega,?_⟩
  exact⟨rfl,rfl⟩
 |
  @rc n b hn hb i =>
  refine D8 _ _ _ _ _ ((aY _).mpr trivial) ((aY _).mpr trivial) ?_
  have hP:=P3.of (.atom dF) (.atom n) b
  simp only[AI,bM,toNat_one,bh,↓zq,zs,ac,zt,hP.1,hP.2.1,hP.2.2.1,hP.2.2.2,aM]
  refine⟨fun h=>absurd rfl h,fun _=>?_⟩
  refine aj (oj dF (.atom n) b) ?_
  simp only[↓zq,zs,ac,zt]
  refine⟨fun _=>?_,fun h=>absurd rfl h⟩
  repeat refine⟨by omega,?_⟩
  rw[CC]
  refine⟨fun h=>?_,fun h=>?_⟩
  ·have hh:n=x:=h
   rw[if_pos hh];exact⟨rfl,rfl⟩
  ·have hh:¬n=x:=h
   rw[if_neg hh]
   repeat refine⟨by omega,?_⟩
   refine aj i ?_
   simp only[↓zq,zs,ac,zt,aM]
   repeat refine⟨by omega,?_⟩
   refine aj (xm dF (.atom n) (so x u b)) ?_
   simp only[↓zq,zs,ac,zt,aM,bM]
   repeat refine⟨by omega,?_⟩
   exact⟨rfl,rfl⟩
theorem rM(x:Nm){e:E}(h:Wf e):mY x e<=e.dc:=by
 induction h with
 |atom hs=>simp only[mY,E.dc];split<;>omega
 |plus ha hb i1 i2=>rw[sk];simp only[E.dc,E.eZ];omega
 |times ha hb i1 i2=>rw[pU];simp only[E.dc,E.eZ];omega
 |rc hn hb i=>rw[wG];simp only[E.dc,E.eZ];split<;>omega
theorem RF(x:Nm){e:E}(h:Wf e):e.dc<1000000->an Tryz.prog 191 [.agg [.v (.string (mk e.at)),e.sp],.v (.string (mk x))] [] (bK (.v (.int .i64 (mY x e:Int)))):=by
 induction h with
 |
  @atom s hs =>
  intro hl
  refine Db _ _ _ ((aY _).mpr trivial) ?_
  simp only[Bv,dT,↓zq,zs,ac,zt,bK,mY]
  refine⟨fun _=>⟨fun h=>?_,fun h=>?_⟩,fun h=>absurd h hs⟩
  ·rw[if_pos h];rfl
  ·rw[if_neg h];rfl
 |
  @plus a b ha hb i1 i2 =>
  intro hl
  simp only[E.dc,E.eZ]at hl
  have u1:=rM x ha
  have u2:=rM x hb
  refine Db _ _ _ ((aY _).mpr trivial) ?_
  have hP:=P3.of (.atom [43]) a b
  simp only[Bv,bM,toNat_one,bh,↓zq,zs,ac,zt,hP.1,hP.2.1,hP.2.2.1,hP.2.2.2,aM]
  refine⟨fun h=>absurd rfl h,fun _=>?_⟩
  refine aj (oj [43] a b) ?_
  simp only[↓zq,zs,ac,zt]
  refine⟨fun h=>by simp at h,fun _=>?_⟩
  repeat refine⟨by omega,?_⟩
  refine aj (i1 (by omega)) ?_
  simp only[↓zq,zs,ac,zt]
  repeat refine⟨by omega,?_⟩
  refine aj (i2 (by omega)) ?_
  simp only[↓zq,zs,ac,zt]
  rw[sk,wrap64 _ (by omega) (by omega)]
  exact⟨by simp,rfl⟩
 |
  @times a b ha hb i1 i2 =>
  intro hl
  simp only[E.dc,E.eZ]at hl
  have u1:=rM x ha
  have u2:=rM x hb
  refine Db _ _ _ ((aY _).mpr trivial) ?_
  have hP:=P3.of (.atom [42]) a b
  simp only[Bv,bM,toNat_one,bh,↓zq,zs,ac,zt,hP.1,hP.2.1,hP.2.2.1,hP.2.2.2,aM]
  refine⟨fun h=>absurd rfl h,fun _=>?_⟩
  refine aj (oj [42] a b) ?_
  simp only[↓zq,zs,ac,zt]
  refine⟨fun h=>by simp at h,fun _=>?_⟩
  repeat refine⟨by omega,?_⟩
  refine aj (i1 (by omega)) ?_
  simp only[↓zq,zs,ac,zt]
  repeat refine⟨by omega,?_⟩
  refine aj (i2 (by omega)) ?_
  simp only[↓zq,zs,ac,zt]
  rw[pU,wrap64 _ (by omega) (by omega)]
  exact⟨by simp,rfl⟩
 |
  @rc n b hn hb i =>
  intro hl
  simp only[E.dc,E.eZ]at hl
  refine Db _ _ _ ((aY _).mpr trivial) ?_
  have hP:=P3.of (.atom dF) (.atom n) b
  simp only[Bv,bM,toNat_one,bh,↓zq,zs,ac,zt,hP.1,hP.2.1,hP.2.2.1,hP.2.2.2,aM]
  refine⟨fun h=>absurd rfl h,fun _=>?_⟩
  refine aj (oj dF (.atom n) b) ?_
  simp only[↓zq,zs,ac,zt]
  refine⟨fun _=>?_,fun h=>absurd rfl h⟩
  repeat refine⟨by omega,?_⟩
  rw[wG]
  refine⟨fun h=>?_,fun h=>?_⟩
  ·have hh:n=x:=h
   rw[if_pos hh];exact⟨rfl,rfl⟩
  ·have hh:¬n=x:=h
   rw[if_neg hh]
   repeat refine⟨by omega,?_⟩
   refine aj (i (by omega)) ?_
   simp only[↓zq,zs,ac,zt]
   exact⟨rfl,rfl⟩
theorem KI{x:Nm}(hx:qM x){e u:E}(h:Wf e)(hu:Wf u)(hl:e.dc<=1000)(hlu:u.dc<=1000):an Tryz.prog 171 [.agg [.v (.string (mk e.at)),e.sp],.v (.string (mk x)),.agg [.v (.string (mk u.at)),u.sp]] [] (bK (.v (.bool (decide ((sub x (cS u []) (cS e [])).aE<=400))))):=by
 refine Sw _ _ _ _ _ ((aY _).mpr trivial) ((aY _).mpr trivial) ?_
 unfold Mi
 have a1:=DO e h.ok (by have:=h.sz;omega)
 have a2:=DO u hu.ok (by have:=hu.sz;omega)
 rw[dj]at a1 a2
 have hle:=rM x h
 have hpos:1<=u.dc:=by rw[hu.dc []];exact ep _
 refine aj a1 ?_
 simp only[↓zq,zs,ac,zt]
 refine aj (RF x h (by omega)) ?_
 simp only[↓zq,zs,ac,zt]
 refine aj a2 ?_
 simp only[↓zq,zs,ac,zt]
 have e1:=dX x (cS u []) (cS e [])
 have e2:=C8 hx h []
 rw[if_neg (by simp)]at e2
 rw[e2,<-h.dc [],<-hu.dc []]at e1
 have hm:mY x e*(u.dc-1)<=1000*1000:=Nat.mul_le_mul (by omega) (by omega)
 have e3:(mY x e:Int)*((u.dc:Int)-1)=((mY x e*(u.dc-1):Nat):Int):=by
  rw[Int.natCast_mul];congr 1;omega
 have e4:mY x e*(u.dc-1)+mY x e=mY x e*u.dc:=by
  rw[Nat.mul_sub,dI]
  have:=Nat.le_mul_of_pos_right (mY x e) hpos
  omega
 rw[wrap64 ((u.dc:Int)-1) (by omega) (by omega),e3,wrap64 ((mY x e*(u.dc-1):Nat):Int) (by omega) (by omega),wrap64 _ (by omega) (by omega)]
 refine⟨?_,rfl⟩
 congr 2
 rw[cw,decide_eq_true_eq,decide_eq_true_eq]
 omega
end Go.Proofs.Trees
namespace Go.Proofs.Trees
open Go Go.VL Go.RowKit
abbrev xV:AV:=.v (.slice none 0 0)
abbrev zE:Ob:=.cells [.v (.string (mk [])),xV]
theorem JO(s:Nm)(p a b:AV)(hp:LK.sl.has p)(F fr to:List Nm)(k:Int)(ha:cH a fr)(hb:cH b to)(hft:fr.length=to.length)(hl:fr.length<1000000):∀(i:Nat),i<=fr.length ->
 Ht [a,b,.v (.int .i64 ((i:Int)-1))] [.cells [.v (.string (mk s)),p],zE,.cells [.any,.v (.int .i64 k)],.vec 1 (bP F)]
  (py (match bR s fr i with|some u=>(2,[],[.cells [.v (.string (mk (gu to u))),xV],.cells [.any,.v (.int .i64 k)],.vec 1 (bP F)])|none=>(1,[],[.cells [.v (.string (mk s)),p],zE,.cells [.any,.v (.int .i64 k)],.vec 1 (bP F)])))
 |
  0,hi=>by
  refine Kq _ _ _ _ _ _ _ _ _ ?_
  simp only[Gw,↓zq,zs,ac,ac,hp,bg]
  exact⟨ha.1,hb.1,fun h=>by omega,fun _=>rfl⟩
 |
  i+1,hi=>by
  have hlt:i<fr.length:=by omega
  have hlt':i<to.length:=by omega
  have e1:((i+1:Nat):Int)-1=(i:Int):=by omega
  rw[e1]
  refine Kq _ _ _ _ _ _ _ _ _ ?_
  simp only[Gw,↓zq,zs,ac,zt,ac,hp,bg,ha.len,hb.len,ha.idx hlt,hb.idx hlt',bN]
  refine⟨ha.1,hb.1,fun _=>⟨⟨ha.1,by omega,by omega⟩,by omega,fun h=>?_,fun h=>?_⟩,fun h=>by omega⟩
  ·refine⟨⟨hb.1,by omega,by omega⟩,by omega,?_⟩
   have hh:fr.getD i []=s:=h
   simp only[bR,hh,if_true,py]
   have:gu to (fr.length-1-i)=to.getD i []:=by unfold gu;congr 1;omega
   rw[this]
  ·have hh:¬fr.getD i []=s:=h
   simp only[bR,hh,if_false]
   rw[wrap64 _ (by omega) (by omega)]
   exact JO s p a b hp F fr to k ha hb hft hl i (by omega)
theorem MX(a b:AV)(ha:LK.sl.has a)(hb:LK.sl.has b)(F:List Nm)(hF:F.length<100000)(t:ByteArray)(p:AV)(hp:LK.sl.has p):∀(n j:Nat),ql F n j<j+n->j+n<100000000 ->
 IA [a,b,.v (.string (mk (tN j)))] [.cells [.any,.v (.int .i64 (j:Int))],.vec 1 (bP F),.cells [.v (.string t),p],zE] (gV 1 [a,b,.v (.string (mk (tN (ql F n j))))] [.cells [.any,.v (.int .i64 (ql F n j:Int))],.vec 1 (bP F),.cells [.v (.string t),p],zE])
 |0,j,h,_=>by simp only[ql]at h;omega
 |
  n+1,j,h,hj=>by
  refine RE _ _ _ _ _ _ _ _ _ ?_
  simp only[I5,↓zq,zs,ac,zt,ac,hp,bg]
  refine⟨ha,hb,?_⟩
  refine aj (Ga F _ (.of F) (tN j) (by omega)) ?_
  simp only[↓zq,zs,ac,zt]
  rw[ql]at h |-
  refine⟨fun hm=>?_,fun hm=>?_⟩
  ·rw[if_pos hm]at h |-
   rw[bA j (by omega)]
   refine aj (zL (j+2) (j+1) (by omega) (by omega)) ?_
   have hd:=mV (j+2) (j+1) (by omega)
   simp only[↓zq,zs,ac,zt,bf,aW]
   refine⟨by simp[cN];omega,?_⟩
   exact MX a b ha hb F hF t p hp n (j+1) (by omega) (by omega)
  ·rw[if_neg hm]
   exact⟨rfl,rfl,rfl⟩
theorem iF(F:List Nm):∀(t:Ty) (to:List Nm) (k:Nat),k<=(hZ F t to k).2/\(hZ F t to k).2<=k+(F.length+1)*t.aE
 | .zero,_,k=>⟨au _,db _ _⟩
 | .one,_,k=>⟨au _,db _ _⟩
 | .name _,_,k=>⟨au _,db _ _⟩
 | .bT _,_,k=>⟨au _,db _ _⟩
 |
  .plus a b,to,k=>by
  have h1:=iF F a to k
  have h2:=iF F b to (hZ F a to k).2
  simp only[hZ,Ty.aE]
  have:(F.length+1)*(1+a.aE+b.aE)=(F.length+1)+(F.length+1)*a.aE+(F.length+1)*b.aE:=by simp only[cU,dI]
  omega
 |
  .times a b,to,k=>by
  have h1:=iF F a to k
  have h2:=iF F b to (hZ F a to k).2
  simp only[hZ,Ty.aE]
  have:(F.length+1)*(1+a.aE+b.aE)=(F.length+1)+(F.length+1)*a.aE+(F.length+1)*b.aE:=by simp only[cU,dI]
  omega
 |
  .rc a,to,k=>by
  obtain⟨g1,g2,_,_⟩:=gK F k
  have h1:=iF F a (to++[tN (nx F k)]) (nx F k+1)
  simp only[hZ,Ty.aE]
  have:(F.length+1)*(2+a.aE)=(F.length+1)*2+(F.length+1)*a.aE:=by simp only[cU]
  omega
theorem ku(l:List Nm):(bP l).length=l.length:=by simp[bP]
theorem O6(F:List Nm)(hF:F.length<10000){e:E}(h:Wf e):∀(fr to:List Nm) (a b:AV) (k:Nat),cH a fr->cH b to->fr.length=to.length->(∀w,w∈fr->qM w)->fr.length+e.sz<10000->k+(F.length+1)*(cS e fr).aE<99000000 ->
 an Tryz.prog 143 [.agg [.v (.string (mk e.at)),e.sp],a,b,.ref 0 0] [.cells [.vec 1,.v (.int .i64 (k:Int))],.vec 1 (bP F)] (dh (.agg [.v (.string (mk (hZ F (cS e fr) to k).1.at)),(hZ F (cS e fr) to k).1.sp]) [.cells [.vec 1,.v (.int .i64 ((hZ F (cS e fr) to k).2:Int))],.vec 1 (bP F)]):=by
 induction h with
 |
  @atom s hs =>
  intro fr to a b k ha hb hft hfr hl hk
  simp only[E.sz]at hl
  refine D3 _ _ _ _ _ _ ((aY _).mpr trivial) ha.1 hb.1 ?_
  have hz:∀c,(c=[48]\/c=[49])->bR c fr fr.length=none:=fun c hc=>(fG c fr).2 fun hm=>by
   obtain⟨h1,h2,h3⟩:=hfr c hm
   rcases hc with rfl|rfl
   ·exact h2 rfl
   ·exact h3 rfl
  have hq:hZ F (cS (.atom s) fr) to k=(match bR s fr fr.length with|some u=>.atom (gu to u)|none=>.atom s,k):=by
   simp only[cS]
   by_cases h0:s=[48]
   ·rw[if_pos h0,hz s (.inl h0),h0];rfl
   ·rw[if_neg h0]
    by_cases h1:s=[49]
    ·rw[if_pos h1,hz s (.inr h1),h1];rfl
    ·rw[if_neg h1]
     cases bR s fr fr.length<;>rfl
  simp only[A2,dT,↓zq,zs,ac,zt]
  refine⟨fun _=>⟨ha.1,?_⟩,fun h=>absurd h hs⟩
  rw[ha.len,wrap64 _ (by omega) (by omega)]
  refine fI (JO s _ a b ((aY _).mpr trivial) F fr to (k:Int) ha hb hft (by omega) fr.length (au _)) (fun ys o e=>?_) (fun ys o e=>?_)
  ·rw[hq]
   cases q:bR s fr fr.length<;>rw[q]at e<;>cases e
   simp only[↓zq,zs,ac,zt,ac,aL,bg,aY]
   exact⟨rfl,rfl⟩
  ·rw[hq]
   cases q:bR s fr fr.length<;>rw[q]at e<;>cases e
   simp only[↓zq,zs,ac,zt,ac,aL,bg]
   exact⟨rfl,rfl⟩
 |
  @plus x y hx hy i1 i2 =>
  intro fr to a b k ha hb hft hfr hl hk
  simp only[E.sz,E.jv]at hl
  rw[dM]at hk |-
  simp only[Ty.aE]at hk
  have hm:(F.length+1)*(1+(cS x fr).aE+(cS y fr).aE)=(F.length+1)+(F.length+1)*(cS x fr).aE+(F.length+1)*(cS y fr).aE:=by simp only[cU,dI]
  have hc:=iF F (cS x fr) to k
  refine D3 _ _ _ _ _ _ ((aY _).mpr trivial) ha.1 hb.1 ?_
  have hP:=P3.of (.atom [43]) x y
  simp only[A2,bM,toNat_one,bh,↓zq,zs,ac,zt,hP.1,hP.2.1,hP.2.2.1,hP.2.2.2,aM]
  refine⟨fun h=>absurd rfl h,fun _=>?_⟩
  refine aj (oj [43] x y) ?_
  simp only[↓zq,zs,ac,zt]
  refine⟨fun h=>by simp at h,fun _=>?_⟩
  repeat refine⟨by omega,?_⟩
  refine aX (i1 fr to a b k ha hb hft hfr (by omega) (by omega)) ?_
  simp only[↓zq,zs,ac,zt,aL,aM,aQ,bz,Ob.es]
  repeat refine⟨by omega,?_⟩
  refine aj (oj [43] x y) ?_
  simp only[↓zq,zs,ac,zt]
  repeat refine⟨by omega,?_⟩
  refine aX (i2 fr to a b _ ha hb hft hfr (by omega) (by omega)) ?_
  simp only[↓zq,zs,ac,zt,aL,aM,aQ,bz,Ob.es]
  repeat refine⟨by omega,?_⟩
  refine aj (xm _ _ _) ?_
  simp only[↓zq,zs,ac,zt,aM,bM]
  repeat refine⟨by omega,?_⟩
  exact⟨rfl,rfl⟩
 |
  @times x y hx hy i1 i2 =>
  intro fr to a b k ha hb hft hfr hl hk
  simp only[E.sz,E.jv]at hl
  rw[du]at hk |-
  simp only[Ty.aE]at hk
  have hm:(F.length+1)*(1+(cS x fr).aE+(cS y fr).aE)=(F.length+1)+(F.length+1)*(cS x fr).aE+(F.length+1)*(cS y fr).aE:=by simp only[cU,dI]
  have hc:=iF F (cS x fr) to k
  refine D3 _ _ _ _ _ _ ((aY _).mpr trivial) ha.1 hb.1 ?_
  have hP:=P3.of (.atom [42]) x y
  simp only[A2,bM,toNat_one,bh,↓zq,zs,ac,zt,hP.1,hP.2.1,hP.2.2.1,hP.2.2.2,aM]
  refine⟨fun h=>absurd rfl h,fun _=>?_⟩
  refine aj (oj [42] x y) ?_
  simp only[↓zq,zs,ac,zt]
  refine⟨fun h=>by simp at h,fun _=>?_⟩
  repeat refine⟨by omega,?_⟩
  refine aX (i1 fr to a b k ha hb hft hfr (by omega) (by omega)) ?_
  simp only[↓zq,zs,ac,zt,aL,aM,aQ,bz,Ob.es]
  repeat refine⟨by omega,?_⟩
  refine aj (oj [42] x y) ?_
  simp only[↓zq,zs,ac,zt]
  repeat refine⟨by omega,?_⟩
  refine aX (i2 fr to a b _ ha hb hft hfr (by omega) (by omega)) ?_
  simp only[↓zq,zs,ac,zt,aL,aM,aQ,bz,Ob.es]
  repeat refine⟨by omega,?_⟩
  refine aj (xm _ _ _) ?_
  simp only[↓zq,zs,ac,zt,aM,bM]
  repeat refine⟨by omega,?_⟩
  exact⟨rfl,rfl⟩
 |
  @rc n y hn hy i =>
  intro fr to a b k ha hb hft hfr hl hk
  simp only[E.sz,E.jv]at hl
  rw[fq]at hk |-
  simp only[Ty.aE,dT]at hk
  have hm:(F.length+1)*(2+(cS y (fr++[n])).aE)=(F.length+1)*2+(F.length+1)*(cS y (fr++[n])).aE:=by simp only[cU]
  have hc:=iF F (cS y (fr++[n])) (to++[tN (nx F k)]) (nx F k+1)
  obtain⟨g1,g2,_,_⟩:=gK F k
  refine D3 _ _ _ _ _ _ ((aY _).mpr trivial) ha.1 hb.1 ?_
  have hP:=P3.of (.atom dF) (.atom n) y
  simp only[A2,bM,toNat_one,bh,↓zq,zs,ac,zt,hP.1,hP.2.1,hP.2.2.1,hP.2.2.2,aM]
  refine⟨fun h=>absurd rfl h,fun _=>?_⟩
  refine aj (oj dF (.atom n) y) ?_
  simp only[↓zq,zs,ac,zt]
  refine⟨fun _=>?_,fun h=>absurd rfl h⟩
  refine aj (zL (k+1) k (by omega) (by omega)) ?_
  have hd:=mV (k+1) k (by omega)
  simp only[↓zq,zs,ac,zt,bf,aW]
  refine⟨by simp[cN];omega,?_⟩
  refine cx (MX a b ha.1 hb.1 F (by omega) (mk []) _ ((aY _).mpr trivial) (F.length+1) k (by show nx F k<_;omega) (by omega)) ?_
  simp only[↓zq,zs,ac,zt,ac,aL,bg,aY,ha.1,hb.1,hP.1,hP.2.1,hP.2.2.1,hP.2.2.2,toNat_one,bh,aM]
  repeat refine⟨by omega,?_⟩
  have hnx:ql F (F.length+1) k=nx F k:=rfl
  rw[hnx]
  refine aX (wD fr a ha n (by omega)) ?_
  simp only[↓zq,zs,ac,zt,Ob.es,aQ]
  refine⟨eF _,?_⟩
  refine aX (wD to b hb (tN (nx F k)) (by omega)) ?_
  simp only[↓zq,zs,ac,zt,Ob.es,aQ]
  refine⟨eF _,?_⟩
  rw[bA (nx F k) (by omega)]
  have hmk:=xm dF (.atom (tN (nx F k))) (hZ F (cS y (fr++[n])) (to++[tN (nx F k)]) (nx F k+1)).1
  simp only[dT]at hmk
  refine aX (i (fr++[n]) (to++[tN (nx F k)]) _ _ (nx F k+1) (.of _) (.of _) (by simp[hft]) (fun w hw=>by
   rcases aO.1 hw with hw|hw
   ·exact hfr w hw
   ·simp only[aS]at hw;rw[hw];exact hn) (by simp;omega) (by omega)) ?_
  simp only[↓zq,zs,ac,zt,aL,aM,aQ,bz,Ob.es]
  repeat refine⟨by omega,?_⟩
  refine aj hmk ?_
  simp only[↓zq,zs,ac,zt,aM,bM]
  repeat refine⟨by omega,?_⟩
  exact⟨rfl,rfl⟩
theorem xk(l r:List Nm):bP (l++r)=bP l++bP r:=by simp[bP]
def rm(os:List E):List Nm:=os.flatMap fun o=>kf o [] []
theorem vG{os:List E}{i:Nat}(h:i<os.length):(E.bw os).getD i []=[.v (.string (mk (os[i]).at)),(os[i]).sp]:=by
 have:∀(os:List E) (i:Nat) (h:i<os.length),(E.bw os).getD i []=(os[i]).iw:=by
  intro os
  induction os with
  |nil=>intro i h;simp at h
  |
   cons o os ih =>
   intro i h
   cases i with
   |zero=>simp[E.bw]
   |succ i=>simpa[E.bw]using ih i (by simpa using h)
 rw[this os i h,fN]
theorem zY(os:List E){i:Nat}(h:i<os.length):rm (os.drop i)=kf (os[i]) [] []++rm (os.drop (i+1)):=by
 unfold rm;rw[aU h,List.flatMap_cons]
theorem KH(a:AV)(os:List E)(ha:LK.sl.has a/\a.aP=E.bw os)(ho:∀o,o∈os->Wf o/\o.sz<5000)(hl:os.length<100)(t:ByteArray)(p:AV)(hp:LK.sl.has p):∀(k i:Nat) (F:List Nm),i+k=os.length->F.length<=5000+5000*i ->
 Hh [a,.v (.int .i64 (i:Int))] [.cells [.v (.string t),p],zE,.vec 1 (bP F)] (gV 1 [] [.cells [.v (.string t),p],zE,.vec 1 (bP (F++rm (os.drop i)))])
 |
  0,i,F,hi,hF=>by
  refine LA _ _ _ _ _ _ _ ?_
  have:i=os.length:=by omega
  subst this
  simp only[F1,↓zq,zs,ac,zt,ac,hp,bg,ha.1,ha.2,eg,List.drop_length]
  exact⟨fun h=>by omega,fun _=>by simp[gV,rm]⟩
 |
  k+1,i,F,hi,hF=>by
  have hlt:i<os.length:=by omega
  obtain⟨hw,hsz⟩:=ho _ (bD hlt)
  have hfl:=gl (os[i]) [] []
  refine LA _ _ _ _ _ _ _ ?_
  simp only[F1,↓zq,zs,ac,zt,ac,hp,bg,ha.1,ha.2,eg,vG hlt,aM,bN]
  refine⟨fun _=>?_,fun h=>by omega⟩
  repeat refine⟨by omega,?_⟩
  have hfre:=Dz hw [] [] (.sl []) (.of []) (by simp;omega)
  refine aX hfre ?_
  simp only[↓zq,zs,ac,zt,aQ,bz,Ob.es,ku,<-xk]
  rw[bA i (by omega),zY os hlt,<-bb]
  simp only[aH,a6]at hfl
  refine⟨⟨kk _,by omega⟩,?_⟩
  exact KH a os ha ho hl t p hp k (i+1) _ (by omega) (by simp;omega)
def Aw(e:E)(os:List E):List Nm:=kf e [] []++rm os
def Am(e:E)(os:List E):E:=(hZ (Aw e os) (cS e []) [] 0).1
theorem DZ{e:E}{os:List E}(h:e.sz<=2000)(ho:∀o,o∈os->Wf o/\o.sz<=2000)(hl:os.length<=2):(Aw e os).length<=6000:=by
 have h1:=gl e [] []
 have h2:∀(l:List E),(∀o,o∈l->o.sz<=2000)->(rm l).length<=2000*l.length:=by
  intro l
  induction l with
  |nil=>intro _;simp[rm]
  |
   cons o l ih =>
   intro hl
   have:=ih fun q hq=>hl q (al _ hq)
   have:=hl o ak
   have:=gl o [] []
   simp only[rm,List.flatMap_cons,aq,aA,aH]at *
   omega
 have:=h2 os fun o ho'=>(ho o ho').2
 simp only[Aw,aq,aH]at *
 omega
theorem DI{e:E}(h:Wf e)(a:AV)(os:List E)(ha:LK.sl.has a/\a.aP=E.bw os)(he:e.sz<=2000)(ho:∀o,o∈os->Wf o/\o.sz<=2000)(hl:os.length<=2) :
 an Tryz.prog 106 [.agg [.v (.string (mk e.at)),e.sp],a] [] (bK (.agg [.v (.string (mk (Am e os).at)),(Am e os).sp])):=by
 refine P4 _ _ _ ((aY _).mpr trivial) ha.1 ?_
 unfold KV
 have hfl:=gl e [] []
 simp only[aH,a6]at hfl
 have hap:=DZ he ho hl
 have hats:(cS e []).aE<=2000:=by
  rw[<-h.dc []]
  have:e.dc<=e.sz:=by
   clear hap hfl ha he ho hl
   induction h with
   |atom _=>simp[E.dc,E.sz]
   |plus _ _ i1 i2=>simp only[E.dc,E.eZ,E.sz,E.jv];omega
   |times _ _ i1 i2=>simp only[E.dc,E.eZ,E.sz,E.jv];omega
   |rc _ _ i=>simp only[E.dc,E.eZ,E.sz,E.jv];omega
  omega
 have hfre:=Dz h [] [] (.sl []) (.of []) (by simp;omega)
 simp only[↓zq,zs,ac,zt]
 refine aX hfre ?_
 simp only[↓zq,zs,ac,zt,aQ,bz,Ob.es]
 have hlp:=KH a os ha (fun o hq=>⟨(ho o hq).1,by have:=(ho o hq).2;omega⟩) (by omega) (mk e.at) e.sp ((aY _).mpr trivial) os.length 0 (kf e [] []) (by omega) (by omega)
 rw[be]at hlp
 refine cx hlp ?_
 simp only[↓zq,zs,ac,zt,ac,aL,bg,aY,aQ,bz,Ob.es]
 have hmul:((Aw e os).length+1)*(cS e []).aE<=6001*2000:=Nat.mul_le_mul (by omega) hats
 have hren:=O6 (Aw e os) (by omega) h [] [] (.sl []) (.sl []) 0 (.of []) (.of []) rfl (fun w hw=>by cases hw) (by simp;omega) (by omega)
 refine aX hren ?_
 simp only[↓zq,zs,ac,zt,aL,aM]
 repeat refine⟨by omega,?_⟩
 exact⟨rfl,rfl⟩
end Go.Proofs.Trees
namespace Go.Proofs.Trees
open Go Go.VL Go.RowKit
def gb(t:Ty):Prop:=jC t 0/\∀y,bn y t=true->qM y
theorem gI:∀(t:Ty) {i j:Nat},jC t i->i<=j->jC t j
 | .bT u,i,j,h,hj=>Nat.lt_of_lt_of_le h hj
 | .plus a b,i,j,h,hj=>⟨gI a h.1 hj,gI b h.2 hj⟩
 | .times a b,i,j,h,hj=>⟨gI a h.1 hj,gI b h.2 hj⟩
 | .rc a,i,j,h,hj=>gI (i:=i+1) (j:=j+1) a h (by omega)
 | .zero,_,_,_,_=>trivial
 | .one,_,_,_,_=>trivial
 | .name _,_,_,_,_=>trivial
theorem gO(x:Nm):∀(t:Ty) {i:Nat},jC t (i+1)->jC (dA (.name x) t i) i
 |
  .bT u,i,h=>by
  simp only[dA]
  split
  ·trivial
  ·have:u<i+1:=h
   show u<i;omega
 | .plus a b,i,h=>⟨gO x a h.1,gO x b h.2⟩
 | .times a b,i,h=>⟨gO x a h.1,gO x b h.2⟩
 | .rc a,i,h=>gO x (i:=i+1) a h
 | .zero,_,_=>trivial
 | .one,_,_=>trivial
 | .name _,_,_=>trivial
theorem kB{x:Nm}{u:Ty}(hu:jC u 0):∀(t:Ty) {i:Nat},jC t i->jC (sub x u t) i
 | .name s,i,_=>by simp only[sub];split;exact gI u hu (dQ _);trivial
 | .plus a b,i,h=>⟨kB hu a h.1,kB hu b h.2⟩
 | .times a b,i,h=>⟨kB hu a h.1,kB hu b h.2⟩
 | .rc a,i,h=>kB hu (i:=i+1) a h
 | .zero,_,_=>trivial
 | .one,_,_=>trivial
 | .bT _,_,h=>h
theorem Dv.lc{t d:Ty}{s:Nm}(h:Dv t s d):jC t 0->jC d 0:=by
 induction h with
 |zero s=>exact fun _=>trivial
 |one s=>exact fun _=>trivial
 |bT k s=>exact fun _=>trivial
 |hit s=>exact fun _=>trivial
 |qF h=>exact fun _=>trivial
 |plus h1 h2 hl i1 i2=>exact fun h=>⟨i1 h.1,i2 h.2⟩
 |times h1 h2 hl i1 i2=>exact fun h=>⟨⟨i1 h.1,h.2⟩,h.1,i2 h.2⟩
 |
  rc x hx hs h1 h2 hl i1 i2 =>
  intro h
  have g1:=kB (x:=x) h _ (i1 (gO x _ h))
  have g2:=kB (x:=x) h _ (i2 (gO x _ h))
  exact⟨gI _ g1 (by omega),gI _ g2 (by omega),Nat.zero_lt_one⟩
theorem Wf.qI{e:E}(h:Wf e):gb (cS e []):=⟨tR h [],fun y hy=>(nw h [] y hy).1⟩
theorem gb.dv{t d:Ty}{s:Nm}(g:gb t)(h:Dv t s d):gb d:=⟨h.lc g.1,fun y hy=>g.2 y (h.names y hy)⟩
theorem gb.tree{t:Ty}(g:gb t):∃e,Wf e/\cS e []=t:=by
 obtain⟨h1,h2,_⟩:=kC (bQ t []) t [] 0 (.nil _ _) g.1 fun y hy=>⟨(eU t [] y).2 (.inr hy),g.2 y hy⟩
 exact⟨_,h1,h2⟩
theorem gb.sub{x:Nm}{u t:Ty}(hu:gb u)(ht:gb t):gb (sub x u t):=⟨kB hu.1 t ht.1,fun y hy=>by
 rcases jo t hy with h|h
 ·exact hu.2 y h
 ·exact ht.2 y h.2⟩
def lq(o:Option Ty):AV->List Ob->Prop:=fun r ob=>ob=[]/\∃(c:Nm) (d:AV),LK.sl.has d/\r=.cD [.agg [.v (.string (mk c)),d],.v (.bool o.isSome)]/\∀t,o=some t->∃e,Wf e/\cS e []=t/\c=e.at/\d=e.sp
theorem lq.ne{o:Option Ty}(h:∀t,o=some t->gb t):∃r ob,lq o r ob:=by
 cases o with
 |none=>exact⟨_,_,rfl,[],xV,(bg).mpr trivial,rfl,fun t h=>by cases h⟩
 |
  some t =>
  obtain⟨e,h1,h2⟩:=(h t rfl).tree
  exact⟨_,_,rfl,e.at,e.sp,(aY _).mpr trivial,rfl,fun t' h'=>by cases h';exact⟨e,h1,h2,rfl,rfl⟩⟩
theorem lq.of{e:E}(h:Wf e):lq (some (cS e [])) (.cD [.agg [.v (.string (mk e.at)),e.sp],.v (.bool true)]) [] :=
 ⟨rfl,e.at,e.sp,(aY _).mpr trivial,rfl,fun t h'=>by cases h';exact⟨e,h,rfl,rfl,rfl⟩⟩
theorem lq.no(c:Nm)(d:AV)(hd:LK.sl.has d):lq none (.cD [.agg [.v (.string (mk c)),d],.v (.bool false)]) [] :=
 ⟨rfl,c,d,hd,rfl,fun t h'=>by cases h'⟩
theorem gJ{c:ByteArray}{d:AV}(h:LK.sl.has d):bF [.str,.sl] [.v (.string c),d] 0=True:=by simp[bF,dY,h]
theorem xq{e:E}{os:List E}(h:Wf e):Wf (Am e os)/\cS (Am e os) []=cS e []/\uc (·∉Aw e os) (Am e os):=by
 obtain⟨h1,h2,_,_,h5⟩:=kC (Aw e os) (cS e []) [] 0 (.nil _ _) (tR h []) fun y hy=>⟨aD _ ((lE h [] [] y).2 (.inr hy)),(nw h [] y hy).1⟩
 exact⟨h1,h2,h5⟩
theorem rE{os:List E}{o:E}(ho:o∈os)(hw:Wf o){y:Nm}(hy:bn y (cS o [])=true):y∈rm os :=
 List.mem_flatMap.2 ⟨o,ho,(lE hw [] [] y).2 (.inr hy)⟩
theorem sq{s:Nm}(hs:qM s):cS (.atom s) []=.name s:=jn hs (by simp)
theorem NN{x:Nm}(hx:qM x){e u:E}(h:Wf e)(hu:Wf u)(hl:e.dc<=400)(hlu:u.dc<=400):∃g,Wf g/\cS g []=sub x (cS u []) (cS e [])/\an Tryz.prog 172 [.agg [.v (.string (mk e.at)),e.sp],.v (.string (mk x)),.agg [.v (.string (mk u.at)),u.sp]] [] (bK (.agg [.v (.string (mk g.at)),g.sp])):=by
 obtain⟨w1,w2,w3⟩:=xq (os:=[u,.atom x]) h
 have hap:uc (fun n=>n≠x/\bn n (cS u [])=false) (Am e [u,.atom x]):=A7 (fun n hn=>⟨fun e1=>hn (by
  subst e1
  exact aB _ (rE (o:=.atom n) (by simp) (.atom hx.1) (by rw[sq hx];simp[bn]))),by
  cases q:bn n (cS u [])with
  |false=>rfl
  |true=>exact absurd (aB _ (rE (o:=u) (by simp) hu q)) hn⟩) w1 w3
 obtain⟨p1,p2⟩:=DV hx hu w1 hap [] (by simp) (fun y hy=>by cases hy)
 refine⟨_,p1,by rw[p2,w2],?_⟩
 refine Q4 _ _ _ _ _ ((aY _).mpr trivial) ((aY _).mpr trivial) ?_
 unfold Jh
 have s1:=h.sz
 have s2:=hu.sz
 have hA:=DI h (.sl [[.v (.string (mk u.at)),u.sp],[.v (.string (mk x)),xV]]) [u,.atom x] ⟨(cg _).mpr trivial,by simp only[fm,E.bw,fN];rfl⟩ (by omega) (fun o ho=>by
  simp only[aJ,List.not_mem_nil,or_false]at ho
  rcases ho with rfl|rfl
  ·exact⟨hu,by omega⟩
  ·exact⟨.atom hx.1,by simp[E.sz]⟩) (by simp)
 refine aj hA ?_
 simp only[↓zq,zs,ac,zt,aM]
 repeat refine⟨by omega,?_⟩
 refine aj (Pe x u w1) ?_
 simp only[↓zq,zs,ac,zt,aM]
 repeat refine⟨by omega,?_⟩
 exact⟨rfl,rfl⟩
theorem Fj{x:Nm}(hx:qM x){e u:E}(h:Wf e)(hu:Wf u)(hl:e.dc<=400)(hlu:u.dc<=400):an Tryz.prog 167 [.agg [.v (.string (mk e.at)),e.sp],.v (.string (mk x)),.agg [.v (.string (mk u.at)),u.sp]] [] (lq (nJ (sub x (cS u []) (cS e [])))):=by
 refine Pk _ _ _ _ _ ((aY _).mpr trivial) ((aY _).mpr trivial) ?_
 unfold J2
 refine aj (KI hx h hu (by omega) (by omega)) ?_
 simp only[↓zq,zs,ac,zt]
 refine⟨fun hn=>?_,fun hy=>?_⟩
 ·rw[show nJ (sub x (cS u []) (cS e []))=none by unfold nJ;rw[if_neg hn]]
  exact lq.no _ _ ((aY _).mpr trivial)
 ·rw[show nJ (sub x (cS u []) (cS e []))=some (sub x (cS u []) (cS e [])) by unfold nJ;rw[if_pos hy]]
  obtain⟨g,g1,g2,g3⟩:=NN hx h hu hl hlu
  refine aj g3 ?_
  simp only[↓zq,zs,ac,zt,aM]
  repeat refine⟨by omega,?_⟩
  rw[<-g2]
  exact lq.of g1
end Go.Proofs.Trees
namespace Go.Proofs.Trees
open Go Go.VL Go.RowKit
def qh(l:List UInt8):List (List AV):=l.map fun(x:UInt8)=>[.v (.int .u8 (x.toNat:Int))]
structure su(b:AV)(l:List UInt8):Prop where
 has:LK.sl.has b
 el:b.aP=qh l
 len:l.length<=2000
theorem su.ln{b:AV}{l:List UInt8}(h:su b l):b.aP.length=l.length:=by rw[h.el];simp[qh]
theorem su.get{b:AV}{l:List UInt8}(h:su b l){i:Nat}(hi:i<l.length):b.aP.getD i []=[.v (.int .u8 ((l[i]).toNat:Int))]:=by rw[h.el];simp[qh,aa,hi]
def fe(b:AV)(p c:Nat)(X:AV->Prop):AV->List Ob->Prop:=fun r o=>∃q:Nat,p<=q/\q<=p+c/\X r/\o=[.cells [b,.v (.int .i64 (q:Int))]]
theorem fe.ne{b:AV}{p c:Nat}{X:AV->Prop}{r:AV}(h:X r):∃r o,fe b p c X r o:=⟨r,_,p,au _,db _ _,h,rfl⟩
theorem C7{a b:Int}(ha:0<=a)(hb:0<=b)(ha':a<9223372036854775808)(hb':b<9223372036854775808):∃W:Nat,Bl .i64 a b=(W:Int):=by
 obtain⟨x,rfl⟩:∃x:Nat,a=(x:Int):=⟨a.toNat,by omega⟩
 obtain⟨y,rfl⟩:∃y:Nat,b=(y:Int):=⟨b.toNat,by omega⟩
 have e1:(BitVec.ofInt 64 (x:Int)).toNat=x:=by simp;omega
 have e2:(BitVec.ofInt 64 (y:Int)).toNat=y:=by simp;omega
 have hlt:x ^^^ y<2 ^ 63:=Nat.xor_lt_two_pow (by omega) (by omega)
 refine⟨x ^^^ y,?_⟩
 unfold Bl
 have e3:(BitVec.ofInt (IntKind.bits .i64) (x:Int) ^^^ BitVec.ofInt (IntKind.bits .i64) (y:Int)).toNat=x ^^^ y:=by
  show (BitVec.ofInt 64 (x:Int) ^^^ BitVec.ofInt 64 (y:Int)).toNat=_
  rw[BitVec.toNat_xor,e1,e2]
 rw[e3,VL.wrap64]<;>omega
theorem yd(a b:Nat):Int.tdiv (a:Int) (b:Int)=((a/b:Nat):Int):=(Int.ofNat_tdiv a b).symm
theorem qT(a b:Nat):dH (a:Int) (b:Int)=((a%b:Nat):Int):=(Int.ofNat_tmod a b).symm
theorem wy(n:Nat)(h:n<9223372036854775808):IntKind.wrap .i64 (n:Int)=(n:Int):=VL.wrap64 _ (by omega) (by omega)
def EX(n:Nat):AV->Prop:=fun r=>∃k:Nat,r=.v (.int .i64 (k:Int))/\(1<=n->k<n)/\k<=n
abbrev qc:Nat:=1000000000000000
theorem vu(b:AV)(l:List UInt8)(hb:su b l)(p n:Nat)(hp:p<2*qc)(hn:n<qc):an Tryz.prog 81 [.ref 0 0,.v (.int .i64 (n:Int))] [.cells [b,.v (.int .i64 (p:Int))]] (fe b p 1 (EX n)):=by
 refine O9 _ _ _ hb.has ?_
 have e1:IntKind.wrap .i64 ((p:Int)+1)=((p+1:Nat):Int):=by rw[VL.wrap64]<;>simp[qc]at hp<;>omega
 have e2:IntKind.wrap .i64 (((p+1:Nat):Int)-1)=(p:Int):=by rw[VL.wrap64]<;>simp[qc]at hp<;>omega
 have fin:∀k:Nat,(1<=n->k<n)->k<=n->fe b p 1 (EX n) (.v (.int .i64 (k:Int))) [.cells [b,.v (.int .i64 ((p+1:Nat):Int))]]:=fun k h h'=>⟨p+1,by omega,au _,⟨k,rfl,h,h'⟩,rfl⟩
 simp only[J3,↓zq,zs,ac,e1,e2,hb.ln,yd,qT]
 refine⟨fun h=>fin 0 (fun h'=>by omega) (dQ _),fun h=>⟨hb.has,fun h0=>fin 0 (fun h'=>by omega) (dQ _),fun h0=>?_⟩⟩
 have hl:0<l.length:=by omega
 have hll:=hb.len
 refine⟨hb.has,fun hlt=>?_,fun hge=>?_⟩
 ·have hlt:p<l.length:=by omega
  have hx:=(l[p]).toNat_lt
  simp only[bN,hb.get hlt,hb.has,↓zq,zs,ac]
  rw[wy _ (by omega),qT]
  have:=fin ((l[p]).toNat%n) (fun h'=>Nat.mod_lt _ (by omega)) (Nat.le_of_lt (Nat.mod_lt _ (by omega)))
  repeat (first|exact this|refine⟨by omega,?_⟩)
 ·have h1:p%l.length<l.length:=Nat.mod_lt _ hl
  have e3:IntKind.wrap .i64 ((p:Int)*7)=((p*7:Nat):Int):=by rw[VL.wrap64]<;>simp[qc]at hp<;>omega
  have e4:IntKind.wrap .i64 (((p*7:Nat):Int)+3)=((p*7+3:Nat):Int):=by rw[VL.wrap64]<;>simp[qc]at hp<;>omega
  have h2:(p*7+3)%l.length<l.length:=Nat.mod_lt _ hl
  have hx:=(l[p%l.length]).toNat_lt
  have hy:=(l[(p*7+3)%l.length]).toNat_lt
  have hq:p/l.length<=p:=Nat.div_le_self _ _
  simp only[e3,e4,qT,bN,hb.get h1,hb.get h2,hb.has,↓zq,zs,ac]
  generalize hxx:(l[p%l.length]).toNat=x at hx |-
  generalize hyy:(l[(p*7+3)%l.length]).toNat=y at hy |-
  generalize hqq:p/l.length=q at hq |-
  have f1:IntKind.wrap .i64 ((x:Int))=(x:Int):=wy _ (by omega)
  have f2:IntKind.wrap .i64 ((y:Int))=(y:Int):=wy _ (by omega)
  have f3:IntKind.wrap .i64 ((x:Int)*131)=((x*131:Nat):Int):=by rw[VL.wrap64]<;>omega
  have f4:IntKind.wrap .i64 ((y:Int)*1117)=((y*1117:Nat):Int):=by rw[VL.wrap64]<;>omega
  have f5:IntKind.wrap .i64 (((x*131:Nat):Int)+((y*1117:Nat):Int))=((x*131+y*1117:Nat):Int):=by rw[VL.wrap64]<;>omega
  have f6:IntKind.wrap .i64 ((p:Int)*29)=((p*29:Nat):Int):=by rw[VL.wrap64]<;>simp[qc]at hp<;>omega
  have f7:IntKind.wrap .i64 (((x*131+y*1117:Nat):Int)+((p*29:Nat):Int))=((x*131+y*1117+p*29:Nat):Int):=by rw[VL.wrap64]<;>simp[qc]at hp<;>omega
  have f8:IntKind.wrap .i64 ((q:Int))=(q:Int):=wy _ (by simp[qc]at hp;omega)
  have f9:IntKind.wrap .i64 ((q:Int)*53)=((q*53:Nat):Int):=by rw[VL.wrap64]<;>simp[qc]at hp<;>omega
  have f10:IntKind.wrap .i64 (((x*131+y*1117+p*29:Nat):Int)+((q*53:Nat):Int))=((x*131+y*1117+p*29+q*53:Nat):Int):=by rw[VL.wrap64]<;>simp[qc]at hp<;>omega
  simp only[f1,f2,f3,f4,f5,f6,f7,f8,f9,f10]
  generalize hV:x*131+y*1117+p*29+q*53=V
  have hVl:V<1000000000000000000:=by simp[qc]at hp;omega
  have f11:IntKind.wrap .i64 (Int.tdiv (V:Int) 64)=((V/64:Nat):Int):=by
   have:Int.tdiv (V:Int) 64=((V/64:Nat):Int):=yd V 64
   rw[this,wy _ (by omega)]
  rw[f11]
  obtain⟨W,hW⟩:=C7 (a:=(V:Int)) (b:=((V/64:Nat):Int)) (by omega) (by omega) (by omega) (by omega)
  rw[hW,qT]
  have:=fin (W%n) (fun h'=>Nat.mod_lt _ (by omega)) (Nat.le_of_lt (Nat.mod_lt _ (by omega)))
  repeat (first|exact this|refine⟨by omega,?_⟩)
def kW(L:List (List UInt8)):AV->Prop:=fun r=>∃s,s∈L/\r=.v (.string (mk s))
theorem D7(b:AV)(l:List UInt8)(hb:su b l)(p:Nat)(hp:p<2*qc)(L:List (List UInt8))(a:AV)(ha:cH a L)(hL:0<L.length)(hLl:L.length<1000000):an Tryz.prog 102 [.ref 0 0,a] [.cells [b,.v (.int .i64 (p:Int))]] (fe b p 1 (kW L)):=by
 refine QK _ _ _ ha.1 hb.has ?_
 unfold Mr
 simp only[↓zq,zs,ac,ha.len]
 refine⟨ha.1,?_⟩
 have hpk:=vu b l hb p L.length hp (by simp[qc];omega)
 refine aR hpk (fe.ne ⟨0,rfl,fun h=>h,dQ _⟩) ?_
 rintro r o ⟨q,h1,h2,⟨k,rfl,h3,h4⟩,rfl⟩
 have hk:=h3 hL
 simp only[↓zq,zs,ac,zt,aL,hb.has,ha.idx hk,bN]
 refine⟨⟨ha.1,by omega⟩,?_⟩
 have:fe b p 1 (kW L) (.v (.string (mk (L.getD k [])))) [.cells [b,.v (.int .i64 (q:Int))]]:=⟨q,h1,h2,⟨_,by simp[aa,hk],rfl⟩,rfl⟩
 repeat (first|exact this|refine⟨by omega,?_⟩)
def gA(n:Nat):AV->Prop:=fun r=>∃s:List UInt8,r=.v (.string (mk s))/\s.length<=n
theorem kW.cE{L:List (List UInt8)}{n:Nat}(h:∀s,s∈L->s.length<=n){r:AV}(hr:kW L r):gA n r:=by
 obtain⟨s,h1,h2⟩:=hr;exact⟨s,h2,h s h1⟩
end Go.Proofs.Trees
namespace Go.Proofs.Trees
open Go Go.VL Go.RowKit
def jX:AV->List Ob->Prop:=fun r o=>o=[]/\∃b:Bool,r=.v (.bool b)
theorem jX.ne:∃r o,jX r o:=⟨_,_,rfl,true,rfl⟩
theorem jX.mk(b:Bool):jX (.v (.bool b)) []:=⟨rfl,b,rfl⟩
theorem jX.call{n:Nat}{f:Nat}{xs:List AV}{k:AV->List Ob->Tree}{Q:Nat->List AV->List Ob->Prop}(h:an Tryz.prog f xs [] jX)(hk:∀b:Bool,eX Tryz.prog n (k (.v (.bool b)) []) Q):eX Tryz.prog n (.call f xs [] k) Q :=
 aR h jX.ne (by rintro r o ⟨rfl,b,rfl⟩;exact hk b)
theorem MC{e:E}(h:Wf e):∀(l:List Nm) (a:AV),cH a l->l.length+e.sz<100000->an Tryz.prog 139 [.agg [.v (.string (mk e.at)),e.sp],a] [] jX:=by
 induction h with
 |
  @atom s hs =>
  intro l a ha hl
  simp only[E.sz]at hl
  refine DN _ _ _ ((aY _).mpr trivial) ha.1 ?_
  simp only[AR,dT,↓zq,zs,ac]
  refine aj (Ap s _ ((aY (.atom s)).mpr trivial) hs) ?_
  simp only[↓zq,zs,ac,zt,ha.1]
  refine⟨fun h=>(by cases h),fun _=>⟨fun h=>(by cases h),fun _=>⟨fun h=>(by cases h),fun _=>⟨fun _=>.mk true,fun _=>?_⟩⟩⟩⟩
  refine aj (Ga l a ha s (by omega)) ?_
  simp only[↓zq,zs,ac]
  exact .mk _
 |
  @plus x y hx hy i1 i2 =>
  intro l a ha hl
  simp only[E.sz,E.jv]at hl
  refine DN _ _ _ ((aY _).mpr trivial) ha.1 ?_
  have hP:=P3.of (.atom [43]) x y
  simp only[AR,bM,toNat_one,bh,↓zq,zs,ac,zt,hP.1,hP.2.1,hP.2.2.1,hP.2.2.2,aM]
  refine aj (oj [43] x y) ?_
  simp only[↓zq,zs,ac,zt,ha.1,aM]
  refine⟨fun _=>⟨by omega,by omega,jX.call (i1 l a ha (by omega)) fun b=>?_⟩,fun h=>absurd rfl h⟩
  simp only[↓zq,zs,ac]
  refine⟨fun _=>⟨by omega,by omega,jX.call (i2 l a ha (by omega)) fun b=>?_⟩,fun _=>.mk _⟩
  simp only[↓zq,zs,ac]
  exact .mk _
 |
  @times x y hx hy i1 i2 =>
  intro l a ha hl
  simp only[E.sz,E.jv]at hl
  refine DN _ _ _ ((aY _).mpr trivial) ha.1 ?_
  have hP:=P3.of (.atom [42]) x y
  simp only[AR,bM,toNat_one,bh,↓zq,zs,ac,zt,hP.1,hP.2.1,hP.2.2.1,hP.2.2.2,aM]
  refine aj (oj [42] x y) ?_
  simp only[↓zq,zs,ac,zt,ha.1,aM]
  refine⟨fun h=>(by cases h),fun _=>⟨fun _=>⟨by omega,by omega,jX.call (i1 l a ha (by omega)) fun b=>?_⟩,fun h=>absurd rfl h⟩⟩
  simp only[↓zq,zs,ac]
  refine⟨fun _=>.mk _,fun _=>⟨by omega,by omega,jX.call (i2 l a ha (by omega)) fun b=>?_⟩⟩
  simp only[↓zq,zs,ac]
  exact .mk _
 |
  @rc n b hn hb i =>
  intro l a ha hl
  simp only[E.sz,E.jv]at hl
  refine DN _ _ _ ((aY _).mpr trivial) ha.1 ?_
  have hP:=P3.of (.atom dF) (.atom n) b
  simp only[AR,bM,toNat_one,bh,↓zq,zs,ac,zt,hP.1,hP.2.1,hP.2.2.1,hP.2.2.2,aM]
  refine aj (oj dF (.atom n) b) ?_
  simp only[↓zq,zs,ac,zt,ha.1,aM]
  refine⟨fun h=>(by cases h),fun _=>⟨fun h=>(by cases h),fun _=>⟨fun _=>⟨by omega,by omega,by omega,by omega,?_⟩,fun h=>absurd rfl h⟩⟩⟩
  refine aX (wD l a ha n (by omega)) ?_
  simp only[↓zq,zs,ac,zt,Ob.es,aQ]
  refine⟨eF _,?_⟩
  refine jX.call (i (l++[n]) _ (.of _) (by simp;omega)) fun b=>?_
  simp only[↓zq,zs,ac]
  exact .mk _
def SA:AV->List Ob->Prop:=fun r o=>o=[]/\∃(g:E) (b:Bool),r=.cD [.agg [.v (.string (mk g.at)),g.sp],.v (.bool b)]/\Wf g/\g.dc<=400
theorem RX{n:Nm}{b:E}(hn:qM n)(hb:Wf b)(hl:(E.list [.atom dF,.atom n,b]).dc<=400):an Tryz.prog 141 [.agg [.v (.string (mk [])),(E.list [.atom dF,.atom n,b]).sp]] [] SA:=by
 have hw:Wf (.list [.atom dF,.atom n,b]):=.rc hn hb
 refine PI _ _ ((aY _).mpr trivial) ?_
 have hP:=P3.of (.atom dF) (.atom n) b
 have hbl:b.dc<=400:=by simp only[E.dc,E.eZ]at hl;omega
 simp only[L8,toNat_one,bh,↓zq,zs,ac,zt,hP.1,hP.2.1,hP.2.2.1,hP.2.2.2,aM]
 refine⟨by omega,by omega,by omega,by omega,?_⟩
 have hf:=KI hn hb hw (by omega) (by omega)
 obtain⟨g,g1,g2,g3⟩:=NN hn hb hw hbl hl
 simp only[bM]at hf g3
 refine aj hf ?_
 simp only[↓zq,zs,ac,zt,aM]
 refine⟨fun h=>⟨rfl,_,false,rfl,hw,hl⟩,fun h=>?_⟩
 repeat refine⟨by omega,?_⟩
 refine aj g3 ?_
 simp only[↓zq,zs,ac,zt,aM]
 refine⟨rfl,g,true,rfl,g1,?_⟩
 rw[g1.dc [],g2]
 simpa using h
end Go.Proofs.Trees
namespace Go.Proofs.Trees
open Go Go.VL Go.RowKit
def j6(n:Nat):AV->Prop:=fun r=>∃e:E,r=.agg [.v (.string (mk e.at)),e.sp]/\e.ok/\(fg e).length<=n
theorem j6.u(n:Nat)(h:1<=n):j6 n (.agg [.v (.string (mk [117])),.v (.slice none 0 0)]):=⟨.atom [117],rfl,by simp[E.ok],by simpa[fg]using h⟩
def j9(b:AV)(d:Int)(e:E)(B C:Nat):Prop:=∀p:Nat,p+C<qc->an Tryz.prog 105 [.ref 0 0,.agg [.v (.string (mk e.at)),e.sp],.v (.int .i64 d)] [.cells [b,.v (.int .i64 (p:Int))]] (fe b p C (j6 B))
theorem j9.mono{b:AV}{d:Int}{e:E}{B C B' C':Nat}(h:j9 b d e B C)(hB:B<=B')(hC:C<=C'):j9 b d e B' C':=fun p hp=>an.mono (h p (by omega)) fun r o ⟨q,h1,h2,⟨g,h3,h4,h5⟩,h6⟩=>⟨q,h1,by omega,⟨g,h3,h4,by omega⟩,h6⟩
theorem oC(b:AV)(p C B:Nat)(h:1<=B):∃r o,fe b p C (j6 B) r o:=fe.ne (j6.u B h)
theorem Tm(w:Nm)(e:E)(h:w.length=1):(fg (.list [.atom w,e])).length=(fg e).length+4:=by
 simp[fg,ej];omega
theorem Tb(w:Nm)(e f:E)(h:w.length=1):(fg (.list [.atom w,e,f])).length=(fg e).length+(fg f).length+5:=by
 simp[fg,ej];omega
theorem M3{b:AV}{p q q' C B:Nat}{w:Nm}{e:E}(hw:w.length=1)(h1:p<=q)(h2:q<=p+1)(h3:q<=q')(h4:q'<=q+C)(ho:e.ok)(hl:(fg e).length<=B) :
 fe b p (C+1) (j6 (B+5)) (.agg [.v (.string (mk [])),(E.list [.atom w,e]).sp]) [.cells [b,.v (.int .i64 (q':Int))]] :=
 ⟨q',by omega,by omega,⟨.list [.atom w,e],rfl,⟨by intro h;rw[h]at hw;simp at hw,ho,trivial⟩,by rw[Tm w e hw];omega⟩,rfl⟩
theorem J0(b:AV)(l:List UInt8)(hb:su b l)(d:Int){s:Nm}(hs:s≠[]):j9 b d (.atom s) 5 1:=by
 intro p hp
 refine D5 _ _ _ _ _ ((aY (.atom s)).mpr trivial) hb.has ?_
 simp only[AT,dT,↓zq,zs,ac]
 refine aj (Ap s _ ((aY (.atom s)).mpr trivial) hs) ?_
 simp only[↓zq,zs,ac,zt]
 refine⟨fun h=>(by cases h),fun _=>⟨fun h=>(by cases h),fun _=>⟨fun h=>(by cases h),fun _=>⟨fun _=>?_,fun _=>?_⟩⟩⟩⟩
 ·exact⟨p,au _,by omega,j6.u 5 (by omega),rfl⟩
 ·refine aR (vu b l hb p 3 (by omega) (by decide)) (fe.ne ⟨0,rfl,fun h=>by omega,by omega⟩) ?_
  rintro r o ⟨q,h1,h2,⟨k,rfl,h3,h4⟩,rfl⟩
  have hk:k<3:=h3 (by omega)
  simp only[↓zq,zs,ac,aL,hb.has]
  refine aj (zL (k+1) k (by omega) (by omega)) ?_
  have hd:dd k=[bj (48+k)]:=eK (by omega)
  simp only[↓zq,zs,ac,zt,hd]
  refine⟨by simp,q,h1,h2,⟨.atom ([101]++[bj (48+k)]),rfl,by simp[E.ok],by simp[fg]⟩,rfl⟩
theorem LW(b:AV)(l:List UInt8)(hb:su b l)(d:Int)(hd:-100000<=d/\d<=100000){n:Nm}{e:E}(hn:qM n)(he:Wf e)(hl:(E.list [.atom dF,.atom n,e]).dc<=400)(B C:Nat)(ih:-12<=d->∀g,Wf g->g.dc<=400->j9 b (d-1) g B C)(hB:1<=B):j9 b d (.list [.atom dF,.atom n,e]) (B+5) (C+1):=by
 intro p hp
 refine D5 _ _ _ _ _ ((aY _).mpr trivial) hb.has ?_
 have ed:IntKind.wrap .i64 (d-1)=d-1:=VL.wrap64 _ (by omega) (by omega)
 simp only[AT,bM,↓zq,zs,ac,ed]
 refine aj (oj dF (.atom n) e) ?_
 simp only[↓zq,zs,ac,zt]
 have hu:=RX hn he hl
 refine⟨fun h=>(by cases h),fun _=>⟨fun h=>(by cases h),fun _=>⟨fun _=>?_,fun h=>absurd rfl h⟩⟩⟩
 refine aR hu ⟨_,_,rfl,.atom [117],true,rfl,.atom (by simp),by simp[E.dc]⟩ ?_
 rintro r o ⟨rfl,g,c,rfl,g1,g2⟩
 have u:fe b p (C+1) (j6 (B+5)) (.agg [.v (.string (mk [117])),.v (.slice none 0 0)]) [.cells [b,.v (.int .i64 (p:Int))]]:=⟨p,au _,by omega,j6.u _ (by omega),rfl⟩
 simp only[↓zq,zs,ac,zt,aM]
 refine⟨fun _=>u,fun _=>⟨fun _=>u,fun hd2=>?_⟩⟩
 refine aR (ih (by omega) g g1 g2 p (by omega)) (oC b p C B hB) ?_
 rintro r o ⟨q,h1,h2,⟨f,rfl,h4,h5⟩,rfl⟩
 simp only[↓zq,zs,ac,zt,aL,hb.has,aM]
 repeat refine⟨by omega,?_⟩
 refine aj (wR [102] f) ?_
 simp only[↓zq,zs,ac,zt,aL,hb.has,aM]
 have fin:=M3 (b:=b) (w:=[102]) rfl (au p) (by omega) h1 h2 h4 h5
 first|exact fin|exact⟨by omega,fin⟩
theorem Jg(b:AV)(l:List UInt8)(hb:su b l)(d:Int)(hd:-100000<=d/\d<=100000){x y:E}(hx:Wf x)(hy:Wf y)(B1 C1 B2 C2:Nat)(ix:j9 b (d-1) x B1 C1)(iy:j9 b (d-1) y B2 C2)(hB:1<=B1)(hB2:1<=B2):j9 b d (.list [.atom [42],x,y]) (B1+B2+5) (C1+C2+1):=by
 intro p hp
 refine D5 _ _ _ _ _ ((aY _).mpr trivial) hb.has ?_
 have ed:IntKind.wrap .i64 (d-1)=d-1:=VL.wrap64 _ (by omega) (by omega)
 have hP:=P3.of (.atom [42]) x y
 simp only[AT,bM,toNat_one,bh,↓zq,zs,ac,zt,hP.1,hP.2.1,hP.2.2.1,hP.2.2.2,aM,ed]
 refine aj (oj [42] x y) ?_
 simp only[↓zq,zs,ac,zt]
 refine⟨fun h=>(by cases h),fun _=>⟨fun _=>?_,fun h=>absurd rfl h⟩⟩
 refine⟨by omega,by omega,aR (ix p (by omega)) (oC b p C1 B1 hB) ?_⟩
 rintro r o ⟨q,h1,h2,⟨f,rfl,h4,h5⟩,rfl⟩
 simp only[↓zq,zs,ac,zt,aL,hb.has,aM]
 repeat refine⟨by omega,?_⟩
 refine aR (iy q (by omega)) (oC b q C2 B2 hB2) ?_
 rintro r o ⟨q',g1,g2,⟨g,rfl,g4,g5⟩,rfl⟩
 simp only[↓zq,zs,ac,zt,aL,hb.has,aM]
 repeat refine⟨by omega,?_⟩
 refine aj (xm [112] f g) ?_
 simp only[↓zq,zs,ac,zt,aL,hb.has,aM]
 have fin:fe b p (C1+C2+1) (j6 (B1+B2+5)) (.agg [.v (.string (mk [])),(E.list [.atom [112],f,g]).sp]) [.cells [b,.v (.int .i64 (q':Int))]]:=⟨q',by omega,by omega,⟨.list [.atom [112],f,g],rfl,⟨by simp[E.ok],h4,g4,trivial⟩,by rw[Tb [112] f g rfl];omega⟩,rfl⟩
 first|exact fin|exact⟨by omega,fin⟩
theorem N0(b:AV)(l:List UInt8)(hb:su b l)(d:Int)(hd:-100000<=d/\d<=100000){x y:E}(hx:Wf x)(hy:Wf y)(hl:(E.list [.atom [43],x,y]).dc<=400)(B C:Nat)(ix:j9 b (d-1) x B C)(iy:j9 b (d-1) y B C)(hB:1<=B):j9 b d (.list [.atom [43],x,y]) (B+5) (C+1):=by
 intro p hp
 refine D5 _ _ _ _ _ ((aY _).mpr trivial) hb.has ?_
 have ed:IntKind.wrap .i64 (d-1)=d-1:=VL.wrap64 _ (by omega) (by omega)
 have hP:=P3.of (.atom [43]) x y
 simp only[E.dc,E.eZ]at hl
 have s1:=hx.sz
 have s2:=hy.sz
 simp only[AT,bM,toNat_one,bh,↓zq,zs,ac,zt,hP.1,hP.2.1,hP.2.2.1,hP.2.2.2,aM,ed]
 refine aj (oj [43] x y) ?_
 simp only[↓zq,zs,ac,zt]
 refine⟨fun _=>?_,fun h=>absurd rfl h⟩
 refine aR (vu b l hb p 2 (by omega) (by decide)) (fe.ne ⟨0,rfl,fun h=>by omega,by omega⟩) ?_
 rintro r o ⟨q,h1,h2,⟨k,rfl,_,_⟩,rfl⟩
 simp only[↓zq,zs,ac,zt,aL,hb.has,aM]
 have ex:=MC hx [] (.sl []) (.of []) (by simp;omega)
 have ey:=MC hy [] (.sl []) (.of []) (by simp;omega)
 have ax:=DO x hx.ok (by omega)
 have ay:=DO y hy.ok (by omega)
 rw[dj]at ax ay
 have lx:=ix q (by omega)
 have ly:=iy q (by omega)
 have t:=oC b q C B hB
 have leaf:∀(w:Nm) (q':Nat) (f:E),w.length=1->q<=q'->q'<=q+C->f.ok->(fg f).length<=B->fe b p (C+1) (j6 (B+5)) (.agg [.v (.string (mk [])),(E.list [.atom w,f]).sp]) [.cells [b,.v (.int .i64 (q':Int))]]:=fun w q' f hw g1 g2 h4 h5=>M3 hw h1 h2 g1 g2 h4 h5
 repeat' first
  |intro _
  |refine⟨by omega,?_⟩
  |(
   with_reducible refine aR lx t ?_
   rintro r o ⟨q',g1,g2,⟨f,rfl,h4,h5⟩,rfl⟩
   simp only[↓zq,zs,ac,zt,aL,hb.has,aM]
   repeat refine⟨by omega,?_⟩
   refine aj (wR _ f) ?_
   simp only[↓zq,zs,ac,zt,aL,hb.has,aM]
   have fin:=leaf [108] q' f rfl g1 g2 h4 h5
   first|exact fin|exact⟨by omega,fin⟩)
  |(
   with_reducible refine aR ly t ?_
   rintro r o ⟨q',g1,g2,⟨f,rfl,h4,h5⟩,rfl⟩
   simp only[↓zq,zs,ac,zt,aL,hb.has,aM]
   repeat refine⟨by omega,?_⟩
   refine aj (wR _ f) ?_
   simp only[↓zq,zs,ac,zt,aL,hb.has,aM]
   have fin:=leaf [114] q' f rfl g1 g2 h4 h5
   first|exact fin|exact⟨by omega,fin⟩)
  |(with_reducible refine jX.call ex fun _=>?_;simp only[↓zq,zs,ac,zt,aM])
  |(with_reducible refine jX.call ey fun _=>?_;simp only[↓zq,zs,ac,zt,aM])
  |(with_reducible refine aj ax ?_;simp only[↓zq,zs,ac,zt,aM])
  |(with_reducible refine aj ay ?_;simp only[↓zq,zs,ac,zt,aM])
  |with_reducible refine aI ?_ ?_
  |(exfalso;omega)
end Go.Proofs.Trees
namespace Go.Proofs.Trees
open Go Go.VL Go.RowKit
def nB:Nat->Nat
 |0=>2
 |d+1=>2*nB d+15
def nE:Nat->Nat
 |0=>3
 |d+1=>2*nE d+8
theorem PU(d:Nat):2<=nB d:=by cases d<;>simp only[nB]<;>omega
theorem PW(d:Nat):3<=nE d:=by cases d<;>simp only[nE]<;>omega
theorem Hk:∀d:Nat,d<=10->nB d<=100000000
 |0,_=>by decide
 |1,_=>by decide
 |2,_=>by decide
 |3,_=>by decide
 |4,_=>by decide
 |5,_=>by decide
 |6,_=>by decide
 |7,_=>by decide
 |8,_=>by decide
 |9,_=>by decide
 |10,_=>by decide
 |d+11,h=>by omega
theorem BR(b:AV)(l:List UInt8)(hb:su b l)(p:Nat)(hp:p<2*qc):an Tryz.prog 80 [.ref 0 0] [.cells [b,.v (.int .i64 (p:Int))]] (fe b p 1 (gA 60)):=by
 refine Se _ _ hb.has ?_
 unfold Md
 refine aR (D7 b l hb p hp _ _ (.of [_,_,_,_,_,_,_]) (by simp) (by simp)) (fe.ne ⟨_,ak,rfl⟩) ?_
 rintro r o ⟨q,h1,h2,hr,rfl⟩
 obtain⟨s,rfl,hs⟩:=kW.cE (n:=60) (by decide) hr
 simp only[↓zq,zs,ac,aL,hb.has]
 exact⟨q,h1,h2,⟨s,rfl,hs⟩,rfl⟩
theorem HQ(b:AV)(l:List UInt8)(hb:su b l):∀(d:Nat),d<=10->∀(p:Nat) (ls:List (List UInt8)) (a:AV),cH a ls->(∀s,s∈ls->s.length<=2)->ls.length+d<=100->p+nE d<2*qc ->
 an Tryz.prog 136 [.ref 0 0,a,.v (.int .i64 (d:Int))] [.cells [b,.v (.int .i64 (p:Int))]] (fe b p (nE d) (gA (nB d))):=by
 intro d
 induction d with
 |
  zero =>
  intro hd p ls a ha hls hll hp
  simp only[nE]at hp
  refine NQ _ _ _ _ ha.1 hb.has ?_
  simp only[G1,↓zq,zs,ac,ha.len]
  refine⟨fun _=>⟨ha.1,fun hpos=>?_,fun _=>?_⟩,fun h=>by omega⟩
  ·refine aR (vu b l hb p 3 (by omega) (by decide)) (fe.ne ⟨0,rfl,fun h=>by omega,by omega⟩) ?_
   rintro r o ⟨q1,h1,h2,⟨k,rfl,h3,h4⟩,rfl⟩
   simp only[↓zq,zs,ac,aL,hb.has]
   refine⟨fun _=>⟨ha.1,?_⟩,fun _=>?_⟩
   ·refine aR (vu b l hb q1 ls.length (by omega) (by simp[qc];omega)) (fe.ne ⟨0,rfl,fun h=>by omega,by omega⟩) ?_
    rintro r o ⟨q2,g1,g2,⟨k2,rfl,g3,g4⟩,rfl⟩
    have hk:=g3 (by omega)
    simp only[↓zq,zs,ac,aL,hb.has,bN,ha.idx hk]
    have:fe b p (nE 0) (gA (nB 0)) (.v (.string (mk (ls.getD k2 [])))) [.cells [b,.v (.int .i64 (q2:Int))]]:=⟨q2,by omega,by simp only[nE];omega,⟨_,rfl,by
     have:=hls (ls.getD k2 []) (by simp[aa,hk]);simp only[nB];omega⟩,rfl⟩
    refine⟨⟨ha.1,by omega⟩,?_⟩
    repeat (first|exact this|refine⟨by omega,?_⟩)
   ·refine aR (D7 b l hb q1 (by omega) _ _ (.of [_,_,_,_,_,_]) (by simp) (by simp)) (fe.ne ⟨_,ak,rfl⟩) ?_
    rintro r o ⟨q2,g1,g2,hr,rfl⟩
    obtain⟨s,rfl,hs⟩:=kW.cE (n:=2) (by decide) hr
    simp only[↓zq,zs,ac,aL,hb.has]
    exact⟨q2,by omega,by simp only[nE];omega,⟨s,rfl,by simp only[nB];omega⟩,rfl⟩
  ·refine aR (D7 b l hb p (by omega) _ _ (.of [_,_,_,_,_,_]) (by simp) (by simp)) (fe.ne ⟨_,ak,rfl⟩) ?_
   rintro r o ⟨q2,g1,g2,hr,rfl⟩
   obtain⟨s,rfl,hs⟩:=kW.cE (n:=2) (by decide) hr
   simp only[↓zq,zs,ac,aL,hb.has]
   exact⟨q2,by omega,by simp only[nE];omega,⟨s,rfl,by simp only[nB];omega⟩,rfl⟩
 |
  succ d ih =>
  intro hd p ls a ha hls hll hp
  simp only[nE]at hp
  have hL:=PU d
  have hC:=PW d
  have ih:=ih (by omega)
  have hL8:=Hk d (by omega)
  have ed:IntKind.wrap .i64 (((d+1:Nat):Int)-1)=(d:Int):=by rw[VL.wrap64]<;>omega
  refine NQ _ _ _ _ ha.1 hb.has ?_
  simp only[G1,↓zq,zs,ac,ha.len,ed]
  refine⟨fun h=>by omega,fun _=>?_⟩
  refine aR (vu b l hb p 4 (by omega) (by decide)) (fe.ne ⟨0,rfl,fun h=>by omega,by omega⟩) ?_
  rintro r o ⟨q0,a1,a2,⟨k0,rfl,_,_⟩,rfl⟩
  simp only[↓zq,zs,ac,aL,hb.has]
  refine⟨fun _=>⟨ha.1,fun hpos=>?_,fun _=>?_⟩,fun _=>?_⟩
  ·refine aR (vu b l hb q0 3 (by omega) (by decide)) (fe.ne ⟨0,rfl,fun h=>by omega,by omega⟩) ?_
   rintro r o ⟨q1,h1,h2,⟨k,rfl,h3,h4⟩,rfl⟩
   simp only[↓zq,zs,ac,aL,hb.has]
   refine⟨fun _=>⟨ha.1,?_⟩,fun _=>?_⟩
   ·refine aR (vu b l hb q1 ls.length (by omega) (by simp[qc];omega)) (fe.ne ⟨0,rfl,fun h=>by omega,by omega⟩) ?_
    rintro r o ⟨q2,g1,g2,⟨k2,rfl,g3,g4⟩,rfl⟩
    have hk:=g3 (by omega)
    simp only[↓zq,zs,ac,aL,hb.has,bN,ha.idx hk]
    have:fe b p (nE (d+1)) (gA (nB (d+1))) (.v (.string (mk (ls.getD k2 [])))) [.cells [b,.v (.int .i64 (q2:Int))]]:=⟨q2,by omega,by simp only[nE];omega,⟨_,rfl,by
     have:=hls (ls.getD k2 []) (by simp[aa,hk]);simp only[nB];omega⟩,rfl⟩
    refine⟨⟨ha.1,by omega⟩,?_⟩
    repeat (first|exact this|refine⟨by omega,?_⟩)
   ·refine aR (D7 b l hb q1 (by omega) _ _ (.of [_,_,_,_,_,_]) (by simp) (by simp)) (fe.ne ⟨_,ak,rfl⟩) ?_
    rintro r o ⟨q2,g1,g2,hr,rfl⟩
    obtain⟨s,rfl,hs⟩:=kW.cE (n:=2) (by decide) hr
    simp only[↓zq,zs,ac,aL,hb.has]
    exact⟨q2,by omega,by simp only[nE];omega,⟨s,rfl,by simp only[nB];omega⟩,rfl⟩
  ·refine aR (D7 b l hb q0 (by omega) _ _ (.of [_,_,_,_,_,_]) (by simp) (by simp)) (fe.ne ⟨_,ak,rfl⟩) ?_
   rintro r o ⟨q2,g1,g2,hr,rfl⟩
   obtain⟨s,rfl,hs⟩:=kW.cE (n:=2) (by decide) hr
   simp only[↓zq,zs,ac,aL,hb.has]
   exact⟨q2,by omega,by simp only[nE];omega,⟨s,rfl,by simp only[nB];omega⟩,rfl⟩
  ·refine aR (vu b l hb q0 5 (by omega) (by decide)) (fe.ne ⟨0,rfl,fun h=>by omega,by omega⟩) ?_
   rintro r o ⟨q1,b1,b2,⟨k1,rfl,c3,_⟩,rfl⟩
   have hk1:=c3 (by omega)
   obtain rfl|rfl|rfl|rfl|rfl:k1=0\/k1=1\/k1=2\/k1=3\/k1=4:=by omega
   ·simp only[↓zq,zs,ac,aL,hb.has]
    refine⟨fun _=>?_,fun h=>absurd rfl h⟩
    refine aR (ih q1 ls a ha hls (by omega) (by omega)) (fe.ne ⟨[],rfl,by simp⟩) ?_
    rintro r o ⟨q2,d1,d2,⟨s1,rfl,d3⟩,rfl⟩
    simp only[↓zq,zs,ac,zt,aL,hb.has,aq]
    repeat refine⟨by first|omega|(simp only[aq,aA,aH];omega),?_⟩
    refine aR (ih q2 ls a ha hls (by omega) (by omega)) (fe.ne ⟨[],rfl,by simp⟩) ?_
    rintro r o ⟨q3,e1,e2,⟨s2,rfl,e3⟩,rfl⟩
    simp only[↓zq,zs,ac,zt,aL,hb.has,aq]
    have fin:∀s:List UInt8,s.length<=nB (d+1)->fe b p (nE (d+1)) (gA (nB (d+1))) (.v (.string (mk s))) [.cells [b,.v (.int .i64 (q3:Int))]]:=fun s hs=>⟨q3,by omega,by simp only[nE];omega,⟨s,rfl,hs⟩,rfl⟩
    repeat (first|exact fin _ (by simp only[aq,aA,aH,nB];omega)|refine⟨by first|omega|(simp only[aq,aA,aH];omega),?_⟩)
   ·simp only[↓zq,zs,ac,aL,hb.has]
    refine⟨fun h=>by omega,fun _=>⟨fun _=>?_,fun h=>absurd rfl h⟩⟩
    refine aR (ih q1 ls a ha hls (by omega) (by omega)) (fe.ne ⟨[],rfl,by simp⟩) ?_
    rintro r o ⟨q2,d1,d2,⟨s1,rfl,d3⟩,rfl⟩
    simp only[↓zq,zs,ac,zt,aL,hb.has,aq]
    repeat refine⟨by first|omega|(simp only[aq,aA,aH];omega),?_⟩
    refine aR (ih q2 ls a ha hls (by omega) (by omega)) (fe.ne ⟨[],rfl,by simp⟩) ?_
    rintro r o ⟨q3,e1,e2,⟨s2,rfl,e3⟩,rfl⟩
    simp only[↓zq,zs,ac,zt,aL,hb.has,aq]
    have fin:∀s:List UInt8,s.length<=nB (d+1)->fe b p (nE (d+1)) (gA (nB (d+1))) (.v (.string (mk s))) [.cells [b,.v (.int .i64 (q3:Int))]]:=fun s hs=>⟨q3,by omega,by simp only[nE];omega,⟨s,rfl,hs⟩,rfl⟩
    repeat (first|exact fin _ (by simp only[aq,aA,aH,nB];omega)|refine⟨by first|omega|(simp only[aq,aA,aH];omega),?_⟩)
   ·simp only[↓zq,zs,ac,aL,hb.has]
    refine⟨fun h=>by omega,fun _=>⟨fun h=>by omega,fun _=>⟨fun _=>?_,fun h=>absurd rfl h⟩⟩⟩
    refine aR (ih q1 ls a ha hls (by omega) (by omega)) (fe.ne ⟨[],rfl,by simp⟩) ?_
    rintro r o ⟨q2,d1,d2,⟨s1,rfl,d3⟩,rfl⟩
    simp only[↓zq,zs,ac,zt,aL,hb.has,aq]
    repeat refine⟨by first|omega|(simp only[aq,aA,aH];omega),?_⟩
    refine aR (ih q2 ls a ha hls (by omega) (by omega)) (fe.ne ⟨[],rfl,by simp⟩) ?_
    rintro r o ⟨q3,e1,e2,⟨s2,rfl,e3⟩,rfl⟩
    simp only[↓zq,zs,ac,zt,aL,hb.has,aq]
    have fin:∀s:List UInt8,s.length<=nB (d+1)->fe b p (nE (d+1)) (gA (nB (d+1))) (.v (.string (mk s))) [.cells [b,.v (.int .i64 (q3:Int))]]:=fun s hs=>⟨q3,by omega,by simp only[nE];omega,⟨s,rfl,hs⟩,rfl⟩
    repeat (first|exact fin _ (by simp only[aq,aA,aH,nB];omega)|refine⟨by first|omega|(simp only[aq,aA,aH];omega),?_⟩)
   ·simp only[↓zq,zs,ac,aL,hb.has]
    refine⟨fun h=>by omega,fun _=>⟨fun h=>by omega,fun _=>⟨fun h=>by omega,fun _=>⟨fun _=>?_,fun h=>absurd rfl h⟩⟩⟩⟩
    refine aR (ih q1 ls a ha hls (by omega) (by omega)) (fe.ne ⟨[],rfl,by simp⟩) ?_
    rintro r o ⟨q2,d1,d2,⟨s1,rfl,d3⟩,rfl⟩
    simp only[↓zq,zs,ac,zt,aL,hb.has,aq]
    repeat refine⟨by first|omega|(simp only[aq,aA,aH];omega),?_⟩
    refine aR (ih q2 ls a ha hls (by omega) (by omega)) (fe.ne ⟨[],rfl,by simp⟩) ?_
    rintro r o ⟨q3,e1,e2,⟨s2,rfl,e3⟩,rfl⟩
    simp only[↓zq,zs,ac,zt,aL,hb.has,aq]
    have fin:∀s:List UInt8,s.length<=nB (d+1)->fe b p (nE (d+1)) (gA (nB (d+1))) (.v (.string (mk s))) [.cells [b,.v (.int .i64 (q3:Int))]]:=fun s hs=>⟨q3,by omega,by simp only[nE];omega,⟨s,rfl,hs⟩,rfl⟩
    repeat (first|exact fin _ (by simp only[aq,aA,aH,nB];omega)|refine⟨by first|omega|(simp only[aq,aA,aH];omega),?_⟩)
   ·simp only[↓zq,zs,ac,aL,hb.has]
    refine⟨fun h=>by omega,fun _=>⟨fun h=>by omega,fun _=>⟨fun h=>by omega,fun _=>⟨fun h=>by omega,fun _=>?_⟩⟩⟩⟩
    refine aR (D7 b l hb q1 (by omega) _ _ (.of [_,_,_]) (by simp) (by simp)) (fe.ne ⟨_,ak,rfl⟩) ?_
    rintro r o ⟨q2,g1,g2,hr,rfl⟩
    obtain⟨s,rfl,hs⟩:=kW.cE (n:=2) (by decide) hr
    simp only[↓zq,zs,ac,zt,aL,hb.has]
    repeat refine⟨by first|omega|(simp only[aq,aA,aH];omega),?_⟩
    refine aX (wD ls a ha s (by omega)) ?_
    simp only[↓zq,zs,ac,Ob.es,aQ]
    refine⟨eF _,?_⟩
    refine aR (ih q2 (ls++[s]) _ (.of _) (fun w hw=>by
     rcases aO.1 hw with hw|hw
     ·exact hls w hw
     ·simp at hw;rw[hw];exact hs) (by simp;omega) (by omega)) (fe.ne ⟨[],rfl,by simp⟩) ?_
    rintro r o ⟨q3,e1,e2,⟨s2,rfl,e3⟩,rfl⟩
    simp only[↓zq,zs,ac,zt,aL,hb.has,aq]
    have fin:∀s:List UInt8,s.length<=nB (d+1)->fe b p (nE (d+1)) (gA (nB (d+1))) (.v (.string (mk s))) [.cells [b,.v (.int .i64 (q3:Int))]]:=fun s hs=>⟨q3,by omega,by simp only[nE];omega,⟨s,rfl,hs⟩,rfl⟩
    repeat (first|exact fin _ (by simp only[aq,aA,aH,nB];omega)|refine⟨by first|omega|(simp only[aq,aA,aH];omega),?_⟩)
end Go.Proofs.Trees
namespace Go.Proofs.Trees
open Go Go.VL Go.RowKit
theorem fe.mono{b:AV}{p c c':Nat}{X Y:AV->Prop}(hc:c<=c')(h:∀r,X r->Y r){r:AV}{o:List Ob}(hr:fe b p c X r o):fe b p c' Y r o:=by
 obtain⟨q,h1,h2,h3,h4⟩:=hr;exact⟨q,h1,by omega,h r h3,h4⟩
theorem gA.le{n m:Nat}(h:n<=m){r:AV}(hr:gA n r):gA m r:=by obtain⟨s,h1,h2⟩:=hr;exact⟨s,h1,by omega⟩
theorem RQ(b:AV)(l:List UInt8)(hb:su b l)(p:Nat)(hp:p<qc):an Tryz.prog 135 [.ref 0 0] [.cells [b,.v (.int .i64 (p:Int))]] (fe b p 100 (gA 200)):=by
 refine Po _ _ hb.has ?_
 unfold Mu
 have hfar:qc=1000000000000000:=rfl
 refine aR (vu b l hb p 12 (by omega) (by decide)) (fe.ne ⟨0,rfl,fun h=>by omega,by omega⟩) ?_
 rintro r o ⟨q,h1,h2,⟨k,rfl,_,_⟩,rfl⟩
 have kn:∀(c m:Nat) (r:AV) (o:List Ob),c<=90->m<=200->fe b q c (gA m) r o->∃q':Nat,∃s:List UInt8,r=.v (.string (mk s))/\o=[.cells [b,.v (.int .i64 (q':Int))]]/\fe b p 100 (gA 200) (.v (.string (mk s))) [.cells [b,.v (.int .i64 (q':Int))]]:=by
  rintro c m r o hc hm ⟨q',g1,g2,⟨s,rfl,hs⟩,rfl⟩
  exact⟨q',s,rfl,rfl,q',by omega,by omega,⟨s,rfl,by omega⟩,rfl⟩
 simp only[↓zq,zs,ac,aL,hb.has]
 refine⟨fun _=>?_,fun _=>⟨fun _=>?_,fun _=>⟨fun _=>?_,fun _=>⟨fun _=>?_,fun _=>⟨fun _=>?_,fun _=>?_⟩⟩⟩⟩⟩
 ·refine aR (D7 b l hb q (by omega) _ _ (.of [_,_,_,_,_,_,_,_,_]) (by simp) (by simp)) (fe.ne ⟨_,ak,rfl⟩) ?_
  intro r o hr
  obtain⟨q',s,rfl,rfl,hd⟩:=kn 1 20 r o (by omega) (by omega) (hr.mono (au _) fun r h=>kW.cE (n:=20) (by decide) h)
  simp only[↓zq,zs,ac,aL,hb.has];exact hd
 ·refine aR (BR b l hb q (by omega)) (fe.ne ⟨[],rfl,by simp⟩) ?_
  intro r o hr
  obtain⟨q',s,rfl,rfl,hd⟩:=kn _ _ r o (by omega) (by omega) hr
  simp only[↓zq,zs,ac,aL,hb.has];exact hd
 ·refine aR (BR b l hb q (by omega)) (fe.ne ⟨[],rfl,by simp⟩) ?_
  intro r o hr
  obtain⟨q',s,rfl,rfl,hd⟩:=kn _ _ r o (by omega) (by omega) hr
  simp only[↓zq,zs,ac,aL,hb.has];exact hd
 ·refine aR (BR b l hb q (by omega)) (fe.ne ⟨[],rfl,by simp⟩) ?_
  intro r o hr
  obtain⟨q',s,rfl,rfl,hd⟩:=kn _ _ r o (by omega) (by omega) hr
  simp only[↓zq,zs,ac,aL,hb.has];exact hd
 ·refine aR (HQ b l hb 2 (by omega) q [[116],[116,49]] _ (cH.of [[116],[116,49]]) (by decide) (by simp) (by simp[nE];omega)) (fe.ne ⟨[],rfl,by simp⟩) ?_
  intro r o hr
  obtain⟨q',s,rfl,rfl,hd⟩:=kn _ _ r o (by simp[nE]) (by simp[nB]) hr
  simp only[↓zq,zs,ac,aL,hb.has];exact hd
 ·refine aR (HQ b l hb 3 (by omega) q [] _ (cH.of []) (by simp) (by simp) (by simp[nE];omega)) (fe.ne ⟨[],rfl,by simp⟩) ?_
  intro r o hr
  obtain⟨q',s,rfl,rfl,hd⟩:=kn _ _ r o (by simp[nE]) (by simp[nB]) hr
  simp only[↓zq,zs,ac,aL,hb.has];exact hd
def xS(a:AV):Prop:=LK.sl.has a/\∃l:List UInt8,a.aP=qh l
def O4(r:AV)(o:List Ob):Prop:=∃(b:AV) (l:List UInt8),su b l/\r=.ref 0 0/\o=[.cells [b,.v (.int .i64 0)]]
theorem O4.ne:∃r o,O4 r o:=⟨_,_,.v (.slice none 0 0),[],⟨(bg).mpr trivial,rfl,by simp⟩,rfl,rfl⟩
theorem SE(a:AV)(ha:xS a):an Tryz.prog 62 [a] [] O4:=by
 obtain⟨hs,l,hl⟩:=ha
 have hln:a.aP.length=l.length:=by rw[hl];simp[qh]
 refine O8 _ hs ?_
 simp only[JN,↓zq,zs,ac,hln]
 refine⟨hs,fun h=>⟨⟨hs,by omega⟩,?_⟩,fun h=>?_⟩
 ·refine⟨_,l.take 2000,⟨(cg _).mpr trivial,?_,?_⟩,rfl,rfl⟩
  ·rw[fm,hl];simp[qh]
  ·simp;omega
 ·exact⟨a,l,⟨hs,hl,by omega⟩,rfl,rfl⟩
end Go.Proofs.Trees
namespace Go.Proofs.Trees
open Go Go.VL Go.RowKit
theorem BK(b:AV)(l:List UInt8)(hb:su b l){e:E}(h:Wf e):∀d:Int,d<=-13->-50000+(e.sz:Int)<=d->e.dc<=400->j9 b d e (5*e.sz) e.sz:=by
 induction h with
 |
  @atom s hs =>
  intro d h1 h2 h3
  exact(J0 b l hb d hs).mono (by simp[E.sz]) (by simp[E.sz])
 |
  @plus x y hx hy i1 i2 =>
  intro d h1 h2 h3
  have h4:=h3
  simp only[E.sz,E.jv,E.dc,E.eZ]at h2 h4 |-
  exact(N0 b l hb d (by omega) hx hy h3 (5*(x.sz+y.sz)+1) (x.sz+y.sz) ((i1 (d-1) (by omega) (by omega) (by omega)).mono (by omega) (by omega)) ((i2 (d-1) (by omega) (by omega) (by omega)).mono (by omega) (by omega)) (by omega)).mono (by omega) (by omega)
 |
  @times x y hx hy i1 i2 =>
  intro d h1 h2 h3
  have h4:=h3
  simp only[E.sz,E.jv,E.dc,E.eZ]at h2 h4 |-
  exact(Jg b l hb d (by omega) hx hy (5*x.sz+1) x.sz (5*y.sz+1) y.sz ((i1 (d-1) (by omega) (by omega) (by omega)).mono (by omega) (by omega)) ((i2 (d-1) (by omega) (by omega) (by omega)).mono (by omega) (by omega)) (by omega) (by omega)).mono (by omega) (by omega)
 |
  @rc n x hn hx i =>
  intro d h1 h2 h3
  simp only[E.sz,E.jv]at h2 |-
  exact(LW b l hb d (by omega) hn hx h3 1 0 (fun h=>absurd h (by omega)) (by omega)).mono (by omega) (by omega)
def pD:Nat->Nat
 |0=>6100
 |n+1=>2*pD n+5
theorem GP:∀n,6100<=pD n
 |0=>au _
 |n+1=>by have:=GP n;simp only[pD];omega
theorem xz:∀n k:Nat,pD (n+k)+5=2 ^ k*(pD n+5)
 |n,0=>by simp
 |
  n,k+1=>by
  have:=xz n k
  rw[show n+(k+1)=n+k+1 from rfl,pD,Nat.pow_succ,Nat.mul_comm (2 ^ k) 2,Nat.mul_assoc,<-this];omega
theorem Cd{n m:Nat}(h:n<=m):pD n<=pD m:=by
 obtain⟨k,rfl⟩:=Nat.exists_eq_add_of_le h
 have:=xz n k
 have h2:1*(pD n+5)<=2 ^ k*(pD n+5):=ba _ Nat.one_le_two_pow
 omega
theorem Mz:pD 22<=30000000000:=by
 have:=xz 0 22
 simp only[a6]at this
 have h0:pD 0=6100:=rfl
 rw[h0]at this
 omega
theorem xG(b:AV)(l:List UInt8)(hb:su b l):∀n:Nat,n<=40->∀e,Wf e->e.dc<=400->j9 b ((n:Int)-13) e (pD n) (pD n)
 |
  0,hn,e,h,hl=>by
  have:=h.sz
  exact(BK b l hb h _ (by simp) (by simp;omega) hl).mono (by simp only[pD];omega) (by simp only[pD];omega)
 |
  n+1,hn,e,h,hl=>by
  have hb1:=GP n
  have ih:∀g,Wf g->g.dc<=400->j9 b (((n+1:Nat):Int)-13-1) g (pD n) (pD n):=by
   rw[show ((n+1:Nat):Int)-13-1=(n:Int)-13 by omega];exact xG b l hb n (by omega)
  cases h with
  |@atom s hs=>exact(J0 b l hb _ hs).mono (by simp only[pD];omega) (by simp only[pD];omega)
  |
   @plus x y hx hy =>
   have h4:=hl
   simp only[E.dc,E.eZ]at h4
   exact(N0 b l hb _ (by omega) hx hy hl _ _ (ih x hx (by omega)) (ih y hy (by omega)) (by omega)).mono (by simp only[pD];omega) (by simp only[pD];omega)
  |
   @times x y hx hy =>
   simp only[E.dc,E.eZ]at hl
   exact(Jg b l hb _ (by omega) hx hy _ _ _ _ (ih x hx (by omega)) (ih y hy (by omega)) (by omega) (by omega)).mono (by simp only[pD];omega) (by simp only[pD];omega)
  |@rc m x hm hx=>exact(LW b l hb _ (by omega) hm hx hl _ _ (fun _=>ih) (by omega)).mono (by simp only[pD];omega) (by simp only[pD];omega)
theorem MW(b:AV)(l:List UInt8)(hb:su b l)(p:Nat)(hp:p<100000000000000)(s:Nm):an Tryz.prog 83 [.ref 0 0,.v (.string (mk s))] [.cells [b,.v (.int .i64 (p:Int))]] (fe b p 40000000000 (gA 40000000000)):=by
 refine PO _ _ _ hb.has ?_
 have hfar:qc=1000000000000000:=rfl
 have oneL:∀(q:Nat) (r:AV) (o:List Ob),p<=q->q<=p+1->fe b q 1 (kW [[],[117],[101,48],[101,48,48],[101,49,48,48],[40,108,32,117,41],[40,112,32,117,41],[40,102,32,40,108,32,117,41,41],[40,120,32,117,41],[40,108,32,32,117,41]]) r o->∃q':Nat,∃t:List UInt8,r=.v (.string (mk t))/\o=[.cells [b,.v (.int .i64 (q':Int))]]/\fe b p 40000000000 (gA 40000000000) (.v (.string (mk t))) [.cells [b,.v (.int .i64 (q':Int))]]:=by
  rintro q r o h1 h2 ⟨q',g1,g2,hr,rfl⟩
  obtain⟨t,rfl,ht⟩:=kW.cE (n:=20) (by decide) hr
  exact⟨q',t,rfl,rfl,q',by omega,by omega,⟨t,rfl,by omega⟩,rfl⟩
 unfold IP
 refine aR (Hj s) (jN.ne _ _ (fun h=>h)) ?_
 rintro r o ⟨c,d,hd,rfl,hh⟩
 have hhas:bF [.str,.sl] [.v (.string (mk c)),d] 0:=by simp[bF,dY,hd]
 simp only[↓zq,zs,ac,zt]
 refine⟨hhas,fun h=>?_,fun h=>?_⟩
 ·refine aR (D7 b l hb p (by omega) _ _ (.of [_,_,_,_,_,_,_,_,_,_]) (by simp) (by simp)) (fe.ne ⟨_,ak,rfl⟩) ?_
  intro r o hr
  obtain⟨q',t,rfl,rfl,hd⟩:=oneL p r o (au _) (by omega) hr
  simp only[↓zq,zs,ac,aL,hb.has];exact hd
 ·obtain⟨e,he,hce⟩:=hh (by simpa using h)
  obtain⟨t,h1,hA,h3,h4,h5,_⟩:=gZ he
  rw[dj]at hce
  simp only[AV.agg.injEq,List.cons.injEq,AV.v.injEq,Value.string.injEq,and_true]at hce
  obtain⟨hc1,rfl⟩:=hce
  have hc2:=xE hc1
  subst hc2
  obtain⟨hw,hwt⟩:=kq e [] t hA.ok (by simp) hA.ty
  have hats:e.dc<=400:=by rw[hw.dc [],hwt];exact h5
  have hsz:=hw.sz
  refine aR (vu b l hb p 16 (by omega) (by decide)) (fe.ne ⟨0,rfl,fun h=>by omega,by omega⟩) ?_
  rintro r o ⟨q,h1,h2,⟨k,rfl,_,_⟩,rfl⟩
  simp only[↓zq,zs,ac,aL,hb.has]
  refine⟨fun _=>?_,fun _=>?_⟩
  ·refine aR (D7 b l hb q (by omega) _ _ (.of [_,_,_,_,_,_,_,_,_,_]) (by simp) (by simp)) (fe.ne ⟨_,ak,rfl⟩) ?_
   intro r o hr
   obtain⟨q',t,rfl,rfl,hd⟩:=oneL q r o h1 h2 hr
   simp only[↓zq,zs,ac,aL,hb.has];exact hd
  ·obtain⟨w1,w2,_⟩:=xq (os:=[]) hw
   have hap:=DI hw (.v (.slice none 0 0)) [] ⟨(bg).mpr trivial,rfl⟩ (by omega) (by simp) (by simp)
   refine aj hap ?_
   simp only[↓zq,zs,ac,zt,aM]
   repeat refine⟨by omega,?_⟩
   have hats2:(Am e []).dc<=400:=by rw[w1.dc [],w2,<-hw.dc []];exact hats
   refine aR (vu b l hb q 5 (by omega) (by decide)) (fe.ne ⟨0,rfl,fun h=>by omega,by omega⟩) ?_
   rintro r o ⟨q1,g1,g2,⟨k1,rfl,c3,_⟩,rfl⟩
   have hk1:=c3 (by omega)
   simp only[↓zq,zs,ac,zt,aL,hb.has,aM]
   have ed:IntKind.wrap .i64 (5+(k1:Int))=((18+k1:Nat):Int)-13:=by rw[VL.wrap64 _ (by omega) (by omega)];omega
   have hB:=Mz
   have hB2:pD (18+k1)<=pD 22:=Cd (by omega)
   have hB3:=GP (18+k1)
   rw[ed]
   refine aR (xG b l hb (18+k1) (by omega) (Am e []) w1 hats2 q1 (by omega)) (oC b q1 _ _ (by omega)) ?_
   rintro r o ⟨q2,d1,d2,⟨f,rfl,f1,f2⟩,rfl⟩
   simp only[↓zq,zs,ac,zt,aL,hb.has,aM]
   repeat refine⟨by omega,?_⟩
   have ht:=D6 (f.sz+1) f (by omega) f1 (by omega)
   rw[dj]at ht
   refine aj ht ?_
   simp only[↓zq,zs,ac,zt,aL,hb.has,aM]
   exact⟨q2,by omega,by omega,⟨fg f,rfl,by omega⟩,rfl⟩
theorem SO(b:AV)(l:List UInt8)(hb:su b l)(p:Nat)(hp:p<100000000000000):an Tryz.prog 103 [.ref 0 0] [.cells [b,.v (.int .i64 (p:Int))]] (fe b p 200 (gA 200)):=by
 refine RD _ _ hb.has ?_
 unfold IX
 have hfar:qc=1000000000000000:=rfl
 refine aR (vu b l hb p 8 (by omega) (by decide)) (fe.ne ⟨0,rfl,fun h=>by omega,by omega⟩) ?_
 rintro r o ⟨q,h1,h2,⟨k,rfl,_,_⟩,rfl⟩
 have kn:∀(c m:Nat) (r:AV) (o:List Ob),c<=190->m<=200->fe b q c (gA m) r o->∃q':Nat,∃s:List UInt8,r=.v (.string (mk s))/\o=[.cells [b,.v (.int .i64 (q':Int))]]/\fe b p 200 (gA 200) (.v (.string (mk s))) [.cells [b,.v (.int .i64 (q':Int))]]:=by
  rintro c m r o hc hm ⟨q',g1,g2,⟨s,rfl,hs⟩,rfl⟩
  exact⟨q',s,rfl,rfl,q',by omega,by omega,⟨s,rfl,by omega⟩,rfl⟩
 have sh:=HQ b l hb 3 (by omega) q [] _ (cH.of []) (by simp) (by simp) (by simp[nE];omega)
 have ty:=RQ b l hb q (by omega)
 have kw:=BR b l hb q (by omega)
 simp only[↓zq,zs,ac,aL,hb.has]
 refine⟨fun _=>?_,fun _=>⟨fun _=>?_,fun _=>⟨fun _=>?_,fun _=>⟨fun _=>?_,fun _=>?_⟩⟩⟩⟩
 ·refine aR ty (fe.ne ⟨[],rfl,by simp⟩) ?_
  intro r o hr
  obtain⟨q',s,rfl,rfl,hd⟩:=kn _ _ r o (by omega) (by omega) hr
  simp only[↓zq,zs,ac,aL,hb.has];exact hd
 ·refine aR sh (fe.ne ⟨[],rfl,by simp⟩) ?_
  intro r o hr
  obtain⟨q',s,rfl,rfl,hd⟩:=kn _ _ r o (by simp[nE]) (by simp[nB]) hr
  simp only[↓zq,zs,ac,aL,hb.has];exact hd
 ·refine aR sh (fe.ne ⟨[],rfl,by simp⟩) ?_
  intro r o hr
  obtain⟨q',s,rfl,rfl,hd⟩:=kn _ _ r o (by simp[nE]) (by simp[nB]) hr
  simp only[↓zq,zs,ac,aL,hb.has];exact hd
 ·refine aR sh (fe.ne ⟨[],rfl,by simp⟩) ?_
  intro r o hr
  obtain⟨q',s,rfl,rfl,hd⟩:=kn _ _ r o (by simp[nE]) (by simp[nB]) hr
  simp only[↓zq,zs,ac,aL,hb.has];exact hd
 ·refine aR kw (fe.ne ⟨[],rfl,by simp⟩) ?_
  intro r o hr
  obtain⟨q',s,rfl,rfl,hd⟩:=kn _ _ r o (by omega) (by omega) hr
  simp only[↓zq,zs,ac,aL,hb.has];exact hd
def Kh:AV->Prop:=fun r=>∃s t:Nm,r=.cD [.v (.string (mk s)),.v (.string (mk t))]
theorem RR(b:AV)(l:List UInt8)(hb:su b l)(p:Nat)(hp:p<10000000000000):an Tryz.prog 82 [.ref 0 0] [.cells [b,.v (.int .i64 (p:Int))]] (fe b p 50000000000 Kh):=by
 refine Qh _ _ hb.has ?_
 unfold OI
 refine aR (SO b l hb p (by omega)) (fe.ne ⟨[],rfl,by simp⟩) ?_
 rintro r o ⟨q,h1,h2,⟨s,rfl,_⟩,rfl⟩
 simp only[↓zq,zs,ac,aL,hb.has]
 refine aR (MW b l hb q (by omega) s) (fe.ne ⟨[],rfl,by simp⟩) ?_
 rintro r o ⟨q1,g1,g2,⟨t,rfl,_⟩,rfl⟩
 simp only[↓zq,zs,ac,aL,hb.has]
 exact⟨q1,by omega,by omega,⟨s,t,rfl⟩,rfl⟩
theorem R9(b:AV)(l:List UInt8)(hb:su b l)(p:Nat)(hp:p<1000000000000):an Tryz.prog 61 [.ref 0 0] [.cells [b,.v (.int .i64 (p:Int))]] (fe b p 60000000000 Kh):=by
 refine PP _ _ hb.has ?_
 unfold Oh
 have hfar:qc=1000000000000000:=rfl
 refine aR (BR b l hb p (by omega)) (fe.ne ⟨[],rfl,by simp⟩) ?_
 rintro r o ⟨q,h1,h2,⟨s,rfl,_⟩,rfl⟩
 simp only[↓zq,zs,ac,aL,hb.has]
 refine aR (vu b l hb q 12 (by omega) (by decide)) (fe.ne ⟨0,rfl,fun h=>by omega,by omega⟩) ?_
 rintro r o ⟨q1,g1,g2,⟨k,rfl,_,_⟩,rfl⟩
 simp only[↓zq,zs,ac,aL,hb.has]
 refine⟨fun _=>?_,fun _=>?_⟩
 ·refine aR (RR b l hb q1 (by omega)) (fe.ne ⟨[],[],rfl⟩) ?_
  rintro r o ⟨q2,e1,e2,⟨x,y,rfl⟩,rfl⟩
  simp only[↓zq,zs,ac,zt,aL,hb.has]
  exact⟨q2,by omega,by omega,⟨x,y,rfl⟩,rfl⟩
 ·refine aR (MW b l hb q1 (by omega) s) (fe.ne ⟨[],rfl,by simp⟩) ?_
  rintro r o ⟨q2,e1,e2,⟨t,rfl,_⟩,rfl⟩
  simp only[↓zq,zs,ac,aL,hb.has]
  exact⟨q2,by omega,by omega,⟨s,t,rfl⟩,rfl⟩
end Go.Proofs.Trees
namespace Go.Proofs.Trees
open Go Go.VL Go.RowKit
theorem AY(w:Nm)(c1 c2:Nm)(d1 d2:AV):an Tryz.prog 98 [.v (.string (mk w)),.sl [[.v (.string (mk c1)),d1],[.v (.string (mk c2)),d2]]] [] (bK (.agg [.v (.string (mk [])),.sl [[.v (.string (mk w)),xV],[.v (.string (mk c1)),d1],[.v (.string (mk c2)),d2]]])):=by
 refine Ol _ _ ((cg _).mpr trivial) ?_
 simp only[GO,↓zq,zs,ac,bK]
 exact⟨⟨fun c hc=>by
  simp only[aJ,List.not_mem_nil,or_false]at hc
  rcases hc with rfl|rfl<;>rfl,by omega⟩,rfl⟩
theorem IU(F:List Nm)(hF:F.length<100000)(c1 c2:Nm)(d1 d2:AV)(h1:LK.sl.has d1)(h2:LK.sl.has d2):∀(n j:Nat),ql F n j<j+n->j+n<100000000 ->
 Fu [.v (.int .i64 (j:Int))] [zE,.cells [.v (.string (mk c1)),d1],.cells [.v (.string (mk c2)),d2],.vec 1 (bP F)] (gV 1 [.v (.int .i64 (ql F n j:Int))] [zE,.cells [.v (.string (mk c1)),d1],.cells [.v (.string (mk c2)),d2]])
 |0,j,h,_=>by simp only[ql]at h;omega
 |
  n+1,j,h,hj=>by
  refine Qt _ _ _ _ _ _ _ _ ?_
  simp only[NV,↓zq,zs,ac,zt,ac,bg,h1,h2]
  refine aj (zL (j+1) j (by omega) (by omega)) ?_
  have hd:=mV (j+1) j (by omega)
  simp only[↓zq,zs,ac,zt,bf,aW]
  refine⟨by simp[cN];omega,?_⟩
  refine aj (Ga F _ (.of F) (tN j) (by omega)) ?_
  simp only[↓zq,zs,ac,zt]
  rw[ql]at h |-
  refine⟨fun hm=>?_,fun hm=>?_⟩
  ·rw[if_pos hm]at h |-
   rw[bA j (by omega)]
   exact IU F hF c1 c2 d1 d2 h1 h2 n (j+1) (by omega) (by omega)
  ·rw[if_neg hm]
   exact⟨rfl,rfl,rfl⟩
theorem uT{x:Nm}{a c d:Ty}(h:(pH a x c d).aE<=400):(sub x (.rc a) c).aE<=400/\(sub x (.rc a) d).aE<=400:=by
 simp only[pH,Ty.aE]at h;omega
theorem Wf.jg{e:E}(h:Wf e){t:Ty}(ht:cS e []=t)(hl:t.aE<=400):e.dc<=400:=by rw[h.dc [],ht];exact hl
def SS(n:Nat):Prop:=∀(e:E) (s:Nm),Wf e->e.dc<=n->e.dc<=400->qM s->an Tryz.prog 166 [.agg [.v (.string (mk e.at)),e.sp],.v (.string (mk s))] [] (lq (lQ (cS e []) s))
theorem ke{e:E}{s:Nm}(h:Wf e):∀t,lQ (cS e []) s=some t->gb t:=fun t ht=>h.qI.dv (cR.1 ht)
theorem ry{t:Ty}(h:gb t):∀d,nJ t=some d->gb d:=fun d hd=>by obtain⟨_,rfl⟩:=eS.1 hd;exact h
theorem Rw(n:Nat)(ih:SS n)(m:Nm)(B:E)(hm:qM m)(hB:Wf B)(hl:(E.list [.atom dF,.atom m,B]).dc<=n+1)(hl4:(E.list [.atom dF,.atom m,B]).dc<=400)(s:Nm)(hs:qM s) :
 an Tryz.prog 190 [.agg [.v (.string (mk [])),(E.list [.atom dF,.atom m,B]).sp],.v (.string (mk s))] [] (lq (lQ (cS (.list [.atom dF,.atom m,B]) []) s)):=by
 have hw:Wf (.list [.atom dF,.atom m,B]):=.rc hm hB
 have hsz:=hw.sz
 have hA:=DI hw (.sl [[.v (.string (mk s)),xV]]) [.atom s] ⟨(cg _).mpr trivial,by simp only[fm,E.bw,fN];rfl⟩ (by omega) (fun o ho=>by
  simp only[aJ,List.not_mem_nil,or_false]at ho
  subst ho
  exact⟨.atom hs.1,by simp[E.sz]⟩) (by simp)
 have hatsB:B.dc+2=(E.list [.atom dF,.atom m,B]).dc:=by simp only[E.dc,E.eZ];omega
 have hT:cS (.list [.atom dF,.atom m,B]) []=.rc (cS B [m]):=fq _ _ _
 obtain⟨w1,w2,_,_,w5⟩:=kC (Aw (.list [.atom dF,.atom m,B]) [.atom s]) (cS (.list [.atom dF,.atom m,B]) []) [] 0 (.nil _ _) (tR hw []) fun y hy=>⟨aD _ ((lE hw [] [] y).2 (.inr hy)),(nw hw [] y hy).1⟩
 have hsF:s∈Aw (.list [.atom dF,.atom m,B]) [.atom s]:=aB _ (rE (o:=.atom s) (by simp) (.atom hs.1) (by rw[sq hs];simp[bn]))
 have haF:∀y,bn y (cS B [m])=true->y∈Aw (.list [.atom dF,.atom m,B]) [.atom s]:=fun y hy=>aD _ ((lE hw [] [] y).2 (.inr (by rw[hT];exact hy)))
 unfold Am at hA
 rw[hT]at hA w1 w2 w5
 rw[hT]
 generalize Aw (.list [.atom dF,.atom m,B]) [.atom s]=F at *
 obtain⟨_,_,_,hxF⟩:=gK F 0
 simp only[hZ,aW]at hA w1 w2 w5
 generalize hxd:tN (nx F 0)=x at *
 have hx:qM x:=by rw[<-hxd];exact yx _
 generalize (hZ F (cS B [m]) [x] (nx F 0+1)).1=b at *
 have hb:Wf b:=by cases w1;assumption
 rw[fq]at w2
 have hbt:cS b [x]=cS B [m]:=by injection w2
 have hxa:bn x (cS B [m])=false:=by
  cases q:bn x (cS B [m])with
  |false=>rfl
  |true=>exact absurd (haF x q) hxF
 have hxs:x≠s:=fun e=>hxF (by rw[e];exact hsF)
 generalize cS B [m]=a at *
 have hbo:cS b []=dA (.name x) a 0:=by
  have:=zb x hb []
  rw[cY,hbt]at this;exact this
 have hba:b.dc+2=(E.list [.atom dF,.atom m,B]).dc:=by
  rw[hw.dc [],hT,hb.dc [],hbo,fL];simp only[Ty.aE];omega
 have i1:=ih b s hb (by omega) (by omega) hs
 have i2:=ih b x hb (by omega) (by omega) hx
 have n1:=ke (s:=s) hb
 have n2:=ke (s:=x) hb
 rw[hbo]at i1 i2 n1 n2
 have hP:=P3.of (.atom dF) (.atom x) b
 rw[Cf hxa hxs]
 have hE1:Wf (.list [.atom dF,.atom x,b]):=w1
 have hE1t:cS (.list [.atom dF,.atom x,b]) []=.rc a:=by rw[fq];exact w2
 have hE1l:(E.list [.atom dF,.atom x,b]).dc<=400:=by
  have:(E.list [.atom dF,.atom x,b]).dc=b.dc+2:=by simp only[E.dc,E.eZ];omega
  omega
 refine R1 _ _ _ ((aY _).mpr trivial) ?_
 unfold KD
 refine aj hA ?_
 simp only[↓zq,zs,ac,zt,aM,bM,toNat_one,bh,hP.1,hP.2.1,hP.2.2.1,hP.2.2.2,dT]
 repeat refine⟨by omega,?_⟩
 refine aR i1 (lq.ne n1) ?_
 rintro r o ⟨rfl,c1,d1,hd1,rfl,hc1⟩
 simp only[↓zq,zs,ac,zt,gJ hd1]
 repeat refine⟨by omega,?_⟩
 refine aR i2 (lq.ne n2) ?_
 rintro r o ⟨rfl,c2,d2,hd2,rfl,hc2⟩
 simp only[↓zq,zs,ac,zt,gJ hd2]
 cases q1:lQ (dA (.name x) a 0) s with
 |
  none =>
  simp only[bu,bH]
  exact⟨fun _=>lq.no _ _ ((aY _).mpr trivial),fun h=>(by cases h)⟩
 |some c =>
 cases q2:lQ (dA (.name x) a 0) x with
 |
  none =>
  simp only[bu,aZ,bH,a7]
  exact⟨fun h=>(by cases h),fun _=>⟨fun _=>lq.no _ _ ((aY _).mpr trivial),fun h=>(by cases h)⟩⟩
 |some d =>
 simp only[aZ,a7]
 refine⟨fun h=>(by cases h),fun _=>⟨fun h=>(by cases h),fun _=>?_⟩⟩
 obtain⟨ec,wc,tc,rfl,rfl⟩:=hc1 c q1
 obtain⟨ed,wd,td,rfl,rfl⟩:=hc2 d q2
 have lc:=(cR.1 q1).small
 have ld:=(cR.1 q2).small
 have p1:=Fj hx wc hE1 (wc.jg tc lc) hE1l
 have p2:=Fj hx wd hE1 (wd.jg td ld) hE1l
 have g1:=ry (hE1.qI.sub (x:=x) wc.qI)
 have g2:=ry (hE1.qI.sub (x:=x) wd.qI)
 rw[hE1t,tc]at p1 g1
 rw[hE1t,td]at p2 g2
 simp only[bM]at p1 p2
 repeat refine⟨by omega,?_⟩
 refine aR p1 (lq.ne g1) ?_
 rintro r o ⟨rfl,c3,d3,hd3,rfl,hc3⟩
 simp only[↓zq,zs,ac,zt,gJ hd3]
 repeat refine⟨by omega,?_⟩
 refine aR p2 (lq.ne g2) ?_
 rintro r o ⟨rfl,c4,d4,hd4,rfl,hc4⟩
 simp only[↓zq,zs,ac,zt,gJ hd4]
 have big:∀t:Ty,nJ t=none->¬t.aE<=400:=fun t ht hle=>by unfold nJ at ht;rw[if_pos hle]at ht;cases ht
 have out0:(nJ (sub x (.rc a) c)=none\/nJ (sub x (.rc a) d)=none)->nJ (pH a x c d)=none:=fun h=>by
  unfold nJ
  rw[if_neg fun hle=>?_]
  have:=uT hle
  rcases h with h|h
  ·exact big _ h this.1
  ·exact big _ h this.2
 cases q3:nJ (sub x (.rc a) c)with
 |
  none =>
  rw[out0 (.inl q3)]
  simp only[bu]
  exact⟨fun _=>lq.no _ _ ((aY _).mpr trivial),fun h=>(by cases h)⟩
 |some c' =>
 cases q4:nJ (sub x (.rc a) d)with
 |
  none =>
  rw[out0 (.inr q4)]
  simp only[bu,aZ]
  exact⟨fun h=>(by cases h),fun _=>⟨fun _=>lq.no _ _ ((aY _).mpr trivial),fun h=>(by cases h)⟩⟩
 |some d' =>
 simp only[aZ]
 refine⟨fun h=>(by cases h),fun _=>⟨fun h=>(by cases h),fun _=>?_⟩⟩
 obtain⟨ec',wc',tc',rfl,rfl⟩:=hc3 c' q3
 obtain⟨ed',wd',td',rfl,rfl⟩:=hc4 d' q4
 obtain⟨lc',e3⟩:=eS.1 q3
 obtain⟨ld',e4⟩:=eS.1 q4
 rw[e3]at lc';rw[e4]at ld'
 have z1:=wc'.sz
 have z2:=wd'.sz
 have k1:=wc'.jg tc' lc'
 have k2:=wd'.jg td' ld'
 have f1:=Dz wd' [] [] (.sl []) (.of []) (by simp;omega)
 have fl1:=gl ed' [] []
 have fl2:=gl ec' [] (kf ed' [] [])
 simp only[aH,a6]at fl1
 have f2:=Dz wc' [] (kf ed' [] []) (.sl []) (.of []) (by simp;omega)
 refine aX f1 ?_
 simp only[↓zq,zs,ac,zt,aQ,bz,Ob.es]
 refine aX f2 ?_
 simp only[↓zq,zs,ac,zt,aQ,bz,Ob.es]
 have hF3:∀y,(bn y c'=true\/bn y d'=true)->y∈kf ec' [] (kf ed' [] []):=fun y hy=>by
  rw[lE wc',lE wd']
  rcases hy with hy|hy
  ·exact .inr (by rw[tc'];exact hy)
  ·exact .inl (.inr (by rw[td'];exact hy))
 generalize kf ec' [] (kf ed' [] [])=F3 at *
 obtain⟨_,y2,_,hyF⟩:=gK F3 0
 refine cx (IU F3 (by omega) _ _ _ _ ((aY _).mpr trivial) ((aY _).mpr trivial) (F3.length+1) 0 (by show nx F3 0<_;omega) (by omega)) ?_
 have hnx:ql F3 (F3.length+1) 0=nx F3 0:=rfl
 rw[hnx]
 simp only[↓zq,zs,ac,zt,ac,aL,bg,aY]
 refine aj (zL (nx F3 0+1) (nx F3 0) (by omega) (by omega)) ?_
 have hdl:=mV (nx F3 0+1) (nx F3 0) (by omega)
 simp only[↓zq,zs,ac,zt,bf,aW]
 refine⟨by omega,?_⟩
 obtain⟨y,hyd⟩:∃y:Nm,(116::dd (nx F3 0):Nm)=y:=⟨_,rfl⟩
 rw[hyd]
 rw[show tN (nx F3 0)=y from hyd]at hyF
 have hy:qM y:=by rw[<-hyd];exact yx _
 have hcy:cS ec' [y]=c':=by
  have:=ub [y] wc' [] (fun z hz hm=>hyF (by
   simp only[aS]at hm
   rw[<-hm];exact hF3 z (.inl (by rw[<-tc'];exact hz))))
  rw[cY,tc']at this;exact this
 have hdy:cS ed' [y]=d':=by
  have:=ub [y] wd' [] (fun z hz hm=>hyF (by
   simp only[aS]at hm
   rw[<-hm];exact hF3 z (.inr (by rw[<-td'];exact hz))))
  rw[cY,td']at this;exact this
 have hyb:cS (.atom y) [y]=.bT 0:=by
  simp only[cS];rw[if_neg hy.2.1,if_neg hy.2.2,show bR y [y] [y].length=some 0 from fA y []]
 let o1:E:=.list [.atom [42],ed',.atom y]
 let o2:E:=.list [.atom [43],ec',o1]
 let o3:E:=.list [.atom dF,.atom y,o2]
 have hw3:Wf o3:=.rc hy (.plus wc' (.times wd' (.atom hy.1)))
 have ht3:cS o3 []=pH a x c d:=by
  show cS (.list [.atom dF,.atom y,o2]) []=_
  rw[fq]
  show Ty.rc (cS (.list [.atom [43],ec',o1]) [y])=_
  rw[dM]
  show Ty.rc (.plus (cS ec' [y]) (cS (.list [.atom [42],ed',.atom y]) [y]))=_
  rw[du,hcy,hdy,hyb,pH,e3,e4]
 have m1:=xm [42] ed' (.atom y)
 have m2:=xm [43] ec' o1
 have m3:=xm dF (.atom y) o2
 simp only[o1,bM,dT]at m1 m2 m3
 refine aj m1 ?_
 simp only[↓zq,zs,ac,zt,aM]
 repeat refine⟨by omega,?_⟩
 refine aj m2 ?_
 simp only[↓zq,zs,ac,zt,aM]
 repeat refine⟨by omega,?_⟩
 refine aj m3 ?_
 simp only[↓zq,zs,ac,zt,aM]
 repeat refine⟨by omega,?_⟩
 have z3:=hw3.sz
 have hats3:o3.dc=ec'.dc+ed'.dc+5:=by simp only[o3,o2,o1,E.dc,E.eZ];omega
 have ma:=DO o3 hw3.ok (by omega)
 rw[dj]at ma
 simp only[o3,o2,o1,bM]at ma
 refine aj ma ?_
 simp only[↓zq,zs,ac,zt]
 have hd3:(pH a x c d).aE=o3.dc:=by rw[<-ht3,<-hw3.dc []]
 unfold nJ
 by_cases hle:(pH a x c d).aE<=400
 ·rw[if_pos hle]
  have:=lq.of hw3
  rw[ht3]at this
  rw[show decide ((((E.list [.atom dF,.atom y,.list [.atom [43],ec',.list [.atom [42],ed',.atom y]]]).dc:Nat):Int)<=400)=true from decide_eq_true (by show ((o3.dc:Nat):Int)<=400;omega)]
  exact this
 ·rw[if_neg hle]
  rw[show decide ((((E.list [.atom dF,.atom y,.list [.atom [43],ec',.list [.atom [42],ed',.atom y]]]).dc:Nat):Int)<=400)=false from decide_eq_false (by show ¬((o3.dc:Nat):Int)<=400;omega)]
  exact lq.no _ _ ((aY o3).mpr trivial)
theorem Ai:∀n,SS n
 |0=>fun e s h hl=>by have:=ep (cS e []);rw[<-h.dc []]at this;omega
 |
  n+1=>by
  intro e s h hl h4 hs
  cases h with
  |
   @atom c hc =>
   refine Dx _ _ _ ((aY _).mpr trivial) ?_
   simp only[AJ,dT,↓zq,zs,ac,zt]
   refine⟨fun _=>⟨fun he=>?_,fun hne=>?_⟩,fun h=>absurd h hc⟩
   ·have he:c=s:=he
    subst he
    rw[sq hs,ov,if_pos rfl]
    exact lq.of (e:=.atom [49]) (.atom (by simp))
   ·have hne:¬c=s:=hne
    have:lQ (cS (.atom c) []) s=some .zero:=by
     simp only[cS]
     split
     ·exact wa _
     ·split
      ·exact yk _
      ·rw[show bR c [] ([]:List Nm).length=none from rfl,ov,if_neg hne]
    rw[this]
    exact lq.of (e:=.atom [48]) (.atom (by simp))
  |
   @plus x y hx hy =>
   have hxy:(E.list [.atom [43],x,y]).dc=x.dc+y.dc+1:=by simp only[E.dc,E.eZ];omega
   have p1:1<=x.dc:=by rw[hx.dc []];exact ep _
   have p2:1<=y.dc:=by rw[hy.dc []];exact ep _
   refine Dx _ _ _ ((aY _).mpr trivial) ?_
   have hP:=P3.of (.atom [43]) x y
   simp only[AJ,bM,toNat_one,bh,↓zq,zs,ac,zt,hP.1,hP.2.1,hP.2.2.1,hP.2.2.2,aM]
   refine⟨fun h=>absurd rfl h,fun _=>?_⟩
   refine aj (oj [43] x y) ?_
   simp only[↓zq,zs,ac,zt]
   refine⟨fun h=>by simp at h,fun _=>?_⟩
   repeat refine⟨by omega,?_⟩
   rw[dM,vx]
   refine aR (Ai n x s hx (by omega) (by omega) hs) (lq.ne (ke hx)) ?_
   rintro r o ⟨rfl,c1,d1,hd1,rfl,hc1⟩
   simp only[↓zq,zs,ac,zt,gJ hd1]
   repeat refine⟨by omega,?_⟩
   refine aR (Ai n y s hy (by omega) (by omega) hs) (lq.ne (ke hy)) ?_
   rintro r o ⟨rfl,c2,d2,hd2,rfl,hc2⟩
   simp only[↓zq,zs,ac,zt,gJ hd2]
   refine aj (AY [43] c1 c2 d1 d2) ?_
   simp only[↓zq,zs,ac,zt,bF,dY,cg]
   repeat refine⟨by omega,?_⟩
   refine aj (oj [43] x y) ?_
   simp only[↓zq,zs,ac,zt]
   refine⟨fun h=>by simp at h,fun _=>?_⟩
   cases q1:lQ (cS x []) s with
   |
    none =>
    simp only[bu,bH]
    exact⟨fun h=>(by cases h),fun _=>lq.no _ _ ((cg _).mpr trivial)⟩
   |some tx =>
   cases q2:lQ (cS y []) s with
   |
    none =>
    simp only[bu,aZ,bH,a7]
    exact⟨fun _=>⟨fun h=>(by cases h),fun _=>lq.no _ _ ((cg _).mpr trivial)⟩,fun h=>(by cases h)⟩
   |some t2 =>
   simp only[aZ,a7]
   refine⟨fun _=>⟨fun _=>?_,fun h=>(by cases h)⟩,fun h=>(by cases h)⟩
   obtain⟨e1,w1,te1,rfl,rfl⟩:=hc1 tx q1
   obtain⟨e2,w2,te2,rfl,rfl⟩:=hc2 t2 q2
   have l1:=w1.jg te1 (cR.1 q1).small
   have l2:=w2.jg te2 (cR.1 q2).small
   have z1:=w1.sz
   have z2:=w2.sz
   have hw3:Wf (.list [.atom [43],e1,e2]):=.plus w1 w2
   have ht3:cS (.list [.atom [43],e1,e2]) []=.plus tx t2:=by rw[dM,te1,te2]
   have ma:=DO _ hw3.ok (by simp only[E.sz,E.jv];omega)
   rw[dj]at ma
   simp only[bM]at ma
   have e3:AV.sl [[.v (.string (mk [43])),xV],[.v (.string (mk e1.at)),e1.sp],[.v (.string (mk e2.at)),e2.sp]]=(E.list [.atom [43],e1,e2]).sp:=by simp only[E.sp,E.bw,fN];rfl
   rw[e3]
   refine aj ma ?_
   simp only[↓zq,zs,ac,zt]
   have hd3:(Ty.plus tx t2).aE=(E.list [.atom [43],e1,e2]).dc:=by rw[<-ht3,<-hw3.dc []]
   unfold nJ
   by_cases hle:(Ty.plus tx t2).aE<=400
   ·rw[if_pos hle,show decide ((((E.list [.atom [43],e1,e2]).dc:Nat):Int)<=400)=true from decide_eq_true (by omega)]
    have:=lq.of hw3
    rw[ht3]at this
    exact this
   ·rw[if_neg hle,show decide ((((E.list [.atom [43],e1,e2]).dc:Nat):Int)<=400)=false from decide_eq_false (by omega)]
    exact lq.no _ _ ((aY _).mpr trivial)
  |
   @times x y hx hy =>
   have hxy:(E.list [.atom [42],x,y]).dc=x.dc+y.dc+1:=by simp only[E.dc,E.eZ];omega
   have p1:1<=x.dc:=by rw[hx.dc []];exact ep _
   have p2:1<=y.dc:=by rw[hy.dc []];exact ep _
   refine Dx _ _ _ ((aY _).mpr trivial) ?_
   have hP:=P3.of (.atom [42]) x y
   simp only[AJ,bM,toNat_one,bh,↓zq,zs,ac,zt,hP.1,hP.2.1,hP.2.2.1,hP.2.2.2,aM]
   refine⟨fun h=>absurd rfl h,fun _=>?_⟩
   refine aj (oj [42] x y) ?_
   simp only[↓zq,zs,ac,zt]
   refine⟨fun h=>by simp at h,fun _=>?_⟩
   repeat refine⟨by omega,?_⟩
   rw[du,sV]
   refine aR (Ai n x s hx (by omega) (by omega) hs) (lq.ne (ke hx)) ?_
   rintro r o ⟨rfl,c1,d1,hd1,rfl,hc1⟩
   simp only[↓zq,zs,ac,zt,gJ hd1]
   repeat refine⟨by omega,?_⟩
   refine aR (Ai n y s hy (by omega) (by omega) hs) (lq.ne (ke hy)) ?_
   rintro r o ⟨rfl,c2,d2,hd2,rfl,hc2⟩
   simp only[↓zq,zs,ac,zt,gJ hd2]
   refine aj (AY [43] c1 c2 d1 d2) ?_
   simp only[↓zq,zs,ac,zt,bF,dY,cg]
   repeat refine⟨by omega,?_⟩
   refine aj (oj [42] x y) ?_
   simp only[↓zq,zs,ac,zt]
   refine⟨fun _=>?_,fun h=>by simp at h⟩
   repeat refine⟨by omega,?_⟩
   refine aj (AY [42] c1 y.at d1 y.sp) ?_
   simp only[↓zq,zs,ac,zt,bF,dY,cg,aY]
   repeat refine⟨by omega,?_⟩
   refine aj (AY [42] x.at c2 x.sp d2) ?_
   simp only[↓zq,zs,ac,zt,bF,dY,cg,aY]
   repeat refine⟨by omega,?_⟩
   refine aj (AY [43] [] [] _ _) ?_
   simp only[↓zq,zs,ac,zt,bF,dY,cg]
   repeat refine⟨by omega,?_⟩
   cases q1:lQ (cS x []) s with
   |
    none =>
    simp only[bu,bH]
    exact⟨fun h=>(by cases h),fun _=>lq.no _ _ ((cg _).mpr trivial)⟩
   |some tx =>
   cases q2:lQ (cS y []) s with
   |
    none =>
    simp only[bu,aZ,bH,a7]
    exact⟨fun _=>⟨fun h=>(by cases h),fun _=>lq.no _ _ ((cg _).mpr trivial)⟩,fun h=>(by cases h)⟩
   |some t2 =>
   simp only[aZ,a7]
   refine⟨fun _=>⟨fun _=>?_,fun h=>(by cases h)⟩,fun h=>(by cases h)⟩
   obtain⟨e1,w1,te1,rfl,rfl⟩:=hc1 tx q1
   obtain⟨e2,w2,te2,rfl,rfl⟩:=hc2 t2 q2
   have l1:=w1.jg te1 (cR.1 q1).small
   have l2:=w2.jg te2 (cR.1 q2).small
   have z1:=w1.sz
   have z2:=w2.sz
   have z3:=hx.sz
   have z4:=hy.sz
   have hw3:Wf (.list [.atom [43],.list [.atom [42],e1,y],.list [.atom [42],x,e2]]):=.plus (.times w1 hy) (.times hx w2)
   have ht3:cS (.list [.atom [43],.list [.atom [42],e1,y],.list [.atom [42],x,e2]]) []=.plus (.times tx (cS y [])) (.times (cS x []) t2):=by rw[dM,du,du,te1,te2]
   have ma:=DO _ hw3.ok (by simp only[E.sz,E.jv];omega)
   rw[dj]at ma
   simp only[bM]at ma
   have e3:AV.sl [[.v (.string (mk [43])),xV],[.v (.string (mk [])),.sl [[.v (.string (mk [42])),xV],[.v (.string (mk e1.at)),e1.sp],[.v (.string (mk y.at)),y.sp]]],[.v (.string (mk [])),.sl [[.v (.string (mk [42])),xV],[.v (.string (mk x.at)),x.sp],[.v (.string (mk e2.at)),e2.sp]]]]=(E.list [.atom [43],.list [.atom [42],e1,y],.list [.atom [42],x,e2]]).sp:=by simp only[E.sp,E.bw,fN];rfl
   rw[e3]
   refine aj ma ?_
   simp only[↓zq,zs,ac,zt]
   have hd3:(Ty.plus (.times tx (cS y [])) (.times (cS x []) t2)).aE=(E.list [.atom [43],.list [.atom [42],e1,y],.list [.atom [42],x,e2]]).dc:=by rw[<-ht3,<-hw3.dc []]
   unfold nJ
   by_cases hle:(Ty.plus (.times tx (cS y [])) (.times (cS x []) t2)).aE<=400
   ·rw[if_pos hle,show decide ((((E.list [.atom [43],.list [.atom [42],e1,y],.list [.atom [42],x,e2]]).dc:Nat):Int)<=400)=true from decide_eq_true (by omega)]
    have:=lq.of hw3
    rw[ht3]at this
    exact this
   ·rw[if_neg hle,show decide ((((E.list [.atom [43],.list [.atom [42],e1,y],.list [.atom [42],x,e2]]).dc:Nat):Int)<=400)=false from decide_eq_false (by omega)]
    exact lq.no _ _ ((aY _).mpr trivial)
  |
   @rc m B hm hB =>
   have hlp:=Rw n (Ai n) m B hm hB hl h4 s hs
   have hg:=ke (s:=s) (Wf.rc hm hB)
   refine Dx _ _ _ ((aY _).mpr trivial) ?_
   have hP:=P3.of (.atom dF) (.atom m) B
   simp only[AJ,bM,toNat_one,bh,↓zq,zs,ac,zt,hP.1,hP.2.1,hP.2.2.1,hP.2.2.2,aM]
   refine⟨fun h=>absurd rfl h,fun _=>?_⟩
   refine aj (oj dF (.atom m) B) ?_
   simp only[↓zq,zs,ac,zt]
   refine⟨fun _=>?_,fun h=>absurd rfl h⟩
   refine aR hlp (lq.ne hg) ?_
   rintro r o ⟨rfl,c1,d1,hd1,rfl,hc1⟩
   simp only[↓zq,zs,ac,zt,gJ hd1]
   exact⟨rfl,c1,d1,hd1,rfl,hc1⟩
end Go.Proofs.Trees
namespace Go.Proofs.Trees
open Go Go.VL Go.RowKit
theorem pg:∀(n k:Nat),k<10 ^ (n+1)->(dd k).length<=n+1
 |0,k,h=>by rw[eK (by omega)];simp
 |
  n+1,k,h=>by
  by_cases h1:k<10
  ·rw[eK h1];simp
  ·rw[fU h1]
   have:=pg n (k/10) (by
    have:10 ^ (n+1+1)=10*10 ^ (n+1):=by rw[Nat.pow_succ,Nat.mul_comm]
    omega)
   simp;omega
inductive Sh:E->Prop
 |atom {s:Nm} (h:s.length<=20):Sh (.atom s)
 |l3 {h:Nm} {a b:E} (hh:h.length<=20) (ha:Sh a) (hb:Sh b):Sh (.list [.atom h,a,b])
theorem Sh.cE{e:E}(hw:Wf e)(h:Sh e):(fg e).length<=50*e.dc:=by
 induction hw with
 |atom _=>cases h with|atom h=>simp only[fg,E.dc];omega
 |
  plus _ _ i1 i2 =>
  cases h with|l3 hh ha hb =>
  have:=i1 ha
  have:=i2 hb
  simp only[fg,ej,aA,aq,aH,E.dc,E.eZ];omega
 |
  times _ _ i1 i2 =>
  cases h with|l3 hh ha hb =>
  have:=i1 ha
  have:=i2 hb
  simp only[fg,ej,aA,aq,aH,E.dc,E.eZ];omega
 |
  rc _ _ i =>
  cases h with|l3 hh ha hb =>
  cases ha with|atom ha =>
  have:=i hb
  simp only[fg,ej,aA,aq,aH,E.dc,E.eZ];omega
def u6(t:Ty):Prop:=∀y,bn y t=true->y.length<=20
theorem wN{k:Nat}(h:k<100000000):(tN k).length<=20:=by
 have:=pg 7 k (by omega)
 simp;omega
theorem pO(F:List Nm)(hF:F.length<=10000):∀(t:Ty) (to:List Nm) (k:Nat),u6 t->(∀w,w∈to->w.length<=20)->k+(F.length+1)*t.aE<90000000->Sh (hZ F t to k).1
 | .zero,_,_,_,_,_=>.atom (by simp)
 | .one,_,_,_,_,_=>.atom (by simp)
 | .name s,_,_,hn,_,_=>.atom (hn s (by simp[bn]))
 |
  .bT u,to,_,_,ht,_=>by
  refine .atom ?_
  show (gu to u).length<=20
  unfold gu
  by_cases h:to.length-1-u<to.length
  ·rw[aa,bp h];exact ht _ (bD h)
  ·rw[aa,List.getElem?_eq_none (by omega)];simp
 |
  .plus a b,to,k,hn,ht,hk=>by
  have h1:=iF F a to k
  have:(F.length+1)*(1+a.aE+b.aE)=(F.length+1)+(F.length+1)*a.aE+(F.length+1)*b.aE:=by simp only[cU,dI]
  simp only[Ty.aE]at hk
  exact .l3 (by simp) (pO F hF a to k (fun y hy=>hn y (by simp[bn,hy])) ht (by omega)) (pO F hF b to _ (fun y hy=>hn y (by simp[bn,hy])) ht (by omega))
 |
  .times a b,to,k,hn,ht,hk=>by
  have h1:=iF F a to k
  have:(F.length+1)*(1+a.aE+b.aE)=(F.length+1)+(F.length+1)*a.aE+(F.length+1)*b.aE:=by simp only[cU,dI]
  simp only[Ty.aE]at hk
  exact .l3 (by simp) (pO F hF a to k (fun y hy=>hn y (by simp[bn,hy])) ht (by omega)) (pO F hF b to _ (fun y hy=>hn y (by simp[bn,hy])) ht (by omega))
 |
  .rc a,to,k,hn,ht,hk=>by
  obtain⟨g1,g2,_,_⟩:=gK F k
  have:(F.length+1)*(2+a.aE)=(F.length+1)*2+(F.length+1)*a.aE:=by simp only[cU]
  simp only[Ty.aE]at hk
  have hl:=wN (k:=nx F k) (by omega)
  exact .l3 (by simp) (.atom hl) (pO F hF a _ _ hn (fun w hw=>by
   rcases aO.1 hw with hw|hw
   ·exact ht w hw
   ·simp only[aS]at hw;rw[hw];exact hl) (by omega))
def ED(t:Ty):Nm:=fg (hZ (bQ t []) t [] 0).1
def told(t:Ty):Option Nm:=if t.aE<=400/\(qL (ED t)).isSome=true then some (ED t)else none
theorem EB{t:Ty}(g:gb t)(hs:u6 t)(ha:t.aE<=400):(ED t).length<=20000:=by
 obtain⟨h1,h2,_⟩:=kC (bQ t []) t [] 0 (.nil _ _) g.1 fun y hy=>⟨(eU t [] y).2 (.inr hy),g.2 y hy⟩
 have hn:=eA t []
 simp only[aH,a6]at hn
 have hm:((bQ t []).length+1)*t.aE<=401*400:=Nat.mul_le_mul (by omega) ha
 have:=(pO (bQ t []) (by omega) t [] 0 hs (fun w hw=>by cases hw) (by omega)).cE h1
 have:=h1.jg h2 ha
 unfold ED;omega
theorem ug(s:Nm):(wA s).isSome=(qL s).isSome:=by
 rw[ur]
 cases he:wA s with
 |none=>rfl
 |
  some e =>
  obtain⟨h1,h2,h3⟩:=pS he
  simp only[jh e [],h2];rfl
theorem SJ(s:Nm):an Tryz.prog 168 [.v (.string (mk s))] [] (bK (.v (.bool (qL s).isSome))):=by
 refine Qg _ ?_
 unfold Mk
 refine aR (Ic s) (jN.ne _ _ (fun h=>h)) ?_
 rintro r o ⟨c,d,hd,rfl,hh⟩
 have hhas:bF [.str,.sl] [.v (.string (mk c)),d] 0:=by simp[bF,dY,hd]
 simp only[↓zq,zs,ac,zt,ug]
 exact⟨hhas,rfl,rfl⟩
theorem PF{e:E}(h:Wf e)(hl:e.dc<=400)(hs:u6 (cS e [])):an Tryz.prog 134 [.agg [.v (.string (mk e.at)),e.sp]] [] (bK (rA (told (cS e [])))):=by
 refine Rs _ _ ((aY _).mpr trivial) ?_
 unfold LX
 have z:=h.sz
 have ma:=DO e h.ok (by omega)
 rw[dj]at ma
 have hA:=DI h xV [] ⟨(bg).mpr trivial,rfl⟩ (by omega) (fun o ho=>by cases ho) (by simp)
 have ha:(cS e []).aE<=400:=by rw[<-h.dc []];exact hl
 have hc:Am e []=(hZ (bQ (cS e []) []) (cS e []) [] 0).1:=by
  unfold Am Aw rm
  rw[List.flatMap_nil,cY,jP (F':=bQ (cS e []) []) fun y=>by rw[lE h,eU]]
 have hx:fg (Am e [])=ED (cS e []):=by rw[hc];rfl
 have hlen:=EB h.qI hs ha
 have hT:=C0 (Am e []) (xq h).1.ok (by rw[hx];omega)
 rw[dj,hx]at hT
 refine aj ma ?_
 simp only[↓zq,zs,ac,zt]
 refine⟨fun h=>by omega,fun _=>?_⟩
 refine aj hA ?_
 simp only[↓zq,zs,ac,zt,aM]
 refine aj hT ?_
 simp only[↓zq,zs,ac,zt]
 refine aj (SJ _) ?_
 simp only[↓zq,zs,ac,zt]
 unfold told
 refine⟨fun hn=>?_,fun hy=>?_⟩
 ·rw[if_neg (by rw[hn];simp)];exact⟨rfl,rfl⟩
 ·rw[if_pos ⟨ha,hy⟩];exact⟨rfl,rfl⟩
abbrev mi:Nm:=[35,49]
noncomputable def cI (s:Nm):Option Nm:=match qL s with
 |some (.rc a)=>(oi a mi).bind told
 |_=>none
theorem nQ{s:Nm}{t:Ty}(h:qL s=some t):∃e,wA s=some e/\Wf e/\cS e []=t/\e.dc<=400/\e.ok:=by
 rw[ur]at h
 cases he:wA s with
 |none=>rw[he]at h;cases h
 |
  some e =>
  rw[he]at h
  obtain⟨h1,h2,h3⟩:=pS he
  obtain⟨hok,_⟩:=nX h1
  obtain⟨w1,w2⟩:=kq e [] t hok (fun w hw=>by cases hw) h
  exact⟨e,rfl,w1,w2,h3,hok⟩
theorem rj{e:E}{x:Nm}{a d:Ty}(hw:Wf e)(ht:cS e []=.rc a)(hx:qM x)(hd:oi a x=some d):gb d/\(u6 (.rc a)->u6 d):=by
 simp only[oi,bi,cR,eS]at hd
 obtain⟨d',h1,_,rfl⟩:=hd
 have g:gb (.rc a):=ht ▸ hw.qI
 have go:gb (dA (.name x) a 0):=⟨gO x a g.1,fun y hy=>by
  rcases gF a 0 hy with rfl|h
  ·exact hx
  ·exact g.2 y h⟩
 refine⟨g.sub (go.dv h1),fun hs y hy=>?_⟩
 rcases jo _ hy with h|⟨h,h'⟩
 ·exact hs y h
 ·rcases gF a 0 (h1.names y h')with e|e
  ·exact absurd e h
  ·exact hs y e
def Nw(y:Nm):Prop:=im y=true\/dk y=true
theorem iZ:∀(e:E) (ar:List Nm) (t:Ty),cT e ar=some t->∀y,bn y t=true->Nw y
 |
  .atom s,ar,t,ht,y,hy=>by
  simp only[cT]at ht
  split at ht
  ·cases ht;cases hy
  ·split at ht
   ·cases ht;cases hy
   ·split at ht
    ·rename_i hp
     cases ht
     simp only[bn,decide_eq_true_eq]at hy
     subst hy;exact .inl hp
    ·split at ht
     ·rename_i hq
      split at ht
      ·cases ht;cases hy
      ·cases ht
       simp only[bn,decide_eq_true_eq]at hy
       subst hy;exact .inr hq
     ·cases ht
 |
  .list [x,a,b],ar,t,ht,y,hy=>by
  by_cases h0:x.at=[43]
  ·obtain⟨t1,t2,h1,h2,rfl⟩:=fQ h0 ht
   simp only[bn,bC]at hy
   rcases hy with hy|hy
   ·exact iZ a ar t1 h1 y hy
   ·exact iZ b ar t2 h2 y hy
  ·by_cases h1:x.at=[42]
   ·obtain⟨t1,t2,h2,h3,rfl⟩:=fp h1 ht
    simp only[bn,bC]at hy
    rcases hy with hy|hy
    ·exact iZ a ar t1 h2 y hy
    ·exact iZ b ar t2 h3 y hy
   ·by_cases h2:x.at=[114,101,99]
    ·obtain⟨t1,hla,h3,rfl⟩:=dB h2 ht
     exact iZ b _ t1 h3 y hy
    ·rw[jq _ h0 h1 h2]at ht;cases ht
 | .list [],ar,t,ht,_,_=>by cases ht
 | .list [_],ar,t,ht,_,_=>by cases ht
 | .list [_,_],ar,t,ht,_,_=>by cases ht
 | .list (_::_::_::_::_),ar,t,ht,_,_=>by cases ht
theorem xb{y:Nm}(h:Nw y):y.length<=3/\∀r,y≠35::r:=by
 have key:∀lo hi,116<=lo->named lo hi y=true->y.length<=3/\∀r,y≠35::r:=fun lo hi hlo h=>by
  cases y with
  |nil=>cases h
  |
   cons c r =>
   simp only[named,az,decide_eq_true_eq]at h
   refine⟨by simp;omega,fun r' e=>?_⟩
   have:c=35:=by injection e
   subst this
   have:=h.1.2.1
   have e35:(35:UInt8).toNat=35:=rfl
   omega
 rcases h with h|h
 ·exact key 120 122 (by omega) h
 ·exact key 116 116 (by omega) h
theorem nf{s:Nm}{t:Ty}(h:qL s=some t):∀y,bn y t=true->Nw y:=by
 rw[ur]at h
 cases he:wA s with
 |none=>rw[he]at h;cases h
 |some e=>rw[he]at h;exact iZ e [] t h
theorem uL{s:Nm}{a:Ty}(h:qL s=some (.rc a)):bn mi a=false:=by
 cases q:bn mi a with
 |false=>rfl
 |true=>exact absurd rfl ((xb (nf h mi q)).2 [49])
theorem Cv{s:Nm}{t:Ty}(h:qL s=some t):u6 t:=fun y hy=>by have:=(xb (nf h y hy)).1;omega
theorem Qd{m:Nm}{B:E}(hm:qM m)(hB:Wf B)(hl:(E.list [.atom dF,.atom m,B]).dc<=400):an Tryz.prog 133 [.agg [.v (.string (mk [])),(E.list [.atom dF,.atom m,B]).sp]] [] (lq (oi (cS B [m]) m)):=by
 have hw:Wf (.list [.atom dF,.atom m,B]):=.rc hm hB
 have hT:cS (.list [.atom dF,.atom m,B]) []=.rc (cS B [m]):=fq _ _ _
 have hP:=P3.of (.atom dF) (.atom m) B
 have hbo:cS B []=dA (.name m) (cS B [m]) 0:=by
  have:=zb m hB []
  rw[cY]at this;exact this
 have hba:B.dc+2=(E.list [.atom dF,.atom m,B]).dc:=by simp only[E.dc,E.eZ];omega
 have i1:=Ai 400 B m hB (by omega) (by omega) hm
 have n1:=ke (s:=m) hB
 rw[hbo]at i1 n1
 refine Pz _ _ ((aY _).mpr trivial) ?_
 simp only[JP,bM,toNat_one,bh,↓zq,zs,ac,zt,hP.1,hP.2.1,hP.2.2.1,hP.2.2.2,aM,dT]
 repeat refine⟨by omega,?_⟩
 refine aR i1 (lq.ne n1) ?_
 rintro r o ⟨rfl,c1,d1,hd1,rfl,hc1⟩
 simp only[↓zq,zs,ac,zt,gJ hd1,oi]
 cases q1:lQ (dA (.name m) (cS B [m]) 0) m with
 |
  none =>
  simp only[bu,bH]
  exact⟨fun _=>lq.no _ _ ((aY _).mpr trivial),fun h=>(by cases h)⟩
 |
  some d =>
  simp only[aZ,a7]
  refine⟨fun h=>(by cases h),fun _=>?_⟩
  obtain⟨ed,wd,td,rfl,rfl⟩:=hc1 d q1
  have p1:=Fj hm wd hw (wd.jg td (cR.1 q1).small) hl
  have g1:=ry (hw.qI.sub (x:=m) wd.qI)
  rw[hT,td]at p1 g1
  simp only[bM]at p1
  repeat refine⟨by omega,?_⟩
  refine aR p1 (lq.ne g1) ?_
  rintro r o ⟨rfl,c2,d2,hd2,rfl,hc2⟩
  simp only[↓zq,zs,ac,zt,gJ hd2]
  exact⟨rfl,c2,d2,hd2,rfl,hc2⟩
theorem LG(s:Nm):an Tryz.prog 96 [.v (.string (mk s))] [] (bK (rA (cI s))):=by
 refine QU _ ?_
 unfold Lp
 refine aR (Ic s) (jN.ne _ _ (fun h=>h)) ?_
 rintro r o ⟨c,d,hd,rfl,hh⟩
 have hhas:bF [.str,.sl] [.v (.string (mk c)),d] 0:=by simp[bF,dY,hd]
 simp only[↓zq,zs,ac,zt]
 refine⟨hhas,fun h=>?_,fun h=>?_⟩
 ·rw[ug]at h
  have:qL s=none:=by cases hq:qL s<;>simp[hq]at h |-
  unfold cI;rw[this];exact⟨rfl,rfl⟩
 ·rw[ug]at h
  obtain⟨t,ht⟩:=bL.1 h
  obtain⟨e,he,hw,hte,hats,hok⟩:=nQ ht
  obtain⟨e',he',hce⟩:=hh (by rw[he];rfl)
  rw[he]at he';cases he'
  have notRec:(∀a,t≠.rc a)->cI s=none:=fun hn=>by
   unfold cI;rw[ht]
   cases t<;>first|rfl|exact absurd rfl (hn _)
  rw[hce,dj]
  cases hw with
  |
   @atom c hc =>
   have hn:cI s=none:=notRec fun a q=>by
    rw[<-hte]at q
    simp only[cS]at q
    split at q
    ·cases q
    ·split at q
     ·cases q
     ·split at q<;>cases q
   rw[hn]
   refine aj (Ap c _ ((aY _).mpr trivial) hc) ?_
   simp only[↓zq,zs,ac,zt]
   exact⟨fun _=>⟨rfl,rfl⟩,fun h=>by simp at h⟩
  |
   @plus x y hx hy =>
   have hn:cI s=none:=notRec fun a q=>by rw[<-hte,dM]at q;cases q
   rw[hn]
   simp only[bM]
   refine aj (oj [43] x y) ?_
   simp only[↓zq,zs,ac,zt]
   exact⟨fun _=>⟨rfl,rfl⟩,fun h=>by simp at h⟩
  |
   @times x y hx hy =>
   have hn:cI s=none:=notRec fun a q=>by rw[<-hte,du]at q;cases q
   rw[hn]
   simp only[bM]
   refine aj (oj [42] x y) ?_
   simp only[↓zq,zs,ac,zt]
   exact⟨fun _=>⟨rfl,rfl⟩,fun h=>by simp at h⟩
  |
   @rc m B hm hB =>
   have hrt:cS (.list [.atom dF,.atom m,B]) []=.rc (cS B [m]):=fq _ _ _
   rw[hrt]at hte
   have hq:cI s=(oi (cS B [m]) m).bind told:=by
    unfold cI;rw[ht,<-hte]
    show (oi (cS B [m]) mi).bind told=_
    rw[Ik (uL (by rw[ht,<-hte])) (by
     cases q:bn m (cS B [m])with
     |false=>rfl
     |true=>exact absurd (by simp) (nw hB [m] m q).2)]
   rw[hq]
   simp only[bM]
   refine aj (oj dF (.atom m) B) ?_
   simp only[↓zq,zs,ac,zt]
   refine⟨fun h=>by simp at h,fun _=>?_⟩
   have hgood:∀d,oi (cS B [m]) m=some d->gb d/\(u6 (.rc (cS B [m]))->u6 d):=fun d hd=>rj (Wf.rc hm hB) hrt hm hd
   refine aR (Qd hm hB hats) (lq.ne fun t h=>(hgood t h).1) ?_
   rintro r o ⟨rfl,c1,d1,hd1,rfl,hc1⟩
   simp only[↓zq,zs,ac,zt,gJ hd1]
   cases q1:oi (cS B [m]) m with
   |
    none =>
    simp only[bu,bH]
    exact⟨fun _=>⟨rfl,rfl⟩,fun h=>(by cases h)⟩
   |
    some d =>
    simp only[aZ,a7]
    refine⟨fun h=>(by cases h),fun _=>?_⟩
    obtain⟨ed,wd,td,rfl,rfl⟩:=hc1 d q1
    have hl:d.aE<=400:=by
     simp only[oi,bi,eS]at q1
     obtain⟨_,_,h1,h2⟩:=q1
     rw[<-h2];exact h1
    have hcn:=PF wd (wd.jg td hl) (by rw[td];exact(hgood d q1).2 (hte ▸ Cv ht))
    rw[td]at hcn
    refine aj hcn ?_
    cases told d<;>simp only[rA,↓zq,zs,ac,zt]<;>exact⟨rfl,rfl⟩
end Go.Proofs.Trees
namespace Go.Proofs.Trees
open Go Go.VL Go.RowKit
def vT(n:Nat):Vl->Ty->Bool
 | .u,.one=>true
 | .el k,.name _=>decide (k<n)
 | .l w,.plus a _=>vT n w a
 | .r w,.plus _ b=>vT n w b
 | .p x y,.times a b=>vT n x a&&vT n y b
 | .f w,.rc a=>vT n w (dA (.rc a) a 0)
 |_,_=>false
def me(us:List Ty):Ty->Nat->Ty
 | .bT k,i=>if k<i then .bT k else us.getD (k-i) .zero
 | .plus a b,i=>.plus (me us a i) (me us b i)
 | .times a b,i=>.times (me us a i) (me us b i)
 | .rc a,i=>.rc (me us a (i+1))
 |t,_=>t
def xH:List Fr->List Ty
 |[]=>[]
 |f::r=>me (xH r) (yZ f.ex r) 0::xH r
theorem lR(u:Ty):∀(t:Ty) {i:Nat},jC t i->dA u t i=t
 | .bT k,i,h=>by simp only[dA];rw[if_neg (by have:k<i:=h;omega)]
 | .plus a b,i,h=>by simp only[dA];rw[lR u a h.1,lR u b h.2]
 | .times a b,i,h=>by simp only[dA];rw[lR u a h.1,lR u b h.2]
 | .rc a,i,h=>by simp only[dA];rw[lR u a (i:=i+1) h]
 | .zero,_,_=>rfl
 | .one,_,_=>rfl
 | .name _,_,_=>rfl
theorem pG(us:List Ty):∀(t:Ty) {i:Nat},jC t i->me us t i=t
 | .bT k,i,h=>by simp only[me];rw[if_pos (by have:k<i:=h;omega)]
 | .plus a b,i,h=>by simp only[me];rw[pG us a h.1,pG us b h.2]
 | .times a b,i,h=>by simp only[me];rw[pG us a h.1,pG us b h.2]
 | .rc a,i,h=>by simp only[me];rw[pG us a (i:=i+1) h]
 | .zero,_,_=>rfl
 | .one,_,_=>rfl
 | .name _,_,_=>rfl
theorem yQ{us:List Ty}(hu:∀u,u∈us->jC u 0)(k:Nat):jC (us.getD k .zero) 0:=by
 by_cases h:k<us.length
 ·rw[aa,bp h];exact hu _ (bD h)
 ·rw[aa,List.getElem?_eq_none (by omega)];trivial
theorem p7{us:List Ty}(hu:∀u,u∈us->jC u 0):∀(t:Ty) (i:Nat),jC (me us t i) i
 |
  .bT k,i=>by
  simp only[me]
  split
  ·rename_i h;exact h
  ·exact gI _ (yQ hu _) (dQ _)
 | .plus a b,i=>⟨p7 hu a i,p7 hu b i⟩
 | .times a b,i=>⟨p7 hu a i,p7 hu b i⟩
 | .rc a,i=>p7 hu a (i+1)
 | .zero,_=>trivial
 | .one,_=>trivial
 | .name _,_=>trivial
theorem nj{us:List Ty}(hu:∀u,u∈us->jC u 0)(U:Ty):∀(t:Ty) (i:Nat),dA U (me us t (i+1)) i=me (U::us) t i
 |
  .bT k,i=>by
  simp only[me]
  by_cases h1:k<i
  ·rw[if_pos (by omega),if_pos h1];simp only[dA];rw[if_neg (by omega)]
  ·rw[if_neg h1]
   by_cases h2:k=i
   ·subst h2;rw[if_pos (by omega)];simp[dA]
   ·rw[if_neg (by omega),lR U _ (gI _ (yQ hu _) (dQ _)),show k-i=(k-(i+1))+1 by omega,List.getD_cons_succ]
 | .plus a b,i=>by simp only[me,dA];rw[nj hu U a i,nj hu U b i]
 | .times a b,i=>by simp only[me,dA];rw[nj hu U a i,nj hu U b i]
 | .rc a,i=>by simp only[me,dA];rw[nj hu U a (i+1)]
 | .zero,_=>rfl
 | .one,_=>rfl
 | .name _,_=>rfl
theorem wE:∀env:List Fr,∀u,u∈xH env->jC u 0
 |[],u,h=>by cases h
 |
  f::r,u,h=>by
  rcases aJ.1 h with rfl|h
  ·exact p7 (wE r) _ 0
  ·exact wE r u h
theorem Ea{env:List Fr}(h:WF env):∀{u:Nat} {g:Fr},env[u]?=some g->(xH env).getD u .zero=me (xH g.out) (yZ g.ex g.out) 0:=by
 induction h with
 |nil=>intro u g hg;simp at hg
 |
  cons hs hok hx ht hf hr ih =>
  intro u g hg
  cases u with
  |zero=>simp at hg;subst hg;rfl
  |
   succ u =>
   have:=ih (u:=u) (g:=g) (by simpa using hg)
   simpa[xH]using this
theorem pF(n:Nat):∀(m:Nat) (v:Vl),v.nodes<=m->∀(e:E) (env:List Fr) (t:Ty),Ask e env t->ff n v (e,env)=vT n v (me (xH env) t 0)
 |0,v,hm=>by have:=dw v;omega
 |
  m+1,v,hm=>by
  intro e env t A
  have recCase:∀(x a b:E) (env:List Fr) (t1:Ty),Ask (.list [x,a,b]) env (.rc t1)->x.at=[114,101,99]->ff n v (.list [x,a,b],env)=vT n v (me (xH env) (.rc t1) 0):=by
   intro x a b env t1 A hx
   have hhd:hd (.list [x,a,b]) env=(.list [x,a,b],env):=pP A.wf
   obtain⟨t1',he1,h1,f1,hw1⟩:=jz A.wf A.ok hx A.ty A.cl
   cases he1
   obtain⟨ok1,ok2,ok3,_⟩:=A.ok
   have A':Ask b (.mk a.at (.list [x,a,b]) env::env) t1:=⟨ok3,hw1,h1,f1⟩
   cases v with
   |
    f w =>
    simp only[Vl.nodes]at hm
    simp only[ff,hhd,hx,beq_self_eq_true,bY]
    rw[pF n m w (by omega) b _ t1 A']
    have hty:yZ (.list [x,a,b]) env=.rc t1:=by unfold yZ;rw[A.ty];rfl
    show vT n w (me (me (xH env) (yZ (.list [x,a,b]) env) 0::xH env) t1 0)=vT n w (dA (.rc (me (xH env) t1 1)) (me (xH env) t1 1) 0)
    rw[hty,nj (wE env)]
    rfl
   |_=>simp[ff,hhd,hx,me,vT]
  rcases gC A.wf A.ty with⟨hb,hq⟩|⟨u,g,rfl,hq,hu⟩
  ·have hhd:hd e env=(e,env):=kl hq
   rcases fP A.ty hb A.cl with⟨rfl,rfl⟩|⟨rfl,rfl⟩|⟨s,rfl,rfl,hp,h0,h1⟩|⟨x,a,b,t1,t2,rfl,hx,rfl,ha,hbb⟩|⟨x,a,b,t1,t2,rfl,hx,rfl,ha,hbb⟩|⟨x,a,b,t1,rfl,hx,rfl⟩
   ·have hp0:im [48]=false:=rfl
    cases v<;>simp[ff,hhd,me,vT,hp0]
   ·cases v<;>simp[ff,hhd,me,vT]
   ·cases v<;>simp[ff,hhd,me,vT,hp,h1]
   ·obtain⟨ok1,ok2,ok3,_⟩:=A.ok
    obtain⟨f1,f2⟩:=fB A.cl
    cases v with
    |
     l w =>
     simp only[Vl.nodes]at hm
     simp only[ff,hhd,hx,beq_self_eq_true,bY,me,vT]
     exact pF n m w (by omega) a env t1 ⟨ok2,A.wf,ha,f1⟩
    |
     r w =>
     simp only[Vl.nodes]at hm
     simp only[ff,hhd,hx,beq_self_eq_true,bY,me,vT]
     exact pF n m w (by omega) b env t2 ⟨ok3,A.wf,hbb,f2⟩
    |_=>simp[ff,hhd,hx,me,vT]
   ·obtain⟨ok1,ok2,ok3,_⟩:=A.ok
    obtain⟨f1,f2⟩:=eY A.cl
    cases v with
    |
     p w w' =>
     simp only[Vl.nodes]at hm
     simp only[ff,hhd,hx,beq_self_eq_true,bY,me,vT]
     rw[pF n m w (by omega) a env t1 ⟨ok2,A.wf,ha,f1⟩,pF n m w' (by omega) b env t2 ⟨ok3,A.wf,hbb,f2⟩]
    |_=>simp[ff,hhd,hx,me,vT]
   ·exact recCase x a b env t1 A hx
  ·obtain⟨x,a,b,t',hfe,hok,hx,ht',hf',hwf,hlt⟩:=oK A.wf hq
   have hrec:hd g.ex g.out=(g.ex,g.out):=by rw[hfe];exact pP hwf
   rw[uE n v (qU hq) hrec]
   have hcl:me (xH env) (.bT u) 0=me (xH g.out) (yZ g.ex g.out) 0:=by
    simp only[me];rw[if_neg (by omega),Nat.sub_zero];exact Ea A.wf hu
   rw[hcl]
   have hty:yZ g.ex g.out=t':=by unfold yZ;rw[ht'];rfl
   rw[hty,hfe]
   rw[hfe]at ht'
   obtain⟨t1,_,_,rfl⟩:=dB hx ht'
   exact recCase x a b g.out t1 ⟨hok,hwf,ht',hf'⟩ hx
theorem nq{n:Nat}{v:Vl}{e:E}{t:Ty}(A:Ask e [] t):ff n v (e,[])=vT n v t:=by
 have:=pF n v.nodes v (au _) e [] t A
 rw[this]
 obtain⟨w,ht⟩:=kq e [] t A.ok (fun w hw=>by cases hw) A.ty
 have hl:=tR w []
 rw[ht]at hl
 exact congrArg (vT n v) (pG _ t hl)
def eT(σ:Nm->Option Ty):Ty->Ty
 | .name s=>(σ s).getD (.name s)
 | .plus a b=>.plus (eT σ a) (eT σ b)
 | .times a b=>.times (eT σ a) (eT σ b)
 | .rc a=>.rc (eT σ a)
 |t=>t
def iV(σ:Nm->Option Ty)(x:Nm)(u:Ty):Nm->Option Ty:=fun s=>if s=x then some u else σ s
theorem ir(σ:Nm->Option Ty)(x:Nm)(u:Ty):∀t:Ty,eT σ (sub x u t)=eT (iV σ x (eT σ u)) t
 |
  .name s=>by
  by_cases h:s=x
  ·simp[sub,eT,iV,h]
  ·simp[sub,eT,iV,h]
 | .plus a b=>by simp only[sub,eT,ir σ x u a,ir σ x u b]
 | .times a b=>by simp only[sub,eT,ir σ x u a,ir σ x u b]
 | .rc a=>by simp only[sub,eT,ir σ x u a]
 | .zero=>rfl
 | .one=>rfl
 | .bT k=>rfl
def CJ(σ:Nm->Option Ty):Prop:=∀s u,σ s=some u->jC u 0
theorem j2{σ:Nm->Option Ty}(hσ:CJ σ):∀(t:Ty) {i:Nat},jC t i->jC (eT σ t) i
 |
  .name s,i,_=>by
  simp only[eT]
  cases q:σ s with
  |none=>trivial
  |some u=>exact gI u (hσ s u q) (dQ _)
 | .plus a b,i,h=>⟨j2 hσ a h.1,j2 hσ b h.2⟩
 | .times a b,i,h=>⟨j2 hσ a h.1,j2 hσ b h.2⟩
 | .rc a,i,h=>j2 hσ a (i:=i+1) h
 | .zero,_,_=>trivial
 | .one,_,_=>trivial
 | .bT k,_,h=>h
theorem jJ{σ:Nm->Option Ty}(hσ:CJ σ)(x:Nm)(U:Ty):∀(t:Ty) (i:Nat),bn x t=false->eT (iV σ x U) (dA (.name x) t i)=dA U (eT σ t) i
 |
  .name s,i,h=>by
  have hs:s≠x:=by simpa[bn]using h
  simp only[dA,eT,iV,if_neg hs]
  cases q:σ s with
  |none=>rfl
  |some u=>exact(lR U u (gI u (hσ s u q) (dQ _))).symm
 |
  .bT k,i,h=>by
  simp only[dA,eT]
  split
  ·simp[eT,iV]
  ·rfl
 |
  .plus a b,i,h=>by
  simp only[bn,cj]at h
  simp only[dA,eT,jJ hσ x U a i h.1,jJ hσ x U b i h.2]
 |
  .times a b,i,h=>by
  simp only[bn,cj]at h
  simp only[dA,eT,jJ hσ x U a i h.1,jJ hσ x U b i h.2]
 | .rc a,i,h=>by simp only[dA,eT,jJ hσ x U a (i+1) h]
 | .zero,_,_=>rfl
 | .one,_,_=>rfl
theorem lG{σ:Nm->Option Ty}(hσ:CJ σ)(x:Nm){u:Ty}(hu:jC u 0):CJ (iV σ x u):=fun s v h=>by
 unfold iV at h
 split at h
 ·cases h;exact hu
 ·exact hσ s v h
theorem ji(x:Nm):∀(n:Nat) (c:Vl) (t:Ty) (i:Nat),c.nodes<=n->dL (dA (.name x) t i) c=dL t c
 |0,c,_,_,h=>by have:=dw c;omega
 |
  n+1,c,t,i,hn=>by
  cases t with
  |bT k=>simp only[dA];split<;>(cases c<;>rfl)
  |
   plus a b =>
   cases c with
   |l c=>simp only[Vl.nodes]at hn;exact ji x n c a i (by omega)
   |r c=>simp only[Vl.nodes]at hn;exact ji x n c b i (by omega)
   |_=>rfl
  |
   times a b =>
   cases c with
   |
    l c =>
    cases c with
    |p y z=>simp only[Vl.nodes]at hn;exact ji x n y a i (by omega)
    |_=>rfl
   |
    r c =>
    cases c with
    |p y z=>simp only[Vl.nodes]at hn;exact ji x n z b i (by omega)
    |_=>rfl
   |_=>rfl
  |
   rc a =>
   cases c with
   |
    f c =>
    cases c with
    |l y=>simp only[Vl.nodes]at hn;exact ji x n y a (i+1) (by omega)
    |
     r c =>
     cases c with
     |
      p y z =>
      simp only[Vl.nodes]at hn
      have h1:=ji x n y a (i+1) (by omega)
      have h2:=ji x n z (.rc a) i (by omega)
      show (dL (dA (.name x) a (i+1)) y&&dL (.rc (dA (.name x) a (i+1))) z)=(dL a y&&dL (.rc a) z)
      rw[h1]
      exact congrArg _ h2
     |_=>rfl
    |_=>rfl
   |_=>rfl
  |_=>rfl
end Go.Proofs.Trees
namespace Go.Proofs.Trees
open Go Go.VL Go.RowKit
theorem dK(x:Nm):∀(n:Nat) (c:Vl) (t:Ty) (i:Nat) (v:Vl),c.nodes<=n->cX (dA (.name x) t i) c v=cX t c v
 |0,c,_,_,_,h=>by have:=dw c;omega
 |
  n+1,c,t,i,v,hn=>by
  cases t with
  |bT k=>simp only[dA];split<;>(cases c<;>rfl)
  |
   plus a b =>
   cases c with
   |l c=>simp only[Vl.nodes]at hn;exact congrArg Vl.l (dK x n c a i v (by omega))
   |r c=>simp only[Vl.nodes]at hn;exact congrArg Vl.r (dK x n c b i v (by omega))
   |_=>rfl
  |
   times a b =>
   cases c with
   |
    l c =>
    cases c with
    |p y z=>simp only[Vl.nodes]at hn;exact congrArg (fun q=>Vl.p q z) (dK x n y a i v (by omega))
    |_=>rfl
   |
    r c =>
    cases c with
    |p y z=>simp only[Vl.nodes]at hn;exact congrArg (Vl.p y) (dK x n z b i v (by omega))
    |_=>rfl
   |_=>rfl
  |
   rc a =>
   cases c with
   |
    f c =>
    cases c with
    |l y=>simp only[Vl.nodes]at hn;exact congrArg Vl.f (dK x n y a (i+1) v (by omega))
    |
     r c =>
     cases c with
     |
      p y z =>
      simp only[Vl.nodes]at hn
      have h2:=dK x n z (.rc a) i v (by omega)
      have h1:=dK x n y a (i+1) (cX (.rc a) z v) (by omega)
      show Vl.f (cX (dA (.name x) a (i+1)) y (cX (.rc (dA (.name x) a (i+1))) z v))=Vl.f (cX a y (cX (.rc a) z v))
      have h3:cX (.rc (dA (.name x) a (i+1))) z v=cX (.rc a) z v:=h2
      rw[h3,h1]
     |_=>rfl
    |_=>rfl
   |_=>rfl
  |_=>rfl
theorem Bt{n:Nat}{c:Vl}{a:Ty}(h:vT n c (.rc a)=true):∃w,c=.f w/\vT n w (dA (.rc a) a 0)=true:=by
 cases c with
 |f w=>exact⟨w,rfl,h⟩
 |_=>simp[vT]at h
theorem jk{n:Nat}{c:Vl}{a b:Ty}(h:vT n c (.plus a b)=true):(∃w,c=.l w/\vT n w a=true)\/∃w,c=.r w/\vT n w b=true:=by
 cases c with
 |l w=>exact .inl ⟨w,rfl,h⟩
 |r w=>exact .inr ⟨w,rfl,h⟩
 |_=>simp[vT]at h
theorem gy{n:Nat}{c:Vl}{a b:Ty}(h:vT n c (.times a b)=true):∃x y,c=.p x y/\vT n x a=true/\vT n y b=true:=by
 cases c with
 |p x y=>simp only[vT,az]at h;exact⟨x,y,rfl,h.1,h.2⟩
 |_=>simp[vT]at h
theorem oW{σ:Nm->Option Ty}(hσ:CJ σ){a c d:Ty}{x:Nm}(ha:jC (.rc a) 0)(hc:jC c 0)(hd:jC d 0):∃X,eT σ (pH a x c d)=.rc X/\dA (.rc X) X 0=.plus (eT (iV σ x (eT σ (.rc a))) c) (.times (eT (iV σ x (eT σ (.rc a))) d) (eT σ (pH a x c d))):=by
 refine⟨.plus (eT σ (sub x (.rc a) c)) (.times (eT σ (sub x (.rc a) d)) (.bT 0)),rfl,?_⟩
 have h1:=j2 hσ (sub x (.rc a) c) (kB ha c hc)
 have h2:=j2 hσ (sub x (.rc a) d) (kB ha d hd)
 simp only[dA,lR _ _ h1,lR _ _ h2,if_true]
 rw[ir,ir]
 simp only[pH,eT,ir]
theorem ve(n:Nat):∀(m:Nat) (c:Vl),c.nodes<=m->∀(t:Ty) (s:Nm) (d:Ty) (σ:Nm->Option Ty),Dv t s d->CJ σ->jC t 0->vT n c (eT σ d)=true->dL t c=true
 |0,c,h=>by have:=dw c;omega
 |
  m+1,c,hm=>by
  intro t s d σ hd hσ hl hv
  cases hd with
  |zero=>cases c<;>rfl
  |one=>cases c<;>rfl
  |bT=>cases c<;>rfl
  |hit=>cases c<;>rfl
  |qF=>cases c<;>rfl
  |
   plus h1 h2 _ =>
   rcases jk hv with⟨w,rfl,hw⟩|⟨w,rfl,hw⟩
   ·simp only[Vl.nodes]at hm;exact ve n m w (by omega) _ s _ σ h1 hσ hl.1 hw
   ·simp only[Vl.nodes]at hm;exact ve n m w (by omega) _ s _ σ h2 hσ hl.2 hw
  |
   times h1 h2 _ =>
   rcases jk hv with⟨w,rfl,hw⟩|⟨w,rfl,hw⟩
   ·obtain⟨x,y,rfl,hx,hy⟩:=gy hw
    simp only[Vl.nodes]at hm;exact ve n m x (by omega) _ s _ σ h1 hσ hl.1 hx
   ·obtain⟨x,y,rfl,hx,hy⟩:=gy hw
    simp only[Vl.nodes]at hm;exact ve n m y (by omega) _ s _ σ h2 hσ hl.2 hy
  |
   @rc a _ c0 d0 x hx hs h1 h2 hsz =>
   have lo:jC (dA (.name x) a 0) 0:=gO x a hl
   obtain⟨X,e1,e2⟩:=oW (x:=x) hσ hl (h1.lc lo) (h2.lc lo)
   have hv':=hv
   rw[e1]at hv'
   obtain⟨w,rfl,hw⟩:=Bt hv'
   rw[e2]at hw
   have hcl:=lG hσ x (j2 hσ (.rc a) hl)
   rcases jk hw with⟨y,rfl,hy⟩|⟨y,rfl,hy⟩
   ·simp only[Vl.nodes]at hm
    have:=ve n m y (by omega) _ s _ _ h1 hcl lo hy
    rw[ji x y.nodes y a 0 (au _)]at this
    exact this
   ·obtain⟨y,z,rfl,hy,hz⟩:=gy hy
    simp only[Vl.nodes]at hm
    have q1:=ve n m y (by omega) _ x _ _ h2 hcl lo hy
    rw[ji x y.nodes y a 0 (au _)]at q1
    have q2:=ve n m z (by omega) (.rc a) s _ σ (.rc x hx hs h1 h2 hsz) hσ hl hz
    show (dL a y&&dL (.rc a) z)=true
    rw[q1,q2];rfl
theorem qu(n:Nat):∀(m:Nat) (c:Vl),c.nodes<=m->∀(t:Ty) (s:Nm) (d:Ty) (σ:Nm->Option Ty),Dv t s d->CJ σ->jC t 0->vT n c (eT σ d)=true->∀v,vT n v (eT σ (.name s))=true->vT n (cX t c v) (eT σ t)=true
 |0,c,h=>by have:=dw c;omega
 |
  m+1,c,hm=>by
  intro t s d σ hd hσ hl hv v hvv
  have no:∀c,vT n c .zero=false:=fun c=>by cases c<;>rfl
  cases hd with
  |zero=>rw[show eT σ .zero=.zero from rfl,no]at hv;cases hv
  |one=>rw[show eT σ .zero=.zero from rfl,no]at hv;cases hv
  |bT=>rw[show eT σ .zero=.zero from rfl,no]at hv;cases hv
  |qF=>rw[show eT σ .zero=.zero from rfl,no]at hv;cases hv
  |hit=>rw[kT];exact hvv
  |
   plus h1 h2 _ =>
   rcases jk hv with⟨w,rfl,hw⟩|⟨w,rfl,hw⟩
   ·simp only[Vl.nodes]at hm;exact qu n m w (by omega) _ s _ σ h1 hσ hl.1 hw v hvv
   ·simp only[Vl.nodes]at hm;exact qu n m w (by omega) _ s _ σ h2 hσ hl.2 hw v hvv
  |
   times h1 h2 _ =>
   rcases jk hv with⟨w,rfl,hw⟩|⟨w,rfl,hw⟩
   ·obtain⟨x,y,rfl,hx,hy⟩:=gy hw
    simp only[Vl.nodes]at hm
    have:=qu n m x (by omega) _ s _ σ h1 hσ hl.1 hx v hvv
    show (vT n _ _&&vT n _ _)=true
    rw[this,hy];rfl
   ·obtain⟨x,y,rfl,hx,hy⟩:=gy hw
    simp only[Vl.nodes]at hm
    have:=qu n m y (by omega) _ s _ σ h2 hσ hl.2 hy v hvv
    show (vT n _ _&&vT n _ _)=true
    rw[this,hx];rfl
  |
   @rc a _ c0 d0 x hx hs h1 h2 hsz =>
   have lo:jC (dA (.name x) a 0) 0:=gO x a hl
   obtain⟨X,e1,e2⟩:=oW (x:=x) hσ hl (h1.lc lo) (h2.lc lo)
   have hv':=hv
   rw[e1]at hv'
   obtain⟨w,rfl,hw⟩:=Bt hv'
   rw[e2]at hw
   have hcl:=lG hσ x (j2 hσ (.rc a) hl)
   have hop:eT (iV σ x (eT σ (.rc a))) (dA (.name x) a 0)=dA (eT σ (.rc a)) (eT σ a) 0:=jJ hσ x _ a 0 hx
   have hns:eT (iV σ x (eT σ (.rc a))) (.name s)=eT σ (.name s):=by simp only[eT,iV,if_neg (Ne.symm hs)]
   have hnx:eT (iV σ x (eT σ (.rc a))) (.name x)=eT σ (.rc a):=by simp[eT,iV]
   rcases jk hw with⟨y,rfl,hy⟩|⟨y,rfl,hy⟩
   ·simp only[Vl.nodes]at hm
    have:=qu n m y (by omega) _ s _ _ h1 hcl lo hy v (by rw[hns];exact hvv)
    rw[hop,dK x y.nodes y a 0 v (au _)]at this
    exact this
   ·obtain⟨y,z,rfl,hy,hz⟩:=gy hy
    simp only[Vl.nodes]at hm
    have q2:=qu n m z (by omega) (.rc a) s _ σ (.rc x hx hs h1 h2 hsz) hσ hl hz v hvv
    have q1:=qu n m y (by omega) _ x _ _ h2 hcl lo hy (cX (.rc a) z v) (by rw[hnx];exact q2)
    rw[hop,dK x y.nodes y a 0 _ (au _)]at q1
    exact q1
def Eu:Nm->Option Ty:=fun _=>none
theorem rU:CJ Eu:=fun _ _ h=>by cases h
theorem iS:∀t:Ty,eT Eu t=t
 | .name s=>rfl
 | .plus a b=>by simp only[eT,iS a,iS b]
 | .times a b=>by simp only[eT,iS a,iS b]
 | .rc a=>by simp only[eT,iS a]
 | .zero=>rfl
 | .one=>rfl
 | .bT k=>rfl
theorem FW{n:Nat}{a D:Ty}{x:Nm}(hx:bn x a=false)(hl:jC (.rc a) 0)(h:oi a x=some D){c:Vl}(hc:vT n c D=true) :
 dL a c=true/\∀v,vT n v (.rc a)=true->vT n (.f (cX a c v)) (.rc a)=true:=by
 simp only[oi,bi,cR,eS]at h
 obtain⟨d,hd,_,rfl⟩:=h
 have lo:jC (dA (.name x) a 0) 0:=gO x a hl
 have hcl:=lG rU x hl
 have e1:sub x (.rc a) d=eT (iV Eu x (.rc a)) d:=by
  have:=ir Eu x (.rc a) d
  rw[iS,iS]at this;exact this
 rw[e1]at hc
 have h1:=ve n c.nodes c (au _) _ x _ _ hd hcl lo hc
 rw[ji x c.nodes c a 0 (au _)]at h1
 refine⟨h1,fun v hv=>?_⟩
 have h2:=qu n c.nodes c (au _) _ x _ _ hd hcl lo hc v (by simpa[eT,iV]using hv)
 rw[dK x c.nodes c a 0 v (au _),jJ rU x _ a 0 hx,iS]at h2
 exact h2
end Go.Proofs.Trees
namespace Go.Proofs.Trees
open Go Go.VL Go.RowKit
theorem zT{env:List Fr}(h:WF env):∀w,w∈names env->dk w=true:=by
 induction h with
 |nil=>intro w hw;cases hw
 |
  cons hs _ _ _ _ _ ih =>
  intro w hw
  simp only[names,aO,aS]at hw
  rcases hw with hw|rfl
  ·exact ih w hw
  ·exact hs
theorem Bo{ar:List (List UInt8)}{k:Nat}(h:k<ar.length):gu ar k∈ar:=by
 unfold gu
 have:ar.length-1-k<ar.length:=by omega
 simp[aa,this]
def BQ(s:List UInt8)(ar:List (List UInt8)):Prop:=im s=true\/(bR s ar ar.length).isSome=true
theorem vD{s:List UInt8}{ar:List (List UInt8)}{u:Nat}(hl:∀w,w∈ar->dk w=true)(h:bR s ar ar.length=some u):dk s=true:=by
 obtain⟨h1,h2⟩:=fM _ _ (au _) h
 rw[<-h2];exact hl _ (Bo h1)
theorem Ie{s0 s:List UInt8}{ar:List (List UInt8)}{t:Ty}(ht:cT (.atom s0) ar=some t)(hl:∀w,w∈ar->dk w=true)(hs:BQ s ar):eD t (oV s ar)=decide (s0=s):=by
 have h48:∀b:UInt8,im [b]=false->dk [b]=false->s≠[b]:=fun b h1 h2 e=>by
  subst e
  rcases hs with h|h
  ·rw[h1]at h;cases h
  ·obtain⟨u,hu⟩:=bL.1 h
   rw[vD hl hu]at h2;cases h2
 simp only[cT]at ht
 split at ht
 ·rename_i e;cases ht;subst e
  have:=h48 48 rfl rfl
  rw[decide_eq_false (fun h=>this h.symm)];cases oV s ar<;>rfl
 ·split at ht
  ·rename_i e;cases ht;subst e
   have:=h48 49 rfl rfl
   rw[decide_eq_false (fun h=>this h.symm)];cases oV s ar<;>rfl
  ·split at ht
   ·rename_i hp
    cases ht
    unfold oV
    cases e:bR s ar ar.length with
    |none=>rfl
    |
     some u =>
     have hloo:=vD hl e
     show false=_
     rw[decide_eq_false]
     rintro rfl
     rw[kA hp]at hloo;cases hloo
   ·rename_i hnp
    split at ht
    ·split at ht
     ·rename_i u hu
      cases ht
      unfold oV
      cases e:bR s ar ar.length with
      |
       none =>
       show false=_
       rw[decide_eq_false]
       rintro rfl
       rw[hu]at e;cases e
      |
       some u' =>
       show decide (u=u')=_
       rw[cw,decide_eq_true_eq,decide_eq_true_eq]
       constructor
       ·rintro rfl
        rw[<-(fM _ _ (au _) hu).2,<-(fM _ _ (au _) e).2]
       ·rintro rfl
        rw[hu]at e;cases e;rfl
     ·rename_i hn
      cases ht
      unfold oV
      cases e:bR s ar ar.length with
      |none=>rfl
      |
       some u =>
       show false=_
       rw[decide_eq_false]
       rintro rfl
       rw[hn]at e;cases e
    ·cases ht
theorem D2{b:E}{ar:List (List UInt8)}{w:List UInt8}{t:Ty}(hb:cT b (ar++[w])=some t)(hw:dk w=true)(hs:BQ w ar):uV t (oV w ar).up=false:=by
 rcases hs with h|h
 ·rw[kA h]at hw;cases hw
 ·obtain⟨u,hu⟩:=bL.1 h
  rw[oV,hu];exact Ha hb hu
theorem An{s w:List UInt8}{ar:List (List UInt8)}(h:w≠s)(hs:BQ s ar):BQ s (ar++[w]):=by
 rcases hs with h1|h1
 ·exact .inl h1
 ·right;rw[jK ar h];obtain⟨u,hu⟩:=bL.1 h1;rw[hu];rfl
def Sf(e:E)(s:List UInt8)(t:Ty)(tg:Tg)(v:Vl):Prop:=an Tryz.prog 92 [.agg [.v (.string (mk e.at)),e.sp],.v (.string (mk s)),.agg [.v (.string (mk v.cL.at)),v.cL.sp]] [] (bK (.sl (mg (cm t tg v))))
theorem E4(n:Nat):∀(m:Nat) (v:Vl),v.nodes<=m->∀(e:E) (env:List Fr) (t:Ty),Ask e env t->ff n v (e,env)=true->env.length+v.nodes<100000->∀(s:List UInt8),BQ s (names env)->Sf e s t (oV s (names env)) v
 |0,v,hm=>by have:=dw v;omega
 |
  m+1,v,hm=>by
  intro e env t A hv hl s hs
  have hloo:=zT A.wf
  unfold Sf
  refine QA _ _ _ _ _ ((aY _).mpr trivial) ((aY _).mpr trivial) ?_
  have hlen:=na t (oV s (names env)) v
  have atomCase:∀s0,e=.atom s0->stuck t v=true->eX Tryz.prog 244 (wP (mk e.at) e.sp (mk s) (mk v.cL.at) v.cL.sp) fun _ xs obs=>bK (.sl (mg (cm t (oV s (names env)) v))) (xs.headD .any) obs:=by
   rintro s0 rfl hst
   have hat:=Ie A.ty hloo hs
   have hne:s0≠[]:=A.ok
   simp only[wP,E.at,↓zq,zs,ac,zt]
   refine⟨fun _=>⟨fun h=>?_,fun h=>?_⟩,fun h=>absurd h hne⟩
   ·rw[decide_eq_true h]at hat
    rw[mI v hat]
    refine⟨⟨Ad _ _ _ _,by omega⟩,?_⟩
    simp[bK,mg,Vl.cL,E.at,E.sp]
   ·rw[decide_eq_false h]at hat
    rw[dU hat hst]
    simp[bK,mg]
  have hvh:=BD v
  rw[dj]at hvh
  rcases gC A.wf A.ty with⟨hb,hq⟩|⟨u,g,rfl,hq,hu⟩
  ·have hhd:hd e env=(e,env):=kl hq
   rcases fP A.ty hb A.cl with⟨rfl,rfl⟩|⟨rfl,rfl⟩|⟨s0,rfl,rfl,hp,h0,h1⟩|⟨x,a,b,t1,t2,rfl,hx,rfl,ha,hbb⟩|⟨x,a,b,t1,t2,rfl,hx,rfl,ha,hbb⟩|⟨x,a,b,t1,rfl,hx,rfl⟩
   ·exact atomCase _ rfl (by cases v<;>rfl)
   ·exact atomCase _ rfl (by cases v<;>rfl)
   ·exact atomCase _ rfl (by cases v<;>rfl)
   ·obtain⟨ok1,ok2,ok3,_⟩:=A.ok
    obtain⟨f1,f2⟩:=fB A.cl
    have hP:=P3.of x a b
    cases v with
    |
     l w =>
     simp only[ff,hhd,hx,beq_self_eq_true,bY]at hv
     simp only[Vl.nodes]at hm hl hlen
     rw[nA]at hlen |-
     rw[fX]at hlen
     have hW:=P2.of (.atom [108]) w.cL
     simp only[wP,E.at,↓zq,zs,ac,zt]
     refine⟨fun h=>absurd rfl h,fun _=>aj hvh ?_⟩
     simp only[vh,Vl.cL,toNat_one,bh,↓zq,zs,ac,zt,hP.1,hP.2.1,hP.2.2.1,hP.2.2.2,hW.1,hW.2.1,hW.2.2,aM]
     refine⟨fun _=>?_,fun h=>absurd rfl h⟩
     repeat refine⟨by omega,?_⟩
     refine aj (E4 n m w (by omega) a env t1 ⟨ok2,A.wf,ha,f1⟩ hv (by omega) s hs) ?_
     simp only[↓zq,zs,ac]
     refine aX (K5 [108] Vl.l (fun c=>rfl) (cm t1 (oV s (names env)) w) [] (by simp;omega)) ?_
     simp[↓zq,zs,ac,bK,aQ,bz]
    |
     r w =>
     simp only[ff,hhd,hx,beq_self_eq_true,bY]at hv
     simp only[Vl.nodes]at hm hl hlen
     rw[nu]at hlen |-
     rw[fX]at hlen
     have hW:=P2.of (.atom [114]) w.cL
     simp only[wP,E.at,↓zq,zs,ac,zt]
     refine⟨fun h=>absurd rfl h,fun _=>aj hvh ?_⟩
     simp only[vh,Vl.cL,toNat_one,bh,↓zq,zs,ac,zt,hP.1,hP.2.1,hP.2.2.1,hP.2.2.2,hW.1,hW.2.1,hW.2.2,aM]
     refine⟨fun h=>by simp at h,fun _=>⟨fun _=>?_,fun h=>absurd rfl h⟩⟩
     repeat refine⟨by omega,?_⟩
     refine aj (E4 n m w (by omega) b env t2 ⟨ok3,A.wf,hbb,f2⟩ hv (by omega) s hs) ?_
     simp only[↓zq,zs,ac]
     refine aX (K5 [114] Vl.r (fun c=>rfl) (cm t2 (oV s (names env)) w) [] (by simp;omega)) ?_
     simp[↓zq,zs,ac,bK,aQ,bz]
    |_=>simp[ff,hhd,hx]at hv
   ·obtain⟨ok1,ok2,ok3,_⟩:=A.ok
    obtain⟨f1,f2⟩:=eY A.cl
    have hP:=P3.of x a b
    cases v with
    |
     p w w' =>
     simp only[ff,hhd,hx,beq_self_eq_true,bY,az]at hv
     simp only[Vl.nodes]at hm hl hlen
     rw[nl]at hlen |-
     simp only[aq,fX]at hlen
     have hW:=P3.of (.atom [112]) w.cL w'.cL
     simp only[wP,E.at,↓zq,zs,ac,zt]
     refine⟨fun h=>absurd rfl h,fun _=>aj hvh ?_⟩
     simp only[vh,Vl.cL,toNat_one,bh,↓zq,zs,ac,zt,hP.1,hP.2.1,hP.2.2.1,hP.2.2.2,hW.1,hW.2.1,hW.2.2.1,hW.2.2.2,aM]
     refine⟨fun h=>by simp at h,fun _=>⟨fun h=>by simp at h,fun _=>⟨fun _=>?_,fun h=>absurd rfl h⟩⟩⟩
     repeat refine⟨by omega,?_⟩
     refine aj (E4 n m w (by omega) a env t1 ⟨ok2,A.wf,ha,f1⟩ hv.1 (by omega) s hs) ?_
     simp only[↓zq,zs,ac]
     have h1:=N3 s (mk []) (E.list [x,a,b]).sp ((aY _).mpr trivial) (mk []) (E.list [.atom [112],w.cL,w'.cL]).sp w w' (P3.of _ _ _) (cm t1 (oV s (names env)) w) (by omega) _ 0 [] (a6 _) (by simp;omega)
     rw[be,aW]at h1
     refine cx h1 ?_
     simp only[↓zq,zs,ac,aY,ac,bh,hP.1,hP.2.1,hP.2.2.2,hW.1,hW.2.1,hW.2.2.2,aM]
     repeat refine⟨by omega,?_⟩
     refine aj (E4 n m w' (by omega) b env t2 ⟨ok3,A.wf,hbb,f2⟩ hv.2 (by omega) s hs) ?_
     simp only[↓zq,zs,ac]
     have h2:=OS (mk []) (E.list [.atom [112],w.cL,w'.cL]).sp w w' (P3.of _ _ _) (cm t2 (oV s (names env)) w') (by omega) _ 0 (iM (fun c=>Vl.l (.p c w')) (cm t1 (oV s (names env)) w)) (a6 _) (by rw[fX];omega)
     rw[be]at h2
     refine cx h2 ?_
     simp[↓zq,zs,ac,bK]
    |_=>simp[ff,hhd,hx]at hv
   ·obtain⟨t1',he1,h1,f1,hw1⟩:=jz A.wf A.ok hx A.ty A.cl
    cases he1
    obtain⟨ok1,ok2,ok3,_⟩:=A.ok
    obtain⟨_,hla,_,_⟩:=dB hx A.ty
    have A':Ask b (.mk a.at (.list [x,a,b]) env::env) t1:=⟨ok3,hw1,h1,f1⟩
    have hnm:names (.mk a.at (.list [x,a,b]) env::env)=names env++[a.at]:=rfl
    have hP:=P3.of x a b
    cases v with
    |
     f w =>
     simp only[ff,hhd,hx,beq_self_eq_true,bY]at hv
     simp only[Vl.nodes]at hm hl hlen
     have hW:=P2.of (.atom [102]) w.cL
     simp only[wP,E.at,↓zq,zs,ac,zt]
     refine⟨fun h=>absurd rfl h,fun _=>aj hvh ?_⟩
     simp only[vh,Vl.cL,toNat_one,bh,↓zq,zs,ac,zt,hP.1,hP.2.1,hP.2.2.1,hP.2.2.2,hW.1,hW.2.1,hW.2.2,aM]
     refine⟨fun h=>by simp at h,fun _=>⟨fun h=>by simp at h,fun _=>⟨fun h=>by simp at h,fun _=>?_⟩⟩⟩
     repeat refine⟨by omega,?_⟩
     refine⟨fun h=>?_,fun h=>?_⟩
     ·
      have hh:a.at=s:=h
      subst hh
      have:uV (.rc t1) (oV a.at (names env))=false:=D2 h1 hla hs
      rw[jd _ _ (au _) _ _ this]
      simp[bK,mg]
     ·have hh:a.at≠s:=h
      rw[nr]at hlen |-
      simp only[aq,fX]at hlen
      repeat refine⟨by omega,?_⟩
      have i1:=E4 n m w (by omega) b _ t1 A' hv (by simp;omega) s (by rw[hnm];exact An hh hs)
      rw[hnm,zm _ hh]at i1
      refine aj i1 ?_
      simp only[↓zq,zs,ac]
      have h3:=N8 s a.at (mk []) (E.list [x,a,b]).sp ((aY _).mpr trivial) (mk []) (E.list [.atom [102],w.cL]).sp ((aY _).mpr trivial) (cm t1 (oV s (names env)).up w) (by omega) _ 0 [] (a6 _) (by simp;omega)
      rw[be,aW]at h3
      refine cx h3 ?_
      simp only[↓zq,zs,ac,aY,ac,toNat_one,bh,hP.1,hP.2.1,hP.2.2.2,hW.1,hW.2.1,hW.2.2,aM]
      repeat refine⟨by omega,?_⟩
      have i2:=E4 n m w (by omega) b _ t1 A' hv (by simp;omega) a.at (by rw[hnm];right;rw[fA];rfl)
      rw[hnm,vH]at i2
      refine aj i2 ?_
      simp only[↓zq,zs,ac]
      have hl2:=na t1 (.bd 0) w
      have ih3:∀h,h∈cm t1 (.bd 0) w->Sf (.list [x,a,b]) s (.rc t1) (oV s (names env)) h.2:=fun h hh=>by
       have h3:=(iE hh).1
       have h4:=iB n m w (by omega) b _ t1 A' hv 0 _ rfl h hh
       exact E4 n m h.2 (by omega) (.list [x,a,b]) env (.rc t1) A h4 (by omega) s hs
      have h4:=Nh s (.list [x,a,b]) t1 (oV s (names env)) (cm t1 (.bd 0) w) (by omega) ih3 _ 0 (iM (fun c=>.f (.l c)) (cm t1 (oV s (names env)).up w)) (a6 _) (by
       simp only[be,aq,fX]
       have hlen2:(cm t1 (oV s (names env)).up w).length+((cm t1 (.bd 0) w).flatMap (Az t1 (oV s (names env)))).length<=1+w.nodes:=hlen
       omega)
      rw[be]at h4
      simp only[E.at]at h4
      refine cx h4 ?_
      simp[↓zq,zs,ac,bK]
    |_=>simp[ff,hhd,hx]at hv
  ·cases e with
   |atom s0=>exact atomCase _ rfl (by cases v<;>rfl)
   |list l=>exact absurd hq (by rw[show (E.list l).at=[] from rfl,kU A.wf];simp)
end Go.Proofs.Trees
namespace Go.Proofs.Trees
open Go Go.VL Go.RowKit
def kJ(s:List UInt8):Option Ty:=match wT s with
 |some (.rc a)=>some a
 |_=>none
def AG:Option Ty->AV
 |some a=>(Ty.rc a).av
 |none=>iI
theorem Pb(s:List UInt8):an Tryz.prog 107 [.v (.string (mk s))] [] (bK (AG (kJ s))):=by
 refine Pw _ ?_
 unfold M9
 refine aj (MO s) ?_
 cases h:wT s with
 |none=>simp[↓zq,zs,ac,io,AG,kJ,h,bK]
 |some t=>cases t<;>simp[↓zq,zs,ac,io,AG,kJ,h,bK,Ty.av]
def qy(s v:List UInt8):Option Vl:=match kJ s with
 |some _=>mf s v 100
 |none=>none
def HG(s:List UInt8):AV:=match kJ s with
 |some a=>(Ty.rc a).av
 |none=>iI
theorem uh{s:List UInt8}{a:Ty}(h:kJ s=some a):wT s=some (.rc a):=by
 unfold kJ at h
 split at h
 ·rename_i e;cases h;exact e
 ·cases h
theorem SC(s v:List UInt8):an Tryz.prog 84 [.v (.string (mk s)),.v (.string (mk v))] [] (bK (.cD [HG s,jb (qy s v)])):=by
 refine Qv _ _ ?_
 unfold Oa
 refine aj (Pb s) ?_
 cases h:kJ s with
 |none=>simp[↓zq,zs,ac,AG,HG,qy,h,bK,jb]
 |
  some a =>
  simp only[↓zq,zs,ac,AG,aF,fS]
  refine⟨fun h=>(by cases h),fun _=>?_⟩
  refine aj (Ho s v 100) ?_
  rw[uh h]
  simp[↓zq,zs,ac,io,gf,HG,qy,h,bK,aF]
structure LV(s v:List UInt8)(w:Vl)(a:Ty)(x A B:E):Prop where
 l:kJ s=some a
 ce:jL s=some (.list [x,A,B])
 v:sw v=some w
 ask:Ask (.list [x,A,B]) [] (.rc a)
 hx:x.at=[114,101,99]
 Tp:dk A.at=true
 body:Ask B [.mk A.at (.list [x,A,B]) []] a
 ff:ff 100 w (.list [x,A,B],[])=true
theorem tt{e:E}{env:List Fr}{a:Ty}(A:Ask e env (.rc a)):∃x y z,e=.list [x,y,z]/\x.at=[114,101,99]/\dk y.at=true/\Ask z (.mk y.at (.list [x,y,z]) env::env) a:=by
 rcases fP A.ty rfl A.cl with⟨_,h⟩|⟨_,h⟩|⟨s,_,h,_⟩|⟨x,y,z,t1,t2,_,_,h,_⟩|⟨x,y,z,t1,t2,_,_,h,_⟩|⟨x,y,z,t1,rfl,hx,h⟩
 ·cases h
 ·cases h
 ·cases h
 ·cases h
 ·cases h
 ·cases h
  obtain⟨t1',he1,h1,f1,hw1⟩:=jz A.wf A.ok hx A.ty A.cl
  cases he1
  obtain⟨_,_,ok3,_⟩:=A.ok
  obtain⟨_,hla,_,_⟩:=dB hx A.ty
  exact⟨x,y,z,rfl,hx,hla,ok3,hw1,h1,f1⟩
theorem p8{s v:List UInt8}{w:Vl}(h:qy s v=some w):∃a x A B,LV s v w a x A B:=by
 unfold qy at h
 split at h
 ·rename_i a hl
  obtain⟨e,t,m,h1,h2,h3,h4,h5,h6,h7⟩:=ot h
  rw[uh hl]at h3
  cases h3
  obtain⟨x,A,B,rfl,hx,hA,hB⟩:=tt h4
  have:m=100:=by omega
  subst this
  exact⟨a,x,A,B,hl,h1,h2,h4,hx,hA,hB,h7⟩
 ·cases h
theorem LV.ic{s v:List UInt8}{w:Vl}{a:Ty}{x A B:E}(h:LV s v w a x A B):w.ic 100:=(lT h.v).2.1
theorem LV.nodes{s v:List UInt8}{w:Vl}{a:Ty}{x A B:E}(h:LV s v w a x A B):w.nodes<=200:=(lT h.v).2.2
theorem ux{n:Nat}{v:Vl}{x A B:E}{env:List Fr}(hw:WF env)(hx:x.at=[114,101,99])(h:ff n v (.list [x,A,B],env)=true):∃w,v=.f w/\ff n w (B,.mk A.at (.list [x,A,B]) env::env)=true:=by
 have hd:=pP (x:=x) (a:=A) (b:=B) hw
 cases v<;>simp[ff,hd,hx]at h |-
 exact h
theorem LO(n:Nat)(v:Vl)(x A B:E)(a:Ty)(hA:Ask B [.mk A.at (.list [x,A,B]) []] a)(hx:x.at=[114,101,99])(hv:ff n v (.list [x,A,B],[])=true)(hl:v.nodes<90000):an Tryz.prog 68 [(Ty.rc a).av,v.cA] [] (bK (.sl (gP (kids a v)))):=by
 obtain⟨w,rfl,hw⟩:=ux .nil hx hv
 refine Si _ _ ((aF _).mpr trivial) ((aN _).mpr trivial) ?_
 unfold Ls
 refine aR (Ek a iI [] .nil) (CG.ne a iI []) ?_
 rintro r o ⟨⟨m,hm,rfl⟩,rfl⟩
 have he2:kE (.ptr [.pid m [(Ty.rc a).av,iI],iI]) [m]:=.cons hm .nil
 have hfr:LK.ptr.has (.pid m [(Ty.rc a).av,iI]):=.inr (.inr ⟨_,_,rfl⟩)
 simp only[Ty.av]at he2 hfr
 simp only[↓zq,zs,ac,bF,aF,he2.has,hfr,Vl.cA,aN,Ty.av]
 repeat refine⟨by omega,?_⟩
 simp only[Vl.nodes]at hl
 have i2:=E1 n w.nodes w (au _) B _ a hA hw (by simp;omega) _ _ he2 (by simp) (.bd 0) [] _ (by have:=Ax.bd (k:=0) (ids:=[m]) (by simp) [(Ty.rc a).av,iI] [];simpa only[bq,Ty.av]using this)
 unfold IE at i2
 refine aj i2 ?_
 simp[↓zq,zs,ac,bK,kids]
def sj(l:List Nat):List (List AV):=l.map fun(k:Nat)=>[.v (.int .i64 (k:Int))]
theorem wQ(l:List Nat):(sj l).length=l.length:=by simp[sj]
end Go.Proofs.Trees
namespace Go.Proofs.Trees
open Go Go.VL Go.RowKit
theorem Hy{b:UInt8}(h:iq b=true):fh b=true:=by
 simp only[iq,fh,decide_eq_true_eq]at h |-;omega
theorem DE{y:Nm}(h:Nw y):y≠[]/\y.all fh=true:=by
 have key:∀lo hi,97<=lo->hi<=122->named lo hi y=true->y≠[]/\y.all fh=true:=fun lo hi h1 h2 h=>by
  cases y with
  |nil=>cases h
  |
   cons c r =>
   simp only[named,az,decide_eq_true_eq]at h
   refine⟨by simp,?_⟩
   rw[da,az]
   refine⟨?_,?_⟩
   ·simp only[fh,decide_eq_true_eq];omega
   ·rw[bZ]
    intro b hb
    exact Hy (bZ.1 h.2 b hb)
 rcases h with h|h
 ·exact key 120 122 (by omega) (by omega) h
 ·exact key 116 116 (by omega) (by omega) h
theorem CE(m:Nat):(tN m).all fh=true:=by
 rw[da,xt (m+1) m (by omega)];rfl
theorem pN(F:List Nm):∀(t:Ty) (to:List Nm) (k:Nat),(∀y,bn y t=true->y≠[]/\y.all fh=true)->(∀w,w∈to->w≠[]/\w.all fh=true)->jC t to.length->(hZ F t to k).1.pr
 | .zero,_,_,_,_,_=>⟨by simp,by decide⟩
 | .one,_,_,_,_,_=>⟨by simp,by decide⟩
 | .name s,_,_,hn,_,_=>hn s (by simp[bn])
 |
  .bT u,to,_,_,ht,hl=>by
  have:to.length-1-u<to.length:=by have:u<to.length:=hl;omega
  show (E.atom (gu to u)).pr
  unfold gu
  rw[aa,bp this]
  exact ht _ (bD this)
 | .plus a b,to,k,hn,ht,hl=>⟨by simp,⟨by simp,by decide⟩,pN F a to k (fun y hy=>hn y (by simp[bn,hy])) ht hl.1,pN F b to _ (fun y hy=>hn y (by simp[bn,hy])) ht hl.2,trivial⟩
 | .times a b,to,k,hn,ht,hl=>⟨by simp,⟨by simp,by decide⟩,pN F a to k (fun y hy=>hn y (by simp[bn,hy])) ht hl.1,pN F b to _ (fun y hy=>hn y (by simp[bn,hy])) ht hl.2,trivial⟩
 |
  .rc a,to,k,hn,ht,hl=>by
  refine⟨by simp,⟨by simp,by decide⟩,⟨by simp,CE _⟩,pN F a (to++[tN (nx F k)]) _ hn (fun w hw=>?_) (by rw[aq];exact hl),trivial⟩
  rcases aO.1 hw with hw|hw
  ·exact ht w hw
  ·simp only[aS]at hw;rw[hw];exact⟨by simp,CE _⟩
theorem zy{D:Ty}{dt:Nm}(g:gb D)(hn:∀y,bn y D=true->Nw y)(h:told D=some dt):qL dt=some D:=by
 unfold told at h
 split at h
 ·rename_i hh
  cases h
  obtain⟨t,ht⟩:=bL.1 hh.2
  obtain⟨e,he,hw,hte,_,_⟩:=nQ ht
  obtain⟨h1,_,_⟩:=pS he
  obtain⟨hx,hpr,_⟩:=xZ h1
  obtain⟨w1,w2,_⟩:=kC (bQ D []) D [] 0 (.nil _ _) g.1 fun y hy=>⟨(eU D [] y).2 (.inr hy),g.2 y hy⟩
  have hp:=pN (bQ D []) D [] 0 (fun y hy=>DE (hn y hy)) (fun w hw=>by cases hw) g.1
  have:=Cr hp hpr hx
  rw[ht,<-hte,<-this,w2]
 ·cases h
theorem tb{a d:Ty}{x:Nm}(h:oi a x=some d):∀y,bn y d=true->bn y a=true:=by
 simp only[oi,bi,cR,eS]at h
 obtain⟨d',h1,_,rfl⟩:=h
 intro y hy
 rcases jo _ hy with h|⟨h,h'⟩
 ·exact h
 ·rcases gF a 0 (h1.names y h')with e|e
  ·exact absurd e h
  ·exact e
structure ZT(s d:Nm)(a:Ty)(x A B:E)(D:Ty):Prop where
 l:kJ s=some a
 ce:jL s=some (.list [x,A,B])
 ask:Ask (.list [x,A,B]) [] (.rc a)
 hx:x.at=[114,101,99]
 body:Ask B [.mk A.at (.list [x,A,B]) []] a
 dl:cI s=some d
 y:qL s=some (.rc a)
 lp:oi a mi=some D
 bk:qL d=some D
theorem uU{s:Nm}{t:Ty}(h:wT s=some t):qL s=some t:=by
 unfold wT at h
 split at h
 ·cases h
 ·rename_i u hu
  split at h
  ·cases h;exact hu
  ·cases h
theorem ZT.of{s d:Nm}{a:Ty}(hl:kJ s=some a)(hd:cI s=some d):∃x A B D,ZT s d a x A B D:=by
 have hc:=uh hl
 cases hce:jL s with
 |none=>rw[ni hce]at hc;cases hc
 |
  some e =>
  obtain⟨t,h1,hA,_⟩:=gZ hce
  rw[hc]at h1;cases h1
  obtain⟨x,A,B,rfl,hx,hA',hB⟩:=tt hA
  have hy:=uU hc
  have hd':=hd
  unfold cI at hd'
  rw[hy]at hd'
  obtain⟨D,h2,h3⟩:=bi.1 hd'
  obtain⟨e2,he2,hw2,hte2,_,_⟩:=nQ hy
  have hg:=rj hw2 hte2 (x:=mi) ⟨by simp,by simp,by simp⟩ h2
  exact⟨x,A,B,D,hl,hce,hA,hx,hB,hd,hy,h2,zy hg.1 (fun y hy'=>nf hy y (tb h2 y hy')) h3⟩
structure Cx(a:Ty)(w:Vl):Prop where
 ok:dL a w=true
 ty:∀v,vT 100 v (.rc a)=true->vT 100 (.f (cX a w v)) (.rc a)=true
 ic:w.ic 100
 nd:w.nodes<=200
structure Fo(a:Ty)(v:Vl):Prop where
 ty:vT 100 v (.rc a)=true
 ic:v.ic 100
 nd:v.nodes<=200
theorem ZT.CI{s d:Nm}{a:Ty}{x A B:E}{D:Ty}(z:ZT s d a x A B D){c:Nm}{w:Vl}(h:mf d c 100=some w):Cx a w:=by
 obtain⟨e,t,m,h1,h2,h3,h4,h5,h6,h7⟩:=ot h
 have hm:m=100:=by omega
 subst hm
 have:=uU h3
 rw[z.bk]at this;cases this
 rw[nq h4]at h7
 obtain⟨e2,he2,hw2,hte2,_,_⟩:=nQ z.y
 have hlc:jC (.rc a) 0:=hte2 ▸ hw2.qI.1
 obtain⟨q1,q2⟩:=FW (uL z.y) hlc z.lp h7
 exact⟨q1,q2,(lT h2).2.1,(lT h2).2.2⟩
theorem ZT.nH{s d:Nm}{a:Ty}{x A B:E}{D:Ty}(z:ZT s d a x A B D){f:Nm}{v:Vl}(h:qy s f=some v):Fo a v/\f=v.cE:=by
 obtain⟨a',x',A',B',L⟩:=p8 h
 have:=L.l
 rw[z.l]at this;cases this
 exact⟨⟨by rw[<-nq L.ask];exact L.ff,L.ic,L.nodes⟩,qJ L.v⟩
theorem Fo.ff{s d:Nm}{a:Ty}{x A B:E}{D:Ty}(z:ZT s d a x A B D){v:Vl}(h:Fo a v):ff 100 v (.list [x,A,B],[])=true:=by rw[nq z.ask];exact h.ty
theorem ZT.cE{s d:Nm}{a:Ty}{x A B:E}{D:Ty}(z:ZT s d a x A B D){w:Vl}(hb:w.ic 100)(hv:vT 100 w (.rc a)=true):mf s w.cE 100=if w.nodes<=200 then some w else none:=by
 unfold mf
 rw[z.ce]
 by_cases hn:w.nodes<=200
 ·rw[qX hb hn,if_pos hn]
  simp only
  rw[if_pos ⟨by omega,by rw[show (100:Int).toNat=100 from rfl,nq z.ask];exact hv⟩]
 ·rw[if_neg hn]
  cases q:sw w.cE with
  |none=>rfl
  |
   some w' =>
   exfalso
   obtain⟨_,h2,h3⟩:=lT q
   have:=tS hb h2 (qJ q)
   rw[this]at hn;exact hn h3
theorem ZT.lv{s d:Nm}{a:Ty}{x A B:E}{D:Ty}(z:ZT s d a x A B D)(f:Nm):qy s f=mf s f 100:=by
 unfold qy;rw[z.l]
def eE(d:Nm):List Nm->Option (List Vl)
 |[]=>some []
 |
  c::r=>match mf d c 100,eE d r with
  |some w,some l=>some (w::l)
  |_,_=>none
theorem rZ{s d:Nm}{a:Ty}{x A B:E}{D:Ty}(z:ZT s d a x A B D):∀(p:List Nm) (l:List Vl),eE d p=some l->p=l.map (·.cE)/\∀c,c∈l->Cx a c
 |[],l,h=>by cases h;exact⟨rfl,fun c hc=>by cases hc⟩
 |
  c::r,l,h=>by
  simp only[eE]at h
  split at h
  ·rename_i w l' h1 h2
   cases h
   obtain⟨q1,q2⟩:=rZ z r l' h2
   obtain⟨_,_,_,_,hv,_⟩:=ot h1
   refine⟨by rw[bE,<-q1,<-qJ hv],fun c' hc'=>?_⟩
   rcases aJ.1 hc' with rfl|hc'
   ·exact z.CI h1
   ·exact q2 c' hc'
  ·cases h
theorem tJ(d:Nm):∀(p q:List Nm),eE d (p++q)=(eE d p).bind fun l=>(eE d q).map (l++·)
 |[],q=>by cases h:eE d q<;>simp[eE,h]
 |
  c::p,q=>by
  simp only[bf,eE,tJ d p q]
  cases mf d c 100 with
  |none=>rfl
  |
   some w =>
   cases eE d p with
   |none=>rfl
   |some l=>cases eE d q<;>rfl
noncomputable def sE (s:Nm) (p:List Nm) (f:Nm):Option (List Vl×Vl):=match qy s f,cI s with
 |some v,some d=>if p.length<=50 then(eE d p).map fun l=>(l,v)else none
 |_,_=>none
def zA(s:Nm):Ty:=(kJ s).getD .zero
def qE(a:Ty)(l:List Vl)(v:Vl):Option (List Vl×Vl):=match l.getLast? with
 |none=>none
 |some c=>if(Vl.f (cX a c v)).nodes<=200 then some (l.dropLast,.f (cX a c v))else none
def iO:Nat->Ty->List Vl->Vl->Option Vl
 |0,_,_,v=>some v
 |n+1,a,l,v=>(qE a l v).bind fun r=>iO n a r.1 r.2
def sG(a:Ty)(l:List Vl)(v:Vl):Option Vl:=iO l.length a l v
noncomputable def gm (s:Nm) (p:List Nm) (f:Nm):Option (List Vl×Vl):=(sE s p f).bind fun r=>if(sG (zA s) r.1 r.2).isSome=true then some r else none
structure ZI(a:Ty)(l:List Vl)(v:Vl):Prop where
 CI:∀c,c∈l->Cx a c
 nH:Fo a v
theorem rY{a:Ty}{l l':List Vl}{v w:Vl}(h:ZI a l v)(hu:qE a l v=some (l',w)):ZI a l' w/\l'.length+1=l.length/\∃c,l=l'++[c]/\w=.f (cX a c v):=by
 unfold qE at hu
 cases q:l.getLast? with
 |none=>rw[q]at hu;cases hu
 |
  some c =>
  rw[q]at hu
  simp only at hu
  split at hu
  ·rename_i hn
   cases hu
   have hne:l≠[]:=by rintro rfl;cases q
   have hl:l.dropLast++[c]=l:=by
    have:=List.dropLast_concat_getLast hne
    rw[List.getLast?_eq_some_getLast hne]at q
    cases q;exact this
   have hc:c∈l:=by rw[<-hl];simp
   have hC:=h.CI c hc
   refine⟨⟨fun c' hc'=>h.CI c' (by rw[<-hl];exact aD _ hc'),hC.ty v h.nH.ty,sd 100 a c v hC.ic h.nH.ic,hn⟩,?_,c,hl.symm,rfl⟩
   have:=congrArg List.length hl
   simpa using this
  ·cases hu
end Go.Proofs.Trees
namespace Go.Proofs.Trees
open Go Go.VL Go.RowKit
theorem xl(w:World)(k:Nat)(os:Array Obj):Below w.heap.size w (Go.«Sort».grow (w.drewN k) os):=by
 refine⟨rfl,rfl,rfl,?_,fun b hb=>?_⟩
 ·simp[Go.«Sort».grow,World.drewN]
 ·simp only[Go.«Sort».grow,World.drewN]
  rw[Array.getElem?_append_left hb]
theorem Ge(k:Nat)(hk:k<1000000000):an Tryz.prog 174 [.v (.int .i64 (k:Int))] [] (bK (.v (.string (mk (dd k))))):=by
 refine an.Su (xs:=[.int .i64 (k:Int)]) ⟨qH,by kernel_rfl,by kernel_rfl,by kernel_rfl⟩ fun w ht=>?_
 have:=Any.strconv_Itoa Tryz.Bi (k:Int) (by omega) (by omega) w ht
 refine Calls.mono this fun e w' ⟨h1,n,os,h2⟩=>⟨?_,?_⟩
 ·rw[h1,Lib.itoa_nonneg];rfl
 ·rw[h2];exact xl w n os
abbrev hN(k:Nat):Nm:=35::dd k
theorem uu{j k:Nat}(h:hN j=hN k):j=k:=w8 (j+1) j k (by omega) (List.cons.inj h).2
theorem Hd(u:Ty):∀(t:Ty) (i:Nat),i+t.aE<1000000->an Tryz.prog 149 [t.av,u.av,.v (.int .i64 (i:Int))] [] (bK (dA u t i).av)
 |
  .zero,i,_=>by
  refine wF _ _ _ ((aF _).mpr trivial) ((aF _).mpr trivial) ?_
  simp[EG,Ty.av,dA,↓zq,zs,ac,bK]
 |
  .one,i,_=>by
  refine wF _ _ _ ((aF _).mpr trivial) ((aF _).mpr trivial) ?_
  simp[EG,Ty.av,dA,↓zq,zs,ac,bK]
 |
  .name s,i,_=>by
  refine wF _ _ _ ((aF _).mpr trivial) ((aF _).mpr trivial) ?_
  simp[EG,Ty.av,dA,↓zq,zs,ac,bK]
 |
  .bT k,i,_=>by
  refine wF _ _ _ ((aF _).mpr trivial) ((aF _).mpr trivial) ?_
  simp only[EG,Ty.av,dA,↓zq,zs,ac,bK]
  refine⟨by omega,fun _=>⟨by omega,fun h=>?_,fun h=>?_⟩,fun h=>absurd rfl h⟩
  ·rw[if_pos (by omega)]
  ·rw[if_neg (by omega)];rfl
 |
  .plus a b,i,hl=>by
  simp only[Ty.aE]at hl
  refine wF _ _ _ ((aF _).mpr trivial) ((aF _).mpr trivial) ?_
  simp only[EG,Ty.av,dA,↓zq,zs,ac,aF]
  refine⟨by omega,fun h=>by omega,fun _=>⟨fun _=>?_,fun h=>absurd rfl h⟩⟩
  repeat refine⟨by omega,?_⟩
  refine aj (Hd u a i (by omega)) ?_
  simp only[↓zq,zs,ac,aF]
  repeat refine⟨by omega,?_⟩
  refine aj (Hd u b i (by omega)) ?_
  simp only[↓zq,zs,ac,aF]
  exact⟨rfl,rfl⟩
 |
  .times a b,i,hl=>by
  simp only[Ty.aE]at hl
  refine wF _ _ _ ((aF _).mpr trivial) ((aF _).mpr trivial) ?_
  simp only[EG,Ty.av,dA,↓zq,zs,ac,aF]
  refine⟨by omega,fun h=>by omega,fun _=>⟨fun h=>by omega,fun _=>⟨fun _=>?_,fun h=>absurd rfl h⟩⟩⟩
  repeat refine⟨by omega,?_⟩
  refine aj (Hd u a i (by omega)) ?_
  simp only[↓zq,zs,ac,aF]
  repeat refine⟨by omega,?_⟩
  refine aj (Hd u b i (by omega)) ?_
  simp only[↓zq,zs,ac,aF]
  exact⟨rfl,rfl⟩
 |
  .rc a,i,hl=>by
  simp only[Ty.aE]at hl
  refine wF _ _ _ ((aF _).mpr trivial) ((aF _).mpr trivial) ?_
  simp only[EG,Ty.av,dA,↓zq,zs,ac,aF]
  refine⟨by omega,fun h=>by omega,fun _=>⟨fun h=>by omega,fun _=>⟨fun h=>by omega,fun _=>⟨fun _=>?_,fun h=>absurd rfl h⟩⟩⟩⟩
  repeat refine⟨by omega,?_⟩
  rw[bA i (by omega)]
  refine aj (Hd u a (i+1) (by omega)) ?_
  simp only[↓zq,zs,ac,aF]
  exact⟨rfl,rfl⟩
theorem AU(x:Nm)(u:Ty):∀(t:Ty),an Tryz.prog 150 [t.av,.v (.string (mk x)),u.av] [] (bK (sub x u t).av)
 |
  .zero=>by
  refine FU _ _ _ ((aF _).mpr trivial) ((aF _).mpr trivial) ?_
  simp[EJ,Ty.av,sub,↓zq,zs,ac,bK]
 |
  .one=>by
  refine FU _ _ _ ((aF _).mpr trivial) ((aF _).mpr trivial) ?_
  simp[EJ,Ty.av,sub,↓zq,zs,ac,bK]
 |
  .bT k=>by
  refine FU _ _ _ ((aF _).mpr trivial) ((aF _).mpr trivial) ?_
  simp[EJ,Ty.av,sub,↓zq,zs,ac,bK]
 |
  .name s=>by
  refine FU _ _ _ ((aF _).mpr trivial) ((aF _).mpr trivial) ?_
  simp only[EJ,Ty.av,sub,↓zq,zs,ac,zt,bK]
  refine⟨by omega,fun _=>⟨by omega,fun h=>?_,fun h=>?_⟩,fun h=>absurd rfl h⟩
  ·rw[if_pos h]
  ·rw[if_neg h];rfl
 |
  .plus a b=>by
  refine FU _ _ _ ((aF _).mpr trivial) ((aF _).mpr trivial) ?_
  simp only[EJ,Ty.av,sub,↓zq,zs,ac,aF]
  refine⟨by omega,fun h=>by omega,fun _=>⟨fun _=>?_,fun h=>absurd rfl h⟩⟩
  repeat refine⟨by omega,?_⟩
  refine aj (AU x u a) ?_
  simp only[↓zq,zs,ac,aF]
  repeat refine⟨by omega,?_⟩
  refine aj (AU x u b) ?_
  simp only[↓zq,zs,ac,aF]
  exact⟨rfl,rfl⟩
 |
  .times a b=>by
  refine FU _ _ _ ((aF _).mpr trivial) ((aF _).mpr trivial) ?_
  simp only[EJ,Ty.av,sub,↓zq,zs,ac,aF]
  refine⟨by omega,fun h=>by omega,fun _=>⟨fun h=>by omega,fun _=>⟨fun _=>?_,fun h=>absurd rfl h⟩⟩⟩
  repeat refine⟨by omega,?_⟩
  refine aj (AU x u a) ?_
  simp only[↓zq,zs,ac,aF]
  repeat refine⟨by omega,?_⟩
  refine aj (AU x u b) ?_
  simp only[↓zq,zs,ac,aF]
  exact⟨rfl,rfl⟩
 |
  .rc a=>by
  refine FU _ _ _ ((aF _).mpr trivial) ((aF _).mpr trivial) ?_
  simp only[EJ,Ty.av,sub,↓zq,zs,ac,aF]
  refine⟨by omega,fun h=>by omega,fun _=>⟨fun h=>by omega,fun _=>⟨fun h=>by omega,fun _=>⟨fun _=>?_,fun h=>absurd rfl h⟩⟩⟩⟩
  repeat refine⟨by omega,?_⟩
  refine aj (AU x u a) ?_
  simp only[↓zq,zs,ac,aF]
  exact⟨rfl,rfl⟩
theorem xU(c:Int)(a b:Ty):an Tryz.prog 175 [.v (.int .u8 c),a.av,b.av] [] (bK (.ptr [.v (.int .u8 c),.v (.string (mk [])),.v (.int .i64 0),a.av,b.av])):=by
 refine QV _ _ _ ((aF _).mpr trivial) ((aF _).mpr trivial) ?_
 simp[JH,↓zq,zs,ac,bK]
abbrev DG(f:Nat)(g:Bool):Ob:=.cells [.v (.int .i64 (f:Int)),.v (.bool g)]
theorem J4(f:Nat)(g:Bool)(hf:f<100000000):an Tryz.prog 146 [.ref 0 0] [DG f g] (dh (.v (.string (mk (hN (f+1))))) [DG (f+1) g]):=by
 refine QY _ _ ?_
 simp only[K2,↓zq,zs,ac,zt]
 rw[bA f (by omega)]
 refine aj (Ge (f+1) (by omega)) ?_
 have hd:=pg 8 (f+1) (by omega)
 simp only[↓zq,zs,ac,zt,bf,aW]
 exact⟨by simp[cN];omega,rfl,rfl⟩
def uW(g:Bool)(t:Ty):Ty:=if g=true\/400<t.aE then .zero else t
def Au(g:Bool)(t:Ty):Bool:=g||decide (400<t.aE)
theorem zh(t:Ty):uW true t=.zero:=by simp[uW]
theorem vj(t:Ty):Au true t=true:=rfl
theorem vS{t:Ty}(h:t.aE<=400):uW false t=t:=by simp[uW,show ¬400<t.aE by omega]
theorem wl{t:Ty}(h:t.aE<=400):Au false t=false:=by simp[Au,show ¬400<t.aE by omega]
theorem EK{t:Ty}(h:¬t.aE<=400):Au false t=true:=by simp[Au,show 400<t.aE by omega]
theorem EO{t:Ty}(h:¬t.aE<=400):uW false t=.zero:=by simp[uW,show 400<t.aE by omega]
theorem vL(f:Nat)(g:Bool)(t:Ty)(hl:t.aE<1000000):an Tryz.prog 147 [.ref 0 0,t.av] [DG f g] (dh (uW g t).av [DG f (Au g t)]):=by
 refine Pv _ _ _ ((aF _).mpr trivial) ?_
 simp only[JK,↓zq,zs,ac,zt]
 cases g with
 |true=>exact⟨fun _=>⟨rfl,rfl⟩,fun h=>(by cases h)⟩
 |
  false =>
  refine⟨fun h=>(by cases h),fun _=>?_⟩
  refine aj (ER t hl) ?_
  simp only[↓zq,zs,ac,zt]
  refine⟨fun h=>?_,fun h=>?_⟩
  ·have h:400<t.aE:=by omega
   simp[uW,Au,h,dh,Ty.av]
  ·have h:¬400<t.aE:=by omega
   simp[uW,Au,h,dh]
theorem HR(t:Ty)(s:Nm)(f:Nat):an Tryz.prog 148 [.ref 0 0,t.av,.v (.string (mk s))] [DG f true] (dh Ty.zero.av [DG f true]):=by
 refine Jc _ _ _ _ ((aF _).mpr trivial) ?_
 simp only[Ed,↓zq,zs,ac]
 exact⟨fun _=>⟨rfl,rfl⟩,fun h=>(by cases h)⟩
def CN(f:Nat)(t:Ty):Prop:=∀j,f<j->bn (hN j) t=false
def qg(o:Option Ty)(t:Ty):Nat:=match o with|some d=>d.aE|none=>1000*t.aE
def Cu(o:Option Ty)(f B:Nat):AV->List Ob->Prop:=fun r ob=>∃f':Nat,f<=f'/\f'<=f+B/\r=(o.getD .zero).av/\ob=[DG f' o.isNone]
theorem Cu.ne(o:Option Ty)(f B:Nat):∃r ob,Cu o f B r ob:=⟨_,_,f,au _,db _ _,rfl,rfl⟩
theorem ss{f f':Nat}{t:Ty}(h:CN f t)(hf:f<=f'):CN f' t:=fun j hj=>h j (by omega)
theorem xf:∀(n:Nat) (t:Ty),t.aE<=n->t.aE<=400->∀(s:Nm) (f:Nat),CN f t->(∀j,f<j->s≠hN j)->f+1000*t.aE<50000000->an Tryz.prog 148 [.ref 0 0,t.av,.v (.string (mk s))] [DG f false] (Cu (lQ t s) f (qg (lQ t s) t))
 |0,t,h=>by have:=ep t;omega
 |
  n+1,t,hn=>by
  intro h4 s f hf hs hb
  refine Jc _ _ _ _ ((aF _).mpr trivial) ?_
  have fin0:∀u:Ty,lQ t s=some u->Cu (lQ t s) f (qg (lQ t s) t) u.av [DG f false]:=fun u hu=>by
   rw[hu];exact⟨f,au _,db _ _,rfl,rfl⟩
  cases t with
  |
   zero =>
   have:=fin0 .zero (wa s)
   simpa[Ed,Ty.av,↓zq,zs,ac]using this
  |
   one =>
   have:=fin0 .zero (yk s)
   simpa[Ed,Ty.av,↓zq,zs,ac]using this
  |
   bT k =>
   have:=fin0 .zero (zQ k s)
   simpa[Ed,Ty.av,↓zq,zs,ac]using this
  |
   name c =>
   simp only[Ed,Ty.av,↓zq,zs,ac,zt]
   refine⟨fun h=>(by cases h),fun _=>⟨by omega,fun _=>⟨by omega,fun h=>?_,fun h=>?_⟩,fun h=>absurd rfl h⟩⟩
   ·exact fin0 .one (by rw[ov,if_pos h])
   ·exact fin0 .zero (by rw[ov,if_neg h])
  |
   plus a b =>
   simp only[Ty.aE]at hn h4 hb
   have pa:=ep a
   have pb:=ep b
   have fa:CN f a:=fun j hj=>by have:=hf j hj;simp only[bn,cj]at this;exact this.1
   have fb:CN f b:=fun j hj=>by have:=hf j hj;simp only[bn,cj]at this;exact this.2
   simp only[Ed,Ty.av,↓zq,zs,ac,zt,aF]
   refine⟨fun h=>(by cases h),fun _=>⟨by omega,fun h=>by omega,fun _=>⟨fun _=>?_,fun h=>absurd rfl h⟩⟩⟩
   repeat refine⟨by omega,?_⟩
   rw[vx]
   refine aR (xf n a (by omega) (by omega) s f fa hs (by omega)) (Cu.ne _ _ _) ?_
   rintro r ob ⟨f1,g1,g2,rfl,rfl⟩
   simp only[↓zq,zs,ac,zt,aL,aF]
   repeat refine⟨by omega,?_⟩
   cases q1:lQ a s with
   |
    none =>
    rw[q1]at g2
    simp only[qg]at g2
    simp only[Option.isNone_none,Option.getD_none,bH]
    refine aX (HR b s f1) ?_
    simp only[↓zq,zs,ac,zt,aL,aF]
    repeat refine⟨by omega,?_⟩
    refine aj (xU 43 _ _) ?_
    simp only[↓zq,zs,ac,zt,cb]
    refine aX (vL f1 true (.plus .zero .zero) (by simp[Ty.aE])) ?_
    simp only[↓zq,zs,ac,zt,aL,aF]
    exact⟨f1,g1,by simp only[qg,Ty.aE];omega,rfl,rfl⟩
   |
    some a' =>
    rw[q1]at g2
    simp only[qg]at g2
    have la:=(cR.1 q1).small
    simp only[Option.isNone_some,cz,a7]
    refine aR (xf n b (by omega) (by omega) s f1 (ss fb g1) (fun j hj=>hs j (by omega)) (by omega)) (Cu.ne _ _ _) ?_
    rintro r ob ⟨f2,k1,k2,rfl,rfl⟩
    simp only[↓zq,zs,ac,zt,aL,aF]
    repeat refine⟨by omega,?_⟩
    refine aj (xU 43 _ _) ?_
    simp only[↓zq,zs,ac,zt,cb]
    cases q2:lQ b s with
    |
     none =>
     rw[q2]at k2
     simp only[qg]at k2
     simp only[Option.isNone_none,Option.getD_none,bH]
     refine aX (vL f2 true (.plus a' .zero) (by simp[Ty.aE];omega)) ?_
     simp only[↓zq,zs,ac,zt,aL,aF]
     exact⟨f2,by omega,by simp only[qg,Ty.aE];omega,rfl,rfl⟩
    |
     some b' =>
     rw[q2]at k2
     simp only[qg]at k2
     have lb:=(cR.1 q2).small
     simp only[Option.isNone_some,cz,a7]
     refine aX (vL f2 false (.plus a' b') (by simp only[Ty.aE];omega)) ?_
     simp only[↓zq,zs,ac,zt,aL,aF]
     unfold nJ
     by_cases hle:(Ty.plus a' b').aE<=400
     ·rw[if_pos hle]
      refine⟨f2,by omega,by simp only[qg,Ty.aE];omega,?_,?_⟩
      ·simp[uW,show ¬400<(Ty.plus a' b').aE by omega]
      ·simp[Au,show ¬400<(Ty.plus a' b').aE by omega]
     ·rw[if_neg hle]
      refine⟨f2,by omega,by simp only[qg,Ty.aE];omega,?_,?_⟩
      ·simp[uW,show 400<(Ty.plus a' b').aE by omega]
      ·simp[Au,show 400<(Ty.plus a' b').aE by omega]
  |
   times a b =>
   simp only[Ty.aE]at hn h4 hb
   have pa:=ep a
   have pb:=ep b
   have fa:CN f a:=fun j hj=>by have:=hf j hj;simp only[bn,cj]at this;exact this.1
   have fb:CN f b:=fun j hj=>by have:=hf j hj;simp only[bn,cj]at this;exact this.2
   simp only[Ed,Ty.av,↓zq,zs,ac,zt,aF]
   refine⟨fun h=>(by cases h),fun _=>⟨by omega,fun h=>by omega,fun _=>⟨fun h=>by omega,fun _=>⟨fun _=>?_,fun h=>absurd rfl h⟩⟩⟩⟩
   repeat refine⟨by omega,?_⟩
   rw[sV]
   refine aR (xf n a (by omega) (by omega) s f fa hs (by omega)) (Cu.ne _ _ _) ?_
   rintro r ob ⟨f1,g1,g2,rfl,rfl⟩
   simp only[↓zq,zs,ac,zt,aL,aF]
   repeat refine⟨by omega,?_⟩
   refine aj (xU 42 _ _) ?_
   simp only[↓zq,zs,ac,zt,cb]
   repeat refine⟨by omega,?_⟩
   cases q1:lQ a s with
   |
    none =>
    rw[q1]at g2
    simp only[qg]at g2
    simp only[Option.isNone_none,Option.getD_none,bH]
    refine aX (HR b s f1) ?_
    simp only[↓zq,zs,ac,zt,aL,aF]
    repeat refine⟨by omega,?_⟩
    refine aj (xU 42 _ _) ?_
    simp only[↓zq,zs,ac,zt,cb]
    refine aj (xU 43 (.times .zero b) (.times a .zero)) ?_
    simp only[↓zq,zs,ac,zt,cb]
    refine aX (vL f1 true (.plus (.times .zero b) (.times a .zero)) (by simp only[Ty.aE];omega)) ?_
    simp only[↓zq,zs,ac,zt,aL,aF]
    exact⟨f1,g1,by simp only[qg,Ty.aE];omega,rfl,rfl⟩
   |
    some a' =>
    rw[q1]at g2
    simp only[qg]at g2
    have la:=(cR.1 q1).small
    simp only[Option.isNone_some,cz,a7]
    refine aR (xf n b (by omega) (by omega) s f1 (ss fb g1) (fun j hj=>hs j (by omega)) (by omega)) (Cu.ne _ _ _) ?_
    rintro r ob ⟨f2,k1,k2,rfl,rfl⟩
    simp only[↓zq,zs,ac,zt,aL,aF]
    repeat refine⟨by omega,?_⟩
    refine aj (xU 42 _ _) ?_
    simp only[↓zq,zs,ac,zt,cb]
    cases q2:lQ b s with
    |
     none =>
     rw[q2]at k2
     simp only[qg]at k2
     simp only[Option.isNone_none,Option.getD_none,bH]
     refine aj (xU 43 (.times a' b) (.times a .zero)) ?_
     simp only[↓zq,zs,ac,zt,cb]
     refine aX (vL f2 true (.plus (.times a' b) (.times a .zero)) (by simp only[Ty.aE];omega)) ?_
     simp only[↓zq,zs,ac,zt,aL,aF]
     exact⟨f2,by omega,by simp only[qg,Ty.aE];omega,rfl,rfl⟩
    |
     some b' =>
     rw[q2]at k2
     simp only[qg]at k2
     have lb:=(cR.1 q2).small
     simp only[Option.isNone_some,cz,a7]
     refine aj (xU 43 (.times a' b) (.times a b')) ?_
     simp only[↓zq,zs,ac,zt,cb]
     refine aX (vL f2 false (.plus (.times a' b) (.times a b')) (by simp only[Ty.aE];omega)) ?_
     simp only[↓zq,zs,ac,zt,aL,aF]
     unfold nJ
     by_cases hle:(Ty.plus (.times a' b) (.times a b')).aE<=400
     ·rw[if_pos hle]
      refine⟨f2,by omega,by simp only[qg,Ty.aE];omega,?_,?_⟩
      ·simp[uW,show ¬400<(Ty.plus (.times a' b) (.times a b')).aE by omega]
      ·simp[Au,show ¬400<(Ty.plus (.times a' b) (.times a b')).aE by omega]
     ·rw[if_neg hle]
      refine⟨f2,by omega,by simp only[qg,Ty.aE];omega,?_,?_⟩
      ·simp[uW,show 400<(Ty.plus (.times a' b) (.times a b')).aE by omega]
      ·simp[Au,show 400<(Ty.plus (.times a' b) (.times a b')).aE by omega]
  |
   rc a =>
   simp only[Ty.aE]at hn h4 hb
   have pa:=ep a
   have fa:CN f a:=fun j hj=>hf j hj
   have hxa:bn (hN (f+1)) a=false:=fa _ (by omega)
   have hxs:hN (f+1)≠s:=fun e=>hs _ (by omega) e.symm
   have fo:CN (f+1) (dA (.name (hN (f+1))) a 0):=fun j hj=>by
    cases q:bn (hN j) (dA (.name (hN (f+1))) a 0)with
    |false=>rfl
    |
     true =>
     rcases gF a 0 q with e|e
     ·have:=uu e;omega
     ·rw[fa j (by omega)]at e;cases e
   have hoa:(dA (.name (hN (f+1))) a 0).aE=a.aE:=fL _ _ _
   have hop:=Hd (.name (hN (f+1))) a 0 (by omega)
   rw[Cf hxa hxs]
   simp only[Ed,Ty.av,↓zq,zs,ac,zt,aF]
   refine⟨fun h=>(by cases h),fun _=>⟨by omega,fun h=>by omega,fun _=>⟨fun h=>by omega,fun _=>⟨fun h=>by omega,fun _=>⟨fun _=>?_,fun h=>absurd rfl h⟩⟩⟩⟩⟩
   refine aX (J4 f false (by omega)) ?_
   simp only[↓zq,zs,ac,zt,aL,aF]
   repeat refine⟨by omega,?_⟩
   simp only[Ty.av]at hop
   refine aj hop ?_
   simp only[↓zq,zs,ac,zt,aL,aF]
   refine aR (xf n (dA (.name (hN (f+1))) a 0) (by omega) (by omega) s (f+1) fo (fun j hj=>hs j (by omega)) (by omega)) (Cu.ne _ _ _) ?_
   rintro r ob ⟨f1,g1,g2,rfl,rfl⟩
   simp only[↓zq,zs,ac,zt,aL,aF]
   generalize hx:hN (f+1)=x at *
   generalize hin:dA (.name x) a 0=i at *
   have hrc:(Ty.rc a).av=.ptr [.v (.int .u8 114),.v (.string (mk [])),.v (.int .i64 0),a.av,.v (.pointer none)]:=rfl
   cases q1:lQ i s with
   |
    none =>
    rw[q1]at g2
    simp only[qg]at g2
    simp only[Option.isNone_none,Option.getD_none,bH]
    refine aX (vL f1 true .zero (by simp[Ty.aE])) ?_
    simp only[↓zq,zs,ac,zt,aL,aF]
    rw[<-hrc]
    refine aj (AU x (.rc a) _) ?_
    simp only[↓zq,zs,ac,zt,aF]
    refine aX (HR i x f1) ?_
    simp only[↓zq,zs,ac,zt,aL,aF]
    refine aX (vL f1 true .zero (by simp[Ty.aE])) ?_
    simp only[↓zq,zs,ac,zt,aL,aF]
    refine aj (AU x (.rc a) _) ?_
    simp only[↓zq,zs,ac,zt,aF]
    refine aj (xU 42 _ (.bT 0)) ?_
    simp only[↓zq,zs,ac,zt,cb]
    refine aj (xU 43 (sub x (.rc a) (uW true .zero)) (.times (sub x (.rc a) (uW true .zero)) (.bT 0))) ?_
    simp only[↓zq,zs,ac,zt,cb,vj]
    have hz:sub x (.rc a) (uW true .zero)=.zero:=by rw[zh];rfl
    refine aX (vL f1 true (.rc (.plus (sub x (.rc a) (uW true .zero)) (.times (sub x (.rc a) (uW true .zero)) (.bT 0)))) (by rw[hz];simp only[Ty.aE];omega)) ?_
    simp only[↓zq,zs,ac,zt,aL,aF]
    rw[zh,vj]
    exact⟨f1,by omega,by simp only[qg,Ty.aE];omega,rfl,rfl⟩
   |
    some c =>
    rw[q1]at g2
    simp only[qg]at g2
    have lc:=(cR.1 q1).small
    simp only[Option.isNone_some,cz,a7]
    refine aX (vL f1 false c (by omega)) ?_
    simp only[↓zq,zs,ac,zt,aL,aF]
    rw[vS lc,wl lc,<-hrc]
    refine aj (AU x (.rc a) c) ?_
    simp only[↓zq,zs,ac,zt,aF]
    refine aR (xf n i (by omega) (by omega) x f1 (ss fo g1) (fun j hj=>by rw[<-hx];exact fun e=>by have:=uu e;omega) (by omega)) (Cu.ne _ _ _) ?_
    rintro r ob ⟨f2,k1,k2,rfl,rfl⟩
    simp only[↓zq,zs,ac,zt,aL,aF]
    have hsc:(sub x (.rc a) c).aE+fF x c=c.aE+fF x c*(Ty.rc a).aE:=dX x (.rc a) c
    have hcc:∀t:Ty,fF x t<=t.aE:=fun t=>by
     have h1:=dX x .zero t
     have h2:=gU x .zero t
     simp only[Ty.aE,dI]at h1
     have h3:∀t:Ty,fF x t<=t.aE:=by
      intro t
      induction t with
      |name s=>simp only[fF,Ty.aE];split<;>omega
      |plus a b i1 i2=>simp only[fF,Ty.aE];omega
      |times a b i1 i2=>simp only[fF,Ty.aE];omega
      |rc a i=>simp only[fF,Ty.aE];omega
      |_=>simp[fF,Ty.aE]
     exact h3 t
    have hbig:∀t:Ty,t.aE<=400->(sub x (.rc a) t).aE<=400+400*402:=fun t ht=>by
     have h1:=dX x (.rc a) t
     have h2:=hcc t
     have h3:fF x t*(Ty.rc a).aE<=400*402:=Nat.mul_le_mul (by omega) (by simp only[Ty.aE];omega)
     omega
    have b1:=hbig c lc
    cases q2:lQ i x with
    |
     none =>
     rw[q2]at k2
     simp only[qg]at k2
     simp only[Option.isNone_none,Option.getD_none,bH]
     refine aX (vL f2 true .zero (by simp[Ty.aE])) ?_
     simp only[↓zq,zs,ac,zt,aL,aF]
     rw[zh,vj]
     refine aj (AU x (.rc a) .zero) ?_
     simp only[↓zq,zs,ac,zt,aF]
     refine aj (xU 42 _ (.bT 0)) ?_
     simp only[↓zq,zs,ac,zt,cb]
     refine aj (xU 43 (sub x (.rc a) c) (.times (sub x (.rc a) .zero) (.bT 0))) ?_
     simp only[↓zq,zs,ac,zt,cb]
     refine aX (vL f2 true (.rc (.plus (sub x (.rc a) c) (.times (sub x (.rc a) .zero) (.bT 0)))) (by simp only[sub,Ty.aE];omega)) ?_
     simp only[↓zq,zs,ac,zt,aL,aF]
     rw[zh,vj]
     exact⟨f2,by omega,by simp only[qg,Ty.aE];omega,rfl,rfl⟩
    |
     some d =>
     rw[q2]at k2
     simp only[qg]at k2
     have ld:=(cR.1 q2).small
     have b2:=hbig d ld
     simp only[Option.isNone_some,cz,a7]
     refine aX (vL f2 false d (by omega)) ?_
     simp only[↓zq,zs,ac,zt,aL,aF]
     rw[vS ld,wl ld]
     refine aj (AU x (.rc a) d) ?_
     simp only[↓zq,zs,ac,zt,aF]
     refine aj (xU 42 _ (.bT 0)) ?_
     simp only[↓zq,zs,ac,zt,cb]
     refine aj (xU 43 (sub x (.rc a) c) (.times (sub x (.rc a) d) (.bT 0))) ?_
     simp only[↓zq,zs,ac,zt,cb]
     have hdrc:pH a x c d=.rc (.plus (sub x (.rc a) c) (.times (sub x (.rc a) d) (.bT 0))):=rfl
     refine aX (vL f2 false (pH a x c d) (by rw[hdrc];simp only[Ty.aE];omega)) ?_
     simp only[↓zq,zs,ac,zt,aL,aF]
     have s1:=gU x (.rc a) c
     have s2:=gU x (.rc a) d
     unfold nJ
     by_cases hle:(pH a x c d).aE<=400
     ·rw[if_pos hle,vS hle,wl hle]
      exact⟨f2,by omega,by simp only[qg,hdrc,Ty.aE];omega,rfl,rfl⟩
     ·rw[if_neg hle,EO hle,EK hle]
      exact⟨f2,by omega,by simp only[qg,Ty.aE];omega,rfl,rfl⟩
def OX(o:Option Ty):AV->List Ob->Prop:=fun r ob=>ob=[]/\∃p,LK.ptr.has p/\r=.cD [p,.v (.bool o.isSome)]/\∀d,o=some d->p=d.av
theorem OX.ne(o:Option Ty):∃r ob,OX o r ob:=by
 cases o with
 |none=>exact⟨_,_,rfl,iI,(iH).mpr trivial,rfl,fun d h=>by cases h⟩
 |some d=>exact⟨_,_,rfl,d.av,(aF _).mpr trivial,rfl,fun d' h=>by cases h;rfl⟩
theorem IB:hN 1=mi:=by show (35::dd 1:Nm)=_;rw[eK (by omega)];rfl
theorem R2(a:Ty)(h4:a.aE+2<=400)(hf:∀j,bn (hN j) a=false):an Tryz.prog 109 [(Ty.rc a).av] [] (OX (oi a mi)):=by
 have hxa:bn (hN 1) a=false:=hf 1
 have fo:CN 1 (dA (.name (hN 1)) a 0):=fun j hj=>by
  cases q:bn (hN j) (dA (.name (hN 1)) a 0)with
  |false=>rfl
  |
   true =>
   rcases gF a 0 q with e|e
   ·have:=uu e;omega
   ·rw[hf j]at e;cases e
 have hoa:(dA (.name (hN 1)) a 0).aE=a.aE:=fL _ _ _
 have hop:=Hd (.name (hN 1)) a 0 (by omega)
 rw[<-IB]
 have hrc:(Ty.rc a).av=.ptr [.v (.int .u8 114),.v (.string (mk [])),.v (.int .i64 0),a.av,.v (.pointer none)]:=rfl
 refine Rh _ ((aF _).mpr trivial) ?_
 unfold J7
 refine aX (J4 0 false (by omega)) ?_
 simp only[Ty.av,↓zq,zs,ac,zt,aL,aF]
 repeat refine⟨by omega,?_⟩
 simp only[Ty.av]at hop
 refine aj hop ?_
 simp only[↓zq,zs,ac,zt,aL,aF]
 refine aR (xf 400 (dA (.name (hN 1)) a 0) (by omega) (by omega) (hN 1) 1 fo (fun j hj e=>by have:=uu e;omega) (by omega)) (Cu.ne _ _ _) ?_
 rintro r ob ⟨f1,g1,g2,rfl,rfl⟩
 simp only[↓zq,zs,ac,zt,aL,aF]
 unfold oi
 cases q1:lQ (dA (.name (hN 1)) a 0) (hN 1)with
 |
  none =>
  simp only[Option.isNone_none,Option.getD_none,bH]
  refine aX (vL f1 true .zero (by simp[Ty.aE])) ?_
  simp only[↓zq,zs,ac,zt,aL,aF,vj]
  exact⟨fun _=>⟨rfl,iI,(iH).mpr trivial,rfl,fun d h=>(by cases h)⟩,fun h=>(by cases h)⟩
 |
  some d =>
  have ld:=(cR.1 q1).small
  simp only[Option.isNone_some,cz,a7]
  refine aX (vL f1 false d (by omega)) ?_
  simp only[↓zq,zs,ac,zt,aL,aF]
  rw[vS ld,wl ld]
  refine⟨fun h=>(by cases h),fun _=>?_⟩
  rw[<-hrc]
  refine aj (AU (hN 1) (.rc a) d) ?_
  simp only[↓zq,zs,ac,zt,aF]
  have h1:=dX (hN 1) (.rc a) d
  have hcn:fF (hN 1) d<=d.aE:=by
   have h3:∀t:Ty,fF (hN 1) t<=t.aE:=by
    intro t
    induction t with
    |name s=>simp only[fF,Ty.aE];split<;>omega
    |plus a b i1 i2=>simp only[fF,Ty.aE];omega
    |times a b i1 i2=>simp only[fF,Ty.aE];omega
    |rc a i=>simp only[fF,Ty.aE];omega
    |_=>simp[fF,Ty.aE]
   exact h3 d
  have h3:fF (hN 1) d*(Ty.rc a).aE<=400*402:=Nat.mul_le_mul (by omega) (by simp only[Ty.aE];omega)
  refine aX (vL f1 false (sub (hN 1) (.rc a) d) (by omega)) ?_
  simp only[↓zq,zs,ac,zt,aL,aF]
  unfold nJ
  by_cases hle:(sub (hN 1) (.rc a) d).aE<=400
  ·rw[if_pos hle,vS hle,wl hle]
   exact⟨rfl,_,(aF _).mpr trivial,rfl,fun d' h=>by cases h;rfl⟩
  ·rw[if_neg hle,EO hle,EK hle]
   exact⟨rfl,_,(aF _).mpr trivial,rfl,fun d' h=>(by cases h)⟩
end Go.Proofs.Trees
namespace Go.Proofs.Trees
open Go Go.VL Go.RowKit
theorem se(h:Nm)(a b:E):(fg (.list [.atom h,a,b])).length=h.length+(fg a).length+(fg b).length+4:=by
 simp only[fg,ej,aA,aq,aH];omega
theorem jl(F:List Nm)(hF:F.length<=10000):∀(t:Ty) (to:List Nm) (k:Nat),u6 t->(∀w,w∈to->w.length<=20)->k+(F.length+1)*t.aE<90000000->(fg (hZ F t to k).1).length<=50*t.aE
 | .zero,_,_,_,_,_=>by simp[hZ,fg,Ty.aE]
 | .one,_,_,_,_,_=>by simp[hZ,fg,Ty.aE]
 | .name s,_,_,hn,_,_=>by have:=hn s (by simp[bn]);simp only[hZ,fg,Ty.aE];omega
 |
  .bT u,to,_,_,ht,_=>by
  show (gu to u).length<=50*1
  unfold gu
  by_cases h:to.length-1-u<to.length
  ·rw[aa,bp h];have:=ht _ (bD h);simp only[cz];omega
  ·rw[aa,List.getElem?_eq_none (by omega)];simp
 |
  .plus a b,to,k,hn,ht,hk=>by
  have h1:=iF F a to k
  have:(F.length+1)*(1+a.aE+b.aE)=(F.length+1)+(F.length+1)*a.aE+(F.length+1)*b.aE:=by simp only[cU,dI]
  simp only[Ty.aE]at hk
  have i1:=jl F hF a to k (fun y hy=>hn y (by simp[bn,hy])) ht (by omega)
  have i2:=jl F hF b to _ (fun y hy=>hn y (by simp[bn,hy])) ht (show (hZ F a to k).2+_<_ by omega)
  simp only[hZ,se,Ty.aE,aA,aH];omega
 |
  .times a b,to,k,hn,ht,hk=>by
  have h1:=iF F a to k
  have:(F.length+1)*(1+a.aE+b.aE)=(F.length+1)+(F.length+1)*a.aE+(F.length+1)*b.aE:=by simp only[cU,dI]
  simp only[Ty.aE]at hk
  have i1:=jl F hF a to k (fun y hy=>hn y (by simp[bn,hy])) ht (by omega)
  have i2:=jl F hF b to _ (fun y hy=>hn y (by simp[bn,hy])) ht (show (hZ F a to k).2+_<_ by omega)
  simp only[hZ,se,Ty.aE,aA,aH];omega
 |
  .rc a,to,k,hn,ht,hk=>by
  obtain⟨g1,g2,_,_⟩:=gK F k
  have:(F.length+1)*(2+a.aE)=(F.length+1)*2+(F.length+1)*a.aE:=by simp only[cU]
  simp only[Ty.aE]at hk
  have hl:=wN (k:=nx F k) (by omega)
  have i1:=jl F hF a (to++[tN (nx F k)]) (nx F k+1) hn (fun w hw=>by
   rcases aO.1 hw with hw|hw
   ·exact ht w hw
   ·simp only[aS]at hw;rw[hw];exact hl) (by omega)
  simp only[hZ,se,Ty.aE,aA,aH]
  simp only[fg]
  simp only[aA]at hl |-
  omega
theorem Oe(x0 a fv:AV)(F:List Nm)(h0:LK.ptr.has x0)(ha:LK.sl.has a)(hfv:cH fv F)(hF:F.length<100000):∀(n j:Nat),ql F n j<j+n->j+n<100000000 ->
 Ev [x0,a,.v (.string (mk (tN j)))] [.cells [fv],.cells [.v (.int .i64 ((j+1:Nat):Int))]] (gV 1 [x0,a,.v (.string (mk (tN (ql F n j))))] [.cells [fv],.cells [.v (.int .i64 ((ql F n j+1:Nat):Int))]])
 |0,j,h,_=>by simp only[ql]at h;omega
 |
  n+1,j,h,hj=>by
  refine Ml _ _ _ _ _ ?_
  simp only[FA,↓zq,zs,ac,zt,ac,hfv.1,h0,ha]
  refine⟨fun h=>(by simp at h),fun _=>?_⟩
  refine aj (Me F fv hfv (tN j) (by omega)) ?_
  simp only[↓zq,zs,ac,zt]
  rw[ql]at h |-
  refine⟨fun hm=>?_,fun hm=>?_⟩
  ·rw[if_pos hm]at h |-
   refine aj (Ge (j+1) (by omega)) ?_
   have hd:=pg 8 (j+1) (by omega)
   simp only[↓zq,zs,ac,zt,bf,aW]
   rw[bA (j+1) (by omega)]
   exact⟨by simp[cN];omega,Oe x0 a fv F h0 ha hfv hF n (j+1) (by omega) (by omega)⟩
  ·rw[if_neg hm]
   exact⟨rfl,rfl,rfl⟩
theorem P5(x0 a fv:AV)(F:List Nm)(h0:LK.ptr.has x0)(ha:LK.sl.has a)(hfv:cH fv F)(hF:F.length<10000)(k:Nat)(hk:k<90000000) :
 Ev [x0,a,.v (.string (mk []))] [.cells [fv],.cells [.v (.int .i64 (k:Int))]] (gV 1 [x0,a,.v (.string (mk (tN (nx F k))))] [.cells [fv],.cells [.v (.int .i64 ((nx F k+1:Nat):Int))]]):=by
 obtain⟨g1,g2,_,_⟩:=gK F k
 refine Ml _ _ _ _ _ ?_
 simp only[FA,↓zq,zs,ac,zt,ac,hfv.1,h0,ha]
 refine⟨fun _=>?_,fun h=>(by simp at h)⟩
 refine aj (Ge k (by omega)) ?_
 have hd:=pg 8 k (by omega)
 simp only[↓zq,zs,ac,zt,bf,aW]
 rw[bA k (by omega)]
 exact⟨by simp[cN];omega,Oe x0 a fv F h0 ha hfv (by omega) (F.length+1) k (by show nx F k<_;omega) (by omega)⟩
theorem zv(F:List Nm)(fv:AV)(hfv:cH fv F)(hF:F.length<=1000):∀(t:Ty) (to:List Nm) (a:AV) (k:Nat),cH a to->to.length+t.aE<10000->jC t to.length->u6 t->(∀w,w∈to->w.length<=20)->k+(F.length+1)*t.aE<80000000 ->
 an Tryz.prog 176 [t.av,a,.gT 176 [none,some 0,some 1],.ref 0 0,.ref 1 0] [.cells [fv],.cells [.v (.int .i64 (k:Int))]] (dh (.v (.string (mk (fg (hZ F t to k).1)))) [.cells [fv],.cells [.v (.int .i64 ((hZ F t to k).2:Int))]])
 |
  .zero,to,a,k,ha,hl,hlc,hs,ht,hk=>by
  refine wO _ _ _ _ ((aF _).mpr trivial) ha.1 hfv.1 ?_
  simp only[EF,Ty.av,↓zq,zs,ac,zt,aF]
  refine⟨by omega,fun h=>by omega,fun _=>⟨fun h=>by omega,fun _=>⟨fun h=>by omega,fun _=>⟨fun h=>by omega,fun _=>⟨fun h=>by omega,fun _=>?_⟩⟩⟩⟩⟩
  repeat refine⟨by omega,?_⟩
  exact⟨⟨rfl,(lP _ _).mpr trivial,trivial⟩,rfl,rfl⟩
 |
  .one,to,a,k,ha,hl,hlc,hs,ht,hk=>by
  refine wO _ _ _ _ ((aF _).mpr trivial) ha.1 hfv.1 ?_
  simp only[EF,Ty.av,↓zq,zs,ac,zt,aF]
  refine⟨by omega,fun h=>by omega,fun _=>⟨fun h=>by omega,fun _=>⟨fun h=>by omega,fun _=>⟨fun h=>by omega,fun _=>⟨fun h=>by omega,fun _=>?_⟩⟩⟩⟩⟩
  repeat refine⟨by omega,?_⟩
  exact⟨⟨rfl,(lP _ _).mpr trivial,trivial⟩,rfl,rfl⟩
 |
  .name s,to,a,k,ha,hl,hlc,hs,ht,hk=>by
  refine wO _ _ _ _ ((aF _).mpr trivial) ha.1 hfv.1 ?_
  simp[EF,Ty.av,↓zq,zs,ac,dh,hZ,fg]
 |
  .bT u,to,a,k,ha,hl,hlc,hs,ht,hk=>by
  have hu:u<to.length:=hlc
  refine wO _ _ _ _ ((aF _).mpr trivial) ha.1 hfv.1 ?_
  simp only[EF,Ty.av,↓zq,zs,ac,zt,ha.len]
  rw[wrap64 ((to.length:Int)-1) (by omega) (by omega),wrap64 _ (by omega) (by omega)]
  have e1:(to.length:Int)-1-(u:Int)=((to.length-1-u:Nat):Int):=by omega
  rw[e1]
  simp only[bN,ha.idx (show to.length-1-u<to.length by omega),↓zq,zs,ac,zt]
  refine⟨by omega,fun h=>by omega,fun _=>⟨fun _=>⟨ha.1,by omega,⟨ha.1,by omega,by omega⟩,by omega,rfl,rfl⟩,fun h=>absurd rfl h⟩⟩
 |
  .plus x y,to,a,k,ha,hl,hlc,hs,ht,hk=>by
  simp only[Ty.aE]at hl hk
  have h1:=iF F x to k
  have hm:(F.length+1)*(1+x.aE+y.aE)=(F.length+1)+(F.length+1)*x.aE+(F.length+1)*y.aE:=by simp only[cU,dI]
  have sx:u6 x:=fun z hz=>hs z (by simp[bn,hz])
  have sy:u6 y:=fun z hz=>hs z (by simp[bn,hz])
  have t1:=jl F (by omega) x to k sx ht (by omega)
  have t2:=jl F (by omega) y to (hZ F x to k).2 sy ht (by omega)
  have hb:(⟨(bytesOf [[.v (.int .u8 43)]]).toArray⟩:ByteArray)=mk [43]:=rfl
  have h8:jE [[AV.v (.int .u8 43)]]:=⟨rfl,(lP _ _).mpr trivial,trivial⟩
  refine wO _ _ _ _ ((aF _).mpr trivial) ha.1 hfv.1 ?_
  simp only[EF,Ty.av,↓zq,zs,ac,zt,aF,hb]
  refine⟨by omega,fun h=>by omega,fun _=>⟨fun h=>by omega,fun _=>⟨fun _=>?_,fun h=>absurd rfl h⟩⟩⟩
  repeat refine⟨by omega,?_⟩
  refine aX (zv F fv hfv hF x to a k ha (by omega) hlc.1 sx ht (by omega)) ?_
  simp only[↓zq,zs,ac,zt,aL,hfv.1,hb,bf,aW]
  repeat (first|refine⟨by omega,?_⟩|refine⟨h8,?_⟩|refine⟨by simp[cN];omega,?_⟩)
  refine aX (zv F fv hfv hF y to a _ ha (by omega) hlc.2 sy ht (by omega)) ?_
  simp only[↓zq,zs,ac,zt,aL,hfv.1,hb,bf,aW]
  repeat (first|refine⟨by omega,?_⟩|refine⟨h8,?_⟩|refine⟨by simp[cN];omega,?_⟩)
  refine⟨?_,rfl⟩
  simp[hZ,fg,ej]
 |
  .times x y,to,a,k,ha,hl,hlc,hs,ht,hk=>by
  simp only[Ty.aE]at hl hk
  have h1:=iF F x to k
  have hm:(F.length+1)*(1+x.aE+y.aE)=(F.length+1)+(F.length+1)*x.aE+(F.length+1)*y.aE:=by simp only[cU,dI]
  have sx:u6 x:=fun z hz=>hs z (by simp[bn,hz])
  have sy:u6 y:=fun z hz=>hs z (by simp[bn,hz])
  have t1:=jl F (by omega) x to k sx ht (by omega)
  have t2:=jl F (by omega) y to (hZ F x to k).2 sy ht (by omega)
  have hb:(⟨(bytesOf [[.v (.int .u8 42)]]).toArray⟩:ByteArray)=mk [42]:=rfl
  have h8:jE [[AV.v (.int .u8 42)]]:=⟨rfl,(lP _ _).mpr trivial,trivial⟩
  refine wO _ _ _ _ ((aF _).mpr trivial) ha.1 hfv.1 ?_
  simp only[EF,Ty.av,↓zq,zs,ac,zt,aF,hb]
  refine⟨by omega,fun h=>by omega,fun _=>⟨fun h=>by omega,fun _=>⟨fun h=>by omega,fun _=>⟨fun _=>?_,fun h=>absurd rfl h⟩⟩⟩⟩
  repeat refine⟨by omega,?_⟩
  refine aX (zv F fv hfv hF x to a k ha (by omega) hlc.1 sx ht (by omega)) ?_
  simp only[↓zq,zs,ac,zt,aL,hfv.1,hb,bf,aW]
  repeat (first|refine⟨by omega,?_⟩|refine⟨h8,?_⟩|refine⟨by simp[cN];omega,?_⟩)
  refine aX (zv F fv hfv hF y to a _ ha (by omega) hlc.2 sy ht (by omega)) ?_
  simp only[↓zq,zs,ac,zt,aL,hfv.1,hb,bf,aW]
  repeat (first|refine⟨by omega,?_⟩|refine⟨h8,?_⟩|refine⟨by simp[cN];omega,?_⟩)
  refine⟨?_,rfl⟩
  simp[hZ,fg,ej]
 |
  .rc x,to,a,k,ha,hl,hlc,hs,ht,hk=>by
  simp only[Ty.aE]at hl hk
  obtain⟨g1,g2,_,_⟩:=gK F k
  have hm:(F.length+1)*(2+x.aE)=(F.length+1)*2+(F.length+1)*x.aE:=by simp only[cU]
  have hln:=wN (k:=nx F k) (by omega)
  have ht':∀w,w∈to++[tN (nx F k)]->w.length<=20:=fun w hw=>by
   rcases aO.1 hw with hw|hw
   ·exact ht w hw
   ·simp only[aS]at hw;rw[hw];exact hln
  have t1:=jl F (by omega) x (to++[tN (nx F k)]) (nx F k+1) hs ht' (by omega)
  have hrc:(Ty.rc x).av=.ptr [.v (.int .u8 114),.v (.string (mk [])),.v (.int .i64 0),x.av,.v (.pointer none)]:=rfl
  refine wO _ _ _ _ ((aF _).mpr trivial) ha.1 hfv.1 ?_
  simp only[EF,Ty.av,↓zq,zs,ac,zt,aF]
  refine⟨by omega,fun h=>by omega,fun _=>⟨fun h=>by omega,fun _=>⟨fun h=>by omega,fun _=>⟨fun h=>by omega,fun _=>⟨fun _=>?_,fun h=>absurd rfl h⟩⟩⟩⟩⟩
  rw[<-hrc]
  repeat refine⟨by omega,?_⟩
  refine cx (P5 (Ty.rc x).av a fv F ((aF _).mpr trivial) ha.1 hfv (by omega) k (by omega)) ?_
  simp only[Ty.av,↓zq,zs,ac,zt,ac,aL,hfv.1,ha.1,aF,ha.2,E3,aW,ku,kk]
  have hl2:(dd (nx F k)).length+1<=20:=hln
  have hl3:(tN (nx F k)).length=(dd (nx F k)).length+1:=rfl
  refine⟨by omega,by simp only[aq,aA,aH,hl3];omega,by omega,by omega,⟨fun c hc=>by simp at hc;rw[hc];rfl,by omega⟩,?_⟩
  refine aX (zv F fv hfv hF x (to++[tN (nx F k)]) _ (nx F k+1) (.of _) (by simp;omega) (by rw[aq];exact hlc) hs ht' (by omega)) ?_
  simp only[↓zq,zs,ac,zt,aL,hfv.1]
  repeat refine⟨by omega,?_⟩
  refine⟨by simp only[aq,aA,aH,hl3];omega,by simp only[aq,aA,aH,hl3];omega,?_,rfl⟩
  simp[hZ,fg,ej]
theorem Rz(t:Ty)(g:gb t)(hs:u6 t)(h4:t.aE<=400):an Tryz.prog 151 [t.av] [] (bK (.v (.string (mk (ED t))))):=by
 refine QD _ ((aF _).mpr trivial) ?_
 unfold KW
 have hn:=eA t []
 simp only[aH,a6]at hn
 have hm:((bQ t []).length+1)*t.aE<=401*400:=Nat.mul_le_mul (by omega) h4
 refine aj (L0 t (by omega)) ?_
 simp only[↓zq,zs,ac,zt,cg]
 refine aX (zv (bQ t []) _ (.of _) (by omega) t [] xV 0 .nil (by simp;omega) g.1 hs (fun w hw=>by cases hw) (by omega)) ?_
 simp only[↓zq,zs,ac,zt,aL,cg]
 exact⟨rfl,rfl⟩
theorem Rr(t:Ty)(g:gb t)(hs:u6 t)(hl:t.aE<1000000):an Tryz.prog 110 [t.av] [] (bK (rA (told t))):=by
 refine Qr _ ((aF _).mpr trivial) ?_
 unfold N1
 refine aj (ER t hl) ?_
 simp only[↓zq,zs,ac,zt]
 refine⟨fun h=>?_,fun h=>?_⟩
 ·have:told t=none:=by unfold told;rw[if_neg fun h'=>by have:=h'.1;omega]
  rw[this];exact⟨rfl,rfl⟩
 ·have h4:t.aE<=400:=by omega
  refine aj (Rz t g hs h4) ?_
  simp only[↓zq,zs,ac,zt]
  refine aj (FN (ED t)) ?_
  simp only[↓zq,zs,ac,zt,gD]
  unfold told
  cases q:qL (ED t)with
  |
   none =>
   simp only[io,↓zq,zs,ac]
   rw[if_neg (by simp)]
   exact⟨fun _=>⟨rfl,rfl⟩,fun h=>(by cases h)⟩
  |
   some u =>
   simp only[io,↓zq,zs,ac,fS]
   rw[if_pos ⟨h4,rfl⟩]
   exact⟨fun h=>(by cases h),fun _=>⟨rfl,rfl⟩⟩
theorem QG(s:Nm):an Tryz.prog 85 [.v (.string (mk s))] [] (bK (rA (cI s))):=by
 refine Pg _ ?_
 unfold Nc
 refine aj (FN s) ?_
 simp only[↓zq,zs,ac,zt,gD]
 cases q:qL s with
 |
  none =>
  have:cI s=none:=by unfold cI;rw[q]
  rw[this]
  simp only[io,↓zq,zs,ac]
  exact⟨fun _=>⟨rfl,rfl⟩,fun h=>(by cases h)⟩
 |
  some t =>
  simp only[io,↓zq,zs,ac,fS]
  have notRec:(∀a,t≠.rc a)->cI s=none:=fun hn=>by
   unfold cI;rw[q]
   cases t<;>first|rfl|exact absurd rfl (hn _)
  refine⟨fun h=>(by cases h),fun _=>?_⟩
  cases t with
  |
   rc a =>
   have h4:=sL q
   simp only[Ty.aE]at h4
   have hq:cI s=(oi a mi).bind told:=by unfold cI;rw[q]
   obtain⟨e,he,hw,hte,hats,hok⟩:=nQ q
   have hgood:∀d,oi a mi=some d->gb d/\(u6 (.rc a)->u6 d):=fun d hd=>rj hw hte ⟨by simp,by simp,by simp⟩ hd
   rw[hq]
   simp only[Ty.av,↓zq,zs,ac]
   refine⟨by omega,fun h=>by omega,fun _=>?_⟩
   have hld:=R2 a (by omega) (fun j=>by
    cases q2:bn (hN j) a with
    |false=>rfl
    |true=>exact absurd rfl ((xb (nf q (hN j) q2)).2 (dd j)))
   simp only[Ty.av]at hld
   refine aR hld (OX.ne _) ?_
   rintro r ob ⟨rfl,p,hp,rfl,hpe⟩
   simp only[↓zq,zs,ac,zt,eq_true hp]
   cases q1:oi a mi with
   |
    none =>
    simp only[bu,bH]
    exact⟨fun _=>⟨rfl,rfl⟩,fun h=>(by cases h)⟩
   |
    some d =>
    simp only[aZ,a7]
    refine⟨fun h=>(by cases h),fun _=>?_⟩
    rw[hpe d q1]
    have hl:d.aE<=400:=by
     simp only[oi,bi,eS]at q1
     obtain⟨_,_,h1,h2⟩:=q1
     rw[<-h2];exact h1
    refine aj (Rr d (hgood d q1).1 ((hgood d q1).2 (Cv q)) (by omega)) ?_
    cases told d<;>simp only[rA,↓zq,zs,ac,zt]<;>exact⟨rfl,rfl⟩
  |
   _ =>
   rw[notRec fun a h=>by cases h]
   simp only[Ty.av,↓zq,zs,ac]
   exact⟨by omega,fun _=>⟨rfl,rfl⟩,fun h=>by omega⟩
end Go.Proofs.Trees
namespace Go.Proofs.Trees
open Go Go.VL Go.RowKit
theorem EE:∀(m:Nat) (c:Vl),c.nodes<=m->∀(t:Ty) (v:Vl),dL t c=true->∀(ea:AV) (ids:List Nat),kE ea ids->∀(s:List UInt8) (fr:AV),LK.has .ptr fr->an Tryz.prog 101 [.agg [t.av,ea],c.cA,.agg [.v (.string (mk s)),fr],v.cA] [] (bK (cX t c v).cA)
 |0,c,hm=>by have:=dw c;omega
 |
  m+1,c,hm=>by
  intro t v hc ea ids he s fr hf
  refine PE _ _ _ _ _ _ ((aF _).mpr trivial) he.has ((aN _).mpr trivial) hf ((aN _).mpr trivial) ?_
  have fin:∀x:AV,LK.has .ptr x->LK.has .ptr x=True:=fun x h=>eq_true h
  cases t with
  |zero=>rw[sZ];simp[AM,Ty.av,↓zq,zs,ac,bK]
  |one=>rw[vr];simp[AM,Ty.av,↓zq,zs,ac,bK]
  |name n=>rw[kT];simp[AM,Ty.av,↓zq,zs,ac,bK]
  |bT u=>rw[sa];simp[AM,Ty.av,↓zq,zs,ac,bK]
  |
   plus a b =>
   have hL:=zV a.av b.av ea 43 (mk []) 0 ((aF _).mpr trivial) he.has
   have hR:=Ao a.av b.av ea 43 (mk []) 0 ((aF _).mpr trivial) he.has
   rcases vw hc with⟨x,rfl,hx⟩|⟨x,rfl,hx⟩
   ·simp only[Vl.nodes]at hm
    simp only[AM,Ty.av,↓zq,zs,ac]
    refine⟨by omega,fun _=>?_,fun h=>absurd rfl h⟩
    refine aj hL ?_
    simp only[↓zq,zs,ac,bF,aF,he.has,Vl.cA,aN]
    refine⟨by omega,fun h=>by omega,fun _=>⟨by omega,by omega,?_⟩⟩
    refine aj (EE m x (by omega) a v hx ea ids he s fr hf) ?_
    simp only[↓zq,zs,ac,aN]
    refine aj (zH 108 _ ((aN _).mpr trivial)) ?_
    simp[↓zq,zs,ac,bK,cX,Vl.cA,cb]
   ·simp only[Vl.nodes]at hm
    simp only[AM,Ty.av,↓zq,zs,ac]
    refine⟨by omega,fun _=>?_,fun h=>absurd rfl h⟩
    refine aj hL ?_
    simp only[↓zq,zs,ac,bF,aF,he.has,Vl.cA,aN]
    refine⟨by omega,fun _=>?_,fun h=>absurd rfl h⟩
    refine aj hR ?_
    simp only[↓zq,zs,ac,bF,aF,he.has,Vl.cA,aN]
    refine⟨by omega,by omega,?_⟩
    refine aj (EE m x (by omega) b v hx ea ids he s fr hf) ?_
    simp only[↓zq,zs,ac,aN]
    refine aj (zH 114 _ ((aN _).mpr trivial)) ?_
    simp[↓zq,zs,ac,bK,cX,Vl.cA,cb]
  |
   times a b =>
   have hL:=zV a.av b.av ea 42 (mk []) 0 ((aF _).mpr trivial) he.has
   have hR:=Ao a.av b.av ea 42 (mk []) 0 ((aF _).mpr trivial) he.has
   rcases sQ hc with⟨x,y,rfl,hx⟩|⟨x,y,rfl,hx⟩
   ·simp only[Vl.nodes]at hm
    simp only[AM,Ty.av,↓zq,zs,ac,Vl.cA]
    refine⟨by omega,fun h=>by omega,fun _=>⟨fun _=>⟨by omega,fun _=>?_,fun h=>absurd rfl h⟩,fun h=>absurd rfl h⟩⟩
    refine aj hL ?_
    simp only[↓zq,zs,ac,bF,aF,he.has,Vl.cA,aN]
    repeat refine⟨by omega,?_⟩
    refine aj (EE m x (by omega) a v hx ea ids he s fr hf) ?_
    simp only[↓zq,zs,ac,aN]
    repeat refine⟨by omega,?_⟩
    refine aj (zK _ _ ((aN _).mpr trivial) ((aN _).mpr trivial)) ?_
    simp[↓zq,zs,ac,bK,cX,Vl.cA,cb]
   ·simp only[Vl.nodes]at hm
    simp only[AM,Ty.av,↓zq,zs,ac,Vl.cA,aN]
    refine⟨by omega,fun h=>by omega,fun _=>⟨fun _=>⟨by omega,fun h=>by omega,fun _=>?_⟩,fun h=>absurd rfl h⟩⟩
    repeat refine⟨by omega,?_⟩
    refine aj hR ?_
    simp only[↓zq,zs,ac,bF,aF,he.has,Vl.cA,aN]
    repeat refine⟨by omega,?_⟩
    refine aj (EE m y (by omega) b v hx ea ids he s fr hf) ?_
    simp only[↓zq,zs,ac,aN]
    refine aj (zK _ _ ((aN _).mpr trivial) ((aN _).mpr trivial)) ?_
    simp[↓zq,zs,ac,bK,cX,Vl.cA,cb]
  |
   rc a =>
   have hin:=Ek a ea ids he
   simp only[Ty.av]at hin
   rcases Bb hc with⟨x,rfl,hx⟩|⟨x,y,rfl,hx,hy⟩
   ·simp only[Vl.nodes]at hm
    simp only[AM,Ty.av,↓zq,zs,ac,Vl.cA,aN]
    refine⟨by omega,fun h=>by omega,fun _=>⟨fun h=>by omega,fun _=>⟨fun _=>?_,fun h=>absurd rfl h⟩⟩⟩
    refine aR hin (by have:=CG.ne a ea ids;simpa only[CG,Ty.av]using this) ?_
    intro r o hr
    obtain⟨⟨q,hq,rfl⟩,rfl⟩:=hr
    have he2:kE (.ptr [.pid q [(Ty.rc a).av,ea],ea]) (q::ids):=.cons hq he
    have hfr:LK.ptr.has (.pid q [(Ty.rc a).av,ea]):=.inr (.inr ⟨_,_,rfl⟩)
    simp only[Ty.av]at he2 hfr
    simp only[↓zq,zs,ac,bF,aF,he2.has,hfr,Vl.cA,aN,Ty.av]
    repeat refine⟨by omega,?_⟩
    refine⟨fun _=>?_,fun h=>absurd rfl h⟩
    repeat refine⟨by omega,?_⟩
    refine aj (EE m x (by omega) a v hx _ _ he2 s fr hf) ?_
    simp only[↓zq,zs,ac,aN]
    refine aj (zH 102 _ ((aN _).mpr trivial)) ?_
    simp[↓zq,zs,ac,bK,cX,Vl.cA,cb]
   ·simp only[Vl.nodes]at hm
    simp only[AM,Ty.av,↓zq,zs,ac,Vl.cA,aN]
    refine⟨by omega,fun h=>by omega,fun _=>⟨fun h=>by omega,fun _=>⟨fun _=>?_,fun h=>absurd rfl h⟩⟩⟩
    refine aR hin (by have:=CG.ne a ea ids;simpa only[CG,Ty.av]using this) ?_
    intro r o hr
    obtain⟨⟨q,hq,rfl⟩,rfl⟩:=hr
    have he2:kE (.ptr [.pid q [(Ty.rc a).av,ea],ea]) (q::ids):=.cons hq he
    have hfr:LK.ptr.has (.pid q [(Ty.rc a).av,ea]):=.inr (.inr ⟨_,_,rfl⟩)
    simp only[Ty.av]at he2 hfr
    simp only[↓zq,zs,ac,bF,aF,he2.has,hfr,Vl.cA,aN,Ty.av]
    repeat refine⟨by omega,?_⟩
    refine fun _=>?_
    repeat refine⟨by omega,?_⟩
    have i1:=EE m y (by omega) (.rc a) v hy ea ids he s fr hf
    simp only[Ty.av]at i1
    refine aj i1 ?_
    simp only[↓zq,zs,ac,aN]
    repeat refine⟨by omega,?_⟩
    refine aj (EE m x (by omega) a (cX (.rc a) y v) hx _ _ he2 [] _ hfr) ?_
    simp only[↓zq,zs,ac,aN]
    refine aj (zH 102 _ ((aN _).mpr trivial)) ?_
    simp[↓zq,zs,ac,bK,cX,Vl.cA,cb]
theorem Qe(a:Ty)(c v:Vl)(hc:dL a c=true):an Tryz.prog 74 [(Ty.rc a).av,c.cA,v.cA] [] (bK (Vl.f (cX a c v)).cA):=by
 refine Pc _ _ _ ((aF _).mpr trivial) ((aN _).mpr trivial) ((aN _).mpr trivial) ?_
 unfold Mg
 refine aR (Ek a iI [] .nil) (CG.ne a iI []) ?_
 rintro r o ⟨⟨m,hm,rfl⟩,rfl⟩
 have he2:kE (.ptr [.pid m [(Ty.rc a).av,iI],iI]) [m]:=.cons hm .nil
 have hfr:LK.ptr.has (.pid m [(Ty.rc a).av,iI]):=.inr (.inr ⟨_,_,rfl⟩)
 simp only[Ty.av]at he2 hfr
 simp only[↓zq,zs,ac,bF,aF,he2.has,hfr,Ty.av]
 repeat refine⟨by omega,?_⟩
 refine aj (EE c.nodes c (au _) a v hc _ _ he2 [] _ hfr) ?_
 simp only[↓zq,zs,ac,aN]
 refine aj (zH 102 _ ((aN _).mpr trivial)) ?_
 simp[↓zq,zs,ac,bK,Vl.cA,cb]
end Go.Proofs.Trees
namespace Go.Proofs.Trees
open Go Go.VL Go.RowKit
def u5(l:List Vl):List (List AV):=l.map fun c=>[c.cA]
theorem gH(l:List Vl):(u5 l).length=l.length:=by simp[u5]
theorem tU{l:List Vl}{i:Nat}(h:i<l.length):(u5 l).getD i []=[(l[i]).cA]:=by simp[u5,aa,h]
theorem zc(l:List Vl)(c:Vl):u5 l++[[c.cA]]=u5 (l++[c]):=by simp[u5]
def pE(s:Nm)(a:Ty)(l:List Vl)(v:Vl):AV:=.ptr [.v (.string (mk s)),(Ty.rc a).av,.sl (u5 l),v.cA]
def oZ(s:Nm)(a:Ty):Option (List Vl×Vl)->AV
 |some r=>pE s a r.1 r.2
 |none=>iI
theorem kG(s:Nm)(a:Ty)(o:Option (List Vl×Vl)):LK.has .ptr (oZ s a o)=True:=by cases o<;>simp[oZ,pE,iH,cb]
theorem Da(v:Vl):(Vl.f v).nodes=v.nodes+1:=by simp only[Vl.nodes];omega
theorem Fg(s:Nm)(a:Ty)(l:List Vl)(v:Vl)(h:ZI a l v)(hl:l.length<=50):an Tryz.prog 46 [pE s a l v] [] (bK (oZ s a (qE a l v))):=by
 refine QP _ ((cb _).mpr trivial) ?_
 simp only[MU,pE,↓zq,zs,ac,gH]
 refine⟨fun h=>(by cases h),fun _=>?_⟩
 repeat refine⟨by omega,?_⟩
 unfold qE
 refine⟨fun h0=>?_,fun h0=>?_⟩
 ·have:l=[]:=bG (by omega)
  subst this
  exact⟨rfl,rfl⟩
 ·have hpos:0<l.length:=by omega
  have hne:l≠[]:=by rintro rfl;simp at hpos
  rw[wrap64 ((l.length:Int)-1) (by omega) (by omega)]
  have e1:((l.length:Int)-1).toNat=l.length-1:=by omega
  have hlt:l.length-1<l.length:=by omega
  have hlast:l.getLast?=some (l[l.length-1]):=by rw[List.getLast?_eq_some_getLast hne,List.getLast_eq_getElem]
  rw[hlast]
  have hC:=h.CI _ (bD hlt)
  generalize hc:l[l.length-1]=c at *
  simp only[e1,tU hlt,hc,↓zq,zs,ac,aN,aF]
  repeat refine⟨by omega,?_⟩
  refine aj (Qe a c v hC.ok) ?_
  simp only[↓zq,zs,ac,aN]
  have hn:=rO a c v
  have h1:=hC.nd
  have h2:=h.nH.nd
  refine aj (EC (.f (cX a c v)) (by rw[Da];omega)) ?_
  simp only[↓zq,zs,ac,aN,aF]
  refine⟨fun hb=>?_,fun hb=>?_⟩
  ·rw[if_neg (by omega)];exact⟨rfl,rfl⟩
  ·rw[if_pos (by omega)]
   repeat refine⟨by omega,?_⟩
   refine⟨?_,rfl⟩
   have:(u5 l).take (l.length-1)=u5 l.dropLast:=by rw[List.dropLast_eq_take];simp[u5]
   simp only[oZ,pE,Int.toNat_zero,be,this]
theorem Of{s d:Nm}{a:Ty}{x A B:E}{D:Ty}(z:ZT s d a x A B D)(pa:AV)(p:List Nm)(hp:cH pa p)(hl:p.length<=50)(v:Vl):∀(k i:Nat) (l0:List Vl),i+k=p.length->l0.length<=i ->
 GS [.v (.string (mk d)),pa,.v (.int .i64 (p.length:Int)),.v (.int .i64 (i:Int))] [.cells [.v (.string (mk s)),(Ty.rc a).av,.any,v.cA],.vec 1 (u5 l0)]
  (py (match eE d (p.drop i)with|some l=>(1,[],[.cells [.v (.string (mk s)),(Ty.rc a).av,.any,v.cA],.vec 1 (u5 (l0++l))])|none=>(2,[iI],[])))
 |
  0,i,l0,hi,IM=>by
  refine My _ _ _ _ _ _ _ _ ?_
  have:i=p.length:=by omega
  subst this
  simp only[HZ,↓zq,zs,ac,ac,aF,aN,List.drop_length]
  exact⟨hp.1,fun h=>by omega,fun _=>by simp[py,eE]⟩
 |
  k+1,i,l0,hi,IM=>by
  have hlt:i<p.length:=by omega
  have hd:p.drop i=p.getD i []::p.drop (i+1):=by rw[aU hlt];simp[aa,hlt]
  refine My _ _ _ _ _ _ _ _ ?_
  simp only[HZ,↓zq,zs,ac,zt,ac,aF,aN,hp.len,hp.idx hlt,bN]
  refine⟨hp.1,fun _=>⟨⟨hp.1,by omega,by omega⟩,by omega,?_⟩,fun h=>by omega⟩
  refine aj (Ho d (p.getD i []) 100) ?_
  rw[hd,eE]
  simp only[↓zq,zs,ac,zt,gD,gf]
  cases q:mf d (p.getD i []) 100 with
  |
   none =>
   simp only[jb,↓zq,zs,ac]
   exact⟨fun _=>by first|trivial|rfl,fun h=>(by cases h)⟩
  |
   some w =>
   simp only[jb,↓zq,zs,ac,fw,zc]
   refine⟨fun h=>(by cases h),fun _=>?_⟩
   rw[bA i (by omega)]
   have ih:=Of z pa p hp hl v k (i+1) (l0++[w]) (by omega) (by simp;omega)
   refine⟨⟨fun c hc=>by simp at hc;rw[hc];rfl,by rw[gH];omega⟩,?_⟩
   cases q2:eE d (p.drop (i+1))with
   |none=>rw[q2]at ih;exact ih
   |some l=>rw[q2]at ih;simp only[bb,bf,aW]at ih;exact ih
theorem mS{s:Nm}{p:List Nm}{f:Nm}{l:List Vl}{v:Vl}(h:sE s p f=some (l,v)):∃d a x A B D,ZT s d a x A B D/\ZI a l v/\p=l.map (·.cE)/\f=v.cE/\p.length<=50/\zA s=a/\qy s f=some v/\eE d p=some l:=by
 unfold sE at h
 split at h
 ·rename_i v' d h1 h2
  split at h
  ·rename_i hl
   obtain⟨l',h3,h4⟩:=Option.map_eq_some_iff.1 h
   cases h4
   obtain⟨a,_,_,_,L⟩:=p8 h1
   obtain⟨x,A,B,D,z⟩:=ZT.of L.l h2
   obtain⟨q1,q2⟩:=rZ z p l h3
   obtain⟨q3,q4⟩:=z.nH h1
   exact⟨d,a,x,A,B,D,z,⟨q2,q3⟩,q1,q4,hl,by unfold zA;rw[L.l];rfl,h1,h3⟩
  ·cases h
 ·cases h
theorem Je(s:Nm)(pa:AV)(p:List Nm)(hp:cH pa p)(f:Nm):an Tryz.prog 63 [.agg [.v (.string (mk s)),pa,.v (.string (mk f))]] [] (bK (oZ s (zA s) (sE s p f))):=by
 refine PT _ _ _ hp.1 ?_
 unfold Lk
 refine aj (SC s f) ?_
 have hlt:LK.has .ptr (HG s)=True:=by unfold HG;split<;>simp[aF,iH]
 simp only[↓zq,zs,ac,zt,hlt,gf]
 refine aj (QG s) ?_
 have ho:∀o:Option Nm,rA o=.cD [.v (.string (mk (o.getD []))),.v (.bool o.isSome)]:=fun o=>by cases o<;>rfl
 rw[ho]
 simp only[↓zq,zs,ac,zt]
 unfold sE
 cases h1:qy s f with
 |
  none =>
  simp only[jb,↓zq,zs,ac]
  exact⟨fun _=>⟨rfl,rfl⟩,fun h=>(by cases h)⟩
 |
  some v =>
  simp only[jb,↓zq,zs,ac,fw]
  refine⟨fun h=>(by cases h),fun _=>?_⟩
  cases h2:cI s with
  |
   none =>
   simp only[bu]
   exact⟨fun _=>⟨rfl,rfl⟩,fun h=>(by cases h)⟩
  |
   some d =>
   simp only[aZ,cz,hp.len]
   refine⟨fun h=>(by cases h),fun _=>⟨hp.1,fun h=>?_,fun h=>?_⟩⟩
   ·rw[if_neg (by omega)];exact⟨rfl,rfl⟩
   ·have hl:p.length<=50:=by omega
    rw[if_pos hl]
    obtain⟨a,_,_,_,L⟩:=p8 h1
    obtain⟨x,A,B,D,z⟩:=ZT.of L.l h2
    have ht:HG s=(Ty.rc a).av:=by unfold HG;rw[L.l]
    have hza:zA s=a:=by unfold zA;rw[L.l];rfl
    rw[ht,hza]
    refine⟨hp.1,?_⟩
    have hloop:=Of z pa p hp hl v p.length 0 [] (by omega) (by simp)
    rw[be]at hloop
    refine fI hloop (fun ys o e=>?_) (fun ys o e=>?_)
    ·cases q:eE d p with
     |none=>rw[q]at e;cases e
     |
      some l =>
      rw[q]at e
      cases e
      simp only[↓zq,zs,ac,zt,ac,aL,aF,aN,ci]
      exact⟨rfl,rfl⟩
    ·cases q:eE d p with
     |
      none =>
      rw[q]at e
      cases e
      simp only[↓zq,zs,ac,zt,ac,aL,Option.map_none]
      exact⟨rfl,rfl⟩
     |some l=>rw[q]at e;cases e
theorem Jv(s:Nm)(a:Ty)(x3:AV)(h3:LK.ptr.has x3):∀(n:Nat) (l:List Vl) (v:Vl),l.length=n->ZI a l v->n<=50 ->
 Hg [x3,pE s a l v] [] (py (if(iO n a l v).isSome=true then(1,[x3],[])else(2,[iI],[])))
 |
  0,l,v,hl,h,hn=>by
  refine LJ _ _ ?_
  simp only[FX,pE,↓zq,zs,ac,h3,gH,hl,iO]
  repeat refine⟨by omega,?_⟩
  exact fun _=>by simp[py]
 |
  n+1,l,v,hl,h,hn=>by
  refine LJ _ _ ?_
  have hup:=Fg s a l v h (by omega)
  simp only[FX,↓zq,zs,ac,h3]
  simp only[pE,↓zq,zs,ac,gH,hl]at hup |-
  repeat refine⟨by omega,?_⟩
  refine⟨fun _=>?_,fun h=>by omega⟩
  refine aj hup ?_
  simp only[↓zq,zs,ac,kG]
  rw[iO]
  cases q:qE a l v with
  |
   none =>
   simp only[oZ,↓zq,zs,ac,bH]
   exact⟨fun _=>by simp[py],fun h=>(by cases h)⟩
  |
   some r =>
   obtain⟨hz,hlen,_⟩:=rY h q
   have ih:=Jv s a x3 h3 n r.1 r.2 (by omega) hz (by omega)
   simp only[oZ,pE,↓zq,zs,ac,a7]at ih |-
   exact⟨fun h=>(by cases h),fun _=>ih⟩
theorem SX(s:Nm)(pa:AV)(p:List Nm)(hp:cH pa p)(f:Nm):an Tryz.prog 45 [.agg [.v (.string (mk s)),pa,.v (.string (mk f))]] [] (bK (oZ s (zA s) (gm s p f))):=by
 refine Rj _ _ _ hp.1 ?_
 unfold MV
 refine aj (Je s pa p hp f) ?_
 simp only[↓zq,zs,ac,zt,kG]
 unfold gm
 cases q:sE s p f with
 |
  none =>
  simp only[oZ,↓zq,zs,ac,bH]
  exact⟨fun _=>⟨rfl,rfl⟩,fun h=>(by cases h)⟩
 |
  some r =>
  obtain⟨l,v⟩:=r
  obtain⟨d,a,x,A,B,D,z,hz,hpt,hft,hl,hza,_,_⟩:=mS q
  rw[hza]
  have hll:l.length<=50:=by rw[hpt]at hl;simpa using hl
  have hloop:=Jv s a (pE s a l v) ((cb _).mpr trivial) l.length l v rfl hz hll
  simp only[oZ,a7]
  refine⟨fun h=>(by cases h),fun _=>?_⟩
  unfold sG
  refine fI hloop (fun ys o e=>?_) (fun ys o e=>?_)
  ·split at e
   ·rename_i hc
    cases e
    rw[if_pos hc]
    simp only[↓zq,zs,ac,pE,cb]
    exact⟨rfl,rfl⟩
   ·cases e
  ·split at e
   ·cases e
   ·rename_i hc
    cases e
    rw[if_neg hc]
    simp only[↓zq,zs,ac]
    exact⟨rfl,rfl⟩
end Go.Proofs.Trees
namespace Go.Proofs.Trees
open Go Go.VL Go.RowKit
abbrev tZ(s:Nm):Option (List Vl×Vl)->Nm×List Nm×Nm
 |some r=>(s,r.1.map (·.cE),r.2.cE)
 |none=>([],[],[])
def GZ(o:Option (List Vl×Vl)):Prop:=∀r,o=some r->(∀c,c∈r.1->c.cE.length<=900000)/\r.2.cE.length<=900000/\r.1.length<=51
theorem Cx.cE{a:Ty}{c:Vl}(h:Cx a c):c.cE.length<=900000:=by have:=jp c h.ic;have:=h.nd;omega
theorem Fo.cE{a:Ty}{c:Vl}(h:Fo a c):c.cE.length<=900000:=by have:=jp c h.ic;have:=h.nd;omega
theorem ZI.gz{a:Ty}{l:List Vl}{v:Vl}(h:ZI a l v)(hl:l.length<=51):GZ (some (l,v)):=fun r hr=>by
 cases hr;exact⟨fun c hc=>(h.CI c hc).cE,h.nH.cE,hl⟩
theorem GZ.none:GZ none:=fun r hr=>by cases hr
theorem L6(l:List Vl)(hl:l.length<=51)(ht:∀c,c∈l->c.cE.length<=900000)(s f:Nm):∀(k i:Nat) (out:List Nm),i+k=l.length->out.length<=i ->
 Hu [.sl (u5 l),.v (.int .i64 (l.length:Int)),.v (.int .i64 (i:Int))] [.cells [.v (.string (mk [])),xV,.v (.string (mk []))],.cells [.v (.string (mk s)),.any,.v (.string (mk f))],.vec 1 (bP out)]
  (gV 1 [] [.cells [.v (.string (mk [])),xV,.v (.string (mk []))],.cells [.v (.string (mk s)),.any,.v (.string (mk f))],.vec 1 (bP (out++(l.drop i).map (·.cE)))])
 |
  0,i,out,hi,ho=>by
  refine Ot _ _ _ _ _ _ _ _ _ ?_
  have:i=l.length:=by omega
  subst this
  simp only[Gp,↓zq,zs,ac,zt,ac,bg,List.drop_length]
  exact⟨fun h=>by omega,fun _=>by simp[gV]⟩
 |
  k+1,i,out,hi,ho=>by
  have hlt:i<l.length:=by omega
  refine Ot _ _ _ _ _ _ _ _ _ ?_
  simp only[Gp,↓zq,zs,ac,zt,ac,bg,gH,tU hlt,aN,bN]
  refine⟨fun _=>?_,fun h=>by omega⟩
  repeat refine⟨by omega,?_⟩
  refine aj (CL (l[i]) (ht _ (bD hlt))) ?_
  simp only[↓zq,zs,ac,zt,E3,ku]
  refine⟨⟨fun c hc=>by simp at hc;rw[hc];rfl,by omega⟩,?_⟩
  rw[bA i (by omega),aU hlt,bE]
  have:=L6 l hl ht s f k (i+1) (out++[(l[i]).cE]) (by omega) (by simp;omega)
  rw[bb]at this
  exact this
theorem R4(s:Nm)(a:Ty)(o:Option (List Vl×Vl))(h:GZ o):an Tryz.prog 58 [oZ s a o] [] (dh (.cD [.agg [.v (.string (mk (tZ s o).1)),.vec 0,.v (.string (mk (tZ s o).2.2))],.v (.bool o.isSome)]) [.vec 1 (bP (tZ s o).2.1)]):=by
 refine Qx _ (by rw[kG];trivial) ?_
 unfold MB
 cases o with
 |
  none =>
  simp only[oZ,↓zq,zs,ac]
  exact⟨fun _=>⟨rfl,rfl⟩,fun h=>(by cases h)⟩
 |
  some r =>
  obtain⟨h1,h2,h3⟩:=h r rfl
  simp only[oZ,pE,↓zq,zs,ac,zt,aF,aN]
  refine⟨fun h=>(by cases h),fun _=>?_⟩
  repeat refine⟨by omega,?_⟩
  refine aj (CL r.2 h2) ?_
  simp only[↓zq,zs,ac,zt,aF,aN,gH]
  repeat refine⟨by omega,?_⟩
  have hlp:=L6 r.1 h3 h1 s r.2.cE r.1.length 0 [] (by omega) (by simp)
  rw[be,aW]at hlp
  refine cx hlp ?_
  simp only[↓zq,zs,ac,zt,ac,aL,bg]
  exact⟨rfl,rfl⟩
theorem fR{s:Nm}{p:List Nm}{f:Nm}{l:List Vl}{v:Vl}(h:gm s p f=some (l,v)):sE s p f=some (l,v)/\(sG (zA s) l v).isSome=true:=by
 unfold gm at h
 obtain⟨r,h1,h2⟩:=bi.1 h
 split at h2
 ·rename_i hc
  cases h2
  exact⟨h1,hc⟩
 ·cases h2
theorem DK{s:Nm}{p:List Nm}{f:Nm}{l:List Vl}{v:Vl}(h:gm s p f=some (l,v)):ZI (zA s) l v/\l.length<=50/\p=l.map (·.cE)/\f=v.cE:=by
 obtain⟨h1,_⟩:=fR h
 obtain⟨d,a,x,A,B,D,z,hz,hp,hf,hl,hza,_,_⟩:=mS h1
 rw[hza]
 exact⟨hz,by rw[hp]at hl;simpa using hl,hp,hf⟩
theorem Gy(s:Nm)(p:List Nm)(f:Nm):GZ (sE s p f):=fun r hr=>by
 obtain⟨d,a,x,A,B,D,z,hz,hp,hf,hl,hza,_,_⟩:=mS (l:=r.1) (v:=r.2) hr
 exact hz.gz (by
  rw[hp]at hl;have:r.1.length<=50:=by simpa using hl
  omega) r rfl
noncomputable def od (s:Nm) (p:List Nm) (f:Nm):Option Nm:=(gm s p f).bind fun r=>(sG (zA s) r.1 r.2).map (·.cE)
noncomputable def qd (s:Nm) (p:List Nm) (f:Nm):Int:=match gm s p f with
 |some r=>((kids (zA s) r.2).length:Int)
 |none=>-1
abbrev E6(s:Nm)(o:Option (List Vl×Vl)):AV->List Ob->Prop:=dh (.cD [.agg [.v (.string (mk (tZ s o).1)),.vec 0,.v (.string (mk (tZ s o).2.2))],.v (.bool o.isSome)]) [.vec 1 (bP (tZ s o).2.1)]
theorem NC(s:Nm)(a:Ty):∀(n:Nat) (l:List Vl) (v w:Vl),l.length=n->ZI a l v->n<=50->iO n a l v=some w->Fo a w /\
 GG [pE s a l v] [] (gV 1 [pE s a [] w] [])
 |
  0,l,v,w,hl,h,hn,hc=>by
  cases hc
  have:l=[]:=bG hl
  subst this
  refine⟨h.nH,LC _ ?_⟩
  simp only[H7,pE,↓zq,zs,ac,gH,aH]
  refine⟨by omega,fun h=>by omega,fun _=>by simp[gV]⟩
 |
  n+1,l,v,w,hl,h,hn,hc=>by
  rw[iO]at hc
  obtain⟨r,hu,hc⟩:=bi.1 hc
  obtain⟨hz,hlen,_⟩:=rY (l':=r.1) (w:=r.2) h hu
  obtain⟨i1,i2⟩:=NC s a n r.1 r.2 w (by omega) hz (by omega) hc
  refine⟨i1,LC _ ?_⟩
  have hup:=Fg s a l v h (by omega)
  rw[hu]at hup
  simp only[H7,oZ]at hup |-
  simp only[pE,↓zq,zs,ac,gH,hl]at hup |-
  repeat refine⟨by omega,?_⟩
  refine⟨fun _=>?_,fun h=>by omega⟩
  refine aj hup ?_
  simp only[↓zq,zs,ac]
  exact i2
theorem SN(s:Nm)(pa:AV)(p:List Nm)(hp:cH pa p)(f:Nm):an Tryz.prog 30 [.agg [.v (.string (mk s)),pa,.v (.string (mk f))]] [] (bK (rA (od s p f))):=by
 refine Qf _ _ _ hp.1 ?_
 unfold OH
 refine aj (SX s pa p hp f) ?_
 simp only[↓zq,zs,ac,kG]
 unfold od
 cases q:gm s p f with
 |
  none =>
  simp only[oZ,↓zq,zs,ac,bH]
  exact⟨fun _=>⟨rfl,rfl⟩,fun h=>(by cases h)⟩
 |
  some r =>
  obtain⟨l,v⟩:=r
  obtain⟨hz,hl,_⟩:=DK q
  obtain⟨w,hw⟩:=bL.1 (fR q).2
  obtain⟨h1,h2⟩:=NC s (zA s) l.length l v w rfl hz hl hw
  simp only[oZ,a7,hw,ci]
  have hn:(pE s (zA s) l v).isNil=false:=rfl
  simp only[hn]
  refine⟨fun h=>(by cases h),fun _=>?_⟩
  refine cx h2 ?_
  simp only[↓zq,zs,ac,pE,aN,cb]
  repeat refine⟨by first|trivial|omega,?_⟩
  refine aj (CL w h1.cE) ?_
  simp only[↓zq,zs,ac,zt]
  exact⟨rfl,rfl⟩
end Go.Proofs.Trees
namespace Go.Proofs.Trees
open Go Go.VL Go.RowKit
def l4:E->Option E
 | .list [x,a,b]=>if x.at=[114,101,99]then some (.list [x,a,b])else none
 |_=>none
def pj(s:List UInt8):Option E:=match jL s with
 |some e=>l4 e
 |none=>none
theorem F4(s:List UInt8):an Tryz.prog 88 [.v (.string (mk s))] [] (jN (pj s) (pj s).isSome):=by
 refine Sq _ ?_
 unfold LR
 refine aR (Hj s) (jN.ne _ _ (fun h=>h)) ?_
 rintro r o ⟨c,d,hd,rfl,hh⟩
 have hhas:bF [.str,.sl] [.v (.string (mk c)),d] 0:=by simp[bF,dY,hd]
 simp only[↓zq,zs,ac,zt]
 refine⟨hhas,fun h=>?_,fun h=>?_⟩
 ·obtain⟨e,he,hce⟩:=hh h
  obtain⟨t,h1,hA,h3,h4,h5,_⟩:=gZ he
  have hce':=hce
  rw[dj]at hce'
  simp only[AV.agg.injEq,List.cons.injEq,AV.v.injEq,Value.string.injEq,and_true]at hce'
  obtain⟨hc1,rfl⟩:=hce'
  have hc2:=xE hc1
  subst hc2
  have head:∀w:List UInt8,an Tryz.prog 121 [.agg [.v (.string (mk e.at)),e.sp]] [] (bK (.v (.string (mk w))))->(w=[114,101,99]↔(l4 e).isSome=true)->((l4 e).isSome=true->l4 e=some e) ->
   eX Tryz.prog 18 (Tree.call 121 [.agg [.v (.string (mk e.at)),e.sp]] [] fun r2 o2=>Tree.ai (LK.str.has r2) (Tree.done 0 [.cD [.agg [.v (.string (mk e.at)),e.sp],.v (.bool (ae r2.ah==[114,101,99]))]] [])) fun _ xs obs=>jN (pj s) (pj s).isSome (xs.headD .any) obs:=by
   intro w hw h1 h2
   refine aj hw ?_
   simp only[↓zq,zs,ac,zt]
   refine⟨e.at,e.sp,hd,?_,fun hs=>⟨e,?_,(dj e).symm⟩⟩
   ·congr 3
    simp only[pj,he,AV.v.injEq,Value.bool.injEq,List.cons.injEq,and_true]
    rw[cw];simpa using h1
   ·simp only[pj,he]at hs |-;exact h2 hs
  have hl:∀x l,e=.list (x::l)->an Tryz.prog 121 [.agg [.v (.string (mk e.at)),e.sp]] [] (bK (.v (.string (mk x.at)))):=by
   rintro x l rfl;exact u7 x l
  have ha:∀s0,e=.atom s0->an Tryz.prog 121 [.agg [.v (.string (mk e.at)),e.sp]] [] (bK (.v (.string (mk [])))):=by
   rintro s0 rfl;exact Ap s0 _ ((bg).mpr trivial) hA.ok
  rcases gC hA.wf hA.ty with⟨hb,_⟩|⟨u,g,rfl,_,hg⟩
  ·rcases fP hA.ty hb hA.cl with⟨rfl,rfl⟩|⟨rfl,rfl⟩|⟨s0,rfl,rfl,hp,h0,h1⟩|⟨x,a,b,t1,t2,rfl,hx,rfl,ha',hbb⟩|⟨x,a,b,t1,t2,rfl,hx,rfl,ha',hbb⟩|⟨x,a,b,t1,rfl,hx,rfl⟩
   ·exact head _ (ha _ rfl) (by simp[l4]) (by simp[l4])
   ·exact head _ (ha _ rfl) (by simp[l4]) (by simp[l4])
   ·exact head _ (ha _ rfl) (by simp[l4]) (by simp[l4])
   ·exact head _ (hl _ _ rfl) (by simp[l4,hx]) (by simp[l4,hx])
   ·exact head _ (hl _ _ rfl) (by simp[l4,hx]) (by simp[l4,hx])
   ·exact head _ (hl _ _ rfl) (by simp[l4,hx]) (by simp[l4,hx])
  ·simp at hg
 ·have hn:jL s=none:=by cases hq:jL s<;>simp[hq]at h |-
  refine⟨c,d,hd,?_,fun h=>?_⟩
  ·simp[pj,hn]
  ·simp[pj,hn]at h
theorem AQ(s:List UInt8):(pj s).isSome=(kJ s).isSome:=by
 unfold pj kJ
 cases h:jL s with
 |none=>rw[ni h];rfl
 |
  some e =>
  obtain⟨t,h1,hA,h3,h4,h5,_⟩:=gZ h
  rw[h1]
  simp only
  rcases gC hA.wf hA.ty with⟨hb,_⟩|⟨u,g,rfl,_,hg⟩
  ·rcases fP hA.ty hb hA.cl with⟨rfl,rfl⟩|⟨rfl,rfl⟩|⟨s0,rfl,rfl,hp,h0,h1⟩|⟨x,a,b,t1,t2,rfl,hx,rfl,ha',hbb⟩|⟨x,a,b,t1,t2,rfl,hx,rfl,ha',hbb⟩|⟨x,a,b,t1,rfl,hx,rfl⟩<;>simp_all[l4]
  ·simp at hg
theorem LV.le{s v:List UInt8}{w:Vl}{a:Ty}{x A B:E}(h:LV s v w a x A B):pj s=some (.list [x,A,B]):=by
 unfold pj;rw[h.ce];simp[l4,h.hx]
theorem Ps(n:Nat)(v:Vl)(x A B:E)(a:Ty)(hA:Ask B [.mk A.at (.list [x,A,B]) []] a)(hx:x.at=[114,101,99])(w:Vl)(hw:v=.f w)(hv:ff n v (.list [x,A,B],[])=true)(hl:v.nodes<90000) :
 an Tryz.prog 92 [.agg [.v (.string (mk B.at)),B.sp],.v (.string (mk A.at)),.agg [.v (.string (mk w.cL.at)),w.cL.sp]] [] (bK (.sl (mg (kids a v)))):=by
 subst hw
 obtain⟨w',e,hw'⟩:=ux .nil hx hv
 cases e
 simp only[Vl.nodes]at hl
 have hnm:names [Fr.mk A.at (.list [x,A,B]) []]=[]++[A.at]:=rfl
 have h:=E4 n w.nodes w (au _) B _ a hA hw' (by simp;omega) A.at (by rw[hnm];right;rw[fA];rfl)
 rw[hnm,vH]at h
 exact h
end Go.Proofs.Trees
namespace Go.Proofs.Trees
open Go Go.VL Go.RowKit
def Q8(e:E)(s:List UInt8)(t:Ty)(c v:Vl):Prop:=an Tryz.prog 99 [.agg [.v (.string (mk e.at)),e.sp],.v (.string (mk s)),.agg [.v (.string (mk c.cL.at)),c.cL.sp],.agg [.v (.string (mk v.cL.at)),v.cL.sp]] [] (bK (.agg [.v (.string (mk (cX t c v).cL.at)),(cX t c v).cL.sp]))
theorem EY:∀(m:Nat) (c:Vl),c.nodes<=m->∀(e:E) (env:List Fr) (t:Ty),Ask e env t->dL t c=true->∀(s:List UInt8) (v:Vl),Q8 e s t c v
 |0,c,hm=>by have:=dw c;omega
 |
  m+1,c,hm=>by
  intro e env t A hc s v
  unfold Q8
  refine Rd _ _ _ _ _ _ _ ((aY _).mpr trivial) ((aY _).mpr trivial) ((aY _).mpr trivial) ?_
  have atomCase:∀s0,e=.atom s0->cX t c v=v->eX Tryz.prog 244 (DH (mk e.at) e.sp (mk s) (mk c.cL.at) c.cL.sp (mk v.cL.at) v.cL.sp) fun _ xs obs=>bK (.agg [.v (.string (mk (cX t c v).cL.at)),(cX t c v).cL.sp]) (xs.headD .any) obs:=by
   rintro s0 rfl hp
   have hne:s0≠[]:=A.ok
   rw[hp]
   simp only[DH,E.at,↓zq,zs,ac,zt,bK]
   exact⟨fun _=>trivial,fun h=>absurd h hne⟩
  have hvh:=BD c
  rw[dj]at hvh
  rcases gC A.wf A.ty with⟨hb,hq⟩|⟨u,g,rfl,hq,hu⟩
  ·rcases fP A.ty hb A.cl with⟨rfl,rfl⟩|⟨rfl,rfl⟩|⟨s0,rfl,rfl,hp,h0,h1⟩|⟨x,a,b,t1,t2,rfl,hx,rfl,ha,hbb⟩|⟨x,a,b,t1,t2,rfl,hx,rfl,ha,hbb⟩|⟨x,a,b,t1,rfl,hx,rfl⟩
   ·exact atomCase _ rfl (sZ _ _)
   ·exact atomCase _ rfl (vr _ _)
   ·exact atomCase _ rfl (kT _ _ _)
   ·obtain⟨ok1,ok2,ok3,_⟩:=A.ok
    obtain⟨f1,f2⟩:=fB A.cl
    have hP:=P3.of x a b
    have hH:an Tryz.prog 121 [.agg [.v (.string (mk [])),(E.list [x,a,b]).sp]] [] (bK (.v (.string (mk [43])))):=by rw[<-hx];exact u7 x [a,b]
    rcases vw hc with⟨y,rfl,hy⟩|⟨y,rfl,hy⟩
    ·simp only[Vl.nodes]at hm
     have hW:=P2.of (.atom [108]) y.cL
     simp only[Vl.cL,bM]at hvh
     simp only[DH,bM,Vl.cL,toNat_one,bh,↓zq,zs,ac,zt,hP.1,hP.2.1,hP.2.2.1,hP.2.2.2,hW.1,hW.2.1,hW.2.2,aM]
     refine⟨fun h=>absurd rfl h,fun _=>?_⟩
     repeat refine⟨by omega,?_⟩
     refine aj hH ?_
     simp only[↓zq,zs,ac,zt]
     refine aj hvh ?_
     simp only[vh,↓zq,zs,ac,zt,bf,aW]
     refine⟨by simp[cN],fun _=>?_,fun h=>absurd rfl h⟩
     repeat refine⟨by omega,?_⟩
     refine aj (EY m y (by omega) a env t1 ⟨ok2,A.wf,ha,f1⟩ hy s v) ?_
     simp only[↓zq,zs,ac,zt,aM]
     repeat refine⟨by omega,?_⟩
     refine aj (wR _ _) ?_
     simp only[↓zq,zs,ac,zt,aM]
     repeat refine⟨by omega,?_⟩
     exact⟨rfl,rfl⟩
    ·simp only[Vl.nodes]at hm
     have hW:=P2.of (.atom [114]) y.cL
     simp only[Vl.cL,bM]at hvh
     simp only[DH,bM,Vl.cL,toNat_one,bh,↓zq,zs,ac,zt,hP.1,hP.2.1,hP.2.2.1,hP.2.2.2,hW.1,hW.2.1,hW.2.2,aM]
     refine⟨fun h=>absurd rfl h,fun _=>?_⟩
     repeat refine⟨by omega,?_⟩
     refine aj hH ?_
     simp only[↓zq,zs,ac,zt]
     refine aj hvh ?_
     simp only[vh,↓zq,zs,ac,zt,bf,aW]
     refine⟨by simp[cN],fun h=>by simp at h,fun _=>⟨fun _=>?_,fun h=>absurd rfl h⟩⟩
     repeat refine⟨by omega,?_⟩
     refine aj (EY m y (by omega) b env t2 ⟨ok3,A.wf,hbb,f2⟩ hy s v) ?_
     simp only[↓zq,zs,ac,zt,aM]
     repeat refine⟨by omega,?_⟩
     refine aj (wR _ _) ?_
     simp only[↓zq,zs,ac,zt,aM]
     repeat refine⟨by omega,?_⟩
     exact⟨rfl,rfl⟩
   ·obtain⟨ok1,ok2,ok3,_⟩:=A.ok
    obtain⟨f1,f2⟩:=eY A.cl
    have hP:=P3.of x a b
    have hH:an Tryz.prog 121 [.agg [.v (.string (mk [])),(E.list [x,a,b]).sp]] [] (bK (.v (.string (mk [42])))):=by rw[<-hx];exact u7 x [a,b]
    rcases sQ hc with⟨y,z,rfl,hy⟩|⟨y,z,rfl,hy⟩
    ·simp only[Vl.nodes]at hm
     have hW:=P2.of (.atom [108]) (E.list [.atom [112],y.cL,z.cL])
     have hQ:=P3.of (.atom [112]) y.cL z.cL
     simp only[Vl.cL,bM]at hvh
     simp only[DH,bM,Vl.cL,toNat_one,bh,↓zq,zs,ac,zt,hP.1,hP.2.1,hP.2.2.1,hP.2.2.2,hW.1,hW.2.1,hW.2.2,hQ.1,hQ.2.1,hQ.2.2.1,hQ.2.2.2,aM]
     refine⟨fun h=>absurd rfl h,fun _=>?_⟩
     repeat refine⟨by omega,?_⟩
     refine aj hH ?_
     simp only[↓zq,zs,ac,zt]
     refine aj hvh ?_
     simp only[vh,↓zq,zs,ac,zt,bf,aW]
     refine⟨by simp[cN],fun h=>by simp at h,fun _=>⟨fun h=>by simp at h,fun _=>⟨fun _=>?_,fun h=>absurd rfl h⟩⟩⟩
     repeat refine⟨by omega,?_⟩
     refine aj (EY m y (by omega) a env t1 ⟨ok2,A.wf,ha,f1⟩ hy s v) ?_
     simp only[↓zq,zs,ac,zt,aM]
     repeat refine⟨by omega,?_⟩
     refine aj (xm _ _ _) ?_
     simp only[↓zq,zs,ac,zt,aM]
     repeat refine⟨by omega,?_⟩
     exact⟨rfl,rfl⟩
    ·simp only[Vl.nodes]at hm
     have hW:=P2.of (.atom [114]) (E.list [.atom [112],y.cL,z.cL])
     have hQ:=P3.of (.atom [112]) y.cL z.cL
     simp only[Vl.cL,bM]at hvh
     simp only[DH,bM,Vl.cL,toNat_one,bh,↓zq,zs,ac,zt,hP.1,hP.2.1,hP.2.2.1,hP.2.2.2,hW.1,hW.2.1,hW.2.2,hQ.1,hQ.2.1,hQ.2.2.1,hQ.2.2.2,aM]
     refine⟨fun h=>absurd rfl h,fun _=>?_⟩
     repeat refine⟨by omega,?_⟩
     refine aj hH ?_
     simp only[↓zq,zs,ac,zt]
     refine aj hvh ?_
     simp only[vh,↓zq,zs,ac,zt,bf,aW]
     refine⟨by simp[cN],fun h=>by simp at h,fun _=>⟨fun h=>by simp at h,fun _=>⟨fun h=>by simp at h,fun _=>⟨fun _=>?_,fun h=>absurd rfl h⟩⟩⟩⟩
     repeat refine⟨by omega,?_⟩
     refine aj (EY m z (by omega) b env t2 ⟨ok3,A.wf,hbb,f2⟩ hy s v) ?_
     simp only[↓zq,zs,ac,zt,aM]
     repeat refine⟨by omega,?_⟩
     refine aj (xm _ _ _) ?_
     simp only[↓zq,zs,ac,zt,aM]
     repeat refine⟨by omega,?_⟩
     exact⟨rfl,rfl⟩
   ·obtain⟨t1',he1,h1,f1,hw1⟩:=jz A.wf A.ok hx A.ty A.cl
    cases he1
    obtain⟨ok1,ok2,ok3,_⟩:=A.ok
    have A':Ask b (.mk a.at (.list [x,a,b]) env::env) t1:=⟨ok3,hw1,h1,f1⟩
    have hP:=P3.of x a b
    have hH:an Tryz.prog 121 [.agg [.v (.string (mk [])),(E.list [x,a,b]).sp]] [] (bK (.v (.string (mk [114,101,99])))):=by rw[<-hx];exact u7 x [a,b]
    rcases Bb hc with⟨y,rfl,hy⟩|⟨y,z,rfl,hy,hz⟩
    ·simp only[Vl.nodes]at hm
     have hW:=P2.of (.atom [102]) (E.list [.atom [108],y.cL])
     have hQ:=P2.of (.atom [108]) y.cL
     have hvi:=BD (.l y)
     rw[dj]at hvi
     simp only[Vl.cL,bM]at hvh hvi
     simp only[DH,bM,Vl.cL,toNat_one,bh,↓zq,zs,ac,zt,hP.1,hP.2.1,hP.2.2.1,hP.2.2.2,hW.1,hW.2.1,hW.2.2,hQ.1,hQ.2.1,hQ.2.2,aM]
     refine⟨fun h=>absurd rfl h,fun _=>?_⟩
     repeat refine⟨by omega,?_⟩
     refine aj hH ?_
     simp only[↓zq,zs,ac,zt]
     refine aj hvh ?_
     simp only[vh,↓zq,zs,ac,zt,bf,aW]
     refine⟨by simp[cN],fun h=>by simp at h,fun _=>⟨fun h=>by simp at h,fun _=>⟨fun h=>by simp at h,fun _=>⟨fun h=>by simp at h,fun _=>?_⟩⟩⟩⟩
     repeat refine⟨by omega,?_⟩
     refine aj hvi ?_
     simp only[vh,↓zq,zs,ac,zt]
     refine⟨fun _=>?_,fun h=>absurd rfl h⟩
     repeat refine⟨by omega,?_⟩
     refine aj (EY m y (by omega) b _ t1 A' hy s v) ?_
     simp only[↓zq,zs,ac,zt,aM]
     repeat refine⟨by omega,?_⟩
     refine aj (wR _ _) ?_
     simp only[↓zq,zs,ac,zt,aM]
     repeat refine⟨by omega,?_⟩
     exact⟨rfl,rfl⟩
    ·simp only[Vl.nodes]at hm
     have hW:=P2.of (.atom [102]) (E.list [.atom [114],E.list [.atom [112],y.cL,z.cL]])
     have hQ:=P2.of (.atom [114]) (E.list [.atom [112],y.cL,z.cL])
     have hR:=P3.of (.atom [112]) y.cL z.cL
     have hvi:=BD (.r (.p y z))
     rw[dj]at hvi
     simp only[Vl.cL,bM]at hvh hvi
     simp only[DH,bM,Vl.cL,toNat_one,bh,↓zq,zs,ac,zt,hP.1,hP.2.1,hP.2.2.1,hP.2.2.2,hW.1,hW.2.1,hW.2.2,hQ.1,hQ.2.1,hQ.2.2,hR.1,hR.2.1,hR.2.2.1,hR.2.2.2,aM]
     refine⟨fun h=>absurd rfl h,fun _=>?_⟩
     repeat refine⟨by omega,?_⟩
     refine aj hH ?_
     simp only[↓zq,zs,ac,zt]
     refine aj hvh ?_
     simp only[vh,↓zq,zs,ac,zt,bf,aW]
     refine⟨by simp[cN],fun h=>by simp at h,fun _=>⟨fun h=>by simp at h,fun _=>⟨fun h=>by simp at h,fun _=>⟨fun h=>by simp at h,fun _=>?_⟩⟩⟩⟩
     repeat refine⟨by omega,?_⟩
     refine aj hvi ?_
     simp only[vh,↓zq,zs,ac,zt]
     refine⟨fun h=>by simp at h,fun _=>?_⟩
     repeat refine⟨by omega,?_⟩
     have i1:=EY m z (by omega) (.list [x,a,b]) env (.rc t1) A hz s v
     unfold Q8 at i1
     simp only[bM]at i1
     refine aj i1 ?_
     simp only[↓zq,zs,ac,zt,aM]
     repeat refine⟨by omega,?_⟩
     refine aj (EY m y (by omega) b _ t1 A' hy a.at (cX (.rc t1) z v)) ?_
     simp only[↓zq,zs,ac,zt,aM]
     repeat refine⟨by omega,?_⟩
     refine aj (wR _ _) ?_
     simp only[↓zq,zs,ac,zt,aM]
     repeat refine⟨by omega,?_⟩
     exact⟨rfl,rfl⟩
  ·cases e with
   |atom s0=>exact atomCase _ rfl (sa _ _ _)
   |list l=>exact absurd hq (by rw[show (E.list l).at=[] from rfl,kU A.wf];simp)
end Go.Proofs.Trees
namespace Go.Proofs.Trees
open Go Go.VL Go.RowKit
abbrev Mq:Ob:=.cells [.v (.string (mk [])),.v (.slice none 0 0),.v (.string (mk []))]
theorem ZT.le{s d:Nm}{a:Ty}{x A B:E}{D:Ty}(z:ZT s d a x A B D):pj s=some (.list [x,A,B]):=by
 unfold pj;rw[z.ce];simp[l4,z.hx]
theorem qV(o:Option Nm):rA o=.cD [.v (.string (mk (o.getD []))),.v (.bool o.isSome)]:=by cases o<;>rfl
theorem zJ{a:Ty}{w v:Vl}(hw:Cx a w)(hv:Fo a v):(Vl.f (cX a w v)).cE.length<=900000:=by
 have h1:=jp (Vl.f (cX a w v)) (by exact sd 100 a w v hw.ic hv.ic)
 have h2:=rO a w v
 have:=hw.nd
 have:=hv.nd
 simp only[Vl.nodes]at h1
 omega
abbrev zW(a:Ty)(w v:Vl):Option Nm:=if(Vl.f (cX a w v)).nodes<=200 then some (Vl.f (cX a w v)).cE else none
theorem RA{s d:Nm}{a:Ty}{x A B:E}{D:Ty}(z:ZT s d a x A B D)(w v:Vl)(hw:mf d w.cE 100=some w)(hv:Fo a v):an Tryz.prog 73 [.v (.string (mk s)),.v (.string (mk w.cE)),.v (.string (mk v.cE))] [] (bK (rA (zW a w v))):=by
 have hC:=z.CI hw
 have hv2:mf s v.cE 100=some v:=by rw[z.cE hv.ic hv.ty,if_pos hv.nd]
 refine QE _ _ _ ?_
 unfold Og
 refine aR (F4 s) (jN.ne _ _ (fun h=>h)) ?_
 rintro r o ⟨c,e,he,rfl,hh⟩
 rw[z.le]at hh
 obtain⟨e',he',hce⟩:=hh rfl
 cases he'
 rw[dj]at hce
 simp only[AV.agg.injEq,List.cons.injEq,AV.v.injEq,Value.string.injEq,and_true]at hce
 obtain⟨hc1,rfl⟩:=hce
 rw[z.le,hc1]
 simp only[↓zq,zs,ac,zt,aM,bM]
 repeat refine⟨by omega,?_⟩
 refine aj (LG s) ?_
 rw[qV,z.dl]
 simp only[↓zq,zs,ac,zt,aZ,cz]
 refine⟨fun h=>by simp at h,fun _=>⟨fun h=>by simp at h,fun _=>?_⟩⟩
 refine aj (z6 d w.cE 100) ?_
 rw[hw]
 simp only[↓zq,zs,ac,aZ]
 refine⟨fun h=>by simp at h,fun _=>?_⟩
 refine aj (z6 s v.cE 100) ?_
 rw[hv2]
 simp only[↓zq,zs,ac,aZ]
 refine⟨fun h=>by simp at h,fun _=>?_⟩
 have hP:=P3.of x A B
 have rd:∀q:Vl,q.ic 100->q.nodes<=200->∀{Q:AV->List Ob->Prop},(∀o,Q (.cD [.agg [.v (.string (mk q.cL.at)),q.cL.sp],.v (.bool true)]) o)->∀r o,jN ((sw q.cE).map Vl.cL) (sw q.cE).isSome r o->Q r o:=by
  intro q hu hn Q hQ r o
  rw[qX hu hn]
  rintro⟨c,e,he,rfl,hh⟩
  obtain⟨e',he',hce⟩:=hh rfl
  cases he'
  rw[dj]at hce
  rw[hce]
  exact hQ o
 refine aR (Ds w.cE) (jN.ne _ _ (fun h=>by simpa using h)) (rd w hC.ic hC.nd fun o=>?_)
 simp only[↓zq,zs,ac,zt,aM]
 repeat refine⟨by omega,?_⟩
 refine aR (Ds v.cE) (jN.ne _ _ (fun h=>by simpa using h)) (rd v hv.ic hv.nd fun o=>?_)
 simp only[toNat_one,bh,↓zq,zs,ac,zt,hP.1,hP.2.1,hP.2.2.1,hP.2.2.2,aM,aY]
 repeat refine⟨by omega,?_⟩
 refine aj (EY w.nodes w (au _) B _ a z.body hC.ok A.at v) ?_
 simp only[↓zq,zs,ac,zt,aM]
 repeat refine⟨by omega,?_⟩
 refine aj (wR _ _) ?_
 simp only[↓zq,zs,ac,zt,aM]
 repeat refine⟨by omega,?_⟩
 have htx:=C0 (Vl.f (cX a w v)).cL (mW _) (zJ hC hv)
 rw[dj]at htx
 simp only[Vl.cL,bM]at htx
 refine aj htx ?_
 simp only[↓zq,zs,ac,zt]
 refine aj (z6 s (Vl.f (cX a w v)).cE 100) ?_
 rw[z.cE (w:=Vl.f (cX a w v)) (by exact sd 100 a w v hC.ic hv.ic) (hC.ty v hv.ty)]
 unfold zW
 by_cases hn:(Vl.f (cX a w v)).nodes<=200
 ·rw[if_pos hn,if_pos hn]
  simp only[↓zq,zs,ac,aZ]
  exact⟨fun h=>by simp at h,fun _=>⟨rfl,rfl⟩⟩
 ·rw[if_neg hn,if_neg hn]
  simp only[↓zq,zs,ac,bu]
  exact⟨fun _=>⟨rfl,rfl⟩,fun h=>by simp at h⟩
theorem nS{d:Nm}:∀{p:List Nm} {l:List Vl},eE d p=some l->p=l.map (·.cE)->∀c,c∈l->mf d c.cE 100=some c
 |[],l,h,_,c,hc=>by cases h;cases hc
 |
  q::r,l,h,hp,c,hc=>by
  simp only[eE]at h
  split at h
  ·rename_i w l' h1 h2
   cases h
   simp only[bE,List.cons.injEq]at hp
   rcases aJ.1 hc with rfl|hc
   ·rw[<-hp.1];exact h1
   ·exact nS h2 hp.2 c hc
  ·cases h
structure St(s d:Nm)(a:Ty)(l:List Vl)(v:Vl):Prop where
 z:∃x A B D,ZT s d a x A B D
 i:ZI a l v
 each:∀c,c∈l->mf d c.cE 100=some c
 len:l.length<=50
def zM(s:Nm)(pa:AV)(a:Ty)(l:List Vl)(v:Vl):AV:=match l.getLast? with
 |none=>.cD [.agg [.v (.string (mk s)),pa,.v (.string (mk v.cE))],.v (.bool false)]
 |some c=>.cD [.agg [.v (.string (mk s)),.sl (bP (l.dropLast.map (·.cE))),.v (.string (mk ((zW a c v).getD [])))],.v (.bool (zW a c v).isSome)]
theorem Ru{s d:Nm}{a:Ty}{l:List Vl}{v:Vl}(h:St s d a l v)(pa:AV)(hp:cH pa (l.map (·.cE))):an Tryz.prog 43 [.agg [.v (.string (mk s)),pa,.v (.string (mk v.cE))]] [] (bK (zM s pa a l v)):=by
 refine PH _ _ _ hp.1 ?_
 unfold MN
 have hlen:=h.len
 simp only[↓zq,zs,ac,zt,hp.len,cr,ku]
 unfold zM
 refine⟨hp.1,fun h0=>?_,fun h0=>?_⟩
 ·have:l=[]:=bG (by omega)
  subst this
  exact⟨rfl,rfl⟩
 ·have hpos:0<l.length:=by omega
  have hne:l≠[]:=by rintro rfl;simp at hpos
  rw[wrap64 ((l.length:Int)-1) (by omega) (by omega)]
  have e1:((l.length:Int)-1).toNat=l.length-1:=by omega
  have hlt:l.length-1<(l.map (·.cE)).length:=by rw[cr];omega
  have hlt':l.length-1<l.length:=by omega
  have hlast:l.getLast?=some (l[l.length-1]):=by rw[List.getLast?_eq_some_getLast hne,List.getLast_eq_getElem]
  rw[hlast]
  have hm:=bD hlt'
  have hg:(l.map (·.cE)).getD (l.length-1) []=(l[l.length-1]).cE:=by rw[aa,bp hlt,List.getElem_map];rfl
  obtain⟨x,A,B,D,z⟩:=h.z
  rw[e1,hp.idx hlt,hg]
  generalize l[l.length-1]=c at *
  simp only[↓zq,zs,ac,zt]
  refine⟨⟨hp.1,by omega⟩,by omega,?_⟩
  refine aj (RA z c v (h.each c hm) h.i.nH) ?_
  rw[qV]
  simp only[↓zq,zs,ac,zt]
  refine⟨⟨hp.1,by omega⟩,⟨fun y hy=>?_,?_⟩,?_,rfl⟩
  ·rw[hp.2]at hy
   have:=List.mem_of_mem_take hy
   obtain⟨t,_,rfl⟩:=bO.1 this
   rfl
  ·rw[hp.2];simp[bP];omega
  ·have:pa.aP.take (l.length-1)=bP (l.dropLast.map (·.cE)):=by
    rw[hp.2,List.dropLast_eq_take,List.map_take];simp[bP,List.map_take]
   rw[this];rfl
theorem St.up{s d:Nm}{a:Ty}{l l':List Vl}{v w:Vl}(h:St s d a l v)(hu:qE a l v=some (l',w)):St s d a l' w:=by
 obtain⟨h1,h2,c,h3,_⟩:=rY h.i hu
 have hl:=h.len
 exact⟨h.z,h1,fun c' hc'=>h.each c' (by rw[h3];exact aD _ hc'),by omega⟩
theorem Ag{s:Nm}{pa:AV}{a:Ty}{l l':List Vl}{v w:Vl}(hu:qE a l v=some (l',w)):zM s pa a l v=.cD [.agg [.v (.string (mk s)),.sl (bP (l'.map (·.cE))),.v (.string (mk w.cE))],.v (.bool true)]:=by
 unfold qE at hu
 unfold zM
 cases q:l.getLast? with
 |none=>rw[q]at hu;cases hu
 |
  some c =>
  rw[q]at hu
  simp only at hu |-
  unfold zW
  split at hu
  ·rename_i hn
   cases hu
   rw[if_pos hn];rfl
  ·cases hu
theorem zC{s:Nm}{pa:AV}{a:Ty}{l:List Vl}{v:Vl}(hpa:LK.sl.has pa)(hu:qE a l v=none):∃p f,LK.sl.has p/\zM s pa a l v=.cD [.agg [.v (.string (mk s)),p,.v (.string (mk f))],.v (.bool false)]:=by
 unfold qE at hu
 unfold zM
 cases q:l.getLast? with
 |none=>exact⟨_,_,hpa,rfl⟩
 |
  some c =>
  rw[q]at hu
  simp only at hu |-
  unfold zW
  split at hu
  ·cases hu
  ·rename_i hn
   rw[if_neg hn];exact⟨_,_,(cg _).mpr trivial,rfl⟩
def Fx(s:Nm)(o:Option Vl):Nat->List AV->List Ob->Prop:=fun k ys ob=>match o with
 |some w=>k=1/\ys=[]/\∃pa,LK.sl.has pa/\ob=[.cells [.v (.string (mk s)),pa,.v (.string (mk w.cE))],Mq]
 |none=>k=2/\ys=[.v (.bool false)]/\∃pa f,LK.sl.has pa/\ob=[.cells [.v (.string (mk s)),pa,.v (.string (mk f))]]
theorem Ks(s d:Nm)(a:Ty):∀(n:Nat) (l:List Vl) (v:Vl) (pa:AV),l.length=n->St s d a l v->cH pa (l.map (·.cE))->FK [] [.cells [.v (.string (mk s)),pa,.v (.string (mk v.cE))],Mq] (Fx s (iO n a l v))
 |
  0,l,v,pa,hl,h,hp=>by
  refine N5 _ _ _ _ _ _ ?_
  simp only[Gg,↓zq,zs,ac,zt,ac,bg,hp.len,cr,hl,iO]
  refine⟨hp.1,hp.1,fun h=>by omega,fun _=>?_⟩
  exact⟨rfl,rfl,pa,hp.1,rfl⟩
 |
  n+1,l,v,pa,hl,h,hp=>by
  refine N5 _ _ _ _ _ _ ?_
  simp only[Gg,↓zq,zs,ac,zt,ac,bg,hp.len,cr,hl]
  refine⟨hp.1,hp.1,fun _=>?_,fun h=>by omega⟩
  refine aj (Ru h pa hp) ?_
  rw[iO]
  cases q:qE a l v with
  |
   none =>
   obtain⟨p',f',h1,h2⟩:=zC (s:=s) hp.1 q
   rw[h2]
   simp only[↓zq,zs,ac,zt,bF,bH]
   exact⟨h1,fun _=>⟨rfl,rfl,pa,v.cE,hp.1,rfl⟩,fun h=>by simp at h⟩
  |
   some r =>
   obtain⟨l',w⟩:=r
   obtain⟨_,hlen,_⟩:=rY h.i q
   rw[Ag q]
   simp only[↓zq,zs,ac,zt,bF,a7,cg]
   refine⟨fun h=>by simp at h,fun _=>?_⟩
   exact Ks s d a n l' w _ (by omega) (h.up q) (cH.of _)
def Ck(o:Option Vl):AV->List Ob->Prop:=fun r ob=>ob=[]/\∃c0 pa c2,LK.sl.has pa/\r=.cD [.agg [.v (.string c0),pa,.v (.string c2)],.v (.bool o.isSome)]/\∀w,o=some w->c2=mk w.cE
theorem Ck.ne(o:Option Vl):∃r ob,Ck o r ob:=⟨_,[],rfl,mk [],.sl [],mk ((o.map (·.cE)).getD []),(cg _).mpr trivial,rfl,fun w h=>by rw[h];rfl⟩
theorem JR{s d:Nm}{a:Ty}{l:List Vl}{v:Vl}(h:St s d a l v)(pa:AV)(hp:cH pa (l.map (·.cE))):an Tryz.prog 70 [.agg [.v (.string (mk s)),pa,.v (.string (mk v.cE))]] [] (Ck (sG a l v)):=by
 refine Sn _ _ _ hp.1 ?_
 unfold LU
 have hloop:=Ks s d a l.length l v pa rfl h hp
 refine lj hloop (fun ys o e=>?_) (fun ys o e=>?_)
 ·unfold Fx at e
  unfold sG
  cases q:iO l.length a l v with
  |none=>rw[q]at e;exact absurd e.1 (by decide)
  |
   some w =>
   rw[q]at e
   obtain⟨_,rfl,p',h1,rfl⟩:=e
   simp only[↓zq,zs,ac,zt,ac,bg]
   exact⟨h1,rfl,_,_,_,h1,rfl,fun w' h=>by cases h;rfl⟩
 ·unfold Fx at e
  unfold sG
  cases q:iO l.length a l v with
  |some w=>rw[q]at e;exact absurd e.1 (by decide)
  |
   none =>
   rw[q]at e
   obtain⟨_,rfl,p',f',h1,rfl⟩:=e
   simp only[↓zq,zs,ac,zt,ac]
   exact⟨h1,rfl,_,_,_,h1,rfl,fun w' h=>by cases h⟩
theorem Le(s d f:Nm)(pa:AV)(p:List Nm)(hp:cH pa p)(hl:p.length<=50):∀(k i:Nat),i+k=p.length->II [.v (.string (mk d)),.v (.int .i64 (i:Int))] [.cells [.v (.string (mk s)),pa,.v (.string (mk f))]] (py (if(eE d (p.drop i)).isSome=true then(1,[],[])else(2,[.v (.bool false)],[])))
 |
  0,i,hi=>by
  refine KF _ _ _ _ _ ?_
  have:i=p.length:=by omega
  subst this
  simp only[HL,↓zq,zs,ac,zt,ac,hp.len,List.drop_length]
  exact⟨hp.1,hp.1,fun h=>by omega,fun _=>rfl⟩
 |
  k+1,i,hi=>by
  have hlt:i<p.length:=by omega
  have hd:p.drop i=p.getD i []::p.drop (i+1):=by rw[aU hlt];simp[aa,hlt]
  refine KF _ _ _ _ _ ?_
  simp only[HL,↓zq,zs,ac,zt,ac,hp.len,hp.idx hlt,bN]
  refine⟨hp.1,hp.1,fun _=>⟨⟨hp.1,by omega,by omega⟩,by omega,?_⟩,fun h=>by omega⟩
  refine aj (z6 d (p.getD i []) 100) ?_
  rw[hd,eE]
  simp only[↓zq,zs,ac]
  cases q:mf d (p.getD i []) 100 with
  |
   none =>
   simp only[bu]
   exact⟨fun _=>rfl,fun h=>by simp at h⟩
  |
   some w =>
   simp only[aZ]
   refine⟨fun h=>by simp at h,fun _=>?_⟩
   rw[bA i (by omega)]
   have ih:=Le s d f pa p hp hl k (i+1) (by omega)
   cases q2:eE d (p.drop (i+1))with
   |none=>rw[q2]at ih;exact ih
   |some l=>rw[q2]at ih;exact ih
theorem uB(s:Nm)(p:List Nm)(f:Nm):sE s p f=(cI s).bind fun d=>(kJ s).bind fun _=>(mf s f 100).bind fun v=>if p.length<=50 then(eE d p).map fun l=>(l,v)else none:=by
 unfold sE qy
 cases kJ s with
 |none=>cases cI s<;>rfl
 |some a=>cases mf s f 100<;>cases cI s<;>rfl
theorem R6(s:Nm)(pa:AV)(p:List Nm)(hp:cH pa p)(f:Nm):an Tryz.prog 72 [.agg [.v (.string (mk s)),pa,.v (.string (mk f))]] [] (bK (.v (.bool (sE s p f).isSome))):=by
 refine Sg _ _ _ hp.1 ?_
 unfold K6
 refine aj (LG s) ?_
 rw[qV]
 simp only[↓zq,zs,ac,zt]
 refine aR (F4 s) (jN.ne _ _ (fun h=>h)) ?_
 rintro r o ⟨c,e,he,rfl,_⟩
 rw[AQ]
 simp only[↓zq,zs,ac,zt,bF,hp.len]
 rw[uB]
 refine⟨he,fun h=>?_,fun h=>⟨fun h'=>?_,fun h'=>⟨hp.1,fun h''=>?_,fun h''=>?_⟩⟩⟩
 ·have:cI s=none:=by cases q:cI s with|none=>rfl|some d=>simp[q]at h
  rw[this]
  exact⟨rfl,rfl⟩
 ·have:kJ s=none:=by cases q:kJ s with|none=>rfl|some d=>simp[q]at h'
  rw[this]
  cases cI s<;>exact⟨rfl,rfl⟩
 ·simp only[if_neg (show ¬p.length<=50 by omega)]
  exact⟨by cases cI s<;>cases kJ s<;>cases mf s f 100<;>rfl,rfl⟩
 ·obtain⟨d,hd⟩:∃d,cI s=some d:=by cases q:cI s with|none=>simp[q]at h|some d=>exact⟨d,rfl⟩
  obtain⟨a,ha⟩:∃a,kJ s=some a:=by cases q:kJ s with|none=>simp[q]at h'|some d=>exact⟨d,rfl⟩
  rw[hd,ha]
  refine aj (z6 s f 100) ?_
  simp only[↓zq,zs,ac]
  cases q:mf s f 100 with
  |none=>simp only[bu];exact⟨fun _=>⟨rfl,rfl⟩,fun h=>by simp at h⟩
  |
   some v =>
   simp only[aZ,cz,a7]
   refine⟨fun h=>by simp at h,fun _=>?_⟩
   have hl:p.length<=50:=by omega
   have hloop:=Le s d f pa p hp hl p.length 0 (by omega)
   rw[be]at hloop
   rw[if_pos hl]
   refine fI hloop (fun ys o e=>?_) (fun ys o e=>?_)
   ·cases q2:eE d p with
    |none=>rw[q2]at e;cases e
    |some l=>exact⟨rfl,rfl⟩
   ·cases q2:eE d p with
    |none=>rw[q2]at e;cases e;simp only[↓zq,zs,ac];exact⟨rfl,rfl⟩
    |some l=>rw[q2]at e;cases e
theorem wI{s:Nm}{p:List Nm}{f:Nm}{l:List Vl}{v:Vl}(h:sE s p f=some (l,v)):∃d,St s d (zA s) l v/\p=l.map (·.cE)/\f=v.cE:=by
 obtain⟨d,a,x,A,B,D,z,hz,hp,hf,hl,hza,_,hr⟩:=mS h
 rw[hza]
 exact⟨d,⟨⟨x,A,B,D,z⟩,hz,nS hr hp,by rw[hp]at hl;simpa using hl⟩,hp,hf⟩
theorem CS(s:Nm)(pa:AV)(p:List Nm)(hp:cH pa p)(f:Nm):an Tryz.prog 41 [.agg [.v (.string (mk s)),pa,.v (.string (mk f))]] [] (bK (.v (.bool (gm s p f).isSome))):=by
 refine Ra _ _ _ hp.1 ?_
 unfold Kd
 refine aj (R6 s pa p hp f) ?_
 simp only[↓zq,zs,ac]
 unfold gm
 cases q:sE s p f with
 |none=>simp only[bu];exact⟨fun _=>⟨rfl,rfl⟩,fun h=>by simp at h⟩
 |
  some r =>
  obtain⟨l,v⟩:=r
  obtain⟨d,hs,rfl,rfl⟩:=wI q
  simp only[aZ,a7]
  refine⟨fun h=>by simp at h,fun _=>?_⟩
  refine aR (JR hs pa hp) (Ck.ne _) ?_
  rintro r o ⟨rfl,c0,p',c2,h1,rfl,_⟩
  simp only[↓zq,zs,ac,zt,bF]
  refine⟨h1,?_,rfl⟩
  congr 2
  cases sG (zA s) l v<;>rfl
end Go.Proofs.Trees
namespace Go.Proofs.Trees
open Go Go.VL Go.RowKit
inductive Rl(x:Nm):Nat->Tg->Tg->Prop
 |nm (i):Rl x i (.nm x) (.bd i)
 |kK (i s) (h:s≠x):Rl x i (.nm s) (.nm s)
 |bd (i j) (h:j≠i):Rl x i (.bd j) (.bd j)
theorem Rl.up{x:Nm}{i:Nat}{a b:Tg}(h:Rl x i a b):Rl x (i+1) a.up b.up:=by
 cases h with
 |nm=>exact .nm _
 |kK s h=>exact .kK _ _ h
 |bd j h=>exact .bd _ _ (by omega)
theorem Rl.at{x:Nm}{i:Nat}{a b:Tg}(h:Rl x i a b):∀t:Ty,bn x t=false->eD (dA (.name x) t i) a=eD t b
 |
  .bT k,_=>by
  simp only[dA]
  cases h with
  |
   nm =>
   by_cases e:k=i
   ·simp[e,eD]
   ·simp[e,eD]
  |
   kK s h =>
   by_cases e:k=i
   ·simp[e,eD,Ne.symm h]
   ·simp[e,eD]
  |
   bd j h =>
   by_cases e:k=i
   ·simp[e,eD,Ne.symm h]
   ·simp[e,eD]
 |
  .name s,hn=>by
  have hs:s≠x:=by simpa[bn]using hn
  cases h with
  |nm=>simp[dA,eD,hs]
  |kK=>rfl
  |bd=>rfl
 | .plus _ _,_=>by cases h<;>rfl
 | .times _ _,_=>by cases h<;>rfl
 | .rc _,_=>by cases h<;>rfl
 | .zero,_=>by cases h<;>rfl
 | .one,_=>by cases h<;>rfl
theorem gW(x:Nm):∀(n:Nat) (t:Ty) (i:Nat) (a b:Tg) (v:Vl),bn x t=false->Rl x i a b->dE n (dA (.name x) t i) a v=dE n t b v
 |0,_,_,_,_,_,_,_=>rfl
 |
  n+1,t,i,a,b,v,hn,h=>by
  rw[dE,dE,h.at t hn]
  by_cases ht:eD t b=true
  ·rw[if_pos ht,if_pos ht]
  ·rw[if_neg ht,if_neg ht]
   cases t with
   |
    plus p q =>
    simp only[bn,cj]at hn
    cases v<;>simp only[dA,i7,gW x n p i a b _ hn.1 h,gW x n q i a b _ hn.2 h]
   |
    times p q =>
    simp only[bn,cj]at hn
    cases v<;>simp only[dA,i7,gW x n p i a b _ hn.1 h,gW x n q i a b _ hn.2 h]
   |
    rc p =>
    have h0:Rl x (i+1) (.bd 0) (.bd 0):=.bd _ _ (by omega)
    cases v<;>simp only[dA,i7]
    rename_i w
    rw[gW x n p (i+1) a.up b.up w hn h.up,gW x n p (i+1) (.bd 0) (.bd 0) w hn h0]
    congr 1
    apply iT
    intro k _
    have:=gW x n (.rc p) i a b k.2 hn h
    simp only[dA]at this
    rw[this]
   |
    bT k =>
    simp only[dA]
    by_cases e:k=i
    ·rw[if_pos e];cases v<;>rfl
    ·rw[if_neg e];cases v<;>rfl
   |name s=>rfl
   |zero=>rfl
   |one=>rfl
theorem n7(x:Nm){t:Ty}{i:Nat}{a b:Tg}(v:Vl)(hn:bn x t=false)(h:Rl x i a b):cm (dA (.name x) t i) a v=cm t b v:=gW x _ t i a b v hn h
theorem mD(n:Nat):∀(m:Nat) (v:Vl),v.nodes<=m->∀(t:Ty) (s:Nm) (d:Ty) (σ:Nm->Option Ty),Dv t s d->CJ σ->jC t 0->vT n v (eT σ t)=true->∀h,h∈cm t (.nm s) v ->
 vT n h.1 (eT σ d)=true/\vT n h.2 (eT σ (.name s))=true/\cX t h.1 h.2=v
 |0,v,hm=>by have:=dw v;omega
 |
  m+1,v,hm=>by
  intro t s d σ hd hσ hl hv h hh
  cases hd with
  |zero=>rw[dU rfl (by cases v<;>rfl)]at hh;cases hh
  |one=>rw[dU rfl (by cases v<;>rfl)]at hh;cases hh
  |bT=>rw[dU rfl (by cases v<;>rfl)]at hh;cases hh
  |qF hne=>rw[dU (by simp[eD,hne]) (by cases v<;>rfl)]at hh;cases hh
  |
   hit =>
   rw[mI v (by simp[eD])]at hh
   simp only[aS]at hh
   subst hh
   exact⟨rfl,hv,kT _ _ _⟩
  |
   @plus a b _ a' b' h1 h2 _ =>
   rcases jk hv with⟨w,rfl,hw⟩|⟨w,rfl,hw⟩
   ·simp only[Vl.nodes]at hm
    rw[nA]at hh
    obtain⟨k,hk,rfl⟩:=cZ hh
    obtain⟨q1,q2,q3⟩:=mD n m w (by omega) _ s _ σ h1 hσ hl.1 hw k hk
    exact⟨q1,q2,congrArg Vl.l q3⟩
   ·simp only[Vl.nodes]at hm
    rw[nu]at hh
    obtain⟨k,hk,rfl⟩:=cZ hh
    obtain⟨q1,q2,q3⟩:=mD n m w (by omega) _ s _ σ h2 hσ hl.2 hw k hk
    exact⟨q1,q2,congrArg Vl.r q3⟩
  |
   @times a b _ a' b' h1 h2 _ =>
   obtain⟨x,y,rfl,hx,hy⟩:=gy hv
   simp only[Vl.nodes]at hm
   rw[nl]at hh
   rcases aO.1 hh with hh|hh
   ·obtain⟨k,hk,rfl⟩:=cZ hh
    obtain⟨q1,q2,q3⟩:=mD n m x (by omega) _ s _ σ h1 hσ hl.1 hx k hk
    refine⟨?_,q2,congrArg (fun q=>Vl.p q y) q3⟩
    show (vT n k.1 (eT σ a')&&vT n y (eT σ b))=true
    rw[q1,hy];rfl
   ·obtain⟨k,hk,rfl⟩:=cZ hh
    obtain⟨q1,q2,q3⟩:=mD n m y (by omega) _ s _ σ h2 hσ hl.2 hy k hk
    refine⟨?_,q2,congrArg (Vl.p x) q3⟩
    show (vT n x (eT σ a)&&vT n k.1 (eT σ b'))=true
    rw[q1,hx];rfl
  |
   @rc a _ c0 d0 x hx hs h1 h2 hsz =>
   have lo:jC (dA (.name x) a 0) 0:=gO x a hl
   obtain⟨X,e1,e2⟩:=oW (x:=x) hσ hl (h1.lc lo) (h2.lc lo)
   obtain⟨w,rfl,hw⟩:=Bt hv
   simp only[Vl.nodes]at hm
   have hcl:=lG hσ x (j2 hσ (.rc a) hl)
   have hop:eT (iV σ x (eT σ (.rc a))) (dA (.name x) a 0)=dA (eT σ (.rc a)) (eT σ a) 0:=jJ hσ x _ a 0 hx
   have hns:eT (iV σ x (eT σ (.rc a))) (.name s)=eT σ (.name s):=by simp only[eT,iV,if_neg (Ne.symm hs)]
   have hnx:eT (iV σ x (eT σ (.rc a))) (.name x)=eT σ (.rc a):=by simp[eT,iV]
   have hw':vT n w (eT (iV σ x (eT σ (.rc a))) (dA (.name x) a 0))=true:=by rw[hop];exact hw
   have ty:∀y,vT n y (dA (.rc X) X 0)=true->vT n (.f y) (eT σ (pH a x c0 d0))=true:=fun y hy=>by rw[e1];exact hy
   rw[nr]at hh
   rcases aO.1 hh with hh|hh
   ·obtain⟨k,hk,rfl⟩:=cZ hh
    have hk':k∈cm (dA (.name x) a 0) (.nm s) w:=by rw[n7 x w hx (.kK 0 s (Ne.symm hs))];exact hk
    obtain⟨q1,q2,q3⟩:=mD n m w (by omega) _ s _ _ h1 hcl lo hw' k hk'
    rw[dK x k.1.nodes k.1 a 0 k.2 (au _)]at q3
    refine⟨ty _ ?_,by rw[<-hns];exact q2,congrArg Vl.f q3⟩
    rw[e2];exact q1
   ·obtain⟨k,hk,hh⟩:=List.mem_flatMap.1 hh
    obtain⟨k2,hk2,rfl⟩:=cZ hh
    have hk':k∈cm (dA (.name x) a 0) (.nm x) w:=by rw[n7 x w hx (.nm 0)];exact hk
    obtain⟨q1,q2,q3⟩:=mD n m w (by omega) _ x _ _ h2 hcl lo hw' k hk'
    rw[dK x k.1.nodes k.1 a 0 k.2 (au _)]at q3
    rw[hnx]at q2
    have hsz2:=(iE hk).1
    obtain⟨r1,r2,r3⟩:=mD n m k.2 (by omega) (.rc a) s _ σ (.rc x hx hs h1 h2 hsz) hσ hl q2 k2 hk2
    refine⟨ty _ ?_,r2,?_⟩
    ·rw[e2]
     show (vT n k.1 _&&vT n k2.1 _)=true
     rw[q1,r1];rfl
    ·show Vl.f (cX a k.1 (cX (.rc a) k2.1 k2.2))=.f w
     rw[r3,q3]
theorem C6{n:Nat}{a D:Ty}{x:Nm}(hx:bn x a=false)(hl:jC (.rc a) 0)(h:oi a x=some D){v:Vl}(hv:vT n v (.rc a)=true){k:Hl}(hk:k∈kids a v) :
 vT n k.1 D=true/\vT n k.2 (.rc a)=true/\.f (cX a k.1 k.2)=v:=by
 simp only[oi,bi,cR,eS]at h
 obtain⟨d,hd,_,rfl⟩:=h
 have lo:jC (dA (.name x) a 0) 0:=gO x a hl
 have hcl:=lG rU x hl
 have e1:sub x (.rc a) d=eT (iV Eu x (.rc a)) d:=by
  have:=ir Eu x (.rc a) d
  rw[iS,iS]at this;exact this
 obtain⟨w,rfl,hw⟩:=Bt hv
 have hk':k∈cm (dA (.name x) a 0) (.nm x) w:=by rw[n7 x w hx (.nm 0)];exact hk
 have hop:eT (iV Eu x (.rc a)) (dA (.name x) a 0)=dA (.rc a) a 0:=by rw[jJ rU x _ a 0 hx,iS]
 obtain⟨q1,q2,q3⟩:=mD n w.nodes w (au _) _ x _ _ hd hcl lo (by rw[hop];exact hw) k hk'
 rw[dK x k.1.nodes k.1 a 0 k.2 (au _)]at q3
 refine⟨by rw[e1];exact q1,?_,congrArg Vl.f q3⟩
 simpa[eT,iV]using q2
theorem ia:∀{t:Ty},cc t=true->∃y,bn y t=true/\dk y=true
 | .name s,h=>⟨s,by simp[bn],h⟩
 |
  .plus a b,h=>by
  simp only[cc,bC]at h
  rcases h with h|h
  ·obtain⟨y,h1,h2⟩:=ia h;exact⟨y,by simp[bn,h1],h2⟩
  ·obtain⟨y,h1,h2⟩:=ia h;exact⟨y,by simp[bn,h1],h2⟩
 |
  .times a b,h=>by
  simp only[cc,bC]at h
  rcases h with h|h
  ·obtain⟨y,h1,h2⟩:=ia h;exact⟨y,by simp[bn,h1],h2⟩
  ·obtain⟨y,h1,h2⟩:=ia h;exact⟨y,by simp[bn,h1],h2⟩
 |
  .rc a,h=>by
  obtain⟨y,h1,h2⟩:=ia (t:=a) h;exact⟨y,by simp[bn,h1],h2⟩
theorem ii:∀{t:Ty} {y:Nm},bn y t=true->dk y=true->cc t=true
 |
  .name s,y,h,hl=>by
  have:s=y:=by simpa[bn]using h
  rw[this];exact hl
 |
  .plus a b,y,h,hl=>by
  simp only[bn,bC]at h
  simp only[cc,bC]
  exact h.imp (ii · hl) (ii · hl)
 |
  .times a b,y,h,hl=>by
  simp only[bn,bC]at h
  simp only[cc,bC]
  exact h.imp (ii · hl) (ii · hl)
 | .rc a,y,h,hl=>ii (t:=a) h hl
 | .zero,y,h,_=>by simp[bn]at h
 | .one,y,h,_=>by simp[bn]at h
 | .bT k,y,h,_=>by simp[bn]at h
theorem ZT.Tj{s d:Nm}{a:Ty}{x A B:E}{D:Ty}(z:ZT s d a x A B D):∃e,jL d=some e/\Ask e [] D:=by
 have hcl:cc D=false:=by
  cases q:cc D with
  |false=>rfl
  |
   true =>
   obtain⟨y,h1,h2⟩:=ia q
   have:=ii (t:=.rc a) (tb z.lp y h1) h2
   rw[z.ask.cl]at this;cases this
 have hc:wT d=some D:=by unfold wT;rw[z.bk];simp only;rw[if_pos (by rw[tj,hcl];rfl)]
 cases q:jL d with
 |none=>rw[ni q]at hc;cases hc
 |
  some e =>
  obtain⟨t,h1,hA,_⟩:=gZ q
  rw[hc]at h1;cases h1
  exact⟨e,rfl,hA⟩
theorem ZT.So{s d:Nm}{a:Ty}{x A B:E}{D:Ty}(z:ZT s d a x A B D){w:Vl}(hb:w.ic 100)(hv:vT 100 w D=true):mf d w.cE 100=if w.nodes<=200 then some w else none:=by
 obtain⟨e,he,hA⟩:=z.Tj
 unfold mf
 rw[he]
 by_cases hn:w.nodes<=200
 ·rw[qX hb hn,if_pos hn]
  simp only
  rw[if_pos ⟨by omega,by rw[show (100:Int).toNat=100 from rfl,nq hA];exact hv⟩]
 ·rw[if_neg hn]
  cases q:sw w.cE with
  |none=>rfl
  |
   some w' =>
   exfalso
   obtain⟨_,h2,h3⟩:=lT q
   have:=tS hb h2 (qJ q)
   rw[this]at hn;exact hn h3
theorem ZT.PA{s d:Nm}{a:Ty}{x A B:E}{D:Ty}(z:ZT s d a x A B D){v:Vl}(hv:Fo a v){k:Hl}(hk:k∈kids a v):vT 100 k.1 D=true/\Fo a k.2/\.f (cX a k.1 k.2)=v:=by
 obtain⟨e2,he2,hw2,hte2,_,_⟩:=nQ z.y
 have hlc:jC (.rc a) 0:=hte2 ▸ hw2.qI.1
 obtain⟨q1,q2,q3⟩:=C6 (uL z.y) hlc z.lp hv.ty hk
 have:=yK hk
 have:=hv.nd
 exact⟨q1,⟨q2,(lr hv.ic hk).2,by omega⟩,q3⟩
def uZ(a:Ty)(l:List Vl)(v:Vl)(k:Int):Option (List Vl×Vl) :=
 if l.length=50 then none else if 0<=k/\k.toNat<(kids a v).length then
  (if((kids a v).getD k.toNat (.u,.u)).1.nodes<=200 then some (l++[((kids a v).getD k.toNat (.u,.u)).1],((kids a v).getD k.toNat (.u,.u)).2)else none)else none
theorem vM{a:Ty}{l:List Vl}{c e v:Vl}(h:.f (cX a c e)=v)(hn:v.nodes<=200):qE a (l++[c]) e=some (l,v)/\sG a (l++[c]) e=sG a l v:=by
 have hu:qE a (l++[c]) e=some (l,v):=by
  unfold qE
  rw[List.getLast?_concat]
  simp only
  rw[h,if_pos hn,List.dropLast_concat]
 refine⟨hu,?_⟩
 unfold sG
 rw[aq,List.length_singleton,iO,hu]
 rfl
theorem Ar{s d:Nm}{l:List Vl}{v:Vl}(hs:St s d (zA s) l v)(hd:cI s=some d)(hv:gm s (l.map (·.cE)) v.cE=some (l,v)){k:Hl}(hk:k∈kids (zA s) v) :
 gm s (l.map (·.cE)++[k.1.cE]) k.2.cE=if l.length=50 then none else if k.1.nodes<=200 then some (l++[k.1],k.2)else none:=by
 obtain⟨x,A,B,D,z⟩:=hs.z
 obtain⟨t1,t2,t3⟩:=z.PA hs.i.nH hk
 have hb:=(lr hs.i.nH.ic hk).1
 have hz:=(fR hv).1
 have hclo:=(fR hv).2
 have hlen:=hs.len
 have hlp:eE d (l.map (·.cE))=some l:=by
  rw[uB,hd]at hz
  simp only[a7,z.l]at hz
  obtain⟨_,h1,h2⟩:=bi.1 hz
  split at h2
  ·obtain⟨l',h3,h4⟩:=Option.map_eq_some_iff.1 h2
   cases h4;exact h3
  ·cases h2
 have e1:mf s k.2.cE 100=some k.2:=by rw[z.cE t2.ic t2.ty,if_pos t2.nd]
 unfold gm
 rw[uB,hd]
 simp only[a7,z.l,e1,tJ,hlp,eE,z.So hb t1,aq,cr,List.length_singleton]
 by_cases h50:l.length=50
 ·rw[if_neg (by omega),if_pos h50];rfl
 ·rw[if_pos (by omega),if_neg h50]
  by_cases hn:k.1.nodes<=200
  ·rw[if_pos hn,if_pos hn]
   simp only[ci,a7,(vM (l:=l) t3 hs.i.nH.nd).2]
   rw[if_pos hclo]
  ·rw[if_neg hn,if_neg hn];rfl
end Go.Proofs.Trees
namespace Go.Proofs.Trees
open Go Go.VL Go.RowKit
def O5(s:Nm)(o:Option (List Vl×Vl)):AV->List Ob->Prop:=fun r obs=>obs=[]/\∃pa,cH pa (tZ s o).2.1/\r=.cD [.agg [.v (.string (mk (tZ s o).1)),pa,.v (.string (mk (tZ s o).2.2))],.v (.bool o.isSome)]
theorem BO(s:Nm){o:Option (List Vl×Vl)}(h:GZ o):(tZ s o).2.1.length<=51:=by
 cases o with
 |none=>simp
 |some r=>obtain⟨_,_,h3⟩:=h r rfl;simpa using h3
theorem O5.ne(s:Nm)(o:Option (List Vl×Vl)):∃r ob,O5 s o r ob:=⟨_,[],rfl,_,cH.of _,rfl⟩
theorem O5.none(s:Nm):O5 s none (.cD [.agg [.v (.string (mk [])),.v (.slice none 0 0),.v (.string (mk []))],.v (.bool false)]) []:=⟨rfl,_,cH.nil,rfl⟩
theorem nv{s:Nm}{p:List Nm}{f:Nm}{l:List Vl}{v:Vl}(h:gm s p f=some (l,v)):∃d,St s d (zA s) l v/\p=l.map (·.cE)/\f=v.cE:=wI (fR h).1
abbrev QL(s:Nm)(o:Option (List Vl×Vl)):AV->List Ob->Prop:=dh (.cD [.agg [.v (.string (mk (tZ s o).1)),.vec 1,.v (.string (mk (tZ s o).2.2))],.v (.bool o.isSome)]) [.dead,.vec 1 (bP (tZ s o).2.1)]
theorem KA(s:Nm)(p:List Nm)(f:Nm):an Tryz.prog 64 [.agg [.v (.string (mk s)),.vec 0,.v (.string (mk f))]] [.vec 1 (bP p)] (QL s (gm s p f)):=by
 refine Rt _ _ _ ?_
 unfold MZ
 refine aj (CS s _ p (cH.of p) f) ?_
 simp only[↓zq,zs,ac]
 cases q:gm s p f with
 |none=>simp only[bu];exact⟨fun _=>⟨rfl,rfl⟩,fun h=>by simp at h⟩
 |
  some r =>
  obtain⟨_,_,rfl,rfl⟩:=nv (l:=r.1) (v:=r.2) q
  simp only[aZ]
  exact⟨fun h=>by simp at h,fun _=>⟨rfl,rfl⟩⟩
theorem wv(s f:Nm):gm s [] f=sE s [] f:=by
 unfold gm
 cases q:sE s [] f with
 |none=>rfl
 |
  some r =>
  obtain⟨l,v⟩:=r
  obtain⟨_,_,h,_⟩:=wI q
  have:l=[]:=List.map_eq_nil_iff.1 h.symm
  subst this
  rfl
theorem Sy(s f:Nm):an Tryz.prog 28 [.v (.string (mk s)),.v (.string (mk f))] [] (E6 s (sE s [] f)):=by
 refine Pu _ _ ?_
 unfold LM
 rw[<-wv]
 refine aX (KA s [] f) ?_
 simp only[↓zq,zs,ac,zt,aL,Ob.es,aQ,bz]
 exact⟨rfl,rfl⟩
theorem Qo(s:Nm)(pa:AV)(p:List Nm)(hp:cH pa p)(f:Nm):an Tryz.prog 37 [.agg [.v (.string (mk s)),pa,.v (.string (mk f))]] [] (bK (rA (od s p f))):=by
 refine RU _ _ _ hp.1 ?_
 unfold Ly
 refine aj (CS s pa p hp f) ?_
 simp only[↓zq,zs,ac]
 unfold od
 cases q:gm s p f with
 |none=>simp only[bu];exact⟨fun _=>⟨rfl,rfl⟩,fun h=>by simp at h⟩
 |
  some r =>
  obtain⟨l,v⟩:=r
  obtain⟨d,hs,rfl,rfl⟩:=nv q
  obtain⟨w,hw⟩:=bL.1 (fR q).2
  simp only[aZ,a7,hw,ci]
  refine⟨fun h=>by simp at h,fun _=>?_⟩
  refine aR (JR hs pa hp) (Ck.ne _) ?_
  rintro r o ⟨rfl,c0,p',c2,h1,rfl,h2⟩
  have:=h2 w hw
  subst this
  simp only[↓zq,zs,ac,zt,bF]
  exact⟨h1,rfl,rfl⟩
end Go.Proofs.Trees
