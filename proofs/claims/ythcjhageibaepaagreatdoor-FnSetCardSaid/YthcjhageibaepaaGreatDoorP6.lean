/-
  Part of a proof: Go functions read by values, trees of functions, their contracts.
-/
import Derived.Test.YthcjhageibaepaaGreatDoorP5
set_option linter.unusedVariables false
set_option linter.unusedSimpArgs false
open And renaming intro→aH
open Bool renaming and_eq_true→aw,eq_iff_iff→cA,or_eq_false_iff→cm,or_eq_true→bC,true_and→bY
open ByteArray renaming toList→af
open Int renaming tmod→dJ,toNat_natCast→bF
open List renaming all_cons→db,all_eq_true→bZ,append_assoc→a6,append_nil→cZ,cons_append→ba,drop_eq_getElem_cons→aT,drop_zero→bf,eq_nil_of_length_eq_zero→bS,flatMap_cons→cf,getD_cons_zero→bu,getD_eq_getElem?_getD→aa,getElem?_eq_getElem→bp,getElem_mem→bI,headD_cons→aL,length_append→aq,length_cons→az,length_map→ck,length_nil→aG,map_cons→bB,mem_append→aN,mem_append_left→aD,mem_append_right→aB,mem_cons→aK,mem_cons_of_mem→al,mem_cons_self→ak,mem_map→bO,mem_singleton→aQ,nil_append→aS,tail_cons→bq
open Nat renaming le_add_right→dc,le_refl→au,mul_add→cW,mul_le_mul_right→a7,mul_one→dK,zero_add→aW,zero_le→dS
open Option renaming bind_eq_some_iff→bc,bind_none→bP,bind_some→a8,getD_some→cz,isSome_iff_exists→cc,isSome_none→bw,isSome_some→aX,map_some→cD
open UInt8 renaming ofNat→bj
namespace Go.Proofs.Trees
open Go Go.VL Go.RowKit
theorem D2:∀(v:Vl),v.cL.length<=900000->an Tryz.prog 48 [v.cE] [] (bJ (.v (.string (mk v.cL))))
 | .u,h=>by refine zM _ ((aO _).mpr trivial) ?_;simp[Ib,Vl.cE,↓zq,zs,ae,bJ,Vl.cL,Vl.cN,fj]
 | .el k,h=>by refine zM _ ((aO _).mpr trivial) ?_;simp[Ib,Vl.cE,↓zq,zs,ae,bJ,Vl.cL,Vl.cN,fj]
 |
  .l v,h=>by
  simp only[Vl.cL,Vl.cN,fj,er,az,aq,aG]at h
  refine zM _ ((aO _).mpr trivial) ?_
  have hb:(⟨(bytesOf [[.v (.int .u8 108)]]).toArray⟩:ByteArray)=mk [108]:=rfl
  have ha:jH [[.v (.int .u8 108)]]:=lq 108
  simp only[Ib,Vl.cE,↓zq,zs,ae,aO,fI,hb]
  refine⟨by omega,fun h=>by omega,fun _=>⟨fun h=>by omega,fun _=>⟨fun h=>by omega,fun _=>⟨by omega,ha,by simp[cP],by rw[lg,cP,cP];simp,by omega,?_⟩⟩⟩⟩
  refine aj (D2 v (by simp only[Vl.cL];omega)) ?_
  simp only[↓zq,zs,ae,zt,bJ,Vl.cL,Vl.cN,fj,er]
  refine⟨by simp;omega,by simp;omega,by simp⟩
 |
  .r v,h=>by
  simp only[Vl.cL,Vl.cN,fj,er,az,aq,aG]at h
  refine zM _ ((aO _).mpr trivial) ?_
  have hb:(⟨(bytesOf [[.v (.int .u8 114)]]).toArray⟩:ByteArray)=mk [114]:=rfl
  have ha:jH [[.v (.int .u8 114)]]:=lq 114
  simp only[Ib,Vl.cE,↓zq,zs,ae,aO,fI,hb]
  refine⟨by omega,fun h=>by omega,fun _=>⟨fun h=>by omega,fun _=>⟨fun h=>by omega,fun _=>⟨by omega,ha,by simp[cP],by rw[lg,cP,cP];simp,by omega,?_⟩⟩⟩⟩
  refine aj (D2 v (by simp only[Vl.cL];omega)) ?_
  simp only[↓zq,zs,ae,zt,bJ,Vl.cL,Vl.cN,fj,er]
  refine⟨by simp;omega,by simp;omega,by simp⟩
 |
  .f v,h=>by
  simp only[Vl.cL,Vl.cN,fj,er,az,aq,aG]at h
  refine zM _ ((aO _).mpr trivial) ?_
  have hb:(⟨(bytesOf [[.v (.int .u8 102)]]).toArray⟩:ByteArray)=mk [102]:=rfl
  have ha:jH [[.v (.int .u8 102)]]:=lq 102
  simp only[Ib,Vl.cE,↓zq,zs,ae,aO,fI,hb]
  refine⟨by omega,fun h=>by omega,fun _=>⟨fun h=>by omega,fun _=>⟨fun h=>by omega,fun _=>⟨by omega,ha,by simp[cP],by rw[lg,cP,cP];simp,by omega,?_⟩⟩⟩⟩
  refine aj (D2 v (by simp only[Vl.cL];omega)) ?_
  simp only[↓zq,zs,ae,zt,bJ,Vl.cL,Vl.cN,fj,er]
  refine⟨by simp;omega,by simp;omega,by simp⟩
 |
  .p a b,h=>by
  simp only[Vl.cL,Vl.cN,fj,er,az,aq,aG]at h
  refine zM _ ((aO _).mpr trivial) ?_
  simp only[Ib,Vl.cE,↓zq,zs,ae,aO,fI]
  refine⟨by omega,fun h=>by omega,fun _=>⟨fun h=>by omega,fun _=>⟨fun _=>⟨by omega,?_⟩,fun h=>absurd rfl h⟩⟩⟩
  refine aj (D2 a (by simp only[Vl.cL];omega)) ?_
  simp only[↓zq,zs,ae,zt,aO,Vl.cL]
  refine⟨by simp;omega,by simp;omega,by omega,?_⟩
  refine aj (D2 b (by simp only[Vl.cL];omega)) ?_
  simp only[↓zq,zs,ae,zt,bJ,Vl.cL,Vl.cN,fj,er]
  refine⟨by simp;omega,by simp;omega,by simp⟩
def uI:Option (List UInt8)->AV
 |some s=>.cI [.v (.string (mk s)),.v (.bool true)]
 |none=>.cI [.v (.string (mk [])),.v (.bool false)]
end Go.Proofs.Trees
namespace Go.Proofs.Trees
open Go Go.VL Go.RowKit
def back(n:Nat):Ty->Nat->Vl
 | .name _,c=>.el c
 | .plus a b,c=>match Jc n a with|some x=>if c<x then .l (back n a c)else .r (back n b (c-x))|none=>.u
 | .times a b,c=>match Jc n b with|some y=>.p (back n a (c/y)) (back n b (c%y))|none=>.u
 |_,_=>.u
theorem yn:∀l:List E,cG 2 (E.bx l)
 |[]=>fun c hc=>by cases hc
 |
  e::l=>fun c hc=>by
  simp only[E.bx,aK]at hc
  rcases hc with rfl|hc
  ·exact gu e
  ·exact yn l c hc
theorem Ou(w:List UInt8)(l:List E)(hl:l.length<1000000):an Tryz.prog 81 [.v (.string (mk w)),.sl (E.bx l)] [] (bJ (E.kT (.list (.atom w::l)))):=by
 refine JA _ _ ((cn _).mpr trivial) ?_
 simp only[H2,↓zq,zs,ae,eh,bJ,E.kT,E.iH,E.bx]
 exact⟨⟨yn l,by omega⟩,rfl⟩
end Go.Proofs.Trees
namespace Go.Proofs.Trees
open Go Go.VL Go.RowKit
def mB(l:List Hl):List (List AV):=l.map fun h=>[.v (.string (mk h.1.cN.at)),h.1.cN.sp,.v (.string (mk h.2.cN.at)),h.2.cN.sp]
theorem fC(l:List Hl):(mB l).length=l.length:=by simp[mB]
theorem gF{l:List Hl}{i:Nat}(hi:i<l.length):(mB l).getD i []=[.v (.string (mk (l[i]).1.cN.at)),(l[i]).1.cN.sp,.v (.string (mk (l[i]).2.cN.at)),(l[i]).2.cN.sp]:=by simp[mB,aa,hi]
theorem oS(out:List Hl)(a b:Vl):mB out++[[.v (.string (mk a.cN.at)),a.cN.sp,.v (.string (mk b.cN.at)),b.cN.sp]]=mB (out++[(a,b)]):=by simp[mB]
theorem Au(a b c d:AV):cG 4 [[a,b,c,d]]:=fun x hx=>by simp at hx;rw[hx];rfl
theorem aM(s:ByteArray)(e:E):bH [.str,.sl] [.v (.string s),e.sp] 0=True:=by simp[bH,ef,aY]
theorem lI(s:ByteArray)(e:E)(x y:AV):bH [.str,.sl] [.v (.string s),e.sp,x,y] 0=True:=by simp[bH,ef,aY]
theorem xM(w:List UInt8)(e:E):an Tryz.prog 81 [.v (.string (mk w)),.sl [[.v (.string (mk e.at)),e.sp]]] [] (bJ (.agg [.v (.string (mk [])),(E.list [.atom w,e]).sp])):=by
 have:=Ou w [e] (by simp)
 simpa only[E.bx,fN,dq,E.at]using this
theorem xS(w:List UInt8)(e e':E):an Tryz.prog 81 [.v (.string (mk w)),.sl [[.v (.string (mk e.at)),e.sp],[.v (.string (mk e'.at)),e'.sp]]] [] (bJ (.agg [.v (.string (mk [])),(E.list [.atom w,e,e']).sp])):=by
 have:=Ou w [e,e'] (by simp)
 simpa only[E.bx,fN,dq,E.at]using this
def P3(pv:AV)(a b:E):Prop:=LK.sl.has pv/\pv.elems.length=3/\pv.elems.getD 1 []=[.v (.string (mk a.at)),a.sp]/\pv.elems.getD 2 []=[.v (.string (mk b.at)),b.sp]
theorem P3.of(x a b:E):P3 (E.list [x,a,b]).sp a b:=⟨by simp[E.sp,cn],by simp[E.sp,E.bx,fL],by simp[E.sp,E.bx,fL,fN],by simp[E.sp,E.bx,fL,fN]⟩
def P2(pv:AV)(a:E):Prop:=LK.sl.has pv/\pv.elems.length=2/\pv.elems.getD 1 []=[.v (.string (mk a.at)),a.sp]
theorem P2.of(x a:E):P2 (E.list [x,a]).sp a:=⟨by simp[E.sp,cn],by simp[E.sp,E.bx,fL],by simp[E.sp,E.bx,fL,fN]⟩
theorem Of(w:List UInt8)(g:Vl->Vl)(hg:∀c,(g c).cN=.list [.atom w,c.cN])(l:List Hl)(hl:l.length<=1000000):∀(k i:Nat) (out:List Hl),i+k=l.length->out.length+k<=1000000 ->
 H6 [.sl (mB l),.v (.string (mk w)),.v (.int .i64 (i:Int))] [.vec 4 (mB out)] (iq 1 [] [.vec 4 (mB (out++eW g (l.drop i)))])
 |
  0,i,out,hi,ho=>by
  refine Mo _ _ _ _ ?_
  have:i=l.length:=by omega
  subst this
  simp only[IS,↓zq,zs,ae,fC]
  exact⟨fun h=>by omega,fun _=>by simp[iq,eW]⟩
 |
  k+1,i,out,hi,ho=>by
  have hlt:i<l.length:=by omega
  refine Mo _ _ _ _ ?_
  simp only[IS,↓zq,zs,ae,zt,fC,gF hlt,lI,aM]
  refine⟨fun _=>?_,fun h=>by omega⟩
  repeat refine⟨by omega,?_⟩
  refine aj (xM _ _) ?_
  simp only[↓zq,zs,ae,aM]
  repeat refine⟨by omega,?_⟩
  refine⟨⟨Au _ _ _ _,by omega⟩,?_⟩
  rw[bA i (by omega)]
  have:=Of w g hg l hl k (i+1) (out++[(g (l[i]).1,(l[i]).2)]) (by omega) (by simp;omega)
  rw[a6,<-oS,hg]at this
  rw[gx g l hlt]
  exact this
theorem OD(w:List UInt8)(g:Vl->Vl)(hg:∀c,(g c).cN=.list [.atom w,c.cN])(l out:List Hl)(hl:out.length+l.length<=1000000) :
 an Tryz.prog 105 [.sl (mB l),.v (.string (mk w)),.vec 0] [.vec 4 (mB out)] (di (.vec 1) [.dead,.vec 4 (mB (out++eW g l))]):=by
 refine SN _ _ _ ((cn _).mpr trivial) ?_
 simp only[KM,↓zq,zs,ae]
 have h:=Of w g hg l (by omega) l.length 0 out (by omega) (by omega)
 rw[bf]at h
 refine cF h ?_
 simp[↓zq,zs,ae,di]
theorem Nb(s:List UInt8)(ta:ByteArray)(tp:AV)(ht:LK.sl.has tp)(va:ByteArray)(vp:AV)(x y:Vl)(hp:P3 vp x.cN y.cN)(l:List Hl)(hl:l.length<=1000000):∀(k i:Nat) (out:List Hl),i+k=l.length->out.length+k<=1000000 ->
 GM [.v (.string (mk s)),.sl (mB l),.v (.int .i64 (i:Int))] [.cells [.v (.string ta),tp],.cells [.v (.string va),vp],.vec 4 (mB out)] (iq 1 [.v (.string (mk s))] [.cells [.v (.string ta),tp],.cells [.v (.string va),vp],.vec 4 (mB (out++eW (fun c=>Vl.l (.p c y)) (l.drop i)))])
 |
  0,i,out,hi,ho=>by
  refine Oh _ _ _ _ _ _ _ _ ?_
  have:i=l.length:=by omega
  subst this
  simp only[Gu,↓zq,zs,ae,fC,ht,aY,ae,hp.1]
  exact⟨fun h=>by omega,fun _=>by simp[iq,eW]⟩
 |
  k+1,i,out,hi,ho=>by
  have hlt:i<l.length:=by omega
  refine Oh _ _ _ _ _ _ _ _ ?_
  simp only[Gu,↓zq,zs,ae,zt,fC,gF hlt,lI,aM,gF,ht,aY,ae,hp.1,toNat_one,bg,hp.1,hp.2.1,hp.2.2.1,hp.2.2.2]
  refine⟨fun _=>?_,fun h=>by omega⟩
  repeat refine⟨by omega,?_⟩
  refine aj (xS _ _ _) ?_
  simp only[↓zq,zs,ae,aM]
  repeat refine⟨by omega,?_⟩
  refine aj (xM [108] (E.list [.atom [112],(l[i]).1.cN,y.cN])) ?_
  simp only[↓zq,zs,ae,aM]
  repeat refine⟨by omega,?_⟩
  refine⟨⟨Au _ _ _ _,by omega⟩,?_⟩
  rw[bA i (by omega)]
  have:=Nb s ta tp ht va vp x y hp l hl k (i+1) (out++[((fun c=>Vl.l (.p c y)) (l[i]).1,(l[i]).2)]) (by omega) (by simp;omega)
  rw[a6,<-oS]at this
  rw[gx (fun c=>Vl.l (.p c y)) l hlt]
  exact this
theorem Mp(va:ByteArray)(vp:AV)(x y:Vl)(hp:P3 vp x.cN y.cN)(l:List Hl)(hl:l.length<=1000000):∀(k i:Nat) (out:List Hl),i+k=l.length->out.length+k<=1000000 ->
 FY [.sl (mB l),.v (.int .i64 (i:Int))] [.cells [.v (.string va),vp],.vec 4 (mB out)] (iq 1 [] [.vec 4 (mB (out++eW (fun c=>Vl.r (.p x c)) (l.drop i)))])
 |
  0,i,out,hi,ho=>by
  refine KS _ _ _ _ _ ?_
  have:i=l.length:=by omega
  subst this
  simp only[HM,↓zq,zs,ae,fC,aY,ae,hp.1]
  exact⟨fun h=>by omega,fun _=>by simp[iq,eW]⟩
 |
  k+1,i,out,hi,ho=>by
  have hlt:i<l.length:=by omega
  refine KS _ _ _ _ _ ?_
  simp only[HM,↓zq,zs,ae,zt,fC,gF hlt,lI,aM,gF,aY,ae,hp.1,toNat_one,bg,hp.1,hp.2.1,hp.2.2.1,hp.2.2.2]
  refine⟨fun _=>?_,fun h=>by omega⟩
  repeat refine⟨by omega,?_⟩
  refine aj (xS _ _ _) ?_
  simp only[↓zq,zs,ae,aM]
  repeat refine⟨by omega,?_⟩
  refine aj (xM [114] (E.list [.atom [112],x.cN,(l[i]).1.cN])) ?_
  simp only[↓zq,zs,ae,aM]
  repeat refine⟨by omega,?_⟩
  refine⟨⟨Au _ _ _ _,by omega⟩,?_⟩
  rw[bA i (by omega)]
  have:=Mp va vp x y hp l hl k (i+1) (out++[((fun c=>Vl.r (.p x c)) (l[i]).1,(l[i]).2)]) (by omega) (by simp;omega)
  rw[a6,<-oS]at this
  rw[gx (fun c=>Vl.r (.p x c)) l hlt]
  exact this
theorem OY(s s2:List UInt8)(ta:ByteArray)(tp:AV)(ht:LK.sl.has tp)(va:ByteArray)(vp:AV)(hp:LK.sl.has vp)(l:List Hl)(hl:l.length<=1000000):∀(k i:Nat) (out:List Hl),i+k=l.length->out.length+k<=1000000 ->
 HZ [.v (.string (mk s)),.v (.string (mk s2)),.sl (mB l),.v (.int .i64 (i:Int))] [.cells [.v (.string ta),tp],.cells [.v (.string va),vp],.vec 4 (mB out)] (iq 1 [.v (.string (mk s)),.v (.string (mk s2))] [.cells [.v (.string ta),tp],.cells [.v (.string va),vp],.vec 4 (mB (out++eW (fun c=>Vl.f (.l c)) (l.drop i)))])
 |
  0,i,out,hi,ho=>by
  refine J6 _ _ _ _ _ _ _ _ _ ?_
  have:i=l.length:=by omega
  subst this
  simp only[Hb,↓zq,zs,ae,fC,ht,aY,ae,hp]
  exact⟨fun h=>by omega,fun _=>by simp[iq,eW]⟩
 |
  k+1,i,out,hi,ho=>by
  have hlt:i<l.length:=by omega
  refine J6 _ _ _ _ _ _ _ _ _ ?_
  simp only[Hb,↓zq,zs,ae,zt,fC,gF hlt,lI,aM,gF,ht,aY,ae,hp]
  refine⟨fun _=>?_,fun h=>by omega⟩
  repeat refine⟨by omega,?_⟩
  refine aj (xM _ _) ?_
  simp only[↓zq,zs,ae,aM]
  repeat refine⟨by omega,?_⟩
  refine aj (xM [102] (E.list [.atom [108],(l[i]).1.cN])) ?_
  simp only[↓zq,zs,ae,aM]
  repeat refine⟨by omega,?_⟩
  refine⟨⟨Au _ _ _ _,by omega⟩,?_⟩
  rw[bA i (by omega)]
  have:=OY s s2 ta tp ht va vp hp l hl k (i+1) (out++[((fun c=>Vl.f (.l c)) (l[i]).1,(l[i]).2)]) (by omega) (by simp;omega)
  rw[a6,<-oS]at this
  rw[gx (fun c=>Vl.f (.l c)) l hlt]
  exact this
theorem Ky(s:List UInt8)(L:AV)(q:Nat)(kc:Vl)(kv:Vl)(hL:LK.sl.has L)(hq:q<L.elems.length)(hg:L.elems.getD q []=[.v (.string (mk kc.cN.at)),kc.cN.sp,.v (.string (mk kv.cN.at)),kv.cN.sp])(ta:ByteArray)(tp:AV)(ht:LK.sl.has tp)(l:List Hl)(hl:l.length<=1000000):∀(k i:Nat) (out:List Hl),i+k=l.length->out.length+k<=1000000 ->
 HH [.v (.string (mk s)),L,.v (.int .i64 (q:Int)),.sl (mB l),.v (.int .i64 (i:Int))] [.cells [.v (.string ta),tp],.vec 4 (mB out)] (iq 1 [.v (.string (mk s)),L,.v (.int .i64 (q:Int))] [.cells [.v (.string ta),tp],.vec 4 (mB (out++eW (fun c=>Vl.f (.r (.p kc c))) (l.drop i)))])
 |
  0,i,out,hi,ho=>by
  refine K9 _ _ _ _ _ _ _ _ ?_
  have:i=l.length:=by omega
  subst this
  simp only[Gd,↓zq,zs,ae,fC,ht,aY,ae,hL]
  exact⟨fun h=>by omega,fun _=>by simp[iq,eW]⟩
 |
  k+1,i,out,hi,ho=>by
  have hlt:i<l.length:=by omega
  refine K9 _ _ _ _ _ _ _ _ ?_
  simp only[Gd,↓zq,zs,ae,zt,fC,gF hlt,lI,aM,gF,ht,aY,ae,hL,hg]
  refine⟨fun _=>?_,fun h=>by omega⟩
  repeat refine⟨by omega,?_⟩
  refine aj (xS _ _ _) ?_
  simp only[↓zq,zs,ae,aM]
  repeat refine⟨by omega,?_⟩
  refine aj (xM [114] (E.list [.atom [112],kc.cN,(l[i]).1.cN])) ?_
  simp only[↓zq,zs,ae,aM]
  repeat refine⟨by omega,?_⟩
  refine aj (xM [102] (E.list [.atom [114],E.list [.atom [112],kc.cN,(l[i]).1.cN]])) ?_
  simp only[↓zq,zs,ae,aM]
  repeat refine⟨by omega,?_⟩
  refine⟨⟨Au _ _ _ _,by omega⟩,?_⟩
  rw[bA i (by omega)]
  have:=Ky s L q kc kv hL hq hg ta tp ht l hl k (i+1) (out++[((fun c=>Vl.f (.r (.p kc c))) (l[i]).1,(l[i]).2)]) (by omega) (by simp;omega)
  rw[a6,<-oS]at this
  rw[gx (fun c=>Vl.f (.r (.p kc c))) l hlt]
  exact this
theorem Kz(s:List UInt8)(te:E)(a:Ty)(tg:Tg)(l:List Hl)(hl:l.length<=1000000)(ih:∀h,h∈l->an Tryz.prog 74 [.agg [.v (.string (mk te.at)),te.sp],.v (.string (mk s)),.agg [.v (.string (mk h.2.cN.at)),h.2.cN.sp]] [] (bJ (.sl (mB (bM (.rc a) tg h.2))))) :
 ∀(k i:Nat) (out:List Hl),i+k=l.length->(out++(l.drop i).flatMap (AN a tg)).length<=1000000 ->
 Hi [.v (.string (mk s)),.sl (mB l),.v (.int .i64 (i:Int))] [.cells [.v (.string (mk te.at)),te.sp],.vec 4 (mB out)] (iq 1 [] [.vec 4 (mB (out++(l.drop i).flatMap (AN a tg)))])
 |
  0,i,out,hi,ho=>by
  refine Nz _ _ _ _ _ _ ?_
  have:i=l.length:=by omega
  subst this
  simp only[FT,↓zq,zs,ae,fC,aY,ae]
  exact⟨fun h=>by omega,fun _=>by simp[iq]⟩
 |
  k+1,i,out,hi,ho=>by
  have hlt:i<l.length:=by omega
  have hd:(l.drop i).flatMap (AN a tg)=AN a tg (l[i])++(l.drop (i+1)).flatMap (AN a tg):=by rw[aT hlt,cf]
  rw[hd]at ho |-
  refine Nz _ _ _ _ _ _ ?_
  simp only[FT,↓zq,zs,ae,zt,fC,gF hlt,lI,aM,aY,ae]
  refine⟨fun _=>?_,fun h=>by omega⟩
  repeat refine⟨by omega,?_⟩
  refine aj (ih _ (AX l hlt)) ?_
  simp only[↓zq,zs,ae]
  have hb:out.length+(bM (.rc a) tg (l[i]).2).length<=1000000:=by
   simp only[aq,fW]at ho;omega
  have h5:=Ky s (.sl (mB l)) i (l[i]).1 (l[i]).2 ((cn _).mpr trivial) (by rw[fL,fC];omega) (by rw[fL,gF hlt]) (mk te.at) te.sp ((aY _).mpr trivial) (bM (.rc a) tg (l[i]).2) (by omega) (bM (.rc a) tg (l[i]).2).length 0 out (by omega) (by omega)
  rw[bf]at h5
  refine cF h5 ?_
  simp only[↓zq,zs,ae,aY,ae]
  repeat refine⟨by omega,?_⟩
  rw[bA i (by omega),<-a6]
  exact Kz s te a tg l hl ih k (i+1) _ (by omega) (by rw[a6];exact ho)
end Go.Proofs.Trees
namespace Go.Proofs.Trees
open Go Go.VL Go.RowKit
def kids(a:Ty):Vl->List Hl
 | .f w=>bM a (.bd 0) w
 |_=>[]
theorem ny(a:Ty)(v:Vl):lC (kids a v)+1<=v.nodes:=by
 cases v with
 |f w=>have:=sk a (.bd 0) w;simp only[kids,Vl.nodes];omega
 |_=>simp only[kids,lC,Vl.nodes,List.map_nil,List.sum_nil];omega
theorem zc{a:Ty}{v:Vl}{h:Hl}(hh:h∈kids a v):h.2.nodes<v.nodes:=by
 cases v with
 |f w=>have:=(ir hh).1;simp only[Vl.nodes];omega
 |_=>cases hh
theorem j3{n:Nat}{a:Ty}{v:Vl}{h:Hl}(hv:v.il n)(hh:h∈kids a v):h.1.il n/\h.2.il n:=by
 cases v with
 |f w=>exact ig n _ _ _ w h hv hh
 |_=>cases hh
end Go.Proofs.Trees
namespace Go.Proofs.Trees
open Go Go.VL
mutual
def E.pr:E->Prop
 | .atom s=>s≠[]/\s.all fm=true
 | .list l=>l≠[]/\E.A6 l
def E.A6:List E->Prop
 |[]=>True
 |e::l=>e.pr/\E.A6 l
end
mutual
def E.dp:E->Nat
 | .atom _=>0
 | .list l=>1+E.vj l
def E.vj:List E->Nat
 |[]=>0
 |e::l=>max e.dp (E.vj l)
end
def MT(r:List UInt8):Prop:=∀c t,r=c::t->fm c=false
theorem uJ:MT []:=by intro c t h;cases h
theorem BI{s r:List UInt8}(hs:s.all fm=true)(hr:MT r):(s++r).takeWhile fm=s/\(s++r).dropWhile fm=r:=by
 induction s with
 |
  nil =>
  cases r with
  |nil=>exact⟨rfl,rfl⟩
  |cons c t=>have:=hr c t rfl;simp[List.takeWhile,List.dropWhile,this]
 |
  cons c s ih =>
  simp only[db,aw]at hs
  have:=ih hs.2
  simp[List.takeWhile,List.dropWhile,hs.1,this.1,this.2]
theorem wH(l:List E)(r:List UInt8):MT (er l++41::r):=by
 intro c t h
 cases l with
 |nil=>simp only[er,aS,List.cons.injEq]at h;rw[<-h.1];decide
 |cons e l=>simp only[er,ba,List.cons.injEq]at h;rw[<-h.1];decide
theorem BB{f:List UInt8->Option (E×List UInt8)}(r:List UInt8):∀(l:List E) (e:E) (acc:List E) (n:Nat),l.length<n->(∀x,x=e\/x∈l->∀r,MT r->f (fj x++r)=some (x,r)) ->
 sL f n (fj e++(er l++41::r)) acc=some (.list (acc++e::l),r)
 |l,e,acc,0,hn,hf=>by omega
 |
  [],e,acc,n+1,hn,hf=>by
  simp only[sL]
  rw[hf e (.inl rfl) _ (wH [] r)]
  simp[er]
 |
  x::l,e,acc,n+1,hn,hf=>by
  simp only[sL]
  rw[hf e (.inl rfl) _ (wH (x::l) r)]
  simp only[az]at hn
  have ih:=BB r l x (acc++[e]) n (by omega) (fun y hy=>hf y (.inr (by cases hy with|inl h=>rw[h];exact ak|inr h=>exact al _ h)))
  simp only[a6,ba,aS]at ih
  simp only[er,ba,a6]
  simp[ih]
theorem Eb{l:List E}{k:Nat}:E.A6 l->E.vj l<=k->∀x,x∈l->x.pr/\x.dp<=k:=by
 induction l with
 |nil=>intro _ _ x h;cases h
 |
  cons e l ih =>
  intro h hd x hx
  simp only[E.A6,E.vj]at h hd
  cases hx with
  |head=>exact⟨h.1,by omega⟩
  |tail _ hx=>exact ih h.2 (by omega) x hx
theorem yE:∀(k:Nat) (e:E) (r:List UInt8),e.pr->e.dp<=k->MT r->rd k (fj e++r)=some (e,r)
 |
  0,.atom s,r,hp,hd,hr=>by
  have h:=BI hp.2 hr
  simp only[fj,rd,h.1,h.2,hp.1,if_false]
 |
  k+1,.atom s,r,hp,hd,hr=>by
  have h:=BI hp.2 hr
  simp only[fj,rd,h.1,h.2,hp.1,if_false]
 |0,.list l,r,hp,hd,hr=>by simp only[E.dp]at hd;omega
 |k+1,.list [],r,hp,hd,hr=>by exact absurd rfl hp.1
 |
  k+1,.list (e::l),r,hp,hd,hr=>by
  have hs:fm 40=false:=by decide
  simp only[E.dp,E.pr]at hd hp
  have hm:=Eb (k:=k) hp.2 (by omega)
  have:=BB (f:=rd k) r l e [] ((fj e++(er l++41::r)).length+1) (by have:=sF l;simp only[aq,az];omega)
   (fun x hx r hr=>yE k x r (hm x (by cases hx with|inl h=>rw[h];exact ak|inr h=>exact al _ h)).1 (hm x (by cases hx with|inl h=>rw[h];exact ak|inr h=>exact al _ h)).2 hr)
  simp only[fj,ba,a6,aS]at *
  simp only[rd,List.takeWhile,hs,if_true]
  simpa using this
theorem BL{e e':E}(h:e.pr)(h':e'.pr)(ht:fj e=fj e'):e=e':=by
 have a:=yE (max e.dp e'.dp) e [] h (by omega) uJ
 have b:=yE (max e.dp e'.dp) e' [] h' (by omega) uJ
 rw[ht,b]at a;cases a;rfl
theorem IF{e:E}(h:e.pr)(hd:e.dp<=300)(hl:(fj e).length<=8000):qU (fj e)=some e:=by
 have:=yE 300 e [] h hd uJ
 rw[cZ]at this
 rw[qU,this];simp;omega
theorem CH(s:List UInt8):(s.takeWhile fm).all fm=true:=by
 induction s with
 |nil=>rfl
 |cons c s ih =>
  cases h:fm c
  ·simp[List.takeWhile,h]
  ·simp only[List.takeWhile,h,db,ih];rfl
theorem Dn(l r:List E):E.A6 (l++r)↔E.A6 l/\E.A6 r:=by
 induction l with
 |nil=>simp[E.A6]
 |cons e l ih=>simp[E.A6,ih,and_assoc]
theorem Eh(l r:List E):E.vj (l++r)=max (E.vj l) (E.vj r):=by
 induction l with
 |nil=>simp[E.vj]
 |cons e l ih=>simp[E.vj,ih,Nat.max_assoc]
theorem zd{k:Nat}{f:List UInt8->Option (E×List UInt8)}(hf:∀s e r,f s=some (e,r)->s=fj e++r/\e.pr/\e.dp<=k):∀(n:Nat) (s:List UInt8) (acc:List E) (e:E) (r:List UInt8),sL f n s acc=some (e,r)->E.A6 acc->E.vj acc<=k ->
 ∃l,e=.list (acc++l)/\l≠[]/\32::s=er l++41::r/\E.A6 l/\E.vj l<=k
 |0,s,acc,e,r,h,hp,hd=>by cases h
 |
  n+1,s,acc,e,r,h,hp,hd=>by
  simp only[sL]at h
  split at h
  ·rename_i p c r' hs
   obtain⟨h1,h2,h3⟩:=hf _ _ _ hs
   split at h
   ·rename_i hc
    have hc:c=41:=UInt8.toNat_inj.mp hc
    cases h
    exact⟨[p],rfl,by simp,by simp[er,h1,hc],⟨h2,trivial⟩,by simp[E.vj];omega⟩
   ·split at h
    ·rename_i hc
     have hc:c=32:=UInt8.toNat_inj.mp hc
     obtain⟨l,g1,g2,g3,g4,g5⟩:=zd hf n _ _ _ _ h ((Dn _ _).mpr ⟨hp,h2,trivial⟩) (by rw[Eh];simp[E.vj];omega)
     refine⟨p::l,by simpa using g1,by simp,?_,⟨h2,g4⟩,by simp only[E.vj];omega⟩
     rw[h1,hc,g3];simp[er]
    ·cases h
  ·cases h
theorem Bm:∀(k:Nat) (s:List UInt8) (e:E) (r:List UInt8),rd k s=some (e,r)->s=fj e++r/\e.pr/\e.dp<=k
 |
  0,s,e,r,h=>by
  simp only[rd]at h
  split at h
  ·cases h
  ·rename_i hs;cases h
   exact⟨(List.takeWhile_append_dropWhile).symm,⟨hs,CH s⟩,au _⟩
 |
  k+1,s,e,r,h=>by
  simp only[rd]at h
  split at h
  ·split at h
   ·rename_i c r' _
    split at h
    ·rename_i hc
     have hc:c=40:=UInt8.toNat_inj.mp hc
     obtain⟨l,g1,g2,g3,g4,g5⟩:=zd (k:=k) (fun s e r h=>Bm k s e r h) _ _ _ _ _ h trivial (dS _)
     simp only[aS]at g1
     subst g1;subst hc
     refine⟨?_,⟨g2,g4⟩,by simp only[E.dp];omega⟩
     cases l with
     |nil=>exact absurd rfl g2
     |
      cons x l =>
      simp only[er,ba,a6,List.cons.injEq,true_and]at g3
      rw[g3];simp[fj]
    ·cases h
   ·cases h
  ·rename_i hs;cases h
   exact⟨(List.takeWhile_append_dropWhile).symm,⟨hs,CH s⟩,by simp[E.dp]⟩
theorem yZ{s:List UInt8}{e:E}(h:qU s=some e):s=fj e/\e.pr/\e.dp<=300/\s.length<=8000:=by
 unfold qU at h
 split at h
 ·cases h
 ·rename_i hl
  split at h
  ·rename_i e' hr
   cases h
   have:=Bm _ _ _ _ hr
   exact⟨by simpa using this.1,this.2.1,this.2.2,by omega⟩
  ·cases h
theorem A3{k:Nat}(h:k<10):fm (bj (48+k))=true:=by
 have:∀k:Fin 10,fm (bj (48+k.val))=true:=by decide
 exact this ⟨k,h⟩
theorem xl:∀(n k:Nat),k<n->(dd k).all fm=true
 |0,k,h=>by omega
 |
  n+1,k,h=>by
  by_cases hk:k<10
  ·rw[eN hk,db,A3 hk];rfl
  ·rw[fX hk]
   have:=xl n (k/10) (by omega)
   rw[List.all_append,this,db,A3 (Nat.mod_lt k (by omega:0<10))];rfl
theorem HJ(k:Nat):(E.atom (xE k)).pr:=⟨by simp,by have:=xl (k+1) k (by omega);simp only[xE,db,this];decide⟩
theorem mW:∀v:Vl,v.cN.pr
 | .u=>⟨by simp,by decide⟩
 | .el k=>HJ k
 | .l v=>⟨by simp,⟨by simp,by decide⟩,mW v,trivial⟩
 | .r v=>⟨by simp,⟨by simp,by decide⟩,mW v,trivial⟩
 | .f v=>⟨by simp,⟨by simp,by decide⟩,mW v,trivial⟩
 | .p a b=>⟨by simp,⟨by simp,by decide⟩,mW a,mW b,trivial⟩
theorem pO:∀v:Vl,v.cN.dp<v.nodes+1
 | .u=>by simp[Vl.cN,E.dp,Vl.nodes]
 | .el k=>by simp[Vl.cN,E.dp,Vl.nodes]
 | .l v=>by have:=pO v;simp only[Vl.cN,E.dp,E.vj,Vl.nodes]at *;omega
 | .r v=>by have:=pO v;simp only[Vl.cN,E.dp,E.vj,Vl.nodes]at *;omega
 | .f v=>by have:=pO v;simp only[Vl.cN,E.dp,E.vj,Vl.nodes]at *;omega
 | .p a b=>by have:=pO a;have:=pO b;simp only[Vl.cN,E.dp,E.vj,Vl.nodes]at *;omega
theorem DW(k:Nat)(h:k<100):(dd k).length<=2:=by
 by_cases hk:k<10
 ·rw[eN hk];simp
 ·rw[fX hk,eN (by omega:k/10<10)];simp
theorem kY:∀v:Vl,v.il 100->v.cL.length<=5*v.nodes
 | .u,_=>by simp[Vl.cL,Vl.cN,fj,Vl.nodes]
 |
  .el k,h=>by
  have:=DW k h
  simp only[Vl.cL,Vl.cN,fj,Vl.nodes,az];omega
 | .l v,h=>by have:=kY v h;simp only[Vl.cL,Vl.cN,fj,er,Vl.nodes,az,aq,aG]at this |-;omega
 | .r v,h=>by have:=kY v h;simp only[Vl.cL,Vl.cN,fj,er,Vl.nodes,az,aq,aG]at this |-;omega
 | .f v,h=>by have:=kY v h;simp only[Vl.cL,Vl.cN,fj,er,Vl.nodes,az,aq,aG]at this |-;omega
 | .p a b,h=>by have:=kY a h.1;have:=kY b h.2;simp only[Vl.cL,Vl.cN,fj,er,Vl.nodes,az,aq,aG]at *;omega
theorem GL(k:Nat):xE k≠[117]:=by simp[xE]
theorem kJ:∀v:Vl,v.il 100->fS v.cN=some v
 | .u,_=>by simp[Vl.cN,fS]
 | .el k,h=>by simp only[Vl.cN,fS,GL,if_false,vA k h]
 | .l v,h=>by simp only[Vl.cN,fS,kJ v h,E.at];simp
 | .r v,h=>by simp only[Vl.cN,fS,kJ v h,E.at];simp
 | .f v,h=>by simp only[Vl.cN,fS,kJ v h,E.at];simp
 | .p a b,h=>by simp only[Vl.cN,fS,kJ a h.1,kJ b h.2,E.at];simp
theorem ri{v:Vl}(h:v.il 100)(hn:v.nodes<=200):sK v.cL=some v:=by
 have hd:=pO v
 have hl:=kY v h
 rw[sK,IF (mW v) (by omega) (by show v.cL.length<=8000;omega)]
 simp only[kJ v h]
 rw[if_neg (by omega)]
theorem uT{v w:Vl}(h:v.il 100)(h':w.il 100)(ht:v.cL=w.cL):v=w:=by
 have:=BL (mW v) (mW w) ht
 have a:=kJ v h
 rw[this,kJ w h']at a;cases a;rfl
theorem rj{s:List UInt8}{v:Vl}(h:sK s=some v):s=v.cL:=(yZ (mj h).1).1
end Go.Proofs.Trees
namespace Go.Proofs.Trees
open Go Go.VL Go.RowKit
theorem bL(l:List E):(E.list l).at=[]:=rfl
def cB:Ty->Vl->Vl->Vl
 | .plus a _,.l c,v=>.l (cB a c v)
 | .plus _ b,.r c,v=>.r (cB b c v)
 | .times a _,.l (.p x y),v=>.p (cB a x v) y
 | .times _ b,.r (.p x y),v=>.p x (cB b y v)
 | .rc a,.f (.l x),v=>.f (cB a x v)
 | .rc a,.f (.r (.p x y)),v=>.f (cB a x (cB (.rc a) y v))
 |_,_,v=>v
def dN:Ty->Vl->Bool
 | .plus a _,.l c=>dN a c
 | .plus _ b,.r c=>dN b c
 | .times a _,.l (.p x _)=>dN a x
 | .times _ b,.r (.p _ y)=>dN b y
 | .rc a,.f (.l x)=>dN a x
 | .rc a,.f (.r (.p x y))=>dN a x&&dN (.rc a) y
 | .plus _ _,_=>false
 | .times _ _,_=>false
 | .rc _,_=>false
 |_,_=>true
theorem tE(c v:Vl):cB .zero c v=v:=by cases c<;>rfl
theorem vH(c v:Vl):cB .one c v=v:=by cases c<;>rfl
theorem jX(s:List UInt8)(c v:Vl):cB (.name s) c v=v:=by cases c<;>rfl
theorem nY(u:Nat)(c v:Vl):cB (.bound u) c v=v:=by cases c<;>rfl
theorem wj{a b:Ty}{c:Vl}(h:dN (.plus a b) c=true):(∃x,c=.l x/\dN a x=true)\/∃x,c=.r x/\dN b x=true:=by
 cases c<;>simp[dN]at h<;>simp[h]
theorem s7{a b:Ty}{c:Vl}(h:dN (.times a b) c=true):(∃x y,c=.l (.p x y)/\dN a x=true)\/∃x y,c=.r (.p x y)/\dN b y=true:=by
 cases c with
 |l c=>cases c<;>simp[dN]at h<;>simp[h]
 |r c=>cases c<;>simp[dN]at h<;>exact .inr ⟨_,_,rfl,h⟩
 |_=>simp[dN]at h
theorem CV{a:Ty}{c:Vl}(h:dN (.rc a) c=true):(∃x,c=.f (.l x)/\dN a x=true)\/∃x y,c=.f (.r (.p x y))/\dN a x=true/\dN (.rc a) y=true:=by
 cases c with
 |
  f c =>
  cases c with
  |l c=>simp[dN]at h;simp[h]
  |r c=>cases c<;>simp[dN]at h<;>exact .inr ⟨_,_,rfl,h⟩
  |_=>simp[dN]at h
 |_=>simp[dN]at h
theorem sI(t:Ty)(c v:Vl):(cB t c v).nodes<=c.nodes+v.nodes:=by
 induction t,c,v using cB.induct<;>simp only[cB,Vl.nodes]at*<;> omega
theorem sH(m:Nat)(t:Ty)(c v:Vl):c.il m->v.il m->(cB t c v).il m:=by
 induction t,c,v using cB.induct with
 |case1 a b c v ih=>exact fun h h'=>ih h h'
 |case2 a b c v ih=>exact fun h h'=>ih h h'
 |case3 a b x y v ih=>exact fun h h'=>⟨ih h.1 h',h.2⟩
 |case4 a b x y v ih=>exact fun h h'=>⟨h.1,ih h.2 h'⟩
 |case5 a x v ih=>exact fun h h'=>ih h h'
 |case6 a x y v ih1 ih2=>exact fun h h'=>ih2 h.1 (ih1 h.2 h')
 |case7=>intro h h';simpa only[cB]using h'
def I9:Hl:=(.u,.u)
end Go.Proofs.Trees
namespace Go.Proofs.Trees
open Go Go.VL Go.RowKit
theorem oq(s:Nm)(a b:E):an Tryz.prog 86 [.agg [.v (.string (mk [])),(E.list [.atom s,a,b]).sp]] [] (bJ (.v (.string (mk s)))):=vo (.atom s) [a,b]
theorem DE{e:E}(h:Wf e):∀(bd l:List Nm) (a:AV),cw a bd->bd.length+l.length+e.sz<100000->an Tryz.prog 84 [.agg [.v (.string (mk e.at)),e.sp],a,.vec 0] [.vec 1 (bG l)] (di (.vec 1) [.dead,.vec 1 (bG (kB e bd l))]):=by
 induction h with
 |
  @atom s hs =>
  intro bd l a ha hl
  simp only[E.sz]at hl
  refine zH _ _ _ _ ((aY _).mpr trivial) ha.1 ?_
  have hll:(bG l).length=l.length:=by simp[bG]
  simp only[xz,dV,↓zq,zs,ae,zt,di,kB]
  refine⟨fun _=>⟨fun h=>?_,fun h=>⟨fun h1=>?_,fun h1=>?_⟩⟩,fun h=>absurd h hs⟩
  ·rw[if_pos (.inl h)]
  ·rw[if_pos (.inr (.inl h1))]
  ·refine aj (xB bd a ha s (by omega)) ?_
   simp only[↓zq,zs,ae]
   refine⟨fun h2=>?_,fun h2=>aj (xB l _ (.of l) s (by omega)) ?_⟩
   ·rw[if_pos (.inr (.inr (.inl h2)))]
   ·simp only[↓zq,zs,ae]
    refine⟨fun h3=>?_,fun h3=>⟨⟨fun c hc=>(by simp at hc;rw[hc];rfl),by omega⟩,?_⟩⟩
    ·rw[if_pos (.inr (.inr (.inr h3)))]
    ·rw[Ft,if_neg]
     rintro(q|q|q|q)
     ·exact h q
     ·exact h1 q
     ·exact h2 q
     ·exact h3 q
 |
  @plus x y hx hy i1 i2 =>
  intro bd l a ha hl
  simp only[E.sz,E.jB]at hl
  have hfl:=gl x bd l
  refine zH _ _ _ _ ((aY _).mpr trivial) ha.1 ?_
  have hP:=P3.of (.atom [43]) x y
  simp only[xz,bL,toNat_one,bg,↓zq,zs,ae,zt,hP.1,hP.2.1,hP.2.2.1,hP.2.2.2,aM,di]
  refine⟨fun h=>absurd rfl h,fun _=>?_⟩
  refine aj (oq [43] x y) ?_
  simp only[↓zq,zs,ae,zt]
  refine⟨fun h=>by simp at h,fun _=>?_⟩
  repeat refine⟨by omega,?_⟩
  refine aV (i1 bd l a ha (by omega)) ?_
  simp only[↓zq,zs,ae,zt,aL,bq,Ob.es]
  repeat refine⟨by omega,?_⟩
  refine aV (i2 bd (kB x bd l) a ha (by omega)) ?_
  simp only[↓zq,zs,ae,zt,aL,bq,Ob.es]
  rw[kB,if_neg (by decide)]
 |
  @times x y hx hy i1 i2 =>
  intro bd l a ha hl
  simp only[E.sz,E.jB]at hl
  have hfl:=gl x bd l
  refine zH _ _ _ _ ((aY _).mpr trivial) ha.1 ?_
  have hP:=P3.of (.atom [42]) x y
  simp only[xz,bL,toNat_one,bg,↓zq,zs,ae,zt,hP.1,hP.2.1,hP.2.2.1,hP.2.2.2,aM,di]
  refine⟨fun h=>absurd rfl h,fun _=>?_⟩
  refine aj (oq [42] x y) ?_
  simp only[↓zq,zs,ae,zt]
  refine⟨fun h=>by simp at h,fun _=>?_⟩
  repeat refine⟨by omega,?_⟩
  refine aV (i1 bd l a ha (by omega)) ?_
  simp only[↓zq,zs,ae,zt,aL,bq,Ob.es]
  repeat refine⟨by omega,?_⟩
  refine aV (i2 bd (kB x bd l) a ha (by omega)) ?_
  simp only[↓zq,zs,ae,zt,aL,bq,Ob.es]
  rw[kB,if_neg (by decide)]
 |
  @rc n y hn hy i =>
  intro bd l a ha hl
  simp only[E.sz,E.jB]at hl
  refine zH _ _ _ _ ((aY _).mpr trivial) ha.1 ?_
  have hP:=P3.of (.atom dI) (.atom n) y
  simp only[xz,bL,toNat_one,bg,↓zq,zs,ae,zt,hP.1,hP.2.1,hP.2.2.1,hP.2.2.2,aM,di]
  refine⟨fun h=>absurd rfl h,fun _=>?_⟩
  refine aj (oq dI (.atom n) y) ?_
  simp only[↓zq,zs,ae,zt]
  refine⟨fun _=>?_,fun h=>absurd rfl h⟩
  repeat refine⟨by omega,?_⟩
  refine aV (HS bd a ha n (by omega)) ?_
  simp only[↓zq,zs,ae,Ob.es,aL]
  refine⟨dW _,?_⟩
  refine aV (i (bd++[n]) l _ (.of _) (by simp;omega)) ?_
  simp only[↓zq,zs,ae,aL,bq,Ob.es]
  rw[kB,if_pos (dV _)];rfl
theorem Td(x:Nm)(u:E){e:E}(h:Wf e):an Tryz.prog 146 [.agg [.v (.string (mk e.at)),e.sp],.v (.string (mk x)),.agg [.v (.string (mk u.at)),u.sp]] [] (bJ (.agg [.v (.string (mk (sf x u e).at)),(sf x u e).sp])):=by
 induction h with
 |
  @atom s hs =>
  refine DU _ _ _ _ _ ((aY _).mpr trivial) ((aY _).mpr trivial) ?_
  simp only[BX,dV,↓zq,zs,ae,zt,bJ,sf]
  refine⟨fun _=>⟨fun h=>?_,fun h=>?_⟩,fun h=>absurd h hs⟩
  ·rw[if_pos h]
  ·rw[if_neg h];rfl
 |
  @plus a b ha hb i1 i2 =>
  refine DU _ _ _ _ _ ((aY _).mpr trivial) ((aY _).mpr trivial) ?_
  have hP:=P3.of (.atom [43]) a b
  simp only[BX,bL,toNat_one,bg,↓zq,zs,ae,zt,hP.1,hP.2.1,hP.2.2.1,hP.2.2.2,aM]
  refine⟨fun h=>absurd rfl h,fun _=>?_⟩
  refine aj (oq [43] a b) ?_
  simp only[↓zq,zs,ae,zt]
  refine⟨fun h=>by simp at h,fun _=>?_⟩
  refine aj (oq [43] a b) ?_
  simp only[↓zq,zs,ae,zt]
  repeat refine⟨by omega,?_⟩
  refine aj i1 ?_
  simp only[↓zq,zs,ae,zt,aM]
  repeat refine⟨by omega,?_⟩
  refine aj i2 ?_
  simp only[↓zq,zs,ae,zt,aM]
  repeat refine⟨by omega,?_⟩
  refine aj (xS _ _ _) ?_
  simp only[↓zq,zs,ae,zt,aM,wg,bL]
  repeat refine⟨by omega,?_⟩
  exact⟨rfl,rfl⟩
 |
  @times a b ha hb i1 i2 =>
  refine DU _ _ _ _ _ ((aY _).mpr trivial) ((aY _).mpr trivial) ?_
  have hP:=P3.of (.atom [42]) a b
  simp only[BX,bL,toNat_one,bg,↓zq,zs,ae,zt,hP.1,hP.2.1,hP.2.2.1,hP.2.2.2,aM]
  refine⟨fun h=>absurd rfl h,fun _=>?_⟩
  refine aj (oq [42] a b) ?_
  simp only[↓zq,zs,ae,zt]
  refine⟨fun h=>by simp at h,fun _=>?_⟩
  refine aj (oq [42] a b) ?_
  simp only[↓zq,zs,ae,zt]
  repeat refine⟨by omega,?_⟩
  refine aj i1 ?_
  simp only[↓zq,zs,ae,zt,aM]
  repeat refine⟨by omega,?_⟩
  refine aj i2 ?_
  simp only[↓zq,zs,ae,zt,aM]
  repeat refine⟨by omega,?_⟩
  refine aj (xS _ _ _) ?_
  simp only[↓zq,zs,ae,zt,aM,tJ,bL]
  repeat refine⟨by omega,?_⟩
  exact⟨rfl,rfl⟩
 |
  @rc n b hn hb i =>
  refine DU _ _ _ _ _ ((aY _).mpr trivial) ((aY _).mpr trivial) ?_
  have hP:=P3.of (.atom dI) (.atom n) b
  simp only[BX,bL,toNat_one,bg,↓zq,zs,ae,zt,hP.1,hP.2.1,hP.2.2.1,hP.2.2.2,aM]
  refine⟨fun h=>absurd rfl h,fun _=>?_⟩
  refine aj (oq dI (.atom n) b) ?_
  simp only[↓zq,zs,ae,zt]
  refine⟨fun _=>?_,fun h=>absurd rfl h⟩
  repeat refine⟨by omega,?_⟩
  rw[AT]
  refine⟨fun h=>?_,fun h=>?_⟩
  ·have hh:n=x:=h
   rw[if_pos hh];exact⟨rfl,rfl⟩
  ·have hh:¬n=x:=h
   rw[if_neg hh]
   repeat refine⟨by omega,?_⟩
   refine aj i ?_
   simp only[↓zq,zs,ae,zt,aM]
   repeat refine⟨by omega,?_⟩
   refine aj (xS dI (.atom n) (sf x u b)) ?_
   simp only[↓zq,zs,ae,zt,aM,bL]
   repeat refine⟨by omega,?_⟩
   exact⟨rfl,rfl⟩
theorem rA(x:Nm){e:E}(h:Wf e):nt x e<=e.df:=by
 induction h with
 |atom hs=>simp only[nt,E.df];split<;>omega
 |plus ha hb i1 i2=>rw[sb];simp only[E.df,E.ff];omega
 |times ha hb i1 i2=>rw[qd];simp only[E.df,E.ff];omega
 |rc hn hb i=>rw[wX];simp only[E.df,E.ff];split<;>omega
theorem PZ(x:Nm){e:E}(h:Wf e):e.df<1000000->an Tryz.prog 145 [.agg [.v (.string (mk e.at)),e.sp],.v (.string (mk x))] [] (bJ (.v (.int .i64 (nt x e:Int)))):=by
 induction h with
 |
  @atom s hs =>
  intro hl
  refine Dc _ _ _ ((aY _).mpr trivial) ?_
  simp only[AW,dV,↓zq,zs,ae,zt,bJ,nt]
  refine⟨fun _=>⟨fun h=>?_,fun h=>?_⟩,fun h=>absurd h hs⟩
  ·rw[if_pos h];rfl
  ·rw[if_neg h];rfl
 |
  @plus a b ha hb i1 i2 =>
  intro hl
  simp only[E.df,E.ff]at hl
  have u1:=rA x ha
  have u2:=rA x hb
  refine Dc _ _ _ ((aY _).mpr trivial) ?_
  have hP:=P3.of (.atom [43]) a b
  simp only[AW,bL,toNat_one,bg,↓zq,zs,ae,zt,hP.1,hP.2.1,hP.2.2.1,hP.2.2.2,aM]
  refine⟨fun h=>absurd rfl h,fun _=>?_⟩
  refine aj (oq [43] a b) ?_
  simp only[↓zq,zs,ae,zt]
  refine⟨fun h=>by simp at h,fun _=>?_⟩
  repeat refine⟨by omega,?_⟩
  refine aj (i1 (by omega)) ?_
  simp only[↓zq,zs,ae,zt]
  repeat refine⟨by omega,?_⟩
  refine aj (i2 (by omega)) ?_
  simp only[↓zq,zs,ae,zt]
  rw[sb,wrap64 _ (by omega) (by omega)]
  exact⟨by simp,rfl⟩
 |
  @times a b ha hb i1 i2 =>
  intro hl
  simp only[E.df,E.ff]at hl
  have u1:=rA x ha
  have u2:=rA x hb
  refine Dc _ _ _ ((aY _).mpr trivial) ?_
  have hP:=P3.of (.atom [42]) a b
  simp only[AW,bL,toNat_one,bg,↓zq,zs,ae,zt,hP.1,hP.2.1,hP.2.2.1,hP.2.2.2,aM]
  refine⟨fun h=>absurd rfl h,fun _=>?_⟩
  refine aj (oq [42] a b) ?_
  simp only[↓zq,zs,ae,zt]
  refine⟨fun h=>by simp at h,fun _=>?_⟩
  repeat refine⟨by omega,?_⟩
  refine aj (i1 (by omega)) ?_
  simp only[↓zq,zs,ae,zt]
  repeat refine⟨by omega,?_⟩
  refine aj (i2 (by omega)) ?_
  simp only[↓zq,zs,ae,zt]
  rw[qd,wrap64 _ (by omega) (by omega)]
  exact⟨by simp,rfl⟩
 |
  @rc n b hn hb i =>
  intro hl
  simp only[E.df,E.ff]at hl
  refine Dc _ _ _ ((aY _).mpr trivial) ?_
  have hP:=P3.of (.atom dI) (.atom n) b
  simp only[AW,bL,toNat_one,bg,↓zq,zs,ae,zt,hP.1,hP.2.1,hP.2.2.1,hP.2.2.2,aM]
  refine⟨fun h=>absurd rfl h,fun _=>?_⟩
  refine aj (oq dI (.atom n) b) ?_
  simp only[↓zq,zs,ae,zt]
  refine⟨fun _=>?_,fun h=>absurd rfl h⟩
  repeat refine⟨by omega,?_⟩
  rw[wX]
  refine⟨fun h=>?_,fun h=>?_⟩
  ·have hh:n=x:=h
   rw[if_pos hh];exact⟨rfl,rfl⟩
  ·have hh:¬n=x:=h
   rw[if_neg hh]
   repeat refine⟨by omega,?_⟩
   refine aj (i (by omega)) ?_
   simp only[↓zq,zs,ae,zt]
   exact⟨rfl,rfl⟩
theorem KC{x:Nm}(hx:rr x){e u:E}(h:Wf e)(hu:Wf u)(hl:e.df<=1000)(hlu:u.df<=1000):an Tryz.prog 120 [.agg [.v (.string (mk e.at)),e.sp],.v (.string (mk x)),.agg [.v (.string (mk u.at)),u.sp]] [] (bJ (.v (.bool (decide ((sub x (cU u []) (cU e [])).atoms<=400))))):=by
 refine SJ _ _ _ _ _ ((aY _).mpr trivial) ((aY _).mpr trivial) ?_
 unfold O1
 have a1:=EG e h.ok (by have:=h.sz;omega)
 have a2:=EG u hu.ok (by have:=hu.sz;omega)
 rw[dq]at a1 a2
 have hle:=rA x h
 have hpos:1<=u.df:=by rw[hu.df []];exact eA _
 refine aj a1 ?_
 simp only[↓zq,zs,ae,zt]
 refine aj (PZ x h (by omega)) ?_
 simp only[↓zq,zs,ae,zt]
 refine aj a2 ?_
 simp only[↓zq,zs,ae,zt]
 have e1:=eg x (cU u []) (cU e [])
 have e2:=Db hx h []
 rw[if_neg (by simp)]at e2
 rw[e2,<-h.df [],<-hu.df []]at e1
 have hm:nt x e*(u.df-1)<=1000*1000:=Nat.mul_le_mul (by omega) (by omega)
 have e3:(nt x e:Int)*((u.df:Int)-1)=((nt x e*(u.df-1):Nat):Int):=by
  rw[Int.natCast_mul];congr 1;omega
 have e4:nt x e*(u.df-1)+nt x e=nt x e*u.df:=by
  rw[Nat.mul_sub,dK]
  have:=Nat.le_mul_of_pos_right (nt x e) hpos
  omega
 rw[wrap64 ((u.df:Int)-1) (by omega) (by omega),e3,wrap64 ((nt x e*(u.df-1):Nat):Int) (by omega) (by omega),wrap64 _ (by omega) (by omega)]
 refine⟨?_,rfl⟩
 congr 2
 rw[cA,decide_eq_true_eq,decide_eq_true_eq]
 omega
end Go.Proofs.Trees
namespace Go.Proofs.Trees
open Go Go.VL Go.RowKit
abbrev yN:AV:=.v (.slice none 0 0)
abbrev zE:Ob:=.cells [.v (.string (mk [])),yN]
theorem Ma(s:Nm)(p a b:AV)(hp:LK.sl.has p)(F fr to:List Nm)(k:Int)(ha:cw a fr)(hb:cw b to)(hft:fr.length=to.length)(hl:fr.length<1000000):∀(i:Nat),i<=fr.length ->
 H4 [a,b,.v (.int .i64 ((i:Int)-1))] [.cells [.v (.string (mk s)),p],zE,.cells [.any,.v (.int .i64 k)],.vec 1 (bG F)]
  (nK (match bR s fr i with|some u=>(2,[],[.cells [.v (.string (mk (gn to u))),yN],.cells [.any,.v (.int .i64 k)],.vec 1 (bG F)])|none=>(1,[],[.cells [.v (.string (mk s)),p],zE,.cells [.any,.v (.int .i64 k)],.vec 1 (bG F)])))
 |
  0,hi=>by
  refine NX _ _ _ _ _ _ _ _ _ ?_
  simp only[Ht,↓zq,zs,ae,ae,hp,bh]
  exact⟨ha.1,hb.1,fun h=>by omega,fun _=>rfl⟩
 |
  i+1,hi=>by
  have hlt:i<fr.length:=by omega
  have hlt':i<to.length:=by omega
  have e1:((i+1:Nat):Int)-1=(i:Int):=by omega
  rw[e1]
  refine NX _ _ _ _ _ _ _ _ _ ?_
  simp only[Ht,↓zq,zs,ae,zt,ae,hp,bh,ha.len,hb.len,ha.idx hlt,hb.idx hlt',bF]
  refine⟨ha.1,hb.1,fun _=>⟨⟨ha.1,by omega,by omega⟩,by omega,fun h=>?_,fun h=>?_⟩,fun h=>by omega⟩
  ·refine⟨⟨hb.1,by omega,by omega⟩,by omega,?_⟩
   have hh:fr.getD i []=s:=h
   simp only[bR,hh,if_true,nK]
   have:gn to (fr.length-1-i)=to.getD i []:=by unfold gn;congr 1;omega
   rw[this]
  ·have hh:¬fr.getD i []=s:=h
   simp only[bR,hh,if_false]
   rw[wrap64 _ (by omega) (by omega)]
   exact Ma s p a b hp F fr to k ha hb hft hl i (by omega)
theorem Lb(a b:AV)(ha:LK.sl.has a)(hb:LK.sl.has b)(F:List Nm)(hF:F.length<100000)(t:ByteArray)(p:AV)(hp:LK.sl.has p):∀(n j:Nat),qm F n j<j+n->j+n<100000000 ->
 FJ [a,b,.v (.string (mk (tN j)))] [.cells [.any,.v (.int .i64 (j:Int))],.vec 1 (bG F),.cells [.v (.string t),p],zE] (iq 1 [a,b,.v (.string (mk (tN (qm F n j))))] [.cells [.any,.v (.int .i64 (qm F n j:Int))],.vec 1 (bG F),.cells [.v (.string t),p],zE])
 |0,j,h,_=>by simp only[qm]at h;omega
 |
  n+1,j,h,hj=>by
  refine R8 _ _ _ _ _ _ _ _ _ ?_
  simp only[Md,↓zq,zs,ae,zt,ae,hp,bh]
  refine⟨ha,hb,?_⟩
  refine aj (xB F _ (.of F) (tN j) (by omega)) ?_
  simp only[↓zq,zs,ae,zt]
  rw[qm]at h |-
  refine⟨fun hm=>?_,fun hm=>?_⟩
  ·rw[if_pos hm]at h |-
   rw[bA j (by omega)]
   refine aj (AE (j+2) (j+1) (by omega) (by omega)) ?_
   have hd:=mT (j+2) (j+1) (by omega)
   simp only[↓zq,zs,ae,zt,ba,aS]
   refine⟨by simp[cP];omega,?_⟩
   exact Lb a b ha hb F hF t p hp n (j+1) (by omega) (by omega)
  ·rw[if_neg hm]
   exact⟨rfl,rfl,rfl⟩
theorem iD(F:List Nm):∀(t:Ty) (to:List Nm) (k:Nat),k<=(gX F t to k).2/\(gX F t to k).2<=k+(F.length+1)*t.atoms
 | .zero,_,k=>⟨au _,dc _ _⟩
 | .one,_,k=>⟨au _,dc _ _⟩
 | .name _,_,k=>⟨au _,dc _ _⟩
 | .bound _,_,k=>⟨au _,dc _ _⟩
 |
  .plus a b,to,k=>by
  have h1:=iD F a to k
  have h2:=iD F b to (gX F a to k).2
  simp only[gX,Ty.atoms]
  have:(F.length+1)*(1+a.atoms+b.atoms)=(F.length+1)+(F.length+1)*a.atoms+(F.length+1)*b.atoms:=by simp only[cW,dK]
  omega
 |
  .times a b,to,k=>by
  have h1:=iD F a to k
  have h2:=iD F b to (gX F a to k).2
  simp only[gX,Ty.atoms]
  have:(F.length+1)*(1+a.atoms+b.atoms)=(F.length+1)+(F.length+1)*a.atoms+(F.length+1)*b.atoms:=by simp only[cW,dK]
  omega
 |
  .rc a,to,k=>by
  obtain⟨g1,g2,_,_⟩:=gJ F k
  have h1:=iD F a (to++[tN (nx F k)]) (nx F k+1)
  simp only[gX,Ty.atoms]
  have:(F.length+1)*(2+a.atoms)=(F.length+1)*2+(F.length+1)*a.atoms:=by simp only[cW]
  omega
theorem kF(l:List Nm):(bG l).length=l.length:=by simp[bG]
theorem RT(F:List Nm)(hF:F.length<10000){e:E}(h:Wf e):∀(fr to:List Nm) (a b:AV) (k:Nat),cw a fr->cw b to->fr.length=to.length->(∀w,w∈fr->rr w)->fr.length+e.sz<10000->k+(F.length+1)*(cU e fr).atoms<99000000 ->
 an Tryz.prog 91 [.agg [.v (.string (mk e.at)),e.sp],a,b,.ref 0 0] [.cells [.vec 1,.v (.int .i64 (k:Int))],.vec 1 (bG F)] (di (.agg [.v (.string (mk (gX F (cU e fr) to k).1.at)),(gX F (cU e fr) to k).1.sp]) [.cells [.vec 1,.v (.int .i64 ((gX F (cU e fr) to k).2:Int))],.vec 1 (bG F)]):=by
 induction h with
 |
  @atom s hs =>
  intro fr to a b k ha hb hft hfr hl hk
  simp only[E.sz]at hl
  refine EJ _ _ _ _ _ _ ((aY _).mpr trivial) ha.1 hb.1 ?_
  have hz:∀c,(c=[48]\/c=[49])->bR c fr fr.length=none:=fun c hc=>(fG c fr).2 fun hm=>by
   obtain⟨h1,h2,h3⟩:=hfr c hm
   rcases hc with rfl|rfl
   ·exact h2 rfl
   ·exact h3 rfl
  have hq:gX F (cU (.atom s) fr) to k=(match bR s fr fr.length with|some u=>.atom (gn to u)|none=>.atom s,k):=by
   simp only[cU]
   by_cases h0:s=[48]
   ·rw[if_pos h0,hz s (.inl h0),h0];rfl
   ·rw[if_neg h0]
    by_cases h1:s=[49]
    ·rw[if_pos h1,hz s (.inr h1),h1];rfl
    ·rw[if_neg h1]
     cases bR s fr fr.length<;>rfl
  simp only[Bl,dV,↓zq,zs,ae,zt]
  refine⟨fun _=>⟨ha.1,?_⟩,fun h=>absurd h hs⟩
  rw[ha.len,wrap64 _ (by omega) (by omega)]
  refine fA (Ma s _ a b ((aY _).mpr trivial) F fr to (k:Int) ha hb hft (by omega) fr.length (au _)) (fun ys o e=>?_) (fun ys o e=>?_)
  ·rw[hq]
   cases q:bR s fr fr.length<;>rw[q]at e<;>cases e
   simp only[↓zq,zs,ae,zt,ae,aI,bh,aY]
   exact⟨rfl,rfl⟩
  ·rw[hq]
   cases q:bR s fr fr.length<;>rw[q]at e<;>cases e
   simp only[↓zq,zs,ae,zt,ae,aI,bh]
   exact⟨rfl,rfl⟩
 |
  @plus x y hx hy i1 i2 =>
  intro fr to a b k ha hb hft hfr hl hk
  simp only[E.sz,E.jB]at hl
  rw[dP]at hk |-
  simp only[Ty.atoms]at hk
  have hm:(F.length+1)*(1+(cU x fr).atoms+(cU y fr).atoms)=(F.length+1)+(F.length+1)*(cU x fr).atoms+(F.length+1)*(cU y fr).atoms:=by simp only[cW,dK]
  have hc:=iD F (cU x fr) to k
  refine EJ _ _ _ _ _ _ ((aY _).mpr trivial) ha.1 hb.1 ?_
  have hP:=P3.of (.atom [43]) x y
  simp only[Bl,bL,toNat_one,bg,↓zq,zs,ae,zt,hP.1,hP.2.1,hP.2.2.1,hP.2.2.2,aM]
  refine⟨fun h=>absurd rfl h,fun _=>?_⟩
  refine aj (oq [43] x y) ?_
  simp only[↓zq,zs,ae,zt]
  refine⟨fun h=>by simp at h,fun _=>?_⟩
  repeat refine⟨by omega,?_⟩
  refine aV (i1 fr to a b k ha hb hft hfr (by omega) (by omega)) ?_
  simp only[↓zq,zs,ae,zt,aI,aM,aL,bq,Ob.es]
  repeat refine⟨by omega,?_⟩
  refine aj (oq [43] x y) ?_
  simp only[↓zq,zs,ae,zt]
  repeat refine⟨by omega,?_⟩
  refine aV (i2 fr to a b _ ha hb hft hfr (by omega) (by omega)) ?_
  simp only[↓zq,zs,ae,zt,aI,aM,aL,bq,Ob.es]
  repeat refine⟨by omega,?_⟩
  refine aj (xS _ _ _) ?_
  simp only[↓zq,zs,ae,zt,aM,bL]
  repeat refine⟨by omega,?_⟩
  exact⟨rfl,rfl⟩
 |
  @times x y hx hy i1 i2 =>
  intro fr to a b k ha hb hft hfr hl hk
  simp only[E.sz,E.jB]at hl
  rw[dx]at hk |-
  simp only[Ty.atoms]at hk
  have hm:(F.length+1)*(1+(cU x fr).atoms+(cU y fr).atoms)=(F.length+1)+(F.length+1)*(cU x fr).atoms+(F.length+1)*(cU y fr).atoms:=by simp only[cW,dK]
  have hc:=iD F (cU x fr) to k
  refine EJ _ _ _ _ _ _ ((aY _).mpr trivial) ha.1 hb.1 ?_
  have hP:=P3.of (.atom [42]) x y
  simp only[Bl,bL,toNat_one,bg,↓zq,zs,ae,zt,hP.1,hP.2.1,hP.2.2.1,hP.2.2.2,aM]
  refine⟨fun h=>absurd rfl h,fun _=>?_⟩
  refine aj (oq [42] x y) ?_
  simp only[↓zq,zs,ae,zt]
  refine⟨fun h=>by simp at h,fun _=>?_⟩
  repeat refine⟨by omega,?_⟩
  refine aV (i1 fr to a b k ha hb hft hfr (by omega) (by omega)) ?_
  simp only[↓zq,zs,ae,zt,aI,aM,aL,bq,Ob.es]
  repeat refine⟨by omega,?_⟩
  refine aj (oq [42] x y) ?_
  simp only[↓zq,zs,ae,zt]
  repeat refine⟨by omega,?_⟩
  refine aV (i2 fr to a b _ ha hb hft hfr (by omega) (by omega)) ?_
  simp only[↓zq,zs,ae,zt,aI,aM,aL,bq,Ob.es]
  repeat refine⟨by omega,?_⟩
  refine aj (xS _ _ _) ?_
  simp only[↓zq,zs,ae,zt,aM,bL]
  repeat refine⟨by omega,?_⟩
  exact⟨rfl,rfl⟩
 |
  @rc n y hn hy i =>
  intro fr to a b k ha hb hft hfr hl hk
  simp only[E.sz,E.jB]at hl
  rw[fy]at hk |-
  simp only[Ty.atoms,dV]at hk
  have hm:(F.length+1)*(2+(cU y (fr++[n])).atoms)=(F.length+1)*2+(F.length+1)*(cU y (fr++[n])).atoms:=by simp only[cW]
  have hc:=iD F (cU y (fr++[n])) (to++[tN (nx F k)]) (nx F k+1)
  obtain⟨g1,g2,_,_⟩:=gJ F k
  refine EJ _ _ _ _ _ _ ((aY _).mpr trivial) ha.1 hb.1 ?_
  have hP:=P3.of (.atom dI) (.atom n) y
  simp only[Bl,bL,toNat_one,bg,↓zq,zs,ae,zt,hP.1,hP.2.1,hP.2.2.1,hP.2.2.2,aM]
  refine⟨fun h=>absurd rfl h,fun _=>?_⟩
  refine aj (oq dI (.atom n) y) ?_
  simp only[↓zq,zs,ae,zt]
  refine⟨fun _=>?_,fun h=>absurd rfl h⟩
  refine aj (AE (k+1) k (by omega) (by omega)) ?_
  have hd:=mT (k+1) k (by omega)
  simp only[↓zq,zs,ae,zt,ba,aS]
  refine⟨by simp[cP];omega,?_⟩
  refine cF (Lb a b ha.1 hb.1 F (by omega) (mk []) _ ((aY _).mpr trivial) (F.length+1) k (by show nx F k<_;omega) (by omega)) ?_
  simp only[↓zq,zs,ae,zt,ae,aI,bh,aY,ha.1,hb.1,hP.1,hP.2.1,hP.2.2.1,hP.2.2.2,toNat_one,bg,aM]
  repeat refine⟨by omega,?_⟩
  have hnx:qm F (F.length+1) k=nx F k:=rfl
  rw[hnx]
  refine aV (HS fr a ha n (by omega)) ?_
  simp only[↓zq,zs,ae,zt,Ob.es,aL]
  refine⟨dW _,?_⟩
  refine aV (HS to b hb (tN (nx F k)) (by omega)) ?_
  simp only[↓zq,zs,ae,zt,Ob.es,aL]
  refine⟨dW _,?_⟩
  rw[bA (nx F k) (by omega)]
  have hmk:=xS dI (.atom (tN (nx F k))) (gX F (cU y (fr++[n])) (to++[tN (nx F k)]) (nx F k+1)).1
  simp only[dV]at hmk
  refine aV (i (fr++[n]) (to++[tN (nx F k)]) _ _ (nx F k+1) (.of _) (.of _) (by simp[hft]) (fun w hw=>by
   rcases aN.1 hw with hw|hw
   ·exact hfr w hw
   ·simp only[aQ]at hw;rw[hw];exact hn) (by simp;omega) (by omega)) ?_
  simp only[↓zq,zs,ae,zt,aI,aM,aL,bq,Ob.es]
  repeat refine⟨by omega,?_⟩
  refine aj hmk ?_
  simp only[↓zq,zs,ae,zt,aM,bL]
  repeat refine⟨by omega,?_⟩
  exact⟨rfl,rfl⟩
theorem xd(l r:List Nm):bG (l++r)=bG l++bG r:=by simp[bG]
def rC(os:List E):List Nm:=os.flatMap fun o=>kB o [] []
theorem vG{os:List E}{i:Nat}(h:i<os.length):(E.bx os).getD i []=[.v (.string (mk (os[i]).at)),(os[i]).sp]:=by
 have:∀(os:List E) (i:Nat) (h:i<os.length),(E.bx os).getD i []=(os[i]).iH:=by
  intro os
  induction os with
  |nil=>intro i h;simp at h
  |
   cons o os ih =>
   intro i h
   cases i with
   |zero=>simp[E.bx]
   |succ i=>simpa[E.bx]using ih i (by simpa using h)
 rw[this os i h,fN]
theorem zS(os:List E){i:Nat}(h:i<os.length):rC (os.drop i)=kB (os[i]) [] []++rC (os.drop (i+1)):=by
 unfold rC;rw[aT h,cf]
theorem MU(a:AV)(os:List E)(ha:LK.sl.has a/\a.elems=E.bx os)(ho:∀o,o∈os->Wf o/\o.sz<5000)(hl:os.length<100)(t:ByteArray)(p:AV)(hp:LK.sl.has p):∀(k i:Nat) (F:List Nm),i+k=os.length->F.length<=5000+5000*i ->
 Hs [a,.v (.int .i64 (i:Int))] [.cells [.v (.string t),p],zE,.vec 1 (bG F)] (iq 1 [] [.cells [.v (.string t),p],zE,.vec 1 (bG (F++rC (os.drop i)))])
 |
  0,i,F,hi,hF=>by
  refine Mt _ _ _ _ _ _ _ ?_
  have:i=os.length:=by omega
  subst this
  simp only[HA,↓zq,zs,ae,zt,ae,hp,bh,ha.1,ha.2,eh,List.drop_length]
  exact⟨fun h=>by omega,fun _=>by simp[iq,rC]⟩
 |
  k+1,i,F,hi,hF=>by
  have hlt:i<os.length:=by omega
  obtain⟨hw,hsz⟩:=ho _ (bI hlt)
  have hfl:=gl (os[i]) [] []
  refine Mt _ _ _ _ _ _ _ ?_
  simp only[HA,↓zq,zs,ae,zt,ae,hp,bh,ha.1,ha.2,eh,vG hlt,aM,bF]
  refine⟨fun _=>?_,fun h=>by omega⟩
  repeat refine⟨by omega,?_⟩
  have hfre:=DE hw [] [] (.sl []) (.of []) (by simp;omega)
  refine aV hfre ?_
  simp only[↓zq,zs,ae,zt,aL,bq,Ob.es,kF,<-xd]
  rw[bA i (by omega),zS os hlt,<-a6]
  simp only[aG,aW]at hfl
  refine⟨⟨kL _,by omega⟩,?_⟩
  exact MU a os ha ho hl t p hp k (i+1) _ (by omega) (by simp;omega)
def AO(e:E)(os:List E):List Nm:=kB e [] []++rC os
def zN(e:E)(os:List E):E:=(gX (AO e os) (cU e []) [] 0).1
theorem Ee{e:E}{os:List E}(h:e.sz<=2000)(ho:∀o,o∈os->Wf o/\o.sz<=2000)(hl:os.length<=2):(AO e os).length<=6000:=by
 have h1:=gl e [] []
 have h2:∀(l:List E),(∀o,o∈l->o.sz<=2000)->(rC l).length<=2000*l.length:=by
  intro l
  induction l with
  |nil=>intro _;simp[rC]
  |
   cons o l ih =>
   intro hl
   have:=ih fun q hq=>hl q (al _ hq)
   have:=hl o ak
   have:=gl o [] []
   simp only[rC,cf,aq,az,aG]at *
   omega
 have:=h2 os fun o ho'=>(ho o ho').2
 simp only[AO,aq,aG]at *
 omega
theorem D7{e:E}(h:Wf e)(a:AV)(os:List E)(ha:LK.sl.has a/\a.elems=E.bx os)(he:e.sz<=2000)(ho:∀o,o∈os->Wf o/\o.sz<=2000)(hl:os.length<=2) :
 an Tryz.prog 65 [.agg [.v (.string (mk e.at)),e.sp],a] [] (bJ (.agg [.v (.string (mk (zN e os).at)),(zN e os).sp])):=by
 refine RS _ _ _ ((aY _).mpr trivial) ha.1 ?_
 unfold NF
 have hfl:=gl e [] []
 simp only[aG,aW]at hfl
 have hap:=Ee he ho hl
 have hats:(cU e []).atoms<=2000:=by
  rw[<-h.df []]
  have:e.df<=e.sz:=by
   clear hap hfl ha he ho hl
   induction h with
   |atom _=>simp[E.df,E.sz]
   |plus _ _ i1 i2=>simp only[E.df,E.ff,E.sz,E.jB];omega
   |times _ _ i1 i2=>simp only[E.df,E.ff,E.sz,E.jB];omega
   |rc _ _ i=>simp only[E.df,E.ff,E.sz,E.jB];omega
  omega
 have hfre:=DE h [] [] (.sl []) (.of []) (by simp;omega)
 simp only[↓zq,zs,ae,zt]
 refine aV hfre ?_
 simp only[↓zq,zs,ae,zt,aL,bq,Ob.es]
 have hlp:=MU a os ha (fun o hq=>⟨(ho o hq).1,by have:=(ho o hq).2;omega⟩) (by omega) (mk e.at) e.sp ((aY _).mpr trivial) os.length 0 (kB e [] []) (by omega) (by omega)
 rw[bf]at hlp
 refine cF hlp ?_
 simp only[↓zq,zs,ae,zt,ae,aI,bh,aY,aL,bq,Ob.es]
 have hmul:((AO e os).length+1)*(cU e []).atoms<=6001*2000:=Nat.mul_le_mul (by omega) hats
 have hren:=RT (AO e os) (by omega) h [] [] (.sl []) (.sl []) 0 (.of []) (.of []) rfl (fun w hw=>by cases hw) (by simp;omega) (by omega)
 refine aV hren ?_
 simp only[↓zq,zs,ae,zt,aI,aM]
 repeat refine⟨by omega,?_⟩
 exact⟨rfl,rfl⟩
end Go.Proofs.Trees
namespace Go.Proofs.Trees
open Go Go.VL Go.RowKit
def ga(t:Ty):Prop:=jG t 0/\∀y,bn y t=true->rr y
theorem gI:∀(t:Ty) {i j:Nat},jG t i->i<=j->jG t j
 | .bound u,i,j,h,hj=>Nat.lt_of_lt_of_le h hj
 | .plus a b,i,j,h,hj=>⟨gI a h.1 hj,gI b h.2 hj⟩
 | .times a b,i,j,h,hj=>⟨gI a h.1 hj,gI b h.2 hj⟩
 | .rc a,i,j,h,hj=>gI (i:=i+1) (j:=j+1) a h (by omega)
 | .zero,_,_,_,_=>trivial
 | .one,_,_,_,_=>trivial
 | .name _,_,_,_,_=>trivial
theorem gP(x:Nm):∀(t:Ty) {i:Nat},jG t (i+1)->jG (dC (.name x) t i) i
 |
  .bound u,i,h=>by
  simp only[dC]
  split
  ·trivial
  ·have:u<i+1:=h
   show u<i;omega
 | .plus a b,i,h=>⟨gP x a h.1,gP x b h.2⟩
 | .times a b,i,h=>⟨gP x a h.1,gP x b h.2⟩
 | .rc a,i,h=>gP x (i:=i+1) a h
 | .zero,_,_=>trivial
 | .one,_,_=>trivial
 | .name _,_,_=>trivial
theorem kW{x:Nm}{u:Ty}(hu:jG u 0):∀(t:Ty) {i:Nat},jG t i->jG (sub x u t) i
 | .name s,i,_=>by simp only[sub];split;exact gI u hu (dS _);trivial
 | .plus a b,i,h=>⟨kW hu a h.1,kW hu b h.2⟩
 | .times a b,i,h=>⟨kW hu a h.1,kW hu b h.2⟩
 | .rc a,i,h=>kW hu (i:=i+1) a h
 | .zero,_,_=>trivial
 | .one,_,_=>trivial
 | .bound _,_,h=>h
theorem Dv.lc{t d:Ty}{s:Nm}(h:Dv t s d):jG t 0->jG d 0:=by
 induction h with
 |zero s=>exact fun _=>trivial
 |one s=>exact fun _=>trivial
 |bound k s=>exact fun _=>trivial
 |hit s=>exact fun _=>trivial
 |qN h=>exact fun _=>trivial
 |plus h1 h2 hl i1 i2=>exact fun h=>⟨i1 h.1,i2 h.2⟩
 |times h1 h2 hl i1 i2=>exact fun h=>⟨⟨i1 h.1,h.2⟩,h.1,i2 h.2⟩
 |
  rc x hx hs h1 h2 hl i1 i2 =>
  intro h
  have g1:=kW (x:=x) h _ (i1 (gP x _ h))
  have g2:=kW (x:=x) h _ (i2 (gP x _ h))
  exact⟨gI _ g1 (by omega),gI _ g2 (by omega),Nat.zero_lt_one⟩
theorem Wf.qG{e:E}(h:Wf e):ga (cU e []):=⟨uu h [],fun y hy=>(nB h [] y hy).1⟩
theorem ga.dv{t d:Ty}{s:Nm}(g:ga t)(h:Dv t s d):ga d:=⟨h.lc g.1,fun y hy=>g.2 y (h.names y hy)⟩
theorem ga.tree{t:Ty}(g:ga t):∃e,Wf e/\cU e []=t:=by
 obtain⟨h1,h2,_⟩:=kQ (bQ t []) t [] 0 (.nil _ _) g.1 fun y hy=>⟨(eU t [] y).2 (.inr hy),g.2 y hy⟩
 exact⟨_,h1,h2⟩
theorem ga.sub{x:Nm}{u t:Ty}(hu:ga u)(ht:ga t):ga (sub x u t):=⟨kW hu.1 t ht.1,fun y hy=>by
 rcases jg t hy with h|h
 ·exact hu.2 y h
 ·exact ht.2 y h.2⟩
def lu(o:Option Ty):AV->List Ob->Prop:=fun r ob=>ob=[]/\∃(c:Nm) (d:AV),LK.sl.has d/\r=.cI [.agg [.v (.string (mk c)),d],.v (.bool o.isSome)]/\∀t,o=some t->∃e,Wf e/\cU e []=t/\c=e.at/\d=e.sp
theorem lu.ne{o:Option Ty}(h:∀t,o=some t->ga t):∃r ob,lu o r ob:=by
 cases o with
 |none=>exact⟨_,_,rfl,[],yN,(bh).mpr trivial,rfl,fun t h=>by cases h⟩
 |
  some t =>
  obtain⟨e,h1,h2⟩:=(h t rfl).tree
  exact⟨_,_,rfl,e.at,e.sp,(aY _).mpr trivial,rfl,fun t' h'=>by cases h';exact⟨e,h1,h2,rfl,rfl⟩⟩
theorem lu.of{e:E}(h:Wf e):lu (some (cU e [])) (.cI [.agg [.v (.string (mk e.at)),e.sp],.v (.bool true)]) [] :=
 ⟨rfl,e.at,e.sp,(aY _).mpr trivial,rfl,fun t h'=>by cases h';exact⟨e,h,rfl,rfl,rfl⟩⟩
theorem lu.no(c:Nm)(d:AV)(hd:LK.sl.has d):lu none (.cI [.agg [.v (.string (mk c)),d],.v (.bool false)]) [] :=
 ⟨rfl,c,d,hd,rfl,fun t h'=>by cases h'⟩
theorem gD{c:ByteArray}{d:AV}(h:LK.sl.has d):bH [.str,.sl] [.v (.string c),d] 0=True:=by simp[bH,ef,h]
theorem xe{e:E}{os:List E}(h:Wf e):Wf (zN e os)/\cU (zN e os) []=cU e []/\uZ (·∉AO e os) (zN e os):=by
 obtain⟨h1,h2,_,_,h5⟩:=kQ (AO e os) (cU e []) [] 0 (.nil _ _) (uu h []) fun y hy=>⟨aD _ ((lQ h [] [] y).2 (.inr hy)),(nB h [] y hy).1⟩
 exact⟨h1,h2,h5⟩
theorem rz{os:List E}{o:E}(ho:o∈os)(hw:Wf o){y:Nm}(hy:bn y (cU o [])=true):y∈rC os :=
 List.mem_flatMap.2 ⟨o,ho,(lQ hw [] [] y).2 (.inr hy)⟩
theorem sD{s:Nm}(hs:rr s):cU (.atom s) []=.name s:=jn hs (by simp)
theorem K6{x:Nm}(hx:rr x){e u:E}(h:Wf e)(hu:Wf u)(hl:e.df<=400)(hlu:u.df<=400):∃g,Wf g/\cU g []=sub x (cU u []) (cU e [])/\an Tryz.prog 121 [.agg [.v (.string (mk e.at)),e.sp],.v (.string (mk x)),.agg [.v (.string (mk u.at)),u.sp]] [] (bJ (.agg [.v (.string (mk g.at)),g.sp])):=by
 obtain⟨w1,w2,w3⟩:=xe (os:=[u,.atom x]) h
 have hap:uZ (fun n=>n≠x/\bn n (cU u [])=false) (zN e [u,.atom x]):=Bg (fun n hn=>⟨fun e1=>hn (by
  subst e1
  exact aB _ (rz (o:=.atom n) (by simp) (.atom hx.1) (by rw[sD hx];simp[bn]))),by
  cases q:bn n (cU u [])with
  |false=>rfl
  |true=>exact absurd (aB _ (rz (o:=u) (by simp) hu q)) hn⟩) w1 w3
 obtain⟨p1,p2⟩:=Di hx hu w1 hap [] (by simp) (fun y hy=>by cases hy)
 refine⟨_,p1,by rw[p2,w2],?_⟩
 refine Th _ _ _ _ _ ((aY _).mpr trivial) ((aY _).mpr trivial) ?_
 unfold Lr
 have s1:=h.sz
 have s2:=hu.sz
 have hA:=D7 h (.sl [[.v (.string (mk u.at)),u.sp],[.v (.string (mk x)),yN]]) [u,.atom x] ⟨(cn _).mpr trivial,by simp only[fL,E.bx,fN];rfl⟩ (by omega) (fun o ho=>by
  simp only[aK,List.not_mem_nil,or_false]at ho
  rcases ho with rfl|rfl
  ·exact⟨hu,by omega⟩
  ·exact⟨.atom hx.1,by simp[E.sz]⟩) (by simp)
 refine aj hA ?_
 simp only[↓zq,zs,ae,zt,aM]
 repeat refine⟨by omega,?_⟩
 refine aj (Td x u w1) ?_
 simp only[↓zq,zs,ae,zt,aM]
 repeat refine⟨by omega,?_⟩
 exact⟨rfl,rfl⟩
theorem FX{x:Nm}(hx:rr x){e u:E}(h:Wf e)(hu:Wf u)(hl:e.df<=400)(hlu:u.df<=400):an Tryz.prog 123 [.agg [.v (.string (mk e.at)),e.sp],.v (.string (mk x)),.agg [.v (.string (mk u.at)),u.sp]] [] (lu (nN (sub x (cU u []) (cU e [])))):=by
 refine SO _ _ _ _ _ ((aY _).mpr trivial) ((aY _).mpr trivial) ?_
 unfold KQ
 refine aj (KC hx h hu (by omega) (by omega)) ?_
 simp only[↓zq,zs,ae,zt]
 refine⟨fun hn=>?_,fun hy=>?_⟩
 ·rw[show nN (sub x (cU u []) (cU e []))=none by unfold nN;rw[if_neg hn]]
  exact lu.no _ _ ((aY _).mpr trivial)
 ·rw[show nN (sub x (cU u []) (cU e []))=some (sub x (cU u []) (cU e [])) by unfold nN;rw[if_pos hy]]
  obtain⟨g,g1,g2,g3⟩:=K6 hx h hu hl hlu
  refine aj g3 ?_
  simp only[↓zq,zs,ae,zt,aM]
  repeat refine⟨by omega,?_⟩
  rw[<-g2]
  exact lu.of g1
end Go.Proofs.Trees
namespace Go.Proofs.Trees
open Go Go.VL Go.RowKit
def qt(l:List UInt8):List (List AV):=l.map fun(x:UInt8)=>[.v (.int .u8 (x.toNat:Int))]
structure sJ(b:AV)(l:List UInt8):Prop where
 has:LK.sl.has b
 el:b.elems=qt l
 len:l.length<=2000
theorem sJ.ln{b:AV}{l:List UInt8}(h:sJ b l):b.elems.length=l.length:=by rw[h.el];simp[qt]
theorem sJ.get{b:AV}{l:List UInt8}(h:sJ b l){i:Nat}(hi:i<l.length):b.elems.getD i []=[.v (.int .u8 ((l[i]).toNat:Int))]:=by rw[h.el];simp[qt,aa,hi]
def fe(b:AV)(p c:Nat)(X:AV->Prop):AV->List Ob->Prop:=fun r o=>∃q:Nat,p<=q/\q<=p+c/\X r/\o=[.cells [b,.v (.int .i64 (q:Int))]]
theorem fe.ne{b:AV}{p c:Nat}{X:AV->Prop}{r:AV}(h:X r):∃r o,fe b p c X r o:=⟨r,_,p,au _,dc _ _,h,rfl⟩
theorem EL{a b:Int}(ha:0<=a)(hb:0<=b)(ha':a<9223372036854775808)(hb':b<9223372036854775808):∃W:Nat,Ba .i64 a b=(W:Int):=by
 obtain⟨x,rfl⟩:∃x:Nat,a=(x:Int):=⟨a.toNat,by omega⟩
 obtain⟨y,rfl⟩:∃y:Nat,b=(y:Int):=⟨b.toNat,by omega⟩
 have e1:(BitVec.ofInt 64 (x:Int)).toNat=x:=by simp;omega
 have e2:(BitVec.ofInt 64 (y:Int)).toNat=y:=by simp;omega
 have hlt:x ^^^ y<2 ^ 63:=Nat.xor_lt_two_pow (by omega) (by omega)
 refine⟨x ^^^ y,?_⟩
 unfold Ba
 have e3:(BitVec.ofInt (IntKind.bits .i64) (x:Int) ^^^ BitVec.ofInt (IntKind.bits .i64) (y:Int)).toNat=x ^^^ y:=by
  show (BitVec.ofInt 64 (x:Int) ^^^ BitVec.ofInt 64 (y:Int)).toNat=_
  rw[BitVec.toNat_xor,e1,e2]
 rw[e3,VL.wrap64]<;>omega
theorem zn(a b:Nat):Int.tdiv (a:Int) (b:Int)=((a/b:Nat):Int):=(Int.ofNat_tdiv a b).symm
theorem rb(a b:Nat):dJ (a:Int) (b:Int)=((a%b:Nat):Int):=(Int.ofNat_tmod a b).symm
theorem vw(n:Nat)(h:n<9223372036854775808):IntKind.wrap .i64 (n:Int)=(n:Int):=VL.wrap64 _ (by omega) (by omega)
def isNum(n:Nat):AV->Prop:=fun r=>∃k:Nat,r=.v (.int .i64 (k:Int))/\(1<=n->k<n)/\k<=n
abbrev pY:Nat:=1000000000000000
theorem wv(b:AV)(l:List UInt8)(hb:sJ b l)(p n:Nat)(hp:p<2*pY)(hn:n<pY):an Tryz.prog 43 [.ref 0 0,.v (.int .i64 (n:Int))] [.cells [b,.v (.int .i64 (p:Int))]] (fe b p 1 (isNum n)):=by
 refine Qk _ _ _ hb.has ?_
 have e1:IntKind.wrap .i64 ((p:Int)+1)=((p+1:Nat):Int):=by rw[VL.wrap64]<;>simp[pY]at hp<;>omega
 have e2:IntKind.wrap .i64 (((p+1:Nat):Int)-1)=(p:Int):=by rw[VL.wrap64]<;>simp[pY]at hp<;>omega
 have fin:∀k:Nat,(1<=n->k<n)->k<=n->fe b p 1 (isNum n) (.v (.int .i64 (k:Int))) [.cells [b,.v (.int .i64 ((p+1:Nat):Int))]]:=fun k h h'=>⟨p+1,by omega,au _,⟨k,rfl,h,h'⟩,rfl⟩
 simp only[Ke,↓zq,zs,ae,e1,e2,hb.ln,zn,rb]
 refine⟨fun h=>fin 0 (fun h'=>by omega) (dS _),fun h=>⟨hb.has,fun h0=>fin 0 (fun h'=>by omega) (dS _),fun h0=>?_⟩⟩
 have hl:0<l.length:=by omega
 have hll:=hb.len
 refine⟨hb.has,fun hlt=>?_,fun hge=>?_⟩
 ·have hlt:p<l.length:=by omega
  have hx:=(l[p]).toNat_lt
  simp only[bF,hb.get hlt,hb.has,↓zq,zs,ae]
  rw[vw _ (by omega),rb]
  have:=fin ((l[p]).toNat%n) (fun h'=>Nat.mod_lt _ (by omega)) (Nat.le_of_lt (Nat.mod_lt _ (by omega)))
  repeat (first|exact this|refine⟨by omega,?_⟩)
 ·have h1:p%l.length<l.length:=Nat.mod_lt _ hl
  have e3:IntKind.wrap .i64 ((p:Int)*7)=((p*7:Nat):Int):=by rw[VL.wrap64]<;>simp[pY]at hp<;>omega
  have e4:IntKind.wrap .i64 (((p*7:Nat):Int)+3)=((p*7+3:Nat):Int):=by rw[VL.wrap64]<;>simp[pY]at hp<;>omega
  have h2:(p*7+3)%l.length<l.length:=Nat.mod_lt _ hl
  have hx:=(l[p%l.length]).toNat_lt
  have hy:=(l[(p*7+3)%l.length]).toNat_lt
  have hq:p/l.length<=p:=Nat.div_le_self _ _
  simp only[e3,e4,rb,bF,hb.get h1,hb.get h2,hb.has,↓zq,zs,ae]
  generalize hxx:(l[p%l.length]).toNat=x at hx |-
  generalize hyy:(l[(p*7+3)%l.length]).toNat=y at hy |-
  generalize hqq:p/l.length=q at hq |-
  have f1:IntKind.wrap .i64 ((x:Int))=(x:Int):=vw _ (by omega)
  have f2:IntKind.wrap .i64 ((y:Int))=(y:Int):=vw _ (by omega)
  have f3:IntKind.wrap .i64 ((x:Int)*131)=((x*131:Nat):Int):=by rw[VL.wrap64]<;>omega
  have f4:IntKind.wrap .i64 ((y:Int)*1117)=((y*1117:Nat):Int):=by rw[VL.wrap64]<;>omega
  have f5:IntKind.wrap .i64 (((x*131:Nat):Int)+((y*1117:Nat):Int))=((x*131+y*1117:Nat):Int):=by rw[VL.wrap64]<;>omega
  have f6:IntKind.wrap .i64 ((p:Int)*29)=((p*29:Nat):Int):=by rw[VL.wrap64]<;>simp[pY]at hp<;>omega
  have f7:IntKind.wrap .i64 (((x*131+y*1117:Nat):Int)+((p*29:Nat):Int))=((x*131+y*1117+p*29:Nat):Int):=by rw[VL.wrap64]<;>simp[pY]at hp<;>omega
  have f8:IntKind.wrap .i64 ((q:Int))=(q:Int):=vw _ (by simp[pY]at hp;omega)
  have f9:IntKind.wrap .i64 ((q:Int)*53)=((q*53:Nat):Int):=by rw[VL.wrap64]<;>simp[pY]at hp<;>omega
  have f10:IntKind.wrap .i64 (((x*131+y*1117+p*29:Nat):Int)+((q*53:Nat):Int))=((x*131+y*1117+p*29+q*53:Nat):Int):=by rw[VL.wrap64]<;>simp[pY]at hp<;>omega
  simp only[f1,f2,f3,f4,f5,f6,f7,f8,f9,f10]
  generalize hV:x*131+y*1117+p*29+q*53=V
  have hVl:V<1000000000000000000:=by simp[pY]at hp;omega
  have f11:IntKind.wrap .i64 (Int.tdiv (V:Int) 64)=((V/64:Nat):Int):=by
   have:Int.tdiv (V:Int) 64=((V/64:Nat):Int):=zn V 64
   rw[this,vw _ (by omega)]
  rw[f11]
  obtain⟨W,hW⟩:=EL (a:=(V:Int)) (b:=((V/64:Nat):Int)) (by omega) (by omega) (by omega) (by omega)
  rw[hW,rb]
  have:=fin (W%n) (fun h'=>Nat.mod_lt _ (by omega)) (Nat.le_of_lt (Nat.mod_lt _ (by omega)))
  repeat (first|exact this|refine⟨by omega,?_⟩)
def lD(L:List (List UInt8)):AV->Prop:=fun r=>∃s,s∈L/\r=.v (.string (mk s))
theorem Ea(b:AV)(l:List UInt8)(hb:sJ b l)(p:Nat)(hp:p<2*pY)(L:List (List UInt8))(a:AV)(ha:cw a L)(hL:0<L.length)(hLl:L.length<1000000):an Tryz.prog 62 [.ref 0 0,a] [.cells [b,.v (.int .i64 (p:Int))]] (fe b p 1 (lD L)):=by
 refine Qd _ _ _ ha.1 hb.has ?_
 unfold K0
 simp only[↓zq,zs,ae,ha.len]
 refine⟨ha.1,?_⟩
 have hpk:=wv b l hb p L.length hp (by simp[pY];omega)
 refine aP hpk (fe.ne ⟨0,rfl,fun h=>h,dS _⟩) ?_
 rintro r o ⟨q,h1,h2,⟨k,rfl,h3,h4⟩,rfl⟩
 have hk:=h3 hL
 simp only[↓zq,zs,ae,zt,aI,hb.has,ha.idx hk,bF]
 refine⟨⟨ha.1,by omega⟩,?_⟩
 have:fe b p 1 (lD L) (.v (.string (mk (L.getD k [])))) [.cells [b,.v (.int .i64 (q:Int))]]:=⟨q,h1,h2,⟨_,by simp[aa,hk],rfl⟩,rfl⟩
 repeat (first|exact this|refine⟨by omega,?_⟩)
def gA(n:Nat):AV->Prop:=fun r=>∃s:List UInt8,r=.v (.string (mk s))/\s.length<=n
theorem lD.cL{L:List (List UInt8)}{n:Nat}(h:∀s,s∈L->s.length<=n){r:AV}(hr:lD L r):gA n r:=by
 obtain⟨s,h1,h2⟩:=hr;exact⟨s,h2,h s h1⟩
end Go.Proofs.Trees
namespace Go.Proofs.Trees
open Go Go.VL Go.RowKit
def ke:AV->List Ob->Prop:=fun r o=>o=[]/\∃b:Bool,r=.v (.bool b)
theorem ke.ne:∃r o,ke r o:=⟨_,_,rfl,true,rfl⟩
theorem ke.mk(b:Bool):ke (.v (.bool b)) []:=⟨rfl,b,rfl⟩
theorem ke.call{n:Nat}{f:Nat}{xs:List AV}{k:AV->List Ob->Tree}{Q:Nat->List AV->List Ob->Prop}(h:an Tryz.prog f xs [] ke)(hk:∀b:Bool,fk Tryz.prog n (k (.v (.bool b)) []) Q):fk Tryz.prog n (.call f xs [] k) Q :=
 aP h ke.ne (by rintro r o ⟨rfl,b,rfl⟩;exact hk b)
theorem Lf{e:E}(h:Wf e):∀(l:List Nm) (a:AV),cw a l->l.length+e.sz<100000->an Tryz.prog 87 [.agg [.v (.string (mk e.at)),e.sp],a] [] ke:=by
 induction h with
 |
  @atom s hs =>
  intro l a ha hl
  simp only[E.sz]at hl
  refine E0 _ _ _ ((aY _).mpr trivial) ha.1 ?_
  simp only[Bw,dV,↓zq,zs,ae]
  refine aj (zP s _ ((aY (.atom s)).mpr trivial) hs) ?_
  simp only[↓zq,zs,ae,zt,ha.1]
  refine⟨fun h=>(by cases h),fun _=>⟨fun h=>(by cases h),fun _=>⟨fun h=>(by cases h),fun _=>⟨fun _=>.mk true,fun _=>?_⟩⟩⟩⟩
  refine aj (xB l a ha s (by omega)) ?_
  simp only[↓zq,zs,ae]
  exact .mk _
 |
  @plus x y hx hy i1 i2 =>
  intro l a ha hl
  simp only[E.sz,E.jB]at hl
  refine E0 _ _ _ ((aY _).mpr trivial) ha.1 ?_
  have hP:=P3.of (.atom [43]) x y
  simp only[Bw,bL,toNat_one,bg,↓zq,zs,ae,zt,hP.1,hP.2.1,hP.2.2.1,hP.2.2.2,aM]
  refine aj (oq [43] x y) ?_
  simp only[↓zq,zs,ae,zt,ha.1,aM]
  refine⟨fun _=>⟨by omega,by omega,ke.call (i1 l a ha (by omega)) fun b=>?_⟩,fun h=>absurd rfl h⟩
  simp only[↓zq,zs,ae]
  refine⟨fun _=>⟨by omega,by omega,ke.call (i2 l a ha (by omega)) fun b=>?_⟩,fun _=>.mk _⟩
  simp only[↓zq,zs,ae]
  exact .mk _
 |
  @times x y hx hy i1 i2 =>
  intro l a ha hl
  simp only[E.sz,E.jB]at hl
  refine E0 _ _ _ ((aY _).mpr trivial) ha.1 ?_
  have hP:=P3.of (.atom [42]) x y
  simp only[Bw,bL,toNat_one,bg,↓zq,zs,ae,zt,hP.1,hP.2.1,hP.2.2.1,hP.2.2.2,aM]
  refine aj (oq [42] x y) ?_
  simp only[↓zq,zs,ae,zt,ha.1,aM]
  refine⟨fun h=>(by cases h),fun _=>⟨fun _=>⟨by omega,by omega,ke.call (i1 l a ha (by omega)) fun b=>?_⟩,fun h=>absurd rfl h⟩⟩
  simp only[↓zq,zs,ae]
  refine⟨fun _=>.mk _,fun _=>⟨by omega,by omega,ke.call (i2 l a ha (by omega)) fun b=>?_⟩⟩
  simp only[↓zq,zs,ae]
  exact .mk _
 |
  @rc n b hn hb i =>
  intro l a ha hl
  simp only[E.sz,E.jB]at hl
  refine E0 _ _ _ ((aY _).mpr trivial) ha.1 ?_
  have hP:=P3.of (.atom dI) (.atom n) b
  simp only[Bw,bL,toNat_one,bg,↓zq,zs,ae,zt,hP.1,hP.2.1,hP.2.2.1,hP.2.2.2,aM]
  refine aj (oq dI (.atom n) b) ?_
  simp only[↓zq,zs,ae,zt,ha.1,aM]
  refine⟨fun h=>(by cases h),fun _=>⟨fun h=>(by cases h),fun _=>⟨fun _=>⟨by omega,by omega,by omega,by omega,?_⟩,fun h=>absurd rfl h⟩⟩⟩
  refine aV (HS l a ha n (by omega)) ?_
  simp only[↓zq,zs,ae,zt,Ob.es,aL]
  refine⟨dW _,?_⟩
  refine ke.call (i (l++[n]) _ (.of _) (by simp;omega)) fun b=>?_
  simp only[↓zq,zs,ae]
  exact .mk _
def PA:AV->List Ob->Prop:=fun r o=>o=[]/\∃(g:E) (b:Bool),r=.cI [.agg [.v (.string (mk g.at)),g.sp],.v (.bool b)]/\Wf g/\g.df<=400
theorem Ql{n:Nm}{b:E}(hn:rr n)(hb:Wf b)(hl:(E.list [.atom dI,.atom n,b]).df<=400):an Tryz.prog 89 [.agg [.v (.string (mk [])),(E.list [.atom dI,.atom n,b]).sp]] [] PA:=by
 have hw:Wf (.list [.atom dI,.atom n,b]):=.rc hn hb
 refine Ri _ _ ((aY _).mpr trivial) ?_
 have hP:=P3.of (.atom dI) (.atom n) b
 have hbl:b.df<=400:=by simp only[E.df,E.ff]at hl;omega
 simp only[MV,toNat_one,bg,↓zq,zs,ae,zt,hP.1,hP.2.1,hP.2.2.1,hP.2.2.2,aM]
 refine⟨by omega,by omega,by omega,by omega,?_⟩
 have hf:=KC hn hb hw (by omega) (by omega)
 obtain⟨g,g1,g2,g3⟩:=K6 hn hb hw hbl hl
 simp only[bL]at hf g3
 refine aj hf ?_
 simp only[↓zq,zs,ae,zt,aM]
 refine⟨fun h=>⟨rfl,_,false,rfl,hw,hl⟩,fun h=>?_⟩
 repeat refine⟨by omega,?_⟩
 refine aj g3 ?_
 simp only[↓zq,zs,ae,zt,aM]
 refine⟨rfl,g,true,rfl,g1,?_⟩
 rw[g1.df [],g2]
 simpa using h
end Go.Proofs.Trees
namespace Go.Proofs.Trees
open Go Go.VL Go.RowKit
def ki(n:Nat):AV->Prop:=fun r=>∃e:E,r=.agg [.v (.string (mk e.at)),e.sp]/\e.ok/\(fj e).length<=n
theorem ki.u(n:Nat)(h:1<=n):ki n (.agg [.v (.string (mk [117])),.v (.slice none 0 0)]):=⟨.atom [117],rfl,by simp[E.ok],by simpa[fj]using h⟩
def kk(b:AV)(d:Int)(e:E)(B C:Nat):Prop:=∀p:Nat,p+C<pY->an Tryz.prog 64 [.ref 0 0,.agg [.v (.string (mk e.at)),e.sp],.v (.int .i64 d)] [.cells [b,.v (.int .i64 (p:Int))]] (fe b p C (ki B))
theorem kk.mono{b:AV}{d:Int}{e:E}{B C B' C':Nat}(h:kk b d e B C)(hB:B<=B')(hC:C<=C'):kk b d e B' C':=fun p hp=>an.mono (h p (by omega)) fun r o ⟨q,h1,h2,⟨g,h3,h4,h5⟩,h6⟩=>⟨q,h1,by omega,⟨g,h3,h4,by omega⟩,h6⟩
theorem o0(b:AV)(p C B:Nat)(h:1<=B):∃r o,fe b p C (ki B) r o:=fe.ne (ki.u B h)
theorem Tr(w:Nm)(e:E)(h:w.length=1):(fj (.list [.atom w,e])).length=(fj e).length+4:=by
 simp[fj,er];omega
theorem Ts(w:Nm)(e f:E)(h:w.length=1):(fj (.list [.atom w,e,f])).length=(fj e).length+(fj f).length+5:=by
 simp[fj,er];omega
theorem Ov{b:AV}{p q q' C B:Nat}{w:Nm}{e:E}(hw:w.length=1)(h1:p<=q)(h2:q<=p+1)(h3:q<=q')(h4:q'<=q+C)(ho:e.ok)(hl:(fj e).length<=B) :
 fe b p (C+1) (ki (B+5)) (.agg [.v (.string (mk [])),(E.list [.atom w,e]).sp]) [.cells [b,.v (.int .i64 (q':Int))]] :=
 ⟨q',by omega,by omega,⟨.list [.atom w,e],rfl,⟨by intro h;rw[h]at hw;simp at hw,ho,trivial⟩,by rw[Tr w e hw];omega⟩,rfl⟩
theorem OS(b:AV)(l:List UInt8)(hb:sJ b l)(d:Int){s:Nm}(hs:s≠[]):kk b d (.atom s) 5 1:=by
 intro p hp
 refine DH _ _ _ _ _ ((aY (.atom s)).mpr trivial) hb.has ?_
 simp only[B4,dV,↓zq,zs,ae]
 refine aj (zP s _ ((aY (.atom s)).mpr trivial) hs) ?_
 simp only[↓zq,zs,ae,zt]
 refine⟨fun h=>(by cases h),fun _=>⟨fun h=>(by cases h),fun _=>⟨fun h=>(by cases h),fun _=>⟨fun _=>?_,fun _=>?_⟩⟩⟩⟩
 ·exact⟨p,au _,by omega,ki.u 5 (by omega),rfl⟩
 ·refine aP (wv b l hb p 3 (by omega) (by decide)) (fe.ne ⟨0,rfl,fun h=>by omega,by omega⟩) ?_
  rintro r o ⟨q,h1,h2,⟨k,rfl,h3,h4⟩,rfl⟩
  have hk:k<3:=h3 (by omega)
  simp only[↓zq,zs,ae,aI,hb.has]
  refine aj (AE (k+1) k (by omega) (by omega)) ?_
  have hd:dd k=[bj (48+k)]:=eN (by omega)
  simp only[↓zq,zs,ae,zt,hd]
  refine⟨by simp,q,h1,h2,⟨.atom ([101]++[bj (48+k)]),rfl,by simp[E.ok],by simp[fj]⟩,rfl⟩
theorem Ls(b:AV)(l:List UInt8)(hb:sJ b l)(d:Int)(hd:-100000<=d/\d<=100000){n:Nm}{e:E}(hn:rr n)(he:Wf e)(hl:(E.list [.atom dI,.atom n,e]).df<=400)(B C:Nat)(ih:-12<=d->∀g,Wf g->g.df<=400->kk b (d-1) g B C)(hB:1<=B):kk b d (.list [.atom dI,.atom n,e]) (B+5) (C+1):=by
 intro p hp
 refine DH _ _ _ _ _ ((aY _).mpr trivial) hb.has ?_
 have ed:IntKind.wrap .i64 (d-1)=d-1:=VL.wrap64 _ (by omega) (by omega)
 simp only[B4,bL,↓zq,zs,ae,ed]
 refine aj (oq dI (.atom n) e) ?_
 simp only[↓zq,zs,ae,zt]
 have hu:=Ql hn he hl
 refine⟨fun h=>(by cases h),fun _=>⟨fun h=>(by cases h),fun _=>⟨fun _=>?_,fun h=>absurd rfl h⟩⟩⟩
 refine aP hu ⟨_,_,rfl,.atom [117],true,rfl,.atom (by simp),by simp[E.df]⟩ ?_
 rintro r o ⟨rfl,g,c,rfl,g1,g2⟩
 have u:fe b p (C+1) (ki (B+5)) (.agg [.v (.string (mk [117])),.v (.slice none 0 0)]) [.cells [b,.v (.int .i64 (p:Int))]]:=⟨p,au _,by omega,ki.u _ (by omega),rfl⟩
 simp only[↓zq,zs,ae,zt,aM]
 refine⟨fun _=>u,fun _=>⟨fun _=>u,fun hd2=>?_⟩⟩
 refine aP (ih (by omega) g g1 g2 p (by omega)) (o0 b p C B hB) ?_
 rintro r o ⟨q,h1,h2,⟨f,rfl,h4,h5⟩,rfl⟩
 simp only[↓zq,zs,ae,zt,aI,hb.has,aM]
 repeat refine⟨by omega,?_⟩
 refine aj (xM [102] f) ?_
 simp only[↓zq,zs,ae,zt,aI,hb.has,aM]
 have fin:=Ov (b:=b) (w:=[102]) rfl (au p) (by omega) h1 h2 h4 h5
 first|exact fin|exact⟨by omega,fin⟩
theorem M5(b:AV)(l:List UInt8)(hb:sJ b l)(d:Int)(hd:-100000<=d/\d<=100000){x y:E}(hx:Wf x)(hy:Wf y)(B1 C1 B2 C2:Nat)(ix:kk b (d-1) x B1 C1)(iy:kk b (d-1) y B2 C2)(hB:1<=B1)(hB2:1<=B2):kk b d (.list [.atom [42],x,y]) (B1+B2+5) (C1+C2+1):=by
 intro p hp
 refine DH _ _ _ _ _ ((aY _).mpr trivial) hb.has ?_
 have ed:IntKind.wrap .i64 (d-1)=d-1:=VL.wrap64 _ (by omega) (by omega)
 have hP:=P3.of (.atom [42]) x y
 simp only[B4,bL,toNat_one,bg,↓zq,zs,ae,zt,hP.1,hP.2.1,hP.2.2.1,hP.2.2.2,aM,ed]
 refine aj (oq [42] x y) ?_
 simp only[↓zq,zs,ae,zt]
 refine⟨fun h=>(by cases h),fun _=>⟨fun _=>?_,fun h=>absurd rfl h⟩⟩
 refine⟨by omega,by omega,aP (ix p (by omega)) (o0 b p C1 B1 hB) ?_⟩
 rintro r o ⟨q,h1,h2,⟨f,rfl,h4,h5⟩,rfl⟩
 simp only[↓zq,zs,ae,zt,aI,hb.has,aM]
 repeat refine⟨by omega,?_⟩
 refine aP (iy q (by omega)) (o0 b q C2 B2 hB2) ?_
 rintro r o ⟨q',g1,g2,⟨g,rfl,g4,g5⟩,rfl⟩
 simp only[↓zq,zs,ae,zt,aI,hb.has,aM]
 repeat refine⟨by omega,?_⟩
 refine aj (xS [112] f g) ?_
 simp only[↓zq,zs,ae,zt,aI,hb.has,aM]
 have fin:fe b p (C1+C2+1) (ki (B1+B2+5)) (.agg [.v (.string (mk [])),(E.list [.atom [112],f,g]).sp]) [.cells [b,.v (.int .i64 (q':Int))]]:=⟨q',by omega,by omega,⟨.list [.atom [112],f,g],rfl,⟨by simp[E.ok],h4,g4,trivial⟩,by rw[Ts [112] f g rfl];omega⟩,rfl⟩
 first|exact fin|exact⟨by omega,fin⟩
theorem LS(b:AV)(l:List UInt8)(hb:sJ b l)(d:Int)(hd:-100000<=d/\d<=100000){x y:E}(hx:Wf x)(hy:Wf y)(hl:(E.list [.atom [43],x,y]).df<=400)(B C:Nat)(ix:kk b (d-1) x B C)(iy:kk b (d-1) y B C)(hB:1<=B):kk b d (.list [.atom [43],x,y]) (B+5) (C+1):=by
 intro p hp
 refine DH _ _ _ _ _ ((aY _).mpr trivial) hb.has ?_
 have ed:IntKind.wrap .i64 (d-1)=d-1:=VL.wrap64 _ (by omega) (by omega)
 have hP:=P3.of (.atom [43]) x y
 simp only[E.df,E.ff]at hl
 have s1:=hx.sz
 have s2:=hy.sz
 simp only[B4,bL,toNat_one,bg,↓zq,zs,ae,zt,hP.1,hP.2.1,hP.2.2.1,hP.2.2.2,aM,ed]
 refine aj (oq [43] x y) ?_
 simp only[↓zq,zs,ae,zt]
 refine⟨fun _=>?_,fun h=>absurd rfl h⟩
 refine aP (wv b l hb p 2 (by omega) (by decide)) (fe.ne ⟨0,rfl,fun h=>by omega,by omega⟩) ?_
 rintro r o ⟨q,h1,h2,⟨k,rfl,_,_⟩,rfl⟩
 simp only[↓zq,zs,ae,zt,aI,hb.has,aM]
 have ex:=Lf hx [] (.sl []) (.of []) (by simp;omega)
 have ey:=Lf hy [] (.sl []) (.of []) (by simp;omega)
 have ax:=EG x hx.ok (by omega)
 have ay:=EG y hy.ok (by omega)
 rw[dq]at ax ay
 have lx:=ix q (by omega)
 have ly:=iy q (by omega)
 have t:=o0 b q C B hB
 have leaf:∀(w:Nm) (q':Nat) (f:E),w.length=1->q<=q'->q'<=q+C->f.ok->(fj f).length<=B->fe b p (C+1) (ki (B+5)) (.agg [.v (.string (mk [])),(E.list [.atom w,f]).sp]) [.cells [b,.v (.int .i64 (q':Int))]]:=fun w q' f hw g1 g2 h4 h5=>Ov hw h1 h2 g1 g2 h4 h5
 repeat' first
  |intro _
  |refine⟨by omega,?_⟩
  |(
   with_reducible refine aP lx t ?_
   rintro r o ⟨q',g1,g2,⟨f,rfl,h4,h5⟩,rfl⟩
   simp only[↓zq,zs,ae,zt,aI,hb.has,aM]
   repeat refine⟨by omega,?_⟩
   refine aj (xM _ f) ?_
   simp only[↓zq,zs,ae,zt,aI,hb.has,aM]
   have fin:=leaf [108] q' f rfl g1 g2 h4 h5
   first|exact fin|exact⟨by omega,fin⟩)
  |(
   with_reducible refine aP ly t ?_
   rintro r o ⟨q',g1,g2,⟨f,rfl,h4,h5⟩,rfl⟩
   simp only[↓zq,zs,ae,zt,aI,hb.has,aM]
   repeat refine⟨by omega,?_⟩
   refine aj (xM _ f) ?_
   simp only[↓zq,zs,ae,zt,aI,hb.has,aM]
   have fin:=leaf [114] q' f rfl g1 g2 h4 h5
   first|exact fin|exact⟨by omega,fin⟩)
  |(with_reducible refine ke.call ex fun _=>?_;simp only[↓zq,zs,ae,zt,aM])
  |(with_reducible refine ke.call ey fun _=>?_;simp only[↓zq,zs,ae,zt,aM])
  |(with_reducible refine aj ax ?_;simp only[↓zq,zs,ae,zt,aM])
  |(with_reducible refine aj ay ?_;simp only[↓zq,zs,ae,zt,aM])
  |with_reducible refine aH ?_ ?_
  |(exfalso;omega)
end Go.Proofs.Trees
namespace Go.Proofs.Trees
open Go Go.VL Go.RowKit
def nF:Nat->Nat
 |0=>2
 |d+1=>2*nF d+15
def nD:Nat->Nat
 |0=>3
 |d+1=>2*nD d+8
theorem RE(d:Nat):2<=nF d:=by cases d<;>simp only[nF]<;>omega
theorem Rb(d:Nat):3<=nD d:=by cases d<;>simp only[nD]<;>omega
theorem FU:∀d:Nat,d<=10->nF d<=100000000
 |0,_=>by decide
 |1,_=>by decide
 |2,_=>by decide
 |3,_=>by decide
 |4,_=>by decide
 |5,_=>by decide
 |6,_=>by decide
 |7,_=>by decide
 |8,_=>by decide
 |9,_=>by decide
 |10,_=>by decide
 |d+11,h=>by omega
theorem CY(b:AV)(l:List UInt8)(hb:sJ b l)(p:Nat)(hp:p<2*pY):an Tryz.prog 75 [.ref 0 0] [.cells [b,.v (.int .i64 (p:Int))]] (fe b p 1 (gA 60)):=by
 refine QG _ _ hb.has ?_
 unfold Jm
 refine aP (Ea b l hb p hp _ _ (.of [_,_,_,_,_,_,_]) (by simp) (by simp)) (fe.ne ⟨_,ak,rfl⟩) ?_
 rintro r o ⟨q,h1,h2,hr,rfl⟩
 obtain⟨s,rfl,hs⟩:=lD.cL (n:=60) (by decide) hr
 simp only[↓zq,zs,ae,aI,hb.has]
 exact⟨q,h1,h2,⟨s,rfl,hs⟩,rfl⟩
theorem Ia(b:AV)(l:List UInt8)(hb:sJ b l):∀(d:Nat),d<=10->∀(p:Nat) (ls:List (List UInt8)) (a:AV),cw a ls->(∀s,s∈ls->s.length<=2)->ls.length+d<=100->p+nD d<2*pY ->
 an Tryz.prog 144 [.ref 0 0,a,.v (.int .i64 (d:Int))] [.cells [b,.v (.int .i64 (p:Int))]] (fe b p (nD d) (gA (nF d))):=by
 intro d
 induction d with
 |
  zero =>
  intro hd p ls a ha hls hll hp
  simp only[nD]at hp
  refine Pf _ _ _ _ ha.1 hb.has ?_
  simp only[GW,↓zq,zs,ae,ha.len]
  refine⟨fun _=>⟨ha.1,fun hpos=>?_,fun _=>?_⟩,fun h=>by omega⟩
  ·refine aP (wv b l hb p 3 (by omega) (by decide)) (fe.ne ⟨0,rfl,fun h=>by omega,by omega⟩) ?_
   rintro r o ⟨q1,h1,h2,⟨k,rfl,h3,h4⟩,rfl⟩
   simp only[↓zq,zs,ae,aI,hb.has]
   refine⟨fun _=>⟨ha.1,?_⟩,fun _=>?_⟩
   ·refine aP (wv b l hb q1 ls.length (by omega) (by simp[pY];omega)) (fe.ne ⟨0,rfl,fun h=>by omega,by omega⟩) ?_
    rintro r o ⟨q2,g1,g2,⟨k2,rfl,g3,g4⟩,rfl⟩
    have hk:=g3 (by omega)
    simp only[↓zq,zs,ae,aI,hb.has,bF,ha.idx hk]
    have:fe b p (nD 0) (gA (nF 0)) (.v (.string (mk (ls.getD k2 [])))) [.cells [b,.v (.int .i64 (q2:Int))]]:=⟨q2,by omega,by simp only[nD];omega,⟨_,rfl,by
     have:=hls (ls.getD k2 []) (by simp[aa,hk]);simp only[nF];omega⟩,rfl⟩
    refine⟨⟨ha.1,by omega⟩,?_⟩
    repeat (first|exact this|refine⟨by omega,?_⟩)
   ·refine aP (Ea b l hb q1 (by omega) _ _ (.of [_,_,_,_,_,_]) (by simp) (by simp)) (fe.ne ⟨_,ak,rfl⟩) ?_
    rintro r o ⟨q2,g1,g2,hr,rfl⟩
    obtain⟨s,rfl,hs⟩:=lD.cL (n:=2) (by decide) hr
    simp only[↓zq,zs,ae,aI,hb.has]
    exact⟨q2,by omega,by simp only[nD];omega,⟨s,rfl,by simp only[nF];omega⟩,rfl⟩
  ·refine aP (Ea b l hb p (by omega) _ _ (.of [_,_,_,_,_,_]) (by simp) (by simp)) (fe.ne ⟨_,ak,rfl⟩) ?_
   rintro r o ⟨q2,g1,g2,hr,rfl⟩
   obtain⟨s,rfl,hs⟩:=lD.cL (n:=2) (by decide) hr
   simp only[↓zq,zs,ae,aI,hb.has]
   exact⟨q2,by omega,by simp only[nD];omega,⟨s,rfl,by simp only[nF];omega⟩,rfl⟩
 |
  succ d ih =>
  intro hd p ls a ha hls hll hp
  simp only[nD]at hp
  have hL:=RE d
  have hC:=Rb d
  have ih:=ih (by omega)
  have hL8:=FU d (by omega)
  have ed:IntKind.wrap .i64 (((d+1:Nat):Int)-1)=(d:Int):=by rw[VL.wrap64]<;>omega
  refine Pf _ _ _ _ ha.1 hb.has ?_
  simp only[GW,↓zq,zs,ae,ha.len,ed]
  refine⟨fun h=>by omega,fun _=>?_⟩
  refine aP (wv b l hb p 4 (by omega) (by decide)) (fe.ne ⟨0,rfl,fun h=>by omega,by omega⟩) ?_
  rintro r o ⟨q0,a1,a2,⟨k0,rfl,_,_⟩,rfl⟩
  simp only[↓zq,zs,ae,aI,hb.has]
  refine⟨fun _=>⟨ha.1,fun hpos=>?_,fun _=>?_⟩,fun _=>?_⟩
  ·refine aP (wv b l hb q0 3 (by omega) (by decide)) (fe.ne ⟨0,rfl,fun h=>by omega,by omega⟩) ?_
   rintro r o ⟨q1,h1,h2,⟨k,rfl,h3,h4⟩,rfl⟩
   simp only[↓zq,zs,ae,aI,hb.has]
   refine⟨fun _=>⟨ha.1,?_⟩,fun _=>?_⟩
   ·refine aP (wv b l hb q1 ls.length (by omega) (by simp[pY];omega)) (fe.ne ⟨0,rfl,fun h=>by omega,by omega⟩) ?_
    rintro r o ⟨q2,g1,g2,⟨k2,rfl,g3,g4⟩,rfl⟩
    have hk:=g3 (by omega)
    simp only[↓zq,zs,ae,aI,hb.has,bF,ha.idx hk]
    have:fe b p (nD (d+1)) (gA (nF (d+1))) (.v (.string (mk (ls.getD k2 [])))) [.cells [b,.v (.int .i64 (q2:Int))]]:=⟨q2,by omega,by simp only[nD];omega,⟨_,rfl,by
     have:=hls (ls.getD k2 []) (by simp[aa,hk]);simp only[nF];omega⟩,rfl⟩
    refine⟨⟨ha.1,by omega⟩,?_⟩
    repeat (first|exact this|refine⟨by omega,?_⟩)
   ·refine aP (Ea b l hb q1 (by omega) _ _ (.of [_,_,_,_,_,_]) (by simp) (by simp)) (fe.ne ⟨_,ak,rfl⟩) ?_
    rintro r o ⟨q2,g1,g2,hr,rfl⟩
    obtain⟨s,rfl,hs⟩:=lD.cL (n:=2) (by decide) hr
    simp only[↓zq,zs,ae,aI,hb.has]
    exact⟨q2,by omega,by simp only[nD];omega,⟨s,rfl,by simp only[nF];omega⟩,rfl⟩
  ·refine aP (Ea b l hb q0 (by omega) _ _ (.of [_,_,_,_,_,_]) (by simp) (by simp)) (fe.ne ⟨_,ak,rfl⟩) ?_
   rintro r o ⟨q2,g1,g2,hr,rfl⟩
   obtain⟨s,rfl,hs⟩:=lD.cL (n:=2) (by decide) hr
   simp only[↓zq,zs,ae,aI,hb.has]
   exact⟨q2,by omega,by simp only[nD];omega,⟨s,rfl,by simp only[nF];omega⟩,rfl⟩
  ·refine aP (wv b l hb q0 5 (by omega) (by decide)) (fe.ne ⟨0,rfl,fun h=>by omega,by omega⟩) ?_
   rintro r o ⟨q1,b1,b2,⟨k1,rfl,c3,_⟩,rfl⟩
   have hk1:=c3 (by omega)
   obtain rfl|rfl|rfl|rfl|rfl:k1=0\/k1=1\/k1=2\/k1=3\/k1=4:=by omega
   ·simp only[↓zq,zs,ae,aI,hb.has]
    refine⟨fun _=>?_,fun h=>absurd rfl h⟩
    refine aP (ih q1 ls a ha hls (by omega) (by omega)) (fe.ne ⟨[],rfl,by simp⟩) ?_
    rintro r o ⟨q2,d1,d2,⟨s1,rfl,d3⟩,rfl⟩
    simp only[↓zq,zs,ae,zt,aI,hb.has,aq]
    repeat refine⟨by first|omega|(simp only[aq,az,aG];omega),?_⟩
    refine aP (ih q2 ls a ha hls (by omega) (by omega)) (fe.ne ⟨[],rfl,by simp⟩) ?_
    rintro r o ⟨q3,e1,e2,⟨s2,rfl,e3⟩,rfl⟩
    simp only[↓zq,zs,ae,zt,aI,hb.has,aq]
    have fin:∀s:List UInt8,s.length<=nF (d+1)->fe b p (nD (d+1)) (gA (nF (d+1))) (.v (.string (mk s))) [.cells [b,.v (.int .i64 (q3:Int))]]:=fun s hs=>⟨q3,by omega,by simp only[nD];omega,⟨s,rfl,hs⟩,rfl⟩
    repeat (first|exact fin _ (by simp only[aq,az,aG,nF];omega)|refine⟨by first|omega|(simp only[aq,az,aG];omega),?_⟩)
   ·simp only[↓zq,zs,ae,aI,hb.has]
    refine⟨fun h=>by omega,fun _=>⟨fun _=>?_,fun h=>absurd rfl h⟩⟩
    refine aP (ih q1 ls a ha hls (by omega) (by omega)) (fe.ne ⟨[],rfl,by simp⟩) ?_
    rintro r o ⟨q2,d1,d2,⟨s1,rfl,d3⟩,rfl⟩
    simp only[↓zq,zs,ae,zt,aI,hb.has,aq]
    repeat refine⟨by first|omega|(simp only[aq,az,aG];omega),?_⟩
    refine aP (ih q2 ls a ha hls (by omega) (by omega)) (fe.ne ⟨[],rfl,by simp⟩) ?_
    rintro r o ⟨q3,e1,e2,⟨s2,rfl,e3⟩,rfl⟩
    simp only[↓zq,zs,ae,zt,aI,hb.has,aq]
    have fin:∀s:List UInt8,s.length<=nF (d+1)->fe b p (nD (d+1)) (gA (nF (d+1))) (.v (.string (mk s))) [.cells [b,.v (.int .i64 (q3:Int))]]:=fun s hs=>⟨q3,by omega,by simp only[nD];omega,⟨s,rfl,hs⟩,rfl⟩
    repeat (first|exact fin _ (by simp only[aq,az,aG,nF];omega)|refine⟨by first|omega|(simp only[aq,az,aG];omega),?_⟩)
   ·simp only[↓zq,zs,ae,aI,hb.has]
    refine⟨fun h=>by omega,fun _=>⟨fun h=>by omega,fun _=>⟨fun _=>?_,fun h=>absurd rfl h⟩⟩⟩
    refine aP (ih q1 ls a ha hls (by omega) (by omega)) (fe.ne ⟨[],rfl,by simp⟩) ?_
    rintro r o ⟨q2,d1,d2,⟨s1,rfl,d3⟩,rfl⟩
    simp only[↓zq,zs,ae,zt,aI,hb.has,aq]
    repeat refine⟨by first|omega|(simp only[aq,az,aG];omega),?_⟩
    refine aP (ih q2 ls a ha hls (by omega) (by omega)) (fe.ne ⟨[],rfl,by simp⟩) ?_
    rintro r o ⟨q3,e1,e2,⟨s2,rfl,e3⟩,rfl⟩
    simp only[↓zq,zs,ae,zt,aI,hb.has,aq]
    have fin:∀s:List UInt8,s.length<=nF (d+1)->fe b p (nD (d+1)) (gA (nF (d+1))) (.v (.string (mk s))) [.cells [b,.v (.int .i64 (q3:Int))]]:=fun s hs=>⟨q3,by omega,by simp only[nD];omega,⟨s,rfl,hs⟩,rfl⟩
    repeat (first|exact fin _ (by simp only[aq,az,aG,nF];omega)|refine⟨by first|omega|(simp only[aq,az,aG];omega),?_⟩)
   ·simp only[↓zq,zs,ae,aI,hb.has]
    refine⟨fun h=>by omega,fun _=>⟨fun h=>by omega,fun _=>⟨fun h=>by omega,fun _=>⟨fun _=>?_,fun h=>absurd rfl h⟩⟩⟩⟩
    refine aP (ih q1 ls a ha hls (by omega) (by omega)) (fe.ne ⟨[],rfl,by simp⟩) ?_
    rintro r o ⟨q2,d1,d2,⟨s1,rfl,d3⟩,rfl⟩
    simp only[↓zq,zs,ae,zt,aI,hb.has,aq]
    repeat refine⟨by first|omega|(simp only[aq,az,aG];omega),?_⟩
    refine aP (ih q2 ls a ha hls (by omega) (by omega)) (fe.ne ⟨[],rfl,by simp⟩) ?_
    rintro r o ⟨q3,e1,e2,⟨s2,rfl,e3⟩,rfl⟩
    simp only[↓zq,zs,ae,zt,aI,hb.has,aq]
    have fin:∀s:List UInt8,s.length<=nF (d+1)->fe b p (nD (d+1)) (gA (nF (d+1))) (.v (.string (mk s))) [.cells [b,.v (.int .i64 (q3:Int))]]:=fun s hs=>⟨q3,by omega,by simp only[nD];omega,⟨s,rfl,hs⟩,rfl⟩
    repeat (first|exact fin _ (by simp only[aq,az,aG,nF];omega)|refine⟨by first|omega|(simp only[aq,az,aG];omega),?_⟩)
   ·simp only[↓zq,zs,ae,aI,hb.has]
    refine⟨fun h=>by omega,fun _=>⟨fun h=>by omega,fun _=>⟨fun h=>by omega,fun _=>⟨fun h=>by omega,fun _=>?_⟩⟩⟩⟩
    refine aP (Ea b l hb q1 (by omega) _ _ (.of [_,_,_]) (by simp) (by simp)) (fe.ne ⟨_,ak,rfl⟩) ?_
    rintro r o ⟨q2,g1,g2,hr,rfl⟩
    obtain⟨s,rfl,hs⟩:=lD.cL (n:=2) (by decide) hr
    simp only[↓zq,zs,ae,zt,aI,hb.has]
    repeat refine⟨by first|omega|(simp only[aq,az,aG];omega),?_⟩
    refine aV (HS ls a ha s (by omega)) ?_
    simp only[↓zq,zs,ae,Ob.es,aL]
    refine⟨dW _,?_⟩
    refine aP (ih q2 (ls++[s]) _ (.of _) (fun w hw=>by
     rcases aN.1 hw with hw|hw
     ·exact hls w hw
     ·simp at hw;rw[hw];exact hs) (by simp;omega) (by omega)) (fe.ne ⟨[],rfl,by simp⟩) ?_
    rintro r o ⟨q3,e1,e2,⟨s2,rfl,e3⟩,rfl⟩
    simp only[↓zq,zs,ae,zt,aI,hb.has,aq]
    have fin:∀s:List UInt8,s.length<=nF (d+1)->fe b p (nD (d+1)) (gA (nF (d+1))) (.v (.string (mk s))) [.cells [b,.v (.int .i64 (q3:Int))]]:=fun s hs=>⟨q3,by omega,by simp only[nD];omega,⟨s,rfl,hs⟩,rfl⟩
    repeat (first|exact fin _ (by simp only[aq,az,aG,nF];omega)|refine⟨by first|omega|(simp only[aq,az,aG];omega),?_⟩)
end Go.Proofs.Trees
namespace Go.Proofs.Trees
open Go Go.VL Go.RowKit
theorem fe.mono{b:AV}{p c c':Nat}{X Y:AV->Prop}(hc:c<=c')(h:∀r,X r->Y r){r:AV}{o:List Ob}(hr:fe b p c X r o):fe b p c' Y r o:=by
 obtain⟨q,h1,h2,h3,h4⟩:=hr;exact⟨q,h1,by omega,h r h3,h4⟩
theorem gA.le{n m:Nat}(h:n<=m){r:AV}(hr:gA n r):gA m r:=by obtain⟨s,h1,h2⟩:=hr;exact⟨s,h1,by omega⟩
theorem PV(b:AV)(l:List UInt8)(hb:sJ b l)(p:Nat)(hp:p<pY):an Tryz.prog 143 [.ref 0 0] [.cells [b,.v (.int .i64 (p:Int))]] (fe b p 100 (gA 200)):=by
 refine PD _ _ hb.has ?_
 unfold Jn
 have hfar:pY=1000000000000000:=rfl
 refine aP (wv b l hb p 12 (by omega) (by decide)) (fe.ne ⟨0,rfl,fun h=>by omega,by omega⟩) ?_
 rintro r o ⟨q,h1,h2,⟨k,rfl,_,_⟩,rfl⟩
 have kn:∀(c m:Nat) (r:AV) (o:List Ob),c<=90->m<=200->fe b q c (gA m) r o->∃q':Nat,∃s:List UInt8,r=.v (.string (mk s))/\o=[.cells [b,.v (.int .i64 (q':Int))]]/\fe b p 100 (gA 200) (.v (.string (mk s))) [.cells [b,.v (.int .i64 (q':Int))]]:=by
  rintro c m r o hc hm ⟨q',g1,g2,⟨s,rfl,hs⟩,rfl⟩
  exact⟨q',s,rfl,rfl,q',by omega,by omega,⟨s,rfl,by omega⟩,rfl⟩
 simp only[↓zq,zs,ae,aI,hb.has]
 refine⟨fun _=>?_,fun _=>⟨fun _=>?_,fun _=>⟨fun _=>?_,fun _=>⟨fun _=>?_,fun _=>⟨fun _=>?_,fun _=>?_⟩⟩⟩⟩⟩
 ·refine aP (Ea b l hb q (by omega) _ _ (.of [_,_,_,_,_,_,_,_,_]) (by simp) (by simp)) (fe.ne ⟨_,ak,rfl⟩) ?_
  intro r o hr
  obtain⟨q',s,rfl,rfl,hd⟩:=kn 1 20 r o (by omega) (by omega) (hr.mono (au _) fun r h=>lD.cL (n:=20) (by decide) h)
  simp only[↓zq,zs,ae,aI,hb.has];exact hd
 ·refine aP (CY b l hb q (by omega)) (fe.ne ⟨[],rfl,by simp⟩) ?_
  intro r o hr
  obtain⟨q',s,rfl,rfl,hd⟩:=kn _ _ r o (by omega) (by omega) hr
  simp only[↓zq,zs,ae,aI,hb.has];exact hd
 ·refine aP (CY b l hb q (by omega)) (fe.ne ⟨[],rfl,by simp⟩) ?_
  intro r o hr
  obtain⟨q',s,rfl,rfl,hd⟩:=kn _ _ r o (by omega) (by omega) hr
  simp only[↓zq,zs,ae,aI,hb.has];exact hd
 ·refine aP (CY b l hb q (by omega)) (fe.ne ⟨[],rfl,by simp⟩) ?_
  intro r o hr
  obtain⟨q',s,rfl,rfl,hd⟩:=kn _ _ r o (by omega) (by omega) hr
  simp only[↓zq,zs,ae,aI,hb.has];exact hd
 ·refine aP (Ia b l hb 2 (by omega) q [[116],[116,49]] _ (cw.of [[116],[116,49]]) (by decide) (by simp) (by simp[nD];omega)) (fe.ne ⟨[],rfl,by simp⟩) ?_
  intro r o hr
  obtain⟨q',s,rfl,rfl,hd⟩:=kn _ _ r o (by simp[nD]) (by simp[nF]) hr
  simp only[↓zq,zs,ae,aI,hb.has];exact hd
 ·refine aP (Ia b l hb 3 (by omega) q [] _ (cw.of []) (by simp) (by simp) (by simp[nD];omega)) (fe.ne ⟨[],rfl,by simp⟩) ?_
  intro r o hr
  obtain⟨q',s,rfl,rfl,hd⟩:=kn _ _ r o (by simp[nD]) (by simp[nF]) hr
  simp only[↓zq,zs,ae,aI,hb.has];exact hd
def yU(a:AV):Prop:=LK.sl.has a/\∃l:List UInt8,a.elems=qt l
def Pm(r:AV)(o:List Ob):Prop:=∃(b:AV) (l:List UInt8),sJ b l/\r=.ref 0 0/\o=[.cells [b,.v (.int .i64 0)]]
theorem Pm.ne:∃r o,Pm r o:=⟨_,_,.v (.slice none 0 0),[],⟨(bh).mpr trivial,rfl,by simp⟩,rfl,rfl⟩
theorem Qb(a:AV)(ha:yU a):an Tryz.prog 32 [a] [] Pm:=by
 obtain⟨hs,l,hl⟩:=ha
 have hln:a.elems.length=l.length:=by rw[hl];simp[qt]
 refine QN _ hs ?_
 simp only[Lv,↓zq,zs,ae,hln]
 refine⟨hs,fun h=>⟨⟨hs,by omega⟩,?_⟩,fun h=>?_⟩
 ·refine⟨_,l.take 2000,⟨(cn _).mpr trivial,?_,?_⟩,rfl,rfl⟩
  ·rw[fL,hl];simp[qt]
  ·simp;omega
 ·exact⟨a,l,⟨hs,hl,by omega⟩,rfl,rfl⟩
end Go.Proofs.Trees
namespace Go.Proofs.Trees
open Go Go.VL Go.RowKit
theorem BE(b:AV)(l:List UInt8)(hb:sJ b l){e:E}(h:Wf e):∀d:Int,d<=-13->-50000+(e.sz:Int)<=d->e.df<=400->kk b d e (5*e.sz) e.sz:=by
 induction h with
 |
  @atom s hs =>
  intro d h1 h2 h3
  exact(OS b l hb d hs).mono (by simp[E.sz]) (by simp[E.sz])
 |
  @plus x y hx hy i1 i2 =>
  intro d h1 h2 h3
  have h4:=h3
  simp only[E.sz,E.jB,E.df,E.ff]at h2 h4 |-
  exact(LS b l hb d (by omega) hx hy h3 (5*(x.sz+y.sz)+1) (x.sz+y.sz) ((i1 (d-1) (by omega) (by omega) (by omega)).mono (by omega) (by omega)) ((i2 (d-1) (by omega) (by omega) (by omega)).mono (by omega) (by omega)) (by omega)).mono (by omega) (by omega)
 |
  @times x y hx hy i1 i2 =>
  intro d h1 h2 h3
  have h4:=h3
  simp only[E.sz,E.jB,E.df,E.ff]at h2 h4 |-
  exact(M5 b l hb d (by omega) hx hy (5*x.sz+1) x.sz (5*y.sz+1) y.sz ((i1 (d-1) (by omega) (by omega) (by omega)).mono (by omega) (by omega)) ((i2 (d-1) (by omega) (by omega) (by omega)).mono (by omega) (by omega)) (by omega) (by omega)).mono (by omega) (by omega)
 |
  @rc n x hn hx i =>
  intro d h1 h2 h3
  simp only[E.sz,E.jB]at h2 |-
  exact(Ls b l hb d (by omega) hn hx h3 1 0 (fun h=>absurd h (by omega)) (by omega)).mono (by omega) (by omega)
def pI:Nat->Nat
 |0=>6100
 |n+1=>2*pI n+5
theorem I6:∀n,6100<=pI n
 |0=>au _
 |n+1=>by have:=I6 n;simp only[pI];omega
theorem xb:∀n k:Nat,pI (n+k)+5=2 ^ k*(pI n+5)
 |n,0=>by simp
 |
  n,k+1=>by
  have:=xb n k
  rw[show n+(k+1)=n+k+1 from rfl,pI,Nat.pow_succ,Nat.mul_comm (2 ^ k) 2,Nat.mul_assoc,<-this];omega
theorem B9{n m:Nat}(h:n<=m):pI n<=pI m:=by
 obtain⟨k,rfl⟩:=Nat.exists_eq_add_of_le h
 have:=xb n k
 have h2:1*(pI n+5)<=2 ^ k*(pI n+5):=a7 _ Nat.one_le_two_pow
 omega
theorem LM:pI 22<=30000000000:=by
 have:=xb 0 22
 simp only[aW]at this
 have h0:pI 0=6100:=rfl
 rw[h0]at this
 omega
theorem zu(b:AV)(l:List UInt8)(hb:sJ b l):∀n:Nat,n<=40->∀e,Wf e->e.df<=400->kk b ((n:Int)-13) e (pI n) (pI n)
 |
  0,hn,e,h,hl=>by
  have:=h.sz
  exact(BE b l hb h _ (by simp) (by simp;omega) hl).mono (by simp only[pI];omega) (by simp only[pI];omega)
 |
  n+1,hn,e,h,hl=>by
  have hb1:=I6 n
  have ih:∀g,Wf g->g.df<=400->kk b (((n+1:Nat):Int)-13-1) g (pI n) (pI n):=by
   rw[show ((n+1:Nat):Int)-13-1=(n:Int)-13 by omega];exact zu b l hb n (by omega)
  cases h with
  |@atom s hs=>exact(OS b l hb _ hs).mono (by simp only[pI];omega) (by simp only[pI];omega)
  |
   @plus x y hx hy =>
   have h4:=hl
   simp only[E.df,E.ff]at h4
   exact(LS b l hb _ (by omega) hx hy hl _ _ (ih x hx (by omega)) (ih y hy (by omega)) (by omega)).mono (by simp only[pI];omega) (by simp only[pI];omega)
  |
   @times x y hx hy =>
   simp only[E.df,E.ff]at hl
   exact(M5 b l hb _ (by omega) hx hy _ _ _ _ (ih x hx (by omega)) (ih y hy (by omega)) (by omega) (by omega)).mono (by simp only[pI];omega) (by simp only[pI];omega)
  |@rc m x hm hx=>exact(Ls b l hb _ (by omega) hm hx hl _ _ (fun _=>ih) (by omega)).mono (by simp only[pI];omega) (by simp only[pI];omega)
theorem Hz(b:AV)(l:List UInt8)(hb:sJ b l)(p:Nat)(hp:p<100000000000000)(s:Nm):an Tryz.prog 39 [.ref 0 0,.v (.string (mk s))] [.cells [b,.v (.int .i64 (p:Int))]] (fe b p 40000000000 (gA 40000000000)):=by
 refine P6 _ _ _ hb.has ?_
 have hfar:pY=1000000000000000:=rfl
 have oneL:∀(q:Nat) (r:AV) (o:List Ob),p<=q->q<=p+1->fe b q 1 (lD [[],[117],[101,48],[101,48,48],[101,49,48,48],[40,108,32,117,41],[40,112,32,117,41],[40,102,32,40,108,32,117,41,41],[40,120,32,117,41],[40,108,32,32,117,41]]) r o->∃q':Nat,∃t:List UInt8,r=.v (.string (mk t))/\o=[.cells [b,.v (.int .i64 (q':Int))]]/\fe b p 40000000000 (gA 40000000000) (.v (.string (mk t))) [.cells [b,.v (.int .i64 (q':Int))]]:=by
  rintro q r o h1 h2 ⟨q',g1,g2,hr,rfl⟩
  obtain⟨t,rfl,ht⟩:=lD.cL (n:=20) (by decide) hr
  exact⟨q',t,rfl,rfl,q',by omega,by omega,⟨t,rfl,by omega⟩,rfl⟩
 unfold OB
 refine aP (HU s) (jP.ne _ _ (fun h=>h)) ?_
 rintro r o ⟨c,d,hd,rfl,hh⟩
 have hhas:bH [.str,.sl] [.v (.string (mk c)),d] 0:=by simp[bH,ef,hd]
 simp only[↓zq,zs,ae,zt]
 refine⟨hhas,fun h=>?_,fun h=>?_⟩
 ·refine aP (Ea b l hb p (by omega) _ _ (.of [_,_,_,_,_,_,_,_,_,_]) (by simp) (by simp)) (fe.ne ⟨_,ak,rfl⟩) ?_
  intro r o hr
  obtain⟨q',t,rfl,rfl,hd⟩:=oneL p r o (au _) (by omega) hr
  simp only[↓zq,zs,ae,aI,hb.has];exact hd
 ·obtain⟨e,he,hce⟩:=hh (by simpa using h)
  obtain⟨t,h1,hA,h3,h4,h5,_⟩:=hD he
  rw[dq]at hce
  simp only[AV.agg.injEq,List.cons.injEq,AV.v.injEq,Value.string.injEq,and_true]at hce
  obtain⟨hc1,rfl⟩:=hce
  have hc2:=mk_inj hc1
  subst hc2
  obtain⟨hw,hwt⟩:=kK e [] t hA.ok (by simp) hA.ty
  have hats:e.df<=400:=by rw[hw.df [],hwt];exact h5
  have hsz:=hw.sz
  refine aP (wv b l hb p 16 (by omega) (by decide)) (fe.ne ⟨0,rfl,fun h=>by omega,by omega⟩) ?_
  rintro r o ⟨q,h1,h2,⟨k,rfl,_,_⟩,rfl⟩
  simp only[↓zq,zs,ae,aI,hb.has]
  refine⟨fun _=>?_,fun _=>?_⟩
  ·refine aP (Ea b l hb q (by omega) _ _ (.of [_,_,_,_,_,_,_,_,_,_]) (by simp) (by simp)) (fe.ne ⟨_,ak,rfl⟩) ?_
   intro r o hr
   obtain⟨q',t,rfl,rfl,hd⟩:=oneL q r o h1 h2 hr
   simp only[↓zq,zs,ae,aI,hb.has];exact hd
  ·obtain⟨w1,w2,_⟩:=xe (os:=[]) hw
   have hap:=D7 hw (.v (.slice none 0 0)) [] ⟨(bh).mpr trivial,rfl⟩ (by omega) (by simp) (by simp)
   refine aj hap ?_
   simp only[↓zq,zs,ae,zt,aM]
   repeat refine⟨by omega,?_⟩
   have hats2:(zN e []).df<=400:=by rw[w1.df [],w2,<-hw.df []];exact hats
   refine aP (wv b l hb q 5 (by omega) (by decide)) (fe.ne ⟨0,rfl,fun h=>by omega,by omega⟩) ?_
   rintro r o ⟨q1,g1,g2,⟨k1,rfl,c3,_⟩,rfl⟩
   have hk1:=c3 (by omega)
   simp only[↓zq,zs,ae,zt,aI,hb.has,aM]
   have ed:IntKind.wrap .i64 (5+(k1:Int))=((18+k1:Nat):Int)-13:=by rw[VL.wrap64 _ (by omega) (by omega)];omega
   have hB:=LM
   have hB2:pI (18+k1)<=pI 22:=B9 (by omega)
   have hB3:=I6 (18+k1)
   rw[ed]
   refine aP (zu b l hb (18+k1) (by omega) (zN e []) w1 hats2 q1 (by omega)) (o0 b q1 _ _ (by omega)) ?_
   rintro r o ⟨q2,d1,d2,⟨f,rfl,f1,f2⟩,rfl⟩
   simp only[↓zq,zs,ae,zt,aI,hb.has,aM]
   repeat refine⟨by omega,?_⟩
   have ht:=Ej (f.sz+1) f (by omega) f1 (by omega)
   rw[dq]at ht
   refine aj ht ?_
   simp only[↓zq,zs,ae,zt,aI,hb.has,aM]
   exact⟨q2,by omega,by omega,⟨fj f,rfl,by omega⟩,rfl⟩
theorem Rx(b:AV)(l:List UInt8)(hb:sJ b l)(p:Nat)(hp:p<100000000000000):an Tryz.prog 106 [.ref 0 0] [.cells [b,.v (.int .i64 (p:Int))]] (fe b p 200 (gA 200)):=by
 refine Rg _ _ hb.has ?_
 unfold OU
 have hfar:pY=1000000000000000:=rfl
 refine aP (wv b l hb p 8 (by omega) (by decide)) (fe.ne ⟨0,rfl,fun h=>by omega,by omega⟩) ?_
 rintro r o ⟨q,h1,h2,⟨k,rfl,_,_⟩,rfl⟩
 have kn:∀(c m:Nat) (r:AV) (o:List Ob),c<=190->m<=200->fe b q c (gA m) r o->∃q':Nat,∃s:List UInt8,r=.v (.string (mk s))/\o=[.cells [b,.v (.int .i64 (q':Int))]]/\fe b p 200 (gA 200) (.v (.string (mk s))) [.cells [b,.v (.int .i64 (q':Int))]]:=by
  rintro c m r o hc hm ⟨q',g1,g2,⟨s,rfl,hs⟩,rfl⟩
  exact⟨q',s,rfl,rfl,q',by omega,by omega,⟨s,rfl,by omega⟩,rfl⟩
 have sh:=Ia b l hb 3 (by omega) q [] _ (cw.of []) (by simp) (by simp) (by simp[nD];omega)
 have ty:=PV b l hb q (by omega)
 have kw:=CY b l hb q (by omega)
 simp only[↓zq,zs,ae,aI,hb.has]
 refine⟨fun _=>?_,fun _=>⟨fun _=>?_,fun _=>⟨fun _=>?_,fun _=>⟨fun _=>?_,fun _=>?_⟩⟩⟩⟩
 ·refine aP ty (fe.ne ⟨[],rfl,by simp⟩) ?_
  intro r o hr
  obtain⟨q',s,rfl,rfl,hd⟩:=kn _ _ r o (by omega) (by omega) hr
  simp only[↓zq,zs,ae,aI,hb.has];exact hd
 ·refine aP sh (fe.ne ⟨[],rfl,by simp⟩) ?_
  intro r o hr
  obtain⟨q',s,rfl,rfl,hd⟩:=kn _ _ r o (by simp[nD]) (by simp[nF]) hr
  simp only[↓zq,zs,ae,aI,hb.has];exact hd
 ·refine aP sh (fe.ne ⟨[],rfl,by simp⟩) ?_
  intro r o hr
  obtain⟨q',s,rfl,rfl,hd⟩:=kn _ _ r o (by simp[nD]) (by simp[nF]) hr
  simp only[↓zq,zs,ae,aI,hb.has];exact hd
 ·refine aP sh (fe.ne ⟨[],rfl,by simp⟩) ?_
  intro r o hr
  obtain⟨q',s,rfl,rfl,hd⟩:=kn _ _ r o (by simp[nD]) (by simp[nF]) hr
  simp only[↓zq,zs,ae,aI,hb.has];exact hd
 ·refine aP kw (fe.ne ⟨[],rfl,by simp⟩) ?_
  intro r o hr
  obtain⟨q',s,rfl,rfl,hd⟩:=kn _ _ r o (by omega) (by omega) hr
  simp only[↓zq,zs,ae,aI,hb.has];exact hd
def KB:AV->Prop:=fun r=>∃s t:Nm,r=.cI [.v (.string (mk s)),.v (.string (mk t))]
theorem Ra(b:AV)(l:List UInt8)(hb:sJ b l)(p:Nat)(hp:p<10000000000000):an Tryz.prog 76 [.ref 0 0] [.cells [b,.v (.int .i64 (p:Int))]] (fe b p 50000000000 KB):=by
 refine Rp _ _ hb.has ?_
 unfold Ko
 refine aP (Rx b l hb p (by omega)) (fe.ne ⟨[],rfl,by simp⟩) ?_
 rintro r o ⟨q,h1,h2,⟨s,rfl,_⟩,rfl⟩
 simp only[↓zq,zs,ae,aI,hb.has]
 refine aP (Hz b l hb q (by omega) s) (fe.ne ⟨[],rfl,by simp⟩) ?_
 rintro r o ⟨q1,g1,g2,⟨t,rfl,_⟩,rfl⟩
 simp only[↓zq,zs,ae,aI,hb.has]
 exact⟨q1,by omega,by omega,⟨s,t,rfl⟩,rfl⟩
theorem Qr(b:AV)(l:List UInt8)(hb:sJ b l)(p:Nat)(hp:p<1000000000000):an Tryz.prog 53 [.ref 0 0] [.cells [b,.v (.int .i64 (p:Int))]] (fe b p 60000000000 KB):=by
 refine SF _ _ hb.has ?_
 unfold NU
 have hfar:pY=1000000000000000:=rfl
 refine aP (CY b l hb p (by omega)) (fe.ne ⟨[],rfl,by simp⟩) ?_
 rintro r o ⟨q,h1,h2,⟨s,rfl,_⟩,rfl⟩
 simp only[↓zq,zs,ae,aI,hb.has]
 refine aP (wv b l hb q 12 (by omega) (by decide)) (fe.ne ⟨0,rfl,fun h=>by omega,by omega⟩) ?_
 rintro r o ⟨q1,g1,g2,⟨k,rfl,_,_⟩,rfl⟩
 simp only[↓zq,zs,ae,aI,hb.has]
 refine⟨fun _=>?_,fun _=>?_⟩
 ·refine aP (Ra b l hb q1 (by omega)) (fe.ne ⟨[],[],rfl⟩) ?_
  rintro r o ⟨q2,e1,e2,⟨x,y,rfl⟩,rfl⟩
  simp only[↓zq,zs,ae,zt,aI,hb.has]
  exact⟨q2,by omega,by omega,⟨x,y,rfl⟩,rfl⟩
 ·refine aP (Hz b l hb q1 (by omega) s) (fe.ne ⟨[],rfl,by simp⟩) ?_
  rintro r o ⟨q2,e1,e2,⟨t,rfl,_⟩,rfl⟩
  simp only[↓zq,zs,ae,aI,hb.has]
  exact⟨q2,by omega,by omega,⟨s,t,rfl⟩,rfl⟩
end Go.Proofs.Trees
namespace Go.Proofs.Trees
open Go Go.VL Go.RowKit
theorem Cn(w:Nm)(c1 c2:Nm)(d1 d2:AV):an Tryz.prog 81 [.v (.string (mk w)),.sl [[.v (.string (mk c1)),d1],[.v (.string (mk c2)),d2]]] [] (bJ (.agg [.v (.string (mk [])),.sl [[.v (.string (mk w)),yN],[.v (.string (mk c1)),d1],[.v (.string (mk c2)),d2]]])):=by
 refine JA _ _ ((cn _).mpr trivial) ?_
 simp only[H2,↓zq,zs,ae,bJ]
 exact⟨⟨fun c hc=>by
  simp only[aK,List.not_mem_nil,or_false]at hc
  rcases hc with rfl|rfl<;>rfl,by omega⟩,rfl⟩
theorem L7(F:List Nm)(hF:F.length<100000)(c1 c2:Nm)(d1 d2:AV)(h1:LK.sl.has d1)(h2:LK.sl.has d2):∀(n j:Nat),qm F n j<j+n->j+n<100000000 ->
 IY [.v (.int .i64 (j:Int))] [zE,.cells [.v (.string (mk c1)),d1],.cells [.v (.string (mk c2)),d2],.vec 1 (bG F)] (iq 1 [.v (.int .i64 (qm F n j:Int))] [zE,.cells [.v (.string (mk c1)),d1],.cells [.v (.string (mk c2)),d2]])
 |0,j,h,_=>by simp only[qm]at h;omega
 |
  n+1,j,h,hj=>by
  refine QL _ _ _ _ _ _ _ _ ?_
  simp only[Mz,↓zq,zs,ae,zt,ae,bh,h1,h2]
  refine aj (AE (j+1) j (by omega) (by omega)) ?_
  have hd:=mT (j+1) j (by omega)
  simp only[↓zq,zs,ae,zt,ba,aS]
  refine⟨by simp[cP];omega,?_⟩
  refine aj (xB F _ (.of F) (tN j) (by omega)) ?_
  simp only[↓zq,zs,ae,zt]
  rw[qm]at h |-
  refine⟨fun hm=>?_,fun hm=>?_⟩
  ·rw[if_pos hm]at h |-
   rw[bA j (by omega)]
   exact L7 F hF c1 c2 d1 d2 h1 h2 n (j+1) (by omega) (by omega)
  ·rw[if_neg hm]
   exact⟨rfl,rfl,rfl⟩
theorem tY{x:Nm}{a c d:Ty}(h:(qg a x c d).atoms<=400):(sub x (.rc a) c).atoms<=400/\(sub x (.rc a) d).atoms<=400:=by
 simp only[qg,Ty.atoms]at h;omega
theorem Wf.i7{e:E}(h:Wf e){t:Ty}(ht:cU e []=t)(hl:t.atoms<=400):e.df<=400:=by rw[h.df [],ht];exact hl
def Tj(n:Nat):Prop:=∀(e:E) (s:Nm),Wf e->e.df<=n->e.df<=400->rr s->an Tryz.prog 122 [.agg [.v (.string (mk e.at)),e.sp],.v (.string (mk s))] [] (lu (mo (cU e []) s))
theorem kC{e:E}{s:Nm}(h:Wf e):∀t,mo (cU e []) s=some t->ga t:=fun t ht=>h.qG.dv (cT.1 ht)
theorem rI{t:Ty}(h:ga t):∀d,nN t=some d->ga d:=fun d hd=>by obtain⟨_,rfl⟩:=eV.1 hd;exact h
theorem Rd(n:Nat)(ih:Tj n)(m:Nm)(B:E)(hm:rr m)(hB:Wf B)(hl:(E.list [.atom dI,.atom m,B]).df<=n+1)(hl4:(E.list [.atom dI,.atom m,B]).df<=400)(s:Nm)(hs:rr s) :
 an Tryz.prog 147 [.agg [.v (.string (mk [])),(E.list [.atom dI,.atom m,B]).sp],.v (.string (mk s))] [] (lu (mo (cU (.list [.atom dI,.atom m,B]) []) s)):=by
 have hw:Wf (.list [.atom dI,.atom m,B]):=.rc hm hB
 have hsz:=hw.sz
 have hA:=D7 hw (.sl [[.v (.string (mk s)),yN]]) [.atom s] ⟨(cn _).mpr trivial,by simp only[fL,E.bx,fN];rfl⟩ (by omega) (fun o ho=>by
  simp only[aK,List.not_mem_nil,or_false]at ho
  subst ho
  exact⟨.atom hs.1,by simp[E.sz]⟩) (by simp)
 have hatsB:B.df+2=(E.list [.atom dI,.atom m,B]).df:=by simp only[E.df,E.ff];omega
 have hT:cU (.list [.atom dI,.atom m,B]) []=.rc (cU B [m]):=fy _ _ _
 obtain⟨w1,w2,_,_,w5⟩:=kQ (AO (.list [.atom dI,.atom m,B]) [.atom s]) (cU (.list [.atom dI,.atom m,B]) []) [] 0 (.nil _ _) (uu hw []) fun y hy=>⟨aD _ ((lQ hw [] [] y).2 (.inr hy)),(nB hw [] y hy).1⟩
 have hsF:s∈AO (.list [.atom dI,.atom m,B]) [.atom s]:=aB _ (rz (o:=.atom s) (by simp) (.atom hs.1) (by rw[sD hs];simp[bn]))
 have haF:∀y,bn y (cU B [m])=true->y∈AO (.list [.atom dI,.atom m,B]) [.atom s]:=fun y hy=>aD _ ((lQ hw [] [] y).2 (.inr (by rw[hT];exact hy)))
 unfold zN at hA
 rw[hT]at hA w1 w2 w5
 rw[hT]
 generalize AO (.list [.atom dI,.atom m,B]) [.atom s]=F at *
 obtain⟨_,_,_,hxF⟩:=gJ F 0
 simp only[gX,aS]at hA w1 w2 w5
 generalize hxd:tN (nx F 0)=x at *
 have hx:rr x:=by rw[<-hxd];exact zb _
 generalize (gX F (cU B [m]) [x] (nx F 0+1)).1=b at *
 have hb:Wf b:=by cases w1;assumption
 rw[fy]at w2
 have hbt:cU b [x]=cU B [m]:=by injection w2
 have hxa:bn x (cU B [m])=false:=by
  cases q:bn x (cU B [m])with
  |false=>rfl
  |true=>exact absurd (haF x q) hxF
 have hxs:x≠s:=fun e=>hxF (by rw[e];exact hsF)
 generalize cU B [m]=a at *
 have hbo:cU b []=dC (.name x) a 0:=by
  have:=yL x hb []
  rw[cZ,hbt]at this;exact this
 have hba:b.df+2=(E.list [.atom dI,.atom m,B]).df:=by
  rw[hw.df [],hT,hb.df [],hbo,fP];simp only[Ty.atoms];omega
 have i1:=ih b s hb (by omega) (by omega) hs
 have i2:=ih b x hb (by omega) (by omega) hx
 have n1:=kC (s:=s) hb
 have n2:=kC (s:=x) hb
 rw[hbo]at i1 i2 n1 n2
 have hP:=P3.of (.atom dI) (.atom x) b
 rw[A4 hxa hxs]
 have hE1:Wf (.list [.atom dI,.atom x,b]):=w1
 have hE1t:cU (.list [.atom dI,.atom x,b]) []=.rc a:=by rw[fy];exact w2
 have hE1l:(E.list [.atom dI,.atom x,b]).df<=400:=by
  have:(E.list [.atom dI,.atom x,b]).df=b.df+2:=by simp only[E.df,E.ff];omega
  omega
 refine Rh _ _ _ ((aY _).mpr trivial) ?_
 unfold JK
 refine aj hA ?_
 simp only[↓zq,zs,ae,zt,aM,bL,toNat_one,bg,hP.1,hP.2.1,hP.2.2.1,hP.2.2.2,dV]
 repeat refine⟨by omega,?_⟩
 refine aP i1 (lu.ne n1) ?_
 rintro r o ⟨rfl,c1,d1,hd1,rfl,hc1⟩
 simp only[↓zq,zs,ae,zt,gD hd1]
 repeat refine⟨by omega,?_⟩
 refine aP i2 (lu.ne n2) ?_
 rintro r o ⟨rfl,c2,d2,hd2,rfl,hc2⟩
 simp only[↓zq,zs,ae,zt,gD hd2]
 cases q1:mo (dC (.name x) a 0) s with
 |
  none =>
  simp only[bw,bP]
  exact⟨fun _=>lu.no _ _ ((aY _).mpr trivial),fun h=>(by cases h)⟩
 |some c =>
 cases q2:mo (dC (.name x) a 0) x with
 |
  none =>
  simp only[bw,aX,bP,a8]
  exact⟨fun h=>(by cases h),fun _=>⟨fun _=>lu.no _ _ ((aY _).mpr trivial),fun h=>(by cases h)⟩⟩
 |some d =>
 simp only[aX,a8]
 refine⟨fun h=>(by cases h),fun _=>⟨fun h=>(by cases h),fun _=>?_⟩⟩
 obtain⟨ec,wc,tc,rfl,rfl⟩:=hc1 c q1
 obtain⟨ed,wd,td,rfl,rfl⟩:=hc2 d q2
 have lc:=(cT.1 q1).small
 have ld:=(cT.1 q2).small
 have p1:=FX hx wc hE1 (wc.i7 tc lc) hE1l
 have p2:=FX hx wd hE1 (wd.i7 td ld) hE1l
 have g1:=rI (hE1.qG.sub (x:=x) wc.qG)
 have g2:=rI (hE1.qG.sub (x:=x) wd.qG)
 rw[hE1t,tc]at p1 g1
 rw[hE1t,td]at p2 g2
 simp only[bL]at p1 p2
 repeat refine⟨by omega,?_⟩
 refine aP p1 (lu.ne g1) ?_
 rintro r o ⟨rfl,c3,d3,hd3,rfl,hc3⟩
 simp only[↓zq,zs,ae,zt,gD hd3]
 repeat refine⟨by omega,?_⟩
 refine aP p2 (lu.ne g2) ?_
 rintro r o ⟨rfl,c4,d4,hd4,rfl,hc4⟩
 simp only[↓zq,zs,ae,zt,gD hd4]
 have big:∀t:Ty,nN t=none->¬t.atoms<=400:=fun t ht hle=>by unfold nN at ht;rw[if_pos hle]at ht;cases ht
 have out0:(nN (sub x (.rc a) c)=none\/nN (sub x (.rc a) d)=none)->nN (qg a x c d)=none:=fun h=>by
  unfold nN
  rw[if_neg fun hle=>?_]
  have:=tY hle
  rcases h with h|h
  ·exact big _ h this.1
  ·exact big _ h this.2
 cases q3:nN (sub x (.rc a) c)with
 |
  none =>
  rw[out0 (.inl q3)]
  simp only[bw]
  exact⟨fun _=>lu.no _ _ ((aY _).mpr trivial),fun h=>(by cases h)⟩
 |some c' =>
 cases q4:nN (sub x (.rc a) d)with
 |
  none =>
  rw[out0 (.inr q4)]
  simp only[bw,aX]
  exact⟨fun h=>(by cases h),fun _=>⟨fun _=>lu.no _ _ ((aY _).mpr trivial),fun h=>(by cases h)⟩⟩
 |some d' =>
 simp only[aX]
 refine⟨fun h=>(by cases h),fun _=>⟨fun h=>(by cases h),fun _=>?_⟩⟩
 obtain⟨ec',wc',tc',rfl,rfl⟩:=hc3 c' q3
 obtain⟨ed',wd',td',rfl,rfl⟩:=hc4 d' q4
 obtain⟨lc',e3⟩:=eV.1 q3
 obtain⟨ld',e4⟩:=eV.1 q4
 rw[e3]at lc';rw[e4]at ld'
 have z1:=wc'.sz
 have z2:=wd'.sz
 have k1:=wc'.i7 tc' lc'
 have k2:=wd'.i7 td' ld'
 have f1:=DE wd' [] [] (.sl []) (.of []) (by simp;omega)
 have fl1:=gl ed' [] []
 have fl2:=gl ec' [] (kB ed' [] [])
 simp only[aG,aW]at fl1
 have f2:=DE wc' [] (kB ed' [] []) (.sl []) (.of []) (by simp;omega)
 refine aV f1 ?_
 simp only[↓zq,zs,ae,zt,aL,bq,Ob.es]
 refine aV f2 ?_
 simp only[↓zq,zs,ae,zt,aL,bq,Ob.es]
 have hF3:∀y,(bn y c'=true\/bn y d'=true)->y∈kB ec' [] (kB ed' [] []):=fun y hy=>by
  rw[lQ wc',lQ wd']
  rcases hy with hy|hy
  ·exact .inr (by rw[tc'];exact hy)
  ·exact .inl (.inr (by rw[td'];exact hy))
 generalize kB ec' [] (kB ed' [] [])=F3 at *
 obtain⟨_,y2,_,hyF⟩:=gJ F3 0
 refine cF (L7 F3 (by omega) _ _ _ _ ((aY _).mpr trivial) ((aY _).mpr trivial) (F3.length+1) 0 (by show nx F3 0<_;omega) (by omega)) ?_
 have hnx:qm F3 (F3.length+1) 0=nx F3 0:=rfl
 rw[hnx]
 simp only[↓zq,zs,ae,zt,ae,aI,bh,aY]
 refine aj (AE (nx F3 0+1) (nx F3 0) (by omega) (by omega)) ?_
 have hdl:=mT (nx F3 0+1) (nx F3 0) (by omega)
 simp only[↓zq,zs,ae,zt,ba,aS]
 refine⟨by omega,?_⟩
 obtain⟨y,hyd⟩:∃y:Nm,(116::dd (nx F3 0):Nm)=y:=⟨_,rfl⟩
 rw[hyd]
 rw[show tN (nx F3 0)=y from hyd]at hyF
 have hy:rr y:=by rw[<-hyd];exact zb _
 have hcy:cU ec' [y]=c':=by
  have:=uM [y] wc' [] (fun z hz hm=>hyF (by
   simp only[aQ]at hm
   rw[<-hm];exact hF3 z (.inl (by rw[<-tc'];exact hz))))
  rw[cZ,tc']at this;exact this
 have hdy:cU ed' [y]=d':=by
  have:=uM [y] wd' [] (fun z hz hm=>hyF (by
   simp only[aQ]at hm
   rw[<-hm];exact hF3 z (.inr (by rw[<-td'];exact hz))))
  rw[cZ,td']at this;exact this
 have hyb:cU (.atom y) [y]=.bound 0:=by
  simp only[cU];rw[if_neg hy.2.1,if_neg hy.2.2,show bR y [y] [y].length=some 0 from fB y []]
 let o1:E:=.list [.atom [42],ed',.atom y]
 let o2:E:=.list [.atom [43],ec',o1]
 let o3:E:=.list [.atom dI,.atom y,o2]
 have hw3:Wf o3:=.rc hy (.plus wc' (.times wd' (.atom hy.1)))
 have ht3:cU o3 []=qg a x c d:=by
  show cU (.list [.atom dI,.atom y,o2]) []=_
  rw[fy]
  show Ty.rc (cU (.list [.atom [43],ec',o1]) [y])=_
  rw[dP]
  show Ty.rc (.plus (cU ec' [y]) (cU (.list [.atom [42],ed',.atom y]) [y]))=_
  rw[dx,hcy,hdy,hyb,qg,e3,e4]
 have m1:=xS [42] ed' (.atom y)
 have m2:=xS [43] ec' o1
 have m3:=xS dI (.atom y) o2
 simp only[o1,bL,dV]at m1 m2 m3
 refine aj m1 ?_
 simp only[↓zq,zs,ae,zt,aM]
 repeat refine⟨by omega,?_⟩
 refine aj m2 ?_
 simp only[↓zq,zs,ae,zt,aM]
 repeat refine⟨by omega,?_⟩
 refine aj m3 ?_
 simp only[↓zq,zs,ae,zt,aM]
 repeat refine⟨by omega,?_⟩
 have z3:=hw3.sz
 have hats3:o3.df=ec'.df+ed'.df+5:=by simp only[o3,o2,o1,E.df,E.ff];omega
 have ma:=EG o3 hw3.ok (by omega)
 rw[dq]at ma
 simp only[o3,o2,o1,bL]at ma
 refine aj ma ?_
 simp only[↓zq,zs,ae,zt]
 have hd3:(qg a x c d).atoms=o3.df:=by rw[<-ht3,<-hw3.df []]
 unfold nN
 by_cases hle:(qg a x c d).atoms<=400
 ·rw[if_pos hle]
  have:=lu.of hw3
  rw[ht3]at this
  rw[show decide ((((E.list [.atom dI,.atom y,.list [.atom [43],ec',.list [.atom [42],ed',.atom y]]]).df:Nat):Int)<=400)=true from decide_eq_true (by show ((o3.df:Nat):Int)<=400;omega)]
  exact this
 ·rw[if_neg hle]
  rw[show decide ((((E.list [.atom dI,.atom y,.list [.atom [43],ec',.list [.atom [42],ed',.atom y]]]).df:Nat):Int)<=400)=false from decide_eq_false (by show ¬((o3.df:Nat):Int)<=400;omega)]
  exact lu.no _ _ ((aY o3).mpr trivial)
theorem Af:∀n,Tj n
 |0=>fun e s h hl=>by have:=eA (cU e []);rw[<-h.df []]at this;omega
 |
  n+1=>by
  intro e s h hl h4 hs
  cases h with
  |
   @atom c hc =>
   refine Dk _ _ _ ((aY _).mpr trivial) ?_
   simp only[BV,dV,↓zq,zs,ae,zt]
   refine⟨fun _=>⟨fun he=>?_,fun hne=>?_⟩,fun h=>absurd h hc⟩
   ·have he:c=s:=he
    subst he
    rw[sD hs,oL,if_pos rfl]
    exact lu.of (e:=.atom [49]) (.atom (by simp))
   ·have hne:¬c=s:=hne
    have:mo (cU (.atom c) []) s=some .zero:=by
     simp only[cU]
     split
     ·exact vt _
     ·split
      ·exact yO _
      ·rw[show bR c [] ([]:List Nm).length=none from rfl,oL,if_neg hne]
    rw[this]
    exact lu.of (e:=.atom [48]) (.atom (by simp))
  |
   @plus x y hx hy =>
   have hxy:(E.list [.atom [43],x,y]).df=x.df+y.df+1:=by simp only[E.df,E.ff];omega
   have p1:1<=x.df:=by rw[hx.df []];exact eA _
   have p2:1<=y.df:=by rw[hy.df []];exact eA _
   refine Dk _ _ _ ((aY _).mpr trivial) ?_
   have hP:=P3.of (.atom [43]) x y
   simp only[BV,bL,toNat_one,bg,↓zq,zs,ae,zt,hP.1,hP.2.1,hP.2.2.1,hP.2.2.2,aM]
   refine⟨fun h=>absurd rfl h,fun _=>?_⟩
   refine aj (oq [43] x y) ?_
   simp only[↓zq,zs,ae,zt]
   refine⟨fun h=>by simp at h,fun _=>?_⟩
   repeat refine⟨by omega,?_⟩
   rw[dP,wb]
   refine aP (Af n x s hx (by omega) (by omega) hs) (lu.ne (kC hx)) ?_
   rintro r o ⟨rfl,c1,d1,hd1,rfl,hc1⟩
   simp only[↓zq,zs,ae,zt,gD hd1]
   repeat refine⟨by omega,?_⟩
   refine aP (Af n y s hy (by omega) (by omega) hs) (lu.ne (kC hy)) ?_
   rintro r o ⟨rfl,c2,d2,hd2,rfl,hc2⟩
   simp only[↓zq,zs,ae,zt,gD hd2]
   refine aj (Cn [43] c1 c2 d1 d2) ?_
   simp only[↓zq,zs,ae,zt,bH,ef,cn]
   repeat refine⟨by omega,?_⟩
   refine aj (oq [43] x y) ?_
   simp only[↓zq,zs,ae,zt]
   refine⟨fun h=>by simp at h,fun _=>?_⟩
   cases q1:mo (cU x []) s with
   |
    none =>
    simp only[bw,bP]
    exact⟨fun h=>(by cases h),fun _=>lu.no _ _ ((cn _).mpr trivial)⟩
   |some tx =>
   cases q2:mo (cU y []) s with
   |
    none =>
    simp only[bw,aX,bP,a8]
    exact⟨fun _=>⟨fun h=>(by cases h),fun _=>lu.no _ _ ((cn _).mpr trivial)⟩,fun h=>(by cases h)⟩
   |some t2 =>
   simp only[aX,a8]
   refine⟨fun _=>⟨fun _=>?_,fun h=>(by cases h)⟩,fun h=>(by cases h)⟩
   obtain⟨e1,w1,te1,rfl,rfl⟩:=hc1 tx q1
   obtain⟨e2,w2,te2,rfl,rfl⟩:=hc2 t2 q2
   have l1:=w1.i7 te1 (cT.1 q1).small
   have l2:=w2.i7 te2 (cT.1 q2).small
   have z1:=w1.sz
   have z2:=w2.sz
   have hw3:Wf (.list [.atom [43],e1,e2]):=.plus w1 w2
   have ht3:cU (.list [.atom [43],e1,e2]) []=.plus tx t2:=by rw[dP,te1,te2]
   have ma:=EG _ hw3.ok (by simp only[E.sz,E.jB];omega)
   rw[dq]at ma
   simp only[bL]at ma
   have e3:AV.sl [[.v (.string (mk [43])),yN],[.v (.string (mk e1.at)),e1.sp],[.v (.string (mk e2.at)),e2.sp]]=(E.list [.atom [43],e1,e2]).sp:=by simp only[E.sp,E.bx,fN];rfl
   rw[e3]
   refine aj ma ?_
   simp only[↓zq,zs,ae,zt]
   have hd3:(Ty.plus tx t2).atoms=(E.list [.atom [43],e1,e2]).df:=by rw[<-ht3,<-hw3.df []]
   unfold nN
   by_cases hle:(Ty.plus tx t2).atoms<=400
   ·rw[if_pos hle,show decide ((((E.list [.atom [43],e1,e2]).df:Nat):Int)<=400)=true from decide_eq_true (by omega)]
    have:=lu.of hw3
    rw[ht3]at this
    exact this
   ·rw[if_neg hle,show decide ((((E.list [.atom [43],e1,e2]).df:Nat):Int)<=400)=false from decide_eq_false (by omega)]
    exact lu.no _ _ ((aY _).mpr trivial)
  |
   @times x y hx hy =>
   have hxy:(E.list [.atom [42],x,y]).df=x.df+y.df+1:=by simp only[E.df,E.ff];omega
   have p1:1<=x.df:=by rw[hx.df []];exact eA _
   have p2:1<=y.df:=by rw[hy.df []];exact eA _
   refine Dk _ _ _ ((aY _).mpr trivial) ?_
   have hP:=P3.of (.atom [42]) x y
   simp only[BV,bL,toNat_one,bg,↓zq,zs,ae,zt,hP.1,hP.2.1,hP.2.2.1,hP.2.2.2,aM]
   refine⟨fun h=>absurd rfl h,fun _=>?_⟩
   refine aj (oq [42] x y) ?_
   simp only[↓zq,zs,ae,zt]
   refine⟨fun h=>by simp at h,fun _=>?_⟩
   repeat refine⟨by omega,?_⟩
   rw[dx,tW]
   refine aP (Af n x s hx (by omega) (by omega) hs) (lu.ne (kC hx)) ?_
   rintro r o ⟨rfl,c1,d1,hd1,rfl,hc1⟩
   simp only[↓zq,zs,ae,zt,gD hd1]
   repeat refine⟨by omega,?_⟩
   refine aP (Af n y s hy (by omega) (by omega) hs) (lu.ne (kC hy)) ?_
   rintro r o ⟨rfl,c2,d2,hd2,rfl,hc2⟩
   simp only[↓zq,zs,ae,zt,gD hd2]
   refine aj (Cn [43] c1 c2 d1 d2) ?_
   simp only[↓zq,zs,ae,zt,bH,ef,cn]
   repeat refine⟨by omega,?_⟩
   refine aj (oq [42] x y) ?_
   simp only[↓zq,zs,ae,zt]
   refine⟨fun _=>?_,fun h=>by simp at h⟩
   repeat refine⟨by omega,?_⟩
   refine aj (Cn [42] c1 y.at d1 y.sp) ?_
   simp only[↓zq,zs,ae,zt,bH,ef,cn,aY]
   repeat refine⟨by omega,?_⟩
   refine aj (Cn [42] x.at c2 x.sp d2) ?_
   simp only[↓zq,zs,ae,zt,bH,ef,cn,aY]
   repeat refine⟨by omega,?_⟩
   refine aj (Cn [43] [] [] _ _) ?_
   simp only[↓zq,zs,ae,zt,bH,ef,cn]
   repeat refine⟨by omega,?_⟩
   cases q1:mo (cU x []) s with
   |
    none =>
    simp only[bw,bP]
    exact⟨fun h=>(by cases h),fun _=>lu.no _ _ ((cn _).mpr trivial)⟩
   |some tx =>
   cases q2:mo (cU y []) s with
   |
    none =>
    simp only[bw,aX,bP,a8]
    exact⟨fun _=>⟨fun h=>(by cases h),fun _=>lu.no _ _ ((cn _).mpr trivial)⟩,fun h=>(by cases h)⟩
   |some t2 =>
   simp only[aX,a8]
   refine⟨fun _=>⟨fun _=>?_,fun h=>(by cases h)⟩,fun h=>(by cases h)⟩
   obtain⟨e1,w1,te1,rfl,rfl⟩:=hc1 tx q1
   obtain⟨e2,w2,te2,rfl,rfl⟩:=hc2 t2 q2
   have l1:=w1.i7 te1 (cT.1 q1).small
   have l2:=w2.i7 te2 (cT.1 q2).small
   have z1:=w1.sz
   have z2:=w2.sz
   have z3:=hx.sz
   have z4:=hy.sz
   have hw3:Wf (.list [.atom [43],.list [.atom [42],e1,y],.list [.atom [42],x,e2]]):=.plus (.times w1 hy) (.times hx w2)
   have ht3:cU (.list [.atom [43],.list [.atom [42],e1,y],.list [.atom [42],x,e2]]) []=.plus (.times tx (cU y [])) (.times (cU x []) t2):=by rw[dP,dx,dx,te1,te2]
   have ma:=EG _ hw3.ok (by simp only[E.sz,E.jB];omega)
   rw[dq]at ma
   simp only[bL]at ma
   have e3:AV.sl [[.v (.string (mk [43])),yN],[.v (.string (mk [])),.sl [[.v (.string (mk [42])),yN],[.v (.string (mk e1.at)),e1.sp],[.v (.string (mk y.at)),y.sp]]],[.v (.string (mk [])),.sl [[.v (.string (mk [42])),yN],[.v (.string (mk x.at)),x.sp],[.v (.string (mk e2.at)),e2.sp]]]]=(E.list [.atom [43],.list [.atom [42],e1,y],.list [.atom [42],x,e2]]).sp:=by simp only[E.sp,E.bx,fN];rfl
   rw[e3]
   refine aj ma ?_
   simp only[↓zq,zs,ae,zt]
   have hd3:(Ty.plus (.times tx (cU y [])) (.times (cU x []) t2)).atoms=(E.list [.atom [43],.list [.atom [42],e1,y],.list [.atom [42],x,e2]]).df:=by rw[<-ht3,<-hw3.df []]
   unfold nN
   by_cases hle:(Ty.plus (.times tx (cU y [])) (.times (cU x []) t2)).atoms<=400
   ·rw[if_pos hle,show decide ((((E.list [.atom [43],.list [.atom [42],e1,y],.list [.atom [42],x,e2]]).df:Nat):Int)<=400)=true from decide_eq_true (by omega)]
    have:=lu.of hw3
    rw[ht3]at this
    exact this
   ·rw[if_neg hle,show decide ((((E.list [.atom [43],.list [.atom [42],e1,y],.list [.atom [42],x,e2]]).df:Nat):Int)<=400)=false from decide_eq_false (by omega)]
    exact lu.no _ _ ((aY _).mpr trivial)
  |
   @rc m B hm hB =>
   have hlp:=Rd n (Af n) m B hm hB hl h4 s hs
   have hg:=kC (s:=s) (Wf.rc hm hB)
   refine Dk _ _ _ ((aY _).mpr trivial) ?_
   have hP:=P3.of (.atom dI) (.atom m) B
   simp only[BV,bL,toNat_one,bg,↓zq,zs,ae,zt,hP.1,hP.2.1,hP.2.2.1,hP.2.2.2,aM]
   refine⟨fun h=>absurd rfl h,fun _=>?_⟩
   refine aj (oq dI (.atom m) B) ?_
   simp only[↓zq,zs,ae,zt]
   refine⟨fun _=>?_,fun h=>absurd rfl h⟩
   refine aP hlp (lu.ne hg) ?_
   rintro r o ⟨rfl,c1,d1,hd1,rfl,hc1⟩
   simp only[↓zq,zs,ae,zt,gD hd1]
   exact⟨rfl,c1,d1,hd1,rfl,hc1⟩
end Go.Proofs.Trees
namespace Go.Proofs.Trees
open Go Go.VL Go.RowKit
theorem oY:∀(n k:Nat),k<10 ^ (n+1)->(dd k).length<=n+1
 |0,k,h=>by rw[eN (by omega)];simp
 |
  n+1,k,h=>by
  by_cases h1:k<10
  ·rw[eN h1];simp
  ·rw[fX h1]
   have:=oY n (k/10) (by
    have:10 ^ (n+1+1)=10*10 ^ (n+1):=by rw[Nat.pow_succ,Nat.mul_comm]
    omega)
   simp;omega
inductive Sh:E->Prop
 |atom {s:Nm} (h:s.length<=20):Sh (.atom s)
 |l3 {h:Nm} {a b:E} (hh:h.length<=20) (ha:Sh a) (hb:Sh b):Sh (.list [.atom h,a,b])
theorem Sh.cL{e:E}(hw:Wf e)(h:Sh e):(fj e).length<=50*e.df:=by
 induction hw with
 |atom _=>cases h with|atom h=>simp only[fj,E.df];omega
 |
  plus _ _ i1 i2 =>
  cases h with|l3 hh ha hb =>
  have:=i1 ha
  have:=i2 hb
  simp only[fj,er,az,aq,aG,E.df,E.ff];omega
 |
  times _ _ i1 i2 =>
  cases h with|l3 hh ha hb =>
  have:=i1 ha
  have:=i2 hb
  simp only[fj,er,az,aq,aG,E.df,E.ff];omega
 |
  rc _ _ i =>
  cases h with|l3 hh ha hb =>
  cases ha with|atom ha =>
  have:=i hb
  simp only[fj,er,az,aq,aG,E.df,E.ff];omega
def vk(t:Ty):Prop:=∀y,bn y t=true->y.length<=20
theorem xV{k:Nat}(h:k<100000000):(tN k).length<=20:=by
 have:=oY 7 k (by omega)
 simp;omega
theorem pN(F:List Nm)(hF:F.length<=10000):∀(t:Ty) (to:List Nm) (k:Nat),vk t->(∀w,w∈to->w.length<=20)->k+(F.length+1)*t.atoms<90000000->Sh (gX F t to k).1
 | .zero,_,_,_,_,_=>.atom (by simp)
 | .one,_,_,_,_,_=>.atom (by simp)
 | .name s,_,_,hn,_,_=>.atom (hn s (by simp[bn]))
 |
  .bound u,to,_,_,ht,_=>by
  refine .atom ?_
  show (gn to u).length<=20
  unfold gn
  by_cases h:to.length-1-u<to.length
  ·rw[aa,bp h];exact ht _ (bI h)
  ·rw[aa,List.getElem?_eq_none (by omega)];simp
 |
  .plus a b,to,k,hn,ht,hk=>by
  have h1:=iD F a to k
  have:(F.length+1)*(1+a.atoms+b.atoms)=(F.length+1)+(F.length+1)*a.atoms+(F.length+1)*b.atoms:=by simp only[cW,dK]
  simp only[Ty.atoms]at hk
  exact .l3 (by simp) (pN F hF a to k (fun y hy=>hn y (by simp[bn,hy])) ht (by omega)) (pN F hF b to _ (fun y hy=>hn y (by simp[bn,hy])) ht (by omega))
 |
  .times a b,to,k,hn,ht,hk=>by
  have h1:=iD F a to k
  have:(F.length+1)*(1+a.atoms+b.atoms)=(F.length+1)+(F.length+1)*a.atoms+(F.length+1)*b.atoms:=by simp only[cW,dK]
  simp only[Ty.atoms]at hk
  exact .l3 (by simp) (pN F hF a to k (fun y hy=>hn y (by simp[bn,hy])) ht (by omega)) (pN F hF b to _ (fun y hy=>hn y (by simp[bn,hy])) ht (by omega))
 |
  .rc a,to,k,hn,ht,hk=>by
  obtain⟨g1,g2,_,_⟩:=gJ F k
  have:(F.length+1)*(2+a.atoms)=(F.length+1)*2+(F.length+1)*a.atoms:=by simp only[cW]
  simp only[Ty.atoms]at hk
  have hl:=xV (k:=nx F k) (by omega)
  exact .l3 (by simp) (.atom hl) (pN F hF a _ _ hn (fun w hw=>by
   rcases aN.1 hw with hw|hw
   ·exact ht w hw
   ·simp only[aQ]at hw;rw[hw];exact hl) (by omega))
def Fp(t:Ty):Nm:=fj (gX (bQ t []) t [] 0).1
def told(t:Ty):Option Nm:=if t.atoms<=400/\(qV (Fp t)).isSome=true then some (Fp t)else none
theorem Dh{t:Ty}(g:ga t)(hs:vk t)(ha:t.atoms<=400):(Fp t).length<=20000:=by
 obtain⟨h1,h2,_⟩:=kQ (bQ t []) t [] 0 (.nil _ _) g.1 fun y hy=>⟨(eU t [] y).2 (.inr hy),g.2 y hy⟩
 have hn:=eF t []
 simp only[aG,aW]at hn
 have hm:((bQ t []).length+1)*t.atoms<=401*400:=Nat.mul_le_mul (by omega) ha
 have:=(pN (bQ t []) (by omega) t [] 0 hs (fun w hw=>by cases hw) (by omega)).cL h1
 have:=h1.i7 h2 ha
 unfold Fp;omega
theorem vf(s:Nm):(wN s).isSome=(qV s).isSome:=by
 rw[uz]
 cases he:wN s with
 |none=>rfl
 |
  some e =>
  obtain⟨h1,h2,h3⟩:=qf he
  simp only[iX e [],h2];rfl
theorem Qs(s:Nm):an Tryz.prog 124 [.v (.string (mk s))] [] (bJ (.v (.bool (qV s).isSome))):=by
 refine Rc _ ?_
 unfold Li
 refine aP (IN s) (jP.ne _ _ (fun h=>h)) ?_
 rintro r o ⟨c,d,hd,rfl,hh⟩
 have hhas:bH [.str,.sl] [.v (.string (mk c)),d] 0:=by simp[bH,ef,hd]
 simp only[↓zq,zs,ae,zt,vf]
 exact⟨hhas,rfl,rfl⟩
theorem Sd{e:E}(h:Wf e)(hl:e.df<=400)(hs:vk (cU e [])):an Tryz.prog 93 [.agg [.v (.string (mk e.at)),e.sp]] [] (bJ (uI (told (cU e [])))):=by
 refine R6 _ _ ((aY _).mpr trivial) ?_
 unfold MX
 have z:=h.sz
 have ma:=EG e h.ok (by omega)
 rw[dq]at ma
 have hA:=D7 h yN [] ⟨(bh).mpr trivial,rfl⟩ (by omega) (fun o ho=>by cases ho) (by simp)
 have ha:(cU e []).atoms<=400:=by rw[<-h.df []];exact hl
 have hc:zN e []=(gX (bQ (cU e []) []) (cU e []) [] 0).1:=by
  unfold zN AO rC
  rw[List.flatMap_nil,cZ,jY (F':=bQ (cU e []) []) fun y=>by rw[lQ h,eU]]
 have hx:fj (zN e [])=Fp (cU e []):=by rw[hc];rfl
 have hlen:=Dh h.qG hs ha
 have hT:=Dg (zN e []) (xe h).1.ok (by rw[hx];omega)
 rw[dq,hx]at hT
 refine aj ma ?_
 simp only[↓zq,zs,ae,zt]
 refine⟨fun h=>by omega,fun _=>?_⟩
 refine aj hA ?_
 simp only[↓zq,zs,ae,zt,aM]
 refine aj hT ?_
 simp only[↓zq,zs,ae,zt]
 refine aj (Qs _) ?_
 simp only[↓zq,zs,ae,zt]
 unfold told
 refine⟨fun hn=>?_,fun hy=>?_⟩
 ·rw[if_neg (by rw[hn];simp)];exact⟨rfl,rfl⟩
 ·rw[if_pos ⟨ha,hy⟩];exact⟨rfl,rfl⟩
abbrev mq:Nm:=[35,49]
noncomputable def cO (s:Nm):Option Nm:=match qV s with
 |some (.rc a)=>(om a mq).bind told
 |_=>none
theorem og{s:Nm}{t:Ty}(h:qV s=some t):∃e,wN s=some e/\Wf e/\cU e []=t/\e.df<=400/\e.ok:=by
 rw[uz]at h
 cases he:wN s with
 |none=>rw[he]at h;cases h
 |
  some e =>
  rw[he]at h
  obtain⟨h1,h2,h3⟩:=qf he
  obtain⟨hok,_⟩:=nS h1
  obtain⟨w1,w2⟩:=kK e [] t hok (fun w hw=>by cases hw) h
  exact⟨e,rfl,w1,w2,h3,hok⟩
theorem rW{e:E}{x:Nm}{a d:Ty}(hw:Wf e)(ht:cU e []=.rc a)(hx:rr x)(hd:om a x=some d):ga d/\(vk (.rc a)->vk d):=by
 simp only[om,bc,cT,eV]at hd
 obtain⟨d',h1,_,rfl⟩:=hd
 have g:ga (.rc a):=ht ▸ hw.qG
 have go:ga (dC (.name x) a 0):=⟨gP x a g.1,fun y hy=>by
  rcases gH a 0 hy with rfl|h
  ·exact hx
  ·exact g.2 y h⟩
 refine⟨g.sub (go.dv h1),fun hs y hy=>?_⟩
 rcases jg _ hy with h|⟨h,h'⟩
 ·exact hs y h
 ·rcases gH a 0 (h1.names y h')with e|e
  ·exact absurd e h
  ·exact hs y e
def K4(y:Nm):Prop:=ia y=true\/dr y=true
theorem iU:∀(e:E) (ar:List Nm) (t:Ty),cV e ar=some t->∀y,bn y t=true->K4 y
 |
  .atom s,ar,t,ht,y,hy=>by
  simp only[cV]at ht
  split at ht
  ·cases ht;cases hy
  ·split at ht
   ·cases ht;cases hy
   ·split at ht
    ·rename_i hp
     cases ht
     simp only[bn,decide_eq_true_eq]at hy
     subst hy;exact .inl hp
    ·split at ht
     ·rename_i hq
      split at ht
      ·cases ht;cases hy
      ·cases ht
       simp only[bn,decide_eq_true_eq]at hy
       subst hy;exact .inr hq
     ·cases ht
 |
  .list [x,a,b],ar,t,ht,y,hy=>by
  by_cases h0:x.at=[43]
  ·obtain⟨t1,t2,h1,h2,rfl⟩:=fQ h0 ht
   simp only[bn,bC]at hy
   rcases hy with hy|hy
   ·exact iU a ar t1 h1 y hy
   ·exact iU b ar t2 h2 y hy
  ·by_cases h1:x.at=[42]
   ·obtain⟨t1,t2,h2,h3,rfl⟩:=fu h1 ht
    simp only[bn,bC]at hy
    rcases hy with hy|hy
    ·exact iU a ar t1 h2 y hy
    ·exact iU b ar t2 h3 y hy
   ·by_cases h2:x.at=[114,101,99]
    ·obtain⟨t1,hla,h3,rfl⟩:=dD h2 ht
     exact iU b _ t1 h3 y hy
    ·rw[jq _ h0 h1 h2]at ht;cases ht
 | .list [],ar,t,ht,_,_=>by cases ht
 | .list [_],ar,t,ht,_,_=>by cases ht
 | .list [_,_],ar,t,ht,_,_=>by cases ht
 | .list (_::_::_::_::_),ar,t,ht,_,_=>by cases ht
theorem w6{y:Nm}(h:K4 y):y.length<=3/\∀r,y≠35::r:=by
 have key:∀lo hi,116<=lo->named lo hi y=true->y.length<=3/\∀r,y≠35::r:=fun lo hi hlo h=>by
  cases y with
  |nil=>cases h
  |
   cons c r =>
   simp only[named,aw,decide_eq_true_eq]at h
   refine⟨by simp;omega,fun r' e=>?_⟩
   have:c=35:=by injection e
   subst this
   have:=h.1.2.1
   have e35:(35:UInt8).toNat=35:=rfl
   omega
 rcases h with h|h
 ·exact key 120 122 (by omega) h
 ·exact key 116 116 (by omega) h
theorem nq{s:Nm}{t:Ty}(h:qV s=some t):∀y,bn y t=true->K4 y:=by
 rw[uz]at h
 cases he:wN s with
 |none=>rw[he]at h;cases h
 |some e=>rw[he]at h;exact iU e [] t h
theorem uw{s:Nm}{a:Ty}(h:qV s=some (.rc a)):bn mq a=false:=by
 cases q:bn mq a with
 |false=>rfl
 |true=>exact absurd rfl ((w6 (nq h mq q)).2 [49])
theorem CX{s:Nm}{t:Ty}(h:qV s=some t):vk t:=fun y hy=>by have:=(w6 (nq h y hy)).1;omega
theorem Sf{m:Nm}{B:E}(hm:rr m)(hB:Wf B)(hl:(E.list [.atom dI,.atom m,B]).df<=400):an Tryz.prog 92 [.agg [.v (.string (mk [])),(E.list [.atom dI,.atom m,B]).sp]] [] (lu (om (cU B [m]) m)):=by
 have hw:Wf (.list [.atom dI,.atom m,B]):=.rc hm hB
 have hT:cU (.list [.atom dI,.atom m,B]) []=.rc (cU B [m]):=fy _ _ _
 have hP:=P3.of (.atom dI) (.atom m) B
 have hbo:cU B []=dC (.name m) (cU B [m]) 0:=by
  have:=yL m hB []
  rw[cZ]at this;exact this
 have hba:B.df+2=(E.list [.atom dI,.atom m,B]).df:=by simp only[E.df,E.ff];omega
 have i1:=Af 400 B m hB (by omega) (by omega) hm
 have n1:=kC (s:=m) hB
 rw[hbo]at i1 n1
 refine SY _ _ ((aY _).mpr trivial) ?_
 simp only[Pd,bL,toNat_one,bg,↓zq,zs,ae,zt,hP.1,hP.2.1,hP.2.2.1,hP.2.2.2,aM,dV]
 repeat refine⟨by omega,?_⟩
 refine aP i1 (lu.ne n1) ?_
 rintro r o ⟨rfl,c1,d1,hd1,rfl,hc1⟩
 simp only[↓zq,zs,ae,zt,gD hd1,om]
 cases q1:mo (dC (.name m) (cU B [m]) 0) m with
 |
  none =>
  simp only[bw,bP]
  exact⟨fun _=>lu.no _ _ ((aY _).mpr trivial),fun h=>(by cases h)⟩
 |
  some d =>
  simp only[aX,a8]
  refine⟨fun h=>(by cases h),fun _=>?_⟩
  obtain⟨ed,wd,td,rfl,rfl⟩:=hc1 d q1
  have p1:=FX hm wd hw (wd.i7 td (cT.1 q1).small) hl
  have g1:=rI (hw.qG.sub (x:=m) wd.qG)
  rw[hT,td]at p1 g1
  simp only[bL]at p1
  repeat refine⟨by omega,?_⟩
  refine aP p1 (lu.ne g1) ?_
  rintro r o ⟨rfl,c2,d2,hd2,rfl,hc2⟩
  simp only[↓zq,zs,ae,zt,gD hd2]
  exact⟨rfl,c2,d2,hd2,rfl,hc2⟩
theorem OZ(s:Nm):an Tryz.prog 66 [.v (.string (mk s))] [] (bJ (uI (cO s))):=by
 refine Py _ ?_
 unfold MB
 refine aP (IN s) (jP.ne _ _ (fun h=>h)) ?_
 rintro r o ⟨c,d,hd,rfl,hh⟩
 have hhas:bH [.str,.sl] [.v (.string (mk c)),d] 0:=by simp[bH,ef,hd]
 simp only[↓zq,zs,ae,zt]
 refine⟨hhas,fun h=>?_,fun h=>?_⟩
 ·rw[vf]at h
  have:qV s=none:=by cases hq:qV s<;>simp[hq]at h |-
  unfold cO;rw[this];exact⟨rfl,rfl⟩
 ·rw[vf]at h
  obtain⟨t,ht⟩:=cc.1 h
  obtain⟨e,he,hw,hte,hats,hok⟩:=og ht
  obtain⟨e',he',hce⟩:=hh (by rw[he];rfl)
  rw[he]at he';cases he'
  have notRec:(∀a,t≠.rc a)->cO s=none:=fun hn=>by
   unfold cO;rw[ht]
   cases t<;>first|rfl|exact absurd rfl (hn _)
  rw[hce,dq]
  cases hw with
  |
   @atom c hc =>
   have hn:cO s=none:=notRec fun a q=>by
    rw[<-hte]at q
    simp only[cU]at q
    split at q
    ·cases q
    ·split at q
     ·cases q
     ·split at q<;>cases q
   rw[hn]
   refine aj (zP c _ ((aY _).mpr trivial) hc) ?_
   simp only[↓zq,zs,ae,zt]
   exact⟨fun _=>⟨rfl,rfl⟩,fun h=>by simp at h⟩
  |
   @plus x y hx hy =>
   have hn:cO s=none:=notRec fun a q=>by rw[<-hte,dP]at q;cases q
   rw[hn]
   simp only[bL]
   refine aj (oq [43] x y) ?_
   simp only[↓zq,zs,ae,zt]
   exact⟨fun _=>⟨rfl,rfl⟩,fun h=>by simp at h⟩
  |
   @times x y hx hy =>
   have hn:cO s=none:=notRec fun a q=>by rw[<-hte,dx]at q;cases q
   rw[hn]
   simp only[bL]
   refine aj (oq [42] x y) ?_
   simp only[↓zq,zs,ae,zt]
   exact⟨fun _=>⟨rfl,rfl⟩,fun h=>by simp at h⟩
  |
   @rc m B hm hB =>
   have hrt:cU (.list [.atom dI,.atom m,B]) []=.rc (cU B [m]):=fy _ _ _
   rw[hrt]at hte
   have hq:cO s=(om (cU B [m]) m).bind told:=by
    unfold cO;rw[ht,<-hte]
    show (om (cU B [m]) mq).bind told=_
    rw[FG (uw (by rw[ht,<-hte])) (by
     cases q:bn m (cU B [m])with
     |false=>rfl
     |true=>exact absurd (by simp) (nB hB [m] m q).2)]
   rw[hq]
   simp only[bL]
   refine aj (oq dI (.atom m) B) ?_
   simp only[↓zq,zs,ae,zt]
   refine⟨fun h=>by simp at h,fun _=>?_⟩
   have hgood:∀d,om (cU B [m]) m=some d->ga d/\(vk (.rc (cU B [m]))->vk d):=fun d hd=>rW (Wf.rc hm hB) hrt hm hd
   refine aP (Sf hm hB hats) (lu.ne fun t h=>(hgood t h).1) ?_
   rintro r o ⟨rfl,c1,d1,hd1,rfl,hc1⟩
   simp only[↓zq,zs,ae,zt,gD hd1]
   cases q1:om (cU B [m]) m with
   |
    none =>
    simp only[bw,bP]
    exact⟨fun _=>⟨rfl,rfl⟩,fun h=>(by cases h)⟩
   |
    some d =>
    simp only[aX,a8]
    refine⟨fun h=>(by cases h),fun _=>?_⟩
    obtain⟨ed,wd,td,rfl,rfl⟩:=hc1 d q1
    have hl:d.atoms<=400:=by
     simp only[om,bc,eV]at q1
     obtain⟨_,_,h1,h2⟩:=q1
     rw[<-h2];exact h1
    have hcn:=Sd wd (wd.i7 td hl) (by rw[td];exact(hgood d q1).2 (hte ▸ CX ht))
    rw[td]at hcn
    refine aj hcn ?_
    cases told d<;>simp only[uI,↓zq,zs,ae,zt]<;>exact⟨rfl,rfl⟩
end Go.Proofs.Trees
namespace Go.Proofs.Trees
open Go Go.VL Go.RowKit
def vT(n:Nat):Vl->Ty->Bool
 | .u,.one=>true
 | .el k,.name _=>decide (k<n)
 | .l w,.plus a _=>vT n w a
 | .r w,.plus _ b=>vT n w b
 | .p x y,.times a b=>vT n x a&&vT n y b
 | .f w,.rc a=>vT n w (dC (.rc a) a 0)
 |_,_=>false
def cls(us:List Ty):Ty->Nat->Ty
 | .bound k,i=>if k<i then .bound k else us.getD (k-i) .zero
 | .plus a b,i=>.plus (cls us a i) (cls us b i)
 | .times a b,i=>.times (cls us a i) (cls us b i)
 | .rc a,i=>.rc (cls us a (i+1))
 |t,_=>t
def yc:List Fr->List Ty
 |[]=>[]
 |f::r=>cls (yc r) (yQ f.ex r) 0::yc r
theorem mf(u:Ty):∀(t:Ty) {i:Nat},jG t i->dC u t i=t
 | .bound k,i,h=>by simp only[dC];rw[if_neg (by have:k<i:=h;omega)]
 | .plus a b,i,h=>by simp only[dC];rw[mf u a h.1,mf u b h.2]
 | .times a b,i,h=>by simp only[dC];rw[mf u a h.1,mf u b h.2]
 | .rc a,i,h=>by simp only[dC];rw[mf u a (i:=i+1) h]
 | .zero,_,_=>rfl
 | .one,_,_=>rfl
 | .name _,_,_=>rfl
theorem pR(us:List Ty):∀(t:Ty) {i:Nat},jG t i->cls us t i=t
 | .bound k,i,h=>by simp only[cls];rw[if_pos (by have:k<i:=h;omega)]
 | .plus a b,i,h=>by simp only[cls];rw[pR us a h.1,pR us b h.2]
 | .times a b,i,h=>by simp only[cls];rw[pR us a h.1,pR us b h.2]
 | .rc a,i,h=>by simp only[cls];rw[pR us a (i:=i+1) h]
 | .zero,_,_=>rfl
 | .one,_,_=>rfl
 | .name _,_,_=>rfl
theorem yK{us:List Ty}(hu:∀u,u∈us->jG u 0)(k:Nat):jG (us.getD k .zero) 0:=by
 by_cases h:k<us.length
 ·rw[aa,bp h];exact hu _ (bI h)
 ·rw[aa,List.getElem?_eq_none (by omega)];trivial
theorem pP{us:List Ty}(hu:∀u,u∈us->jG u 0):∀(t:Ty) (i:Nat),jG (cls us t i) i
 |
  .bound k,i=>by
  simp only[cls]
  split
  ·rename_i h;exact h
  ·exact gI _ (yK hu _) (dS _)
 | .plus a b,i=>⟨pP hu a i,pP hu b i⟩
 | .times a b,i=>⟨pP hu a i,pP hu b i⟩
 | .rc a,i=>pP hu a (i+1)
 | .zero,_=>trivial
 | .one,_=>trivial
 | .name _,_=>trivial
theorem nA{us:List Ty}(hu:∀u,u∈us->jG u 0)(U:Ty):∀(t:Ty) (i:Nat),dC U (cls us t (i+1)) i=cls (U::us) t i
 |
  .bound k,i=>by
  simp only[cls]
  by_cases h1:k<i
  ·rw[if_pos (by omega),if_pos h1];simp only[dC];rw[if_neg (by omega)]
  ·rw[if_neg h1]
   by_cases h2:k=i
   ·subst h2;rw[if_pos (by omega)];simp[dC]
   ·rw[if_neg (by omega),mf U _ (gI _ (yK hu _) (dS _)),show k-i=(k-(i+1))+1 by omega,List.getD_cons_succ]
 | .plus a b,i=>by simp only[cls,dC];rw[nA hu U a i,nA hu U b i]
 | .times a b,i=>by simp only[cls,dC];rw[nA hu U a i,nA hu U b i]
 | .rc a,i=>by simp only[cls,dC];rw[nA hu U a (i+1)]
 | .zero,_=>rfl
 | .one,_=>rfl
 | .name _,_=>rfl
theorem xO:∀env:List Fr,∀u,u∈yc env->jG u 0
 |[],u,h=>by cases h
 |
  f::r,u,h=>by
  rcases aK.1 h with rfl|h
  ·exact pP (xO r) _ 0
  ·exact xO r u h
theorem E1{env:List Fr}(h:WF env):∀{u:Nat} {g:Fr},env[u]?=some g->(yc env).getD u .zero=cls (yc g.out) (yQ g.ex g.out) 0:=by
 induction h with
 |nil=>intro u g hg;simp at hg
 |
  cons hs hok hx ht hf hr ih =>
  intro u g hg
  cases u with
  |zero=>simp at hg;subst hg;rfl
  |
   succ u =>
   have:=ih (u:=u) (g:=g) (by simpa using hg)
   simpa[yc]using this
theorem pV(n:Nat):∀(m:Nat) (v:Vl),v.nodes<=m->∀(e:E) (env:List Fr) (t:Ty),Ask e env t->fh n v (e,env)=vT n v (cls (yc env) t 0)
 |0,v,hm=>by have:=dk v;omega
 |
  m+1,v,hm=>by
  intro e env t A
  have recCase:∀(x a b:E) (env:List Fr) (t1:Ty),Ask (.list [x,a,b]) env (.rc t1)->x.at=[114,101,99]->fh n v (.list [x,a,b],env)=vT n v (cls (yc env) (.rc t1) 0):=by
   intro x a b env t1 A hx
   have hhd:hd (.list [x,a,b]) env=(.list [x,a,b],env):=p5 A.wf
   obtain⟨t1',he1,h1,f1,hw1⟩:=jy A.wf A.ok hx A.ty A.cl
   cases he1
   obtain⟨ok1,ok2,ok3,_⟩:=A.ok
   have A':Ask b (.mk a.at (.list [x,a,b]) env::env) t1:=⟨ok3,hw1,h1,f1⟩
   cases v with
   |
    f w =>
    simp only[Vl.nodes]at hm
    simp only[fh,hhd,hx,beq_self_eq_true,bY]
    rw[pV n m w (by omega) b _ t1 A']
    have hty:yQ (.list [x,a,b]) env=.rc t1:=by unfold yQ;rw[A.ty];rfl
    show vT n w (cls (cls (yc env) (yQ (.list [x,a,b]) env) 0::yc env) t1 0)=vT n w (dC (.rc (cls (yc env) t1 1)) (cls (yc env) t1 1) 0)
    rw[hty,nA (xO env)]
    rfl
   |_=>simp[fh,hhd,hx,cls,vT]
  rcases gB A.wf A.ty with⟨hb,hq⟩|⟨u,g,rfl,hq,hu⟩
  ·have hhd:hd e env=(e,env):=kH hq
   rcases fM A.ty hb A.cl with⟨rfl,rfl⟩|⟨rfl,rfl⟩|⟨s,rfl,rfl,hp,h0,h1⟩|⟨x,a,b,t1,t2,rfl,hx,rfl,ha,hbb⟩|⟨x,a,b,t1,t2,rfl,hx,rfl,ha,hbb⟩|⟨x,a,b,t1,rfl,hx,rfl⟩
   ·have hp0:ia [48]=false:=rfl
    cases v<;>simp[fh,hhd,cls,vT,hp0]
   ·cases v<;>simp[fh,hhd,cls,vT]
   ·cases v<;>simp[fh,hhd,cls,vT,hp,h1]
   ·obtain⟨ok1,ok2,ok3,_⟩:=A.ok
    obtain⟨f1,f2⟩:=fF A.cl
    cases v with
    |
     l w =>
     simp only[Vl.nodes]at hm
     simp only[fh,hhd,hx,beq_self_eq_true,bY,cls,vT]
     exact pV n m w (by omega) a env t1 ⟨ok2,A.wf,ha,f1⟩
    |
     r w =>
     simp only[Vl.nodes]at hm
     simp only[fh,hhd,hx,beq_self_eq_true,bY,cls,vT]
     exact pV n m w (by omega) b env t2 ⟨ok3,A.wf,hbb,f2⟩
    |_=>simp[fh,hhd,hx,cls,vT]
   ·obtain⟨ok1,ok2,ok3,_⟩:=A.ok
    obtain⟨f1,f2⟩:=fg A.cl
    cases v with
    |
     p w w' =>
     simp only[Vl.nodes]at hm
     simp only[fh,hhd,hx,beq_self_eq_true,bY,cls,vT]
     rw[pV n m w (by omega) a env t1 ⟨ok2,A.wf,ha,f1⟩,pV n m w' (by omega) b env t2 ⟨ok3,A.wf,hbb,f2⟩]
    |_=>simp[fh,hhd,hx,cls,vT]
   ·exact recCase x a b env t1 A hx
  ·obtain⟨x,a,b,t',hfe,hok,hx,ht',hf',hwf,hlt⟩:=oC A.wf hq
   have hrec:hd g.ex g.out=(g.ex,g.out):=by rw[hfe];exact p5 hwf
   rw[vc n v (rp hq) hrec]
   have hcl:cls (yc env) (.bound u) 0=cls (yc g.out) (yQ g.ex g.out) 0:=by
    simp only[cls];rw[if_neg (by omega),Nat.sub_zero];exact E1 A.wf hu
   rw[hcl]
   have hty:yQ g.ex g.out=t':=by unfold yQ;rw[ht'];rfl
   rw[hty,hfe]
   rw[hfe]at ht'
   obtain⟨t1,_,_,rfl⟩:=dD hx ht'
   exact recCase x a b g.out t1 ⟨hok,hwf,ht',hf'⟩ hx
theorem nu{n:Nat}{v:Vl}{e:E}{t:Ty}(A:Ask e [] t):fh n v (e,[])=vT n v t:=by
 have:=pV n v.nodes v (au _) e [] t A
 rw[this]
 obtain⟨w,ht⟩:=kK e [] t A.ok (fun w hw=>by cases hw) A.ty
 have hl:=uu w []
 rw[ht]at hl
 exact congrArg (vT n v) (pR _ t hl)
def eT(σ:Nm->Option Ty):Ty->Ty
 | .name s=>(σ s).getD (.name s)
 | .plus a b=>.plus (eT σ a) (eT σ b)
 | .times a b=>.times (eT σ a) (eT σ b)
 | .rc a=>.rc (eT σ a)
 |t=>t
def iS(σ:Nm->Option Ty)(x:Nm)(u:Ty):Nm->Option Ty:=fun s=>if s=x then some u else σ s
theorem iv(σ:Nm->Option Ty)(x:Nm)(u:Ty):∀t:Ty,eT σ (sub x u t)=eT (iS σ x (eT σ u)) t
 |
  .name s=>by
  by_cases h:s=x
  ·simp[sub,eT,iS,h]
  ·simp[sub,eT,iS,h]
 | .plus a b=>by simp only[sub,eT,iv σ x u a,iv σ x u b]
 | .times a b=>by simp only[sub,eT,iv σ x u a,iv σ x u b]
 | .rc a=>by simp only[sub,eT,iv σ x u a]
 | .zero=>rfl
 | .one=>rfl
 | .bound k=>rfl
def C8(σ:Nm->Option Ty):Prop:=∀s u,σ s=some u->jG u 0
theorem j6{σ:Nm->Option Ty}(hσ:C8 σ):∀(t:Ty) {i:Nat},jG t i->jG (eT σ t) i
 |
  .name s,i,_=>by
  simp only[eT]
  cases q:σ s with
  |none=>trivial
  |some u=>exact gI u (hσ s u q) (dS _)
 | .plus a b,i,h=>⟨j6 hσ a h.1,j6 hσ b h.2⟩
 | .times a b,i,h=>⟨j6 hσ a h.1,j6 hσ b h.2⟩
 | .rc a,i,h=>j6 hσ a (i:=i+1) h
 | .zero,_,_=>trivial
 | .one,_,_=>trivial
 | .bound k,_,h=>h
theorem jM{σ:Nm->Option Ty}(hσ:C8 σ)(x:Nm)(U:Ty):∀(t:Ty) (i:Nat),bn x t=false->eT (iS σ x U) (dC (.name x) t i)=dC U (eT σ t) i
 |
  .name s,i,h=>by
  have hs:s≠x:=by simpa[bn]using h
  simp only[dC,eT,iS,if_neg hs]
  cases q:σ s with
  |none=>rfl
  |some u=>exact(mf U u (gI u (hσ s u q) (dS _))).symm
 |
  .bound k,i,h=>by
  simp only[dC,eT]
  split
  ·simp[eT,iS]
  ·rfl
 |
  .plus a b,i,h=>by
  simp only[bn,cm]at h
  simp only[dC,eT,jM hσ x U a i h.1,jM hσ x U b i h.2]
 |
  .times a b,i,h=>by
  simp only[bn,cm]at h
  simp only[dC,eT,jM hσ x U a i h.1,jM hσ x U b i h.2]
 | .rc a,i,h=>by simp only[dC,eT,jM hσ x U a (i+1) h]
 | .zero,_,_=>rfl
 | .one,_,_=>rfl
theorem me{σ:Nm->Option Ty}(hσ:C8 σ)(x:Nm){u:Ty}(hu:jG u 0):C8 (iS σ x u):=fun s v h=>by
 unfold iS at h
 split at h
 ·cases h;exact hu
 ·exact hσ s v h
theorem jt(x:Nm):∀(n:Nat) (c:Vl) (t:Ty) (i:Nat),c.nodes<=n->dN (dC (.name x) t i) c=dN t c
 |0,c,_,_,h=>by have:=dk c;omega
 |
  n+1,c,t,i,hn=>by
  cases t with
  |bound k=>simp only[dC];split<;>(cases c<;>rfl)
  |
   plus a b =>
   cases c with
   |l c=>simp only[Vl.nodes]at hn;exact jt x n c a i (by omega)
   |r c=>simp only[Vl.nodes]at hn;exact jt x n c b i (by omega)
   |_=>rfl
  |
   times a b =>
   cases c with
   |
    l c =>
    cases c with
    |p y z=>simp only[Vl.nodes]at hn;exact jt x n y a i (by omega)
    |_=>rfl
   |
    r c =>
    cases c with
    |p y z=>simp only[Vl.nodes]at hn;exact jt x n z b i (by omega)
    |_=>rfl
   |_=>rfl
  |
   rc a =>
   cases c with
   |
    f c =>
    cases c with
    |l y=>simp only[Vl.nodes]at hn;exact jt x n y a (i+1) (by omega)
    |
     r c =>
     cases c with
     |
      p y z =>
      simp only[Vl.nodes]at hn
      have h1:=jt x n y a (i+1) (by omega)
      have h2:=jt x n z (.rc a) i (by omega)
      show (dN (dC (.name x) a (i+1)) y&&dN (.rc (dC (.name x) a (i+1))) z)=(dN a y&&dN (.rc a) z)
      rw[h1]
      exact congrArg _ h2
     |_=>rfl
    |_=>rfl
   |_=>rfl
  |_=>rfl
end Go.Proofs.Trees
namespace Go.Proofs.Trees
open Go Go.VL Go.RowKit
theorem dO(x:Nm):∀(n:Nat) (c:Vl) (t:Ty) (i:Nat) (v:Vl),c.nodes<=n->cB (dC (.name x) t i) c v=cB t c v
 |0,c,_,_,_,h=>by have:=dk c;omega
 |
  n+1,c,t,i,v,hn=>by
  cases t with
  |bound k=>simp only[dC];split<;>(cases c<;>rfl)
  |
   plus a b =>
   cases c with
   |l c=>simp only[Vl.nodes]at hn;exact congrArg Vl.l (dO x n c a i v (by omega))
   |r c=>simp only[Vl.nodes]at hn;exact congrArg Vl.r (dO x n c b i v (by omega))
   |_=>rfl
  |
   times a b =>
   cases c with
   |
    l c =>
    cases c with
    |p y z=>simp only[Vl.nodes]at hn;exact congrArg (fun q=>Vl.p q z) (dO x n y a i v (by omega))
    |_=>rfl
   |
    r c =>
    cases c with
    |p y z=>simp only[Vl.nodes]at hn;exact congrArg (Vl.p y) (dO x n z b i v (by omega))
    |_=>rfl
   |_=>rfl
  |
   rc a =>
   cases c with
   |
    f c =>
    cases c with
    |l y=>simp only[Vl.nodes]at hn;exact congrArg Vl.f (dO x n y a (i+1) v (by omega))
    |
     r c =>
     cases c with
     |
      p y z =>
      simp only[Vl.nodes]at hn
      have h2:=dO x n z (.rc a) i v (by omega)
      have h1:=dO x n y a (i+1) (cB (.rc a) z v) (by omega)
      show Vl.f (cB (dC (.name x) a (i+1)) y (cB (.rc (dC (.name x) a (i+1))) z v))=Vl.f (cB a y (cB (.rc a) z v))
      have h3:cB (.rc (dC (.name x) a (i+1))) z v=cB (.rc a) z v:=h2
      rw[h3,h1]
     |_=>rfl
    |_=>rfl
   |_=>rfl
  |_=>rfl
theorem BJ{n:Nat}{c:Vl}{a:Ty}(h:vT n c (.rc a)=true):∃w,c=.f w/\vT n w (dC (.rc a) a 0)=true:=by
 cases c with
 |f w=>exact⟨w,rfl,h⟩
 |_=>simp[vT]at h
theorem ju{n:Nat}{c:Vl}{a b:Ty}(h:vT n c (.plus a b)=true):(∃w,c=.l w/\vT n w a=true)\/∃w,c=.r w/\vT n w b=true:=by
 cases c with
 |l w=>exact .inl ⟨w,rfl,h⟩
 |r w=>exact .inr ⟨w,rfl,h⟩
 |_=>simp[vT]at h
theorem gC{n:Nat}{c:Vl}{a b:Ty}(h:vT n c (.times a b)=true):∃x y,c=.p x y/\vT n x a=true/\vT n y b=true:=by
 cases c with
 |p x y=>simp only[vT,aw]at h;exact⟨x,y,rfl,h.1,h.2⟩
 |_=>simp[vT]at h
theorem pe{σ:Nm->Option Ty}(hσ:C8 σ){a c d:Ty}{x:Nm}(ha:jG (.rc a) 0)(hc:jG c 0)(hd:jG d 0):∃X,eT σ (qg a x c d)=.rc X/\dC (.rc X) X 0=.plus (eT (iS σ x (eT σ (.rc a))) c) (.times (eT (iS σ x (eT σ (.rc a))) d) (eT σ (qg a x c d))):=by
 refine⟨.plus (eT σ (sub x (.rc a) c)) (.times (eT σ (sub x (.rc a) d)) (.bound 0)),rfl,?_⟩
 have h1:=j6 hσ (sub x (.rc a) c) (kW ha c hc)
 have h2:=j6 hσ (sub x (.rc a) d) (kW ha d hd)
 simp only[dC,mf _ _ h1,mf _ _ h2,if_true]
 rw[iv,iv]
 simp only[qg,eT,iv]
theorem vB(n:Nat):∀(m:Nat) (c:Vl),c.nodes<=m->∀(t:Ty) (s:Nm) (d:Ty) (σ:Nm->Option Ty),Dv t s d->C8 σ->jG t 0->vT n c (eT σ d)=true->dN t c=true
 |0,c,h=>by have:=dk c;omega
 |
  m+1,c,hm=>by
  intro t s d σ hd hσ hl hv
  cases hd with
  |zero=>cases c<;>rfl
  |one=>cases c<;>rfl
  |bound=>cases c<;>rfl
  |hit=>cases c<;>rfl
  |qN=>cases c<;>rfl
  |
   plus h1 h2 _ =>
   rcases ju hv with⟨w,rfl,hw⟩|⟨w,rfl,hw⟩
   ·simp only[Vl.nodes]at hm;exact vB n m w (by omega) _ s _ σ h1 hσ hl.1 hw
   ·simp only[Vl.nodes]at hm;exact vB n m w (by omega) _ s _ σ h2 hσ hl.2 hw
  |
   times h1 h2 _ =>
   rcases ju hv with⟨w,rfl,hw⟩|⟨w,rfl,hw⟩
   ·obtain⟨x,y,rfl,hx,hy⟩:=gC hw
    simp only[Vl.nodes]at hm;exact vB n m x (by omega) _ s _ σ h1 hσ hl.1 hx
   ·obtain⟨x,y,rfl,hx,hy⟩:=gC hw
    simp only[Vl.nodes]at hm;exact vB n m y (by omega) _ s _ σ h2 hσ hl.2 hy
  |
   @rc a _ c0 d0 x hx hs h1 h2 hsz =>
   have lo:jG (dC (.name x) a 0) 0:=gP x a hl
   obtain⟨X,e1,e2⟩:=pe (x:=x) hσ hl (h1.lc lo) (h2.lc lo)
   have hv':=hv
   rw[e1]at hv'
   obtain⟨w,rfl,hw⟩:=BJ hv'
   rw[e2]at hw
   have hcl:=me hσ x (j6 hσ (.rc a) hl)
   rcases ju hw with⟨y,rfl,hy⟩|⟨y,rfl,hy⟩
   ·simp only[Vl.nodes]at hm
    have:=vB n m y (by omega) _ s _ _ h1 hcl lo hy
    rw[jt x y.nodes y a 0 (au _)]at this
    exact this
   ·obtain⟨y,z,rfl,hy,hz⟩:=gC hy
    simp only[Vl.nodes]at hm
    have q1:=vB n m y (by omega) _ x _ _ h2 hcl lo hy
    rw[jt x y.nodes y a 0 (au _)]at q1
    have q2:=vB n m z (by omega) (.rc a) s _ σ (.rc x hx hs h1 h2 hsz) hσ hl hz
    show (dN a y&&dN (.rc a) z)=true
    rw[q1,q2];rfl
theorem qo(n:Nat):∀(m:Nat) (c:Vl),c.nodes<=m->∀(t:Ty) (s:Nm) (d:Ty) (σ:Nm->Option Ty),Dv t s d->C8 σ->jG t 0->vT n c (eT σ d)=true->∀v,vT n v (eT σ (.name s))=true->vT n (cB t c v) (eT σ t)=true
 |0,c,h=>by have:=dk c;omega
 |
  m+1,c,hm=>by
  intro t s d σ hd hσ hl hv v hvv
  have no:∀c,vT n c .zero=false:=fun c=>by cases c<;>rfl
  cases hd with
  |zero=>rw[show eT σ .zero=.zero from rfl,no]at hv;cases hv
  |one=>rw[show eT σ .zero=.zero from rfl,no]at hv;cases hv
  |bound=>rw[show eT σ .zero=.zero from rfl,no]at hv;cases hv
  |qN=>rw[show eT σ .zero=.zero from rfl,no]at hv;cases hv
  |hit=>rw[jX];exact hvv
  |
   plus h1 h2 _ =>
   rcases ju hv with⟨w,rfl,hw⟩|⟨w,rfl,hw⟩
   ·simp only[Vl.nodes]at hm;exact qo n m w (by omega) _ s _ σ h1 hσ hl.1 hw v hvv
   ·simp only[Vl.nodes]at hm;exact qo n m w (by omega) _ s _ σ h2 hσ hl.2 hw v hvv
  |
   times h1 h2 _ =>
   rcases ju hv with⟨w,rfl,hw⟩|⟨w,rfl,hw⟩
   ·obtain⟨x,y,rfl,hx,hy⟩:=gC hw
    simp only[Vl.nodes]at hm
    have:=qo n m x (by omega) _ s _ σ h1 hσ hl.1 hx v hvv
    show (vT n _ _&&vT n _ _)=true
    rw[this,hy];rfl
   ·obtain⟨x,y,rfl,hx,hy⟩:=gC hw
    simp only[Vl.nodes]at hm
    have:=qo n m y (by omega) _ s _ σ h2 hσ hl.2 hy v hvv
    show (vT n _ _&&vT n _ _)=true
    rw[this,hx];rfl
  |
   @rc a _ c0 d0 x hx hs h1 h2 hsz =>
   have lo:jG (dC (.name x) a 0) 0:=gP x a hl
   obtain⟨X,e1,e2⟩:=pe (x:=x) hσ hl (h1.lc lo) (h2.lc lo)
   have hv':=hv
   rw[e1]at hv'
   obtain⟨w,rfl,hw⟩:=BJ hv'
   rw[e2]at hw
   have hcl:=me hσ x (j6 hσ (.rc a) hl)
   have hop:eT (iS σ x (eT σ (.rc a))) (dC (.name x) a 0)=dC (eT σ (.rc a)) (eT σ a) 0:=jM hσ x _ a 0 hx
   have hns:eT (iS σ x (eT σ (.rc a))) (.name s)=eT σ (.name s):=by simp only[eT,iS,if_neg (Ne.symm hs)]
   have hnx:eT (iS σ x (eT σ (.rc a))) (.name x)=eT σ (.rc a):=by simp[eT,iS]
   rcases ju hw with⟨y,rfl,hy⟩|⟨y,rfl,hy⟩
   ·simp only[Vl.nodes]at hm
    have:=qo n m y (by omega) _ s _ _ h1 hcl lo hy v (by rw[hns];exact hvv)
    rw[hop,dO x y.nodes y a 0 v (au _)]at this
    exact this
   ·obtain⟨y,z,rfl,hy,hz⟩:=gC hy
    simp only[Vl.nodes]at hm
    have q2:=qo n m z (by omega) (.rc a) s _ σ (.rc x hx hs h1 h2 hsz) hσ hl hz v hvv
    have q1:=qo n m y (by omega) _ x _ _ h2 hcl lo hy (cB (.rc a) z v) (by rw[hnx];exact q2)
    rw[hop,dO x y.nodes y a 0 _ (au _)]at q1
    exact q1
def DZ:Nm->Option Ty:=fun _=>none
theorem sc:C8 DZ:=fun _ _ h=>by cases h
theorem iR:∀t:Ty,eT DZ t=t
 | .name s=>rfl
 | .plus a b=>by simp only[eT,iR a,iR b]
 | .times a b=>by simp only[eT,iR a,iR b]
 | .rc a=>by simp only[eT,iR a]
 | .zero=>rfl
 | .one=>rfl
 | .bound k=>rfl
theorem GV{n:Nat}{a D:Ty}{x:Nm}(hx:bn x a=false)(hl:jG (.rc a) 0)(h:om a x=some D){c:Vl}(hc:vT n c D=true) :
 dN a c=true/\∀v,vT n v (.rc a)=true->vT n (.f (cB a c v)) (.rc a)=true:=by
 simp only[om,bc,cT,eV]at h
 obtain⟨d,hd,_,rfl⟩:=h
 have lo:jG (dC (.name x) a 0) 0:=gP x a hl
 have hcl:=me sc x hl
 have e1:sub x (.rc a) d=eT (iS DZ x (.rc a)) d:=by
  have:=iv DZ x (.rc a) d
  rw[iR,iR]at this;exact this
 rw[e1]at hc
 have h1:=vB n c.nodes c (au _) _ x _ _ hd hcl lo hc
 rw[jt x c.nodes c a 0 (au _)]at h1
 refine⟨h1,fun v hv=>?_⟩
 have h2:=qo n c.nodes c (au _) _ x _ _ hd hcl lo hc v (by simpa[eT,iS]using hv)
 rw[dO x c.nodes c a 0 v (au _),jM sc x _ a 0 hx,iR]at h2
 exact h2
end Go.Proofs.Trees
namespace Go.Proofs.Trees
open Go Go.VL Go.RowKit
theorem AF{env:List Fr}(h:WF env):∀w,w∈names env->dr w=true:=by
 induction h with
 |nil=>intro w hw;cases hw
 |
  cons hs _ _ _ _ _ ih =>
  intro w hw
  simp only[names,aN,aQ]at hw
  rcases hw with hw|rfl
  ·exact ih w hw
  ·exact hs
theorem CA{ar:List (List UInt8)}{k:Nat}(h:k<ar.length):gn ar k∈ar:=by
 unfold gn
 have:ar.length-1-k<ar.length:=by omega
 simp[aa,this]
def BZ(s:List UInt8)(ar:List (List UInt8)):Prop:=ia s=true\/(bR s ar ar.length).isSome=true
theorem vI{s:List UInt8}{ar:List (List UInt8)}{u:Nat}(hl:∀w,w∈ar->dr w=true)(h:bR s ar ar.length=some u):dr s=true:=by
 obtain⟨h1,h2⟩:=fO _ _ (au _) h
 rw[<-h2];exact hl _ (CA h1)
theorem I3{s0 s:List UInt8}{ar:List (List UInt8)}{t:Ty}(ht:cV (.atom s0) ar=some t)(hl:∀w,w∈ar->dr w=true)(hs:BZ s ar):dT t (oN s ar)=decide (s0=s):=by
 have h48:∀b:UInt8,ia [b]=false->dr [b]=false->s≠[b]:=fun b h1 h2 e=>by
  subst e
  rcases hs with h|h
  ·rw[h1]at h;cases h
  ·obtain⟨u,hu⟩:=cc.1 h
   rw[vI hl hu]at h2;cases h2
 simp only[cV]at ht
 split at ht
 ·rename_i e;cases ht;subst e
  have:=h48 48 rfl rfl
  rw[decide_eq_false (fun h=>this h.symm)];cases oN s ar<;>rfl
 ·split at ht
  ·rename_i e;cases ht;subst e
   have:=h48 49 rfl rfl
   rw[decide_eq_false (fun h=>this h.symm)];cases oN s ar<;>rfl
  ·split at ht
   ·rename_i hp
    cases ht
    unfold oN
    cases e:bR s ar ar.length with
    |none=>rfl
    |
     some u =>
     have hloo:=vI hl e
     show false=_
     rw[decide_eq_false]
     rintro rfl
     rw[kG hp]at hloo;cases hloo
   ·rename_i hnp
    split at ht
    ·split at ht
     ·rename_i u hu
      cases ht
      unfold oN
      cases e:bR s ar ar.length with
      |
       none =>
       show false=_
       rw[decide_eq_false]
       rintro rfl
       rw[hu]at e;cases e
      |
       some u' =>
       show decide (u=u')=_
       rw[cA,decide_eq_true_eq,decide_eq_true_eq]
       constructor
       ·rintro rfl
        rw[<-(fO _ _ (au _) hu).2,<-(fO _ _ (au _) e).2]
       ·rintro rfl
        rw[hu]at e;cases e;rfl
     ·rename_i hn
      cases ht
      unfold oN
      cases e:bR s ar ar.length with
      |none=>rfl
      |
       some u =>
       show false=_
       rw[decide_eq_false]
       rintro rfl
       rw[hn]at e;cases e
    ·cases ht
theorem Dl{b:E}{ar:List (List UInt8)}{w:List UInt8}{t:Ty}(hb:cV b (ar++[w])=some t)(hw:dr w=true)(hs:BZ w ar):vg t (oN w ar).up=false:=by
 rcases hs with h|h
 ·rw[kG h]at hw;cases hw
 ·obtain⟨u,hu⟩:=cc.1 h
  rw[oN,hu];exact HL hb hu
theorem Aq{s w:List UInt8}{ar:List (List UInt8)}(h:w≠s)(hs:BZ s ar):BZ s (ar++[w]):=by
 rcases hs with h1|h1
 ·exact .inl h1
 ·right;rw[jS ar h];obtain⟨u,hu⟩:=cc.1 h1;rw[hu];rfl
def PR(e:E)(s:List UInt8)(t:Ty)(tg:Tg)(v:Vl):Prop:=an Tryz.prog 74 [.agg [.v (.string (mk e.at)),e.sp],.v (.string (mk s)),.agg [.v (.string (mk v.cN.at)),v.cN.sp]] [] (bJ (.sl (mB (bM t tg v))))
theorem Fh(n:Nat):∀(m:Nat) (v:Vl),v.nodes<=m->∀(e:E) (env:List Fr) (t:Ty),Ask e env t->fh n v (e,env)=true->env.length+v.nodes<100000->∀(s:List UInt8),BZ s (names env)->PR e s t (oN s (names env)) v
 |0,v,hm=>by have:=dk v;omega
 |
  m+1,v,hm=>by
  intro e env t A hv hl s hs
  have hloo:=AF A.wf
  unfold PR
  refine SI _ _ _ _ _ ((aY _).mpr trivial) ((aY _).mpr trivial) ?_
  have hlen:=ni t (oN s (names env)) v
  have atomCase:∀s0,e=.atom s0->stuck t v=true->fk Tryz.prog 244 (xA (mk e.at) e.sp (mk s) (mk v.cN.at) v.cN.sp) fun _ xs obs=>bJ (.sl (mB (bM t (oN s (names env)) v))) (xs.headD .any) obs:=by
   rintro s0 rfl hst
   have hat:=I3 A.ty hloo hs
   have hne:s0≠[]:=A.ok
   simp only[xA,E.at,↓zq,zs,ae,zt]
   refine⟨fun _=>⟨fun h=>?_,fun h=>?_⟩,fun h=>absurd h hne⟩
   ·rw[decide_eq_true h]at hat
    rw[kh v hat]
    refine⟨⟨Au _ _ _ _,by omega⟩,?_⟩
    simp[bJ,mB,Vl.cN,E.at,E.sp]
   ·rw[decide_eq_false h]at hat
    rw[dz hat hst]
    simp[bJ,mB]
  have hvh:=Cz v
  rw[dq]at hvh
  rcases gB A.wf A.ty with⟨hb,hq⟩|⟨u,g,rfl,hq,hu⟩
  ·have hhd:hd e env=(e,env):=kH hq
   rcases fM A.ty hb A.cl with⟨rfl,rfl⟩|⟨rfl,rfl⟩|⟨s0,rfl,rfl,hp,h0,h1⟩|⟨x,a,b,t1,t2,rfl,hx,rfl,ha,hbb⟩|⟨x,a,b,t1,t2,rfl,hx,rfl,ha,hbb⟩|⟨x,a,b,t1,rfl,hx,rfl⟩
   ·exact atomCase _ rfl (by cases v<;>rfl)
   ·exact atomCase _ rfl (by cases v<;>rfl)
   ·exact atomCase _ rfl (by cases v<;>rfl)
   ·obtain⟨ok1,ok2,ok3,_⟩:=A.ok
    obtain⟨f1,f2⟩:=fF A.cl
    have hP:=P3.of x a b
    cases v with
    |
     l w =>
     simp only[fh,hhd,hx,beq_self_eq_true,bY]at hv
     simp only[Vl.nodes]at hm hl hlen
     rw[ji]at hlen |-
     rw[fW]at hlen
     have hW:=P2.of (.atom [108]) w.cN
     simp only[xA,E.at,↓zq,zs,ae,zt]
     refine⟨fun h=>absurd rfl h,fun _=>aj hvh ?_⟩
     simp only[vh,Vl.cN,toNat_one,bg,↓zq,zs,ae,zt,hP.1,hP.2.1,hP.2.2.1,hP.2.2.2,hW.1,hW.2.1,hW.2.2,aM]
     refine⟨fun _=>?_,fun h=>absurd rfl h⟩
     repeat refine⟨by omega,?_⟩
     refine aj (Fh n m w (by omega) a env t1 ⟨ok2,A.wf,ha,f1⟩ hv (by omega) s hs) ?_
     simp only[↓zq,zs,ae]
     refine aV (OD [108] Vl.l (fun c=>rfl) (bM t1 (oN s (names env)) w) [] (by simp;omega)) ?_
     simp[↓zq,zs,ae,bJ,aL,bq]
    |
     r w =>
     simp only[fh,hhd,hx,beq_self_eq_true,bY]at hv
     simp only[Vl.nodes]at hm hl hlen
     rw[jo]at hlen |-
     rw[fW]at hlen
     have hW:=P2.of (.atom [114]) w.cN
     simp only[xA,E.at,↓zq,zs,ae,zt]
     refine⟨fun h=>absurd rfl h,fun _=>aj hvh ?_⟩
     simp only[vh,Vl.cN,toNat_one,bg,↓zq,zs,ae,zt,hP.1,hP.2.1,hP.2.2.1,hP.2.2.2,hW.1,hW.2.1,hW.2.2,aM]
     refine⟨fun h=>by simp at h,fun _=>⟨fun _=>?_,fun h=>absurd rfl h⟩⟩
     repeat refine⟨by omega,?_⟩
     refine aj (Fh n m w (by omega) b env t2 ⟨ok3,A.wf,hbb,f2⟩ hv (by omega) s hs) ?_
     simp only[↓zq,zs,ae]
     refine aV (OD [114] Vl.r (fun c=>rfl) (bM t2 (oN s (names env)) w) [] (by simp;omega)) ?_
     simp[↓zq,zs,ae,bJ,aL,bq]
    |_=>simp[fh,hhd,hx]at hv
   ·obtain⟨ok1,ok2,ok3,_⟩:=A.ok
    obtain⟨f1,f2⟩:=fg A.cl
    have hP:=P3.of x a b
    cases v with
    |
     p w w' =>
     simp only[fh,hhd,hx,beq_self_eq_true,bY,aw]at hv
     simp only[Vl.nodes]at hm hl hlen
     rw[gk]at hlen |-
     simp only[aq,fW]at hlen
     have hW:=P3.of (.atom [112]) w.cN w'.cN
     simp only[xA,E.at,↓zq,zs,ae,zt]
     refine⟨fun h=>absurd rfl h,fun _=>aj hvh ?_⟩
     simp only[vh,Vl.cN,toNat_one,bg,↓zq,zs,ae,zt,hP.1,hP.2.1,hP.2.2.1,hP.2.2.2,hW.1,hW.2.1,hW.2.2.1,hW.2.2.2,aM]
     refine⟨fun h=>by simp at h,fun _=>⟨fun h=>by simp at h,fun _=>⟨fun _=>?_,fun h=>absurd rfl h⟩⟩⟩
     repeat refine⟨by omega,?_⟩
     refine aj (Fh n m w (by omega) a env t1 ⟨ok2,A.wf,ha,f1⟩ hv.1 (by omega) s hs) ?_
     simp only[↓zq,zs,ae]
     have h1:=Nb s (mk []) (E.list [x,a,b]).sp ((aY _).mpr trivial) (mk []) (E.list [.atom [112],w.cN,w'.cN]).sp w w' (P3.of _ _ _) (bM t1 (oN s (names env)) w) (by omega) _ 0 [] (aW _) (by simp;omega)
     rw[bf,aS]at h1
     refine cF h1 ?_
     simp only[↓zq,zs,ae,aY,ae,bg,hP.1,hP.2.1,hP.2.2.2,hW.1,hW.2.1,hW.2.2.2,aM]
     repeat refine⟨by omega,?_⟩
     refine aj (Fh n m w' (by omega) b env t2 ⟨ok3,A.wf,hbb,f2⟩ hv.2 (by omega) s hs) ?_
     simp only[↓zq,zs,ae]
     have h2:=Mp (mk []) (E.list [.atom [112],w.cN,w'.cN]).sp w w' (P3.of _ _ _) (bM t2 (oN s (names env)) w') (by omega) _ 0 (eW (fun c=>Vl.l (.p c w')) (bM t1 (oN s (names env)) w)) (aW _) (by rw[fW];omega)
     rw[bf]at h2
     refine cF h2 ?_
     simp[↓zq,zs,ae,bJ]
    |_=>simp[fh,hhd,hx]at hv
   ·obtain⟨t1',he1,h1,f1,hw1⟩:=jy A.wf A.ok hx A.ty A.cl
    cases he1
    obtain⟨ok1,ok2,ok3,_⟩:=A.ok
    obtain⟨_,hla,_,_⟩:=dD hx A.ty
    have A':Ask b (.mk a.at (.list [x,a,b]) env::env) t1:=⟨ok3,hw1,h1,f1⟩
    have hnm:names (.mk a.at (.list [x,a,b]) env::env)=names env++[a.at]:=rfl
    have hP:=P3.of x a b
    cases v with
    |
     f w =>
     simp only[fh,hhd,hx,beq_self_eq_true,bY]at hv
     simp only[Vl.nodes]at hm hl hlen
     have hW:=P2.of (.atom [102]) w.cN
     simp only[xA,E.at,↓zq,zs,ae,zt]
     refine⟨fun h=>absurd rfl h,fun _=>aj hvh ?_⟩
     simp only[vh,Vl.cN,toNat_one,bg,↓zq,zs,ae,zt,hP.1,hP.2.1,hP.2.2.1,hP.2.2.2,hW.1,hW.2.1,hW.2.2,aM]
     refine⟨fun h=>by simp at h,fun _=>⟨fun h=>by simp at h,fun _=>⟨fun h=>by simp at h,fun _=>?_⟩⟩⟩
     repeat refine⟨by omega,?_⟩
     refine⟨fun h=>?_,fun h=>?_⟩
     ·
      have hh:a.at=s:=h
      subst hh
      have:vg (.rc t1) (oN a.at (names env))=false:=Dl h1 hla hs
      rw[iY _ _ (au _) _ _ this]
      simp[bJ,mB]
     ·have hh:a.at≠s:=h
      rw[gd]at hlen |-
      simp only[aq,fW]at hlen
      repeat refine⟨by omega,?_⟩
      have i1:=Fh n m w (by omega) b _ t1 A' hv (by simp;omega) s (by rw[hnm];exact Aq hh hs)
      rw[hnm,zZ _ hh]at i1
      refine aj i1 ?_
      simp only[↓zq,zs,ae]
      have h3:=OY s a.at (mk []) (E.list [x,a,b]).sp ((aY _).mpr trivial) (mk []) (E.list [.atom [102],w.cN]).sp ((aY _).mpr trivial) (bM t1 (oN s (names env)).up w) (by omega) _ 0 [] (aW _) (by simp;omega)
      rw[bf,aS]at h3
      refine cF h3 ?_
      simp only[↓zq,zs,ae,aY,ae,toNat_one,bg,hP.1,hP.2.1,hP.2.2.2,hW.1,hW.2.1,hW.2.2,aM]
      repeat refine⟨by omega,?_⟩
      have i2:=Fh n m w (by omega) b _ t1 A' hv (by simp;omega) a.at (by rw[hnm];right;rw[fB];rfl)
      rw[hnm,vX]at i2
      refine aj i2 ?_
      simp only[↓zq,zs,ae]
      have hl2:=ni t1 (.bd 0) w
      have ih3:∀h,h∈bM t1 (.bd 0) w->PR (.list [x,a,b]) s (.rc t1) (oN s (names env)) h.2:=fun h hh=>by
       have h3:=(ir hh).1
       have h4:=iu n m w (by omega) b _ t1 A' hv 0 _ rfl h hh
       exact Fh n m h.2 (by omega) (.list [x,a,b]) env (.rc t1) A h4 (by omega) s hs
      have h4:=Kz s (.list [x,a,b]) t1 (oN s (names env)) (bM t1 (.bd 0) w) (by omega) ih3 _ 0 (eW (fun c=>.f (.l c)) (bM t1 (oN s (names env)).up w)) (aW _) (by
       simp only[bf,aq,fW]
       have hlen2:(bM t1 (oN s (names env)).up w).length+((bM t1 (.bd 0) w).flatMap (AN t1 (oN s (names env)))).length<=1+w.nodes:=hlen
       omega)
      rw[bf]at h4
      simp only[E.at]at h4
      refine cF h4 ?_
      simp[↓zq,zs,ae,bJ]
    |_=>simp[fh,hhd,hx]at hv
  ·cases e with
   |atom s0=>exact atomCase _ rfl (by cases v<;>rfl)
   |list l=>exact absurd hq (by rw[show (E.list l).at=[] from rfl,lE A.wf];simp)
end Go.Proofs.Trees
namespace Go.Proofs.Trees
open Go Go.VL Go.RowKit
def kU(s:List UInt8):Option Ty:=match xu s with
 |some (.rc a)=>some a
 |_=>none
def Cb:Option Ty->AV
 |some a=>(Ty.rc a).av
 |none=>iC
theorem PM(s:List UInt8):an Tryz.prog 95 [.v (.string (mk s))] [] (bJ (Cb (kU s))):=by
 refine SH _ ?_
 unfold Ok
 refine aj (Ld s) ?_
 cases h:xu s with
 |none=>simp[↓zq,zs,ae,ik,Cb,kU,h,bJ]
 |some t=>cases t<;>simp[↓zq,zs,ae,ik,Cb,kU,h,bJ,Ty.av]
def qJ(s v:List UInt8):Option Vl:=match kU s with
 |some _=>nI s v 100
 |none=>none
def IL(s:List UInt8):AV:=match kU s with
 |some a=>(Ty.rc a).av
 |none=>iC
theorem uf{s:List UInt8}{a:Ty}(h:kU s=some a):xu s=some (.rc a):=by
 unfold kU at h
 split at h
 ·rename_i e;cases h;exact e
 ·cases h
theorem QC(s v:List UInt8):an Tryz.prog 69 [.v (.string (mk s)),.v (.string (mk v))] [] (bJ (.cI [IL s,jE (qJ s v)])):=by
 refine Sm _ _ ?_
 unfold ON
 refine aj (PM s) ?_
 cases h:kU s with
 |none=>simp[↓zq,zs,ae,Cb,IL,qJ,h,bJ,jE]
 |
  some a =>
  simp only[↓zq,zs,ae,Cb,aF,fT]
  refine⟨fun h=>(by cases h),fun _=>?_⟩
  refine aj (Mi s v 100) ?_
  rw[uf h]
  simp[↓zq,zs,ae,ik,gy,IL,qJ,h,bJ,aF]
structure LV(s v:List UInt8)(w:Vl)(a:Ty)(x A B:E):Prop where
 l:kU s=some a
 ce:jL s=some (.list [x,A,B])
 v:sK v=some w
 ask:Ask (.list [x,A,B]) [] (.rc a)
 hx:x.at=[114,101,99]
 TR:dr A.at=true
 body:Ask B [.mk A.at (.list [x,A,B]) []] a
 fh:fh 100 w (.list [x,A,B],[])=true
theorem tL{e:E}{env:List Fr}{a:Ty}(A:Ask e env (.rc a)):∃x y z,e=.list [x,y,z]/\x.at=[114,101,99]/\dr y.at=true/\Ask z (.mk y.at (.list [x,y,z]) env::env) a:=by
 rcases fM A.ty rfl A.cl with⟨_,h⟩|⟨_,h⟩|⟨s,_,h,_⟩|⟨x,y,z,t1,t2,_,_,h,_⟩|⟨x,y,z,t1,t2,_,_,h,_⟩|⟨x,y,z,t1,rfl,hx,h⟩
 ·cases h
 ·cases h
 ·cases h
 ·cases h
 ·cases h
 ·cases h
  obtain⟨t1',he1,h1,f1,hw1⟩:=jy A.wf A.ok hx A.ty A.cl
  cases he1
  obtain⟨_,_,ok3,_⟩:=A.ok
  obtain⟨_,hla,_,_⟩:=dD hx A.ty
  exact⟨x,y,z,rfl,hx,hla,ok3,hw1,h1,f1⟩
theorem p8{s v:List UInt8}{w:Vl}(h:qJ s v=some w):∃a x A B,LV s v w a x A B:=by
 unfold qJ at h
 split at h
 ·rename_i a hl
  obtain⟨e,t,m,h1,h2,h3,h4,h5,h6,h7⟩:=pB h
  rw[uf hl]at h3
  cases h3
  obtain⟨x,A,B,rfl,hx,hA,hB⟩:=tL h4
  have:m=100:=by omega
  subst this
  exact⟨a,x,A,B,hl,h1,h2,h4,hx,hA,hB,h7⟩
 ·cases h
theorem LV.il{s v:List UInt8}{w:Vl}{a:Ty}{x A B:E}(h:LV s v w a x A B):w.il 100:=(mj h.v).2.1
theorem LV.nodes{s v:List UInt8}{w:Vl}{a:Ty}{x A B:E}(h:LV s v w a x A B):w.nodes<=200:=(mj h.v).2.2
theorem ui{n:Nat}{v:Vl}{x A B:E}{env:List Fr}(hw:WF env)(hx:x.at=[114,101,99])(h:fh n v (.list [x,A,B],env)=true):∃w,v=.f w/\fh n w (B,.mk A.at (.list [x,A,B]) env::env)=true:=by
 have hd:=p5 (x:=x) (a:=A) (b:=B) hw
 cases v<;>simp[fh,hd,hx]at h |-
 exact h
theorem QP(n:Nat)(v:Vl)(x A B:E)(a:Ty)(hA:Ask B [.mk A.at (.list [x,A,B]) []] a)(hx:x.at=[114,101,99])(hv:fh n v (.list [x,A,B],[])=true)(hl:v.nodes<90000):an Tryz.prog 58 [(Ty.rc a).av,v.cE] [] (bJ (.sl (iw (kids a v)))):=by
 obtain⟨w,rfl,hw⟩:=ui .nil hx hv
 refine Se _ _ ((aF _).mpr trivial) ((aO _).mpr trivial) ?_
 unfold JP
 refine aP (El a iC [] .nil) (AU.ne a iC []) ?_
 rintro r o ⟨⟨m,hm,rfl⟩,rfl⟩
 have he2:kS (.ptr [.pid m [(Ty.rc a).av,iC],iC]) [m]:=.cons hm .nil
 have hfr:LK.ptr.has (.pid m [(Ty.rc a).av,iC]):=.inr (.inr ⟨_,_,rfl⟩)
 simp only[Ty.av]at he2 hfr
 simp only[↓zq,zs,ae,bH,aF,he2.has,hfr,Vl.cE,aO,Ty.av]
 repeat refine⟨by omega,?_⟩
 simp only[Vl.nodes]at hl
 have i2:=Fl n w.nodes w (au _) B _ a hA hw (by simp;omega) _ _ he2 (by simp) (.bd 0) [] _ (by have:=AQ.bd (k:=0) (ids:=[m]) (by simp) [(Ty.rc a).av,iC] [];simpa only[bu,Ty.av]using this)
 unfold Gv at i2
 refine aj i2 ?_
 simp[↓zq,zs,ae,bJ,kids]
def si(l:List Nat):List (List AV):=l.map fun(k:Nat)=>[.v (.int .i64 (k:Int))]
theorem xT(l:List Nat):(si l).length=l.length:=by simp[si]
end Go.Proofs.Trees
namespace Go.Proofs.Trees
open Go Go.VL Go.RowKit
theorem Gz{b:UInt8}(h:im b=true):fm b=true:=by
 simp only[im,fm,decide_eq_true_eq]at h |-;omega
theorem DX{y:Nm}(h:K4 y):y≠[]/\y.all fm=true:=by
 have key:∀lo hi,97<=lo->hi<=122->named lo hi y=true->y≠[]/\y.all fm=true:=fun lo hi h1 h2 h=>by
  cases y with
  |nil=>cases h
  |
   cons c r =>
   simp only[named,aw,decide_eq_true_eq]at h
   refine⟨by simp,?_⟩
   rw[db,aw]
   refine⟨?_,?_⟩
   ·simp only[fm,decide_eq_true_eq];omega
   ·rw[bZ]
    intro b hb
    exact Gz (bZ.1 h.2 b hb)
 rcases h with h|h
 ·exact key 120 122 (by omega) (by omega) h
 ·exact key 116 116 (by omega) (by omega) h
theorem BW(m:Nat):(tN m).all fm=true:=by
 rw[db,xl (m+1) m (by omega)];rfl
theorem p6(F:List Nm):∀(t:Ty) (to:List Nm) (k:Nat),(∀y,bn y t=true->y≠[]/\y.all fm=true)->(∀w,w∈to->w≠[]/\w.all fm=true)->jG t to.length->(gX F t to k).1.pr
 | .zero,_,_,_,_,_=>⟨by simp,by decide⟩
 | .one,_,_,_,_,_=>⟨by simp,by decide⟩
 | .name s,_,_,hn,_,_=>hn s (by simp[bn])
 |
  .bound u,to,_,_,ht,hl=>by
  have:to.length-1-u<to.length:=by have:u<to.length:=hl;omega
  show (E.atom (gn to u)).pr
  unfold gn
  rw[aa,bp this]
  exact ht _ (bI this)
 | .plus a b,to,k,hn,ht,hl=>⟨by simp,⟨by simp,by decide⟩,p6 F a to k (fun y hy=>hn y (by simp[bn,hy])) ht hl.1,p6 F b to _ (fun y hy=>hn y (by simp[bn,hy])) ht hl.2,trivial⟩
 | .times a b,to,k,hn,ht,hl=>⟨by simp,⟨by simp,by decide⟩,p6 F a to k (fun y hy=>hn y (by simp[bn,hy])) ht hl.1,p6 F b to _ (fun y hy=>hn y (by simp[bn,hy])) ht hl.2,trivial⟩
 |
  .rc a,to,k,hn,ht,hl=>by
  refine⟨by simp,⟨by simp,by decide⟩,⟨by simp,BW _⟩,p6 F a (to++[tN (nx F k)]) _ hn (fun w hw=>?_) (by rw[aq];exact hl),trivial⟩
  rcases aN.1 hw with hw|hw
  ·exact ht w hw
  ·simp only[aQ]at hw;rw[hw];exact⟨by simp,BW _⟩
theorem Ar{D:Ty}{dt:Nm}(g:ga D)(hn:∀y,bn y D=true->K4 y)(h:told D=some dt):qV dt=some D:=by
 unfold told at h
 split at h
 ·rename_i hh
  cases h
  obtain⟨t,ht⟩:=cc.1 hh.2
  obtain⟨e,he,hw,hte,_,_⟩:=og ht
  obtain⟨h1,_,_⟩:=qf he
  obtain⟨hx,hpr,_⟩:=yZ h1
  obtain⟨w1,w2,_⟩:=kQ (bQ D []) D [] 0 (.nil _ _) g.1 fun y hy=>⟨(eU D [] y).2 (.inr hy),g.2 y hy⟩
  have hp:=p6 (bQ D []) D [] 0 (fun y hy=>DX (hn y hy)) (fun w hw=>by cases hw) g.1
  have:=BL hp hpr hx
  rw[ht,<-hte,<-this,w2]
 ·cases h
theorem tQ{a d:Ty}{x:Nm}(h:om a x=some d):∀y,bn y d=true->bn y a=true:=by
 simp only[om,bc,cT,eV]at h
 obtain⟨d',h1,_,rfl⟩:=h
 intro y hy
 rcases jg _ hy with h|⟨h,h'⟩
 ·exact h
 ·rcases gH a 0 (h1.names y h')with e|e
  ·exact absurd e h
  ·exact e
structure ZT(s d:Nm)(a:Ty)(x A B:E)(D:Ty):Prop where
 l:kU s=some a
 ce:jL s=some (.list [x,A,B])
 ask:Ask (.list [x,A,B]) [] (.rc a)
 hx:x.at=[114,101,99]
 body:Ask B [.mk A.at (.list [x,A,B]) []] a
 dl:cO s=some d
 y:qV s=some (.rc a)
 lp:om a mq=some D
 bk:qV d=some D
theorem uA{s:Nm}{t:Ty}(h:xu s=some t):qV s=some t:=by
 unfold xu at h
 split at h
 ·cases h
 ·rename_i u hu
  split at h
  ·cases h;exact hu
  ·cases h
theorem ZT.of{s d:Nm}{a:Ty}(hl:kU s=some a)(hd:cO s=some d):∃x A B D,ZT s d a x A B D:=by
 have hc:=uf hl
 cases hce:jL s with
 |none=>rw[nk hce]at hc;cases hc
 |
  some e =>
  obtain⟨t,h1,hA,_⟩:=hD hce
  rw[hc]at h1;cases h1
  obtain⟨x,A,B,rfl,hx,hA',hB⟩:=tL hA
  have hy:=uA hc
  have hd':=hd
  unfold cO at hd'
  rw[hy]at hd'
  obtain⟨D,h2,h3⟩:=bc.1 hd'
  obtain⟨e2,he2,hw2,hte2,_,_⟩:=og hy
  have hg:=rW hw2 hte2 (x:=mq) ⟨by simp,by simp,by simp⟩ h2
  exact⟨x,A,B,D,hl,hce,hA,hx,hB,hd,hy,h2,Ar hg.1 (fun y hy'=>nq hy y (tQ h2 y hy')) h3⟩
structure Cx(a:Ty)(w:Vl):Prop where
 ok:dN a w=true
 ty:∀v,vT 100 v (.rc a)=true->vT 100 (.f (cB a w v)) (.rc a)=true
 il:w.il 100
 nd:w.nodes<=200
structure Fo(a:Ty)(v:Vl):Prop where
 ty:vT 100 v (.rc a)=true
 il:v.il 100
 nd:v.nodes<=200
theorem ZT.ctx{s d:Nm}{a:Ty}{x A B:E}{D:Ty}(z:ZT s d a x A B D){c:Nm}{w:Vl}(h:nI d c 100=some w):Cx a w:=by
 obtain⟨e,t,m,h1,h2,h3,h4,h5,h6,h7⟩:=pB h
 have hm:m=100:=by omega
 subst hm
 have:=uA h3
 rw[z.bk]at this;cases this
 rw[nu h4]at h7
 obtain⟨e2,he2,hw2,hte2,_,_⟩:=og z.y
 have hlc:jG (.rc a) 0:=hte2 ▸ hw2.qG.1
 obtain⟨q1,q2⟩:=GV (uw z.y) hlc z.lp h7
 exact⟨q1,q2,(mj h2).2.1,(mj h2).2.2⟩
theorem ZT.qW{s d:Nm}{a:Ty}{x A B:E}{D:Ty}(z:ZT s d a x A B D){f:Nm}{v:Vl}(h:qJ s f=some v):Fo a v/\f=v.cL:=by
 obtain⟨a',x',A',B',L⟩:=p8 h
 have:=L.l
 rw[z.l]at this;cases this
 exact⟨⟨by rw[<-nu L.ask];exact L.fh,L.il,L.nodes⟩,rj L.v⟩
theorem Fo.fh{s d:Nm}{a:Ty}{x A B:E}{D:Ty}(z:ZT s d a x A B D){v:Vl}(h:Fo a v):fh 100 v (.list [x,A,B],[])=true:=by rw[nu z.ask];exact h.ty
theorem ZT.cL{s d:Nm}{a:Ty}{x A B:E}{D:Ty}(z:ZT s d a x A B D){w:Vl}(hb:w.il 100)(hv:vT 100 w (.rc a)=true):nI s w.cL 100=if w.nodes<=200 then some w else none:=by
 unfold nI
 rw[z.ce]
 by_cases hn:w.nodes<=200
 ·rw[ri hb hn,if_pos hn]
  simp only
  rw[if_pos ⟨by omega,by rw[show (100:Int).toNat=100 from rfl,nu z.ask];exact hv⟩]
 ·rw[if_neg hn]
  cases q:sK w.cL with
  |none=>rfl
  |
   some w' =>
   exfalso
   obtain⟨_,h2,h3⟩:=mj q
   have:=uT hb h2 (rj q)
   rw[this]at hn;exact hn h3
theorem ZT.lv{s d:Nm}{a:Ty}{x A B:E}{D:Ty}(z:ZT s d a x A B D)(f:Nm):qJ s f=nI s f 100:=by
 unfold qJ;rw[z.l]
def eI(d:Nm):List Nm->Option (List Vl)
 |[]=>some []
 |
  c::r=>match nI d c 100,eI d r with
  |some w,some l=>some (w::l)
  |_,_=>none
theorem se{s d:Nm}{a:Ty}{x A B:E}{D:Ty}(z:ZT s d a x A B D):∀(p:List Nm) (l:List Vl),eI d p=some l->p=l.map (·.cL)/\∀c,c∈l->Cx a c
 |[],l,h=>by cases h;exact⟨rfl,fun c hc=>by cases hc⟩
 |
  c::r,l,h=>by
  simp only[eI]at h
  split at h
  ·rename_i w l' h1 h2
   cases h
   obtain⟨q1,q2⟩:=se z r l' h2
   obtain⟨_,_,_,_,hv,_⟩:=pB h1
   refine⟨by rw[bB,<-q1,<-rj hv],fun c' hc'=>?_⟩
   rcases aK.1 hc' with rfl|hc'
   ·exact z.ctx h1
   ·exact q2 c' hc'
  ·cases h
theorem s3(d:Nm):∀(p q:List Nm),eI d (p++q)=(eI d p).bind fun l=>(eI d q).map (l++·)
 |[],q=>by cases h:eI d q<;>simp[eI,h]
 |
  c::p,q=>by
  simp only[ba,eI,s3 d p q]
  cases nI d c 100 with
  |none=>rfl
  |
   some w =>
   cases eI d p with
   |none=>rfl
   |some l=>cases eI d q<;>rfl
noncomputable def wB (s:Nm) (p:List Nm) (f:Nm):Option (List Vl×Vl):=match qJ s f,cO s with
 |some v,some d=>if p.length<=50 then(eI d p).map fun l=>(l,v)else none
 |_,_=>none
def zA(s:Nm):Ty:=(kU s).getD .zero
def qP(a:Ty)(l:List Vl)(v:Vl):Option (List Vl×Vl):=match l.getLast? with
 |none=>none
 |some c=>if(Vl.f (cB a c v)).nodes<=200 then some (l.dropLast,.f (cB a c v))else none
def iO:Nat->Ty->List Vl->Vl->Option Vl
 |0,_,_,v=>some v
 |n+1,a,l,v=>(qP a l v).bind fun r=>iO n a r.1 r.2
def tF(a:Ty)(l:List Vl)(v:Vl):Option Vl:=iO l.length a l v
noncomputable def gq (s:Nm) (p:List Nm) (f:Nm):Option (List Vl×Vl):=(wB s p f).bind fun r=>if(tF (zA s) r.1 r.2).isSome=true then some r else none
structure ZI(a:Ty)(l:List Vl)(v:Vl):Prop where
 ctx:∀c,c∈l->Cx a c
 qW:Fo a v
theorem uE{a:Ty}{l l':List Vl}{v w:Vl}(h:ZI a l v)(hu:qP a l v=some (l',w)):ZI a l' w/\l'.length+1=l.length/\∃c,l=l'++[c]/\w=.f (cB a c v):=by
 unfold qP at hu
 cases q:l.getLast? with
 |none=>rw[q]at hu;cases hu
 |
  some c =>
  rw[q]at hu
  simp only at hu
  split at hu
  ·rename_i hn
   cases hu
   have hne:l≠[]:=by rintro rfl;cases q
   have hl:l.dropLast++[c]=l:=by
    have:=List.dropLast_concat_getLast hne
    rw[List.getLast?_eq_some_getLast hne]at q
    cases q;exact this
   have hc:c∈l:=by rw[<-hl];simp
   have hC:=h.ctx c hc
   refine⟨⟨fun c' hc'=>h.ctx c' (by rw[<-hl];exact aD _ hc'),hC.ty v h.qW.ty,sH 100 a c v hC.il h.qW.il,hn⟩,?_,c,hl.symm,rfl⟩
   have:=congrArg List.length hl
   simpa using this
  ·cases hu
end Go.Proofs.Trees
namespace Go.Proofs.Trees
open Go Go.VL Go.RowKit
theorem xR(w:World)(k:Nat)(os:Array Obj):Below w.heap.size w (Go.«Sort».grow (w.drewN k) os):=by
 refine⟨rfl,rfl,rfl,?_,fun b hb=>?_⟩
 ·simp[Go.«Sort».grow,World.drewN]
 ·simp only[Go.«Sort».grow,World.drewN]
  rw[Array.getElem?_append_left hb]
theorem Ga(k:Nat)(hk:k<1000000000):an Tryz.prog 152 [.v (.int .i64 (k:Int))] [] (bJ (.v (.string (mk (dd k))))):=by
 refine an.SD (xs:=[.int .i64 (k:Int)]) ⟨qE,by kernel_rfl,by kernel_rfl,by kernel_rfl⟩ fun w ht=>?_
 have:=Any.strconv_Itoa Tryz.Cc (k:Int) (by omega) (by omega) w ht
 refine Calls.mono this fun e w' ⟨h1,n,os,h2⟩=>⟨?_,?_⟩
 ·rw[h1,Lib.itoa_nonneg];rfl
 ·rw[h2];exact xR w n os
abbrev hN(k:Nat):Nm:=35::dd k
theorem uy{j k:Nat}(h:hN j=hN k):j=k:=wP (j+1) j k (by omega) (List.cons.inj h).2
theorem xG(u:Ty):∀(t:Ty) (i:Nat),i+t.atoms<1000000->an Tryz.prog 135 [t.av,u.av,.v (.int .i64 (i:Int))] [] (bJ (dC u t i).av)
 |
  .zero,i,_=>by
  refine wU _ _ _ ((aF _).mpr trivial) ((aF _).mpr trivial) ?_
  simp[E5,Ty.av,dC,↓zq,zs,ae,bJ]
 |
  .one,i,_=>by
  refine wU _ _ _ ((aF _).mpr trivial) ((aF _).mpr trivial) ?_
  simp[E5,Ty.av,dC,↓zq,zs,ae,bJ]
 |
  .name s,i,_=>by
  refine wU _ _ _ ((aF _).mpr trivial) ((aF _).mpr trivial) ?_
  simp[E5,Ty.av,dC,↓zq,zs,ae,bJ]
 |
  .bound k,i,_=>by
  refine wU _ _ _ ((aF _).mpr trivial) ((aF _).mpr trivial) ?_
  simp only[E5,Ty.av,dC,↓zq,zs,ae,bJ]
  refine⟨by omega,fun _=>⟨by omega,fun h=>?_,fun h=>?_⟩,fun h=>absurd rfl h⟩
  ·rw[if_pos (by omega)]
  ·rw[if_neg (by omega)];rfl
 |
  .plus a b,i,hl=>by
  simp only[Ty.atoms]at hl
  refine wU _ _ _ ((aF _).mpr trivial) ((aF _).mpr trivial) ?_
  simp only[E5,Ty.av,dC,↓zq,zs,ae,aF]
  refine⟨by omega,fun h=>by omega,fun _=>⟨fun _=>?_,fun h=>absurd rfl h⟩⟩
  repeat refine⟨by omega,?_⟩
  refine aj (xG u a i (by omega)) ?_
  simp only[↓zq,zs,ae,aF]
  repeat refine⟨by omega,?_⟩
  refine aj (xG u b i (by omega)) ?_
  simp only[↓zq,zs,ae,aF]
  exact⟨rfl,rfl⟩
 |
  .times a b,i,hl=>by
  simp only[Ty.atoms]at hl
  refine wU _ _ _ ((aF _).mpr trivial) ((aF _).mpr trivial) ?_
  simp only[E5,Ty.av,dC,↓zq,zs,ae,aF]
  refine⟨by omega,fun h=>by omega,fun _=>⟨fun h=>by omega,fun _=>⟨fun _=>?_,fun h=>absurd rfl h⟩⟩⟩
  repeat refine⟨by omega,?_⟩
  refine aj (xG u a i (by omega)) ?_
  simp only[↓zq,zs,ae,aF]
  repeat refine⟨by omega,?_⟩
  refine aj (xG u b i (by omega)) ?_
  simp only[↓zq,zs,ae,aF]
  exact⟨rfl,rfl⟩
 |
  .rc a,i,hl=>by
  simp only[Ty.atoms]at hl
  refine wU _ _ _ ((aF _).mpr trivial) ((aF _).mpr trivial) ?_
  simp only[E5,Ty.av,dC,↓zq,zs,ae,aF]
  refine⟨by omega,fun h=>by omega,fun _=>⟨fun h=>by omega,fun _=>⟨fun h=>by omega,fun _=>⟨fun _=>?_,fun h=>absurd rfl h⟩⟩⟩⟩
  repeat refine⟨by omega,?_⟩
  rw[bA i (by omega)]
  refine aj (xG u a (i+1) (by omega)) ?_
  simp only[↓zq,zs,ae,aF]
  exact⟨rfl,rfl⟩
theorem Bo(x:Nm)(u:Ty):∀(t:Ty),an Tryz.prog 136 [t.av,.v (.string (mk x)),u.av] [] (bJ (sub x u t).av)
 |
  .zero=>by
  refine FW _ _ _ ((aF _).mpr trivial) ((aF _).mpr trivial) ?_
  simp[E2,Ty.av,sub,↓zq,zs,ae,bJ]
 |
  .one=>by
  refine FW _ _ _ ((aF _).mpr trivial) ((aF _).mpr trivial) ?_
  simp[E2,Ty.av,sub,↓zq,zs,ae,bJ]
 |
  .bound k=>by
  refine FW _ _ _ ((aF _).mpr trivial) ((aF _).mpr trivial) ?_
  simp[E2,Ty.av,sub,↓zq,zs,ae,bJ]
 |
  .name s=>by
  refine FW _ _ _ ((aF _).mpr trivial) ((aF _).mpr trivial) ?_
  simp only[E2,Ty.av,sub,↓zq,zs,ae,zt,bJ]
  refine⟨by omega,fun _=>⟨by omega,fun h=>?_,fun h=>?_⟩,fun h=>absurd rfl h⟩
  ·rw[if_pos h]
  ·rw[if_neg h];rfl
 |
  .plus a b=>by
  refine FW _ _ _ ((aF _).mpr trivial) ((aF _).mpr trivial) ?_
  simp only[E2,Ty.av,sub,↓zq,zs,ae,aF]
  refine⟨by omega,fun h=>by omega,fun _=>⟨fun _=>?_,fun h=>absurd rfl h⟩⟩
  repeat refine⟨by omega,?_⟩
  refine aj (Bo x u a) ?_
  simp only[↓zq,zs,ae,aF]
  repeat refine⟨by omega,?_⟩
  refine aj (Bo x u b) ?_
  simp only[↓zq,zs,ae,aF]
  exact⟨rfl,rfl⟩
 |
  .times a b=>by
  refine FW _ _ _ ((aF _).mpr trivial) ((aF _).mpr trivial) ?_
  simp only[E2,Ty.av,sub,↓zq,zs,ae,aF]
  refine⟨by omega,fun h=>by omega,fun _=>⟨fun h=>by omega,fun _=>⟨fun _=>?_,fun h=>absurd rfl h⟩⟩⟩
  repeat refine⟨by omega,?_⟩
  refine aj (Bo x u a) ?_
  simp only[↓zq,zs,ae,aF]
  repeat refine⟨by omega,?_⟩
  refine aj (Bo x u b) ?_
  simp only[↓zq,zs,ae,aF]
  exact⟨rfl,rfl⟩
 |
  .rc a=>by
  refine FW _ _ _ ((aF _).mpr trivial) ((aF _).mpr trivial) ?_
  simp only[E2,Ty.av,sub,↓zq,zs,ae,aF]
  refine⟨by omega,fun h=>by omega,fun _=>⟨fun h=>by omega,fun _=>⟨fun h=>by omega,fun _=>⟨fun _=>?_,fun h=>absurd rfl h⟩⟩⟩⟩
  repeat refine⟨by omega,?_⟩
  refine aj (Bo x u a) ?_
  simp only[↓zq,zs,ae,aF]
  exact⟨rfl,rfl⟩
theorem zG(c:Int)(a b:Ty):an Tryz.prog 153 [.v (.int .u8 c),a.av,b.av] [] (bJ (.ptr [.v (.int .u8 c),.v (.string (mk [])),.v (.int .i64 0),a.av,b.av])):=by
 refine Rm _ _ _ ((aF _).mpr trivial) ((aF _).mpr trivial) ?_
 simp[K7,↓zq,zs,ae,bJ]
abbrev DF(f:Nat)(g:Bool):Ob:=.cells [.v (.int .i64 (f:Int)),.v (.bool g)]
theorem LA(f:Nat)(g:Bool)(hf:f<100000000):an Tryz.prog 132 [.ref 0 0] [DF f g] (di (.v (.string (mk (hN (f+1))))) [DF (f+1) g]):=by
 refine Sz _ _ ?_
 simp only[OF,↓zq,zs,ae,zt]
 rw[bA f (by omega)]
 refine aj (Ga (f+1) (by omega)) ?_
 have hd:=oY 8 (f+1) (by omega)
 simp only[↓zq,zs,ae,zt,ba,aS]
 exact⟨by simp[cP];omega,rfl,rfl⟩
def vm(g:Bool)(t:Ty):Ty:=if g=true\/400<t.atoms then .zero else t
def AR(g:Bool)(t:Ty):Bool:=g||decide (400<t.atoms)
theorem zo(t:Ty):vm true t=.zero:=by simp[vm]
theorem wy(t:Ty):AR true t=true:=rfl
theorem vL{t:Ty}(h:t.atoms<=400):vm false t=t:=by simp[vm,show ¬400<t.atoms by omega]
theorem vO{t:Ty}(h:t.atoms<=400):AR false t=false:=by simp[AR,show ¬400<t.atoms by omega]
theorem E6{t:Ty}(h:¬t.atoms<=400):AR false t=true:=by simp[AR,show 400<t.atoms by omega]
theorem E9{t:Ty}(h:¬t.atoms<=400):vm false t=.zero:=by simp[vm,show 400<t.atoms by omega]
theorem wF(f:Nat)(g:Bool)(t:Ty)(hl:t.atoms<1000000):an Tryz.prog 133 [.ref 0 0,t.av] [DF f g] (di (vm g t).av [DF f (AR g t)]):=by
 refine PN _ _ _ ((aF _).mpr trivial) ?_
 simp only[ND,↓zq,zs,ae,zt]
 cases g with
 |true=>exact⟨fun _=>⟨rfl,rfl⟩,fun h=>(by cases h)⟩
 |
  false =>
  refine⟨fun h=>(by cases h),fun _=>?_⟩
  refine aj (Fa t hl) ?_
  simp only[↓zq,zs,ae,zt]
  refine⟨fun h=>?_,fun h=>?_⟩
  ·have h:400<t.atoms:=by omega
   simp[vm,AR,h,di,Ty.av]
  ·have h:¬400<t.atoms:=by omega
   simp[vm,AR,h,di]
theorem H3(t:Ty)(s:Nm)(f:Nat):an Tryz.prog 134 [.ref 0 0,t.av,.v (.string (mk s))] [DF f true] (di Ty.zero.av [DF f true]):=by
 refine Pe _ _ _ _ ((aF _).mpr trivial) ?_
 simp only[Ek,↓zq,zs,ae]
 exact⟨fun _=>⟨rfl,rfl⟩,fun h=>(by cases h)⟩
def C7(f:Nat)(t:Ty):Prop:=∀j,f<j->bn (hN j) t=false
def qn(o:Option Ty)(t:Ty):Nat:=match o with|some d=>d.atoms|none=>1000*t.atoms
def A9(o:Option Ty)(f B:Nat):AV->List Ob->Prop:=fun r ob=>∃f':Nat,f<=f'/\f'<=f+B/\r=(o.getD .zero).av/\ob=[DF f' o.isNone]
theorem A9.ne(o:Option Ty)(f B:Nat):∃r ob,A9 o f B r ob:=⟨_,_,f,au _,dc _ _,rfl,rfl⟩
theorem sr{f f':Nat}{t:Ty}(h:C7 f t)(hf:f<=f'):C7 f' t:=fun j hj=>h j (by omega)
theorem IP:∀(n:Nat) (t:Ty),t.atoms<=n->t.atoms<=400->∀(s:Nm) (f:Nat),C7 f t->(∀j,f<j->s≠hN j)->f+1000*t.atoms<50000000->an Tryz.prog 134 [.ref 0 0,t.av,.v (.string (mk s))] [DF f false] (A9 (mo t s) f (qn (mo t s) t))
 |0,t,h=>by have:=eA t;omega
 |
  n+1,t,hn=>by
  intro h4 s f hf hs hb
  refine Pe _ _ _ _ ((aF _).mpr trivial) ?_
  have fin0:∀u:Ty,mo t s=some u->A9 (mo t s) f (qn (mo t s) t) u.av [DF f false]:=fun u hu=>by
   rw[hu];exact⟨f,au _,dc _ _,rfl,rfl⟩
  cases t with
  |
   zero =>
   have:=fin0 .zero (vt s)
   simpa[Ek,Ty.av,↓zq,zs,ae]using this
  |
   one =>
   have:=fin0 .zero (yO s)
   simpa[Ek,Ty.av,↓zq,zs,ae]using this
  |
   bound k =>
   have:=fin0 .zero (AG k s)
   simpa[Ek,Ty.av,↓zq,zs,ae]using this
  |
   name c =>
   simp only[Ek,Ty.av,↓zq,zs,ae,zt]
   refine⟨fun h=>(by cases h),fun _=>⟨by omega,fun _=>⟨by omega,fun h=>?_,fun h=>?_⟩,fun h=>absurd rfl h⟩⟩
   ·exact fin0 .one (by rw[oL,if_pos h])
   ·exact fin0 .zero (by rw[oL,if_neg h])
  |
   plus a b =>
   simp only[Ty.atoms]at hn h4 hb
   have pa:=eA a
   have pb:=eA b
   have fa:C7 f a:=fun j hj=>by have:=hf j hj;simp only[bn,cm]at this;exact this.1
   have fb:C7 f b:=fun j hj=>by have:=hf j hj;simp only[bn,cm]at this;exact this.2
   simp only[Ek,Ty.av,↓zq,zs,ae,zt,aF]
   refine⟨fun h=>(by cases h),fun _=>⟨by omega,fun h=>by omega,fun _=>⟨fun _=>?_,fun h=>absurd rfl h⟩⟩⟩
   repeat refine⟨by omega,?_⟩
   rw[wb]
   refine aP (IP n a (by omega) (by omega) s f fa hs (by omega)) (A9.ne _ _ _) ?_
   rintro r ob ⟨f1,g1,g2,rfl,rfl⟩
   simp only[↓zq,zs,ae,zt,aI,aF]
   repeat refine⟨by omega,?_⟩
   cases q1:mo a s with
   |
    none =>
    rw[q1]at g2
    simp only[qn]at g2
    simp only[Option.isNone_none,Option.getD_none,bP]
    refine aV (H3 b s f1) ?_
    simp only[↓zq,zs,ae,zt,aI,aF]
    repeat refine⟨by omega,?_⟩
    refine aj (zG 43 _ _) ?_
    simp only[↓zq,zs,ae,zt,cj]
    refine aV (wF f1 true (.plus .zero .zero) (by simp[Ty.atoms])) ?_
    simp only[↓zq,zs,ae,zt,aI,aF]
    exact⟨f1,g1,by simp only[qn,Ty.atoms];omega,rfl,rfl⟩
   |
    some a' =>
    rw[q1]at g2
    simp only[qn]at g2
    have la:=(cT.1 q1).small
    simp only[Option.isNone_some,cz,a8]
    refine aP (IP n b (by omega) (by omega) s f1 (sr fb g1) (fun j hj=>hs j (by omega)) (by omega)) (A9.ne _ _ _) ?_
    rintro r ob ⟨f2,k1,k2,rfl,rfl⟩
    simp only[↓zq,zs,ae,zt,aI,aF]
    repeat refine⟨by omega,?_⟩
    refine aj (zG 43 _ _) ?_
    simp only[↓zq,zs,ae,zt,cj]
    cases q2:mo b s with
    |
     none =>
     rw[q2]at k2
     simp only[qn]at k2
     simp only[Option.isNone_none,Option.getD_none,bP]
     refine aV (wF f2 true (.plus a' .zero) (by simp[Ty.atoms];omega)) ?_
     simp only[↓zq,zs,ae,zt,aI,aF]
     exact⟨f2,by omega,by simp only[qn,Ty.atoms];omega,rfl,rfl⟩
    |
     some b' =>
     rw[q2]at k2
     simp only[qn]at k2
     have lb:=(cT.1 q2).small
     simp only[Option.isNone_some,cz,a8]
     refine aV (wF f2 false (.plus a' b') (by simp only[Ty.atoms];omega)) ?_
     simp only[↓zq,zs,ae,zt,aI,aF]
     unfold nN
     by_cases hle:(Ty.plus a' b').atoms<=400
     ·rw[if_pos hle]
      refine⟨f2,by omega,by simp only[qn,Ty.atoms];omega,?_,?_⟩
      ·simp[vm,show ¬400<(Ty.plus a' b').atoms by omega]
      ·simp[AR,show ¬400<(Ty.plus a' b').atoms by omega]
     ·rw[if_neg hle]
      refine⟨f2,by omega,by simp only[qn,Ty.atoms];omega,?_,?_⟩
      ·simp[vm,show 400<(Ty.plus a' b').atoms by omega]
      ·simp[AR,show 400<(Ty.plus a' b').atoms by omega]
  |
   times a b =>
   simp only[Ty.atoms]at hn h4 hb
   have pa:=eA a
   have pb:=eA b
   have fa:C7 f a:=fun j hj=>by have:=hf j hj;simp only[bn,cm]at this;exact this.1
   have fb:C7 f b:=fun j hj=>by have:=hf j hj;simp only[bn,cm]at this;exact this.2
   simp only[Ek,Ty.av,↓zq,zs,ae,zt,aF]
   refine⟨fun h=>(by cases h),fun _=>⟨by omega,fun h=>by omega,fun _=>⟨fun h=>by omega,fun _=>⟨fun _=>?_,fun h=>absurd rfl h⟩⟩⟩⟩
   repeat refine⟨by omega,?_⟩
   rw[tW]
   refine aP (IP n a (by omega) (by omega) s f fa hs (by omega)) (A9.ne _ _ _) ?_
   rintro r ob ⟨f1,g1,g2,rfl,rfl⟩
   simp only[↓zq,zs,ae,zt,aI,aF]
   repeat refine⟨by omega,?_⟩
   refine aj (zG 42 _ _) ?_
   simp only[↓zq,zs,ae,zt,cj]
   repeat refine⟨by omega,?_⟩
   cases q1:mo a s with
   |
    none =>
    rw[q1]at g2
    simp only[qn]at g2
    simp only[Option.isNone_none,Option.getD_none,bP]
    refine aV (H3 b s f1) ?_
    simp only[↓zq,zs,ae,zt,aI,aF]
    repeat refine⟨by omega,?_⟩
    refine aj (zG 42 _ _) ?_
    simp only[↓zq,zs,ae,zt,cj]
    refine aj (zG 43 (.times .zero b) (.times a .zero)) ?_
    simp only[↓zq,zs,ae,zt,cj]
    refine aV (wF f1 true (.plus (.times .zero b) (.times a .zero)) (by simp only[Ty.atoms];omega)) ?_
    simp only[↓zq,zs,ae,zt,aI,aF]
    exact⟨f1,g1,by simp only[qn,Ty.atoms];omega,rfl,rfl⟩
   |
    some a' =>
    rw[q1]at g2
    simp only[qn]at g2
    have la:=(cT.1 q1).small
    simp only[Option.isNone_some,cz,a8]
    refine aP (IP n b (by omega) (by omega) s f1 (sr fb g1) (fun j hj=>hs j (by omega)) (by omega)) (A9.ne _ _ _) ?_
    rintro r ob ⟨f2,k1,k2,rfl,rfl⟩
    simp only[↓zq,zs,ae,zt,aI,aF]
    repeat refine⟨by omega,?_⟩
    refine aj (zG 42 _ _) ?_
    simp only[↓zq,zs,ae,zt,cj]
    cases q2:mo b s with
    |
     none =>
     rw[q2]at k2
     simp only[qn]at k2
     simp only[Option.isNone_none,Option.getD_none,bP]
     refine aj (zG 43 (.times a' b) (.times a .zero)) ?_
     simp only[↓zq,zs,ae,zt,cj]
     refine aV (wF f2 true (.plus (.times a' b) (.times a .zero)) (by simp only[Ty.atoms];omega)) ?_
     simp only[↓zq,zs,ae,zt,aI,aF]
     exact⟨f2,by omega,by simp only[qn,Ty.atoms];omega,rfl,rfl⟩
    |
     some b' =>
     rw[q2]at k2
     simp only[qn]at k2
     have lb:=(cT.1 q2).small
     simp only[Option.isNone_some,cz,a8]
     refine aj (zG 43 (.times a' b) (.times a b')) ?_
     simp only[↓zq,zs,ae,zt,cj]
     refine aV (wF f2 false (.plus (.times a' b) (.times a b')) (by simp only[Ty.atoms];omega)) ?_
     simp only[↓zq,zs,ae,zt,aI,aF]
     unfold nN
     by_cases hle:(Ty.plus (.times a' b) (.times a b')).atoms<=400
     ·rw[if_pos hle]
      refine⟨f2,by omega,by simp only[qn,Ty.atoms];omega,?_,?_⟩
      ·simp[vm,show ¬400<(Ty.plus (.times a' b) (.times a b')).atoms by omega]
      ·simp[AR,show ¬400<(Ty.plus (.times a' b) (.times a b')).atoms by omega]
     ·rw[if_neg hle]
      refine⟨f2,by omega,by simp only[qn,Ty.atoms];omega,?_,?_⟩
      ·simp[vm,show 400<(Ty.plus (.times a' b) (.times a b')).atoms by omega]
      ·simp[AR,show 400<(Ty.plus (.times a' b) (.times a b')).atoms by omega]
  |
   rc a =>
   simp only[Ty.atoms]at hn h4 hb
   have pa:=eA a
   have fa:C7 f a:=fun j hj=>hf j hj
   have hxa:bn (hN (f+1)) a=false:=fa _ (by omega)
   have hxs:hN (f+1)≠s:=fun e=>hs _ (by omega) e.symm
   have fo:C7 (f+1) (dC (.name (hN (f+1))) a 0):=fun j hj=>by
    cases q:bn (hN j) (dC (.name (hN (f+1))) a 0)with
    |false=>rfl
    |
     true =>
     rcases gH a 0 q with e|e
     ·have:=uy e;omega
     ·rw[fa j (by omega)]at e;cases e
   have hoa:(dC (.name (hN (f+1))) a 0).atoms=a.atoms:=fP _ _ _
   have hop:=xG (.name (hN (f+1))) a 0 (by omega)
   rw[A4 hxa hxs]
   simp only[Ek,Ty.av,↓zq,zs,ae,zt,aF]
   refine⟨fun h=>(by cases h),fun _=>⟨by omega,fun h=>by omega,fun _=>⟨fun h=>by omega,fun _=>⟨fun h=>by omega,fun _=>⟨fun _=>?_,fun h=>absurd rfl h⟩⟩⟩⟩⟩
   refine aV (LA f false (by omega)) ?_
   simp only[↓zq,zs,ae,zt,aI,aF]
   repeat refine⟨by omega,?_⟩
   simp only[Ty.av]at hop
   refine aj hop ?_
   simp only[↓zq,zs,ae,zt,aI,aF]
   refine aP (IP n (dC (.name (hN (f+1))) a 0) (by omega) (by omega) s (f+1) fo (fun j hj=>hs j (by omega)) (by omega)) (A9.ne _ _ _) ?_
   rintro r ob ⟨f1,g1,g2,rfl,rfl⟩
   simp only[↓zq,zs,ae,zt,aI,aF]
   generalize hx:hN (f+1)=x at *
   generalize hin:dC (.name x) a 0=i at *
   have hrc:(Ty.rc a).av=.ptr [.v (.int .u8 114),.v (.string (mk [])),.v (.int .i64 0),a.av,.v (.pointer none)]:=rfl
   cases q1:mo i s with
   |
    none =>
    rw[q1]at g2
    simp only[qn]at g2
    simp only[Option.isNone_none,Option.getD_none,bP]
    refine aV (wF f1 true .zero (by simp[Ty.atoms])) ?_
    simp only[↓zq,zs,ae,zt,aI,aF]
    rw[<-hrc]
    refine aj (Bo x (.rc a) _) ?_
    simp only[↓zq,zs,ae,zt,aF]
    refine aV (H3 i x f1) ?_
    simp only[↓zq,zs,ae,zt,aI,aF]
    refine aV (wF f1 true .zero (by simp[Ty.atoms])) ?_
    simp only[↓zq,zs,ae,zt,aI,aF]
    refine aj (Bo x (.rc a) _) ?_
    simp only[↓zq,zs,ae,zt,aF]
    refine aj (zG 42 _ (.bound 0)) ?_
    simp only[↓zq,zs,ae,zt,cj]
    refine aj (zG 43 (sub x (.rc a) (vm true .zero)) (.times (sub x (.rc a) (vm true .zero)) (.bound 0))) ?_
    simp only[↓zq,zs,ae,zt,cj,wy]
    have hz:sub x (.rc a) (vm true .zero)=.zero:=by rw[zo];rfl
    refine aV (wF f1 true (.rc (.plus (sub x (.rc a) (vm true .zero)) (.times (sub x (.rc a) (vm true .zero)) (.bound 0)))) (by rw[hz];simp only[Ty.atoms];omega)) ?_
    simp only[↓zq,zs,ae,zt,aI,aF]
    rw[zo,wy]
    exact⟨f1,by omega,by simp only[qn,Ty.atoms];omega,rfl,rfl⟩
   |
    some c =>
    rw[q1]at g2
    simp only[qn]at g2
    have lc:=(cT.1 q1).small
    simp only[Option.isNone_some,cz,a8]
    refine aV (wF f1 false c (by omega)) ?_
    simp only[↓zq,zs,ae,zt,aI,aF]
    rw[vL lc,vO lc,<-hrc]
    refine aj (Bo x (.rc a) c) ?_
    simp only[↓zq,zs,ae,zt,aF]
    refine aP (IP n i (by omega) (by omega) x f1 (sr fo g1) (fun j hj=>by rw[<-hx];exact fun e=>by have:=uy e;omega) (by omega)) (A9.ne _ _ _) ?_
    rintro r ob ⟨f2,k1,k2,rfl,rfl⟩
    simp only[↓zq,zs,ae,zt,aI,aF]
    have hsc:(sub x (.rc a) c).atoms+fD x c=c.atoms+fD x c*(Ty.rc a).atoms:=eg x (.rc a) c
    have hcc:∀t:Ty,fD x t<=t.atoms:=fun t=>by
     have h1:=eg x .zero t
     have h2:=gW x .zero t
     simp only[Ty.atoms,dK]at h1
     have h3:∀t:Ty,fD x t<=t.atoms:=by
      intro t
      induction t with
      |name s=>simp only[fD,Ty.atoms];split<;>omega
      |plus a b i1 i2=>simp only[fD,Ty.atoms];omega
      |times a b i1 i2=>simp only[fD,Ty.atoms];omega
      |rc a i=>simp only[fD,Ty.atoms];omega
      |_=>simp[fD,Ty.atoms]
     exact h3 t
    have hbig:∀t:Ty,t.atoms<=400->(sub x (.rc a) t).atoms<=400+400*402:=fun t ht=>by
     have h1:=eg x (.rc a) t
     have h2:=hcc t
     have h3:fD x t*(Ty.rc a).atoms<=400*402:=Nat.mul_le_mul (by omega) (by simp only[Ty.atoms];omega)
     omega
    have b1:=hbig c lc
    cases q2:mo i x with
    |
     none =>
     rw[q2]at k2
     simp only[qn]at k2
     simp only[Option.isNone_none,Option.getD_none,bP]
     refine aV (wF f2 true .zero (by simp[Ty.atoms])) ?_
     simp only[↓zq,zs,ae,zt,aI,aF]
     rw[zo,wy]
     refine aj (Bo x (.rc a) .zero) ?_
     simp only[↓zq,zs,ae,zt,aF]
     refine aj (zG 42 _ (.bound 0)) ?_
     simp only[↓zq,zs,ae,zt,cj]
     refine aj (zG 43 (sub x (.rc a) c) (.times (sub x (.rc a) .zero) (.bound 0))) ?_
     simp only[↓zq,zs,ae,zt,cj]
     refine aV (wF f2 true (.rc (.plus (sub x (.rc a) c) (.times (sub x (.rc a) .zero) (.bound 0)))) (by simp only[sub,Ty.atoms];omega)) ?_
     simp only[↓zq,zs,ae,zt,aI,aF]
     rw[zo,wy]
     exact⟨f2,by omega,by simp only[qn,Ty.atoms];omega,rfl,rfl⟩
    |
     some d =>
     rw[q2]at k2
     simp only[qn]at k2
     have ld:=(cT.1 q2).small
     have b2:=hbig d ld
     simp only[Option.isNone_some,cz,a8]
     refine aV (wF f2 false d (by omega)) ?_
     simp only[↓zq,zs,ae,zt,aI,aF]
     rw[vL ld,vO ld]
     refine aj (Bo x (.rc a) d) ?_
     simp only[↓zq,zs,ae,zt,aF]
     refine aj (zG 42 _ (.bound 0)) ?_
     simp only[↓zq,zs,ae,zt,cj]
     refine aj (zG 43 (sub x (.rc a) c) (.times (sub x (.rc a) d) (.bound 0))) ?_
     simp only[↓zq,zs,ae,zt,cj]
     have hdrc:qg a x c d=.rc (.plus (sub x (.rc a) c) (.times (sub x (.rc a) d) (.bound 0))):=rfl
     refine aV (wF f2 false (qg a x c d) (by rw[hdrc];simp only[Ty.atoms];omega)) ?_
     simp only[↓zq,zs,ae,zt,aI,aF]
     have s1:=gW x (.rc a) c
     have s2:=gW x (.rc a) d
     unfold nN
     by_cases hle:(qg a x c d).atoms<=400
     ·rw[if_pos hle,vL hle,vO hle]
      exact⟨f2,by omega,by simp only[qn,hdrc,Ty.atoms];omega,rfl,rfl⟩
     ·rw[if_neg hle,E9 hle,E6 hle]
      exact⟨f2,by omega,by simp only[qn,Ty.atoms];omega,rfl,rfl⟩
def Pp(o:Option Ty):AV->List Ob->Prop:=fun r ob=>ob=[]/\∃p,LK.ptr.has p/\r=.cI [p,.v (.bool o.isSome)]/\∀d,o=some d->p=d.av
theorem Pp.ne(o:Option Ty):∃r ob,Pp o r ob:=by
 cases o with
 |none=>exact⟨_,_,rfl,iC,(jr).mpr trivial,rfl,fun d h=>by cases h⟩
 |some d=>exact⟨_,_,rfl,d.av,(aF _).mpr trivial,rfl,fun d' h=>by cases h;rfl⟩
theorem GQ:hN 1=mq:=by show (35::dd 1:Nm)=_;rw[eN (by omega)];rfl
theorem Q0(a:Ty)(h4:a.atoms+2<=400)(hf:∀j,bn (hN j) a=false):an Tryz.prog 97 [(Ty.rc a).av] [] (Pp (om a mq)):=by
 have hxa:bn (hN 1) a=false:=hf 1
 have fo:C7 1 (dC (.name (hN 1)) a 0):=fun j hj=>by
  cases q:bn (hN j) (dC (.name (hN 1)) a 0)with
  |false=>rfl
  |
   true =>
   rcases gH a 0 q with e|e
   ·have:=uy e;omega
   ·rw[hf j]at e;cases e
 have hoa:(dC (.name (hN 1)) a 0).atoms=a.atoms:=fP _ _ _
 have hop:=xG (.name (hN 1)) a 0 (by omega)
 rw[<-GQ]
 have hrc:(Ty.rc a).av=.ptr [.v (.int .u8 114),.v (.string (mk [])),.v (.int .i64 0),a.av,.v (.pointer none)]:=rfl
 refine SM _ ((aF _).mpr trivial) ?_
 unfold Nd
 refine aV (LA 0 false (by omega)) ?_
 simp only[Ty.av,↓zq,zs,ae,zt,aI,aF]
 repeat refine⟨by omega,?_⟩
 simp only[Ty.av]at hop
 refine aj hop ?_
 simp only[↓zq,zs,ae,zt,aI,aF]
 refine aP (IP 400 (dC (.name (hN 1)) a 0) (by omega) (by omega) (hN 1) 1 fo (fun j hj e=>by have:=uy e;omega) (by omega)) (A9.ne _ _ _) ?_
 rintro r ob ⟨f1,g1,g2,rfl,rfl⟩
 simp only[↓zq,zs,ae,zt,aI,aF]
 unfold om
 cases q1:mo (dC (.name (hN 1)) a 0) (hN 1)with
 |
  none =>
  simp only[Option.isNone_none,Option.getD_none,bP]
  refine aV (wF f1 true .zero (by simp[Ty.atoms])) ?_
  simp only[↓zq,zs,ae,zt,aI,aF,wy]
  exact⟨fun _=>⟨rfl,iC,(jr).mpr trivial,rfl,fun d h=>(by cases h)⟩,fun h=>(by cases h)⟩
 |
  some d =>
  have ld:=(cT.1 q1).small
  simp only[Option.isNone_some,cz,a8]
  refine aV (wF f1 false d (by omega)) ?_
  simp only[↓zq,zs,ae,zt,aI,aF]
  rw[vL ld,vO ld]
  refine⟨fun h=>(by cases h),fun _=>?_⟩
  rw[<-hrc]
  refine aj (Bo (hN 1) (.rc a) d) ?_
  simp only[↓zq,zs,ae,zt,aF]
  have h1:=eg (hN 1) (.rc a) d
  have hcn:fD (hN 1) d<=d.atoms:=by
   have h3:∀t:Ty,fD (hN 1) t<=t.atoms:=by
    intro t
    induction t with
    |name s=>simp only[fD,Ty.atoms];split<;>omega
    |plus a b i1 i2=>simp only[fD,Ty.atoms];omega
    |times a b i1 i2=>simp only[fD,Ty.atoms];omega
    |rc a i=>simp only[fD,Ty.atoms];omega
    |_=>simp[fD,Ty.atoms]
   exact h3 d
  have h3:fD (hN 1) d*(Ty.rc a).atoms<=400*402:=Nat.mul_le_mul (by omega) (by simp only[Ty.atoms];omega)
  refine aV (wF f1 false (sub (hN 1) (.rc a) d) (by omega)) ?_
  simp only[↓zq,zs,ae,zt,aI,aF]
  unfold nN
  by_cases hle:(sub (hN 1) (.rc a) d).atoms<=400
  ·rw[if_pos hle,vL hle,vO hle]
   exact⟨rfl,_,(aF _).mpr trivial,rfl,fun d' h=>by cases h;rfl⟩
  ·rw[if_neg hle,E9 hle,E6 hle]
   exact⟨rfl,_,(aF _).mpr trivial,rfl,fun d' h=>(by cases h)⟩
end Go.Proofs.Trees
namespace Go.Proofs.Trees
open Go Go.VL Go.RowKit
theorem sC(h:Nm)(a b:E):(fj (.list [.atom h,a,b])).length=h.length+(fj a).length+(fj b).length+4:=by
 simp only[fj,er,az,aq,aG];omega
theorem jk(F:List Nm)(hF:F.length<=10000):∀(t:Ty) (to:List Nm) (k:Nat),vk t->(∀w,w∈to->w.length<=20)->k+(F.length+1)*t.atoms<90000000->(fj (gX F t to k).1).length<=50*t.atoms
 | .zero,_,_,_,_,_=>by simp[gX,fj,Ty.atoms]
 | .one,_,_,_,_,_=>by simp[gX,fj,Ty.atoms]
 | .name s,_,_,hn,_,_=>by have:=hn s (by simp[bn]);simp only[gX,fj,Ty.atoms];omega
 |
  .bound u,to,_,_,ht,_=>by
  show (gn to u).length<=50*1
  unfold gn
  by_cases h:to.length-1-u<to.length
  ·rw[aa,bp h];have:=ht _ (bI h);simp only[cz];omega
  ·rw[aa,List.getElem?_eq_none (by omega)];simp
 |
  .plus a b,to,k,hn,ht,hk=>by
  have h1:=iD F a to k
  have:(F.length+1)*(1+a.atoms+b.atoms)=(F.length+1)+(F.length+1)*a.atoms+(F.length+1)*b.atoms:=by simp only[cW,dK]
  simp only[Ty.atoms]at hk
  have i1:=jk F hF a to k (fun y hy=>hn y (by simp[bn,hy])) ht (by omega)
  have i2:=jk F hF b to _ (fun y hy=>hn y (by simp[bn,hy])) ht (show (gX F a to k).2+_<_ by omega)
  simp only[gX,sC,Ty.atoms,az,aG];omega
 |
  .times a b,to,k,hn,ht,hk=>by
  have h1:=iD F a to k
  have:(F.length+1)*(1+a.atoms+b.atoms)=(F.length+1)+(F.length+1)*a.atoms+(F.length+1)*b.atoms:=by simp only[cW,dK]
  simp only[Ty.atoms]at hk
  have i1:=jk F hF a to k (fun y hy=>hn y (by simp[bn,hy])) ht (by omega)
  have i2:=jk F hF b to _ (fun y hy=>hn y (by simp[bn,hy])) ht (show (gX F a to k).2+_<_ by omega)
  simp only[gX,sC,Ty.atoms,az,aG];omega
 |
  .rc a,to,k,hn,ht,hk=>by
  obtain⟨g1,g2,_,_⟩:=gJ F k
  have:(F.length+1)*(2+a.atoms)=(F.length+1)*2+(F.length+1)*a.atoms:=by simp only[cW]
  simp only[Ty.atoms]at hk
  have hl:=xV (k:=nx F k) (by omega)
  have i1:=jk F hF a (to++[tN (nx F k)]) (nx F k+1) hn (fun w hw=>by
   rcases aN.1 hw with hw|hw
   ·exact ht w hw
   ·simp only[aQ]at hw;rw[hw];exact hl) (by omega)
  simp only[gX,sC,Ty.atoms,az,aG]
  simp only[fj]
  simp only[az]at hl |-
  omega
theorem Jz(x0 a fv:AV)(F:List Nm)(h0:LK.ptr.has x0)(ha:LK.sl.has a)(hfv:cw fv F)(hF:F.length<100000):∀(n j:Nat),qm F n j<j+n->j+n<100000000 ->
 En [x0,a,.v (.string (mk (tN j)))] [.cells [fv],.cells [.v (.int .i64 ((j+1:Nat):Int))]] (iq 1 [x0,a,.v (.string (mk (tN (qm F n j))))] [.cells [fv],.cells [.v (.int .i64 ((qm F n j+1:Nat):Int))]])
 |0,j,h,_=>by simp only[qm]at h;omega
 |
  n+1,j,h,hj=>by
  refine Kl _ _ _ _ _ ?_
  simp only[I5,↓zq,zs,ae,zt,ae,hfv.1,h0,ha]
  refine⟨fun h=>(by simp at h),fun _=>?_⟩
  refine aj (Pg F fv hfv (tN j) (by omega)) ?_
  simp only[↓zq,zs,ae,zt]
  rw[qm]at h |-
  refine⟨fun hm=>?_,fun hm=>?_⟩
  ·rw[if_pos hm]at h |-
   refine aj (Ga (j+1) (by omega)) ?_
   have hd:=oY 8 (j+1) (by omega)
   simp only[↓zq,zs,ae,zt,ba,aS]
   rw[bA (j+1) (by omega)]
   exact⟨by simp[cP];omega,Jz x0 a fv F h0 ha hfv hF n (j+1) (by omega) (by omega)⟩
  ·rw[if_neg hm]
   exact⟨rfl,rfl,rfl⟩
theorem P9(x0 a fv:AV)(F:List Nm)(h0:LK.ptr.has x0)(ha:LK.sl.has a)(hfv:cw fv F)(hF:F.length<10000)(k:Nat)(hk:k<90000000) :
 En [x0,a,.v (.string (mk []))] [.cells [fv],.cells [.v (.int .i64 (k:Int))]] (iq 1 [x0,a,.v (.string (mk (tN (nx F k))))] [.cells [fv],.cells [.v (.int .i64 ((nx F k+1:Nat):Int))]]):=by
 obtain⟨g1,g2,_,_⟩:=gJ F k
 refine Kl _ _ _ _ _ ?_
 simp only[I5,↓zq,zs,ae,zt,ae,hfv.1,h0,ha]
 refine⟨fun _=>?_,fun h=>(by simp at h)⟩
 refine aj (Ga k (by omega)) ?_
 have hd:=oY 8 k (by omega)
 simp only[↓zq,zs,ae,zt,ba,aS]
 rw[bA k (by omega)]
 exact⟨by simp[cP];omega,Jz x0 a fv F h0 ha hfv (by omega) (F.length+1) k (by show nx F k<_;omega) (by omega)⟩
theorem zV(F:List Nm)(fv:AV)(hfv:cw fv F)(hF:F.length<=1000):∀(t:Ty) (to:List Nm) (a:AV) (k:Nat),cw a to->to.length+t.atoms<10000->jG t to.length->vk t->(∀w,w∈to->w.length<=20)->k+(F.length+1)*t.atoms<80000000 ->
 an Tryz.prog 155 [t.av,a,.gN 155 [none,some 0,some 1],.ref 0 0,.ref 1 0] [.cells [fv],.cells [.v (.int .i64 (k:Int))]] (di (.v (.string (mk (fj (gX F t to k).1)))) [.cells [fv],.cells [.v (.int .i64 ((gX F t to k).2:Int))]])
 |
  .zero,to,a,k,ha,hl,hlc,hs,ht,hk=>by
  refine xD _ _ _ _ ((aF _).mpr trivial) ha.1 hfv.1 ?_
  simp only[Fk,Ty.av,↓zq,zs,ae,zt,aF]
  refine⟨by omega,fun h=>by omega,fun _=>⟨fun h=>by omega,fun _=>⟨fun h=>by omega,fun _=>⟨fun h=>by omega,fun _=>⟨fun h=>by omega,fun _=>?_⟩⟩⟩⟩⟩
  repeat refine⟨by omega,?_⟩
  exact⟨⟨rfl,(mc _ _).mpr trivial,trivial⟩,rfl,rfl⟩
 |
  .one,to,a,k,ha,hl,hlc,hs,ht,hk=>by
  refine xD _ _ _ _ ((aF _).mpr trivial) ha.1 hfv.1 ?_
  simp only[Fk,Ty.av,↓zq,zs,ae,zt,aF]
  refine⟨by omega,fun h=>by omega,fun _=>⟨fun h=>by omega,fun _=>⟨fun h=>by omega,fun _=>⟨fun h=>by omega,fun _=>⟨fun h=>by omega,fun _=>?_⟩⟩⟩⟩⟩
  repeat refine⟨by omega,?_⟩
  exact⟨⟨rfl,(mc _ _).mpr trivial,trivial⟩,rfl,rfl⟩
 |
  .name s,to,a,k,ha,hl,hlc,hs,ht,hk=>by
  refine xD _ _ _ _ ((aF _).mpr trivial) ha.1 hfv.1 ?_
  simp[Fk,Ty.av,↓zq,zs,ae,di,gX,fj]
 |
  .bound u,to,a,k,ha,hl,hlc,hs,ht,hk=>by
  have hu:u<to.length:=hlc
  refine xD _ _ _ _ ((aF _).mpr trivial) ha.1 hfv.1 ?_
  simp only[Fk,Ty.av,↓zq,zs,ae,zt,ha.len]
  rw[wrap64 ((to.length:Int)-1) (by omega) (by omega),wrap64 _ (by omega) (by omega)]
  have e1:(to.length:Int)-1-(u:Int)=((to.length-1-u:Nat):Int):=by omega
  rw[e1]
  simp only[bF,ha.idx (show to.length-1-u<to.length by omega),↓zq,zs,ae,zt]
  refine⟨by omega,fun h=>by omega,fun _=>⟨fun _=>⟨ha.1,by omega,⟨ha.1,by omega,by omega⟩,by omega,rfl,rfl⟩,fun h=>absurd rfl h⟩⟩
 |
  .plus x y,to,a,k,ha,hl,hlc,hs,ht,hk=>by
  simp only[Ty.atoms]at hl hk
  have h1:=iD F x to k
  have hm:(F.length+1)*(1+x.atoms+y.atoms)=(F.length+1)+(F.length+1)*x.atoms+(F.length+1)*y.atoms:=by simp only[cW,dK]
  have sx:vk x:=fun z hz=>hs z (by simp[bn,hz])
  have sy:vk y:=fun z hz=>hs z (by simp[bn,hz])
  have t1:=jk F (by omega) x to k sx ht (by omega)
  have t2:=jk F (by omega) y to (gX F x to k).2 sy ht (by omega)
  have hb:(⟨(bytesOf [[.v (.int .u8 43)]]).toArray⟩:ByteArray)=mk [43]:=rfl
  have h8:jH [[AV.v (.int .u8 43)]]:=⟨rfl,(mc _ _).mpr trivial,trivial⟩
  refine xD _ _ _ _ ((aF _).mpr trivial) ha.1 hfv.1 ?_
  simp only[Fk,Ty.av,↓zq,zs,ae,zt,aF,hb]
  refine⟨by omega,fun h=>by omega,fun _=>⟨fun h=>by omega,fun _=>⟨fun _=>?_,fun h=>absurd rfl h⟩⟩⟩
  repeat refine⟨by omega,?_⟩
  refine aV (zV F fv hfv hF x to a k ha (by omega) hlc.1 sx ht (by omega)) ?_
  simp only[↓zq,zs,ae,zt,aI,hfv.1,hb,ba,aS]
  repeat (first|refine⟨by omega,?_⟩|refine⟨h8,?_⟩|refine⟨by simp[cP];omega,?_⟩)
  refine aV (zV F fv hfv hF y to a _ ha (by omega) hlc.2 sy ht (by omega)) ?_
  simp only[↓zq,zs,ae,zt,aI,hfv.1,hb,ba,aS]
  repeat (first|refine⟨by omega,?_⟩|refine⟨h8,?_⟩|refine⟨by simp[cP];omega,?_⟩)
  refine⟨?_,rfl⟩
  simp[gX,fj,er]
 |
  .times x y,to,a,k,ha,hl,hlc,hs,ht,hk=>by
  simp only[Ty.atoms]at hl hk
  have h1:=iD F x to k
  have hm:(F.length+1)*(1+x.atoms+y.atoms)=(F.length+1)+(F.length+1)*x.atoms+(F.length+1)*y.atoms:=by simp only[cW,dK]
  have sx:vk x:=fun z hz=>hs z (by simp[bn,hz])
  have sy:vk y:=fun z hz=>hs z (by simp[bn,hz])
  have t1:=jk F (by omega) x to k sx ht (by omega)
  have t2:=jk F (by omega) y to (gX F x to k).2 sy ht (by omega)
  have hb:(⟨(bytesOf [[.v (.int .u8 42)]]).toArray⟩:ByteArray)=mk [42]:=rfl
  have h8:jH [[AV.v (.int .u8 42)]]:=⟨rfl,(mc _ _).mpr trivial,trivial⟩
  refine xD _ _ _ _ ((aF _).mpr trivial) ha.1 hfv.1 ?_
  simp only[Fk,Ty.av,↓zq,zs,ae,zt,aF,hb]
  refine⟨by omega,fun h=>by omega,fun _=>⟨fun h=>by omega,fun _=>⟨fun h=>by omega,fun _=>⟨fun _=>?_,fun h=>absurd rfl h⟩⟩⟩⟩
  repeat refine⟨by omega,?_⟩
  refine aV (zV F fv hfv hF x to a k ha (by omega) hlc.1 sx ht (by omega)) ?_
  simp only[↓zq,zs,ae,zt,aI,hfv.1,hb,ba,aS]
  repeat (first|refine⟨by omega,?_⟩|refine⟨h8,?_⟩|refine⟨by simp[cP];omega,?_⟩)
  refine aV (zV F fv hfv hF y to a _ ha (by omega) hlc.2 sy ht (by omega)) ?_
  simp only[↓zq,zs,ae,zt,aI,hfv.1,hb,ba,aS]
  repeat (first|refine⟨by omega,?_⟩|refine⟨h8,?_⟩|refine⟨by simp[cP];omega,?_⟩)
  refine⟨?_,rfl⟩
  simp[gX,fj,er]
 |
  .rc x,to,a,k,ha,hl,hlc,hs,ht,hk=>by
  simp only[Ty.atoms]at hl hk
  obtain⟨g1,g2,_,_⟩:=gJ F k
  have hm:(F.length+1)*(2+x.atoms)=(F.length+1)*2+(F.length+1)*x.atoms:=by simp only[cW]
  have hln:=xV (k:=nx F k) (by omega)
  have ht':∀w,w∈to++[tN (nx F k)]->w.length<=20:=fun w hw=>by
   rcases aN.1 hw with hw|hw
   ·exact ht w hw
   ·simp only[aQ]at hw;rw[hw];exact hln
  have t1:=jk F (by omega) x (to++[tN (nx F k)]) (nx F k+1) hs ht' (by omega)
  have hrc:(Ty.rc x).av=.ptr [.v (.int .u8 114),.v (.string (mk [])),.v (.int .i64 0),x.av,.v (.pointer none)]:=rfl
  refine xD _ _ _ _ ((aF _).mpr trivial) ha.1 hfv.1 ?_
  simp only[Fk,Ty.av,↓zq,zs,ae,zt,aF]
  refine⟨by omega,fun h=>by omega,fun _=>⟨fun h=>by omega,fun _=>⟨fun h=>by omega,fun _=>⟨fun h=>by omega,fun _=>⟨fun _=>?_,fun h=>absurd rfl h⟩⟩⟩⟩⟩
  rw[<-hrc]
  repeat refine⟨by omega,?_⟩
  refine cF (P9 (Ty.rc x).av a fv F ((aF _).mpr trivial) ha.1 hfv (by omega) k (by omega)) ?_
  simp only[Ty.av,↓zq,zs,ae,zt,ae,aI,hfv.1,ha.1,aF,ha.2,Ft,aS,kF,kL]
  have hl2:(dd (nx F k)).length+1<=20:=hln
  have hl3:(tN (nx F k)).length=(dd (nx F k)).length+1:=rfl
  refine⟨by omega,by simp only[aq,az,aG,hl3];omega,by omega,by omega,⟨fun c hc=>by simp at hc;rw[hc];rfl,by omega⟩,?_⟩
  refine aV (zV F fv hfv hF x (to++[tN (nx F k)]) _ (nx F k+1) (.of _) (by simp;omega) (by rw[aq];exact hlc) hs ht' (by omega)) ?_
  simp only[↓zq,zs,ae,zt,aI,hfv.1]
  repeat refine⟨by omega,?_⟩
  refine⟨by simp only[aq,az,aG,hl3];omega,by simp only[aq,az,aG,hl3];omega,?_,rfl⟩
  simp[gX,fj,er]
theorem RP(t:Ty)(g:ga t)(hs:vk t)(h4:t.atoms<=400):an Tryz.prog 137 [t.av] [] (bJ (.v (.string (mk (Fp t))))):=by
 refine Qt _ ((aF _).mpr trivial) ?_
 unfold KI
 have hn:=eF t []
 simp only[aG,aW]at hn
 have hm:((bQ t []).length+1)*t.atoms<=401*400:=Nat.mul_le_mul (by omega) h4
 refine aj (JQ t (by omega)) ?_
 simp only[↓zq,zs,ae,zt,cn]
 refine aV (zV (bQ t []) _ (.of _) (by omega) t [] yN 0 .nil (by simp;omega) g.1 hs (fun w hw=>by cases hw) (by omega)) ?_
 simp only[↓zq,zs,ae,zt,aI,cn]
 exact⟨rfl,rfl⟩
theorem Tf(t:Ty)(g:ga t)(hs:vk t)(hl:t.atoms<1000000):an Tryz.prog 98 [t.av] [] (bJ (uI (told t))):=by
 refine R0 _ ((aF _).mpr trivial) ?_
 unfold N6
 refine aj (Fa t hl) ?_
 simp only[↓zq,zs,ae,zt]
 refine⟨fun h=>?_,fun h=>?_⟩
 ·have:told t=none:=by unfold told;rw[if_neg fun h'=>by have:=h'.1;omega]
  rw[this];exact⟨rfl,rfl⟩
 ·have h4:t.atoms<=400:=by omega
  refine aj (RP t g hs h4) ?_
  simp only[↓zq,zs,ae,zt]
  refine aj (GP (Fp t)) ?_
  simp only[↓zq,zs,ae,zt,iG]
  unfold told
  cases q:qV (Fp t)with
  |
   none =>
   simp only[ik,↓zq,zs,ae]
   rw[if_neg (by simp)]
   exact⟨fun _=>⟨rfl,rfl⟩,fun h=>(by cases h)⟩
  |
   some u =>
   simp only[ik,↓zq,zs,ae,fT]
   rw[if_pos ⟨h4,rfl⟩]
   exact⟨fun h=>(by cases h),fun _=>⟨rfl,rfl⟩⟩
theorem Qc(s:Nm):an Tryz.prog 70 [.v (.string (mk s))] [] (bJ (uI (cO s))):=by
 refine Sv _ ?_
 unfold Nj
 refine aj (GP s) ?_
 simp only[↓zq,zs,ae,zt,iG]
 cases q:qV s with
 |
  none =>
  have:cO s=none:=by unfold cO;rw[q]
  rw[this]
  simp only[ik,↓zq,zs,ae]
  exact⟨fun _=>⟨rfl,rfl⟩,fun h=>(by cases h)⟩
 |
  some t =>
  simp only[ik,↓zq,zs,ae,fT]
  have notRec:(∀a,t≠.rc a)->cO s=none:=fun hn=>by
   unfold cO;rw[q]
   cases t<;>first|rfl|exact absurd rfl (hn _)
  refine⟨fun h=>(by cases h),fun _=>?_⟩
  cases t with
  |
   rc a =>
   have h4:=tH q
   simp only[Ty.atoms]at h4
   have hq:cO s=(om a mq).bind told:=by unfold cO;rw[q]
   obtain⟨e,he,hw,hte,hats,hok⟩:=og q
   have hgood:∀d,om a mq=some d->ga d/\(vk (.rc a)->vk d):=fun d hd=>rW hw hte ⟨by simp,by simp,by simp⟩ hd
   rw[hq]
   simp only[Ty.av,↓zq,zs,ae]
   refine⟨by omega,fun h=>by omega,fun _=>?_⟩
   have hld:=Q0 a (by omega) (fun j=>by
    cases q2:bn (hN j) a with
    |false=>rfl
    |true=>exact absurd rfl ((w6 (nq q (hN j) q2)).2 (dd j)))
   simp only[Ty.av]at hld
   refine aP hld (Pp.ne _) ?_
   rintro r ob ⟨rfl,p,hp,rfl,hpe⟩
   simp only[↓zq,zs,ae,zt,eq_true hp]
   cases q1:om a mq with
   |
    none =>
    simp only[bw,bP]
    exact⟨fun _=>⟨rfl,rfl⟩,fun h=>(by cases h)⟩
   |
    some d =>
    simp only[aX,a8]
    refine⟨fun h=>(by cases h),fun _=>?_⟩
    rw[hpe d q1]
    have hl:d.atoms<=400:=by
     simp only[om,bc,eV]at q1
     obtain⟨_,_,h1,h2⟩:=q1
     rw[<-h2];exact h1
    refine aj (Tf d (hgood d q1).1 ((hgood d q1).2 (CX q)) (by omega)) ?_
    cases told d<;>simp only[uI,↓zq,zs,ae,zt]<;>exact⟨rfl,rfl⟩
  |
   _ =>
   rw[notRec fun a h=>by cases h]
   simp only[Ty.av,↓zq,zs,ae]
   exact⟨by omega,fun _=>⟨rfl,rfl⟩,fun h=>by omega⟩
end Go.Proofs.Trees
namespace Go.Proofs.Trees
open Go Go.VL Go.RowKit
theorem Fg:∀(m:Nat) (c:Vl),c.nodes<=m->∀(t:Ty) (v:Vl),dN t c=true->∀(ea:AV) (ids:List Nat),kS ea ids->∀(s:List UInt8) (fr:AV),LK.has .ptr fr->an Tryz.prog 79 [.agg [t.av,ea],c.cE,.agg [.v (.string (mk s)),fr],v.cE] [] (bJ (cB t c v).cE)
 |0,c,hm=>by have:=dk c;omega
 |
  m+1,c,hm=>by
  intro t v hc ea ids he s fr hf
  refine Q1 _ _ _ _ _ _ ((aF _).mpr trivial) he.has ((aO _).mpr trivial) hf ((aO _).mpr trivial) ?_
  have fin:∀x:AV,LK.has .ptr x->LK.has .ptr x=True:=fun x h=>eq_true h
  cases t with
  |zero=>rw[tE];simp[C3,Ty.av,↓zq,zs,ae,bJ]
  |one=>rw[vH];simp[C3,Ty.av,↓zq,zs,ae,bJ]
  |name n=>rw[jX];simp[C3,Ty.av,↓zq,zs,ae,bJ]
  |bound u=>rw[nY];simp[C3,Ty.av,↓zq,zs,ae,bJ]
  |
   plus a b =>
   have hL:=Aw a.av b.av ea 43 (mk []) 0 ((aF _).mpr trivial) he.has
   have hR:=Ae a.av b.av ea 43 (mk []) 0 ((aF _).mpr trivial) he.has
   rcases wj hc with⟨x,rfl,hx⟩|⟨x,rfl,hx⟩
   ·simp only[Vl.nodes]at hm
    simp only[C3,Ty.av,↓zq,zs,ae]
    refine⟨by omega,fun _=>?_,fun h=>absurd rfl h⟩
    refine aj hL ?_
    simp only[↓zq,zs,ae,bH,aF,he.has,Vl.cE,aO]
    refine⟨by omega,fun h=>by omega,fun _=>⟨by omega,by omega,?_⟩⟩
    refine aj (Fg m x (by omega) a v hx ea ids he s fr hf) ?_
    simp only[↓zq,zs,ae,aO]
    refine aj (Ak 108 _ ((aO _).mpr trivial)) ?_
    simp[↓zq,zs,ae,bJ,cB,Vl.cE,cj]
   ·simp only[Vl.nodes]at hm
    simp only[C3,Ty.av,↓zq,zs,ae]
    refine⟨by omega,fun _=>?_,fun h=>absurd rfl h⟩
    refine aj hL ?_
    simp only[↓zq,zs,ae,bH,aF,he.has,Vl.cE,aO]
    refine⟨by omega,fun _=>?_,fun h=>absurd rfl h⟩
    refine aj hR ?_
    simp only[↓zq,zs,ae,bH,aF,he.has,Vl.cE,aO]
    refine⟨by omega,by omega,?_⟩
    refine aj (Fg m x (by omega) b v hx ea ids he s fr hf) ?_
    simp only[↓zq,zs,ae,aO]
    refine aj (Ak 114 _ ((aO _).mpr trivial)) ?_
    simp[↓zq,zs,ae,bJ,cB,Vl.cE,cj]
  |
   times a b =>
   have hL:=Aw a.av b.av ea 42 (mk []) 0 ((aF _).mpr trivial) he.has
   have hR:=Ae a.av b.av ea 42 (mk []) 0 ((aF _).mpr trivial) he.has
   rcases s7 hc with⟨x,y,rfl,hx⟩|⟨x,y,rfl,hx⟩
   ·simp only[Vl.nodes]at hm
    simp only[C3,Ty.av,↓zq,zs,ae,Vl.cE]
    refine⟨by omega,fun h=>by omega,fun _=>⟨fun _=>⟨by omega,fun _=>?_,fun h=>absurd rfl h⟩,fun h=>absurd rfl h⟩⟩
    refine aj hL ?_
    simp only[↓zq,zs,ae,bH,aF,he.has,Vl.cE,aO]
    repeat refine⟨by omega,?_⟩
    refine aj (Fg m x (by omega) a v hx ea ids he s fr hf) ?_
    simp only[↓zq,zs,ae,aO]
    repeat refine⟨by omega,?_⟩
    refine aj (Aa _ _ ((aO _).mpr trivial) ((aO _).mpr trivial)) ?_
    simp[↓zq,zs,ae,bJ,cB,Vl.cE,cj]
   ·simp only[Vl.nodes]at hm
    simp only[C3,Ty.av,↓zq,zs,ae,Vl.cE,aO]
    refine⟨by omega,fun h=>by omega,fun _=>⟨fun _=>⟨by omega,fun h=>by omega,fun _=>?_⟩,fun h=>absurd rfl h⟩⟩
    repeat refine⟨by omega,?_⟩
    refine aj hR ?_
    simp only[↓zq,zs,ae,bH,aF,he.has,Vl.cE,aO]
    repeat refine⟨by omega,?_⟩
    refine aj (Fg m y (by omega) b v hx ea ids he s fr hf) ?_
    simp only[↓zq,zs,ae,aO]
    refine aj (Aa _ _ ((aO _).mpr trivial) ((aO _).mpr trivial)) ?_
    simp[↓zq,zs,ae,bJ,cB,Vl.cE,cj]
  |
   rc a =>
   have hin:=El a ea ids he
   simp only[Ty.av]at hin
   rcases CV hc with⟨x,rfl,hx⟩|⟨x,y,rfl,hx,hy⟩
   ·simp only[Vl.nodes]at hm
    simp only[C3,Ty.av,↓zq,zs,ae,Vl.cE,aO]
    refine⟨by omega,fun h=>by omega,fun _=>⟨fun h=>by omega,fun _=>⟨fun _=>?_,fun h=>absurd rfl h⟩⟩⟩
    refine aP hin (by have:=AU.ne a ea ids;simpa only[AU,Ty.av]using this) ?_
    intro r o hr
    obtain⟨⟨q,hq,rfl⟩,rfl⟩:=hr
    have he2:kS (.ptr [.pid q [(Ty.rc a).av,ea],ea]) (q::ids):=.cons hq he
    have hfr:LK.ptr.has (.pid q [(Ty.rc a).av,ea]):=.inr (.inr ⟨_,_,rfl⟩)
    simp only[Ty.av]at he2 hfr
    simp only[↓zq,zs,ae,bH,aF,he2.has,hfr,Vl.cE,aO,Ty.av]
    repeat refine⟨by omega,?_⟩
    refine⟨fun _=>?_,fun h=>absurd rfl h⟩
    repeat refine⟨by omega,?_⟩
    refine aj (Fg m x (by omega) a v hx _ _ he2 s fr hf) ?_
    simp only[↓zq,zs,ae,aO]
    refine aj (Ak 102 _ ((aO _).mpr trivial)) ?_
    simp[↓zq,zs,ae,bJ,cB,Vl.cE,cj]
   ·simp only[Vl.nodes]at hm
    simp only[C3,Ty.av,↓zq,zs,ae,Vl.cE,aO]
    refine⟨by omega,fun h=>by omega,fun _=>⟨fun h=>by omega,fun _=>⟨fun _=>?_,fun h=>absurd rfl h⟩⟩⟩
    refine aP hin (by have:=AU.ne a ea ids;simpa only[AU,Ty.av]using this) ?_
    intro r o hr
    obtain⟨⟨q,hq,rfl⟩,rfl⟩:=hr
    have he2:kS (.ptr [.pid q [(Ty.rc a).av,ea],ea]) (q::ids):=.cons hq he
    have hfr:LK.ptr.has (.pid q [(Ty.rc a).av,ea]):=.inr (.inr ⟨_,_,rfl⟩)
    simp only[Ty.av]at he2 hfr
    simp only[↓zq,zs,ae,bH,aF,he2.has,hfr,Vl.cE,aO,Ty.av]
    repeat refine⟨by omega,?_⟩
    refine fun _=>?_
    repeat refine⟨by omega,?_⟩
    have i1:=Fg m y (by omega) (.rc a) v hy ea ids he s fr hf
    simp only[Ty.av]at i1
    refine aj i1 ?_
    simp only[↓zq,zs,ae,aO]
    repeat refine⟨by omega,?_⟩
    refine aj (Fg m x (by omega) a (cB (.rc a) y v) hx _ _ he2 [] _ hfr) ?_
    simp only[↓zq,zs,ae,aO]
    refine aj (Ak 102 _ ((aO _).mpr trivial)) ?_
    simp[↓zq,zs,ae,bJ,cB,Vl.cE,cj]
theorem R3(a:Ty)(c v:Vl)(hc:dN a c=true):an Tryz.prog 55 [(Ty.rc a).av,c.cE,v.cE] [] (bJ (Vl.f (cB a c v)).cE):=by
 refine SS _ _ _ ((aF _).mpr trivial) ((aO _).mpr trivial) ((aO _).mpr trivial) ?_
 unfold Mh
 refine aP (El a iC [] .nil) (AU.ne a iC []) ?_
 rintro r o ⟨⟨m,hm,rfl⟩,rfl⟩
 have he2:kS (.ptr [.pid m [(Ty.rc a).av,iC],iC]) [m]:=.cons hm .nil
 have hfr:LK.ptr.has (.pid m [(Ty.rc a).av,iC]):=.inr (.inr ⟨_,_,rfl⟩)
 simp only[Ty.av]at he2 hfr
 simp only[↓zq,zs,ae,bH,aF,he2.has,hfr,Ty.av]
 repeat refine⟨by omega,?_⟩
 refine aj (Fg c.nodes c (au _) a v hc _ _ he2 [] _ hfr) ?_
 simp only[↓zq,zs,ae,aO]
 refine aj (Ak 102 _ ((aO _).mpr trivial)) ?_
 simp[↓zq,zs,ae,bJ,Vl.cE,cj]
end Go.Proofs.Trees
namespace Go.Proofs.Trees
open Go Go.VL Go.RowKit
def w7(l:List Vl):List (List AV):=l.map fun c=>[c.cE]
theorem jO(l:List Vl):(w7 l).length=l.length:=by simp[w7]
theorem uq{l:List Vl}{i:Nat}(h:i<l.length):(w7 l).getD i []=[(l[i]).cE]:=by simp[w7,aa,h]
theorem DP(l:List Vl)(c:Vl):w7 l++[[c.cE]]=w7 (l++[c]):=by simp[w7]
def tR(s:Nm)(a:Ty)(l:List Vl)(v:Vl):AV:=.ptr [.v (.string (mk s)),(Ty.rc a).av,.sl (w7 l),v.cE]
def oZ(s:Nm)(a:Ty):Option (List Vl×Vl)->AV
 |some r=>tR s a r.1 r.2
 |none=>iC
theorem pQ(s:Nm)(a:Ty)(o:Option (List Vl×Vl)):LK.has .ptr (oZ s a o)=True:=by cases o<;>simp[oZ,tR,jr,cj]
theorem ET(v:Vl):(Vl.f v).nodes=v.nodes+1:=by simp only[Vl.nodes];omega
theorem MH(s:Nm)(a:Ty)(l:List Vl)(v:Vl)(h:ZI a l v)(hl:l.length<=50):an Tryz.prog 34 [tR s a l v] [] (bJ (oZ s a (qP a l v))):=by
 refine QM _ ((cj _).mpr trivial) ?_
 simp only[KY,tR,↓zq,zs,ae,jO]
 refine⟨fun h=>(by cases h),fun _=>?_⟩
 repeat refine⟨by omega,?_⟩
 unfold qP
 refine⟨fun h0=>?_,fun h0=>?_⟩
 ·have:l=[]:=bS (by omega)
  subst this
  exact⟨rfl,rfl⟩
 ·have hpos:0<l.length:=by omega
  have hne:l≠[]:=by rintro rfl;simp at hpos
  rw[wrap64 ((l.length:Int)-1) (by omega) (by omega)]
  have e1:((l.length:Int)-1).toNat=l.length-1:=by omega
  have hlt:l.length-1<l.length:=by omega
  have hlast:l.getLast?=some (l[l.length-1]):=by rw[List.getLast?_eq_some_getLast hne,List.getLast_eq_getElem]
  rw[hlast]
  have hC:=h.ctx _ (bI hlt)
  generalize hc:l[l.length-1]=c at *
  simp only[e1,uq hlt,hc,↓zq,zs,ae,aO,aF]
  repeat refine⟨by omega,?_⟩
  refine aj (R3 a c v hC.ok) ?_
  simp only[↓zq,zs,ae,aO]
  have hn:=sI a c v
  have h1:=hC.nd
  have h2:=h.qW.nd
  refine aj (I2 (.f (cB a c v)) (by rw[ET];omega)) ?_
  simp only[↓zq,zs,ae,aO,aF]
  refine⟨fun hb=>?_,fun hb=>?_⟩
  ·rw[if_neg (by omega)];exact⟨rfl,rfl⟩
  ·rw[if_pos (by omega)]
   repeat refine⟨by omega,?_⟩
   refine⟨?_,rfl⟩
   have:(w7 l).take (l.length-1)=w7 l.dropLast:=by rw[List.dropLast_eq_take];simp[w7]
   simp only[oZ,tR,Int.toNat_zero,bf,this]
theorem Oc{s d:Nm}{a:Ty}{x A B:E}{D:Ty}(z:ZT s d a x A B D)(pa:AV)(p:List Nm)(hp:cw pa p)(hl:p.length<=50)(v:Vl):∀(k i:Nat) (l0:List Vl),i+k=p.length->l0.length<=i ->
 HC [.v (.string (mk d)),pa,.v (.int .i64 (p.length:Int)),.v (.int .i64 (i:Int))] [.cells [.v (.string (mk s)),(Ty.rc a).av,.any,v.cE],.vec 1 (w7 l0)]
  (nK (match eI d (p.drop i)with|some l=>(1,[],[.cells [.v (.string (mk s)),(Ty.rc a).av,.any,v.cE],.vec 1 (w7 (l0++l))])|none=>(2,[iC],[])))
 |
  0,i,l0,hi,I9=>by
  refine ME _ _ _ _ _ _ _ _ ?_
  have:i=p.length:=by omega
  subst this
  simp only[FB,↓zq,zs,ae,ae,aF,aO,List.drop_length]
  exact⟨hp.1,fun h=>by omega,fun _=>by simp[nK,eI]⟩
 |
  k+1,i,l0,hi,I9=>by
  have hlt:i<p.length:=by omega
  have hd:p.drop i=p.getD i []::p.drop (i+1):=by rw[aT hlt];simp[aa,hlt]
  refine ME _ _ _ _ _ _ _ _ ?_
  simp only[FB,↓zq,zs,ae,zt,ae,aF,aO,hp.len,hp.idx hlt,bF]
  refine⟨hp.1,fun _=>⟨⟨hp.1,by omega,by omega⟩,by omega,?_⟩,fun h=>by omega⟩
  refine aj (Mi d (p.getD i []) 100) ?_
  rw[hd,eI]
  simp only[↓zq,zs,ae,zt,iG,gy]
  cases q:nI d (p.getD i []) 100 with
  |
   none =>
   simp only[jE,↓zq,zs,ae]
   exact⟨fun _=>by first|trivial|rfl,fun h=>(by cases h)⟩
  |
   some w =>
   simp only[jE,↓zq,zs,ae,fI,DP]
   refine⟨fun h=>(by cases h),fun _=>?_⟩
   rw[bA i (by omega)]
   have ih:=Oc z pa p hp hl v k (i+1) (l0++[w]) (by omega) (by simp;omega)
   refine⟨⟨fun c hc=>by simp at hc;rw[hc];rfl,by rw[jO];omega⟩,?_⟩
   cases q2:eI d (p.drop (i+1))with
   |none=>rw[q2]at ih;exact ih
   |some l=>rw[q2]at ih;simp only[a6,ba,aS]at ih;exact ih
theorem ng{s:Nm}{p:List Nm}{f:Nm}{l:List Vl}{v:Vl}(h:wB s p f=some (l,v)):∃d a x A B D,ZT s d a x A B D/\ZI a l v/\p=l.map (·.cL)/\f=v.cL/\p.length<=50/\zA s=a/\qJ s f=some v/\eI d p=some l:=by
 unfold wB at h
 split at h
 ·rename_i v' d h1 h2
  split at h
  ·rename_i hl
   obtain⟨l',h3,h4⟩:=Option.map_eq_some_iff.1 h
   cases h4
   obtain⟨a,_,_,_,L⟩:=p8 h1
   obtain⟨x,A,B,D,z⟩:=ZT.of L.l h2
   obtain⟨q1,q2⟩:=se z p l h3
   obtain⟨q3,q4⟩:=z.qW h1
   exact⟨d,a,x,A,B,D,z,⟨q2,q3⟩,q1,q4,hl,by unfold zA;rw[L.l];rfl,h1,h3⟩
  ·cases h
 ·cases h
theorem Ru(s:Nm)(pa:AV)(p:List Nm)(hp:cw pa p)(f:Nm):an Tryz.prog 49 [.agg [.v (.string (mk s)),pa,.v (.string (mk f))]] [] (bJ (oZ s (zA s) (wB s p f))):=by
 refine S3 _ _ _ hp.1 ?_
 unfold N7
 refine aj (QC s f) ?_
 have hlt:LK.has .ptr (IL s)=True:=by unfold IL;split<;>simp[aF,jr]
 simp only[↓zq,zs,ae,zt,hlt,gy]
 refine aj (Qc s) ?_
 have ho:∀o:Option Nm,uI o=.cI [.v (.string (mk (o.getD []))),.v (.bool o.isSome)]:=fun o=>by cases o<;>rfl
 rw[ho]
 simp only[↓zq,zs,ae,zt]
 unfold wB
 cases h1:qJ s f with
 |
  none =>
  simp only[jE,↓zq,zs,ae]
  exact⟨fun _=>⟨rfl,rfl⟩,fun h=>(by cases h)⟩
 |
  some v =>
  simp only[jE,↓zq,zs,ae,fI]
  refine⟨fun h=>(by cases h),fun _=>?_⟩
  cases h2:cO s with
  |
   none =>
   simp only[bw]
   exact⟨fun _=>⟨rfl,rfl⟩,fun h=>(by cases h)⟩
  |
   some d =>
   simp only[aX,cz,hp.len]
   refine⟨fun h=>(by cases h),fun _=>⟨hp.1,fun h=>?_,fun h=>?_⟩⟩
   ·rw[if_neg (by omega)];exact⟨rfl,rfl⟩
   ·have hl:p.length<=50:=by omega
    rw[if_pos hl]
    obtain⟨a,_,_,_,L⟩:=p8 h1
    obtain⟨x,A,B,D,z⟩:=ZT.of L.l h2
    have ht:IL s=(Ty.rc a).av:=by unfold IL;rw[L.l]
    have hza:zA s=a:=by unfold zA;rw[L.l];rfl
    rw[ht,hza]
    refine⟨hp.1,?_⟩
    have hloop:=Oc z pa p hp hl v p.length 0 [] (by omega) (by simp)
    rw[bf]at hloop
    refine fA hloop (fun ys o e=>?_) (fun ys o e=>?_)
    ·cases q:eI d p with
     |none=>rw[q]at e;cases e
     |
      some l =>
      rw[q]at e
      cases e
      simp only[↓zq,zs,ae,zt,ae,aI,aF,aO,cD]
      exact⟨rfl,rfl⟩
    ·cases q:eI d p with
     |
      none =>
      rw[q]at e
      cases e
      simp only[↓zq,zs,ae,zt,ae,aI,Option.map_none]
      exact⟨rfl,rfl⟩
     |some l=>rw[q]at e;cases e
theorem O0(s:Nm)(a:Ty)(x3:AV)(h3:LK.ptr.has x3):∀(n:Nat) (l:List Vl) (v:Vl),l.length=n->ZI a l v->n<=50 ->
 FE [x3,tR s a l v] [] (nK (if(iO n a l v).isSome=true then(1,[x3],[])else(2,[iC],[])))
 |
  0,l,v,hl,h,hn=>by
  refine Mu _ _ ?_
  simp only[GX,tR,↓zq,zs,ae,h3,jO,hl,iO]
  repeat refine⟨by omega,?_⟩
  exact fun _=>by simp[nK]
 |
  n+1,l,v,hl,h,hn=>by
  refine Mu _ _ ?_
  have hup:=MH s a l v h (by omega)
  simp only[GX,↓zq,zs,ae,h3]
  simp only[tR,↓zq,zs,ae,jO,hl]at hup |-
  repeat refine⟨by omega,?_⟩
  refine⟨fun _=>?_,fun h=>by omega⟩
  refine aj hup ?_
  simp only[↓zq,zs,ae,pQ]
  rw[iO]
  cases q:qP a l v with
  |
   none =>
   simp only[oZ,↓zq,zs,ae,bP]
   exact⟨fun _=>by simp[nK],fun h=>(by cases h)⟩
  |
   some r =>
   obtain⟨hz,hlen,_⟩:=uE h q
   have ih:=O0 s a x3 h3 n r.1 r.2 (by omega) hz (by omega)
   simp only[oZ,tR,↓zq,zs,ae,a8]at ih |-
   exact⟨fun h=>(by cases h),fun _=>ih⟩
theorem RD(s:Nm)(pa:AV)(p:List Nm)(hp:cw pa p)(f:Nm):an Tryz.prog 33 [.agg [.v (.string (mk s)),pa,.v (.string (mk f))]] [] (bJ (oZ s (zA s) (gq s p f))):=by
 refine S6 _ _ _ hp.1 ?_
 unfold KR
 refine aj (Ru s pa p hp f) ?_
 simp only[↓zq,zs,ae,zt,pQ]
 unfold gq
 cases q:wB s p f with
 |
  none =>
  simp only[oZ,↓zq,zs,ae,bP]
  exact⟨fun _=>⟨rfl,rfl⟩,fun h=>(by cases h)⟩
 |
  some r =>
  obtain⟨l,v⟩:=r
  obtain⟨d,a,x,A,B,D,z,hz,hpt,hft,hl,hza,_,_⟩:=ng q
  rw[hza]
  have hll:l.length<=50:=by rw[hpt]at hl;simpa using hl
  have hloop:=O0 s a (tR s a l v) ((cj _).mpr trivial) l.length l v rfl hz hll
  simp only[oZ,a8]
  refine⟨fun h=>(by cases h),fun _=>?_⟩
  unfold tF
  refine fA hloop (fun ys o e=>?_) (fun ys o e=>?_)
  ·split at e
   ·rename_i hc
    cases e
    rw[if_pos hc]
    simp only[↓zq,zs,ae,tR,cj]
    exact⟨rfl,rfl⟩
   ·cases e
  ·split at e
   ·cases e
   ·rename_i hc
    cases e
    rw[if_neg hc]
    simp only[↓zq,zs,ae]
    exact⟨rfl,rfl⟩
end Go.Proofs.Trees
namespace Go.Proofs.Trees
open Go Go.VL Go.RowKit
abbrev tZ(s:Nm):Option (List Vl×Vl)->Nm×List Nm×Nm
 |some r=>(s,r.1.map (·.cL),r.2.cL)
 |none=>([],[],[])
def GZ(o:Option (List Vl×Vl)):Prop:=∀r,o=some r->(∀c,c∈r.1->c.cL.length<=900000)/\r.2.cL.length<=900000/\r.1.length<=51
theorem Cx.cL{a:Ty}{c:Vl}(h:Cx a c):c.cL.length<=900000:=by have:=jh c h.il;have:=h.nd;omega
theorem Fo.cL{a:Ty}{c:Vl}(h:Fo a c):c.cL.length<=900000:=by have:=jh c h.il;have:=h.nd;omega
theorem ZI.gz{a:Ty}{l:List Vl}{v:Vl}(h:ZI a l v)(hl:l.length<=51):GZ (some (l,v)):=fun r hr=>by
 cases hr;exact⟨fun c hc=>(h.ctx c hc).cL,h.qW.cL,hl⟩
theorem GZ.none:GZ none:=fun r hr=>by cases hr
theorem L4(l:List Vl)(hl:l.length<=51)(ht:∀c,c∈l->c.cL.length<=900000)(s f:Nm):∀(k i:Nat) (out:List Nm),i+k=l.length->out.length<=i ->
 IM [.sl (w7 l),.v (.int .i64 (l.length:Int)),.v (.int .i64 (i:Int))] [.cells [.v (.string (mk [])),yN,.v (.string (mk []))],.cells [.v (.string (mk s)),.any,.v (.string (mk f))],.vec 1 (bG out)]
  (iq 1 [] [.cells [.v (.string (mk [])),yN,.v (.string (mk []))],.cells [.v (.string (mk s)),.any,.v (.string (mk f))],.vec 1 (bG (out++(l.drop i).map (·.cL)))])
 |
  0,i,out,hi,ho=>by
  refine La _ _ _ _ _ _ _ _ _ ?_
  have:i=l.length:=by omega
  subst this
  simp only[FD,↓zq,zs,ae,zt,ae,bh,List.drop_length]
  exact⟨fun h=>by omega,fun _=>by simp[iq]⟩
 |
  k+1,i,out,hi,ho=>by
  have hlt:i<l.length:=by omega
  refine La _ _ _ _ _ _ _ _ _ ?_
  simp only[FD,↓zq,zs,ae,zt,ae,bh,jO,uq hlt,aO,bF]
  refine⟨fun _=>?_,fun h=>by omega⟩
  repeat refine⟨by omega,?_⟩
  refine aj (D2 (l[i]) (ht _ (bI hlt))) ?_
  simp only[↓zq,zs,ae,zt,Ft,kF]
  refine⟨⟨fun c hc=>by simp at hc;rw[hc];rfl,by omega⟩,?_⟩
  rw[bA i (by omega),aT hlt,bB]
  have:=L4 l hl ht s f k (i+1) (out++[(l[i]).cL]) (by omega) (by simp;omega)
  rw[a6]at this
  exact this
theorem RX(s:Nm)(a:Ty)(o:Option (List Vl×Vl))(h:GZ o):an Tryz.prog 40 [oZ s a o] [] (di (.cI [.agg [.v (.string (mk (tZ s o).1)),.vec 0,.v (.string (mk (tZ s o).2.2))],.v (.bool o.isSome)]) [.vec 1 (bG (tZ s o).2.1)]):=by
 refine Sc _ (by rw[pQ];trivial) ?_
 unfold Oz
 cases o with
 |
  none =>
  simp only[oZ,↓zq,zs,ae]
  exact⟨fun _=>⟨rfl,rfl⟩,fun h=>(by cases h)⟩
 |
  some r =>
  obtain⟨h1,h2,h3⟩:=h r rfl
  simp only[oZ,tR,↓zq,zs,ae,zt,aF,aO]
  refine⟨fun h=>(by cases h),fun _=>?_⟩
  repeat refine⟨by omega,?_⟩
  refine aj (D2 r.2 h2) ?_
  simp only[↓zq,zs,ae,zt,aF,aO,jO]
  repeat refine⟨by omega,?_⟩
  have hlp:=L4 r.1 h3 h1 s r.2.cL r.1.length 0 [] (by omega) (by simp)
  rw[bf,aS]at hlp
  refine cF hlp ?_
  simp only[↓zq,zs,ae,zt,ae,aI,bh]
  exact⟨rfl,rfl⟩
theorem gS{s:Nm}{p:List Nm}{f:Nm}{l:List Vl}{v:Vl}(h:gq s p f=some (l,v)):wB s p f=some (l,v)/\(tF (zA s) l v).isSome=true:=by
 unfold gq at h
 obtain⟨r,h1,h2⟩:=bc.1 h
 split at h2
 ·rename_i hc
  cases h2
  exact⟨h1,hc⟩
 ·cases h2
theorem DC{s:Nm}{p:List Nm}{f:Nm}{l:List Vl}{v:Vl}(h:gq s p f=some (l,v)):ZI (zA s) l v/\l.length<=50/\p=l.map (·.cL)/\f=v.cL:=by
 obtain⟨h1,_⟩:=gS h
 obtain⟨d,a,x,A,B,D,z,hz,hp,hf,hl,hza,_,_⟩:=ng h1
 rw[hza]
 exact⟨hz,by rw[hp]at hl;simpa using hl,hp,hf⟩
theorem yt(s:Nm)(p:List Nm)(f:Nm):GZ (gq s p f):=fun r hr=>by
 obtain⟨h1,h2,_⟩:=DC (l:=r.1) (v:=r.2) hr
 exact h1.gz (by omega) r rfl
theorem Ig(s:Nm)(p:List Nm)(f:Nm):GZ (wB s p f):=fun r hr=>by
 obtain⟨d,a,x,A,B,D,z,hz,hp,hf,hl,hza,_,_⟩:=ng (l:=r.1) (v:=r.2) hr
 exact hz.gz (by
  rw[hp]at hl;have:r.1.length<=50:=by simpa using hl
  omega) r rfl
noncomputable def pw (s:Nm) (p:List Nm) (f g:Nm):Option (List Vl×Vl):=(gq s p f).bind fun _=>gq s p g
noncomputable def ql (s:Nm) (p:List Nm) (f:Nm):Int:=match gq s p f with
 |some r=>((kids (zA s) r.2).length:Int)
 |none=>-1
theorem DB(s:Nm)(p:List Nm)(f g:Nm):GZ (pw s p f g):=fun r hr=>by
 obtain⟨q,h1,h2⟩:=bc.1 hr
 exact yt s p g r h2
abbrev D0(s:Nm)(o:Option (List Vl×Vl)):AV->List Ob->Prop:=di (.cI [.agg [.v (.string (mk (tZ s o).1)),.vec 0,.v (.string (mk (tZ s o).2.2))],.v (.bool o.isSome)]) [.vec 1 (bG (tZ s o).2.1)]
theorem JX(s:Nm)(pa:AV)(p:List Nm)(hp:cw pa p)(f g:Nm):an Tryz.prog 14 [.agg [.v (.string (mk s)),pa,.v (.string (mk f))],.v (.string (mk g))] [] (D0 s (pw s p f g)):=by
 refine Te _ _ _ _ hp.1 ?_
 unfold LL
 refine aj (RD s pa p hp f) ?_
 simp only[↓zq,zs,ae,zt,pQ]
 unfold pw
 cases q:gq s p f with
 |
  none =>
  simp only[oZ,↓zq,zs,ae,bP]
  exact⟨fun _=>⟨rfl,rfl⟩,fun h=>(by cases h)⟩
 |
  some r =>
  simp only[oZ,tR,↓zq,zs,ae,a8]
  refine⟨fun h=>(by cases h),fun _=>?_⟩
  refine aj (RD s pa p hp g) ?_
  simp only[↓zq,zs,ae,zt,pQ]
  refine aV (RX s (zA s) _ (yt s p g)) ?_
  simp only[↓zq,zs,ae,zt,aI]
  exact⟨dW _,rfl,rfl⟩
end Go.Proofs.Trees
namespace Go.Proofs.Trees
open Go Go.VL Go.RowKit
def l8:E->Option E
 | .list [x,a,b]=>if x.at=[114,101,99]then some (.list [x,a,b])else none
 |_=>none
def oP(s:List UInt8):Option E:=match jL s with
 |some e=>l8 e
 |none=>none
theorem GN(s:List UInt8):an Tryz.prog 67 [.v (.string (mk s))] [] (jP (oP s) (oP s).isSome):=by
 refine PQ _ ?_
 unfold JC
 refine aP (HU s) (jP.ne _ _ (fun h=>h)) ?_
 rintro r o ⟨c,d,hd,rfl,hh⟩
 have hhas:bH [.str,.sl] [.v (.string (mk c)),d] 0:=by simp[bH,ef,hd]
 simp only[↓zq,zs,ae,zt]
 refine⟨hhas,fun h=>?_,fun h=>?_⟩
 ·obtain⟨e,he,hce⟩:=hh h
  obtain⟨t,h1,hA,h3,h4,h5,_⟩:=hD he
  have hce':=hce
  rw[dq]at hce'
  simp only[AV.agg.injEq,List.cons.injEq,AV.v.injEq,Value.string.injEq,and_true]at hce'
  obtain⟨hc1,rfl⟩:=hce'
  have hc2:=mk_inj hc1
  subst hc2
  have head:∀w:List UInt8,an Tryz.prog 86 [.agg [.v (.string (mk e.at)),e.sp]] [] (bJ (.v (.string (mk w))))->(w=[114,101,99]↔(l8 e).isSome=true)->((l8 e).isSome=true->l8 e=some e) ->
   fk Tryz.prog 18 (Tree.call 86 [.agg [.v (.string (mk e.at)),e.sp]] [] fun r2 o2=>Tree.ai (LK.str.has r2) (Tree.done 0 [.cI [.agg [.v (.string (mk e.at)),e.sp],.v (.bool (af r2.toStr==[114,101,99]))]] [])) fun _ xs obs=>jP (oP s) (oP s).isSome (xs.headD .any) obs:=by
   intro w hw h1 h2
   refine aj hw ?_
   simp only[↓zq,zs,ae,zt]
   refine⟨e.at,e.sp,hd,?_,fun hs=>⟨e,?_,(dq e).symm⟩⟩
   ·congr 3
    simp only[oP,he,AV.v.injEq,Value.bool.injEq,List.cons.injEq,and_true]
    rw[cA];simpa using h1
   ·simp only[oP,he]at hs |-;exact h2 hs
  have hl:∀x l,e=.list (x::l)->an Tryz.prog 86 [.agg [.v (.string (mk e.at)),e.sp]] [] (bJ (.v (.string (mk x.at)))):=by
   rintro x l rfl;exact vo x l
  have ha:∀s0,e=.atom s0->an Tryz.prog 86 [.agg [.v (.string (mk e.at)),e.sp]] [] (bJ (.v (.string (mk [])))):=by
   rintro s0 rfl;exact zP s0 _ ((bh).mpr trivial) hA.ok
  rcases gB hA.wf hA.ty with⟨hb,_⟩|⟨u,g,rfl,_,hg⟩
  ·rcases fM hA.ty hb hA.cl with⟨rfl,rfl⟩|⟨rfl,rfl⟩|⟨s0,rfl,rfl,hp,h0,h1⟩|⟨x,a,b,t1,t2,rfl,hx,rfl,ha',hbb⟩|⟨x,a,b,t1,t2,rfl,hx,rfl,ha',hbb⟩|⟨x,a,b,t1,rfl,hx,rfl⟩
   ·exact head _ (ha _ rfl) (by simp[l8]) (by simp[l8])
   ·exact head _ (ha _ rfl) (by simp[l8]) (by simp[l8])
   ·exact head _ (ha _ rfl) (by simp[l8]) (by simp[l8])
   ·exact head _ (hl _ _ rfl) (by simp[l8,hx]) (by simp[l8,hx])
   ·exact head _ (hl _ _ rfl) (by simp[l8,hx]) (by simp[l8,hx])
   ·exact head _ (hl _ _ rfl) (by simp[l8,hx]) (by simp[l8,hx])
  ·simp at hg
 ·have hn:jL s=none:=by cases hq:jL s<;>simp[hq]at h |-
  refine⟨c,d,hd,?_,fun h=>?_⟩
  ·simp[oP,hn]
  ·simp[oP,hn]at h
theorem B5(s:List UInt8):(oP s).isSome=(kU s).isSome:=by
 unfold oP kU
 cases h:jL s with
 |none=>rw[nk h];rfl
 |
  some e =>
  obtain⟨t,h1,hA,h3,h4,h5,_⟩:=hD h
  rw[h1]
  simp only
  rcases gB hA.wf hA.ty with⟨hb,_⟩|⟨u,g,rfl,_,hg⟩
  ·rcases fM hA.ty hb hA.cl with⟨rfl,rfl⟩|⟨rfl,rfl⟩|⟨s0,rfl,rfl,hp,h0,h1⟩|⟨x,a,b,t1,t2,rfl,hx,rfl,ha',hbb⟩|⟨x,a,b,t1,t2,rfl,hx,rfl,ha',hbb⟩|⟨x,a,b,t1,rfl,hx,rfl⟩<;>simp_all[l8]
  ·simp at hg
theorem LV.le{s v:List UInt8}{w:Vl}{a:Ty}{x A B:E}(h:LV s v w a x A B):oP s=some (.list [x,A,B]):=by
 unfold oP;rw[h.ce];simp[l8,h.hx]
theorem P7(n:Nat)(v:Vl)(x A B:E)(a:Ty)(hA:Ask B [.mk A.at (.list [x,A,B]) []] a)(hx:x.at=[114,101,99])(w:Vl)(hw:v=.f w)(hv:fh n v (.list [x,A,B],[])=true)(hl:v.nodes<90000) :
 an Tryz.prog 74 [.agg [.v (.string (mk B.at)),B.sp],.v (.string (mk A.at)),.agg [.v (.string (mk w.cN.at)),w.cN.sp]] [] (bJ (.sl (mB (kids a v)))):=by
 subst hw
 obtain⟨w',e,hw'⟩:=ui .nil hx hv
 cases e
 simp only[Vl.nodes]at hl
 have hnm:names [Fr.mk A.at (.list [x,A,B]) []]=[]++[A.at]:=rfl
 have h:=Fh n w.nodes w (au _) B _ a hA hw' (by simp;omega) A.at (by rw[hnm];right;rw[fB];rfl)
 rw[hnm,vX]at h
 exact h
end Go.Proofs.Trees
namespace Go.Proofs.Trees
open Go Go.VL Go.RowKit
def PJ(e:E)(s:List UInt8)(t:Ty)(c v:Vl):Prop:=an Tryz.prog 82 [.agg [.v (.string (mk e.at)),e.sp],.v (.string (mk s)),.agg [.v (.string (mk c.cN.at)),c.cN.sp],.agg [.v (.string (mk v.cN.at)),v.cN.sp]] [] (bJ (.agg [.v (.string (mk (cB t c v).cN.at)),(cB t c v).cN.sp]))
theorem E3:∀(m:Nat) (c:Vl),c.nodes<=m->∀(e:E) (env:List Fr) (t:Ty),Ask e env t->dN t c=true->∀(s:List UInt8) (v:Vl),PJ e s t c v
 |0,c,hm=>by have:=dk c;omega
 |
  m+1,c,hm=>by
  intro e env t A hc s v
  unfold PJ
  refine Qf _ _ _ _ _ _ _ ((aY _).mpr trivial) ((aY _).mpr trivial) ((aY _).mpr trivial) ?_
  have atomCase:∀s0,e=.atom s0->cB t c v=v->fk Tryz.prog 244 (EF (mk e.at) e.sp (mk s) (mk c.cN.at) c.cN.sp (mk v.cN.at) v.cN.sp) fun _ xs obs=>bJ (.agg [.v (.string (mk (cB t c v).cN.at)),(cB t c v).cN.sp]) (xs.headD .any) obs:=by
   rintro s0 rfl hp
   have hne:s0≠[]:=A.ok
   rw[hp]
   simp only[EF,E.at,↓zq,zs,ae,zt,bJ]
   exact⟨fun _=>trivial,fun h=>absurd h hne⟩
  have hvh:=Cz c
  rw[dq]at hvh
  rcases gB A.wf A.ty with⟨hb,hq⟩|⟨u,g,rfl,hq,hu⟩
  ·rcases fM A.ty hb A.cl with⟨rfl,rfl⟩|⟨rfl,rfl⟩|⟨s0,rfl,rfl,hp,h0,h1⟩|⟨x,a,b,t1,t2,rfl,hx,rfl,ha,hbb⟩|⟨x,a,b,t1,t2,rfl,hx,rfl,ha,hbb⟩|⟨x,a,b,t1,rfl,hx,rfl⟩
   ·exact atomCase _ rfl (tE _ _)
   ·exact atomCase _ rfl (vH _ _)
   ·exact atomCase _ rfl (jX _ _ _)
   ·obtain⟨ok1,ok2,ok3,_⟩:=A.ok
    obtain⟨f1,f2⟩:=fF A.cl
    have hP:=P3.of x a b
    have hH:an Tryz.prog 86 [.agg [.v (.string (mk [])),(E.list [x,a,b]).sp]] [] (bJ (.v (.string (mk [43])))):=by rw[<-hx];exact vo x [a,b]
    rcases wj hc with⟨y,rfl,hy⟩|⟨y,rfl,hy⟩
    ·simp only[Vl.nodes]at hm
     have hW:=P2.of (.atom [108]) y.cN
     simp only[Vl.cN,bL]at hvh
     simp only[EF,bL,Vl.cN,toNat_one,bg,↓zq,zs,ae,zt,hP.1,hP.2.1,hP.2.2.1,hP.2.2.2,hW.1,hW.2.1,hW.2.2,aM]
     refine⟨fun h=>absurd rfl h,fun _=>?_⟩
     repeat refine⟨by omega,?_⟩
     refine aj hH ?_
     simp only[↓zq,zs,ae,zt]
     refine aj hvh ?_
     simp only[vh,↓zq,zs,ae,zt,ba,aS]
     refine⟨by simp[cP],fun _=>?_,fun h=>absurd rfl h⟩
     repeat refine⟨by omega,?_⟩
     refine aj (E3 m y (by omega) a env t1 ⟨ok2,A.wf,ha,f1⟩ hy s v) ?_
     simp only[↓zq,zs,ae,zt,aM]
     repeat refine⟨by omega,?_⟩
     refine aj (xM _ _) ?_
     simp only[↓zq,zs,ae,zt,aM]
     repeat refine⟨by omega,?_⟩
     exact⟨rfl,rfl⟩
    ·simp only[Vl.nodes]at hm
     have hW:=P2.of (.atom [114]) y.cN
     simp only[Vl.cN,bL]at hvh
     simp only[EF,bL,Vl.cN,toNat_one,bg,↓zq,zs,ae,zt,hP.1,hP.2.1,hP.2.2.1,hP.2.2.2,hW.1,hW.2.1,hW.2.2,aM]
     refine⟨fun h=>absurd rfl h,fun _=>?_⟩
     repeat refine⟨by omega,?_⟩
     refine aj hH ?_
     simp only[↓zq,zs,ae,zt]
     refine aj hvh ?_
     simp only[vh,↓zq,zs,ae,zt,ba,aS]
     refine⟨by simp[cP],fun h=>by simp at h,fun _=>⟨fun _=>?_,fun h=>absurd rfl h⟩⟩
     repeat refine⟨by omega,?_⟩
     refine aj (E3 m y (by omega) b env t2 ⟨ok3,A.wf,hbb,f2⟩ hy s v) ?_
     simp only[↓zq,zs,ae,zt,aM]
     repeat refine⟨by omega,?_⟩
     refine aj (xM _ _) ?_
     simp only[↓zq,zs,ae,zt,aM]
     repeat refine⟨by omega,?_⟩
     exact⟨rfl,rfl⟩
   ·obtain⟨ok1,ok2,ok3,_⟩:=A.ok
    obtain⟨f1,f2⟩:=fg A.cl
    have hP:=P3.of x a b
    have hH:an Tryz.prog 86 [.agg [.v (.string (mk [])),(E.list [x,a,b]).sp]] [] (bJ (.v (.string (mk [42])))):=by rw[<-hx];exact vo x [a,b]
    rcases s7 hc with⟨y,z,rfl,hy⟩|⟨y,z,rfl,hy⟩
    ·simp only[Vl.nodes]at hm
     have hW:=P2.of (.atom [108]) (E.list [.atom [112],y.cN,z.cN])
     have hQ:=P3.of (.atom [112]) y.cN z.cN
     simp only[Vl.cN,bL]at hvh
     simp only[EF,bL,Vl.cN,toNat_one,bg,↓zq,zs,ae,zt,hP.1,hP.2.1,hP.2.2.1,hP.2.2.2,hW.1,hW.2.1,hW.2.2,hQ.1,hQ.2.1,hQ.2.2.1,hQ.2.2.2,aM]
     refine⟨fun h=>absurd rfl h,fun _=>?_⟩
     repeat refine⟨by omega,?_⟩
     refine aj hH ?_
     simp only[↓zq,zs,ae,zt]
     refine aj hvh ?_
     simp only[vh,↓zq,zs,ae,zt,ba,aS]
     refine⟨by simp[cP],fun h=>by simp at h,fun _=>⟨fun h=>by simp at h,fun _=>⟨fun _=>?_,fun h=>absurd rfl h⟩⟩⟩
     repeat refine⟨by omega,?_⟩
     refine aj (E3 m y (by omega) a env t1 ⟨ok2,A.wf,ha,f1⟩ hy s v) ?_
     simp only[↓zq,zs,ae,zt,aM]
     repeat refine⟨by omega,?_⟩
     refine aj (xS _ _ _) ?_
     simp only[↓zq,zs,ae,zt,aM]
     repeat refine⟨by omega,?_⟩
     exact⟨rfl,rfl⟩
    ·simp only[Vl.nodes]at hm
     have hW:=P2.of (.atom [114]) (E.list [.atom [112],y.cN,z.cN])
     have hQ:=P3.of (.atom [112]) y.cN z.cN
     simp only[Vl.cN,bL]at hvh
     simp only[EF,bL,Vl.cN,toNat_one,bg,↓zq,zs,ae,zt,hP.1,hP.2.1,hP.2.2.1,hP.2.2.2,hW.1,hW.2.1,hW.2.2,hQ.1,hQ.2.1,hQ.2.2.1,hQ.2.2.2,aM]
     refine⟨fun h=>absurd rfl h,fun _=>?_⟩
     repeat refine⟨by omega,?_⟩
     refine aj hH ?_
     simp only[↓zq,zs,ae,zt]
     refine aj hvh ?_
     simp only[vh,↓zq,zs,ae,zt,ba,aS]
     refine⟨by simp[cP],fun h=>by simp at h,fun _=>⟨fun h=>by simp at h,fun _=>⟨fun h=>by simp at h,fun _=>⟨fun _=>?_,fun h=>absurd rfl h⟩⟩⟩⟩
     repeat refine⟨by omega,?_⟩
     refine aj (E3 m z (by omega) b env t2 ⟨ok3,A.wf,hbb,f2⟩ hy s v) ?_
     simp only[↓zq,zs,ae,zt,aM]
     repeat refine⟨by omega,?_⟩
     refine aj (xS _ _ _) ?_
     simp only[↓zq,zs,ae,zt,aM]
     repeat refine⟨by omega,?_⟩
     exact⟨rfl,rfl⟩
   ·obtain⟨t1',he1,h1,f1,hw1⟩:=jy A.wf A.ok hx A.ty A.cl
    cases he1
    obtain⟨ok1,ok2,ok3,_⟩:=A.ok
    have A':Ask b (.mk a.at (.list [x,a,b]) env::env) t1:=⟨ok3,hw1,h1,f1⟩
    have hP:=P3.of x a b
    have hH:an Tryz.prog 86 [.agg [.v (.string (mk [])),(E.list [x,a,b]).sp]] [] (bJ (.v (.string (mk [114,101,99])))):=by rw[<-hx];exact vo x [a,b]
    rcases CV hc with⟨y,rfl,hy⟩|⟨y,z,rfl,hy,hz⟩
    ·simp only[Vl.nodes]at hm
     have hW:=P2.of (.atom [102]) (E.list [.atom [108],y.cN])
     have hQ:=P2.of (.atom [108]) y.cN
     have hvi:=Cz (.l y)
     rw[dq]at hvi
     simp only[Vl.cN,bL]at hvh hvi
     simp only[EF,bL,Vl.cN,toNat_one,bg,↓zq,zs,ae,zt,hP.1,hP.2.1,hP.2.2.1,hP.2.2.2,hW.1,hW.2.1,hW.2.2,hQ.1,hQ.2.1,hQ.2.2,aM]
     refine⟨fun h=>absurd rfl h,fun _=>?_⟩
     repeat refine⟨by omega,?_⟩
     refine aj hH ?_
     simp only[↓zq,zs,ae,zt]
     refine aj hvh ?_
     simp only[vh,↓zq,zs,ae,zt,ba,aS]
     refine⟨by simp[cP],fun h=>by simp at h,fun _=>⟨fun h=>by simp at h,fun _=>⟨fun h=>by simp at h,fun _=>⟨fun h=>by simp at h,fun _=>?_⟩⟩⟩⟩
     repeat refine⟨by omega,?_⟩
     refine aj hvi ?_
     simp only[vh,↓zq,zs,ae,zt]
     refine⟨fun _=>?_,fun h=>absurd rfl h⟩
     repeat refine⟨by omega,?_⟩
     refine aj (E3 m y (by omega) b _ t1 A' hy s v) ?_
     simp only[↓zq,zs,ae,zt,aM]
     repeat refine⟨by omega,?_⟩
     refine aj (xM _ _) ?_
     simp only[↓zq,zs,ae,zt,aM]
     repeat refine⟨by omega,?_⟩
     exact⟨rfl,rfl⟩
    ·simp only[Vl.nodes]at hm
     have hW:=P2.of (.atom [102]) (E.list [.atom [114],E.list [.atom [112],y.cN,z.cN]])
     have hQ:=P2.of (.atom [114]) (E.list [.atom [112],y.cN,z.cN])
     have hR:=P3.of (.atom [112]) y.cN z.cN
     have hvi:=Cz (.r (.p y z))
     rw[dq]at hvi
     simp only[Vl.cN,bL]at hvh hvi
     simp only[EF,bL,Vl.cN,toNat_one,bg,↓zq,zs,ae,zt,hP.1,hP.2.1,hP.2.2.1,hP.2.2.2,hW.1,hW.2.1,hW.2.2,hQ.1,hQ.2.1,hQ.2.2,hR.1,hR.2.1,hR.2.2.1,hR.2.2.2,aM]
     refine⟨fun h=>absurd rfl h,fun _=>?_⟩
     repeat refine⟨by omega,?_⟩
     refine aj hH ?_
     simp only[↓zq,zs,ae,zt]
     refine aj hvh ?_
     simp only[vh,↓zq,zs,ae,zt,ba,aS]
     refine⟨by simp[cP],fun h=>by simp at h,fun _=>⟨fun h=>by simp at h,fun _=>⟨fun h=>by simp at h,fun _=>⟨fun h=>by simp at h,fun _=>?_⟩⟩⟩⟩
     repeat refine⟨by omega,?_⟩
     refine aj hvi ?_
     simp only[vh,↓zq,zs,ae,zt]
     refine⟨fun h=>by simp at h,fun _=>?_⟩
     repeat refine⟨by omega,?_⟩
     have i1:=E3 m z (by omega) (.list [x,a,b]) env (.rc t1) A hz s v
     unfold PJ at i1
     simp only[bL]at i1
     refine aj i1 ?_
     simp only[↓zq,zs,ae,zt,aM]
     repeat refine⟨by omega,?_⟩
     refine aj (E3 m y (by omega) b _ t1 A' hy a.at (cB (.rc t1) z v)) ?_
     simp only[↓zq,zs,ae,zt,aM]
     repeat refine⟨by omega,?_⟩
     refine aj (xM _ _) ?_
     simp only[↓zq,zs,ae,zt,aM]
     repeat refine⟨by omega,?_⟩
     exact⟨rfl,rfl⟩
  ·cases e with
   |atom s0=>exact atomCase _ rfl (nY _ _ _)
   |list l=>exact absurd hq (by rw[show (E.list l).at=[] from rfl,lE A.wf];simp)
end Go.Proofs.Trees
namespace Go.Proofs.Trees
open Go Go.VL Go.RowKit
abbrev PU:Ob:=.cells [.v (.string (mk [])),.v (.slice none 0 0),.v (.string (mk []))]
theorem ZT.le{s d:Nm}{a:Ty}{x A B:E}{D:Ty}(z:ZT s d a x A B D):oP s=some (.list [x,A,B]):=by
 unfold oP;rw[z.ce];simp[l8,z.hx]
theorem ud(o:Option Nm):uI o=.cI [.v (.string (mk (o.getD []))),.v (.bool o.isSome)]:=by cases o<;>rfl
theorem AJ{a:Ty}{w v:Vl}(hw:Cx a w)(hv:Fo a v):(Vl.f (cB a w v)).cL.length<=900000:=by
 have h1:=jh (Vl.f (cB a w v)) (by exact sH 100 a w v hw.il hv.il)
 have h2:=sI a w v
 have:=hw.nd
 have:=hv.nd
 simp only[Vl.nodes]at h1
 omega
abbrev AD(a:Ty)(w v:Vl):Option Nm:=if(Vl.f (cB a w v)).nodes<=200 then some (Vl.f (cB a w v)).cL else none
theorem PL{s d:Nm}{a:Ty}{x A B:E}{D:Ty}(z:ZT s d a x A B D)(w v:Vl)(hw:nI d w.cL 100=some w)(hv:Fo a v):an Tryz.prog 60 [.v (.string (mk s)),.v (.string (mk w.cL)),.v (.string (mk v.cL))] [] (bJ (uI (AD a w v))):=by
 have hC:=z.ctx hw
 have hv2:nI s v.cL 100=some v:=by rw[z.cL hv.il hv.ty,if_pos hv.nd]
 refine Q2 _ _ _ ?_
 unfold MF
 refine aP (GN s) (jP.ne _ _ (fun h=>h)) ?_
 rintro r o ⟨c,e,he,rfl,hh⟩
 rw[z.le]at hh
 obtain⟨e',he',hce⟩:=hh rfl
 cases he'
 rw[dq]at hce
 simp only[AV.agg.injEq,List.cons.injEq,AV.v.injEq,Value.string.injEq,and_true]at hce
 obtain⟨hc1,rfl⟩:=hce
 rw[z.le,hc1]
 simp only[↓zq,zs,ae,zt,aM,bL]
 repeat refine⟨by omega,?_⟩
 refine aj (OZ s) ?_
 rw[ud,z.dl]
 simp only[↓zq,zs,ae,zt,aX,cz]
 refine⟨fun h=>by simp at h,fun _=>⟨fun h=>by simp at h,fun _=>?_⟩⟩
 refine aj (Aj d w.cL 100) ?_
 rw[hw]
 simp only[↓zq,zs,ae,aX]
 refine⟨fun h=>by simp at h,fun _=>?_⟩
 refine aj (Aj s v.cL 100) ?_
 rw[hv2]
 simp only[↓zq,zs,ae,aX]
 refine⟨fun h=>by simp at h,fun _=>?_⟩
 have hP:=P3.of x A B
 have rd:∀q:Vl,q.il 100->q.nodes<=200->∀{Q:AV->List Ob->Prop},(∀o,Q (.cI [.agg [.v (.string (mk q.cN.at)),q.cN.sp],.v (.bool true)]) o)->∀r o,jP ((sK q.cL).map Vl.cN) (sK q.cL).isSome r o->Q r o:=by
  intro q hu hn Q hQ r o
  rw[ri hu hn]
  rintro⟨c,e,he,rfl,hh⟩
  obtain⟨e',he',hce⟩:=hh rfl
  cases he'
  rw[dq]at hce
  rw[hce]
  exact hQ o
 refine aP (D5 w.cL) (jP.ne _ _ (fun h=>by simpa using h)) (rd w hC.il hC.nd fun o=>?_)
 simp only[↓zq,zs,ae,zt,aM]
 repeat refine⟨by omega,?_⟩
 refine aP (D5 v.cL) (jP.ne _ _ (fun h=>by simpa using h)) (rd v hv.il hv.nd fun o=>?_)
 simp only[toNat_one,bg,↓zq,zs,ae,zt,hP.1,hP.2.1,hP.2.2.1,hP.2.2.2,aM,aY]
 repeat refine⟨by omega,?_⟩
 refine aj (E3 w.nodes w (au _) B _ a z.body hC.ok A.at v) ?_
 simp only[↓zq,zs,ae,zt,aM]
 repeat refine⟨by omega,?_⟩
 refine aj (xM _ _) ?_
 simp only[↓zq,zs,ae,zt,aM]
 repeat refine⟨by omega,?_⟩
 have htx:=Dg (Vl.f (cB a w v)).cN (mU _) (AJ hC hv)
 rw[dq]at htx
 simp only[Vl.cN,bL]at htx
 refine aj htx ?_
 simp only[↓zq,zs,ae,zt]
 refine aj (Aj s (Vl.f (cB a w v)).cL 100) ?_
 rw[z.cL (w:=Vl.f (cB a w v)) (by exact sH 100 a w v hC.il hv.il) (hC.ty v hv.ty)]
 unfold AD
 by_cases hn:(Vl.f (cB a w v)).nodes<=200
 ·rw[if_pos hn,if_pos hn]
  simp only[↓zq,zs,ae,aX]
  exact⟨fun h=>by simp at h,fun _=>⟨rfl,rfl⟩⟩
 ·rw[if_neg hn,if_neg hn]
  simp only[↓zq,zs,ae,bw]
  exact⟨fun _=>⟨rfl,rfl⟩,fun h=>by simp at h⟩
theorem nU{d:Nm}:∀{p:List Nm} {l:List Vl},eI d p=some l->p=l.map (·.cL)->∀c,c∈l->nI d c.cL 100=some c
 |[],l,h,_,c,hc=>by cases h;cases hc
 |
  q::r,l,h,hp,c,hc=>by
  simp only[eI]at h
  split at h
  ·rename_i w l' h1 h2
   cases h
   simp only[bB,List.cons.injEq]at hp
   rcases aK.1 hc with rfl|hc
   ·rw[<-hp.1];exact h1
   ·exact nU h2 hp.2 c hc
  ·cases h
structure St(s d:Nm)(a:Ty)(l:List Vl)(v:Vl):Prop where
 z:∃x A B D,ZT s d a x A B D
 i:ZI a l v
 each:∀c,c∈l->nI d c.cL 100=some c
 len:l.length<=50
def zT(s:Nm)(pa:AV)(a:Ty)(l:List Vl)(v:Vl):AV:=match l.getLast? with
 |none=>.cI [.agg [.v (.string (mk s)),pa,.v (.string (mk v.cL))],.v (.bool false)]
 |some c=>.cI [.agg [.v (.string (mk s)),.sl (bG (l.dropLast.map (·.cL))),.v (.string (mk ((AD a c v).getD [])))],.v (.bool (AD a c v).isSome)]
theorem SV{s d:Nm}{a:Ty}{l:List Vl}{v:Vl}(h:St s d a l v)(pa:AV)(hp:cw pa (l.map (·.cL))):an Tryz.prog 38 [.agg [.v (.string (mk s)),pa,.v (.string (mk v.cL))]] [] (bJ (zT s pa a l v)):=by
 refine QH _ _ _ hp.1 ?_
 unfold Nx
 have hlen:=h.len
 simp only[↓zq,zs,ae,zt,hp.len,ck,kF]
 unfold zT
 refine⟨hp.1,fun h0=>?_,fun h0=>?_⟩
 ·have:l=[]:=bS (by omega)
  subst this
  exact⟨rfl,rfl⟩
 ·have hpos:0<l.length:=by omega
  have hne:l≠[]:=by rintro rfl;simp at hpos
  rw[wrap64 ((l.length:Int)-1) (by omega) (by omega)]
  have e1:((l.length:Int)-1).toNat=l.length-1:=by omega
  have hlt:l.length-1<(l.map (·.cL)).length:=by rw[ck];omega
  have hlt':l.length-1<l.length:=by omega
  have hlast:l.getLast?=some (l[l.length-1]):=by rw[List.getLast?_eq_some_getLast hne,List.getLast_eq_getElem]
  rw[hlast]
  have hm:=bI hlt'
  have hg:(l.map (·.cL)).getD (l.length-1) []=(l[l.length-1]).cL:=by rw[aa,bp hlt,List.getElem_map];rfl
  obtain⟨x,A,B,D,z⟩:=h.z
  rw[e1,hp.idx hlt,hg]
  generalize l[l.length-1]=c at *
  simp only[↓zq,zs,ae,zt]
  refine⟨⟨hp.1,by omega⟩,by omega,?_⟩
  refine aj (PL z c v (h.each c hm) h.i.qW) ?_
  rw[ud]
  simp only[↓zq,zs,ae,zt]
  refine⟨⟨hp.1,by omega⟩,⟨fun y hy=>?_,?_⟩,?_,rfl⟩
  ·rw[hp.2]at hy
   have:=List.mem_of_mem_take hy
   obtain⟨t,_,rfl⟩:=bO.1 this
   rfl
  ·rw[hp.2];simp[bG];omega
  ·have:pa.elems.take (l.length-1)=bG (l.dropLast.map (·.cL)):=by
    rw[hp.2,List.dropLast_eq_take,List.map_take];simp[bG,List.map_take]
   rw[this];rfl
theorem St.up{s d:Nm}{a:Ty}{l l':List Vl}{v w:Vl}(h:St s d a l v)(hu:qP a l v=some (l',w)):St s d a l' w:=by
 obtain⟨h1,h2,c,h3,_⟩:=uE h.i hu
 have hl:=h.len
 exact⟨h.z,h1,fun c' hc'=>h.each c' (by rw[h3];exact aD _ hc'),by omega⟩
theorem Av{s:Nm}{pa:AV}{a:Ty}{l l':List Vl}{v w:Vl}(hu:qP a l v=some (l',w)):zT s pa a l v=.cI [.agg [.v (.string (mk s)),.sl (bG (l'.map (·.cL))),.v (.string (mk w.cL))],.v (.bool true)]:=by
 unfold qP at hu
 unfold zT
 cases q:l.getLast? with
 |none=>rw[q]at hu;cases hu
 |
  some c =>
  rw[q]at hu
  simp only at hu |-
  unfold AD
  split at hu
  ·rename_i hn
   cases hu
   rw[if_pos hn];rfl
  ·cases hu
theorem zW{s:Nm}{pa:AV}{a:Ty}{l:List Vl}{v:Vl}(hpa:LK.sl.has pa)(hu:qP a l v=none):∃p f,LK.sl.has p/\zT s pa a l v=.cI [.agg [.v (.string (mk s)),p,.v (.string (mk f))],.v (.bool false)]:=by
 unfold qP at hu
 unfold zT
 cases q:l.getLast? with
 |none=>exact⟨_,_,hpa,rfl⟩
 |
  some c =>
  rw[q]at hu
  simp only at hu |-
  unfold AD
  split at hu
  ·cases hu
  ·rename_i hn
   rw[if_neg hn];exact⟨_,_,(cn _).mpr trivial,rfl⟩
def F7(s:Nm)(o:Option Vl):Nat->List AV->List Ob->Prop:=fun k ys ob=>match o with
 |some w=>k=1/\ys=[]/\∃pa,LK.sl.has pa/\ob=[.cells [.v (.string (mk s)),pa,.v (.string (mk w.cL))],PU]
 |none=>k=2/\ys=[.v (.bool false)]/\∃pa f,LK.sl.has pa/\ob=[.cells [.v (.string (mk s)),pa,.v (.string (mk f))]]
theorem M3(s d:Nm)(a:Ty):∀(n:Nat) (l:List Vl) (v:Vl) (pa:AV),l.length=n->St s d a l v->cw pa (l.map (·.cL))->IQ [] [.cells [.v (.string (mk s)),pa,.v (.string (mk v.cL))],PU] (F7 s (iO n a l v))
 |
  0,l,v,pa,hl,h,hp=>by
  refine Kh _ _ _ _ _ _ ?_
  simp only[Ic,↓zq,zs,ae,zt,ae,bh,hp.len,ck,hl,iO]
  refine⟨hp.1,hp.1,fun h=>by omega,fun _=>?_⟩
  exact⟨rfl,rfl,pa,hp.1,rfl⟩
 |
  n+1,l,v,pa,hl,h,hp=>by
  refine Kh _ _ _ _ _ _ ?_
  simp only[Ic,↓zq,zs,ae,zt,ae,bh,hp.len,ck,hl]
  refine⟨hp.1,hp.1,fun _=>?_,fun h=>by omega⟩
  refine aj (SV h pa hp) ?_
  rw[iO]
  cases q:qP a l v with
  |
   none =>
   obtain⟨p',f',h1,h2⟩:=zW (s:=s) hp.1 q
   rw[h2]
   simp only[↓zq,zs,ae,zt,bH,bP]
   exact⟨h1,fun _=>⟨rfl,rfl,pa,v.cL,hp.1,rfl⟩,fun h=>by simp at h⟩
  |
   some r =>
   obtain⟨l',w⟩:=r
   obtain⟨_,hlen,_⟩:=uE h.i q
   rw[Av q]
   simp only[↓zq,zs,ae,zt,bH,a8,cn]
   refine⟨fun h=>by simp at h,fun _=>?_⟩
   exact M3 s d a n l' w _ (by omega) (h.up q) (cw.of _)
def Ep(o:Option Vl):AV->List Ob->Prop:=fun r ob=>ob=[]/\∃c0 pa c2,LK.sl.has pa/\r=.cI [.agg [.v (.string c0),pa,.v (.string c2)],.v (.bool o.isSome)]/\∀w,o=some w->c2=mk w.cL
theorem Ep.ne(o:Option Vl):∃r ob,Ep o r ob:=⟨_,[],rfl,mk [],.sl [],mk ((o.map (·.cL)).getD []),(cn _).mpr trivial,rfl,fun w h=>by rw[h];rfl⟩
theorem Rq{s d:Nm}{a:Ty}{l:List Vl}{v:Vl}(h:St s d a l v)(pa:AV)(hp:cw pa (l.map (·.cL))):an Tryz.prog 47 [.agg [.v (.string (mk s)),pa,.v (.string (mk v.cL))]] [] (Ep (tF a l v)):=by
 refine S5 _ _ _ hp.1 ?_
 unfold LX
 have hloop:=M3 s d a l.length l v pa rfl h hp
 refine k9 hloop (fun ys o e=>?_) (fun ys o e=>?_)
 ·unfold F7 at e
  unfold tF
  cases q:iO l.length a l v with
  |none=>rw[q]at e;exact absurd e.1 (by decide)
  |
   some w =>
   rw[q]at e
   obtain⟨_,rfl,p',h1,rfl⟩:=e
   simp only[↓zq,zs,ae,zt,ae,bh]
   exact⟨h1,rfl,_,_,_,h1,rfl,fun w' h=>by cases h;rfl⟩
 ·unfold F7 at e
  unfold tF
  cases q:iO l.length a l v with
  |some w=>rw[q]at e;exact absurd e.1 (by decide)
  |
   none =>
   rw[q]at e
   obtain⟨_,rfl,p',f',h1,rfl⟩:=e
   simp only[↓zq,zs,ae,zt,ae]
   exact⟨h1,rfl,_,_,_,h1,rfl,fun w' h=>by cases h⟩
theorem MG(s d f:Nm)(pa:AV)(p:List Nm)(hp:cw pa p)(hl:p.length<=50):∀(k i:Nat),i+k=p.length->Ij [.v (.string (mk d)),.v (.int .i64 (i:Int))] [.cells [.v (.string (mk s)),pa,.v (.string (mk f))]] (nK (if(eI d (p.drop i)).isSome=true then(1,[],[])else(2,[.v (.bool false)],[])))
 |
  0,i,hi=>by
  refine JD _ _ _ _ _ ?_
  have:i=p.length:=by omega
  subst this
  simp only[GJ,↓zq,zs,ae,zt,ae,hp.len,List.drop_length]
  exact⟨hp.1,hp.1,fun h=>by omega,fun _=>rfl⟩
 |
  k+1,i,hi=>by
  have hlt:i<p.length:=by omega
  have hd:p.drop i=p.getD i []::p.drop (i+1):=by rw[aT hlt];simp[aa,hlt]
  refine JD _ _ _ _ _ ?_
  simp only[GJ,↓zq,zs,ae,zt,ae,hp.len,hp.idx hlt,bF]
  refine⟨hp.1,hp.1,fun _=>⟨⟨hp.1,by omega,by omega⟩,by omega,?_⟩,fun h=>by omega⟩
  refine aj (Aj d (p.getD i []) 100) ?_
  rw[hd,eI]
  simp only[↓zq,zs,ae]
  cases q:nI d (p.getD i []) 100 with
  |
   none =>
   simp only[bw]
   exact⟨fun _=>rfl,fun h=>by simp at h⟩
  |
   some w =>
   simp only[aX]
   refine⟨fun h=>by simp at h,fun _=>?_⟩
   rw[bA i (by omega)]
   have ih:=MG s d f pa p hp hl k (i+1) (by omega)
   cases q2:eI d (p.drop (i+1))with
   |none=>rw[q2]at ih;exact ih
   |some l=>rw[q2]at ih;exact ih
theorem xf(s:Nm)(p:List Nm)(f:Nm):wB s p f=(cO s).bind fun d=>(kU s).bind fun _=>(nI s f 100).bind fun v=>if p.length<=50 then(eI d p).map fun l=>(l,v)else none:=by
 unfold wB qJ
 cases kU s with
 |none=>cases cO s<;>rfl
 |some a=>cases nI s f 100<;>cases cO s<;>rfl
theorem QY(s:Nm)(pa:AV)(p:List Nm)(hp:cw pa p)(f:Nm):an Tryz.prog 46 [.agg [.v (.string (mk s)),pa,.v (.string (mk f))]] [] (bJ (.v (.bool (wB s p f).isSome))):=by
 refine R5 _ _ _ hp.1 ?_
 unfold K5
 refine aj (OZ s) ?_
 rw[ud]
 simp only[↓zq,zs,ae,zt]
 refine aP (GN s) (jP.ne _ _ (fun h=>h)) ?_
 rintro r o ⟨c,e,he,rfl,_⟩
 rw[B5]
 simp only[↓zq,zs,ae,zt,bH,hp.len]
 rw[xf]
 refine⟨he,fun h=>?_,fun h=>⟨fun h'=>?_,fun h'=>⟨hp.1,fun h''=>?_,fun h''=>?_⟩⟩⟩
 ·have:cO s=none:=by cases q:cO s with|none=>rfl|some d=>simp[q]at h
  rw[this]
  exact⟨rfl,rfl⟩
 ·have:kU s=none:=by cases q:kU s with|none=>rfl|some d=>simp[q]at h'
  rw[this]
  cases cO s<;>exact⟨rfl,rfl⟩
 ·simp only[if_neg (show ¬p.length<=50 by omega)]
  exact⟨by cases cO s<;>cases kU s<;>cases nI s f 100<;>rfl,rfl⟩
 ·obtain⟨d,hd⟩:∃d,cO s=some d:=by cases q:cO s with|none=>simp[q]at h|some d=>exact⟨d,rfl⟩
  obtain⟨a,ha⟩:∃a,kU s=some a:=by cases q:kU s with|none=>simp[q]at h'|some d=>exact⟨d,rfl⟩
  rw[hd,ha]
  refine aj (Aj s f 100) ?_
  simp only[↓zq,zs,ae]
  cases q:nI s f 100 with
  |none=>simp only[bw];exact⟨fun _=>⟨rfl,rfl⟩,fun h=>by simp at h⟩
  |
   some v =>
   simp only[aX,cz,a8]
   refine⟨fun h=>by simp at h,fun _=>?_⟩
   have hl:p.length<=50:=by omega
   have hloop:=MG s d f pa p hp hl p.length 0 (by omega)
   rw[bf]at hloop
   rw[if_pos hl]
   refine fA hloop (fun ys o e=>?_) (fun ys o e=>?_)
   ·cases q2:eI d p with
    |none=>rw[q2]at e;cases e
    |some l=>exact⟨rfl,rfl⟩
   ·cases q2:eI d p with
    |none=>rw[q2]at e;cases e;simp only[↓zq,zs,ae];exact⟨rfl,rfl⟩
    |some l=>rw[q2]at e;cases e
theorem xW{s:Nm}{p:List Nm}{f:Nm}{l:List Vl}{v:Vl}(h:wB s p f=some (l,v)):∃d,St s d (zA s) l v/\p=l.map (·.cL)/\f=v.cL:=by
 obtain⟨d,a,x,A,B,D,z,hz,hp,hf,hl,hza,_,hr⟩:=ng h
 rw[hza]
 exact⟨d,⟨⟨x,A,B,D,z⟩,hz,nU hr hp,by rw[hp]at hl;simpa using hl⟩,hp,hf⟩
theorem Er(s:Nm)(pa:AV)(p:List Nm)(hp:cw pa p)(f:Nm):an Tryz.prog 23 [.agg [.v (.string (mk s)),pa,.v (.string (mk f))]] [] (bJ (.v (.bool (gq s p f).isSome))):=by
 refine Qp _ _ _ hp.1 ?_
 unfold Jk
 refine aj (QY s pa p hp f) ?_
 simp only[↓zq,zs,ae]
 unfold gq
 cases q:wB s p f with
 |none=>simp only[bw];exact⟨fun _=>⟨rfl,rfl⟩,fun h=>by simp at h⟩
 |
  some r =>
  obtain⟨l,v⟩:=r
  obtain⟨d,hs,rfl,rfl⟩:=xW q
  simp only[aX,a8]
  refine⟨fun h=>by simp at h,fun _=>?_⟩
  refine aP (Rq hs pa hp) (Ep.ne _) ?_
  rintro r o ⟨rfl,c0,p',c2,h1,rfl,_⟩
  simp only[↓zq,zs,ae,zt,bH]
  refine⟨h1,?_,rfl⟩
  congr 2
  cases tF (zA s) l v<;>rfl
end Go.Proofs.Trees
namespace Go.Proofs.Trees
open Go Go.VL Go.RowKit
inductive Rl(x:Nm):Nat->Tg->Tg->Prop
 |nm (i):Rl x i (.nm x) (.bd i)
 |kP (i s) (h:s≠x):Rl x i (.nm s) (.nm s)
 |bd (i j) (h:j≠i):Rl x i (.bd j) (.bd j)
theorem Rl.up{x:Nm}{i:Nat}{a b:Tg}(h:Rl x i a b):Rl x (i+1) a.up b.up:=by
 cases h with
 |nm=>exact .nm _
 |kP s h=>exact .kP _ _ h
 |bd j h=>exact .bd _ _ (by omega)
theorem Rl.at{x:Nm}{i:Nat}{a b:Tg}(h:Rl x i a b):∀t:Ty,bn x t=false->dT (dC (.name x) t i) a=dT t b
 |
  .bound k,_=>by
  simp only[dC]
  cases h with
  |
   nm =>
   by_cases e:k=i
   ·simp[e,dT]
   ·simp[e,dT]
  |
   kP s h =>
   by_cases e:k=i
   ·simp[e,dT,Ne.symm h]
   ·simp[e,dT]
  |
   bd j h =>
   by_cases e:k=i
   ·simp[e,dT,Ne.symm h]
   ·simp[e,dT]
 |
  .name s,hn=>by
  have hs:s≠x:=by simpa[bn]using hn
  cases h with
  |nm=>simp[dC,dT,hs]
  |kP=>rfl
  |bd=>rfl
 | .plus _ _,_=>by cases h<;>rfl
 | .times _ _,_=>by cases h<;>rfl
 | .rc _,_=>by cases h<;>rfl
 | .zero,_=>by cases h<;>rfl
 | .one,_=>by cases h<;>rfl
theorem ij(x:Nm):∀(n:Nat) (t:Ty) (i:Nat) (a b:Tg) (v:Vl),bn x t=false->Rl x i a b->dH n (dC (.name x) t i) a v=dH n t b v
 |0,_,_,_,_,_,_,_=>rfl
 |
  n+1,t,i,a,b,v,hn,h=>by
  rw[dH,dH,h.at t hn]
  by_cases ht:dT t b=true
  ·rw[if_pos ht,if_pos ht]
  ·rw[if_neg ht,if_neg ht]
   cases t with
   |
    plus p q =>
    simp only[bn,cm]at hn
    cases v<;>simp only[dC,iZ,ij x n p i a b _ hn.1 h,ij x n q i a b _ hn.2 h]
   |
    times p q =>
    simp only[bn,cm]at hn
    cases v<;>simp only[dC,iZ,ij x n p i a b _ hn.1 h,ij x n q i a b _ hn.2 h]
   |
    rc p =>
    have h0:Rl x (i+1) (.bd 0) (.bd 0):=.bd _ _ (by omega)
    cases v<;>simp only[dC,iZ]
    rename_i w
    rw[ij x n p (i+1) a.up b.up w hn h.up,ij x n p (i+1) (.bd 0) (.bd 0) w hn h0]
    congr 1
    apply jd
    intro k _
    have:=ij x n (.rc p) i a b k.2 hn h
    simp only[dC]at this
    rw[this]
   |
    bound k =>
    simp only[dC]
    by_cases e:k=i
    ·rw[if_pos e];cases v<;>rfl
    ·rw[if_neg e];cases v<;>rfl
   |name s=>rfl
   |zero=>rfl
   |one=>rfl
theorem oe(x:Nm){t:Ty}{i:Nat}{a b:Tg}(v:Vl)(hn:bn x t=false)(h:Rl x i a b):bM (dC (.name x) t i) a v=bM t b v:=ij x _ t i a b v hn h
theorem nf(n:Nat):∀(m:Nat) (v:Vl),v.nodes<=m->∀(t:Ty) (s:Nm) (d:Ty) (σ:Nm->Option Ty),Dv t s d->C8 σ->jG t 0->vT n v (eT σ t)=true->∀h,h∈bM t (.nm s) v ->
 vT n h.1 (eT σ d)=true/\vT n h.2 (eT σ (.name s))=true/\cB t h.1 h.2=v
 |0,v,hm=>by have:=dk v;omega
 |
  m+1,v,hm=>by
  intro t s d σ hd hσ hl hv h hh
  cases hd with
  |zero=>rw[dz rfl (by cases v<;>rfl)]at hh;cases hh
  |one=>rw[dz rfl (by cases v<;>rfl)]at hh;cases hh
  |bound=>rw[dz rfl (by cases v<;>rfl)]at hh;cases hh
  |qN hne=>rw[dz (by simp[dT,hne]) (by cases v<;>rfl)]at hh;cases hh
  |
   hit =>
   rw[kh v (by simp[dT])]at hh
   simp only[aQ]at hh
   subst hh
   exact⟨rfl,hv,jX _ _ _⟩
  |
   @plus a b _ a' b' h1 h2 _ =>
   rcases ju hv with⟨w,rfl,hw⟩|⟨w,rfl,hw⟩
   ·simp only[Vl.nodes]at hm
    rw[ji]at hh
    obtain⟨k,hk,rfl⟩:=da hh
    obtain⟨q1,q2,q3⟩:=nf n m w (by omega) _ s _ σ h1 hσ hl.1 hw k hk
    exact⟨q1,q2,congrArg Vl.l q3⟩
   ·simp only[Vl.nodes]at hm
    rw[jo]at hh
    obtain⟨k,hk,rfl⟩:=da hh
    obtain⟨q1,q2,q3⟩:=nf n m w (by omega) _ s _ σ h2 hσ hl.2 hw k hk
    exact⟨q1,q2,congrArg Vl.r q3⟩
  |
   @times a b _ a' b' h1 h2 _ =>
   obtain⟨x,y,rfl,hx,hy⟩:=gC hv
   simp only[Vl.nodes]at hm
   rw[gk]at hh
   rcases aN.1 hh with hh|hh
   ·obtain⟨k,hk,rfl⟩:=da hh
    obtain⟨q1,q2,q3⟩:=nf n m x (by omega) _ s _ σ h1 hσ hl.1 hx k hk
    refine⟨?_,q2,congrArg (fun q=>Vl.p q y) q3⟩
    show (vT n k.1 (eT σ a')&&vT n y (eT σ b))=true
    rw[q1,hy];rfl
   ·obtain⟨k,hk,rfl⟩:=da hh
    obtain⟨q1,q2,q3⟩:=nf n m y (by omega) _ s _ σ h2 hσ hl.2 hy k hk
    refine⟨?_,q2,congrArg (Vl.p x) q3⟩
    show (vT n x (eT σ a)&&vT n k.1 (eT σ b'))=true
    rw[q1,hx];rfl
  |
   @rc a _ c0 d0 x hx hs h1 h2 hsz =>
   have lo:jG (dC (.name x) a 0) 0:=gP x a hl
   obtain⟨X,e1,e2⟩:=pe (x:=x) hσ hl (h1.lc lo) (h2.lc lo)
   obtain⟨w,rfl,hw⟩:=BJ hv
   simp only[Vl.nodes]at hm
   have hcl:=me hσ x (j6 hσ (.rc a) hl)
   have hop:eT (iS σ x (eT σ (.rc a))) (dC (.name x) a 0)=dC (eT σ (.rc a)) (eT σ a) 0:=jM hσ x _ a 0 hx
   have hns:eT (iS σ x (eT σ (.rc a))) (.name s)=eT σ (.name s):=by simp only[eT,iS,if_neg (Ne.symm hs)]
   have hnx:eT (iS σ x (eT σ (.rc a))) (.name x)=eT σ (.rc a):=by simp[eT,iS]
   have hw':vT n w (eT (iS σ x (eT σ (.rc a))) (dC (.name x) a 0))=true:=by rw[hop];exact hw
   have ty:∀y,vT n y (dC (.rc X) X 0)=true->vT n (.f y) (eT σ (qg a x c0 d0))=true:=fun y hy=>by rw[e1];exact hy
   rw[gd]at hh
   rcases aN.1 hh with hh|hh
   ·obtain⟨k,hk,rfl⟩:=da hh
    have hk':k∈bM (dC (.name x) a 0) (.nm s) w:=by rw[oe x w hx (.kP 0 s (Ne.symm hs))];exact hk
    obtain⟨q1,q2,q3⟩:=nf n m w (by omega) _ s _ _ h1 hcl lo hw' k hk'
    rw[dO x k.1.nodes k.1 a 0 k.2 (au _)]at q3
    refine⟨ty _ ?_,by rw[<-hns];exact q2,congrArg Vl.f q3⟩
    rw[e2];exact q1
   ·obtain⟨k,hk,hh⟩:=List.mem_flatMap.1 hh
    obtain⟨k2,hk2,rfl⟩:=da hh
    have hk':k∈bM (dC (.name x) a 0) (.nm x) w:=by rw[oe x w hx (.nm 0)];exact hk
    obtain⟨q1,q2,q3⟩:=nf n m w (by omega) _ x _ _ h2 hcl lo hw' k hk'
    rw[dO x k.1.nodes k.1 a 0 k.2 (au _)]at q3
    rw[hnx]at q2
    have hsz2:=(ir hk).1
    obtain⟨r1,r2,r3⟩:=nf n m k.2 (by omega) (.rc a) s _ σ (.rc x hx hs h1 h2 hsz) hσ hl q2 k2 hk2
    refine⟨ty _ ?_,r2,?_⟩
    ·rw[e2]
     show (vT n k.1 _&&vT n k2.1 _)=true
     rw[q1,r1];rfl
    ·show Vl.f (cB a k.1 (cB (.rc a) k2.1 k2.2))=.f w
     rw[r3,q3]
theorem Dm{n:Nat}{a D:Ty}{x:Nm}(hx:bn x a=false)(hl:jG (.rc a) 0)(h:om a x=some D){v:Vl}(hv:vT n v (.rc a)=true){k:Hl}(hk:k∈kids a v) :
 vT n k.1 D=true/\vT n k.2 (.rc a)=true/\.f (cB a k.1 k.2)=v:=by
 simp only[om,bc,cT,eV]at h
 obtain⟨d,hd,_,rfl⟩:=h
 have lo:jG (dC (.name x) a 0) 0:=gP x a hl
 have hcl:=me sc x hl
 have e1:sub x (.rc a) d=eT (iS DZ x (.rc a)) d:=by
  have:=iv DZ x (.rc a) d
  rw[iR,iR]at this;exact this
 obtain⟨w,rfl,hw⟩:=BJ hv
 have hk':k∈bM (dC (.name x) a 0) (.nm x) w:=by rw[oe x w hx (.nm 0)];exact hk
 have hop:eT (iS DZ x (.rc a)) (dC (.name x) a 0)=dC (.rc a) a 0:=by rw[jM sc x _ a 0 hx,iR]
 obtain⟨q1,q2,q3⟩:=nf n w.nodes w (au _) _ x _ _ hd hcl lo (by rw[hop];exact hw) k hk'
 rw[dO x k.1.nodes k.1 a 0 k.2 (au _)]at q3
 refine⟨by rw[e1];exact q1,?_,congrArg Vl.f q3⟩
 simpa[eT,iS]using q2
theorem gR:∀{t:Ty},cd t=true->∃y,bn y t=true/\dr y=true
 | .name s,h=>⟨s,by simp[bn],h⟩
 |
  .plus a b,h=>by
  simp only[cd,bC]at h
  rcases h with h|h
  ·obtain⟨y,h1,h2⟩:=gR h;exact⟨y,by simp[bn,h1],h2⟩
  ·obtain⟨y,h1,h2⟩:=gR h;exact⟨y,by simp[bn,h1],h2⟩
 |
  .times a b,h=>by
  simp only[cd,bC]at h
  rcases h with h|h
  ·obtain⟨y,h1,h2⟩:=gR h;exact⟨y,by simp[bn,h1],h2⟩
  ·obtain⟨y,h1,h2⟩:=gR h;exact⟨y,by simp[bn,h1],h2⟩
 |
  .rc a,h=>by
  obtain⟨y,h1,h2⟩:=gR (t:=a) h;exact⟨y,by simp[bn,h1],h2⟩
theorem hJ:∀{t:Ty} {y:Nm},bn y t=true->dr y=true->cd t=true
 |
  .name s,y,h,hl=>by
  have:s=y:=by simpa[bn]using h
  rw[this];exact hl
 |
  .plus a b,y,h,hl=>by
  simp only[bn,bC]at h
  simp only[cd,bC]
  exact h.imp (hJ · hl) (hJ · hl)
 |
  .times a b,y,h,hl=>by
  simp only[bn,bC]at h
  simp only[cd,bC]
  exact h.imp (hJ · hl) (hJ · hl)
 | .rc a,y,h,hl=>hJ (t:=a) h hl
 | .zero,y,h,_=>by simp[bn]at h
 | .one,y,h,_=>by simp[bn]at h
 | .bound k,y,h,_=>by simp[bn]at h
theorem ZT.Tz{s d:Nm}{a:Ty}{x A B:E}{D:Ty}(z:ZT s d a x A B D):∃e,jL d=some e/\Ask e [] D:=by
 have hcl:cd D=false:=by
  cases q:cd D with
  |false=>rfl
  |
   true =>
   obtain⟨y,h1,h2⟩:=gR q
   have:=hJ (t:=.rc a) (tQ z.lp y h1) h2
   rw[z.ask.cl]at this;cases this
 have hc:xu d=some D:=by unfold xu;rw[z.bk];simp only;rw[if_pos (by rw[tC,hcl];rfl)]
 cases q:jL d with
 |none=>rw[nk q]at hc;cases hc
 |
  some e =>
  obtain⟨t,h1,hA,_⟩:=hD q
  rw[hc]at h1;cases h1
  exact⟨e,rfl,hA⟩
theorem ZT.QU{s d:Nm}{a:Ty}{x A B:E}{D:Ty}(z:ZT s d a x A B D){w:Vl}(hb:w.il 100)(hv:vT 100 w D=true):nI d w.cL 100=if w.nodes<=200 then some w else none:=by
 obtain⟨e,he,hA⟩:=z.Tz
 unfold nI
 rw[he]
 by_cases hn:w.nodes<=200
 ·rw[ri hb hn,if_pos hn]
  simp only
  rw[if_pos ⟨by omega,by rw[show (100:Int).toNat=100 from rfl,nu hA];exact hv⟩]
 ·rw[if_neg hn]
  cases q:sK w.cL with
  |none=>rfl
  |
   some w' =>
   exfalso
   obtain⟨_,h2,h3⟩:=mj q
   have:=uT hb h2 (rj q)
   rw[this]at hn;exact hn h3
theorem ZT.RF{s d:Nm}{a:Ty}{x A B:E}{D:Ty}(z:ZT s d a x A B D){v:Vl}(hv:Fo a v){k:Hl}(hk:k∈kids a v):vT 100 k.1 D=true/\Fo a k.2/\.f (cB a k.1 k.2)=v:=by
 obtain⟨e2,he2,hw2,hte2,_,_⟩:=og z.y
 have hlc:jG (.rc a) 0:=hte2 ▸ hw2.qG.1
 obtain⟨q1,q2,q3⟩:=Dm (uw z.y) hlc z.lp hv.ty hk
 have:=zc hk
 have:=hv.nd
 exact⟨q1,⟨q2,(j3 hv.il hk).2,by omega⟩,q3⟩
def yq(a:Ty)(l:List Vl)(v:Vl)(k:Int):Option (List Vl×Vl) :=
 if l.length=50 then none else if 0<=k/\k.toNat<(kids a v).length then
  (if((kids a v).getD k.toNat (.u,.u)).1.nodes<=200 then some (l++[((kids a v).getD k.toNat (.u,.u)).1],((kids a v).getD k.toNat (.u,.u)).2)else none)else none
theorem wL{a:Ty}{l:List Vl}{c e v:Vl}(h:.f (cB a c e)=v)(hn:v.nodes<=200):qP a (l++[c]) e=some (l,v)/\tF a (l++[c]) e=tF a l v:=by
 have hu:qP a (l++[c]) e=some (l,v):=by
  unfold qP
  rw[List.getLast?_concat]
  simp only
  rw[h,if_pos hn,List.dropLast_concat]
 refine⟨hu,?_⟩
 unfold tF
 rw[aq,List.length_singleton,iO,hu]
 rfl
theorem Ad{s d:Nm}{l:List Vl}{v:Vl}(hs:St s d (zA s) l v)(hd:cO s=some d)(hv:gq s (l.map (·.cL)) v.cL=some (l,v)){k:Hl}(hk:k∈kids (zA s) v) :
 gq s (l.map (·.cL)++[k.1.cL]) k.2.cL=if l.length=50 then none else if k.1.nodes<=200 then some (l++[k.1],k.2)else none:=by
 obtain⟨x,A,B,D,z⟩:=hs.z
 obtain⟨t1,t2,t3⟩:=z.RF hs.i.qW hk
 have hb:=(j3 hs.i.qW.il hk).1
 have hz:=(gS hv).1
 have hclo:=(gS hv).2
 have hlen:=hs.len
 have hlp:eI d (l.map (·.cL))=some l:=by
  rw[xf,hd]at hz
  simp only[a8,z.l]at hz
  obtain⟨_,h1,h2⟩:=bc.1 hz
  split at h2
  ·obtain⟨l',h3,h4⟩:=Option.map_eq_some_iff.1 h2
   cases h4;exact h3
  ·cases h2
 have e1:nI s k.2.cL 100=some k.2:=by rw[z.cL t2.il t2.ty,if_pos t2.nd]
 unfold gq
 rw[xf,hd]
 simp only[a8,z.l,e1,s3,hlp,eI,z.QU hb t1,aq,ck,List.length_singleton]
 by_cases h50:l.length=50
 ·rw[if_neg (by omega),if_pos h50];rfl
 ·rw[if_pos (by omega),if_neg h50]
  by_cases hn:k.1.nodes<=200
  ·rw[if_pos hn,if_pos hn]
   simp only[cD,a8,(wL (l:=l) t3 hs.i.qW.nd).2]
   rw[if_pos hclo]
  ·rw[if_neg hn,if_neg hn];rfl
end Go.Proofs.Trees
namespace Go.Proofs.Trees
open Go Go.VL Go.RowKit
def Pn(s:Nm)(o:Option (List Vl×Vl)):AV->List Ob->Prop:=fun r obs=>obs=[]/\∃pa,cw pa (tZ s o).2.1/\r=.cI [.agg [.v (.string (mk (tZ s o).1)),pa,.v (.string (mk (tZ s o).2.2))],.v (.bool o.isSome)]
theorem xp(s:Nm){o:Option (List Vl×Vl)}(h:GZ o):(tZ s o).2.1.length<=51:=by
 cases o with
 |none=>simp
 |some r=>obtain⟨_,_,h3⟩:=h r rfl;simpa using h3
theorem Pn.ne(s:Nm)(o:Option (List Vl×Vl)):∃r ob,Pn s o r ob:=⟨_,[],rfl,_,cw.of _,rfl⟩
theorem Pn.none(s:Nm):Pn s none (.cI [.agg [.v (.string (mk [])),.v (.slice none 0 0),.v (.string (mk []))],.v (.bool false)]) []:=⟨rfl,_,cw.nil,rfl⟩
theorem nn{s:Nm}{p:List Nm}{f:Nm}{l:List Vl}{v:Vl}(h:gq s p f=some (l,v)):∃d,St s d (zA s) l v/\p=l.map (·.cL)/\f=v.cL:=xW (gS h).1
abbrev Q4(s:Nm)(o:Option (List Vl×Vl)):AV->List Ob->Prop:=di (.cI [.agg [.v (.string (mk (tZ s o).1)),.vec 1,.v (.string (mk (tZ s o).2.2))],.v (.bool o.isSome)]) [.dead,.vec 1 (bG (tZ s o).2.1)]
theorem Gg(s:Nm)(p:List Nm)(f:Nm):an Tryz.prog 41 [.agg [.v (.string (mk s)),.vec 0,.v (.string (mk f))]] [.vec 1 (bG p)] (Q4 s (gq s p f)):=by
 refine QI _ _ _ ?_
 unfold OG
 refine aj (Er s _ p (cw.of p) f) ?_
 simp only[↓zq,zs,ae]
 cases q:gq s p f with
 |none=>simp only[bw];exact⟨fun _=>⟨rfl,rfl⟩,fun h=>by simp at h⟩
 |
  some r =>
  obtain⟨_,_,rfl,rfl⟩:=nn (l:=r.1) (v:=r.2) q
  simp only[aX]
  exact⟨fun h=>by simp at h,fun _=>⟨rfl,rfl⟩⟩
theorem Ca(s f:Nm):gq s [] f=wB s [] f:=by
 unfold gq
 cases q:wB s [] f with
 |none=>rfl
 |
  some r =>
  obtain⟨l,v⟩:=r
  obtain⟨_,_,h,_⟩:=xW q
  have:l=[]:=List.map_eq_nil_iff.1 h.symm
  subst this
  rfl
theorem P4(s f:Nm):an Tryz.prog 54 [.v (.string (mk s)),.v (.string (mk f))] [] (D0 s (wB s [] f)):=by
 refine PY _ _ ?_
 unfold NC
 rw[<-Ca]
 refine aV (Gg s [] f) ?_
 simp only[↓zq,zs,ae,zt,aI,Ob.es,aL,bq]
 exact⟨rfl,rfl⟩
theorem RO(s:Nm)(pa:AV)(p:List Nm)(hp:cw pa p)(f g:Nm):an Tryz.prog 15 [.agg [.v (.string (mk s)),pa,.v (.string (mk f))],.v (.string (mk g))] [] (D0 s (pw s p f g)):=by
 refine RV _ _ _ _ hp.1 ?_
 unfold Pj
 refine aj (Er s pa p hp f) ?_
 simp only[↓zq,zs,ae]
 unfold pw
 cases q:gq s p f with
 |none=>simp only[bw];exact⟨fun _=>⟨rfl,rfl⟩,fun h=>by simp at h⟩
 |
  some r =>
  obtain⟨l,v⟩:=r
  obtain⟨d,hs,rfl,_⟩:=nn q
  have hl:=hs.len
  simp only[aX,a8]
  refine⟨fun h=>by simp at h,fun _=>?_⟩
  refine⟨⟨hp.1,fun y hy=>?_,?_⟩,?_⟩
  ·rw[hp.2]at hy
   obtain⟨t,_,rfl⟩:=bO.1 hy
   rfl
  ·rw[hp.len,ck];simp;omega
  rw[aS,hp.2]
  refine aV (Gg s _ g) ?_
  simp only[↓zq,zs,ae,zt,aI,Ob.es,aL,bq]
  exact⟨rfl,rfl⟩
def lV(l:List Hl):List (List AV):=l.map fun h=>[.v (.string (mk h.1.cL)),.v (.string (mk h.2.cL))]
theorem lR(l:List Hl):(lV l).length=l.length:=by simp[lV]
end Go.Proofs.Trees
