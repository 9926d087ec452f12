/-
  Part of a proof: Go functions read by values, trees of functions, their contracts.
-/
import Derived.Test.YthcjhageibaepaaGreatDoorP5
set_option linter.unusedVariables false
set_option linter.unusedSimpArgs false
open And renaming intro→aH
open Bool renaming and_eq_true→aw,eq_iff_iff→cx,or_eq_false_iff→cg,or_eq_true→bC,true_and→bX
open ByteArray renaming toList→af
open Int renaming tmod→dF,toNat_natCast→bG
open List renaming all_cons→cZ,all_eq_true→bY,append_assoc→a8,append_nil→cX,cons_append→bc,drop_eq_getElem_cons→aS,drop_zero→bb,eq_nil_of_length_eq_zero→bH,getD_cons_zero→bq,getD_eq_getElem?_getD→aa,getElem?_eq_getElem→bp,getElem_mem→bD,headD_cons→aO,length_append→aq,length_cons→az,length_map→cu,length_nil→aG,map_cons→bE,mem_append→aN,mem_append_left→aD,mem_append_right→aB,mem_cons→aJ,mem_cons_of_mem→al,mem_cons_self→ak,mem_map→bO,mem_singleton→aQ,nil_append→aU,tail_cons→bx
open Nat renaming le_add_right→da,le_refl→au,mul_add→cT,mul_le_mul_right→a6,mul_one→dG,zero_add→aW,zero_le→dO
open Option renaming bind_eq_some_iff→bh,bind_none→bJ,bind_some→a7,getD_some→cD,isSome_iff_exists→bU,isSome_none→bA,isSome_some→aZ,map_some→ct
open UInt8 renaming ofNat→bj
namespace Go.Proofs.Trees
open Go Go.VL Go.RowKit
def rB:Option (List UInt8)->AV
 |some s=>.cH [.v (.string (mk s)),.v (.bool true)]
 |none=>.cH [.v (.string (mk [])),.v (.bool false)]
end Go.Proofs.Trees
namespace Go.Proofs.Trees
open Go Go.VL Go.RowKit
def back(n:Nat):Ty->Nat->Vl
 | .name _,c=>.el c
 | .plus a b,c=>match IW n a with|some x=>if c<x then .l (back n a c)else .r (back n b (c-x))|none=>.u
 | .times a b,c=>match IW n b with|some y=>.p (back n a (c/y)) (back n b (c%y))|none=>.u
 |_,_=>.u
theorem zl:∀l:List E,cC 2 (E.bu l)
 |[]=>fun c hc=>by cases hc
 |
  e::l=>fun c hc=>by
  simp only[E.bu,aJ]at hc
  rcases hc with rfl|hc
  ·exact gl e
  ·exact zl l c hc
theorem I1(w:List UInt8)(l:List E)(hl:l.length<1000000):an Tryz.prog 81 [.v (.string (mk w)),.sl (E.bu l)] [] (bK (E.kF (.list (.atom w::l)))):=by
 refine JJ _ _ ((cf _).mpr trivial) ?_
 simp only[F2,↓zq,zs,ae,dY,bK,E.kF,E.iv,E.bu]
 exact⟨⟨zl l,by omega⟩,rfl⟩
end Go.Proofs.Trees
namespace Go.Proofs.Trees
open Go Go.VL Go.RowKit
def l9(l:List Hl):List (List AV):=l.map fun h=>[.v (.string (mk h.1.cL.at)),h.1.cL.sp,.v (.string (mk h.2.cL.at)),h.2.cL.sp]
theorem fB(l:List Hl):(l9 l).length=l.length:=by simp[l9]
theorem gC{l:List Hl}{i:Nat}(hi:i<l.length):(l9 l).getD i []=[.v (.string (mk (l[i]).1.cL.at)),(l[i]).1.cL.sp,.v (.string (mk (l[i]).2.cL.at)),(l[i]).2.cL.sp]:=by simp[l9,aa,hi]
theorem oj(out:List Hl)(a b:Vl):l9 out++[[.v (.string (mk a.cL.at)),a.cL.sp,.v (.string (mk b.cL.at)),b.cL.sp]]=l9 (out++[(a,b)]):=by simp[l9]
theorem zO(a b c d:AV):cC 4 [[a,b,c,d]]:=fun x hx=>by simp at hx;rw[hx];rfl
theorem aL(s:ByteArray)(e:E):bI [.str,.sl] [.v (.string s),e.sp] 0=True:=by simp[bI,dV,aX]
theorem kM(s:ByteArray)(e:E)(x y:AV):bI [.str,.sl] [.v (.string s),e.sp,x,y] 0=True:=by simp[bI,dV,aX]
theorem xu(w:List UInt8)(e:E):an Tryz.prog 81 [.v (.string (mk w)),.sl [[.v (.string (mk e.at)),e.sp]]] [] (bK (.agg [.v (.string (mk [])),(E.list [.atom w,e]).sp])):=by
 have:=I1 w [e] (by simp)
 simpa only[E.bu,fN,dm,E.at]using this
theorem wK(w:List UInt8)(e e':E):an Tryz.prog 81 [.v (.string (mk w)),.sl [[.v (.string (mk e.at)),e.sp],[.v (.string (mk e'.at)),e'.sp]]] [] (bK (.agg [.v (.string (mk [])),(E.list [.atom w,e,e']).sp])):=by
 have:=I1 w [e,e'] (by simp)
 simpa only[E.bu,fN,dm,E.at]using this
def P3(pv:AV)(a b:E):Prop:=LK.sl.has pv/\pv.elems.length=3/\pv.elems.getD 1 []=[.v (.string (mk a.at)),a.sp]/\pv.elems.getD 2 []=[.v (.string (mk b.at)),b.sp]
theorem P3.of(x a b:E):P3 (E.list [x,a,b]).sp a b:=⟨by simp[E.sp,cf],by simp[E.sp,E.bu,fk],by simp[E.sp,E.bu,fk,fN],by simp[E.sp,E.bu,fk,fN]⟩
def P2(pv:AV)(a:E):Prop:=LK.sl.has pv/\pv.elems.length=2/\pv.elems.getD 1 []=[.v (.string (mk a.at)),a.sp]
theorem P2.of(x a:E):P2 (E.list [x,a]).sp a:=⟨by simp[E.sp,cf],by simp[E.sp,E.bu,fk],by simp[E.sp,E.bu,fk,fN]⟩
theorem Ou(w:List UInt8)(g:Vl->Vl)(hg:∀c,(g c).cL=.list [.atom w,c.cL])(l:List Hl)(hl:l.length<=1000000):∀(k i:Nat) (out:List Hl),i+k=l.length->out.length+k<=1000000 ->
 FO [.sl (l9 l),.v (.string (mk w)),.v (.int .i64 (i:Int))] [.vec 4 (l9 out)] (gI 1 [] [.vec 4 (l9 (out++iI g (l.drop i)))])
 |
  0,i,out,hi,ho=>by
  refine Nn _ _ _ _ ?_
  have:i=l.length:=by omega
  subst this
  simp only[Fk,↓zq,zs,ae,fB]
  exact⟨fun h=>by omega,fun _=>by simp[gI,iI]⟩
 |
  k+1,i,out,hi,ho=>by
  have hlt:i<l.length:=by omega
  refine Nn _ _ _ _ ?_
  simp only[Fk,↓zq,zs,ae,zt,fB,gC hlt,kM,aL]
  refine⟨fun _=>?_,fun h=>by omega⟩
  repeat refine⟨by omega,?_⟩
  refine aj (xu _ _) ?_
  simp only[↓zq,zs,ae,aL]
  repeat refine⟨by omega,?_⟩
  refine⟨⟨zO _ _ _ _,by omega⟩,?_⟩
  rw[bz i (by omega)]
  have:=Ou w g hg l hl k (i+1) (out++[(g (l[i]).1,(l[i]).2)]) (by omega) (by simp;omega)
  rw[a8,<-oj,hg]at this
  rw[gr g l hlt]
  exact this
theorem NY(w:List UInt8)(g:Vl->Vl)(hg:∀c,(g c).cL=.list [.atom w,c.cL])(l out:List Hl)(hl:out.length+l.length<=1000000) :
 an Tryz.prog 105 [.sl (l9 l),.v (.string (mk w)),.vec 0] [.vec 4 (l9 out)] (df (.vec 1) [.dead,.vec 4 (l9 (out++iI g l))]):=by
 refine QA _ _ _ ((cf _).mpr trivial) ?_
 simp only[Mp,↓zq,zs,ae]
 have h:=Ou w g hg l (by omega) l.length 0 out (by omega) (by omega)
 rw[bb]at h
 refine cz h ?_
 simp[↓zq,zs,ae,df]
theorem La(s:List UInt8)(ta:ByteArray)(tp:AV)(ht:LK.sl.has tp)(va:ByteArray)(vp:AV)(x y:Vl)(hp:P3 vp x.cL y.cL)(l:List Hl)(hl:l.length<=1000000):∀(k i:Nat) (out:List Hl),i+k=l.length->out.length+k<=1000000 ->
 F5 [.v (.string (mk s)),.sl (l9 l),.v (.int .i64 (i:Int))] [.cells [.v (.string ta),tp],.cells [.v (.string va),vp],.vec 4 (l9 out)] (gI 1 [.v (.string (mk s))] [.cells [.v (.string ta),tp],.cells [.v (.string va),vp],.vec 4 (l9 (out++iI (fun c=>Vl.l (.p c y)) (l.drop i)))])
 |
  0,i,out,hi,ho=>by
  refine LH _ _ _ _ _ _ _ _ ?_
  have:i=l.length:=by omega
  subst this
  simp only[HW,↓zq,zs,ae,fB,ht,aX,ae,hp.1]
  exact⟨fun h=>by omega,fun _=>by simp[gI,iI]⟩
 |
  k+1,i,out,hi,ho=>by
  have hlt:i<l.length:=by omega
  refine LH _ _ _ _ _ _ _ _ ?_
  simp only[HW,↓zq,zs,ae,zt,fB,gC hlt,kM,aL,gC,ht,aX,ae,hp.1,toNat_one,bg,hp.1,hp.2.1,hp.2.2.1,hp.2.2.2]
  refine⟨fun _=>?_,fun h=>by omega⟩
  repeat refine⟨by omega,?_⟩
  refine aj (wK _ _ _) ?_
  simp only[↓zq,zs,ae,aL]
  repeat refine⟨by omega,?_⟩
  refine aj (xu [108] (E.list [.atom [112],(l[i]).1.cL,y.cL])) ?_
  simp only[↓zq,zs,ae,aL]
  repeat refine⟨by omega,?_⟩
  refine⟨⟨zO _ _ _ _,by omega⟩,?_⟩
  rw[bz i (by omega)]
  have:=La s ta tp ht va vp x y hp l hl k (i+1) (out++[((fun c=>Vl.l (.p c y)) (l[i]).1,(l[i]).2)]) (by omega) (by simp;omega)
  rw[a8,<-oj]at this
  rw[gr (fun c=>Vl.l (.p c y)) l hlt]
  exact this
theorem Jz(va:ByteArray)(vp:AV)(x y:Vl)(hp:P3 vp x.cL y.cL)(l:List Hl)(hl:l.length<=1000000):∀(k i:Nat) (out:List Hl),i+k=l.length->out.length+k<=1000000 ->
 IQ [.sl (l9 l),.v (.int .i64 (i:Int))] [.cells [.v (.string va),vp],.vec 4 (l9 out)] (gI 1 [] [.vec 4 (l9 (out++iI (fun c=>Vl.r (.p x c)) (l.drop i)))])
 |
  0,i,out,hi,ho=>by
  refine O6 _ _ _ _ _ ?_
  have:i=l.length:=by omega
  subst this
  simp only[G0,↓zq,zs,ae,fB,aX,ae,hp.1]
  exact⟨fun h=>by omega,fun _=>by simp[gI,iI]⟩
 |
  k+1,i,out,hi,ho=>by
  have hlt:i<l.length:=by omega
  refine O6 _ _ _ _ _ ?_
  simp only[G0,↓zq,zs,ae,zt,fB,gC hlt,kM,aL,gC,aX,ae,hp.1,toNat_one,bg,hp.1,hp.2.1,hp.2.2.1,hp.2.2.2]
  refine⟨fun _=>?_,fun h=>by omega⟩
  repeat refine⟨by omega,?_⟩
  refine aj (wK _ _ _) ?_
  simp only[↓zq,zs,ae,aL]
  repeat refine⟨by omega,?_⟩
  refine aj (xu [114] (E.list [.atom [112],x.cL,(l[i]).1.cL])) ?_
  simp only[↓zq,zs,ae,aL]
  repeat refine⟨by omega,?_⟩
  refine⟨⟨zO _ _ _ _,by omega⟩,?_⟩
  rw[bz i (by omega)]
  have:=Jz va vp x y hp l hl k (i+1) (out++[((fun c=>Vl.r (.p x c)) (l[i]).1,(l[i]).2)]) (by omega) (by simp;omega)
  rw[a8,<-oj]at this
  rw[gr (fun c=>Vl.r (.p x c)) l hlt]
  exact this
theorem Mv(s s2:List UInt8)(ta:ByteArray)(tp:AV)(ht:LK.sl.has tp)(va:ByteArray)(vp:AV)(hp:LK.sl.has vp)(l:List Hl)(hl:l.length<=1000000):∀(k i:Nat) (out:List Hl),i+k=l.length->out.length+k<=1000000 ->
 Fj [.v (.string (mk s)),.v (.string (mk s2)),.sl (l9 l),.v (.int .i64 (i:Int))] [.cells [.v (.string ta),tp],.cells [.v (.string va),vp],.vec 4 (l9 out)] (gI 1 [.v (.string (mk s)),.v (.string (mk s2))] [.cells [.v (.string ta),tp],.cells [.v (.string va),vp],.vec 4 (l9 (out++iI (fun c=>Vl.f (.l c)) (l.drop i)))])
 |
  0,i,out,hi,ho=>by
  refine Oc _ _ _ _ _ _ _ _ _ ?_
  have:i=l.length:=by omega
  subst this
  simp only[HD,↓zq,zs,ae,fB,ht,aX,ae,hp]
  exact⟨fun h=>by omega,fun _=>by simp[gI,iI]⟩
 |
  k+1,i,out,hi,ho=>by
  have hlt:i<l.length:=by omega
  refine Oc _ _ _ _ _ _ _ _ _ ?_
  simp only[HD,↓zq,zs,ae,zt,fB,gC hlt,kM,aL,gC,ht,aX,ae,hp]
  refine⟨fun _=>?_,fun h=>by omega⟩
  repeat refine⟨by omega,?_⟩
  refine aj (xu _ _) ?_
  simp only[↓zq,zs,ae,aL]
  repeat refine⟨by omega,?_⟩
  refine aj (xu [102] (E.list [.atom [108],(l[i]).1.cL])) ?_
  simp only[↓zq,zs,ae,aL]
  repeat refine⟨by omega,?_⟩
  refine⟨⟨zO _ _ _ _,by omega⟩,?_⟩
  rw[bz i (by omega)]
  have:=Mv s s2 ta tp ht va vp hp l hl k (i+1) (out++[((fun c=>Vl.f (.l c)) (l[i]).1,(l[i]).2)]) (by omega) (by simp;omega)
  rw[a8,<-oj]at this
  rw[gr (fun c=>Vl.f (.l c)) l hlt]
  exact this
theorem KS(s:List UInt8)(L:AV)(q:Nat)(kc:Vl)(kv:Vl)(hL:LK.sl.has L)(hq:q<L.elems.length)(hg:L.elems.getD q []=[.v (.string (mk kc.cL.at)),kc.cL.sp,.v (.string (mk kv.cL.at)),kv.cL.sp])(ta:ByteArray)(tp:AV)(ht:LK.sl.has tp)(l:List Hl)(hl:l.length<=1000000):∀(k i:Nat) (out:List Hl),i+k=l.length->out.length+k<=1000000 ->
 Ih [.v (.string (mk s)),L,.v (.int .i64 (q:Int)),.sl (l9 l),.v (.int .i64 (i:Int))] [.cells [.v (.string ta),tp],.vec 4 (l9 out)] (gI 1 [.v (.string (mk s)),L,.v (.int .i64 (q:Int))] [.cells [.v (.string ta),tp],.vec 4 (l9 (out++iI (fun c=>Vl.f (.r (.p kc c))) (l.drop i)))])
 |
  0,i,out,hi,ho=>by
  refine Mo _ _ _ _ _ _ _ _ ?_
  have:i=l.length:=by omega
  subst this
  simp only[F4,↓zq,zs,ae,fB,ht,aX,ae,hL]
  exact⟨fun h=>by omega,fun _=>by simp[gI,iI]⟩
 |
  k+1,i,out,hi,ho=>by
  have hlt:i<l.length:=by omega
  refine Mo _ _ _ _ _ _ _ _ ?_
  simp only[F4,↓zq,zs,ae,zt,fB,gC hlt,kM,aL,gC,ht,aX,ae,hL,hg]
  refine⟨fun _=>?_,fun h=>by omega⟩
  repeat refine⟨by omega,?_⟩
  refine aj (wK _ _ _) ?_
  simp only[↓zq,zs,ae,aL]
  repeat refine⟨by omega,?_⟩
  refine aj (xu [114] (E.list [.atom [112],kc.cL,(l[i]).1.cL])) ?_
  simp only[↓zq,zs,ae,aL]
  repeat refine⟨by omega,?_⟩
  refine aj (xu [102] (E.list [.atom [114],E.list [.atom [112],kc.cL,(l[i]).1.cL]])) ?_
  simp only[↓zq,zs,ae,aL]
  repeat refine⟨by omega,?_⟩
  refine⟨⟨zO _ _ _ _,by omega⟩,?_⟩
  rw[bz i (by omega)]
  have:=KS s L q kc kv hL hq hg ta tp ht l hl k (i+1) (out++[((fun c=>Vl.f (.r (.p kc c))) (l[i]).1,(l[i]).2)]) (by omega) (by simp;omega)
  rw[a8,<-oj]at this
  rw[gr (fun c=>Vl.f (.r (.p kc c))) l hlt]
  exact this
theorem Md(s:List UInt8)(te:E)(a:Ty)(tg:Tg)(l:List Hl)(hl:l.length<=1000000)(ih:∀h,h∈l->an Tryz.prog 74 [.agg [.v (.string (mk te.at)),te.sp],.v (.string (mk s)),.agg [.v (.string (mk h.2.cL.at)),h.2.cL.sp]] [] (bK (.sl (l9 (ck (.rc a) tg h.2))))) :
 ∀(k i:Nat) (out:List Hl),i+k=l.length->(out++(l.drop i).flatMap (Aw a tg)).length<=1000000 ->
 FD [.v (.string (mk s)),.sl (l9 l),.v (.int .i64 (i:Int))] [.cells [.v (.string (mk te.at)),te.sp],.vec 4 (l9 out)] (gI 1 [] [.vec 4 (l9 (out++(l.drop i).flatMap (Aw a tg)))])
 |
  0,i,out,hi,ho=>by
  refine OZ _ _ _ _ _ _ ?_
  have:i=l.length:=by omega
  subst this
  simp only[Fp,↓zq,zs,ae,fB,aX,ae]
  exact⟨fun h=>by omega,fun _=>by simp[gI]⟩
 |
  k+1,i,out,hi,ho=>by
  have hlt:i<l.length:=by omega
  have hd:(l.drop i).flatMap (Aw a tg)=Aw a tg (l[i])++(l.drop (i+1)).flatMap (Aw a tg):=by rw[aS hlt,List.flatMap_cons]
  rw[hd]at ho |-
  refine OZ _ _ _ _ _ _ ?_
  simp only[Fp,↓zq,zs,ae,zt,fB,gC hlt,kM,aL,aX,ae]
  refine⟨fun _=>?_,fun h=>by omega⟩
  repeat refine⟨by omega,?_⟩
  refine aj (ih _ (A3 l hlt)) ?_
  simp only[↓zq,zs,ae]
  have hb:out.length+(ck (.rc a) tg (l[i]).2).length<=1000000:=by
   simp only[aq,fQ]at ho;omega
  have h5:=KS s (.sl (l9 l)) i (l[i]).1 (l[i]).2 ((cf _).mpr trivial) (by rw[fk,fB];omega) (by rw[fk,gC hlt]) (mk te.at) te.sp ((aX _).mpr trivial) (ck (.rc a) tg (l[i]).2) (by omega) (ck (.rc a) tg (l[i]).2).length 0 out (by omega) (by omega)
  rw[bb]at h5
  refine cz h5 ?_
  simp only[↓zq,zs,ae,aX,ae]
  repeat refine⟨by omega,?_⟩
  rw[bz i (by omega),<-a8]
  exact Md s te a tg l hl ih k (i+1) _ (by omega) (by rw[a8];exact ho)
end Go.Proofs.Trees
namespace Go.Proofs.Trees
open Go Go.VL Go.RowKit
def kids(a:Ty):Vl->List Hl
 | .f w=>ck a (.bd 0) w
 |_=>[]
theorem nh(a:Ty)(v:Vl):kU (kids a v)+1<=v.nodes:=by
 cases v with
 |f w=>have:=rT a (.bd 0) w;simp only[kids,Vl.nodes];omega
 |_=>simp only[kids,kU,Vl.nodes,List.map_nil,List.sum_nil];omega
theorem xM{a:Ty}{v:Vl}{h:Hl}(hh:h∈kids a v):h.2.nodes<v.nodes:=by
 cases v with
 |f w=>have:=(iD hh).1;simp only[Vl.nodes];omega
 |_=>cases hh
theorem kO{n:Nat}{a:Ty}{v:Vl}{h:Hl}(hv:v.hZ n)(hh:h∈kids a v):h.1.hZ n/\h.2.hZ n:=by
 cases v with
 |f w=>exact gO n _ _ _ w h hv hh
 |_=>cases hh
end Go.Proofs.Trees
namespace Go.Proofs.Trees
open Go Go.VL
mutual
def E.pr:E->Prop
 | .atom s=>s≠[]/\s.all ff=true
 | .list l=>l≠[]/\E.Cf l
def E.Cf:List E->Prop
 |[]=>True
 |e::l=>e.pr/\E.Cf l
end
mutual
def E.dp:E->Nat
 | .atom _=>0
 | .list l=>1+E.uX l
def E.uX:List E->Nat
 |[]=>0
 |e::l=>max e.dp (E.uX l)
end
def JP(r:List UInt8):Prop:=∀c t,r=c::t->ff c=false
theorem ui:JP []:=by intro c t h;cases h
theorem Cd{s r:List UInt8}(hs:s.all ff=true)(hr:JP r):(s++r).takeWhile ff=s/\(s++r).dropWhile ff=r:=by
 induction s with
 |
  nil =>
  cases r with
  |nil=>exact⟨rfl,rfl⟩
  |cons c t=>have:=hr c t rfl;simp[List.takeWhile,List.dropWhile,this]
 |
  cons c s ih =>
  simp only[cZ,aw]at hs
  have:=ih hs.2
  simp[List.takeWhile,List.dropWhile,hs.1,this.1,this.2]
theorem vR(l:List E)(r:List UInt8):JP (eh l++41::r):=by
 intro c t h
 cases l with
 |nil=>simp only[eh,aU,List.cons.injEq]at h;rw[<-h.1];decide
 |cons e l=>simp only[eh,bc,List.cons.injEq]at h;rw[<-h.1];decide
theorem AJ{f:List UInt8->Option (E×List UInt8)}(r:List UInt8):∀(l:List E) (e:E) (acc:List E) (n:Nat),l.length<n->(∀x,x=e\/x∈l->∀r,JP r->f (fe x++r)=some (x,r)) ->
 sw f n (fe e++(eh l++41::r)) acc=some (.list (acc++e::l),r)
 |l,e,acc,0,hn,hf=>by omega
 |
  [],e,acc,n+1,hn,hf=>by
  simp only[sw]
  rw[hf e (.inl rfl) _ (vR [] r)]
  simp[eh]
 |
  x::l,e,acc,n+1,hn,hf=>by
  simp only[sw]
  rw[hf e (.inl rfl) _ (vR (x::l) r)]
  simp only[az]at hn
  have ih:=AJ r l x (acc++[e]) n (by omega) (fun y hy=>hf y (.inr (by cases hy with|inl h=>rw[h];exact ak|inr h=>exact al _ h)))
  simp only[a8,bc,aU]at ih
  simp only[eh,bc,a8]
  simp[ih]
theorem D6{l:List E}{k:Nat}:E.Cf l->E.uX l<=k->∀x,x∈l->x.pr/\x.dp<=k:=by
 induction l with
 |nil=>intro _ _ x h;cases h
 |
  cons e l ih =>
  intro h hd x hx
  simp only[E.Cf,E.uX]at h hd
  cases hx with
  |head=>exact⟨h.1,by omega⟩
  |tail _ hx=>exact ih h.2 (by omega) x hx
theorem zh:∀(k:Nat) (e:E) (r:List UInt8),e.pr->e.dp<=k->JP r->rd k (fe e++r)=some (e,r)
 |
  0,.atom s,r,hp,hd,hr=>by
  have h:=Cd hp.2 hr
  simp only[fe,rd,h.1,h.2,hp.1,if_false]
 |
  k+1,.atom s,r,hp,hd,hr=>by
  have h:=Cd hp.2 hr
  simp only[fe,rd,h.1,h.2,hp.1,if_false]
 |0,.list l,r,hp,hd,hr=>by simp only[E.dp]at hd;omega
 |k+1,.list [],r,hp,hd,hr=>by exact absurd rfl hp.1
 |
  k+1,.list (e::l),r,hp,hd,hr=>by
  have hs:ff 40=false:=by decide
  simp only[E.dp,E.pr]at hd hp
  have hm:=D6 (k:=k) hp.2 (by omega)
  have:=AJ (f:=rd k) r l e [] ((fe e++(eh l++41::r)).length+1) (by have:=rS l;simp only[aq,az];omega)
   (fun x hx r hr=>zh k x r (hm x (by cases hx with|inl h=>rw[h];exact ak|inr h=>exact al _ h)).1 (hm x (by cases hx with|inl h=>rw[h];exact ak|inr h=>exact al _ h)).2 hr)
  simp only[fe,bc,a8,aU]at *
  simp only[rd,List.takeWhile,hs,if_true]
  simpa using this
theorem BA{e e':E}(h:e.pr)(h':e'.pr)(ht:fe e=fe e'):e=e':=by
 have a:=zh (max e.dp e'.dp) e [] h (by omega) ui
 have b:=zh (max e.dp e'.dp) e' [] h' (by omega) ui
 rw[ht,b]at a;cases a;rfl
theorem HM{e:E}(h:e.pr)(hd:e.dp<=300)(hl:(fe e).length<=8000):qN (fe e)=some e:=by
 have:=zh 300 e [] h hd ui
 rw[cX]at this
 rw[qN,this];simp;omega
theorem Co(s:List UInt8):(s.takeWhile ff).all ff=true:=by
 induction s with
 |nil=>rfl
 |cons c s ih =>
  cases h:ff c
  ·simp[List.takeWhile,h]
  ·simp only[List.takeWhile,h,cZ,ih];rfl
theorem Dh(l r:List E):E.Cf (l++r)↔E.Cf l/\E.Cf r:=by
 induction l with
 |nil=>simp[E.Cf]
 |cons e l ih=>simp[E.Cf,ih,and_assoc]
theorem C4(l r:List E):E.uX (l++r)=max (E.uX l) (E.uX r):=by
 induction l with
 |nil=>simp[E.uX]
 |cons e l ih=>simp[E.uX,ih,Nat.max_assoc]
theorem yl{k:Nat}{f:List UInt8->Option (E×List UInt8)}(hf:∀s e r,f s=some (e,r)->s=fe e++r/\e.pr/\e.dp<=k):∀(n:Nat) (s:List UInt8) (acc:List E) (e:E) (r:List UInt8),sw f n s acc=some (e,r)->E.Cf acc->E.uX acc<=k ->
 ∃l,e=.list (acc++l)/\l≠[]/\32::s=eh l++41::r/\E.Cf l/\E.uX l<=k
 |0,s,acc,e,r,h,hp,hd=>by cases h
 |
  n+1,s,acc,e,r,h,hp,hd=>by
  simp only[sw]at h
  split at h
  ·rename_i p c r' hs
   obtain⟨h1,h2,h3⟩:=hf _ _ _ hs
   split at h
   ·rename_i hc
    have hc:c=41:=UInt8.toNat_inj.mp hc
    cases h
    exact⟨[p],rfl,by simp,by simp[eh,h1,hc],⟨h2,trivial⟩,by simp[E.uX];omega⟩
   ·split at h
    ·rename_i hc
     have hc:c=32:=UInt8.toNat_inj.mp hc
     obtain⟨l,g1,g2,g3,g4,g5⟩:=yl hf n _ _ _ _ h ((Dh _ _).mpr ⟨hp,h2,trivial⟩) (by rw[C4];simp[E.uX];omega)
     refine⟨p::l,by simpa using g1,by simp,?_,⟨h2,g4⟩,by simp only[E.uX];omega⟩
     rw[h1,hc,g3];simp[eh]
    ·cases h
  ·cases h
theorem BR:∀(k:Nat) (s:List UInt8) (e:E) (r:List UInt8),rd k s=some (e,r)->s=fe e++r/\e.pr/\e.dp<=k
 |
  0,s,e,r,h=>by
  simp only[rd]at h
  split at h
  ·cases h
  ·rename_i hs;cases h
   exact⟨(List.takeWhile_append_dropWhile).symm,⟨hs,Co s⟩,au _⟩
 |
  k+1,s,e,r,h=>by
  simp only[rd]at h
  split at h
  ·split at h
   ·rename_i c r' _
    split at h
    ·rename_i hc
     have hc:c=40:=UInt8.toNat_inj.mp hc
     obtain⟨l,g1,g2,g3,g4,g5⟩:=yl (k:=k) (fun s e r h=>BR k s e r h) _ _ _ _ _ h trivial (dO _)
     simp only[aU]at g1
     subst g1;subst hc
     refine⟨?_,⟨g2,g4⟩,by simp only[E.dp];omega⟩
     cases l with
     |nil=>exact absurd rfl g2
     |
      cons x l =>
      simp only[eh,bc,a8,List.cons.injEq,true_and]at g3
      rw[g3];simp[fe]
    ·cases h
   ·cases h
  ·rename_i hs;cases h
   exact⟨(List.takeWhile_append_dropWhile).symm,⟨hs,Co s⟩,by simp[E.dp]⟩
theorem yL{s:List UInt8}{e:E}(h:qN s=some e):s=fe e/\e.pr/\e.dp<=300/\s.length<=8000:=by
 unfold qN at h
 split at h
 ·cases h
 ·rename_i hl
  split at h
  ·rename_i e' hr
   cases h
   have:=BR _ _ _ _ hr
   exact⟨by simpa using this.1,this.2.1,this.2.2,by omega⟩
  ·cases h
theorem A9{k:Nat}(h:k<10):ff (bj (48+k))=true:=by
 have:∀k:Fin 10,ff (bj (48+k.val))=true:=by decide
 exact this ⟨k,h⟩
theorem xi:∀(n k:Nat),k<n->(dd k).all ff=true
 |0,k,h=>by omega
 |
  n+1,k,h=>by
  by_cases hk:k<10
  ·rw[eI hk,cZ,A9 hk];rfl
  ·rw[fT hk]
   have:=xi n (k/10) (by omega)
   rw[List.all_append,this,cZ,A9 (Nat.mod_lt k (by omega:0<10))];rfl
theorem Ig(k:Nat):(E.atom (xw k)).pr:=⟨by simp,by have:=xi (k+1) k (by omega);simp only[xw,cZ,this];decide⟩
theorem my:∀v:Vl,v.cL.pr
 | .u=>⟨by simp,by decide⟩
 | .el k=>Ig k
 | .l v=>⟨by simp,⟨by simp,by decide⟩,my v,trivial⟩
 | .r v=>⟨by simp,⟨by simp,by decide⟩,my v,trivial⟩
 | .f v=>⟨by simp,⟨by simp,by decide⟩,my v,trivial⟩
 | .p a b=>⟨by simp,⟨by simp,by decide⟩,my a,my b,trivial⟩
theorem pN:∀v:Vl,v.cL.dp<v.nodes+1
 | .u=>by simp[Vl.cL,E.dp,Vl.nodes]
 | .el k=>by simp[Vl.cL,E.dp,Vl.nodes]
 | .l v=>by have:=pN v;simp only[Vl.cL,E.dp,E.uX,Vl.nodes]at *;omega
 | .r v=>by have:=pN v;simp only[Vl.cL,E.dp,E.uX,Vl.nodes]at *;omega
 | .f v=>by have:=pN v;simp only[Vl.cL,E.dp,E.uX,Vl.nodes]at *;omega
 | .p a b=>by have:=pN a;have:=pN b;simp only[Vl.cL,E.dp,E.uX,Vl.nodes]at *;omega
theorem Dk(k:Nat)(h:k<100):(dd k).length<=2:=by
 by_cases hk:k<10
 ·rw[eI hk];simp
 ·rw[fT hk,eI (by omega:k/10<10)];simp
theorem lf:∀v:Vl,v.hZ 100->v.cF.length<=5*v.nodes
 | .u,_=>by simp[Vl.cF,Vl.cL,fe,Vl.nodes]
 |
  .el k,h=>by
  have:=Dk k h
  simp only[Vl.cF,Vl.cL,fe,Vl.nodes,az];omega
 | .l v,h=>by have:=lf v h;simp only[Vl.cF,Vl.cL,fe,eh,Vl.nodes,az,aq,aG]at this |-;omega
 | .r v,h=>by have:=lf v h;simp only[Vl.cF,Vl.cL,fe,eh,Vl.nodes,az,aq,aG]at this |-;omega
 | .f v,h=>by have:=lf v h;simp only[Vl.cF,Vl.cL,fe,eh,Vl.nodes,az,aq,aG]at this |-;omega
 | .p a b,h=>by have:=lf a h.1;have:=lf b h.2;simp only[Vl.cF,Vl.cL,fe,eh,Vl.nodes,az,aq,aG]at *;omega
theorem Hw(k:Nat):xw k≠[117]:=by simp[xw]
theorem ku:∀v:Vl,v.hZ 100->fP v.cL=some v
 | .u,_=>by simp[Vl.cL,fP]
 | .el k,h=>by simp only[Vl.cL,fP,Hw,if_false,vM k h]
 | .l v,h=>by simp only[Vl.cL,fP,ku v h,E.at];simp
 | .r v,h=>by simp only[Vl.cL,fP,ku v h,E.at];simp
 | .f v,h=>by simp only[Vl.cL,fP,ku v h,E.at];simp
 | .p a b,h=>by simp only[Vl.cL,fP,ku a h.1,ku b h.2,E.at];simp
theorem qR{v:Vl}(h:v.hZ 100)(hn:v.nodes<=200):su v.cF=some v:=by
 have hd:=pN v
 have hl:=lf v h
 rw[su,HM (my v) (by omega) (by show v.cF.length<=8000;omega)]
 simp only[ku v h]
 rw[if_neg (by omega)]
theorem uW{v w:Vl}(h:v.hZ 100)(h':w.hZ 100)(ht:v.cF=w.cF):v=w:=by
 have:=BA (my v) (my w) ht
 have a:=ku v h
 rw[this,ku w h']at a;cases a;rfl
theorem qS{s:List UInt8}{v:Vl}(h:su s=some v):s=v.cF:=(yL (lN h).1).1
end Go.Proofs.Trees
namespace Go.Proofs.Trees
open Go Go.VL Go.RowKit
theorem bM(l:List E):(E.list l).at=[]:=rfl
def cW:Ty->Vl->Vl->Vl
 | .plus a _,.l c,v=>.l (cW a c v)
 | .plus _ b,.r c,v=>.r (cW b c v)
 | .times a _,.l (.p x y),v=>.p (cW a x v) y
 | .times _ b,.r (.p x y),v=>.p x (cW b y v)
 | .rc a,.f (.l x),v=>.f (cW a x v)
 | .rc a,.f (.r (.p x y)),v=>.f (cW a x (cW (.rc a) y v))
 |_,_,v=>v
def dL:Ty->Vl->Bool
 | .plus a _,.l c=>dL a c
 | .plus _ b,.r c=>dL b c
 | .times a _,.l (.p x _)=>dL a x
 | .times _ b,.r (.p _ y)=>dL b y
 | .rc a,.f (.l x)=>dL a x
 | .rc a,.f (.r (.p x y))=>dL a x&&dL (.rc a) y
 | .plus _ _,_=>false
 | .times _ _,_=>false
 | .rc _,_=>false
 |_,_=>true
theorem tH(c v:Vl):cW .zero c v=v:=by cases c<;>rfl
theorem wj(c v:Vl):cW .one c v=v:=by cases c<;>rfl
theorem kT(s:List UInt8)(c v:Vl):cW (.name s) c v=v:=by cases c<;>rfl
theorem rN(u:Nat)(c v:Vl):cW (.bound u) c v=v:=by cases c<;>rfl
theorem vW{a b:Ty}{c:Vl}(h:dL (.plus a b) c=true):(∃x,c=.l x/\dL a x=true)\/∃x,c=.r x/\dL b x=true:=by
 cases c<;>simp[dL]at h<;>simp[h]
theorem tf{a b:Ty}{c:Vl}(h:dL (.times a b) c=true):(∃x y,c=.l (.p x y)/\dL a x=true)\/∃x y,c=.r (.p x y)/\dL b y=true:=by
 cases c with
 |l c=>cases c<;>simp[dL]at h<;>simp[h]
 |r c=>cases c<;>simp[dL]at h<;>exact .inr ⟨_,_,rfl,h⟩
 |_=>simp[dL]at h
theorem BE{a:Ty}{c:Vl}(h:dL (.rc a) c=true):(∃x,c=.f (.l x)/\dL a x=true)\/∃x y,c=.f (.r (.p x y))/\dL a x=true/\dL (.rc a) y=true:=by
 cases c with
 |
  f c =>
  cases c with
  |l c=>simp[dL]at h;simp[h]
  |r c=>cases c<;>simp[dL]at h<;>exact .inr ⟨_,_,rfl,h⟩
  |_=>simp[dL]at h
 |_=>simp[dL]at h
theorem sf(t:Ty)(c v:Vl):(cW t c v).nodes<=c.nodes+v.nodes:=by
 induction t,c,v using cW.induct<;>simp only[cW,Vl.nodes]at*<;> omega
theorem rA(m:Nat)(t:Ty)(c v:Vl):c.hZ m->v.hZ m->(cW t c v).hZ m:=by
 induction t,c,v using cW.induct with
 |case1 a b c v ih=>exact fun h h'=>ih h h'
 |case2 a b c v ih=>exact fun h h'=>ih h h'
 |case3 a b x y v ih=>exact fun h h'=>⟨ih h.1 h',h.2⟩
 |case4 a b x y v ih=>exact fun h h'=>⟨h.1,ih h.2 h'⟩
 |case5 a x v ih=>exact fun h h'=>ih h h'
 |case6 a x y v ih1 ih2=>exact fun h h'=>ih2 h.1 (ih1 h.2 h')
 |case7=>intro h h';simpa only[cW]using h'
def IS:Hl:=(.u,.u)
end Go.Proofs.Trees
namespace Go.Proofs.Trees
open Go Go.VL Go.RowKit
theorem oc(s:Nm)(a b:E):an Tryz.prog 86 [.agg [.v (.string (mk [])),(E.list [.atom s,a,b]).sp]] [] (bK (.v (.string (mk s)))):=u9 (.atom s) [a,b]
theorem D4{e:E}(h:Wf e):∀(bd l:List Nm) (a:AV),cy a bd->bd.length+l.length+e.sz<100000->an Tryz.prog 84 [.agg [.v (.string (mk e.at)),e.sp],a,.vec 0] [.vec 1 (bN l)] (df (.vec 1) [.dead,.vec 1 (bN (ki e bd l))]):=by
 induction h with
 |
  @atom s hs =>
  intro bd l a ha hl
  simp only[E.sz]at hl
  refine Ai _ _ _ _ ((aX _).mpr trivial) ha.1 ?_
  have hll:(bN l).length=l.length:=by simp[bN]
  simp only[xl,dR,↓zq,zs,ae,zt,df,ki]
  refine⟨fun _=>⟨fun h=>?_,fun h=>⟨fun h1=>?_,fun h1=>?_⟩⟩,fun h=>absurd h hs⟩
  ·rw[if_pos (.inl h)]
  ·rw[if_pos (.inr (.inl h1))]
  ·refine aj (xc bd a ha s (by omega)) ?_
   simp only[↓zq,zs,ae]
   refine⟨fun h2=>?_,fun h2=>aj (xc l _ (.of l) s (by omega)) ?_⟩
   ·rw[if_pos (.inr (.inr (.inl h2)))]
   ·simp only[↓zq,zs,ae]
    refine⟨fun h3=>?_,fun h3=>⟨⟨fun c hc=>(by simp at hc;rw[hc];rfl),by omega⟩,?_⟩⟩
    ·rw[if_pos (.inr (.inr (.inr h3)))]
    ·rw[EU,if_neg]
     rintro(q|q|q|q)
     ·exact h q
     ·exact h1 q
     ·exact h2 q
     ·exact h3 q
 |
  @plus x y hx hy i1 i2 =>
  intro bd l a ha hl
  simp only[E.sz,E.jo]at hl
  have hfl:=gd x bd l
  refine Ai _ _ _ _ ((aX _).mpr trivial) ha.1 ?_
  have hP:=P3.of (.atom [43]) x y
  simp only[xl,bM,toNat_one,bg,↓zq,zs,ae,zt,hP.1,hP.2.1,hP.2.2.1,hP.2.2.2,aL,df]
  refine⟨fun h=>absurd rfl h,fun _=>?_⟩
  refine aj (oc [43] x y) ?_
  simp only[↓zq,zs,ae,zt]
  refine⟨fun h=>by simp at h,fun _=>?_⟩
  repeat refine⟨by omega,?_⟩
  refine aV (i1 bd l a ha (by omega)) ?_
  simp only[↓zq,zs,ae,zt,aO,bx,Ob.es]
  repeat refine⟨by omega,?_⟩
  refine aV (i2 bd (ki x bd l) a ha (by omega)) ?_
  simp only[↓zq,zs,ae,zt,aO,bx,Ob.es]
  rw[ki,if_neg (by decide)]
 |
  @times x y hx hy i1 i2 =>
  intro bd l a ha hl
  simp only[E.sz,E.jo]at hl
  have hfl:=gd x bd l
  refine Ai _ _ _ _ ((aX _).mpr trivial) ha.1 ?_
  have hP:=P3.of (.atom [42]) x y
  simp only[xl,bM,toNat_one,bg,↓zq,zs,ae,zt,hP.1,hP.2.1,hP.2.2.1,hP.2.2.2,aL,df]
  refine⟨fun h=>absurd rfl h,fun _=>?_⟩
  refine aj (oc [42] x y) ?_
  simp only[↓zq,zs,ae,zt]
  refine⟨fun h=>by simp at h,fun _=>?_⟩
  repeat refine⟨by omega,?_⟩
  refine aV (i1 bd l a ha (by omega)) ?_
  simp only[↓zq,zs,ae,zt,aO,bx,Ob.es]
  repeat refine⟨by omega,?_⟩
  refine aV (i2 bd (ki x bd l) a ha (by omega)) ?_
  simp only[↓zq,zs,ae,zt,aO,bx,Ob.es]
  rw[ki,if_neg (by decide)]
 |
  @rc n y hn hy i =>
  intro bd l a ha hl
  simp only[E.sz,E.jo]at hl
  refine Ai _ _ _ _ ((aX _).mpr trivial) ha.1 ?_
  have hP:=P3.of (.atom dE) (.atom n) y
  simp only[xl,bM,toNat_one,bg,↓zq,zs,ae,zt,hP.1,hP.2.1,hP.2.2.1,hP.2.2.2,aL,df]
  refine⟨fun h=>absurd rfl h,fun _=>?_⟩
  refine aj (oc dE (.atom n) y) ?_
  simp only[↓zq,zs,ae,zt]
  refine⟨fun _=>?_,fun h=>absurd rfl h⟩
  repeat refine⟨by omega,?_⟩
  refine aV (xh bd a ha n (by omega)) ?_
  simp only[↓zq,zs,ae,Ob.es,aO]
  refine⟨eB _,?_⟩
  refine aV (i (bd++[n]) l _ (.of _) (by simp;omega)) ?_
  simp only[↓zq,zs,ae,aO,bx,Ob.es]
  rw[ki,if_pos (dR _)];rfl
theorem QC(x:Nm)(u:E){e:E}(h:Wf e):an Tryz.prog 146 [.agg [.v (.string (mk e.at)),e.sp],.v (.string (mk x)),.agg [.v (.string (mk u.at)),u.sp]] [] (bK (.agg [.v (.string (mk (ru x u e).at)),(ru x u e).sp])):=by
 induction h with
 |
  @atom s hs =>
  refine CV _ _ _ _ _ ((aX _).mpr trivial) ((aX _).mpr trivial) ?_
  simp only[AR,dR,↓zq,zs,ae,zt,bK,ru]
  refine⟨fun _=>⟨fun h=>?_,fun h=>?_⟩,fun h=>absurd h hs⟩
  ·rw[if_pos h]
  ·rw[if_neg h];rfl
 |
  @plus a b ha hb i1 i2 =>
  refine CV _ _ _ _ _ ((aX _).mpr trivial) ((aX _).mpr trivial) ?_
  have hP:=P3.of (.atom [43]) a b
  simp only[AR,bM,toNat_one,bg,↓zq,zs,ae,zt,hP.1,hP.2.1,hP.2.2.1,hP.2.2.2,aL]
  refine⟨fun h=>absurd rfl h,fun _=>?_⟩
  refine aj (oc [43] a b) ?_
  simp only[↓zq,zs,ae,zt]
  refine⟨fun h=>by simp at h,fun _=>?_⟩
  refine aj (oc [43] a b) ?_
  simp only[↓zq,zs,ae,zt]
  repeat refine⟨by omega,?_⟩
  refine aj i1 ?_
  simp only[↓zq,zs,ae,zt,aL]
  repeat refine⟨by omega,?_⟩
  refine aj i2 ?_
  simp only[↓zq,zs,ae,zt,aL]
  repeat refine⟨by omega,?_⟩
  refine aj (wK _ _ _) ?_
  simp only[↓zq,zs,ae,zt,aL,we,bM]
  repeat refine⟨by omega,?_⟩
  exact⟨rfl,rfl⟩
 |
  @times a b ha hb i1 i2 =>
  refine CV _ _ _ _ _ ((aX _).mpr trivial) ((aX _).mpr trivial) ?_
  have hP:=P3.of (.atom [42]) a b
  simp only[AR,bM,toNat_one,bg,↓zq,zs,ae,zt,hP.1,hP.2.1,hP.2.2.1,hP.2.2.2,aL]
  refine⟨fun h=>absurd rfl h,fun _=>?_⟩
  refine aj (oc [42] a b) ?_
  simp only[↓zq,zs,ae,zt]
  refine⟨fun h=>by simp at h,fun _=>?_⟩
  refine aj (oc [42] a b) ?_
  simp only[↓zq,zs,ae,zt]
  repeat refine⟨by omega,?_⟩
  refine aj i1 ?_
  simp only[↓zq,zs,ae,zt,aL]
  repeat refine⟨by omega,?_⟩
  refine aj i2 ?_
  simp only[↓zq,zs,ae,zt,aL]
  repeat refine⟨by omega,?_⟩
  refine aj (wK _ _ _) ?_
  simp only[↓zq,zs,ae,zt,aL,s7,bM]
  repeat refine⟨by omega,?_⟩
  exact⟨rfl,rfl⟩
 |
  @rc n b hn hb i =>
  refine CV _ _ _ _ _ ((aX _).mpr trivial) ((aX _).mpr trivial) ?_
  have hP:=P3.of (.atom dE) (.atom n) b
  simp only[AR,bM,toNat_one,bg,↓zq,zs,ae,zt,hP.1,hP.2.1,hP.2.2.1,hP.2.2.2,aL]
  refine⟨fun h=>absurd rfl h,fun _=>?_⟩
  refine aj (oc dE (.atom n) b) ?_
  simp only[↓zq,zs,ae,zt]
  refine⟨fun _=>?_,fun h=>absurd rfl h⟩
  repeat refine⟨by omega,?_⟩
  rw[Cj]
  refine⟨fun h=>?_,fun h=>?_⟩
  ·have hh:n=x:=h
   rw[if_pos hh];exact⟨rfl,rfl⟩
  ·have hh:¬n=x:=h
   rw[if_neg hh]
   repeat refine⟨by omega,?_⟩
   refine aj i ?_
   simp only[↓zq,zs,ae,zt,aL]
   repeat refine⟨by omega,?_⟩
   refine aj (wK dE (.atom n) (ru x u b)) ?_
   simp only[↓zq,zs,ae,zt,aL,bM]
   repeat refine⟨by omega,?_⟩
   exact⟨rfl,rfl⟩
theorem rb(x:Nm){e:E}(h:Wf e):nn x e<=e.db:=by
 induction h with
 |atom hs=>simp only[nn,E.db];split<;>omega
 |plus ha hb i1 i2=>rw[rr];simp only[E.db,E.eW];omega
 |times ha hb i1 i2=>rw[pE];simp only[E.db,E.eW];omega
 |rc hn hb i=>rw[w7];simp only[E.db,E.eW];split<;>omega
theorem Pu(x:Nm){e:E}(h:Wf e):e.db<1000000->an Tryz.prog 145 [.agg [.v (.string (mk e.at)),e.sp],.v (.string (mk x))] [] (bK (.v (.int .i64 (nn x e:Int)))):=by
 induction h with
 |
  @atom s hs =>
  intro hl
  refine DK _ _ _ ((aX _).mpr trivial) ?_
  simp only[Bm,dR,↓zq,zs,ae,zt,bK,nn]
  refine⟨fun _=>⟨fun h=>?_,fun h=>?_⟩,fun h=>absurd h hs⟩
  ·rw[if_pos h];rfl
  ·rw[if_neg h];rfl
 |
  @plus a b ha hb i1 i2 =>
  intro hl
  simp only[E.db,E.eW]at hl
  have u1:=rb x ha
  have u2:=rb x hb
  refine DK _ _ _ ((aX _).mpr trivial) ?_
  have hP:=P3.of (.atom [43]) a b
  simp only[Bm,bM,toNat_one,bg,↓zq,zs,ae,zt,hP.1,hP.2.1,hP.2.2.1,hP.2.2.2,aL]
  refine⟨fun h=>absurd rfl h,fun _=>?_⟩
  refine aj (oc [43] a b) ?_
  simp only[↓zq,zs,ae,zt]
  refine⟨fun h=>by simp at h,fun _=>?_⟩
  repeat refine⟨by omega,?_⟩
  refine aj (i1 (by omega)) ?_
  simp only[↓zq,zs,ae,zt]
  repeat refine⟨by omega,?_⟩
  refine aj (i2 (by omega)) ?_
  simp only[↓zq,zs,ae,zt]
  rw[rr,wrap64 _ (by omega) (by omega)]
  exact⟨by simp,rfl⟩
 |
  @times a b ha hb i1 i2 =>
  intro hl
  simp only[E.db,E.eW]at hl
  have u1:=rb x ha
  have u2:=rb x hb
  refine DK _ _ _ ((aX _).mpr trivial) ?_
  have hP:=P3.of (.atom [42]) a b
  simp only[Bm,bM,toNat_one,bg,↓zq,zs,ae,zt,hP.1,hP.2.1,hP.2.2.1,hP.2.2.2,aL]
  refine⟨fun h=>absurd rfl h,fun _=>?_⟩
  refine aj (oc [42] a b) ?_
  simp only[↓zq,zs,ae,zt]
  refine⟨fun h=>by simp at h,fun _=>?_⟩
  repeat refine⟨by omega,?_⟩
  refine aj (i1 (by omega)) ?_
  simp only[↓zq,zs,ae,zt]
  repeat refine⟨by omega,?_⟩
  refine aj (i2 (by omega)) ?_
  simp only[↓zq,zs,ae,zt]
  rw[pE,wrap64 _ (by omega) (by omega)]
  exact⟨by simp,rfl⟩
 |
  @rc n b hn hb i =>
  intro hl
  simp only[E.db,E.eW]at hl
  refine DK _ _ _ ((aX _).mpr trivial) ?_
  have hP:=P3.of (.atom dE) (.atom n) b
  simp only[Bm,bM,toNat_one,bg,↓zq,zs,ae,zt,hP.1,hP.2.1,hP.2.2.1,hP.2.2.2,aL]
  refine⟨fun h=>absurd rfl h,fun _=>?_⟩
  refine aj (oc dE (.atom n) b) ?_
  simp only[↓zq,zs,ae,zt]
  refine⟨fun _=>?_,fun h=>absurd rfl h⟩
  repeat refine⟨by omega,?_⟩
  rw[w7]
  refine⟨fun h=>?_,fun h=>?_⟩
  ·have hh:n=x:=h
   rw[if_pos hh];exact⟨rfl,rfl⟩
  ·have hh:¬n=x:=h
   rw[if_neg hh]
   repeat refine⟨by omega,?_⟩
   refine aj (i (by omega)) ?_
   simp only[↓zq,zs,ae,zt]
   exact⟨rfl,rfl⟩
theorem NQ{x:Nm}(hx:qQ x){e u:E}(h:Wf e)(hu:Wf u)(hl:e.db<=1000)(hlu:u.db<=1000):an Tryz.prog 120 [.agg [.v (.string (mk e.at)),e.sp],.v (.string (mk x)),.agg [.v (.string (mk u.at)),u.sp]] [] (bK (.v (.bool (decide ((sub x (cR u []) (cR e [])).atoms<=400))))):=by
 refine Sd _ _ _ _ _ ((aX _).mpr trivial) ((aX _).mpr trivial) ?_
 unfold OS
 have a1:=Dz e h.ok (by have:=h.sz;omega)
 have a2:=Dz u hu.ok (by have:=hu.sz;omega)
 rw[dm]at a1 a2
 have hle:=rb x h
 have hpos:1<=u.db:=by rw[hu.db []];exact en _
 refine aj a1 ?_
 simp only[↓zq,zs,ae,zt]
 refine aj (Pu x h (by omega)) ?_
 simp only[↓zq,zs,ae,zt]
 refine aj a2 ?_
 simp only[↓zq,zs,ae,zt]
 have e1:=dU x (cR u []) (cR e [])
 have e2:=DW hx h []
 rw[if_neg (by simp)]at e2
 rw[e2,<-h.db [],<-hu.db []]at e1
 have hm:nn x e*(u.db-1)<=1000*1000:=Nat.mul_le_mul (by omega) (by omega)
 have e3:(nn x e:Int)*((u.db:Int)-1)=((nn x e*(u.db-1):Nat):Int):=by
  rw[Int.natCast_mul];congr 1;omega
 have e4:nn x e*(u.db-1)+nn x e=nn x e*u.db:=by
  rw[Nat.mul_sub,dG]
  have:=Nat.le_mul_of_pos_right (nn x e) hpos
  omega
 rw[wrap64 ((u.db:Int)-1) (by omega) (by omega),e3,wrap64 ((nn x e*(u.db-1):Nat):Int) (by omega) (by omega),wrap64 _ (by omega) (by omega)]
 refine⟨?_,rfl⟩
 congr 2
 rw[cx,decide_eq_true_eq,decide_eq_true_eq]
 omega
end Go.Proofs.Trees
namespace Go.Proofs.Trees
open Go Go.VL Go.RowKit
abbrev yx:AV:=.v (.slice none 0 0)
abbrev zE:Ob:=.cells [.v (.string (mk [])),yx]
theorem Lz(s:Nm)(p a b:AV)(hp:LK.sl.has p)(F fr to:List Nm)(k:Int)(ha:cy a fr)(hb:cy b to)(hft:fr.length=to.length)(hl:fr.length<1000000):∀(i:Nat),i<=fr.length ->
 Ga [a,b,.v (.int .i64 ((i:Int)-1))] [.cells [.v (.string (mk s)),p],zE,.cells [.any,.v (.int .i64 k)],.vec 1 (bN F)]
  (po (match bR s fr i with|some u=>(2,[],[.cells [.v (.string (mk (gj to u))),yx],.cells [.any,.v (.int .i64 k)],.vec 1 (bN F)])|none=>(1,[],[.cells [.v (.string (mk s)),p],zE,.cells [.any,.v (.int .i64 k)],.vec 1 (bN F)])))
 |
  0,hi=>by
  refine LF _ _ _ _ _ _ _ _ _ ?_
  simp only[Fy,↓zq,zs,ae,ae,hp,bf]
  exact⟨ha.1,hb.1,fun h=>by omega,fun _=>rfl⟩
 |
  i+1,hi=>by
  have hlt:i<fr.length:=by omega
  have hlt':i<to.length:=by omega
  have e1:((i+1:Nat):Int)-1=(i:Int):=by omega
  rw[e1]
  refine LF _ _ _ _ _ _ _ _ _ ?_
  simp only[Fy,↓zq,zs,ae,zt,ae,hp,bf,ha.len,hb.len,ha.idx hlt,hb.idx hlt',bG]
  refine⟨ha.1,hb.1,fun _=>⟨⟨ha.1,by omega,by omega⟩,by omega,fun h=>?_,fun h=>?_⟩,fun h=>by omega⟩
  ·refine⟨⟨hb.1,by omega,by omega⟩,by omega,?_⟩
   have hh:fr.getD i []=s:=h
   simp only[bR,hh,if_true,po]
   have:gj to (fr.length-1-i)=to.getD i []:=by unfold gj;congr 1;omega
   rw[this]
  ·have hh:¬fr.getD i []=s:=h
   simp only[bR,hh,if_false]
   rw[wrap64 _ (by omega) (by omega)]
   exact Lz s p a b hp F fr to k ha hb hft hl i (by omega)
theorem KJ(a b:AV)(ha:LK.sl.has a)(hb:LK.sl.has b)(F:List Nm)(hF:F.length<100000)(t:ByteArray)(p:AV)(hp:LK.sl.has p):∀(n j:Nat),qb F n j<j+n->j+n<100000000 ->
 Io [a,b,.v (.string (mk (tN j)))] [.cells [.any,.v (.int .i64 (j:Int))],.vec 1 (bN F),.cells [.v (.string t),p],zE] (gI 1 [a,b,.v (.string (mk (tN (qb F n j))))] [.cells [.any,.v (.int .i64 (qb F n j:Int))],.vec 1 (bN F),.cells [.v (.string t),p],zE])
 |0,j,h,_=>by simp only[qb]at h;omega
 |
  n+1,j,h,hj=>by
  refine Ra _ _ _ _ _ _ _ _ _ ?_
  simp only[Mt,↓zq,zs,ae,zt,ae,hp,bf]
  refine⟨ha,hb,?_⟩
  refine aj (xc F _ (.of F) (tN j) (by omega)) ?_
  simp only[↓zq,zs,ae,zt]
  rw[qb]at h |-
  refine⟨fun hm=>?_,fun hm=>?_⟩
  ·rw[if_pos hm]at h |-
   rw[bz j (by omega)]
   refine aj (Ao (j+2) (j+1) (by omega) (by omega)) ?_
   have hd:=mL (j+2) (j+1) (by omega)
   simp only[↓zq,zs,ae,zt,bc,aU]
   refine⟨by simp[cM];omega,?_⟩
   exact KJ a b ha hb F hF t p hp n (j+1) (by omega) (by omega)
  ·rw[if_neg hm]
   exact⟨rfl,rfl,rfl⟩
theorem iw(F:List Nm):∀(t:Ty) (to:List Nm) (k:Nat),k<=(gY F t to k).2/\(gY F t to k).2<=k+(F.length+1)*t.atoms
 | .zero,_,k=>⟨au _,da _ _⟩
 | .one,_,k=>⟨au _,da _ _⟩
 | .name _,_,k=>⟨au _,da _ _⟩
 | .bound _,_,k=>⟨au _,da _ _⟩
 |
  .plus a b,to,k=>by
  have h1:=iw F a to k
  have h2:=iw F b to (gY F a to k).2
  simp only[gY,Ty.atoms]
  have:(F.length+1)*(1+a.atoms+b.atoms)=(F.length+1)+(F.length+1)*a.atoms+(F.length+1)*b.atoms:=by simp only[cT,dG]
  omega
 |
  .times a b,to,k=>by
  have h1:=iw F a to k
  have h2:=iw F b to (gY F a to k).2
  simp only[gY,Ty.atoms]
  have:(F.length+1)*(1+a.atoms+b.atoms)=(F.length+1)+(F.length+1)*a.atoms+(F.length+1)*b.atoms:=by simp only[cT,dG]
  omega
 |
  .rc a,to,k=>by
  obtain⟨g1,g2,_,_⟩:=gD F k
  have h1:=iw F a (to++[tN (nx F k)]) (nx F k+1)
  simp only[gY,Ty.atoms]
  have:(F.length+1)*(2+a.atoms)=(F.length+1)*2+(F.length+1)*a.atoms:=by simp only[cT]
  omega
theorem kl(l:List Nm):(bN l).length=l.length:=by simp[bN]
theorem QJ(F:List Nm)(hF:F.length<10000){e:E}(h:Wf e):∀(fr to:List Nm) (a b:AV) (k:Nat),cy a fr->cy b to->fr.length=to.length->(∀w,w∈fr->qQ w)->fr.length+e.sz<10000->k+(F.length+1)*(cR e fr).atoms<99000000 ->
 an Tryz.prog 91 [.agg [.v (.string (mk e.at)),e.sp],a,b,.ref 0 0] [.cells [.vec 1,.v (.int .i64 (k:Int))],.vec 1 (bN F)] (df (.agg [.v (.string (mk (gY F (cR e fr) to k).1.at)),(gY F (cR e fr) to k).1.sp]) [.cells [.vec 1,.v (.int .i64 ((gY F (cR e fr) to k).2:Int))],.vec 1 (bN F)]):=by
 induction h with
 |
  @atom s hs =>
  intro fr to a b k ha hb hft hfr hl hk
  simp only[E.sz]at hl
  refine El _ _ _ _ _ _ ((aX _).mpr trivial) ha.1 hb.1 ?_
  have hz:∀c,(c=[48]\/c=[49])->bR c fr fr.length=none:=fun c hc=>(fE c fr).2 fun hm=>by
   obtain⟨h1,h2,h3⟩:=hfr c hm
   rcases hc with rfl|rfl
   ·exact h2 rfl
   ·exact h3 rfl
  have hq:gY F (cR (.atom s) fr) to k=(match bR s fr fr.length with|some u=>.atom (gj to u)|none=>.atom s,k):=by
   simp only[cR]
   by_cases h0:s=[48]
   ·rw[if_pos h0,hz s (.inl h0),h0];rfl
   ·rw[if_neg h0]
    by_cases h1:s=[49]
    ·rw[if_pos h1,hz s (.inr h1),h1];rfl
    ·rw[if_neg h1]
     cases bR s fr fr.length<;>rfl
  simp only[BS,dR,↓zq,zs,ae,zt]
  refine⟨fun _=>⟨ha.1,?_⟩,fun h=>absurd h hs⟩
  rw[ha.len,wrap64 _ (by omega) (by omega)]
  refine fF (Lz s _ a b ((aX _).mpr trivial) F fr to (k:Int) ha hb hft (by omega) fr.length (au _)) (fun ys o e=>?_) (fun ys o e=>?_)
  ·rw[hq]
   cases q:bR s fr fr.length<;>rw[q]at e<;>cases e
   simp only[↓zq,zs,ae,zt,ae,aK,bf,aX]
   exact⟨rfl,rfl⟩
  ·rw[hq]
   cases q:bR s fr fr.length<;>rw[q]at e<;>cases e
   simp only[↓zq,zs,ae,zt,ae,aK,bf]
   exact⟨rfl,rfl⟩
 |
  @plus x y hx hy i1 i2 =>
  intro fr to a b k ha hb hft hfr hl hk
  simp only[E.sz,E.jo]at hl
  rw[dJ]at hk |-
  simp only[Ty.atoms]at hk
  have hm:(F.length+1)*(1+(cR x fr).atoms+(cR y fr).atoms)=(F.length+1)+(F.length+1)*(cR x fr).atoms+(F.length+1)*(cR y fr).atoms:=by simp only[cT,dG]
  have hc:=iw F (cR x fr) to k
  refine El _ _ _ _ _ _ ((aX _).mpr trivial) ha.1 hb.1 ?_
  have hP:=P3.of (.atom [43]) x y
  simp only[BS,bM,toNat_one,bg,↓zq,zs,ae,zt,hP.1,hP.2.1,hP.2.2.1,hP.2.2.2,aL]
  refine⟨fun h=>absurd rfl h,fun _=>?_⟩
  refine aj (oc [43] x y) ?_
  simp only[↓zq,zs,ae,zt]
  refine⟨fun h=>by simp at h,fun _=>?_⟩
  repeat refine⟨by omega,?_⟩
  refine aV (i1 fr to a b k ha hb hft hfr (by omega) (by omega)) ?_
  simp only[↓zq,zs,ae,zt,aK,aL,aO,bx,Ob.es]
  repeat refine⟨by omega,?_⟩
  refine aj (oc [43] x y) ?_
  simp only[↓zq,zs,ae,zt]
  repeat refine⟨by omega,?_⟩
  refine aV (i2 fr to a b _ ha hb hft hfr (by omega) (by omega)) ?_
  simp only[↓zq,zs,ae,zt,aK,aL,aO,bx,Ob.es]
  repeat refine⟨by omega,?_⟩
  refine aj (wK _ _ _) ?_
  simp only[↓zq,zs,ae,zt,aL,bM]
  repeat refine⟨by omega,?_⟩
  exact⟨rfl,rfl⟩
 |
  @times x y hx hy i1 i2 =>
  intro fr to a b k ha hb hft hfr hl hk
  simp only[E.sz,E.jo]at hl
  rw[dr]at hk |-
  simp only[Ty.atoms]at hk
  have hm:(F.length+1)*(1+(cR x fr).atoms+(cR y fr).atoms)=(F.length+1)+(F.length+1)*(cR x fr).atoms+(F.length+1)*(cR y fr).atoms:=by simp only[cT,dG]
  have hc:=iw F (cR x fr) to k
  refine El _ _ _ _ _ _ ((aX _).mpr trivial) ha.1 hb.1 ?_
  have hP:=P3.of (.atom [42]) x y
  simp only[BS,bM,toNat_one,bg,↓zq,zs,ae,zt,hP.1,hP.2.1,hP.2.2.1,hP.2.2.2,aL]
  refine⟨fun h=>absurd rfl h,fun _=>?_⟩
  refine aj (oc [42] x y) ?_
  simp only[↓zq,zs,ae,zt]
  refine⟨fun h=>by simp at h,fun _=>?_⟩
  repeat refine⟨by omega,?_⟩
  refine aV (i1 fr to a b k ha hb hft hfr (by omega) (by omega)) ?_
  simp only[↓zq,zs,ae,zt,aK,aL,aO,bx,Ob.es]
  repeat refine⟨by omega,?_⟩
  refine aj (oc [42] x y) ?_
  simp only[↓zq,zs,ae,zt]
  repeat refine⟨by omega,?_⟩
  refine aV (i2 fr to a b _ ha hb hft hfr (by omega) (by omega)) ?_
  simp only[↓zq,zs,ae,zt,aK,aL,aO,bx,Ob.es]
  repeat refine⟨by omega,?_⟩
  refine aj (wK _ _ _) ?_
  simp only[↓zq,zs,ae,zt,aL,bM]
  repeat refine⟨by omega,?_⟩
  exact⟨rfl,rfl⟩
 |
  @rc n y hn hy i =>
  intro fr to a b k ha hb hft hfr hl hk
  simp only[E.sz,E.jo]at hl
  rw[fh]at hk |-
  simp only[Ty.atoms,dR]at hk
  have hm:(F.length+1)*(2+(cR y (fr++[n])).atoms)=(F.length+1)*2+(F.length+1)*(cR y (fr++[n])).atoms:=by simp only[cT]
  have hc:=iw F (cR y (fr++[n])) (to++[tN (nx F k)]) (nx F k+1)
  obtain⟨g1,g2,_,_⟩:=gD F k
  refine El _ _ _ _ _ _ ((aX _).mpr trivial) ha.1 hb.1 ?_
  have hP:=P3.of (.atom dE) (.atom n) y
  simp only[BS,bM,toNat_one,bg,↓zq,zs,ae,zt,hP.1,hP.2.1,hP.2.2.1,hP.2.2.2,aL]
  refine⟨fun h=>absurd rfl h,fun _=>?_⟩
  refine aj (oc dE (.atom n) y) ?_
  simp only[↓zq,zs,ae,zt]
  refine⟨fun _=>?_,fun h=>absurd rfl h⟩
  refine aj (Ao (k+1) k (by omega) (by omega)) ?_
  have hd:=mL (k+1) k (by omega)
  simp only[↓zq,zs,ae,zt,bc,aU]
  refine⟨by simp[cM];omega,?_⟩
  refine cz (KJ a b ha.1 hb.1 F (by omega) (mk []) _ ((aX _).mpr trivial) (F.length+1) k (by show nx F k<_;omega) (by omega)) ?_
  simp only[↓zq,zs,ae,zt,ae,aK,bf,aX,ha.1,hb.1,hP.1,hP.2.1,hP.2.2.1,hP.2.2.2,toNat_one,bg,aL]
  repeat refine⟨by omega,?_⟩
  have hnx:qb F (F.length+1) k=nx F k:=rfl
  rw[hnx]
  refine aV (xh fr a ha n (by omega)) ?_
  simp only[↓zq,zs,ae,zt,Ob.es,aO]
  refine⟨eB _,?_⟩
  refine aV (xh to b hb (tN (nx F k)) (by omega)) ?_
  simp only[↓zq,zs,ae,zt,Ob.es,aO]
  refine⟨eB _,?_⟩
  rw[bz (nx F k) (by omega)]
  have hmk:=wK dE (.atom (tN (nx F k))) (gY F (cR y (fr++[n])) (to++[tN (nx F k)]) (nx F k+1)).1
  simp only[dR]at hmk
  refine aV (i (fr++[n]) (to++[tN (nx F k)]) _ _ (nx F k+1) (.of _) (.of _) (by simp[hft]) (fun w hw=>by
   rcases aN.1 hw with hw|hw
   ·exact hfr w hw
   ·simp only[aQ]at hw;rw[hw];exact hn) (by simp;omega) (by omega)) ?_
  simp only[↓zq,zs,ae,zt,aK,aL,aO,bx,Ob.es]
  repeat refine⟨by omega,?_⟩
  refine aj hmk ?_
  simp only[↓zq,zs,ae,zt,aL,bM]
  repeat refine⟨by omega,?_⟩
  exact⟨rfl,rfl⟩
theorem xd(l r:List Nm):bN (l++r)=bN l++bN r:=by simp[bN]
def rz(os:List E):List Nm:=os.flatMap fun o=>ki o [] []
theorem vS{os:List E}{i:Nat}(h:i<os.length):(E.bu os).getD i []=[.v (.string (mk (os[i]).at)),(os[i]).sp]:=by
 have:∀(os:List E) (i:Nat) (h:i<os.length),(E.bu os).getD i []=(os[i]).iv:=by
  intro os
  induction os with
  |nil=>intro i h;simp at h
  |
   cons o os ih =>
   intro i h
   cases i with
   |zero=>simp[E.bu]
   |succ i=>simpa[E.bu]using ih i (by simpa using h)
 rw[this os i h,fN]
theorem Ae(os:List E){i:Nat}(h:i<os.length):rz (os.drop i)=ki (os[i]) [] []++rz (os.drop (i+1)):=by
 unfold rz;rw[aS h,List.flatMap_cons]
theorem OT(a:AV)(os:List E)(ha:LK.sl.has a/\a.elems=E.bu os)(ho:∀o,o∈os->Wf o/\o.sz<5000)(hl:os.length<100)(t:ByteArray)(p:AV)(hp:LK.sl.has p):∀(k i:Nat) (F:List Nm),i+k=os.length->F.length<=5000+5000*i ->
 Hm [a,.v (.int .i64 (i:Int))] [.cells [.v (.string t),p],zE,.vec 1 (bN F)] (gI 1 [] [.cells [.v (.string t),p],zE,.vec 1 (bN (F++rz (os.drop i)))])
 |
  0,i,F,hi,hF=>by
  refine M4 _ _ _ _ _ _ _ ?_
  have:i=os.length:=by omega
  subst this
  simp only[GA,↓zq,zs,ae,zt,ae,hp,bf,ha.1,ha.2,dY,List.drop_length]
  exact⟨fun h=>by omega,fun _=>by simp[gI,rz]⟩
 |
  k+1,i,F,hi,hF=>by
  have hlt:i<os.length:=by omega
  obtain⟨hw,hsz⟩:=ho _ (bD hlt)
  have hfl:=gd (os[i]) [] []
  refine M4 _ _ _ _ _ _ _ ?_
  simp only[GA,↓zq,zs,ae,zt,ae,hp,bf,ha.1,ha.2,dY,vS hlt,aL,bG]
  refine⟨fun _=>?_,fun h=>by omega⟩
  repeat refine⟨by omega,?_⟩
  have hfre:=D4 hw [] [] (.sl []) (.of []) (by simp;omega)
  refine aV hfre ?_
  simp only[↓zq,zs,ae,zt,aO,bx,Ob.es,kl,<-xd]
  rw[bz i (by omega),Ae os hlt,<-a8]
  simp only[aG,aW]at hfl
  refine⟨⟨kp _,by omega⟩,?_⟩
  exact OT a os ha ho hl t p hp k (i+1) _ (by omega) (by simp;omega)
def AD(e:E)(os:List E):List Nm:=ki e [] []++rz os
def zN(e:E)(os:List E):E:=(gY (AD e os) (cR e []) [] 0).1
theorem CZ{e:E}{os:List E}(h:e.sz<=2000)(ho:∀o,o∈os->Wf o/\o.sz<=2000)(hl:os.length<=2):(AD e os).length<=6000:=by
 have h1:=gd e [] []
 have h2:∀(l:List E),(∀o,o∈l->o.sz<=2000)->(rz l).length<=2000*l.length:=by
  intro l
  induction l with
  |nil=>intro _;simp[rz]
  |
   cons o l ih =>
   intro hl
   have:=ih fun q hq=>hl q (al _ hq)
   have:=hl o ak
   have:=gd o [] []
   simp only[rz,List.flatMap_cons,aq,az,aG]at *
   omega
 have:=h2 os fun o ho'=>(ho o ho').2
 simp only[AD,aq,aG]at *
 omega
theorem DJ{e:E}(h:Wf e)(a:AV)(os:List E)(ha:LK.sl.has a/\a.elems=E.bu os)(he:e.sz<=2000)(ho:∀o,o∈os->Wf o/\o.sz<=2000)(hl:os.length<=2) :
 an Tryz.prog 65 [.agg [.v (.string (mk e.at)),e.sp],a] [] (bK (.agg [.v (.string (mk (zN e os).at)),(zN e os).sp])):=by
 refine Q3 _ _ _ ((aX _).mpr trivial) ha.1 ?_
 unfold Ma
 have hfl:=gd e [] []
 simp only[aG,aW]at hfl
 have hap:=CZ he ho hl
 have hats:(cR e []).atoms<=2000:=by
  rw[<-h.db []]
  have:e.db<=e.sz:=by
   clear hap hfl ha he ho hl
   induction h with
   |atom _=>simp[E.db,E.sz]
   |plus _ _ i1 i2=>simp only[E.db,E.eW,E.sz,E.jo];omega
   |times _ _ i1 i2=>simp only[E.db,E.eW,E.sz,E.jo];omega
   |rc _ _ i=>simp only[E.db,E.eW,E.sz,E.jo];omega
  omega
 have hfre:=D4 h [] [] (.sl []) (.of []) (by simp;omega)
 simp only[↓zq,zs,ae,zt]
 refine aV hfre ?_
 simp only[↓zq,zs,ae,zt,aO,bx,Ob.es]
 have hlp:=OT a os ha (fun o hq=>⟨(ho o hq).1,by have:=(ho o hq).2;omega⟩) (by omega) (mk e.at) e.sp ((aX _).mpr trivial) os.length 0 (ki e [] []) (by omega) (by omega)
 rw[bb]at hlp
 refine cz hlp ?_
 simp only[↓zq,zs,ae,zt,ae,aK,bf,aX,aO,bx,Ob.es]
 have hmul:((AD e os).length+1)*(cR e []).atoms<=6001*2000:=Nat.mul_le_mul (by omega) hats
 have hren:=QJ (AD e os) (by omega) h [] [] (.sl []) (.sl []) 0 (.of []) (.of []) rfl (fun w hw=>by cases hw) (by simp;omega) (by omega)
 refine aV hren ?_
 simp only[↓zq,zs,ae,zt,aK,aL]
 repeat refine⟨by omega,?_⟩
 exact⟨rfl,rfl⟩
end Go.Proofs.Trees
namespace Go.Proofs.Trees
open Go Go.VL Go.RowKit
def fW(t:Ty):Prop:=jz t 0/\∀y,bn y t=true->qQ y
theorem gF:∀(t:Ty) {i j:Nat},jz t i->i<=j->jz t j
 | .bound u,i,j,h,hj=>Nat.lt_of_lt_of_le h hj
 | .plus a b,i,j,h,hj=>⟨gF a h.1 hj,gF b h.2 hj⟩
 | .times a b,i,j,h,hj=>⟨gF a h.1 hj,gF b h.2 hj⟩
 | .rc a,i,j,h,hj=>gF (i:=i+1) (j:=j+1) a h (by omega)
 | .zero,_,_,_,_=>trivial
 | .one,_,_,_,_=>trivial
 | .name _,_,_,_,_=>trivial
theorem gG(x:Nm):∀(t:Ty) {i:Nat},jz t (i+1)->jz (dy (.name x) t i) i
 |
  .bound u,i,h=>by
  simp only[dy]
  split
  ·trivial
  ·have:u<i+1:=h
   show u<i;omega
 | .plus a b,i,h=>⟨gG x a h.1,gG x b h.2⟩
 | .times a b,i,h=>⟨gG x a h.1,gG x b h.2⟩
 | .rc a,i,h=>gG x (i:=i+1) a h
 | .zero,_,_=>trivial
 | .one,_,_=>trivial
 | .name _,_,_=>trivial
theorem kB{x:Nm}{u:Ty}(hu:jz u 0):∀(t:Ty) {i:Nat},jz t i->jz (sub x u t) i
 | .name s,i,_=>by simp only[sub];split;exact gF u hu (dO _);trivial
 | .plus a b,i,h=>⟨kB hu a h.1,kB hu b h.2⟩
 | .times a b,i,h=>⟨kB hu a h.1,kB hu b h.2⟩
 | .rc a,i,h=>kB hu (i:=i+1) a h
 | .zero,_,_=>trivial
 | .one,_,_=>trivial
 | .bound _,_,h=>h
theorem Dv.lc{t d:Ty}{s:Nm}(h:Dv t s d):jz t 0->jz d 0:=by
 induction h with
 |zero s=>exact fun _=>trivial
 |one s=>exact fun _=>trivial
 |bound k s=>exact fun _=>trivial
 |hit s=>exact fun _=>trivial
 |qv h=>exact fun _=>trivial
 |plus h1 h2 hl i1 i2=>exact fun h=>⟨i1 h.1,i2 h.2⟩
 |times h1 h2 hl i1 i2=>exact fun h=>⟨⟨i1 h.1,h.2⟩,h.1,i2 h.2⟩
 |
  rc x hx hs h1 h2 hl i1 i2 =>
  intro h
  have g1:=kB (x:=x) h _ (i1 (gG x _ h))
  have g2:=kB (x:=x) h _ (i2 (gG x _ h))
  exact⟨gF _ g1 (by omega),gF _ g2 (by omega),Nat.zero_lt_one⟩
theorem Wf.qy{e:E}(h:Wf e):fW (cR e []):=⟨ue h [],fun y hy=>(mV h [] y hy).1⟩
theorem fW.dv{t d:Ty}{s:Nm}(g:fW t)(h:Dv t s d):fW d:=⟨h.lc g.1,fun y hy=>g.2 y (h.names y hy)⟩
theorem fW.tree{t:Ty}(g:fW t):∃e,Wf e/\cR e []=t:=by
 obtain⟨h1,h2,_⟩:=kC (bQ t []) t [] 0 (.nil _ _) g.1 fun y hy=>⟨(eT t [] y).2 (.inr hy),g.2 y hy⟩
 exact⟨_,h1,h2⟩
theorem fW.sub{x:Nm}{u t:Ty}(hu:fW u)(ht:fW t):fW (sub x u t):=⟨kB hu.1 t ht.1,fun y hy=>by
 rcases jm t hy with h|h
 ·exact hu.2 y h
 ·exact ht.2 y h.2⟩
def kL(o:Option Ty):AV->List Ob->Prop:=fun r ob=>ob=[]/\∃(c:Nm) (d:AV),LK.sl.has d/\r=.cH [.agg [.v (.string (mk c)),d],.v (.bool o.isSome)]/\∀t,o=some t->∃e,Wf e/\cR e []=t/\c=e.at/\d=e.sp
theorem kL.ne{o:Option Ty}(h:∀t,o=some t->fW t):∃r ob,kL o r ob:=by
 cases o with
 |none=>exact⟨_,_,rfl,[],yx,(bf).mpr trivial,rfl,fun t h=>by cases h⟩
 |
  some t =>
  obtain⟨e,h1,h2⟩:=(h t rfl).tree
  exact⟨_,_,rfl,e.at,e.sp,(aX _).mpr trivial,rfl,fun t' h'=>by cases h';exact⟨e,h1,h2,rfl,rfl⟩⟩
theorem kL.of{e:E}(h:Wf e):kL (some (cR e [])) (.cH [.agg [.v (.string (mk e.at)),e.sp],.v (.bool true)]) [] :=
 ⟨rfl,e.at,e.sp,(aX _).mpr trivial,rfl,fun t h'=>by cases h';exact⟨e,h,rfl,rfl,rfl⟩⟩
theorem kL.no(c:Nm)(d:AV)(hd:LK.sl.has d):kL none (.cH [.agg [.v (.string (mk c)),d],.v (.bool false)]) [] :=
 ⟨rfl,c,d,hd,rfl,fun t h'=>by cases h'⟩
theorem gx{c:ByteArray}{d:AV}(h:LK.sl.has d):bI [.str,.sl] [.v (.string c),d] 0=True:=by simp[bI,dV,h]
theorem xC{e:E}{os:List E}(h:Wf e):Wf (zN e os)/\cR (zN e os) []=cR e []/\tW (·∉AD e os) (zN e os):=by
 obtain⟨h1,h2,_,_,h5⟩:=kC (AD e os) (cR e []) [] 0 (.nil _ _) (ue h []) fun y hy=>⟨aD _ ((lM h [] [] y).2 (.inr hy)),(mV h [] y hy).1⟩
 exact⟨h1,h2,h5⟩
theorem rC{os:List E}{o:E}(ho:o∈os)(hw:Wf o){y:Nm}(hy:bn y (cR o [])=true):y∈rz os :=
 List.mem_flatMap.2 ⟨o,ho,(lM hw [] [] y).2 (.inr hy)⟩
theorem ri{s:Nm}(hs:qQ s):cR (.atom s) []=.name s:=jf hs (by simp)
theorem Nh{x:Nm}(hx:qQ x){e u:E}(h:Wf e)(hu:Wf u)(hl:e.db<=400)(hlu:u.db<=400):∃g,Wf g/\cR g []=sub x (cR u []) (cR e [])/\an Tryz.prog 121 [.agg [.v (.string (mk e.at)),e.sp],.v (.string (mk x)),.agg [.v (.string (mk u.at)),u.sp]] [] (bK (.agg [.v (.string (mk g.at)),g.sp])):=by
 obtain⟨w1,w2,w3⟩:=xC (os:=[u,.atom x]) h
 have hap:tW (fun n=>n≠x/\bn n (cR u [])=false) (zN e [u,.atom x]):=CG (fun n hn=>⟨fun e1=>hn (by
  subst e1
  exact aB _ (rC (o:=.atom n) (by simp) (.atom hx.1) (by rw[ri hx];simp[bn]))),by
  cases q:bn n (cR u [])with
  |false=>rfl
  |true=>exact absurd (aB _ (rC (o:=u) (by simp) hu q)) hn⟩) w1 w3
 obtain⟨p1,p2⟩:=D0 hx hu w1 hap [] (by simp) (fun y hy=>by cases hy)
 refine⟨_,p1,by rw[p2,w2],?_⟩
 refine Qr _ _ _ _ _ ((aX _).mpr trivial) ((aX _).mpr trivial) ?_
 unfold JC
 have s1:=h.sz
 have s2:=hu.sz
 have hA:=DJ h (.sl [[.v (.string (mk u.at)),u.sp],[.v (.string (mk x)),yx]]) [u,.atom x] ⟨(cf _).mpr trivial,by simp only[fk,E.bu,fN];rfl⟩ (by omega) (fun o ho=>by
  simp only[aJ,List.not_mem_nil,or_false]at ho
  rcases ho with rfl|rfl
  ·exact⟨hu,by omega⟩
  ·exact⟨.atom hx.1,by simp[E.sz]⟩) (by simp)
 refine aj hA ?_
 simp only[↓zq,zs,ae,zt,aL]
 repeat refine⟨by omega,?_⟩
 refine aj (QC x u w1) ?_
 simp only[↓zq,zs,ae,zt,aL]
 repeat refine⟨by omega,?_⟩
 exact⟨rfl,rfl⟩
theorem Fe{x:Nm}(hx:qQ x){e u:E}(h:Wf e)(hu:Wf u)(hl:e.db<=400)(hlu:u.db<=400):an Tryz.prog 123 [.agg [.v (.string (mk e.at)),e.sp],.v (.string (mk x)),.agg [.v (.string (mk u.at)),u.sp]] [] (kL (nE (sub x (cR u []) (cR e [])))):=by
 refine SF _ _ _ _ _ ((aX _).mpr trivial) ((aX _).mpr trivial) ?_
 unfold Mf
 refine aj (NQ hx h hu (by omega) (by omega)) ?_
 simp only[↓zq,zs,ae,zt]
 refine⟨fun hn=>?_,fun hy=>?_⟩
 ·rw[show nE (sub x (cR u []) (cR e []))=none by unfold nE;rw[if_neg hn]]
  exact kL.no _ _ ((aX _).mpr trivial)
 ·rw[show nE (sub x (cR u []) (cR e []))=some (sub x (cR u []) (cR e [])) by unfold nE;rw[if_pos hy]]
  obtain⟨g,g1,g2,g3⟩:=Nh hx h hu hl hlu
  refine aj g3 ?_
  simp only[↓zq,zs,ae,zt,aL]
  repeat refine⟨by omega,?_⟩
  rw[<-g2]
  exact kL.of g1
end Go.Proofs.Trees
namespace Go.Proofs.Trees
open Go Go.VL Go.RowKit
def ql(l:List UInt8):List (List AV):=l.map fun(x:UInt8)=>[.v (.int .u8 (x.toNat:Int))]
structure ss(b:AV)(l:List UInt8):Prop where
 has:LK.sl.has b
 el:b.elems=ql l
 len:l.length<=2000
theorem ss.ln{b:AV}{l:List UInt8}(h:ss b l):b.elems.length=l.length:=by rw[h.el];simp[ql]
theorem ss.get{b:AV}{l:List UInt8}(h:ss b l){i:Nat}(hi:i<l.length):b.elems.getD i []=[.v (.int .u8 ((l[i]).toNat:Int))]:=by rw[h.el];simp[ql,aa,hi]
def eV(b:AV)(p c:Nat)(X:AV->Prop):AV->List Ob->Prop:=fun r o=>∃q:Nat,p<=q/\q<=p+c/\X r/\o=[.cells [b,.v (.int .i64 (q:Int))]]
theorem eV.ne{b:AV}{p c:Nat}{X:AV->Prop}{r:AV}(h:X r):∃r o,eV b p c X r o:=⟨r,_,p,au _,da _ _,h,rfl⟩
theorem Ej{a b:Int}(ha:0<=a)(hb:0<=b)(ha':a<9223372036854775808)(hb':b<9223372036854775808):∃W:Nat,BU .i64 a b=(W:Int):=by
 obtain⟨x,rfl⟩:∃x:Nat,a=(x:Int):=⟨a.toNat,by omega⟩
 obtain⟨y,rfl⟩:∃y:Nat,b=(y:Int):=⟨b.toNat,by omega⟩
 have e1:(BitVec.ofInt 64 (x:Int)).toNat=x:=by simp;omega
 have e2:(BitVec.ofInt 64 (y:Int)).toNat=y:=by simp;omega
 have hlt:x ^^^ y<2 ^ 63:=Nat.xor_lt_two_pow (by omega) (by omega)
 refine⟨x ^^^ y,?_⟩
 unfold BU
 have e3:(BitVec.ofInt (IntKind.bits .i64) (x:Int) ^^^ BitVec.ofInt (IntKind.bits .i64) (y:Int)).toNat=x ^^^ y:=by
  show (BitVec.ofInt 64 (x:Int) ^^^ BitVec.ofInt 64 (y:Int)).toNat=_
  rw[BitVec.toNat_xor,e1,e2]
 rw[e3,VL.wrap64]<;>omega
theorem xY(a b:Nat):Int.tdiv (a:Int) (b:Int)=((a/b:Nat):Int):=(Int.ofNat_tdiv a b).symm
theorem qT(a b:Nat):dF (a:Int) (b:Int)=((a%b:Nat):Int):=(Int.ofNat_tmod a b).symm
theorem wm(n:Nat)(h:n<9223372036854775808):IntKind.wrap .i64 (n:Int)=(n:Int):=VL.wrap64 _ (by omega) (by omega)
def isNum(n:Nat):AV->Prop:=fun r=>∃k:Nat,r=.v (.int .i64 (k:Int))/\(1<=n->k<n)/\k<=n
abbrev qf:Nat:=1000000000000000
theorem vq(b:AV)(l:List UInt8)(hb:ss b l)(p n:Nat)(hp:p<2*qf)(hn:n<qf):an Tryz.prog 43 [.ref 0 0,.v (.int .i64 (n:Int))] [.cells [b,.v (.int .i64 (p:Int))]] (eV b p 1 (isNum n)):=by
 refine RC _ _ _ hb.has ?_
 have e1:IntKind.wrap .i64 ((p:Int)+1)=((p+1:Nat):Int):=by rw[VL.wrap64]<;>simp[qf]at hp<;>omega
 have e2:IntKind.wrap .i64 (((p+1:Nat):Int)-1)=(p:Int):=by rw[VL.wrap64]<;>simp[qf]at hp<;>omega
 have fin:∀k:Nat,(1<=n->k<n)->k<=n->eV b p 1 (isNum n) (.v (.int .i64 (k:Int))) [.cells [b,.v (.int .i64 ((p+1:Nat):Int))]]:=fun k h h'=>⟨p+1,by omega,au _,⟨k,rfl,h,h'⟩,rfl⟩
 simp only[Lf,↓zq,zs,ae,e1,e2,hb.ln,xY,qT]
 refine⟨fun h=>fin 0 (fun h'=>by omega) (dO _),fun h=>⟨hb.has,fun h0=>fin 0 (fun h'=>by omega) (dO _),fun h0=>?_⟩⟩
 have hl:0<l.length:=by omega
 have hll:=hb.len
 refine⟨hb.has,fun hlt=>?_,fun hge=>?_⟩
 ·have hlt:p<l.length:=by omega
  have hx:=(l[p]).toNat_lt
  simp only[bG,hb.get hlt,hb.has,↓zq,zs,ae]
  rw[wm _ (by omega),qT]
  have:=fin ((l[p]).toNat%n) (fun h'=>Nat.mod_lt _ (by omega)) (Nat.le_of_lt (Nat.mod_lt _ (by omega)))
  repeat (first|exact this|refine⟨by omega,?_⟩)
 ·have h1:p%l.length<l.length:=Nat.mod_lt _ hl
  have e3:IntKind.wrap .i64 ((p:Int)*7)=((p*7:Nat):Int):=by rw[VL.wrap64]<;>simp[qf]at hp<;>omega
  have e4:IntKind.wrap .i64 (((p*7:Nat):Int)+3)=((p*7+3:Nat):Int):=by rw[VL.wrap64]<;>simp[qf]at hp<;>omega
  have h2:(p*7+3)%l.length<l.length:=Nat.mod_lt _ hl
  have hx:=(l[p%l.length]).toNat_lt
  have hy:=(l[(p*7+3)%l.length]).toNat_lt
  have hq:p/l.length<=p:=Nat.div_le_self _ _
  simp only[e3,e4,qT,bG,hb.get h1,hb.get h2,hb.has,↓zq,zs,ae]
  generalize hxx:(l[p%l.length]).toNat=x at hx |-
  generalize hyy:(l[(p*7+3)%l.length]).toNat=y at hy |-
  generalize hqq:p/l.length=q at hq |-
  have f1:IntKind.wrap .i64 ((x:Int))=(x:Int):=wm _ (by omega)
  have f2:IntKind.wrap .i64 ((y:Int))=(y:Int):=wm _ (by omega)
  have f3:IntKind.wrap .i64 ((x:Int)*131)=((x*131:Nat):Int):=by rw[VL.wrap64]<;>omega
  have f4:IntKind.wrap .i64 ((y:Int)*1117)=((y*1117:Nat):Int):=by rw[VL.wrap64]<;>omega
  have f5:IntKind.wrap .i64 (((x*131:Nat):Int)+((y*1117:Nat):Int))=((x*131+y*1117:Nat):Int):=by rw[VL.wrap64]<;>omega
  have f6:IntKind.wrap .i64 ((p:Int)*29)=((p*29:Nat):Int):=by rw[VL.wrap64]<;>simp[qf]at hp<;>omega
  have f7:IntKind.wrap .i64 (((x*131+y*1117:Nat):Int)+((p*29:Nat):Int))=((x*131+y*1117+p*29:Nat):Int):=by rw[VL.wrap64]<;>simp[qf]at hp<;>omega
  have f8:IntKind.wrap .i64 ((q:Int))=(q:Int):=wm _ (by simp[qf]at hp;omega)
  have f9:IntKind.wrap .i64 ((q:Int)*53)=((q*53:Nat):Int):=by rw[VL.wrap64]<;>simp[qf]at hp<;>omega
  have f10:IntKind.wrap .i64 (((x*131+y*1117+p*29:Nat):Int)+((q*53:Nat):Int))=((x*131+y*1117+p*29+q*53:Nat):Int):=by rw[VL.wrap64]<;>simp[qf]at hp<;>omega
  simp only[f1,f2,f3,f4,f5,f6,f7,f8,f9,f10]
  generalize hV:x*131+y*1117+p*29+q*53=V
  have hVl:V<1000000000000000000:=by simp[qf]at hp;omega
  have f11:IntKind.wrap .i64 (Int.tdiv (V:Int) 64)=((V/64:Nat):Int):=by
   have:Int.tdiv (V:Int) 64=((V/64:Nat):Int):=xY V 64
   rw[this,wm _ (by omega)]
  rw[f11]
  obtain⟨W,hW⟩:=Ej (a:=(V:Int)) (b:=((V/64:Nat):Int)) (by omega) (by omega) (by omega) (by omega)
  rw[hW,qT]
  have:=fin (W%n) (fun h'=>Nat.mod_lt _ (by omega)) (Nat.le_of_lt (Nat.mod_lt _ (by omega)))
  repeat (first|exact this|refine⟨by omega,?_⟩)
def lg(L:List (List UInt8)):AV->Prop:=fun r=>∃s,s∈L/\r=.v (.string (mk s))
theorem DM(b:AV)(l:List UInt8)(hb:ss b l)(p:Nat)(hp:p<2*qf)(L:List (List UInt8))(a:AV)(ha:cy a L)(hL:0<L.length)(hLl:L.length<1000000):an Tryz.prog 62 [.ref 0 0,a] [.cells [b,.v (.int .i64 (p:Int))]] (eV b p 1 (lg L)):=by
 refine PE _ _ _ ha.1 hb.has ?_
 unfold NU
 simp only[↓zq,zs,ae,ha.len]
 refine⟨ha.1,?_⟩
 have hpk:=vq b l hb p L.length hp (by simp[qf];omega)
 refine aP hpk (eV.ne ⟨0,rfl,fun h=>h,dO _⟩) ?_
 rintro r o ⟨q,h1,h2,⟨k,rfl,h3,h4⟩,rfl⟩
 have hk:=h3 hL
 simp only[↓zq,zs,ae,zt,aK,hb.has,ha.idx hk,bG]
 refine⟨⟨ha.1,by omega⟩,?_⟩
 have:eV b p 1 (lg L) (.v (.string (mk (L.getD k [])))) [.cells [b,.v (.int .i64 (q:Int))]]:=⟨q,h1,h2,⟨_,by simp[aa,hk],rfl⟩,rfl⟩
 repeat (first|exact this|refine⟨by omega,?_⟩)
def gu(n:Nat):AV->Prop:=fun r=>∃s:List UInt8,r=.v (.string (mk s))/\s.length<=n
theorem lg.cF{L:List (List UInt8)}{n:Nat}(h:∀s,s∈L->s.length<=n){r:AV}(hr:lg L r):gu n r:=by
 obtain⟨s,h1,h2⟩:=hr;exact⟨s,h2,h s h1⟩
end Go.Proofs.Trees
namespace Go.Proofs.Trees
open Go Go.VL Go.RowKit
def j6:AV->List Ob->Prop:=fun r o=>o=[]/\∃b:Bool,r=.v (.bool b)
theorem j6.ne:∃r o,j6 r o:=⟨_,_,rfl,true,rfl⟩
theorem j6.mk(b:Bool):j6 (.v (.bool b)) []:=⟨rfl,b,rfl⟩
theorem j6.call{n:Nat}{f:Nat}{xs:List AV}{k:AV->List Ob->Tree}{Q:Nat->List AV->List Ob->Prop}(h:an Tryz.prog f xs [] j6)(hk:∀b:Bool,eZ Tryz.prog n (k (.v (.bool b)) []) Q):eZ Tryz.prog n (.call f xs [] k) Q :=
 aP h j6.ne (by rintro r o ⟨rfl,b,rfl⟩;exact hk b)
theorem JY{e:E}(h:Wf e):∀(l:List Nm) (a:AV),cy a l->l.length+e.sz<100000->an Tryz.prog 87 [.agg [.v (.string (mk e.at)),e.sp],a] [] j6:=by
 induction h with
 |
  @atom s hs =>
  intro l a ha hl
  simp only[E.sz]at hl
  refine EF _ _ _ ((aX _).mpr trivial) ha.1 ?_
  simp only[Bl,dR,↓zq,zs,ae]
  refine aj (zX s _ ((aX (.atom s)).mpr trivial) hs) ?_
  simp only[↓zq,zs,ae,zt,ha.1]
  refine⟨fun h=>(by cases h),fun _=>⟨fun h=>(by cases h),fun _=>⟨fun h=>(by cases h),fun _=>⟨fun _=>.mk true,fun _=>?_⟩⟩⟩⟩
  refine aj (xc l a ha s (by omega)) ?_
  simp only[↓zq,zs,ae]
  exact .mk _
 |
  @plus x y hx hy i1 i2 =>
  intro l a ha hl
  simp only[E.sz,E.jo]at hl
  refine EF _ _ _ ((aX _).mpr trivial) ha.1 ?_
  have hP:=P3.of (.atom [43]) x y
  simp only[Bl,bM,toNat_one,bg,↓zq,zs,ae,zt,hP.1,hP.2.1,hP.2.2.1,hP.2.2.2,aL]
  refine aj (oc [43] x y) ?_
  simp only[↓zq,zs,ae,zt,ha.1,aL]
  refine⟨fun _=>⟨by omega,by omega,j6.call (i1 l a ha (by omega)) fun b=>?_⟩,fun h=>absurd rfl h⟩
  simp only[↓zq,zs,ae]
  refine⟨fun _=>⟨by omega,by omega,j6.call (i2 l a ha (by omega)) fun b=>?_⟩,fun _=>.mk _⟩
  simp only[↓zq,zs,ae]
  exact .mk _
 |
  @times x y hx hy i1 i2 =>
  intro l a ha hl
  simp only[E.sz,E.jo]at hl
  refine EF _ _ _ ((aX _).mpr trivial) ha.1 ?_
  have hP:=P3.of (.atom [42]) x y
  simp only[Bl,bM,toNat_one,bg,↓zq,zs,ae,zt,hP.1,hP.2.1,hP.2.2.1,hP.2.2.2,aL]
  refine aj (oc [42] x y) ?_
  simp only[↓zq,zs,ae,zt,ha.1,aL]
  refine⟨fun h=>(by cases h),fun _=>⟨fun _=>⟨by omega,by omega,j6.call (i1 l a ha (by omega)) fun b=>?_⟩,fun h=>absurd rfl h⟩⟩
  simp only[↓zq,zs,ae]
  refine⟨fun _=>.mk _,fun _=>⟨by omega,by omega,j6.call (i2 l a ha (by omega)) fun b=>?_⟩⟩
  simp only[↓zq,zs,ae]
  exact .mk _
 |
  @rc n b hn hb i =>
  intro l a ha hl
  simp only[E.sz,E.jo]at hl
  refine EF _ _ _ ((aX _).mpr trivial) ha.1 ?_
  have hP:=P3.of (.atom dE) (.atom n) b
  simp only[Bl,bM,toNat_one,bg,↓zq,zs,ae,zt,hP.1,hP.2.1,hP.2.2.1,hP.2.2.2,aL]
  refine aj (oc dE (.atom n) b) ?_
  simp only[↓zq,zs,ae,zt,ha.1,aL]
  refine⟨fun h=>(by cases h),fun _=>⟨fun h=>(by cases h),fun _=>⟨fun _=>⟨by omega,by omega,by omega,by omega,?_⟩,fun h=>absurd rfl h⟩⟩⟩
  refine aV (xh l a ha n (by omega)) ?_
  simp only[↓zq,zs,ae,zt,Ob.es,aO]
  refine⟨eB _,?_⟩
  refine j6.call (i (l++[n]) _ (.of _) (by simp;omega)) fun b=>?_
  simp only[↓zq,zs,ae]
  exact .mk _
def Sn:AV->List Ob->Prop:=fun r o=>o=[]/\∃(g:E) (b:Bool),r=.cH [.agg [.v (.string (mk g.at)),g.sp],.v (.bool b)]/\Wf g/\g.db<=400
theorem Sz{n:Nm}{b:E}(hn:qQ n)(hb:Wf b)(hl:(E.list [.atom dE,.atom n,b]).db<=400):an Tryz.prog 89 [.agg [.v (.string (mk [])),(E.list [.atom dE,.atom n,b]).sp]] [] Sn:=by
 have hw:Wf (.list [.atom dE,.atom n,b]):=.rc hn hb
 refine R3 _ _ ((aX _).mpr trivial) ?_
 have hP:=P3.of (.atom dE) (.atom n) b
 have hbl:b.db<=400:=by simp only[E.db,E.eW]at hl;omega
 simp only[Lc,toNat_one,bg,↓zq,zs,ae,zt,hP.1,hP.2.1,hP.2.2.1,hP.2.2.2,aL]
 refine⟨by omega,by omega,by omega,by omega,?_⟩
 have hf:=NQ hn hb hw (by omega) (by omega)
 obtain⟨g,g1,g2,g3⟩:=Nh hn hb hw hbl hl
 simp only[bM]at hf g3
 refine aj hf ?_
 simp only[↓zq,zs,ae,zt,aL]
 refine⟨fun h=>⟨rfl,_,false,rfl,hw,hl⟩,fun h=>?_⟩
 repeat refine⟨by omega,?_⟩
 refine aj g3 ?_
 simp only[↓zq,zs,ae,zt,aL]
 refine⟨rfl,g,true,rfl,g1,?_⟩
 rw[g1.db [],g2]
 simpa using h
end Go.Proofs.Trees
namespace Go.Proofs.Trees
open Go Go.VL Go.RowKit
def jV(n:Nat):AV->Prop:=fun r=>∃e:E,r=.agg [.v (.string (mk e.at)),e.sp]/\e.ok/\(fe e).length<=n
theorem jV.u(n:Nat)(h:1<=n):jV n (.agg [.v (.string (mk [117])),.v (.slice none 0 0)]):=⟨.atom [117],rfl,by simp[E.ok],by simpa[fe]using h⟩
def jU(b:AV)(d:Int)(e:E)(B C:Nat):Prop:=∀p:Nat,p+C<qf->an Tryz.prog 64 [.ref 0 0,.agg [.v (.string (mk e.at)),e.sp],.v (.int .i64 d)] [.cells [b,.v (.int .i64 (p:Int))]] (eV b p C (jV B))
theorem jU.mono{b:AV}{d:Int}{e:E}{B C B' C':Nat}(h:jU b d e B C)(hB:B<=B')(hC:C<=C'):jU b d e B' C':=fun p hp=>an.mono (h p (by omega)) fun r o ⟨q,h1,h2,⟨g,h3,h4,h5⟩,h6⟩=>⟨q,h1,by omega,⟨g,h3,h4,by omega⟩,h6⟩
theorem oW(b:AV)(p C B:Nat)(h:1<=B):∃r o,eV b p C (jV B) r o:=eV.ne (jV.u B h)
theorem Tr(w:Nm)(e:E)(h:w.length=1):(fe (.list [.atom w,e])).length=(fe e).length+4:=by
 simp[fe,eh];omega
theorem Tu(w:Nm)(e f:E)(h:w.length=1):(fe (.list [.atom w,e,f])).length=(fe e).length+(fe f).length+5:=by
 simp[fe,eh];omega
theorem Od{b:AV}{p q q' C B:Nat}{w:Nm}{e:E}(hw:w.length=1)(h1:p<=q)(h2:q<=p+1)(h3:q<=q')(h4:q'<=q+C)(ho:e.ok)(hl:(fe e).length<=B) :
 eV b p (C+1) (jV (B+5)) (.agg [.v (.string (mk [])),(E.list [.atom w,e]).sp]) [.cells [b,.v (.int .i64 (q':Int))]] :=
 ⟨q',by omega,by omega,⟨.list [.atom w,e],rfl,⟨by intro h;rw[h]at hw;simp at hw,ho,trivial⟩,by rw[Tr w e hw];omega⟩,rfl⟩
theorem Mc(b:AV)(l:List UInt8)(hb:ss b l)(d:Int){s:Nm}(hs:s≠[]):jU b d (.atom s) 5 1:=by
 intro p hp
 refine C7 _ _ _ _ _ ((aX (.atom s)).mpr trivial) hb.has ?_
 simp only[AU,dR,↓zq,zs,ae]
 refine aj (zX s _ ((aX (.atom s)).mpr trivial) hs) ?_
 simp only[↓zq,zs,ae,zt]
 refine⟨fun h=>(by cases h),fun _=>⟨fun h=>(by cases h),fun _=>⟨fun h=>(by cases h),fun _=>⟨fun _=>?_,fun _=>?_⟩⟩⟩⟩
 ·exact⟨p,au _,by omega,jV.u 5 (by omega),rfl⟩
 ·refine aP (vq b l hb p 3 (by omega) (by decide)) (eV.ne ⟨0,rfl,fun h=>by omega,by omega⟩) ?_
  rintro r o ⟨q,h1,h2,⟨k,rfl,h3,h4⟩,rfl⟩
  have hk:k<3:=h3 (by omega)
  simp only[↓zq,zs,ae,aK,hb.has]
  refine aj (Ao (k+1) k (by omega) (by omega)) ?_
  have hd:dd k=[bj (48+k)]:=eI (by omega)
  simp only[↓zq,zs,ae,zt,hd]
  refine⟨by simp,q,h1,h2,⟨.atom ([101]++[bj (48+k)]),rfl,by simp[E.ok],by simp[fe]⟩,rfl⟩
theorem KN(b:AV)(l:List UInt8)(hb:ss b l)(d:Int)(hd:-100000<=d/\d<=100000){n:Nm}{e:E}(hn:qQ n)(he:Wf e)(hl:(E.list [.atom dE,.atom n,e]).db<=400)(B C:Nat)(ih:-12<=d->∀g,Wf g->g.db<=400->jU b (d-1) g B C)(hB:1<=B):jU b d (.list [.atom dE,.atom n,e]) (B+5) (C+1):=by
 intro p hp
 refine C7 _ _ _ _ _ ((aX _).mpr trivial) hb.has ?_
 have ed:IntKind.wrap .i64 (d-1)=d-1:=VL.wrap64 _ (by omega) (by omega)
 simp only[AU,bM,↓zq,zs,ae,ed]
 refine aj (oc dE (.atom n) e) ?_
 simp only[↓zq,zs,ae,zt]
 have hu:=Sz hn he hl
 refine⟨fun h=>(by cases h),fun _=>⟨fun h=>(by cases h),fun _=>⟨fun _=>?_,fun h=>absurd rfl h⟩⟩⟩
 refine aP hu ⟨_,_,rfl,.atom [117],true,rfl,.atom (by simp),by simp[E.db]⟩ ?_
 rintro r o ⟨rfl,g,c,rfl,g1,g2⟩
 have u:eV b p (C+1) (jV (B+5)) (.agg [.v (.string (mk [117])),.v (.slice none 0 0)]) [.cells [b,.v (.int .i64 (p:Int))]]:=⟨p,au _,by omega,jV.u _ (by omega),rfl⟩
 simp only[↓zq,zs,ae,zt,aL]
 refine⟨fun _=>u,fun _=>⟨fun _=>u,fun hd2=>?_⟩⟩
 refine aP (ih (by omega) g g1 g2 p (by omega)) (oW b p C B hB) ?_
 rintro r o ⟨q,h1,h2,⟨f,rfl,h4,h5⟩,rfl⟩
 simp only[↓zq,zs,ae,zt,aK,hb.has,aL]
 repeat refine⟨by omega,?_⟩
 refine aj (xu [102] f) ?_
 simp only[↓zq,zs,ae,zt,aK,hb.has,aL]
 have fin:=Od (b:=b) (w:=[102]) rfl (au p) (by omega) h1 h2 h4 h5
 first|exact fin|exact⟨by omega,fin⟩
theorem Mm(b:AV)(l:List UInt8)(hb:ss b l)(d:Int)(hd:-100000<=d/\d<=100000){x y:E}(hx:Wf x)(hy:Wf y)(B1 C1 B2 C2:Nat)(ix:jU b (d-1) x B1 C1)(iy:jU b (d-1) y B2 C2)(hB:1<=B1)(hB2:1<=B2):jU b d (.list [.atom [42],x,y]) (B1+B2+5) (C1+C2+1):=by
 intro p hp
 refine C7 _ _ _ _ _ ((aX _).mpr trivial) hb.has ?_
 have ed:IntKind.wrap .i64 (d-1)=d-1:=VL.wrap64 _ (by omega) (by omega)
 have hP:=P3.of (.atom [42]) x y
 simp only[AU,bM,toNat_one,bg,↓zq,zs,ae,zt,hP.1,hP.2.1,hP.2.2.1,hP.2.2.2,aL,ed]
 refine aj (oc [42] x y) ?_
 simp only[↓zq,zs,ae,zt]
 refine⟨fun h=>(by cases h),fun _=>⟨fun _=>?_,fun h=>absurd rfl h⟩⟩
 refine⟨by omega,by omega,aP (ix p (by omega)) (oW b p C1 B1 hB) ?_⟩
 rintro r o ⟨q,h1,h2,⟨f,rfl,h4,h5⟩,rfl⟩
 simp only[↓zq,zs,ae,zt,aK,hb.has,aL]
 repeat refine⟨by omega,?_⟩
 refine aP (iy q (by omega)) (oW b q C2 B2 hB2) ?_
 rintro r o ⟨q',g1,g2,⟨g,rfl,g4,g5⟩,rfl⟩
 simp only[↓zq,zs,ae,zt,aK,hb.has,aL]
 repeat refine⟨by omega,?_⟩
 refine aj (wK [112] f g) ?_
 simp only[↓zq,zs,ae,zt,aK,hb.has,aL]
 have fin:eV b p (C1+C2+1) (jV (B1+B2+5)) (.agg [.v (.string (mk [])),(E.list [.atom [112],f,g]).sp]) [.cells [b,.v (.int .i64 (q':Int))]]:=⟨q',by omega,by omega,⟨.list [.atom [112],f,g],rfl,⟨by simp[E.ok],h4,g4,trivial⟩,by rw[Tu [112] f g rfl];omega⟩,rfl⟩
 first|exact fin|exact⟨by omega,fin⟩
theorem Ml(b:AV)(l:List UInt8)(hb:ss b l)(d:Int)(hd:-100000<=d/\d<=100000){x y:E}(hx:Wf x)(hy:Wf y)(hl:(E.list [.atom [43],x,y]).db<=400)(B C:Nat)(ix:jU b (d-1) x B C)(iy:jU b (d-1) y B C)(hB:1<=B):jU b d (.list [.atom [43],x,y]) (B+5) (C+1):=by
 intro p hp
 refine C7 _ _ _ _ _ ((aX _).mpr trivial) hb.has ?_
 have ed:IntKind.wrap .i64 (d-1)=d-1:=VL.wrap64 _ (by omega) (by omega)
 have hP:=P3.of (.atom [43]) x y
 simp only[E.db,E.eW]at hl
 have s1:=hx.sz
 have s2:=hy.sz
 simp only[AU,bM,toNat_one,bg,↓zq,zs,ae,zt,hP.1,hP.2.1,hP.2.2.1,hP.2.2.2,aL,ed]
 refine aj (oc [43] x y) ?_
 simp only[↓zq,zs,ae,zt]
 refine⟨fun _=>?_,fun h=>absurd rfl h⟩
 refine aP (vq b l hb p 2 (by omega) (by decide)) (eV.ne ⟨0,rfl,fun h=>by omega,by omega⟩) ?_
 rintro r o ⟨q,h1,h2,⟨k,rfl,_,_⟩,rfl⟩
 simp only[↓zq,zs,ae,zt,aK,hb.has,aL]
 have ex:=JY hx [] (.sl []) (.of []) (by simp;omega)
 have ey:=JY hy [] (.sl []) (.of []) (by simp;omega)
 have ax:=Dz x hx.ok (by omega)
 have ay:=Dz y hy.ok (by omega)
 rw[dm]at ax ay
 have lx:=ix q (by omega)
 have ly:=iy q (by omega)
 have t:=oW b q C B hB
 have leaf:∀(w:Nm) (q':Nat) (f:E),w.length=1->q<=q'->q'<=q+C->f.ok->(fe f).length<=B->eV b p (C+1) (jV (B+5)) (.agg [.v (.string (mk [])),(E.list [.atom w,f]).sp]) [.cells [b,.v (.int .i64 (q':Int))]]:=fun w q' f hw g1 g2 h4 h5=>Od hw h1 h2 g1 g2 h4 h5
 repeat' first
  |intro _
  |refine⟨by omega,?_⟩
  |(
   with_reducible refine aP lx t ?_
   rintro r o ⟨q',g1,g2,⟨f,rfl,h4,h5⟩,rfl⟩
   simp only[↓zq,zs,ae,zt,aK,hb.has,aL]
   repeat refine⟨by omega,?_⟩
   refine aj (xu _ f) ?_
   simp only[↓zq,zs,ae,zt,aK,hb.has,aL]
   have fin:=leaf [108] q' f rfl g1 g2 h4 h5
   first|exact fin|exact⟨by omega,fin⟩)
  |(
   with_reducible refine aP ly t ?_
   rintro r o ⟨q',g1,g2,⟨f,rfl,h4,h5⟩,rfl⟩
   simp only[↓zq,zs,ae,zt,aK,hb.has,aL]
   repeat refine⟨by omega,?_⟩
   refine aj (xu _ f) ?_
   simp only[↓zq,zs,ae,zt,aK,hb.has,aL]
   have fin:=leaf [114] q' f rfl g1 g2 h4 h5
   first|exact fin|exact⟨by omega,fin⟩)
  |(with_reducible refine j6.call ex fun _=>?_;simp only[↓zq,zs,ae,zt,aL])
  |(with_reducible refine j6.call ey fun _=>?_;simp only[↓zq,zs,ae,zt,aL])
  |(with_reducible refine aj ax ?_;simp only[↓zq,zs,ae,zt,aL])
  |(with_reducible refine aj ay ?_;simp only[↓zq,zs,ae,zt,aL])
  |with_reducible refine aH ?_ ?_
  |(exfalso;omega)
end Go.Proofs.Trees
namespace Go.Proofs.Trees
open Go Go.VL Go.RowKit
def nt:Nat->Nat
 |0=>2
 |d+1=>2*nt d+15
def nu:Nat->Nat
 |0=>3
 |d+1=>2*nu d+8
theorem Sr(d:Nat):2<=nt d:=by cases d<;>simp only[nt]<;>omega
theorem SN(d:Nat):3<=nu d:=by cases d<;>simp only[nu]<;>omega
theorem Ff:∀d:Nat,d<=10->nt d<=100000000
 |0,_=>by decide
 |1,_=>by decide
 |2,_=>by decide
 |3,_=>by decide
 |4,_=>by decide
 |5,_=>by decide
 |6,_=>by decide
 |7,_=>by decide
 |8,_=>by decide
 |9,_=>by decide
 |10,_=>by decide
 |d+11,h=>by omega
theorem BB(b:AV)(l:List UInt8)(hb:ss b l)(p:Nat)(hp:p<2*qf):an Tryz.prog 75 [.ref 0 0] [.cells [b,.v (.int .i64 (p:Int))]] (eV b p 1 (gu 60)):=by
 refine Pp _ _ hb.has ?_
 unfold MY
 refine aP (DM b l hb p hp _ _ (.of [_,_,_,_,_,_,_]) (by simp) (by simp)) (eV.ne ⟨_,ak,rfl⟩) ?_
 rintro r o ⟨q,h1,h2,hr,rfl⟩
 obtain⟨s,rfl,hs⟩:=lg.cF (n:=60) (by decide) hr
 simp only[↓zq,zs,ae,aK,hb.has]
 exact⟨q,h1,h2,⟨s,rfl,hs⟩,rfl⟩
theorem Ik(b:AV)(l:List UInt8)(hb:ss b l):∀(d:Nat),d<=10->∀(p:Nat) (ls:List (List UInt8)) (a:AV),cy a ls->(∀s,s∈ls->s.length<=2)->ls.length+d<=100->p+nu d<2*qf ->
 an Tryz.prog 144 [.ref 0 0,a,.v (.int .i64 (d:Int))] [.cells [b,.v (.int .i64 (p:Int))]] (eV b p (nu d) (gu (nt d))):=by
 intro d
 induction d with
 |
  zero =>
  intro hd p ls a ha hls hll hp
  simp only[nu]at hp
  refine Ki _ _ _ _ ha.1 hb.has ?_
  simp only[FX,↓zq,zs,ae,ha.len]
  refine⟨fun _=>⟨ha.1,fun hpos=>?_,fun _=>?_⟩,fun h=>by omega⟩
  ·refine aP (vq b l hb p 3 (by omega) (by decide)) (eV.ne ⟨0,rfl,fun h=>by omega,by omega⟩) ?_
   rintro r o ⟨q1,h1,h2,⟨k,rfl,h3,h4⟩,rfl⟩
   simp only[↓zq,zs,ae,aK,hb.has]
   refine⟨fun _=>⟨ha.1,?_⟩,fun _=>?_⟩
   ·refine aP (vq b l hb q1 ls.length (by omega) (by simp[qf];omega)) (eV.ne ⟨0,rfl,fun h=>by omega,by omega⟩) ?_
    rintro r o ⟨q2,g1,g2,⟨k2,rfl,g3,g4⟩,rfl⟩
    have hk:=g3 (by omega)
    simp only[↓zq,zs,ae,aK,hb.has,bG,ha.idx hk]
    have:eV b p (nu 0) (gu (nt 0)) (.v (.string (mk (ls.getD k2 [])))) [.cells [b,.v (.int .i64 (q2:Int))]]:=⟨q2,by omega,by simp only[nu];omega,⟨_,rfl,by
     have:=hls (ls.getD k2 []) (by simp[aa,hk]);simp only[nt];omega⟩,rfl⟩
    refine⟨⟨ha.1,by omega⟩,?_⟩
    repeat (first|exact this|refine⟨by omega,?_⟩)
   ·refine aP (DM b l hb q1 (by omega) _ _ (.of [_,_,_,_,_,_]) (by simp) (by simp)) (eV.ne ⟨_,ak,rfl⟩) ?_
    rintro r o ⟨q2,g1,g2,hr,rfl⟩
    obtain⟨s,rfl,hs⟩:=lg.cF (n:=2) (by decide) hr
    simp only[↓zq,zs,ae,aK,hb.has]
    exact⟨q2,by omega,by simp only[nu];omega,⟨s,rfl,by simp only[nt];omega⟩,rfl⟩
  ·refine aP (DM b l hb p (by omega) _ _ (.of [_,_,_,_,_,_]) (by simp) (by simp)) (eV.ne ⟨_,ak,rfl⟩) ?_
   rintro r o ⟨q2,g1,g2,hr,rfl⟩
   obtain⟨s,rfl,hs⟩:=lg.cF (n:=2) (by decide) hr
   simp only[↓zq,zs,ae,aK,hb.has]
   exact⟨q2,by omega,by simp only[nu];omega,⟨s,rfl,by simp only[nt];omega⟩,rfl⟩
 |
  succ d ih =>
  intro hd p ls a ha hls hll hp
  simp only[nu]at hp
  have hL:=Sr d
  have hC:=SN d
  have ih:=ih (by omega)
  have hL8:=Ff d (by omega)
  have ed:IntKind.wrap .i64 (((d+1:Nat):Int)-1)=(d:Int):=by rw[VL.wrap64]<;>omega
  refine Ki _ _ _ _ ha.1 hb.has ?_
  simp only[FX,↓zq,zs,ae,ha.len,ed]
  refine⟨fun h=>by omega,fun _=>?_⟩
  refine aP (vq b l hb p 4 (by omega) (by decide)) (eV.ne ⟨0,rfl,fun h=>by omega,by omega⟩) ?_
  rintro r o ⟨q0,a1,a2,⟨k0,rfl,_,_⟩,rfl⟩
  simp only[↓zq,zs,ae,aK,hb.has]
  refine⟨fun _=>⟨ha.1,fun hpos=>?_,fun _=>?_⟩,fun _=>?_⟩
  ·refine aP (vq b l hb q0 3 (by omega) (by decide)) (eV.ne ⟨0,rfl,fun h=>by omega,by omega⟩) ?_
   rintro r o ⟨q1,h1,h2,⟨k,rfl,h3,h4⟩,rfl⟩
   simp only[↓zq,zs,ae,aK,hb.has]
   refine⟨fun _=>⟨ha.1,?_⟩,fun _=>?_⟩
   ·refine aP (vq b l hb q1 ls.length (by omega) (by simp[qf];omega)) (eV.ne ⟨0,rfl,fun h=>by omega,by omega⟩) ?_
    rintro r o ⟨q2,g1,g2,⟨k2,rfl,g3,g4⟩,rfl⟩
    have hk:=g3 (by omega)
    simp only[↓zq,zs,ae,aK,hb.has,bG,ha.idx hk]
    have:eV b p (nu (d+1)) (gu (nt (d+1))) (.v (.string (mk (ls.getD k2 [])))) [.cells [b,.v (.int .i64 (q2:Int))]]:=⟨q2,by omega,by simp only[nu];omega,⟨_,rfl,by
     have:=hls (ls.getD k2 []) (by simp[aa,hk]);simp only[nt];omega⟩,rfl⟩
    refine⟨⟨ha.1,by omega⟩,?_⟩
    repeat (first|exact this|refine⟨by omega,?_⟩)
   ·refine aP (DM b l hb q1 (by omega) _ _ (.of [_,_,_,_,_,_]) (by simp) (by simp)) (eV.ne ⟨_,ak,rfl⟩) ?_
    rintro r o ⟨q2,g1,g2,hr,rfl⟩
    obtain⟨s,rfl,hs⟩:=lg.cF (n:=2) (by decide) hr
    simp only[↓zq,zs,ae,aK,hb.has]
    exact⟨q2,by omega,by simp only[nu];omega,⟨s,rfl,by simp only[nt];omega⟩,rfl⟩
  ·refine aP (DM b l hb q0 (by omega) _ _ (.of [_,_,_,_,_,_]) (by simp) (by simp)) (eV.ne ⟨_,ak,rfl⟩) ?_
   rintro r o ⟨q2,g1,g2,hr,rfl⟩
   obtain⟨s,rfl,hs⟩:=lg.cF (n:=2) (by decide) hr
   simp only[↓zq,zs,ae,aK,hb.has]
   exact⟨q2,by omega,by simp only[nu];omega,⟨s,rfl,by simp only[nt];omega⟩,rfl⟩
  ·refine aP (vq b l hb q0 5 (by omega) (by decide)) (eV.ne ⟨0,rfl,fun h=>by omega,by omega⟩) ?_
   rintro r o ⟨q1,b1,b2,⟨k1,rfl,c3,_⟩,rfl⟩
   have hk1:=c3 (by omega)
   obtain rfl|rfl|rfl|rfl|rfl:k1=0\/k1=1\/k1=2\/k1=3\/k1=4:=by omega
   ·simp only[↓zq,zs,ae,aK,hb.has]
    refine⟨fun _=>?_,fun h=>absurd rfl h⟩
    refine aP (ih q1 ls a ha hls (by omega) (by omega)) (eV.ne ⟨[],rfl,by simp⟩) ?_
    rintro r o ⟨q2,d1,d2,⟨s1,rfl,d3⟩,rfl⟩
    simp only[↓zq,zs,ae,zt,aK,hb.has,aq]
    repeat refine⟨by first|omega|(simp only[aq,az,aG];omega),?_⟩
    refine aP (ih q2 ls a ha hls (by omega) (by omega)) (eV.ne ⟨[],rfl,by simp⟩) ?_
    rintro r o ⟨q3,e1,e2,⟨s2,rfl,e3⟩,rfl⟩
    simp only[↓zq,zs,ae,zt,aK,hb.has,aq]
    have fin:∀s:List UInt8,s.length<=nt (d+1)->eV b p (nu (d+1)) (gu (nt (d+1))) (.v (.string (mk s))) [.cells [b,.v (.int .i64 (q3:Int))]]:=fun s hs=>⟨q3,by omega,by simp only[nu];omega,⟨s,rfl,hs⟩,rfl⟩
    repeat (first|exact fin _ (by simp only[aq,az,aG,nt];omega)|refine⟨by first|omega|(simp only[aq,az,aG];omega),?_⟩)
   ·simp only[↓zq,zs,ae,aK,hb.has]
    refine⟨fun h=>by omega,fun _=>⟨fun _=>?_,fun h=>absurd rfl h⟩⟩
    refine aP (ih q1 ls a ha hls (by omega) (by omega)) (eV.ne ⟨[],rfl,by simp⟩) ?_
    rintro r o ⟨q2,d1,d2,⟨s1,rfl,d3⟩,rfl⟩
    simp only[↓zq,zs,ae,zt,aK,hb.has,aq]
    repeat refine⟨by first|omega|(simp only[aq,az,aG];omega),?_⟩
    refine aP (ih q2 ls a ha hls (by omega) (by omega)) (eV.ne ⟨[],rfl,by simp⟩) ?_
    rintro r o ⟨q3,e1,e2,⟨s2,rfl,e3⟩,rfl⟩
    simp only[↓zq,zs,ae,zt,aK,hb.has,aq]
    have fin:∀s:List UInt8,s.length<=nt (d+1)->eV b p (nu (d+1)) (gu (nt (d+1))) (.v (.string (mk s))) [.cells [b,.v (.int .i64 (q3:Int))]]:=fun s hs=>⟨q3,by omega,by simp only[nu];omega,⟨s,rfl,hs⟩,rfl⟩
    repeat (first|exact fin _ (by simp only[aq,az,aG,nt];omega)|refine⟨by first|omega|(simp only[aq,az,aG];omega),?_⟩)
   ·simp only[↓zq,zs,ae,aK,hb.has]
    refine⟨fun h=>by omega,fun _=>⟨fun h=>by omega,fun _=>⟨fun _=>?_,fun h=>absurd rfl h⟩⟩⟩
    refine aP (ih q1 ls a ha hls (by omega) (by omega)) (eV.ne ⟨[],rfl,by simp⟩) ?_
    rintro r o ⟨q2,d1,d2,⟨s1,rfl,d3⟩,rfl⟩
    simp only[↓zq,zs,ae,zt,aK,hb.has,aq]
    repeat refine⟨by first|omega|(simp only[aq,az,aG];omega),?_⟩
    refine aP (ih q2 ls a ha hls (by omega) (by omega)) (eV.ne ⟨[],rfl,by simp⟩) ?_
    rintro r o ⟨q3,e1,e2,⟨s2,rfl,e3⟩,rfl⟩
    simp only[↓zq,zs,ae,zt,aK,hb.has,aq]
    have fin:∀s:List UInt8,s.length<=nt (d+1)->eV b p (nu (d+1)) (gu (nt (d+1))) (.v (.string (mk s))) [.cells [b,.v (.int .i64 (q3:Int))]]:=fun s hs=>⟨q3,by omega,by simp only[nu];omega,⟨s,rfl,hs⟩,rfl⟩
    repeat (first|exact fin _ (by simp only[aq,az,aG,nt];omega)|refine⟨by first|omega|(simp only[aq,az,aG];omega),?_⟩)
   ·simp only[↓zq,zs,ae,aK,hb.has]
    refine⟨fun h=>by omega,fun _=>⟨fun h=>by omega,fun _=>⟨fun h=>by omega,fun _=>⟨fun _=>?_,fun h=>absurd rfl h⟩⟩⟩⟩
    refine aP (ih q1 ls a ha hls (by omega) (by omega)) (eV.ne ⟨[],rfl,by simp⟩) ?_
    rintro r o ⟨q2,d1,d2,⟨s1,rfl,d3⟩,rfl⟩
    simp only[↓zq,zs,ae,zt,aK,hb.has,aq]
    repeat refine⟨by first|omega|(simp only[aq,az,aG];omega),?_⟩
    refine aP (ih q2 ls a ha hls (by omega) (by omega)) (eV.ne ⟨[],rfl,by simp⟩) ?_
    rintro r o ⟨q3,e1,e2,⟨s2,rfl,e3⟩,rfl⟩
    simp only[↓zq,zs,ae,zt,aK,hb.has,aq]
    have fin:∀s:List UInt8,s.length<=nt (d+1)->eV b p (nu (d+1)) (gu (nt (d+1))) (.v (.string (mk s))) [.cells [b,.v (.int .i64 (q3:Int))]]:=fun s hs=>⟨q3,by omega,by simp only[nu];omega,⟨s,rfl,hs⟩,rfl⟩
    repeat (first|exact fin _ (by simp only[aq,az,aG,nt];omega)|refine⟨by first|omega|(simp only[aq,az,aG];omega),?_⟩)
   ·simp only[↓zq,zs,ae,aK,hb.has]
    refine⟨fun h=>by omega,fun _=>⟨fun h=>by omega,fun _=>⟨fun h=>by omega,fun _=>⟨fun h=>by omega,fun _=>?_⟩⟩⟩⟩
    refine aP (DM b l hb q1 (by omega) _ _ (.of [_,_,_]) (by simp) (by simp)) (eV.ne ⟨_,ak,rfl⟩) ?_
    rintro r o ⟨q2,g1,g2,hr,rfl⟩
    obtain⟨s,rfl,hs⟩:=lg.cF (n:=2) (by decide) hr
    simp only[↓zq,zs,ae,zt,aK,hb.has]
    repeat refine⟨by first|omega|(simp only[aq,az,aG];omega),?_⟩
    refine aV (xh ls a ha s (by omega)) ?_
    simp only[↓zq,zs,ae,Ob.es,aO]
    refine⟨eB _,?_⟩
    refine aP (ih q2 (ls++[s]) _ (.of _) (fun w hw=>by
     rcases aN.1 hw with hw|hw
     ·exact hls w hw
     ·simp at hw;rw[hw];exact hs) (by simp;omega) (by omega)) (eV.ne ⟨[],rfl,by simp⟩) ?_
    rintro r o ⟨q3,e1,e2,⟨s2,rfl,e3⟩,rfl⟩
    simp only[↓zq,zs,ae,zt,aK,hb.has,aq]
    have fin:∀s:List UInt8,s.length<=nt (d+1)->eV b p (nu (d+1)) (gu (nt (d+1))) (.v (.string (mk s))) [.cells [b,.v (.int .i64 (q3:Int))]]:=fun s hs=>⟨q3,by omega,by simp only[nu];omega,⟨s,rfl,hs⟩,rfl⟩
    repeat (first|exact fin _ (by simp only[aq,az,aG,nt];omega)|refine⟨by first|omega|(simp only[aq,az,aG];omega),?_⟩)
end Go.Proofs.Trees
namespace Go.Proofs.Trees
open Go Go.VL Go.RowKit
theorem eV.mono{b:AV}{p c c':Nat}{X Y:AV->Prop}(hc:c<=c')(h:∀r,X r->Y r){r:AV}{o:List Ob}(hr:eV b p c X r o):eV b p c' Y r o:=by
 obtain⟨q,h1,h2,h3,h4⟩:=hr;exact⟨q,h1,by omega,h r h3,h4⟩
theorem gu.le{n m:Nat}(h:n<=m){r:AV}(hr:gu n r):gu m r:=by obtain⟨s,h1,h2⟩:=hr;exact⟨s,h1,by omega⟩
theorem Po(b:AV)(l:List UInt8)(hb:ss b l)(p:Nat)(hp:p<qf):an Tryz.prog 143 [.ref 0 0] [.cells [b,.v (.int .i64 (p:Int))]] (eV b p 100 (gu 200)):=by
 refine RO _ _ hb.has ?_
 unfold Ka
 have hfar:qf=1000000000000000:=rfl
 refine aP (vq b l hb p 12 (by omega) (by decide)) (eV.ne ⟨0,rfl,fun h=>by omega,by omega⟩) ?_
 rintro r o ⟨q,h1,h2,⟨k,rfl,_,_⟩,rfl⟩
 have kn:∀(c m:Nat) (r:AV) (o:List Ob),c<=90->m<=200->eV b q c (gu m) r o->∃q':Nat,∃s:List UInt8,r=.v (.string (mk s))/\o=[.cells [b,.v (.int .i64 (q':Int))]]/\eV b p 100 (gu 200) (.v (.string (mk s))) [.cells [b,.v (.int .i64 (q':Int))]]:=by
  rintro c m r o hc hm ⟨q',g1,g2,⟨s,rfl,hs⟩,rfl⟩
  exact⟨q',s,rfl,rfl,q',by omega,by omega,⟨s,rfl,by omega⟩,rfl⟩
 simp only[↓zq,zs,ae,aK,hb.has]
 refine⟨fun _=>?_,fun _=>⟨fun _=>?_,fun _=>⟨fun _=>?_,fun _=>⟨fun _=>?_,fun _=>⟨fun _=>?_,fun _=>?_⟩⟩⟩⟩⟩
 ·refine aP (DM b l hb q (by omega) _ _ (.of [_,_,_,_,_,_,_,_,_]) (by simp) (by simp)) (eV.ne ⟨_,ak,rfl⟩) ?_
  intro r o hr
  obtain⟨q',s,rfl,rfl,hd⟩:=kn 1 20 r o (by omega) (by omega) (hr.mono (au _) fun r h=>lg.cF (n:=20) (by decide) h)
  simp only[↓zq,zs,ae,aK,hb.has];exact hd
 ·refine aP (BB b l hb q (by omega)) (eV.ne ⟨[],rfl,by simp⟩) ?_
  intro r o hr
  obtain⟨q',s,rfl,rfl,hd⟩:=kn _ _ r o (by omega) (by omega) hr
  simp only[↓zq,zs,ae,aK,hb.has];exact hd
 ·refine aP (BB b l hb q (by omega)) (eV.ne ⟨[],rfl,by simp⟩) ?_
  intro r o hr
  obtain⟨q',s,rfl,rfl,hd⟩:=kn _ _ r o (by omega) (by omega) hr
  simp only[↓zq,zs,ae,aK,hb.has];exact hd
 ·refine aP (BB b l hb q (by omega)) (eV.ne ⟨[],rfl,by simp⟩) ?_
  intro r o hr
  obtain⟨q',s,rfl,rfl,hd⟩:=kn _ _ r o (by omega) (by omega) hr
  simp only[↓zq,zs,ae,aK,hb.has];exact hd
 ·refine aP (Ik b l hb 2 (by omega) q [[116],[116,49]] _ (cy.of [[116],[116,49]]) (by decide) (by simp) (by simp[nu];omega)) (eV.ne ⟨[],rfl,by simp⟩) ?_
  intro r o hr
  obtain⟨q',s,rfl,rfl,hd⟩:=kn _ _ r o (by simp[nu]) (by simp[nt]) hr
  simp only[↓zq,zs,ae,aK,hb.has];exact hd
 ·refine aP (Ik b l hb 3 (by omega) q [] _ (cy.of []) (by simp) (by simp) (by simp[nu];omega)) (eV.ne ⟨[],rfl,by simp⟩) ?_
  intro r o hr
  obtain⟨q',s,rfl,rfl,hd⟩:=kn _ _ r o (by simp[nu]) (by simp[nt]) hr
  simp only[↓zq,zs,ae,aK,hb.has];exact hd
def yX(a:AV):Prop:=LK.sl.has a/\∃l:List UInt8,a.elems=ql l
def Pf(r:AV)(o:List Ob):Prop:=∃(b:AV) (l:List UInt8),ss b l/\r=.ref 0 0/\o=[.cells [b,.v (.int .i64 0)]]
theorem Pf.ne:∃r o,Pf r o:=⟨_,_,.v (.slice none 0 0),[],⟨(bf).mpr trivial,rfl,by simp⟩,rfl,rfl⟩
theorem S1(a:AV)(ha:yX a):an Tryz.prog 32 [a] [] Pf:=by
 obtain⟨hs,l,hl⟩:=ha
 have hln:a.elems.length=l.length:=by rw[hl];simp[ql]
 refine Rz _ hs ?_
 simp only[Jg,↓zq,zs,ae,hln]
 refine⟨hs,fun h=>⟨⟨hs,by omega⟩,?_⟩,fun h=>?_⟩
 ·refine⟨_,l.take 2000,⟨(cf _).mpr trivial,?_,?_⟩,rfl,rfl⟩
  ·rw[fk,hl];simp[ql]
  ·simp;omega
 ·exact⟨a,l,⟨hs,hl,by omega⟩,rfl,rfl⟩
end Go.Proofs.Trees
namespace Go.Proofs.Trees
open Go Go.VL Go.RowKit
theorem CC(b:AV)(l:List UInt8)(hb:ss b l){e:E}(h:Wf e):∀d:Int,d<=-13->-50000+(e.sz:Int)<=d->e.db<=400->jU b d e (5*e.sz) e.sz:=by
 induction h with
 |
  @atom s hs =>
  intro d h1 h2 h3
  exact(Mc b l hb d hs).mono (by simp[E.sz]) (by simp[E.sz])
 |
  @plus x y hx hy i1 i2 =>
  intro d h1 h2 h3
  have h4:=h3
  simp only[E.sz,E.jo,E.db,E.eW]at h2 h4 |-
  exact(Ml b l hb d (by omega) hx hy h3 (5*(x.sz+y.sz)+1) (x.sz+y.sz) ((i1 (d-1) (by omega) (by omega) (by omega)).mono (by omega) (by omega)) ((i2 (d-1) (by omega) (by omega) (by omega)).mono (by omega) (by omega)) (by omega)).mono (by omega) (by omega)
 |
  @times x y hx hy i1 i2 =>
  intro d h1 h2 h3
  have h4:=h3
  simp only[E.sz,E.jo,E.db,E.eW]at h2 h4 |-
  exact(Mm b l hb d (by omega) hx hy (5*x.sz+1) x.sz (5*y.sz+1) y.sz ((i1 (d-1) (by omega) (by omega) (by omega)).mono (by omega) (by omega)) ((i2 (d-1) (by omega) (by omega) (by omega)).mono (by omega) (by omega)) (by omega) (by omega)).mono (by omega) (by omega)
 |
  @rc n x hn hx i =>
  intro d h1 h2 h3
  simp only[E.sz,E.jo]at h2 |-
  exact(KN b l hb d (by omega) hn hx h3 1 0 (fun h=>absurd h (by omega)) (by omega)).mono (by omega) (by omega)
def pB:Nat->Nat
 |0=>6100
 |n+1=>2*pB n+5
theorem Hf:∀n,6100<=pB n
 |0=>au _
 |n+1=>by have:=Hf n;simp only[pB];omega
theorem wJ:∀n k:Nat,pB (n+k)+5=2 ^ k*(pB n+5)
 |n,0=>by simp
 |
  n,k+1=>by
  have:=wJ n k
  rw[show n+(k+1)=n+k+1 from rfl,pB,Nat.pow_succ,Nat.mul_comm (2 ^ k) 2,Nat.mul_assoc,<-this];omega
theorem Bc{n m:Nat}(h:n<=m):pB n<=pB m:=by
 obtain⟨k,rfl⟩:=Nat.exists_eq_add_of_le h
 have:=wJ n k
 have h2:1*(pB n+5)<=2 ^ k*(pB n+5):=a6 _ Nat.one_le_two_pow
 omega
theorem Og:pB 22<=30000000000:=by
 have:=wJ 0 22
 simp only[aW]at this
 have h0:pB 0=6100:=rfl
 rw[h0]at this
 omega
theorem xP(b:AV)(l:List UInt8)(hb:ss b l):∀n:Nat,n<=40->∀e,Wf e->e.db<=400->jU b ((n:Int)-13) e (pB n) (pB n)
 |
  0,hn,e,h,hl=>by
  have:=h.sz
  exact(CC b l hb h _ (by simp) (by simp;omega) hl).mono (by simp only[pB];omega) (by simp only[pB];omega)
 |
  n+1,hn,e,h,hl=>by
  have hb1:=Hf n
  have ih:∀g,Wf g->g.db<=400->jU b (((n+1:Nat):Int)-13-1) g (pB n) (pB n):=by
   rw[show ((n+1:Nat):Int)-13-1=(n:Int)-13 by omega];exact xP b l hb n (by omega)
  cases h with
  |@atom s hs=>exact(Mc b l hb _ hs).mono (by simp only[pB];omega) (by simp only[pB];omega)
  |
   @plus x y hx hy =>
   have h4:=hl
   simp only[E.db,E.eW]at h4
   exact(Ml b l hb _ (by omega) hx hy hl _ _ (ih x hx (by omega)) (ih y hy (by omega)) (by omega)).mono (by simp only[pB];omega) (by simp only[pB];omega)
  |
   @times x y hx hy =>
   simp only[E.db,E.eW]at hl
   exact(Mm b l hb _ (by omega) hx hy _ _ _ _ (ih x hx (by omega)) (ih y hy (by omega)) (by omega) (by omega)).mono (by simp only[pB];omega) (by simp only[pB];omega)
  |@rc m x hm hx=>exact(KN b l hb _ (by omega) hm hx hl _ _ (fun _=>ih) (by omega)).mono (by simp only[pB];omega) (by simp only[pB];omega)
theorem LB(b:AV)(l:List UInt8)(hb:ss b l)(p:Nat)(hp:p<100000000000000)(s:Nm):an Tryz.prog 39 [.ref 0 0,.v (.string (mk s))] [.cells [b,.v (.int .i64 (p:Int))]] (eV b p 40000000000 (gu 40000000000)):=by
 refine Pr _ _ _ hb.has ?_
 have hfar:qf=1000000000000000:=rfl
 have oneL:∀(q:Nat) (r:AV) (o:List Ob),p<=q->q<=p+1->eV b q 1 (lg [[],[117],[101,48],[101,48,48],[101,49,48,48],[40,108,32,117,41],[40,112,32,117,41],[40,102,32,40,108,32,117,41,41],[40,120,32,117,41],[40,108,32,32,117,41]]) r o->∃q':Nat,∃t:List UInt8,r=.v (.string (mk t))/\o=[.cells [b,.v (.int .i64 (q':Int))]]/\eV b p 40000000000 (gu 40000000000) (.v (.string (mk t))) [.cells [b,.v (.int .i64 (q':Int))]]:=by
  rintro q r o h1 h2 ⟨q',g1,g2,hr,rfl⟩
  obtain⟨t,rfl,ht⟩:=lg.cF (n:=20) (by decide) hr
  exact⟨q',t,rfl,rfl,q',by omega,by omega,⟨t,rfl,by omega⟩,rfl⟩
 unfold KT
 refine aP (H2 s) (jF.ne _ _ (fun h=>h)) ?_
 rintro r o ⟨c,d,hd,rfl,hh⟩
 have hhas:bI [.str,.sl] [.v (.string (mk c)),d] 0:=by simp[bI,dV,hd]
 simp only[↓zq,zs,ae,zt]
 refine⟨hhas,fun h=>?_,fun h=>?_⟩
 ·refine aP (DM b l hb p (by omega) _ _ (.of [_,_,_,_,_,_,_,_,_,_]) (by simp) (by simp)) (eV.ne ⟨_,ak,rfl⟩) ?_
  intro r o hr
  obtain⟨q',t,rfl,rfl,hd⟩:=oneL p r o (au _) (by omega) hr
  simp only[↓zq,zs,ae,aK,hb.has];exact hd
 ·obtain⟨e,he,hce⟩:=hh (by simpa using h)
  obtain⟨t,h1,hA,h3,h4,h5,_⟩:=ia he
  rw[dm]at hce
  simp only[AV.agg.injEq,List.cons.injEq,AV.v.injEq,Value.string.injEq,and_true]at hce
  obtain⟨hc1,rfl⟩:=hce
  have hc2:=mk_inj hc1
  subst hc2
  obtain⟨hw,hwt⟩:=kg e [] t hA.ok (by simp) hA.ty
  have hats:e.db<=400:=by rw[hw.db [],hwt];exact h5
  have hsz:=hw.sz
  refine aP (vq b l hb p 16 (by omega) (by decide)) (eV.ne ⟨0,rfl,fun h=>by omega,by omega⟩) ?_
  rintro r o ⟨q,h1,h2,⟨k,rfl,_,_⟩,rfl⟩
  simp only[↓zq,zs,ae,aK,hb.has]
  refine⟨fun _=>?_,fun _=>?_⟩
  ·refine aP (DM b l hb q (by omega) _ _ (.of [_,_,_,_,_,_,_,_,_,_]) (by simp) (by simp)) (eV.ne ⟨_,ak,rfl⟩) ?_
   intro r o hr
   obtain⟨q',t,rfl,rfl,hd⟩:=oneL q r o h1 h2 hr
   simp only[↓zq,zs,ae,aK,hb.has];exact hd
  ·obtain⟨w1,w2,_⟩:=xC (os:=[]) hw
   have hap:=DJ hw (.v (.slice none 0 0)) [] ⟨(bf).mpr trivial,rfl⟩ (by omega) (by simp) (by simp)
   refine aj hap ?_
   simp only[↓zq,zs,ae,zt,aL]
   repeat refine⟨by omega,?_⟩
   have hats2:(zN e []).db<=400:=by rw[w1.db [],w2,<-hw.db []];exact hats
   refine aP (vq b l hb q 5 (by omega) (by decide)) (eV.ne ⟨0,rfl,fun h=>by omega,by omega⟩) ?_
   rintro r o ⟨q1,g1,g2,⟨k1,rfl,c3,_⟩,rfl⟩
   have hk1:=c3 (by omega)
   simp only[↓zq,zs,ae,zt,aK,hb.has,aL]
   have ed:IntKind.wrap .i64 (5+(k1:Int))=((18+k1:Nat):Int)-13:=by rw[VL.wrap64 _ (by omega) (by omega)];omega
   have hB:=Og
   have hB2:pB (18+k1)<=pB 22:=Bc (by omega)
   have hB3:=Hf (18+k1)
   rw[ed]
   refine aP (xP b l hb (18+k1) (by omega) (zN e []) w1 hats2 q1 (by omega)) (oW b q1 _ _ (by omega)) ?_
   rintro r o ⟨q2,d1,d2,⟨f,rfl,f1,f2⟩,rfl⟩
   simp only[↓zq,zs,ae,zt,aK,hb.has,aL]
   repeat refine⟨by omega,?_⟩
   have ht:=DL (f.sz+1) f (by omega) f1 (by omega)
   rw[dm]at ht
   refine aj ht ?_
   simp only[↓zq,zs,ae,zt,aK,hb.has,aL]
   exact⟨q2,by omega,by omega,⟨fe f,rfl,by omega⟩,rfl⟩
theorem Pt(b:AV)(l:List UInt8)(hb:ss b l)(p:Nat)(hp:p<100000000000000):an Tryz.prog 106 [.ref 0 0] [.cells [b,.v (.int .i64 (p:Int))]] (eV b p 200 (gu 200)):=by
 refine RY _ _ hb.has ?_
 unfold Jn
 have hfar:qf=1000000000000000:=rfl
 refine aP (vq b l hb p 8 (by omega) (by decide)) (eV.ne ⟨0,rfl,fun h=>by omega,by omega⟩) ?_
 rintro r o ⟨q,h1,h2,⟨k,rfl,_,_⟩,rfl⟩
 have kn:∀(c m:Nat) (r:AV) (o:List Ob),c<=190->m<=200->eV b q c (gu m) r o->∃q':Nat,∃s:List UInt8,r=.v (.string (mk s))/\o=[.cells [b,.v (.int .i64 (q':Int))]]/\eV b p 200 (gu 200) (.v (.string (mk s))) [.cells [b,.v (.int .i64 (q':Int))]]:=by
  rintro c m r o hc hm ⟨q',g1,g2,⟨s,rfl,hs⟩,rfl⟩
  exact⟨q',s,rfl,rfl,q',by omega,by omega,⟨s,rfl,by omega⟩,rfl⟩
 have sh:=Ik b l hb 3 (by omega) q [] _ (cy.of []) (by simp) (by simp) (by simp[nu];omega)
 have ty:=Po b l hb q (by omega)
 have kw:=BB b l hb q (by omega)
 simp only[↓zq,zs,ae,aK,hb.has]
 refine⟨fun _=>?_,fun _=>⟨fun _=>?_,fun _=>⟨fun _=>?_,fun _=>⟨fun _=>?_,fun _=>?_⟩⟩⟩⟩
 ·refine aP ty (eV.ne ⟨[],rfl,by simp⟩) ?_
  intro r o hr
  obtain⟨q',s,rfl,rfl,hd⟩:=kn _ _ r o (by omega) (by omega) hr
  simp only[↓zq,zs,ae,aK,hb.has];exact hd
 ·refine aP sh (eV.ne ⟨[],rfl,by simp⟩) ?_
  intro r o hr
  obtain⟨q',s,rfl,rfl,hd⟩:=kn _ _ r o (by simp[nu]) (by simp[nt]) hr
  simp only[↓zq,zs,ae,aK,hb.has];exact hd
 ·refine aP sh (eV.ne ⟨[],rfl,by simp⟩) ?_
  intro r o hr
  obtain⟨q',s,rfl,rfl,hd⟩:=kn _ _ r o (by simp[nu]) (by simp[nt]) hr
  simp only[↓zq,zs,ae,aK,hb.has];exact hd
 ·refine aP sh (eV.ne ⟨[],rfl,by simp⟩) ?_
  intro r o hr
  obtain⟨q',s,rfl,rfl,hd⟩:=kn _ _ r o (by simp[nu]) (by simp[nt]) hr
  simp only[↓zq,zs,ae,aK,hb.has];exact hd
 ·refine aP kw (eV.ne ⟨[],rfl,by simp⟩) ?_
  intro r o hr
  obtain⟨q',s,rfl,rfl,hd⟩:=kn _ _ r o (by omega) (by omega) hr
  simp only[↓zq,zs,ae,aK,hb.has];exact hd
def K3:AV->Prop:=fun r=>∃s t:Nm,r=.cH [.v (.string (mk s)),.v (.string (mk t))]
theorem Qu(b:AV)(l:List UInt8)(hb:ss b l)(p:Nat)(hp:p<10000000000000):an Tryz.prog 76 [.ref 0 0] [.cells [b,.v (.int .i64 (p:Int))]] (eV b p 50000000000 K3):=by
 refine QE _ _ hb.has ?_
 unfold JK
 refine aP (Pt b l hb p (by omega)) (eV.ne ⟨[],rfl,by simp⟩) ?_
 rintro r o ⟨q,h1,h2,⟨s,rfl,_⟩,rfl⟩
 simp only[↓zq,zs,ae,aK,hb.has]
 refine aP (LB b l hb q (by omega) s) (eV.ne ⟨[],rfl,by simp⟩) ?_
 rintro r o ⟨q1,g1,g2,⟨t,rfl,_⟩,rfl⟩
 simp only[↓zq,zs,ae,aK,hb.has]
 exact⟨q1,by omega,by omega,⟨s,t,rfl⟩,rfl⟩
theorem P7(b:AV)(l:List UInt8)(hb:ss b l)(p:Nat)(hp:p<1000000000000):an Tryz.prog 53 [.ref 0 0] [.cells [b,.v (.int .i64 (p:Int))]] (eV b p 60000000000 K3):=by
 refine Rr _ _ hb.has ?_
 unfold ND
 have hfar:qf=1000000000000000:=rfl
 refine aP (BB b l hb p (by omega)) (eV.ne ⟨[],rfl,by simp⟩) ?_
 rintro r o ⟨q,h1,h2,⟨s,rfl,_⟩,rfl⟩
 simp only[↓zq,zs,ae,aK,hb.has]
 refine aP (vq b l hb q 12 (by omega) (by decide)) (eV.ne ⟨0,rfl,fun h=>by omega,by omega⟩) ?_
 rintro r o ⟨q1,g1,g2,⟨k,rfl,_,_⟩,rfl⟩
 simp only[↓zq,zs,ae,aK,hb.has]
 refine⟨fun _=>?_,fun _=>?_⟩
 ·refine aP (Qu b l hb q1 (by omega)) (eV.ne ⟨[],[],rfl⟩) ?_
  rintro r o ⟨q2,e1,e2,⟨x,y,rfl⟩,rfl⟩
  simp only[↓zq,zs,ae,zt,aK,hb.has]
  exact⟨q2,by omega,by omega,⟨x,y,rfl⟩,rfl⟩
 ·refine aP (LB b l hb q1 (by omega) s) (eV.ne ⟨[],rfl,by simp⟩) ?_
  rintro r o ⟨q2,e1,e2,⟨t,rfl,_⟩,rfl⟩
  simp only[↓zq,zs,ae,aK,hb.has]
  exact⟨q2,by omega,by omega,⟨s,t,rfl⟩,rfl⟩
end Go.Proofs.Trees
namespace Go.Proofs.Trees
open Go Go.VL Go.RowKit
theorem Bo(w:Nm)(c1 c2:Nm)(d1 d2:AV):an Tryz.prog 81 [.v (.string (mk w)),.sl [[.v (.string (mk c1)),d1],[.v (.string (mk c2)),d2]]] [] (bK (.agg [.v (.string (mk [])),.sl [[.v (.string (mk w)),yx],[.v (.string (mk c1)),d1],[.v (.string (mk c2)),d2]]])):=by
 refine JJ _ _ ((cf _).mpr trivial) ?_
 simp only[F2,↓zq,zs,ae,bK]
 exact⟨⟨fun c hc=>by
  simp only[aJ,List.not_mem_nil,or_false]at hc
  rcases hc with rfl|rfl<;>rfl,by omega⟩,rfl⟩
theorem Me(F:List Nm)(hF:F.length<100000)(c1 c2:Nm)(d1 d2:AV)(h1:LK.sl.has d1)(h2:LK.sl.has d2):∀(n j:Nat),qb F n j<j+n->j+n<100000000 ->
 Fv [.v (.int .i64 (j:Int))] [zE,.cells [.v (.string (mk c1)),d1],.cells [.v (.string (mk c2)),d2],.vec 1 (bN F)] (gI 1 [.v (.int .i64 (qb F n j:Int))] [zE,.cells [.v (.string (mk c1)),d1],.cells [.v (.string (mk c2)),d2]])
 |0,j,h,_=>by simp only[qb]at h;omega
 |
  n+1,j,h,hj=>by
  refine Ps _ _ _ _ _ _ _ _ ?_
  simp only[J3,↓zq,zs,ae,zt,ae,bf,h1,h2]
  refine aj (Ao (j+1) j (by omega) (by omega)) ?_
  have hd:=mL (j+1) j (by omega)
  simp only[↓zq,zs,ae,zt,bc,aU]
  refine⟨by simp[cM];omega,?_⟩
  refine aj (xc F _ (.of F) (tN j) (by omega)) ?_
  simp only[↓zq,zs,ae,zt]
  rw[qb]at h |-
  refine⟨fun hm=>?_,fun hm=>?_⟩
  ·rw[if_pos hm]at h |-
   rw[bz j (by omega)]
   exact Me F hF c1 c2 d1 d2 h1 h2 n (j+1) (by omega) (by omega)
  ·rw[if_neg hm]
   exact⟨rfl,rfl,rfl⟩
theorem tR{x:Nm}{a c d:Ty}(h:(pX a x c d).atoms<=400):(sub x (.rc a) c).atoms<=400/\(sub x (.rc a) d).atoms<=400:=by
 simp only[pX,Ty.atoms]at h;omega
theorem Wf.ja{e:E}(h:Wf e){t:Ty}(ht:cR e []=t)(hl:t.atoms<=400):e.db<=400:=by rw[h.db [],ht];exact hl
def Ta(n:Nat):Prop:=∀(e:E) (s:Nm),Wf e->e.db<=n->e.db<=400->qQ s->an Tryz.prog 122 [.agg [.v (.string (mk e.at)),e.sp],.v (.string (mk s))] [] (kL (lY (cR e []) s))
theorem kk{e:E}{s:Nm}(h:Wf e):∀t,lY (cR e []) s=some t->fW t:=fun t ht=>h.qy.dv (cQ.1 ht)
theorem sa{t:Ty}(h:fW t):∀d,nE t=some d->fW d:=fun d hd=>by obtain⟨_,rfl⟩:=eU.1 hd;exact h
theorem QZ(n:Nat)(ih:Ta n)(m:Nm)(B:E)(hm:qQ m)(hB:Wf B)(hl:(E.list [.atom dE,.atom m,B]).db<=n+1)(hl4:(E.list [.atom dE,.atom m,B]).db<=400)(s:Nm)(hs:qQ s) :
 an Tryz.prog 147 [.agg [.v (.string (mk [])),(E.list [.atom dE,.atom m,B]).sp],.v (.string (mk s))] [] (kL (lY (cR (.list [.atom dE,.atom m,B]) []) s)):=by
 have hw:Wf (.list [.atom dE,.atom m,B]):=.rc hm hB
 have hsz:=hw.sz
 have hA:=DJ hw (.sl [[.v (.string (mk s)),yx]]) [.atom s] ⟨(cf _).mpr trivial,by simp only[fk,E.bu,fN];rfl⟩ (by omega) (fun o ho=>by
  simp only[aJ,List.not_mem_nil,or_false]at ho
  subst ho
  exact⟨.atom hs.1,by simp[E.sz]⟩) (by simp)
 have hatsB:B.db+2=(E.list [.atom dE,.atom m,B]).db:=by simp only[E.db,E.eW];omega
 have hT:cR (.list [.atom dE,.atom m,B]) []=.rc (cR B [m]):=fh _ _ _
 obtain⟨w1,w2,_,_,w5⟩:=kC (AD (.list [.atom dE,.atom m,B]) [.atom s]) (cR (.list [.atom dE,.atom m,B]) []) [] 0 (.nil _ _) (ue hw []) fun y hy=>⟨aD _ ((lM hw [] [] y).2 (.inr hy)),(mV hw [] y hy).1⟩
 have hsF:s∈AD (.list [.atom dE,.atom m,B]) [.atom s]:=aB _ (rC (o:=.atom s) (by simp) (.atom hs.1) (by rw[ri hs];simp[bn]))
 have haF:∀y,bn y (cR B [m])=true->y∈AD (.list [.atom dE,.atom m,B]) [.atom s]:=fun y hy=>aD _ ((lM hw [] [] y).2 (.inr (by rw[hT];exact hy)))
 unfold zN at hA
 rw[hT]at hA w1 w2 w5
 rw[hT]
 generalize AD (.list [.atom dE,.atom m,B]) [.atom s]=F at *
 obtain⟨_,_,_,hxF⟩:=gD F 0
 simp only[gY,aU]at hA w1 w2 w5
 generalize hxd:tN (nx F 0)=x at *
 have hx:qQ x:=by rw[<-hxd];exact yn _
 generalize (gY F (cR B [m]) [x] (nx F 0+1)).1=b at *
 have hb:Wf b:=by cases w1;assumption
 rw[fh]at w2
 have hbt:cR b [x]=cR B [m]:=by injection w2
 have hxa:bn x (cR B [m])=false:=by
  cases q:bn x (cR B [m])with
  |false=>rfl
  |true=>exact absurd (haF x q) hxF
 have hxs:x≠s:=fun e=>hxF (by rw[e];exact hsF)
 generalize cR B [m]=a at *
 have hbo:cR b []=dy (.name x) a 0:=by
  have:=za x hb []
  rw[cX,hbt]at this;exact this
 have hba:b.db+2=(E.list [.atom dE,.atom m,B]).db:=by
  rw[hw.db [],hT,hb.db [],hbo,fM];simp only[Ty.atoms];omega
 have i1:=ih b s hb (by omega) (by omega) hs
 have i2:=ih b x hb (by omega) (by omega) hx
 have n1:=kk (s:=s) hb
 have n2:=kk (s:=x) hb
 rw[hbo]at i1 i2 n1 n2
 have hP:=P3.of (.atom dE) (.atom x) b
 rw[AI hxa hxs]
 have hE1:Wf (.list [.atom dE,.atom x,b]):=w1
 have hE1t:cR (.list [.atom dE,.atom x,b]) []=.rc a:=by rw[fh];exact w2
 have hE1l:(E.list [.atom dE,.atom x,b]).db<=400:=by
  have:(E.list [.atom dE,.atom x,b]).db=b.db+2:=by simp only[E.db,E.eW];omega
  omega
 refine RE _ _ _ ((aX _).mpr trivial) ?_
 unfold LM
 refine aj hA ?_
 simp only[↓zq,zs,ae,zt,aL,bM,toNat_one,bg,hP.1,hP.2.1,hP.2.2.1,hP.2.2.2,dR]
 repeat refine⟨by omega,?_⟩
 refine aP i1 (kL.ne n1) ?_
 rintro r o ⟨rfl,c1,d1,hd1,rfl,hc1⟩
 simp only[↓zq,zs,ae,zt,gx hd1]
 repeat refine⟨by omega,?_⟩
 refine aP i2 (kL.ne n2) ?_
 rintro r o ⟨rfl,c2,d2,hd2,rfl,hc2⟩
 simp only[↓zq,zs,ae,zt,gx hd2]
 cases q1:lY (dy (.name x) a 0) s with
 |
  none =>
  simp only[bA,bJ]
  exact⟨fun _=>kL.no _ _ ((aX _).mpr trivial),fun h=>(by cases h)⟩
 |some c =>
 cases q2:lY (dy (.name x) a 0) x with
 |
  none =>
  simp only[bA,aZ,bJ,a7]
  exact⟨fun h=>(by cases h),fun _=>⟨fun _=>kL.no _ _ ((aX _).mpr trivial),fun h=>(by cases h)⟩⟩
 |some d =>
 simp only[aZ,a7]
 refine⟨fun h=>(by cases h),fun _=>⟨fun h=>(by cases h),fun _=>?_⟩⟩
 obtain⟨ec,wc,tc,rfl,rfl⟩:=hc1 c q1
 obtain⟨ed,wd,td,rfl,rfl⟩:=hc2 d q2
 have lc:=(cQ.1 q1).small
 have ld:=(cQ.1 q2).small
 have p1:=Fe hx wc hE1 (wc.ja tc lc) hE1l
 have p2:=Fe hx wd hE1 (wd.ja td ld) hE1l
 have g1:=sa (hE1.qy.sub (x:=x) wc.qy)
 have g2:=sa (hE1.qy.sub (x:=x) wd.qy)
 rw[hE1t,tc]at p1 g1
 rw[hE1t,td]at p2 g2
 simp only[bM]at p1 p2
 repeat refine⟨by omega,?_⟩
 refine aP p1 (kL.ne g1) ?_
 rintro r o ⟨rfl,c3,d3,hd3,rfl,hc3⟩
 simp only[↓zq,zs,ae,zt,gx hd3]
 repeat refine⟨by omega,?_⟩
 refine aP p2 (kL.ne g2) ?_
 rintro r o ⟨rfl,c4,d4,hd4,rfl,hc4⟩
 simp only[↓zq,zs,ae,zt,gx hd4]
 have big:∀t:Ty,nE t=none->¬t.atoms<=400:=fun t ht hle=>by unfold nE at ht;rw[if_pos hle]at ht;cases ht
 have out0:(nE (sub x (.rc a) c)=none\/nE (sub x (.rc a) d)=none)->nE (pX a x c d)=none:=fun h=>by
  unfold nE
  rw[if_neg fun hle=>?_]
  have:=tR hle
  rcases h with h|h
  ·exact big _ h this.1
  ·exact big _ h this.2
 cases q3:nE (sub x (.rc a) c)with
 |
  none =>
  rw[out0 (.inl q3)]
  simp only[bA]
  exact⟨fun _=>kL.no _ _ ((aX _).mpr trivial),fun h=>(by cases h)⟩
 |some c' =>
 cases q4:nE (sub x (.rc a) d)with
 |
  none =>
  rw[out0 (.inr q4)]
  simp only[bA,aZ]
  exact⟨fun h=>(by cases h),fun _=>⟨fun _=>kL.no _ _ ((aX _).mpr trivial),fun h=>(by cases h)⟩⟩
 |some d' =>
 simp only[aZ]
 refine⟨fun h=>(by cases h),fun _=>⟨fun h=>(by cases h),fun _=>?_⟩⟩
 obtain⟨ec',wc',tc',rfl,rfl⟩:=hc3 c' q3
 obtain⟨ed',wd',td',rfl,rfl⟩:=hc4 d' q4
 obtain⟨lc',e3⟩:=eU.1 q3
 obtain⟨ld',e4⟩:=eU.1 q4
 rw[e3]at lc';rw[e4]at ld'
 have z1:=wc'.sz
 have z2:=wd'.sz
 have k1:=wc'.ja tc' lc'
 have k2:=wd'.ja td' ld'
 have f1:=D4 wd' [] [] (.sl []) (.of []) (by simp;omega)
 have fl1:=gd ed' [] []
 have fl2:=gd ec' [] (ki ed' [] [])
 simp only[aG,aW]at fl1
 have f2:=D4 wc' [] (ki ed' [] []) (.sl []) (.of []) (by simp;omega)
 refine aV f1 ?_
 simp only[↓zq,zs,ae,zt,aO,bx,Ob.es]
 refine aV f2 ?_
 simp only[↓zq,zs,ae,zt,aO,bx,Ob.es]
 have hF3:∀y,(bn y c'=true\/bn y d'=true)->y∈ki ec' [] (ki ed' [] []):=fun y hy=>by
  rw[lM wc',lM wd']
  rcases hy with hy|hy
  ·exact .inr (by rw[tc'];exact hy)
  ·exact .inl (.inr (by rw[td'];exact hy))
 generalize ki ec' [] (ki ed' [] [])=F3 at *
 obtain⟨_,y2,_,hyF⟩:=gD F3 0
 refine cz (Me F3 (by omega) _ _ _ _ ((aX _).mpr trivial) ((aX _).mpr trivial) (F3.length+1) 0 (by show nx F3 0<_;omega) (by omega)) ?_
 have hnx:qb F3 (F3.length+1) 0=nx F3 0:=rfl
 rw[hnx]
 simp only[↓zq,zs,ae,zt,ae,aK,bf,aX]
 refine aj (Ao (nx F3 0+1) (nx F3 0) (by omega) (by omega)) ?_
 have hdl:=mL (nx F3 0+1) (nx F3 0) (by omega)
 simp only[↓zq,zs,ae,zt,bc,aU]
 refine⟨by omega,?_⟩
 obtain⟨y,hyd⟩:∃y:Nm,(116::dd (nx F3 0):Nm)=y:=⟨_,rfl⟩
 rw[hyd]
 rw[show tN (nx F3 0)=y from hyd]at hyF
 have hy:qQ y:=by rw[<-hyd];exact yn _
 have hcy:cR ec' [y]=c':=by
  have:=tL [y] wc' [] (fun z hz hm=>hyF (by
   simp only[aQ]at hm
   rw[<-hm];exact hF3 z (.inl (by rw[<-tc'];exact hz))))
  rw[cX,tc']at this;exact this
 have hdy:cR ed' [y]=d':=by
  have:=tL [y] wd' [] (fun z hz hm=>hyF (by
   simp only[aQ]at hm
   rw[<-hm];exact hF3 z (.inr (by rw[<-td'];exact hz))))
  rw[cX,td']at this;exact this
 have hyb:cR (.atom y) [y]=.bound 0:=by
  simp only[cR];rw[if_neg hy.2.1,if_neg hy.2.2,show bR y [y] [y].length=some 0 from fu y []]
 let o1:E:=.list [.atom [42],ed',.atom y]
 let o2:E:=.list [.atom [43],ec',o1]
 let o3:E:=.list [.atom dE,.atom y,o2]
 have hw3:Wf o3:=.rc hy (.plus wc' (.times wd' (.atom hy.1)))
 have ht3:cR o3 []=pX a x c d:=by
  show cR (.list [.atom dE,.atom y,o2]) []=_
  rw[fh]
  show Ty.rc (cR (.list [.atom [43],ec',o1]) [y])=_
  rw[dJ]
  show Ty.rc (.plus (cR ec' [y]) (cR (.list [.atom [42],ed',.atom y]) [y]))=_
  rw[dr,hcy,hdy,hyb,pX,e3,e4]
 have m1:=wK [42] ed' (.atom y)
 have m2:=wK [43] ec' o1
 have m3:=wK dE (.atom y) o2
 simp only[o1,bM,dR]at m1 m2 m3
 refine aj m1 ?_
 simp only[↓zq,zs,ae,zt,aL]
 repeat refine⟨by omega,?_⟩
 refine aj m2 ?_
 simp only[↓zq,zs,ae,zt,aL]
 repeat refine⟨by omega,?_⟩
 refine aj m3 ?_
 simp only[↓zq,zs,ae,zt,aL]
 repeat refine⟨by omega,?_⟩
 have z3:=hw3.sz
 have hats3:o3.db=ec'.db+ed'.db+5:=by simp only[o3,o2,o1,E.db,E.eW];omega
 have ma:=Dz o3 hw3.ok (by omega)
 rw[dm]at ma
 simp only[o3,o2,o1,bM]at ma
 refine aj ma ?_
 simp only[↓zq,zs,ae,zt]
 have hd3:(pX a x c d).atoms=o3.db:=by rw[<-ht3,<-hw3.db []]
 unfold nE
 by_cases hle:(pX a x c d).atoms<=400
 ·rw[if_pos hle]
  have:=kL.of hw3
  rw[ht3]at this
  rw[show decide ((((E.list [.atom dE,.atom y,.list [.atom [43],ec',.list [.atom [42],ed',.atom y]]]).db:Nat):Int)<=400)=true from decide_eq_true (by show ((o3.db:Nat):Int)<=400;omega)]
  exact this
 ·rw[if_neg hle]
  rw[show decide ((((E.list [.atom dE,.atom y,.list [.atom [43],ec',.list [.atom [42],ed',.atom y]]]).db:Nat):Int)<=400)=false from decide_eq_false (by show ¬((o3.db:Nat):Int)<=400;omega)]
  exact kL.no _ _ ((aX o3).mpr trivial)
theorem z6:∀n,Ta n
 |0=>fun e s h hl=>by have:=en (cR e []);rw[<-h.db []]at this;omega
 |
  n+1=>by
  intro e s h hl h4 hs
  cases h with
  |
   @atom c hc =>
   refine DI _ _ _ ((aX _).mpr trivial) ?_
   simp only[AE,dR,↓zq,zs,ae,zt]
   refine⟨fun _=>⟨fun he=>?_,fun hne=>?_⟩,fun h=>absurd h hc⟩
   ·have he:c=s:=he
    subst he
    rw[ri hs,oi,if_pos rfl]
    exact kL.of (e:=.atom [49]) (.atom (by simp))
   ·have hne:¬c=s:=hne
    have:lY (cR (.atom c) []) s=some .zero:=by
     simp only[cR]
     split
     ·exact vZ _
     ·split
      ·exact yg _
      ·rw[show bR c [] ([]:List Nm).length=none from rfl,oi,if_neg hne]
    rw[this]
    exact kL.of (e:=.atom [48]) (.atom (by simp))
  |
   @plus x y hx hy =>
   have hxy:(E.list [.atom [43],x,y]).db=x.db+y.db+1:=by simp only[E.db,E.eW];omega
   have p1:1<=x.db:=by rw[hx.db []];exact en _
   have p2:1<=y.db:=by rw[hy.db []];exact en _
   refine DI _ _ _ ((aX _).mpr trivial) ?_
   have hP:=P3.of (.atom [43]) x y
   simp only[AE,bM,toNat_one,bg,↓zq,zs,ae,zt,hP.1,hP.2.1,hP.2.2.1,hP.2.2.2,aL]
   refine⟨fun h=>absurd rfl h,fun _=>?_⟩
   refine aj (oc [43] x y) ?_
   simp only[↓zq,zs,ae,zt]
   refine⟨fun h=>by simp at h,fun _=>?_⟩
   repeat refine⟨by omega,?_⟩
   rw[dJ,vg]
   refine aP (z6 n x s hx (by omega) (by omega) hs) (kL.ne (kk hx)) ?_
   rintro r o ⟨rfl,c1,d1,hd1,rfl,hc1⟩
   simp only[↓zq,zs,ae,zt,gx hd1]
   repeat refine⟨by omega,?_⟩
   refine aP (z6 n y s hy (by omega) (by omega) hs) (kL.ne (kk hy)) ?_
   rintro r o ⟨rfl,c2,d2,hd2,rfl,hc2⟩
   simp only[↓zq,zs,ae,zt,gx hd2]
   refine aj (Bo [43] c1 c2 d1 d2) ?_
   simp only[↓zq,zs,ae,zt,bI,dV,cf]
   repeat refine⟨by omega,?_⟩
   refine aj (oc [43] x y) ?_
   simp only[↓zq,zs,ae,zt]
   refine⟨fun h=>by simp at h,fun _=>?_⟩
   cases q1:lY (cR x []) s with
   |
    none =>
    simp only[bA,bJ]
    exact⟨fun h=>(by cases h),fun _=>kL.no _ _ ((cf _).mpr trivial)⟩
   |some tx =>
   cases q2:lY (cR y []) s with
   |
    none =>
    simp only[bA,aZ,bJ,a7]
    exact⟨fun _=>⟨fun h=>(by cases h),fun _=>kL.no _ _ ((cf _).mpr trivial)⟩,fun h=>(by cases h)⟩
   |some t2 =>
   simp only[aZ,a7]
   refine⟨fun _=>⟨fun _=>?_,fun h=>(by cases h)⟩,fun h=>(by cases h)⟩
   obtain⟨e1,w1,te1,rfl,rfl⟩:=hc1 tx q1
   obtain⟨e2,w2,te2,rfl,rfl⟩:=hc2 t2 q2
   have l1:=w1.ja te1 (cQ.1 q1).small
   have l2:=w2.ja te2 (cQ.1 q2).small
   have z1:=w1.sz
   have z2:=w2.sz
   have hw3:Wf (.list [.atom [43],e1,e2]):=.plus w1 w2
   have ht3:cR (.list [.atom [43],e1,e2]) []=.plus tx t2:=by rw[dJ,te1,te2]
   have ma:=Dz _ hw3.ok (by simp only[E.sz,E.jo];omega)
   rw[dm]at ma
   simp only[bM]at ma
   have e3:AV.sl [[.v (.string (mk [43])),yx],[.v (.string (mk e1.at)),e1.sp],[.v (.string (mk e2.at)),e2.sp]]=(E.list [.atom [43],e1,e2]).sp:=by simp only[E.sp,E.bu,fN];rfl
   rw[e3]
   refine aj ma ?_
   simp only[↓zq,zs,ae,zt]
   have hd3:(Ty.plus tx t2).atoms=(E.list [.atom [43],e1,e2]).db:=by rw[<-ht3,<-hw3.db []]
   unfold nE
   by_cases hle:(Ty.plus tx t2).atoms<=400
   ·rw[if_pos hle,show decide ((((E.list [.atom [43],e1,e2]).db:Nat):Int)<=400)=true from decide_eq_true (by omega)]
    have:=kL.of hw3
    rw[ht3]at this
    exact this
   ·rw[if_neg hle,show decide ((((E.list [.atom [43],e1,e2]).db:Nat):Int)<=400)=false from decide_eq_false (by omega)]
    exact kL.no _ _ ((aX _).mpr trivial)
  |
   @times x y hx hy =>
   have hxy:(E.list [.atom [42],x,y]).db=x.db+y.db+1:=by simp only[E.db,E.eW];omega
   have p1:1<=x.db:=by rw[hx.db []];exact en _
   have p2:1<=y.db:=by rw[hy.db []];exact en _
   refine DI _ _ _ ((aX _).mpr trivial) ?_
   have hP:=P3.of (.atom [42]) x y
   simp only[AE,bM,toNat_one,bg,↓zq,zs,ae,zt,hP.1,hP.2.1,hP.2.2.1,hP.2.2.2,aL]
   refine⟨fun h=>absurd rfl h,fun _=>?_⟩
   refine aj (oc [42] x y) ?_
   simp only[↓zq,zs,ae,zt]
   refine⟨fun h=>by simp at h,fun _=>?_⟩
   repeat refine⟨by omega,?_⟩
   rw[dr,sO]
   refine aP (z6 n x s hx (by omega) (by omega) hs) (kL.ne (kk hx)) ?_
   rintro r o ⟨rfl,c1,d1,hd1,rfl,hc1⟩
   simp only[↓zq,zs,ae,zt,gx hd1]
   repeat refine⟨by omega,?_⟩
   refine aP (z6 n y s hy (by omega) (by omega) hs) (kL.ne (kk hy)) ?_
   rintro r o ⟨rfl,c2,d2,hd2,rfl,hc2⟩
   simp only[↓zq,zs,ae,zt,gx hd2]
   refine aj (Bo [43] c1 c2 d1 d2) ?_
   simp only[↓zq,zs,ae,zt,bI,dV,cf]
   repeat refine⟨by omega,?_⟩
   refine aj (oc [42] x y) ?_
   simp only[↓zq,zs,ae,zt]
   refine⟨fun _=>?_,fun h=>by simp at h⟩
   repeat refine⟨by omega,?_⟩
   refine aj (Bo [42] c1 y.at d1 y.sp) ?_
   simp only[↓zq,zs,ae,zt,bI,dV,cf,aX]
   repeat refine⟨by omega,?_⟩
   refine aj (Bo [42] x.at c2 x.sp d2) ?_
   simp only[↓zq,zs,ae,zt,bI,dV,cf,aX]
   repeat refine⟨by omega,?_⟩
   refine aj (Bo [43] [] [] _ _) ?_
   simp only[↓zq,zs,ae,zt,bI,dV,cf]
   repeat refine⟨by omega,?_⟩
   cases q1:lY (cR x []) s with
   |
    none =>
    simp only[bA,bJ]
    exact⟨fun h=>(by cases h),fun _=>kL.no _ _ ((cf _).mpr trivial)⟩
   |some tx =>
   cases q2:lY (cR y []) s with
   |
    none =>
    simp only[bA,aZ,bJ,a7]
    exact⟨fun _=>⟨fun h=>(by cases h),fun _=>kL.no _ _ ((cf _).mpr trivial)⟩,fun h=>(by cases h)⟩
   |some t2 =>
   simp only[aZ,a7]
   refine⟨fun _=>⟨fun _=>?_,fun h=>(by cases h)⟩,fun h=>(by cases h)⟩
   obtain⟨e1,w1,te1,rfl,rfl⟩:=hc1 tx q1
   obtain⟨e2,w2,te2,rfl,rfl⟩:=hc2 t2 q2
   have l1:=w1.ja te1 (cQ.1 q1).small
   have l2:=w2.ja te2 (cQ.1 q2).small
   have z1:=w1.sz
   have z2:=w2.sz
   have z3:=hx.sz
   have z4:=hy.sz
   have hw3:Wf (.list [.atom [43],.list [.atom [42],e1,y],.list [.atom [42],x,e2]]):=.plus (.times w1 hy) (.times hx w2)
   have ht3:cR (.list [.atom [43],.list [.atom [42],e1,y],.list [.atom [42],x,e2]]) []=.plus (.times tx (cR y [])) (.times (cR x []) t2):=by rw[dJ,dr,dr,te1,te2]
   have ma:=Dz _ hw3.ok (by simp only[E.sz,E.jo];omega)
   rw[dm]at ma
   simp only[bM]at ma
   have e3:AV.sl [[.v (.string (mk [43])),yx],[.v (.string (mk [])),.sl [[.v (.string (mk [42])),yx],[.v (.string (mk e1.at)),e1.sp],[.v (.string (mk y.at)),y.sp]]],[.v (.string (mk [])),.sl [[.v (.string (mk [42])),yx],[.v (.string (mk x.at)),x.sp],[.v (.string (mk e2.at)),e2.sp]]]]=(E.list [.atom [43],.list [.atom [42],e1,y],.list [.atom [42],x,e2]]).sp:=by simp only[E.sp,E.bu,fN];rfl
   rw[e3]
   refine aj ma ?_
   simp only[↓zq,zs,ae,zt]
   have hd3:(Ty.plus (.times tx (cR y [])) (.times (cR x []) t2)).atoms=(E.list [.atom [43],.list [.atom [42],e1,y],.list [.atom [42],x,e2]]).db:=by rw[<-ht3,<-hw3.db []]
   unfold nE
   by_cases hle:(Ty.plus (.times tx (cR y [])) (.times (cR x []) t2)).atoms<=400
   ·rw[if_pos hle,show decide ((((E.list [.atom [43],.list [.atom [42],e1,y],.list [.atom [42],x,e2]]).db:Nat):Int)<=400)=true from decide_eq_true (by omega)]
    have:=kL.of hw3
    rw[ht3]at this
    exact this
   ·rw[if_neg hle,show decide ((((E.list [.atom [43],.list [.atom [42],e1,y],.list [.atom [42],x,e2]]).db:Nat):Int)<=400)=false from decide_eq_false (by omega)]
    exact kL.no _ _ ((aX _).mpr trivial)
  |
   @rc m B hm hB =>
   have hlp:=QZ n (z6 n) m B hm hB hl h4 s hs
   have hg:=kk (s:=s) (Wf.rc hm hB)
   refine DI _ _ _ ((aX _).mpr trivial) ?_
   have hP:=P3.of (.atom dE) (.atom m) B
   simp only[AE,bM,toNat_one,bg,↓zq,zs,ae,zt,hP.1,hP.2.1,hP.2.2.1,hP.2.2.2,aL]
   refine⟨fun h=>absurd rfl h,fun _=>?_⟩
   refine aj (oc dE (.atom m) B) ?_
   simp only[↓zq,zs,ae,zt]
   refine⟨fun _=>?_,fun h=>absurd rfl h⟩
   refine aP hlp (kL.ne hg) ?_
   rintro r o ⟨rfl,c1,d1,hd1,rfl,hc1⟩
   simp only[↓zq,zs,ae,zt,gx hd1]
   exact⟨rfl,c1,d1,hd1,rfl,hc1⟩
end Go.Proofs.Trees
namespace Go.Proofs.Trees
open Go Go.VL Go.RowKit
theorem oz:∀(n k:Nat),k<10 ^ (n+1)->(dd k).length<=n+1
 |0,k,h=>by rw[eI (by omega)];simp
 |
  n+1,k,h=>by
  by_cases h1:k<10
  ·rw[eI h1];simp
  ·rw[fT h1]
   have:=oz n (k/10) (by
    have:10 ^ (n+1+1)=10*10 ^ (n+1):=by rw[Nat.pow_succ,Nat.mul_comm]
    omega)
   simp;omega
inductive Sh:E->Prop
 |atom {s:Nm} (h:s.length<=20):Sh (.atom s)
 |l3 {h:Nm} {a b:E} (hh:h.length<=20) (ha:Sh a) (hb:Sh b):Sh (.list [.atom h,a,b])
theorem Sh.cF{e:E}(hw:Wf e)(h:Sh e):(fe e).length<=50*e.db:=by
 induction hw with
 |atom _=>cases h with|atom h=>simp only[fe,E.db];omega
 |
  plus _ _ i1 i2 =>
  cases h with|l3 hh ha hb =>
  have:=i1 ha
  have:=i2 hb
  simp only[fe,eh,az,aq,aG,E.db,E.eW];omega
 |
  times _ _ i1 i2 =>
  cases h with|l3 hh ha hb =>
  have:=i1 ha
  have:=i2 hb
  simp only[fe,eh,az,aq,aG,E.db,E.eW];omega
 |
  rc _ _ i =>
  cases h with|l3 hh ha hb =>
  cases ha with|atom ha =>
  have:=i hb
  simp only[fe,eh,az,aq,aG,E.db,E.eW];omega
def vd(t:Ty):Prop:=∀y,bn y t=true->y.length<=20
theorem xz{k:Nat}(h:k<100000000):(tN k).length<=20:=by
 have:=oz 7 k (by omega)
 simp;omega
theorem pZ(F:List Nm)(hF:F.length<=10000):∀(t:Ty) (to:List Nm) (k:Nat),vd t->(∀w,w∈to->w.length<=20)->k+(F.length+1)*t.atoms<90000000->Sh (gY F t to k).1
 | .zero,_,_,_,_,_=>.atom (by simp)
 | .one,_,_,_,_,_=>.atom (by simp)
 | .name s,_,_,hn,_,_=>.atom (hn s (by simp[bn]))
 |
  .bound u,to,_,_,ht,_=>by
  refine .atom ?_
  show (gj to u).length<=20
  unfold gj
  by_cases h:to.length-1-u<to.length
  ·rw[aa,bp h];exact ht _ (bD h)
  ·rw[aa,List.getElem?_eq_none (by omega)];simp
 |
  .plus a b,to,k,hn,ht,hk=>by
  have h1:=iw F a to k
  have:(F.length+1)*(1+a.atoms+b.atoms)=(F.length+1)+(F.length+1)*a.atoms+(F.length+1)*b.atoms:=by simp only[cT,dG]
  simp only[Ty.atoms]at hk
  exact .l3 (by simp) (pZ F hF a to k (fun y hy=>hn y (by simp[bn,hy])) ht (by omega)) (pZ F hF b to _ (fun y hy=>hn y (by simp[bn,hy])) ht (by omega))
 |
  .times a b,to,k,hn,ht,hk=>by
  have h1:=iw F a to k
  have:(F.length+1)*(1+a.atoms+b.atoms)=(F.length+1)+(F.length+1)*a.atoms+(F.length+1)*b.atoms:=by simp only[cT,dG]
  simp only[Ty.atoms]at hk
  exact .l3 (by simp) (pZ F hF a to k (fun y hy=>hn y (by simp[bn,hy])) ht (by omega)) (pZ F hF b to _ (fun y hy=>hn y (by simp[bn,hy])) ht (by omega))
 |
  .rc a,to,k,hn,ht,hk=>by
  obtain⟨g1,g2,_,_⟩:=gD F k
  have:(F.length+1)*(2+a.atoms)=(F.length+1)*2+(F.length+1)*a.atoms:=by simp only[cT]
  simp only[Ty.atoms]at hk
  have hl:=xz (k:=nx F k) (by omega)
  exact .l3 (by simp) (.atom hl) (pZ F hF a _ _ hn (fun w hw=>by
   rcases aN.1 hw with hw|hw
   ·exact ht w hw
   ·simp only[aQ]at hw;rw[hw];exact hl) (by omega))
def EN(t:Ty):Nm:=fe (gY (bQ t []) t [] 0).1
def told(t:Ty):Option Nm:=if t.atoms<=400/\(qX (EN t)).isSome=true then some (EN t)else none
theorem D7{t:Ty}(g:fW t)(hs:vd t)(ha:t.atoms<=400):(EN t).length<=20000:=by
 obtain⟨h1,h2,_⟩:=kC (bQ t []) t [] 0 (.nil _ _) g.1 fun y hy=>⟨(eT t [] y).2 (.inr hy),g.2 y hy⟩
 have hn:=ew t []
 simp only[aG,aW]at hn
 have hm:((bQ t []).length+1)*t.atoms<=401*400:=Nat.mul_le_mul (by omega) ha
 have:=(pZ (bQ t []) (by omega) t [] 0 hs (fun w hw=>by cases hw) (by omega)).cF h1
 have:=h1.ja h2 ha
 unfold EN;omega
theorem uq(s:Nm):(wE s).isSome=(qX s).isSome:=by
 rw[uo]
 cases he:wE s with
 |none=>rfl
 |
  some e =>
  obtain⟨h1,h2,h3⟩:=pR he
  simp only[iQ e [],h2];rfl
theorem PL(s:Nm):an Tryz.prog 124 [.v (.string (mk s))] [] (bK (.v (.bool (qX s).isSome))):=by
 refine RJ _ ?_
 unfold Jl
 refine aP (HV s) (jF.ne _ _ (fun h=>h)) ?_
 rintro r o ⟨c,d,hd,rfl,hh⟩
 have hhas:bI [.str,.sl] [.v (.string (mk c)),d] 0:=by simp[bI,dV,hd]
 simp only[↓zq,zs,ae,zt,uq]
 exact⟨hhas,rfl,rfl⟩
theorem Q5{e:E}(h:Wf e)(hl:e.db<=400)(hs:vd (cR e [])):an Tryz.prog 93 [.agg [.v (.string (mk e.at)),e.sp]] [] (bK (rB (told (cR e [])))):=by
 refine PW _ _ ((aX _).mpr trivial) ?_
 unfold NX
 have z:=h.sz
 have ma:=Dz e h.ok (by omega)
 rw[dm]at ma
 have hA:=DJ h yx [] ⟨(bf).mpr trivial,rfl⟩ (by omega) (fun o ho=>by cases ho) (by simp)
 have ha:(cR e []).atoms<=400:=by rw[<-h.db []];exact hl
 have hc:zN e []=(gY (bQ (cR e []) []) (cR e []) [] 0).1:=by
  unfold zN AD rz
  rw[List.flatMap_nil,cX,jN (F':=bQ (cR e []) []) fun y=>by rw[lM h,eT]]
 have hx:fe (zN e [])=EN (cR e []):=by rw[hc];rfl
 have hlen:=D7 h.qy hs ha
 have hT:=Dr (zN e []) (xC h).1.ok (by rw[hx];omega)
 rw[dm,hx]at hT
 refine aj ma ?_
 simp only[↓zq,zs,ae,zt]
 refine⟨fun h=>by omega,fun _=>?_⟩
 refine aj hA ?_
 simp only[↓zq,zs,ae,zt,aL]
 refine aj hT ?_
 simp only[↓zq,zs,ae,zt]
 refine aj (PL _) ?_
 simp only[↓zq,zs,ae,zt]
 unfold told
 refine⟨fun hn=>?_,fun hy=>?_⟩
 ·rw[if_neg (by rw[hn];simp)];exact⟨rfl,rfl⟩
 ·rw[if_pos ⟨ha,hy⟩];exact⟨rfl,rfl⟩
abbrev mg:Nm:=[35,49]
noncomputable def cJ (s:Nm):Option Nm:=match qX s with
 |some (.rc a)=>(n9 a mg).bind told
 |_=>none
theorem nK{s:Nm}{t:Ty}(h:qX s=some t):∃e,wE s=some e/\Wf e/\cR e []=t/\e.db<=400/\e.ok:=by
 rw[uo]at h
 cases he:wE s with
 |none=>rw[he]at h;cases h
 |
  some e =>
  rw[he]at h
  obtain⟨h1,h2,h3⟩:=pR he
  obtain⟨hok,_⟩:=nZ h1
  obtain⟨w1,w2⟩:=kg e [] t hok (fun w hw=>by cases hw) h
  exact⟨e,rfl,w1,w2,h3,hok⟩
theorem sr{e:E}{x:Nm}{a d:Ty}(hw:Wf e)(ht:cR e []=.rc a)(hx:qQ x)(hd:n9 a x=some d):fW d/\(vd (.rc a)->vd d):=by
 simp only[n9,bh,cQ,eU]at hd
 obtain⟨d',h1,_,rfl⟩:=hd
 have g:fW (.rc a):=ht ▸ hw.qy
 have go:fW (dy (.name x) a 0):=⟨gG x a g.1,fun y hy=>by
  rcases gA a 0 hy with rfl|h
  ·exact hx
  ·exact g.2 y h⟩
 refine⟨g.sub (go.dv h1),fun hs y hy=>?_⟩
 rcases jm _ hy with h|⟨h,h'⟩
 ·exact hs y h
 ·rcases gA a 0 (h1.names y h')with e|e
  ·exact absurd e h
  ·exact hs y e
def Lr(y:Nm):Prop:=hJ y=true\/dk y=true
theorem iX:∀(e:E) (ar:List Nm) (t:Ty),cS e ar=some t->∀y,bn y t=true->Lr y
 |
  .atom s,ar,t,ht,y,hy=>by
  simp only[cS]at ht
  split at ht
  ·cases ht;cases hy
  ·split at ht
   ·cases ht;cases hy
   ·split at ht
    ·rename_i hp
     cases ht
     simp only[bn,decide_eq_true_eq]at hy
     subst hy;exact .inl hp
    ·split at ht
     ·rename_i hq
      split at ht
      ·cases ht;cases hy
      ·cases ht
       simp only[bn,decide_eq_true_eq]at hy
       subst hy;exact .inr hq
     ·cases ht
 |
  .list [x,a,b],ar,t,ht,y,hy=>by
  by_cases h0:x.at=[43]
  ·obtain⟨t1,t2,h1,h2,rfl⟩:=fI h0 ht
   simp only[bn,bC]at hy
   rcases hy with hy|hy
   ·exact iX a ar t1 h1 y hy
   ·exact iX b ar t2 h2 y hy
  ·by_cases h1:x.at=[42]
   ·obtain⟨t1,t2,h2,h3,rfl⟩:=fq h1 ht
    simp only[bn,bC]at hy
    rcases hy with hy|hy
    ·exact iX a ar t1 h2 y hy
    ·exact iX b ar t2 h3 y hy
   ·by_cases h2:x.at=[114,101,99]
    ·obtain⟨t1,hla,h3,rfl⟩:=dw h2 ht
     exact iX b _ t1 h3 y hy
    ·rw[jd _ h0 h1 h2]at ht;cases ht
 | .list [],ar,t,ht,_,_=>by cases ht
 | .list [_],ar,t,ht,_,_=>by cases ht
 | .list [_,_],ar,t,ht,_,_=>by cases ht
 | .list (_::_::_::_::_),ar,t,ht,_,_=>by cases ht
theorem wR{y:Nm}(h:Lr y):y.length<=3/\∀r,y≠35::r:=by
 have key:∀lo hi,116<=lo->named lo hi y=true->y.length<=3/\∀r,y≠35::r:=fun lo hi hlo h=>by
  cases y with
  |nil=>cases h
  |
   cons c r =>
   simp only[named,aw,decide_eq_true_eq]at h
   refine⟨by simp;omega,fun r' e=>?_⟩
   have:c=35:=by injection e
   subst this
   have:=h.1.2.1
   have e35:(35:UInt8).toNat=35:=rfl
   omega
 rcases h with h|h
 ·exact key 120 122 (by omega) h
 ·exact key 116 116 (by omega) h
theorem na{s:Nm}{t:Ty}(h:qX s=some t):∀y,bn y t=true->Lr y:=by
 rw[uo]at h
 cases he:wE s with
 |none=>rw[he]at h;cases h
 |some e=>rw[he]at h;exact iX e [] t h
theorem uE{s:Nm}{a:Ty}(h:qX s=some (.rc a)):bn mg a=false:=by
 cases q:bn mg a with
 |false=>rfl
 |true=>exact absurd rfl ((wR (na h mg q)).2 [49])
theorem Cy{s:Nm}{t:Ty}(h:qX s=some t):vd t:=fun y hy=>by have:=(wR (na h y hy)).1;omega
theorem PH{m:Nm}{B:E}(hm:qQ m)(hB:Wf B)(hl:(E.list [.atom dE,.atom m,B]).db<=400):an Tryz.prog 92 [.agg [.v (.string (mk [])),(E.list [.atom dE,.atom m,B]).sp]] [] (kL (n9 (cR B [m]) m)):=by
 have hw:Wf (.list [.atom dE,.atom m,B]):=.rc hm hB
 have hT:cR (.list [.atom dE,.atom m,B]) []=.rc (cR B [m]):=fh _ _ _
 have hP:=P3.of (.atom dE) (.atom m) B
 have hbo:cR B []=dy (.name m) (cR B [m]) 0:=by
  have:=za m hB []
  rw[cX]at this;exact this
 have hba:B.db+2=(E.list [.atom dE,.atom m,B]).db:=by simp only[E.db,E.eW];omega
 have i1:=z6 400 B m hB (by omega) (by omega) hm
 have n1:=kk (s:=m) hB
 rw[hbo]at i1 n1
 refine SO _ _ ((aX _).mpr trivial) ?_
 simp only[Nq,bM,toNat_one,bg,↓zq,zs,ae,zt,hP.1,hP.2.1,hP.2.2.1,hP.2.2.2,aL,dR]
 repeat refine⟨by omega,?_⟩
 refine aP i1 (kL.ne n1) ?_
 rintro r o ⟨rfl,c1,d1,hd1,rfl,hc1⟩
 simp only[↓zq,zs,ae,zt,gx hd1,n9]
 cases q1:lY (dy (.name m) (cR B [m]) 0) m with
 |
  none =>
  simp only[bA,bJ]
  exact⟨fun _=>kL.no _ _ ((aX _).mpr trivial),fun h=>(by cases h)⟩
 |
  some d =>
  simp only[aZ,a7]
  refine⟨fun h=>(by cases h),fun _=>?_⟩
  obtain⟨ed,wd,td,rfl,rfl⟩:=hc1 d q1
  have p1:=Fe hm wd hw (wd.ja td (cQ.1 q1).small) hl
  have g1:=sa (hw.qy.sub (x:=m) wd.qy)
  rw[hT,td]at p1 g1
  simp only[bM]at p1
  repeat refine⟨by omega,?_⟩
  refine aP p1 (kL.ne g1) ?_
  rintro r o ⟨rfl,c2,d2,hd2,rfl,hc2⟩
  simp only[↓zq,zs,ae,zt,gx hd2]
  exact⟨rfl,c2,d2,hd2,rfl,hc2⟩
theorem Jc(s:Nm):an Tryz.prog 66 [.v (.string (mk s))] [] (bK (rB (cJ s))):=by
 refine R1 _ ?_
 unfold Kf
 refine aP (HV s) (jF.ne _ _ (fun h=>h)) ?_
 rintro r o ⟨c,d,hd,rfl,hh⟩
 have hhas:bI [.str,.sl] [.v (.string (mk c)),d] 0:=by simp[bI,dV,hd]
 simp only[↓zq,zs,ae,zt]
 refine⟨hhas,fun h=>?_,fun h=>?_⟩
 ·rw[uq]at h
  have:qX s=none:=by cases hq:qX s<;>simp[hq]at h |-
  unfold cJ;rw[this];exact⟨rfl,rfl⟩
 ·rw[uq]at h
  obtain⟨t,ht⟩:=bU.1 h
  obtain⟨e,he,hw,hte,hats,hok⟩:=nK ht
  obtain⟨e',he',hce⟩:=hh (by rw[he];rfl)
  rw[he]at he';cases he'
  have notRec:(∀a,t≠.rc a)->cJ s=none:=fun hn=>by
   unfold cJ;rw[ht]
   cases t<;>first|rfl|exact absurd rfl (hn _)
  rw[hce,dm]
  cases hw with
  |
   @atom c hc =>
   have hn:cJ s=none:=notRec fun a q=>by
    rw[<-hte]at q
    simp only[cR]at q
    split at q
    ·cases q
    ·split at q
     ·cases q
     ·split at q<;>cases q
   rw[hn]
   refine aj (zX c _ ((aX _).mpr trivial) hc) ?_
   simp only[↓zq,zs,ae,zt]
   exact⟨fun _=>⟨rfl,rfl⟩,fun h=>by simp at h⟩
  |
   @plus x y hx hy =>
   have hn:cJ s=none:=notRec fun a q=>by rw[<-hte,dJ]at q;cases q
   rw[hn]
   simp only[bM]
   refine aj (oc [43] x y) ?_
   simp only[↓zq,zs,ae,zt]
   exact⟨fun _=>⟨rfl,rfl⟩,fun h=>by simp at h⟩
  |
   @times x y hx hy =>
   have hn:cJ s=none:=notRec fun a q=>by rw[<-hte,dr]at q;cases q
   rw[hn]
   simp only[bM]
   refine aj (oc [42] x y) ?_
   simp only[↓zq,zs,ae,zt]
   exact⟨fun _=>⟨rfl,rfl⟩,fun h=>by simp at h⟩
  |
   @rc m B hm hB =>
   have hrt:cR (.list [.atom dE,.atom m,B]) []=.rc (cR B [m]):=fh _ _ _
   rw[hrt]at hte
   have hq:cJ s=(n9 (cR B [m]) m).bind told:=by
    unfold cJ;rw[ht,<-hte]
    show (n9 (cR B [m]) mg).bind told=_
    rw[H0 (uE (by rw[ht,<-hte])) (by
     cases q:bn m (cR B [m])with
     |false=>rfl
     |true=>exact absurd (by simp) (mV hB [m] m q).2)]
   rw[hq]
   simp only[bM]
   refine aj (oc dE (.atom m) B) ?_
   simp only[↓zq,zs,ae,zt]
   refine⟨fun h=>by simp at h,fun _=>?_⟩
   have hgood:∀d,n9 (cR B [m]) m=some d->fW d/\(vd (.rc (cR B [m]))->vd d):=fun d hd=>sr (Wf.rc hm hB) hrt hm hd
   refine aP (PH hm hB hats) (kL.ne fun t h=>(hgood t h).1) ?_
   rintro r o ⟨rfl,c1,d1,hd1,rfl,hc1⟩
   simp only[↓zq,zs,ae,zt,gx hd1]
   cases q1:n9 (cR B [m]) m with
   |
    none =>
    simp only[bA,bJ]
    exact⟨fun _=>⟨rfl,rfl⟩,fun h=>(by cases h)⟩
   |
    some d =>
    simp only[aZ,a7]
    refine⟨fun h=>(by cases h),fun _=>?_⟩
    obtain⟨ed,wd,td,rfl,rfl⟩:=hc1 d q1
    have hl:d.atoms<=400:=by
     simp only[n9,bh,eU]at q1
     obtain⟨_,_,h1,h2⟩:=q1
     rw[<-h2];exact h1
    have hcn:=Q5 wd (wd.ja td hl) (by rw[td];exact(hgood d q1).2 (hte ▸ Cy ht))
    rw[td]at hcn
    refine aj hcn ?_
    cases told d<;>simp only[rB,↓zq,zs,ae,zt]<;>exact⟨rfl,rfl⟩
end Go.Proofs.Trees
namespace Go.Proofs.Trees
open Go Go.VL Go.RowKit
def vT(n:Nat):Vl->Ty->Bool
 | .u,.one=>true
 | .el k,.name _=>decide (k<n)
 | .l w,.plus a _=>vT n w a
 | .r w,.plus _ b=>vT n w b
 | .p x y,.times a b=>vT n x a&&vT n y b
 | .f w,.rc a=>vT n w (dy (.rc a) a 0)
 |_,_=>false
def cls(us:List Ty):Ty->Nat->Ty
 | .bound k,i=>if k<i then .bound k else us.getD (k-i) .zero
 | .plus a b,i=>.plus (cls us a i) (cls us b i)
 | .times a b,i=>.times (cls us a i) (cls us b i)
 | .rc a,i=>.rc (cls us a (i+1))
 |t,_=>t
def yY:List Fr->List Ty
 |[]=>[]
 |f::r=>cls (yY r) (zd f.ex r) 0::yY r
theorem lQ(u:Ty):∀(t:Ty) {i:Nat},jz t i->dy u t i=t
 | .bound k,i,h=>by simp only[dy];rw[if_neg (by have:k<i:=h;omega)]
 | .plus a b,i,h=>by simp only[dy];rw[lQ u a h.1,lQ u b h.2]
 | .times a b,i,h=>by simp only[dy];rw[lQ u a h.1,lQ u b h.2]
 | .rc a,i,h=>by simp only[dy];rw[lQ u a (i:=i+1) h]
 | .zero,_,_=>rfl
 | .one,_,_=>rfl
 | .name _,_,_=>rfl
theorem p5(us:List Ty):∀(t:Ty) {i:Nat},jz t i->cls us t i=t
 | .bound k,i,h=>by simp only[cls];rw[if_pos (by have:k<i:=h;omega)]
 | .plus a b,i,h=>by simp only[cls];rw[p5 us a h.1,p5 us b h.2]
 | .times a b,i,h=>by simp only[cls];rw[p5 us a h.1,p5 us b h.2]
 | .rc a,i,h=>by simp only[cls];rw[p5 us a (i:=i+1) h]
 | .zero,_,_=>rfl
 | .one,_,_=>rfl
 | .name _,_,_=>rfl
theorem yZ{us:List Ty}(hu:∀u,u∈us->jz u 0)(k:Nat):jz (us.getD k .zero) 0:=by
 by_cases h:k<us.length
 ·rw[aa,bp h];exact hu _ (bD h)
 ·rw[aa,List.getElem?_eq_none (by omega)];trivial
theorem pS{us:List Ty}(hu:∀u,u∈us->jz u 0):∀(t:Ty) (i:Nat),jz (cls us t i) i
 |
  .bound k,i=>by
  simp only[cls]
  split
  ·rename_i h;exact h
  ·exact gF _ (yZ hu _) (dO _)
 | .plus a b,i=>⟨pS hu a i,pS hu b i⟩
 | .times a b,i=>⟨pS hu a i,pS hu b i⟩
 | .rc a,i=>pS hu a (i+1)
 | .zero,_=>trivial
 | .one,_=>trivial
 | .name _,_=>trivial
theorem ni{us:List Ty}(hu:∀u,u∈us->jz u 0)(U:Ty):∀(t:Ty) (i:Nat),dy U (cls us t (i+1)) i=cls (U::us) t i
 |
  .bound k,i=>by
  simp only[cls]
  by_cases h1:k<i
  ·rw[if_pos (by omega),if_pos h1];simp only[dy];rw[if_neg (by omega)]
  ·rw[if_neg h1]
   by_cases h2:k=i
   ·subst h2;rw[if_pos (by omega)];simp[dy]
   ·rw[if_neg (by omega),lQ U _ (gF _ (yZ hu _) (dO _)),show k-i=(k-(i+1))+1 by omega,List.getD_cons_succ]
 | .plus a b,i=>by simp only[cls,dy];rw[ni hu U a i,ni hu U b i]
 | .times a b,i=>by simp only[cls,dy];rw[ni hu U a i,ni hu U b i]
 | .rc a,i=>by simp only[cls,dy];rw[ni hu U a (i+1)]
 | .zero,_=>rfl
 | .one,_=>rfl
 | .name _,_=>rfl
theorem xI:∀env:List Fr,∀u,u∈yY env->jz u 0
 |[],u,h=>by cases h
 |
  f::r,u,h=>by
  rcases aJ.1 h with rfl|h
  ·exact pS (xI r) _ 0
  ·exact xI r u h
theorem EA{env:List Fr}(h:WF env):∀{u:Nat} {g:Fr},env[u]?=some g->(yY env).getD u .zero=cls (yY g.out) (zd g.ex g.out) 0:=by
 induction h with
 |nil=>intro u g hg;simp at hg
 |
  cons hs hok hx ht hf hr ih =>
  intro u g hg
  cases u with
  |zero=>simp at hg;subst hg;rfl
  |
   succ u =>
   have:=ih (u:=u) (g:=g) (by simpa using hg)
   simpa[yY]using this
theorem p6(n:Nat):∀(m:Nat) (v:Vl),v.nodes<=m->∀(e:E) (env:List Fr) (t:Ty),Ask e env t->eY n v (e,env)=vT n v (cls (yY env) t 0)
 |0,v,hm=>by have:=du v;omega
 |
  m+1,v,hm=>by
  intro e env t A
  have recCase:∀(x a b:E) (env:List Fr) (t1:Ty),Ask (.list [x,a,b]) env (.rc t1)->x.at=[114,101,99]->eY n v (.list [x,a,b],env)=vT n v (cls (yY env) (.rc t1) 0):=by
   intro x a b env t1 A hx
   have hhd:hd (.list [x,a,b]) env=(.list [x,a,b],env):=pW A.wf
   obtain⟨t1',he1,h1,f1,hw1⟩:=ju A.wf A.ok hx A.ty A.cl
   cases he1
   obtain⟨ok1,ok2,ok3,_⟩:=A.ok
   have A':Ask b (.mk a.at (.list [x,a,b]) env::env) t1:=⟨ok3,hw1,h1,f1⟩
   cases v with
   |
    f w =>
    simp only[Vl.nodes]at hm
    simp only[eY,hhd,hx,beq_self_eq_true,bX]
    rw[p6 n m w (by omega) b _ t1 A']
    have hty:zd (.list [x,a,b]) env=.rc t1:=by unfold zd;rw[A.ty];rfl
    show vT n w (cls (cls (yY env) (zd (.list [x,a,b]) env) 0::yY env) t1 0)=vT n w (dy (.rc (cls (yY env) t1 1)) (cls (yY env) t1 1) 0)
    rw[hty,ni (xI env)]
    rfl
   |_=>simp[eY,hhd,hx,cls,vT]
  rcases gp A.wf A.ty with⟨hb,hq⟩|⟨u,g,rfl,hq,hu⟩
  ·have hhd:hd e env=(e,env):=kf hq
   rcases fK A.ty hb A.cl with⟨rfl,rfl⟩|⟨rfl,rfl⟩|⟨s,rfl,rfl,hp,h0,h1⟩|⟨x,a,b,t1,t2,rfl,hx,rfl,ha,hbb⟩|⟨x,a,b,t1,t2,rfl,hx,rfl,ha,hbb⟩|⟨x,a,b,t1,rfl,hx,rfl⟩
   ·have hp0:hJ [48]=false:=rfl
    cases v<;>simp[eY,hhd,cls,vT,hp0]
   ·cases v<;>simp[eY,hhd,cls,vT]
   ·cases v<;>simp[eY,hhd,cls,vT,hp,h1]
   ·obtain⟨ok1,ok2,ok3,_⟩:=A.ok
    obtain⟨f1,f2⟩:=fA A.cl
    cases v with
    |
     l w =>
     simp only[Vl.nodes]at hm
     simp only[eY,hhd,hx,beq_self_eq_true,bX,cls,vT]
     exact p6 n m w (by omega) a env t1 ⟨ok2,A.wf,ha,f1⟩
    |
     r w =>
     simp only[Vl.nodes]at hm
     simp only[eY,hhd,hx,beq_self_eq_true,bX,cls,vT]
     exact p6 n m w (by omega) b env t2 ⟨ok3,A.wf,hbb,f2⟩
    |_=>simp[eY,hhd,hx,cls,vT]
   ·obtain⟨ok1,ok2,ok3,_⟩:=A.ok
    obtain⟨f1,f2⟩:=eX A.cl
    cases v with
    |
     p w w' =>
     simp only[Vl.nodes]at hm
     simp only[eY,hhd,hx,beq_self_eq_true,bX,cls,vT]
     rw[p6 n m w (by omega) a env t1 ⟨ok2,A.wf,ha,f1⟩,p6 n m w' (by omega) b env t2 ⟨ok3,A.wf,hbb,f2⟩]
    |_=>simp[eY,hhd,hx,cls,vT]
   ·exact recCase x a b env t1 A hx
  ·obtain⟨x,a,b,t',hfe,hok,hx,ht',hf',hwf,hlt⟩:=pd A.wf hq
   have hrec:hd g.ex g.out=(g.ex,g.out):=by rw[hfe];exact pW hwf
   rw[uk n v (qU hq) hrec]
   have hcl:cls (yY env) (.bound u) 0=cls (yY g.out) (zd g.ex g.out) 0:=by
    simp only[cls];rw[if_neg (by omega),Nat.sub_zero];exact EA A.wf hu
   rw[hcl]
   have hty:zd g.ex g.out=t':=by unfold zd;rw[ht'];rfl
   rw[hty,hfe]
   rw[hfe]at ht'
   obtain⟨t1,_,_,rfl⟩:=dw hx ht'
   exact recCase x a b g.out t1 ⟨hok,hwf,ht',hf'⟩ hx
theorem m8{n:Nat}{v:Vl}{e:E}{t:Ty}(A:Ask e [] t):eY n v (e,[])=vT n v t:=by
 have:=p6 n v.nodes v (au _) e [] t A
 rw[this]
 obtain⟨w,ht⟩:=kg e [] t A.ok (fun w hw=>by cases hw) A.ty
 have hl:=ue w []
 rw[ht]at hl
 exact congrArg (vT n v) (p5 _ t hl)
def eS(σ:Nm->Option Ty):Ty->Ty
 | .name s=>(σ s).getD (.name s)
 | .plus a b=>.plus (eS σ a) (eS σ b)
 | .times a b=>.times (eS σ a) (eS σ b)
 | .rc a=>.rc (eS σ a)
 |t=>t
def iT(σ:Nm->Option Ty)(x:Nm)(u:Ty):Nm->Option Ty:=fun s=>if s=x then some u else σ s
theorem im(σ:Nm->Option Ty)(x:Nm)(u:Ty):∀t:Ty,eS σ (sub x u t)=eS (iT σ x (eS σ u)) t
 |
  .name s=>by
  by_cases h:s=x
  ·simp[sub,eS,iT,h]
  ·simp[sub,eS,iT,h]
 | .plus a b=>by simp only[sub,eS,im σ x u a,im σ x u b]
 | .times a b=>by simp only[sub,eS,im σ x u a,im σ x u b]
 | .rc a=>by simp only[sub,eS,im σ x u a]
 | .zero=>rfl
 | .one=>rfl
 | .bound k=>rfl
def CO(σ:Nm->Option Ty):Prop:=∀s u,σ s=some u->jz u 0
theorem j9{σ:Nm->Option Ty}(hσ:CO σ):∀(t:Ty) {i:Nat},jz t i->jz (eS σ t) i
 |
  .name s,i,_=>by
  simp only[eS]
  cases q:σ s with
  |none=>trivial
  |some u=>exact gF u (hσ s u q) (dO _)
 | .plus a b,i,h=>⟨j9 hσ a h.1,j9 hσ b h.2⟩
 | .times a b,i,h=>⟨j9 hσ a h.1,j9 hσ b h.2⟩
 | .rc a,i,h=>j9 hσ a (i:=i+1) h
 | .zero,_,_=>trivial
 | .one,_,_=>trivial
 | .bound k,_,h=>h
theorem jK{σ:Nm->Option Ty}(hσ:CO σ)(x:Nm)(U:Ty):∀(t:Ty) (i:Nat),bn x t=false->eS (iT σ x U) (dy (.name x) t i)=dy U (eS σ t) i
 |
  .name s,i,h=>by
  have hs:s≠x:=by simpa[bn]using h
  simp only[dy,eS,iT,if_neg hs]
  cases q:σ s with
  |none=>rfl
  |some u=>exact(lQ U u (gF u (hσ s u q) (dO _))).symm
 |
  .bound k,i,h=>by
  simp only[dy,eS]
  split
  ·simp[eS,iT]
  ·rfl
 |
  .plus a b,i,h=>by
  simp only[bn,cg]at h
  simp only[dy,eS,jK hσ x U a i h.1,jK hσ x U b i h.2]
 |
  .times a b,i,h=>by
  simp only[bn,cg]at h
  simp only[dy,eS,jK hσ x U a i h.1,jK hσ x U b i h.2]
 | .rc a,i,h=>by simp only[dy,eS,jK hσ x U a (i+1) h]
 | .zero,_,_=>rfl
 | .one,_,_=>rfl
theorem lO{σ:Nm->Option Ty}(hσ:CO σ)(x:Nm){u:Ty}(hu:jz u 0):CO (iT σ x u):=fun s v h=>by
 unfold iT at h
 split at h
 ·cases h;exact hu
 ·exact hσ s v h
theorem jl(x:Nm):∀(n:Nat) (c:Vl) (t:Ty) (i:Nat),c.nodes<=n->dL (dy (.name x) t i) c=dL t c
 |0,c,_,_,h=>by have:=du c;omega
 |
  n+1,c,t,i,hn=>by
  cases t with
  |bound k=>simp only[dy];split<;>(cases c<;>rfl)
  |
   plus a b =>
   cases c with
   |l c=>simp only[Vl.nodes]at hn;exact jl x n c a i (by omega)
   |r c=>simp only[Vl.nodes]at hn;exact jl x n c b i (by omega)
   |_=>rfl
  |
   times a b =>
   cases c with
   |
    l c =>
    cases c with
    |p y z=>simp only[Vl.nodes]at hn;exact jl x n y a i (by omega)
    |_=>rfl
   |
    r c =>
    cases c with
    |p y z=>simp only[Vl.nodes]at hn;exact jl x n z b i (by omega)
    |_=>rfl
   |_=>rfl
  |
   rc a =>
   cases c with
   |
    f c =>
    cases c with
    |l y=>simp only[Vl.nodes]at hn;exact jl x n y a (i+1) (by omega)
    |
     r c =>
     cases c with
     |
      p y z =>
      simp only[Vl.nodes]at hn
      have h1:=jl x n y a (i+1) (by omega)
      have h2:=jl x n z (.rc a) i (by omega)
      show (dL (dy (.name x) a (i+1)) y&&dL (.rc (dy (.name x) a (i+1))) z)=(dL a y&&dL (.rc a) z)
      rw[h1]
      exact congrArg _ h2
     |_=>rfl
    |_=>rfl
   |_=>rfl
  |_=>rfl
end Go.Proofs.Trees
namespace Go.Proofs.Trees
open Go Go.VL Go.RowKit
theorem dM(x:Nm):∀(n:Nat) (c:Vl) (t:Ty) (i:Nat) (v:Vl),c.nodes<=n->cW (dy (.name x) t i) c v=cW t c v
 |0,c,_,_,_,h=>by have:=du c;omega
 |
  n+1,c,t,i,v,hn=>by
  cases t with
  |bound k=>simp only[dy];split<;>(cases c<;>rfl)
  |
   plus a b =>
   cases c with
   |l c=>simp only[Vl.nodes]at hn;exact congrArg Vl.l (dM x n c a i v (by omega))
   |r c=>simp only[Vl.nodes]at hn;exact congrArg Vl.r (dM x n c b i v (by omega))
   |_=>rfl
  |
   times a b =>
   cases c with
   |
    l c =>
    cases c with
    |p y z=>simp only[Vl.nodes]at hn;exact congrArg (fun q=>Vl.p q z) (dM x n y a i v (by omega))
    |_=>rfl
   |
    r c =>
    cases c with
    |p y z=>simp only[Vl.nodes]at hn;exact congrArg (Vl.p y) (dM x n z b i v (by omega))
    |_=>rfl
   |_=>rfl
  |
   rc a =>
   cases c with
   |
    f c =>
    cases c with
    |l y=>simp only[Vl.nodes]at hn;exact congrArg Vl.f (dM x n y a (i+1) v (by omega))
    |
     r c =>
     cases c with
     |
      p y z =>
      simp only[Vl.nodes]at hn
      have h2:=dM x n z (.rc a) i v (by omega)
      have h1:=dM x n y a (i+1) (cW (.rc a) z v) (by omega)
      show Vl.f (cW (dy (.name x) a (i+1)) y (cW (.rc (dy (.name x) a (i+1))) z v))=Vl.f (cW a y (cW (.rc a) z v))
      have h3:cW (.rc (dy (.name x) a (i+1))) z v=cW (.rc a) z v:=h2
      rw[h3,h1]
     |_=>rfl
    |_=>rfl
   |_=>rfl
  |_=>rfl
theorem AT{n:Nat}{c:Vl}{a:Ty}(h:vT n c (.rc a)=true):∃w,c=.f w/\vT n w (dy (.rc a) a 0)=true:=by
 cases c with
 |f w=>exact⟨w,rfl,h⟩
 |_=>simp[vT]at h
theorem ji{n:Nat}{c:Vl}{a b:Ty}(h:vT n c (.plus a b)=true):(∃w,c=.l w/\vT n w a=true)\/∃w,c=.r w/\vT n w b=true:=by
 cases c with
 |l w=>exact .inl ⟨w,rfl,h⟩
 |r w=>exact .inr ⟨w,rfl,h⟩
 |_=>simp[vT]at h
theorem gn{n:Nat}{c:Vl}{a b:Ty}(h:vT n c (.times a b)=true):∃x y,c=.p x y/\vT n x a=true/\vT n y b=true:=by
 cases c with
 |p x y=>simp only[vT,aw]at h;exact⟨x,y,rfl,h.1,h.2⟩
 |_=>simp[vT]at h
theorem oK{σ:Nm->Option Ty}(hσ:CO σ){a c d:Ty}{x:Nm}(ha:jz (.rc a) 0)(hc:jz c 0)(hd:jz d 0):∃X,eS σ (pX a x c d)=.rc X/\dy (.rc X) X 0=.plus (eS (iT σ x (eS σ (.rc a))) c) (.times (eS (iT σ x (eS σ (.rc a))) d) (eS σ (pX a x c d))):=by
 refine⟨.plus (eS σ (sub x (.rc a) c)) (.times (eS σ (sub x (.rc a) d)) (.bound 0)),rfl,?_⟩
 have h1:=j9 hσ (sub x (.rc a) c) (kB ha c hc)
 have h2:=j9 hσ (sub x (.rc a) d) (kB ha d hd)
 simp only[dy,lQ _ _ h1,lQ _ _ h2,if_true]
 rw[im,im]
 simp only[pX,eS,im]
theorem vy(n:Nat):∀(m:Nat) (c:Vl),c.nodes<=m->∀(t:Ty) (s:Nm) (d:Ty) (σ:Nm->Option Ty),Dv t s d->CO σ->jz t 0->vT n c (eS σ d)=true->dL t c=true
 |0,c,h=>by have:=du c;omega
 |
  m+1,c,hm=>by
  intro t s d σ hd hσ hl hv
  cases hd with
  |zero=>cases c<;>rfl
  |one=>cases c<;>rfl
  |bound=>cases c<;>rfl
  |hit=>cases c<;>rfl
  |qv=>cases c<;>rfl
  |
   plus h1 h2 _ =>
   rcases ji hv with⟨w,rfl,hw⟩|⟨w,rfl,hw⟩
   ·simp only[Vl.nodes]at hm;exact vy n m w (by omega) _ s _ σ h1 hσ hl.1 hw
   ·simp only[Vl.nodes]at hm;exact vy n m w (by omega) _ s _ σ h2 hσ hl.2 hw
  |
   times h1 h2 _ =>
   rcases ji hv with⟨w,rfl,hw⟩|⟨w,rfl,hw⟩
   ·obtain⟨x,y,rfl,hx,hy⟩:=gn hw
    simp only[Vl.nodes]at hm;exact vy n m x (by omega) _ s _ σ h1 hσ hl.1 hx
   ·obtain⟨x,y,rfl,hx,hy⟩:=gn hw
    simp only[Vl.nodes]at hm;exact vy n m y (by omega) _ s _ σ h2 hσ hl.2 hy
  |
   @rc a _ c0 d0 x hx hs h1 h2 hsz =>
   have lo:jz (dy (.name x) a 0) 0:=gG x a hl
   obtain⟨X,e1,e2⟩:=oK (x:=x) hσ hl (h1.lc lo) (h2.lc lo)
   have hv':=hv
   rw[e1]at hv'
   obtain⟨w,rfl,hw⟩:=AT hv'
   rw[e2]at hw
   have hcl:=lO hσ x (j9 hσ (.rc a) hl)
   rcases ji hw with⟨y,rfl,hy⟩|⟨y,rfl,hy⟩
   ·simp only[Vl.nodes]at hm
    have:=vy n m y (by omega) _ s _ _ h1 hcl lo hy
    rw[jl x y.nodes y a 0 (au _)]at this
    exact this
   ·obtain⟨y,z,rfl,hy,hz⟩:=gn hy
    simp only[Vl.nodes]at hm
    have q1:=vy n m y (by omega) _ x _ _ h2 hcl lo hy
    rw[jl x y.nodes y a 0 (au _)]at q1
    have q2:=vy n m z (by omega) (.rc a) s _ σ (.rc x hx hs h1 h2 hsz) hσ hl hz
    show (dL a y&&dL (.rc a) z)=true
    rw[q1,q2];rfl
theorem qh(n:Nat):∀(m:Nat) (c:Vl),c.nodes<=m->∀(t:Ty) (s:Nm) (d:Ty) (σ:Nm->Option Ty),Dv t s d->CO σ->jz t 0->vT n c (eS σ d)=true->∀v,vT n v (eS σ (.name s))=true->vT n (cW t c v) (eS σ t)=true
 |0,c,h=>by have:=du c;omega
 |
  m+1,c,hm=>by
  intro t s d σ hd hσ hl hv v hvv
  have no:∀c,vT n c .zero=false:=fun c=>by cases c<;>rfl
  cases hd with
  |zero=>rw[show eS σ .zero=.zero from rfl,no]at hv;cases hv
  |one=>rw[show eS σ .zero=.zero from rfl,no]at hv;cases hv
  |bound=>rw[show eS σ .zero=.zero from rfl,no]at hv;cases hv
  |qv=>rw[show eS σ .zero=.zero from rfl,no]at hv;cases hv
  |hit=>rw[kT];exact hvv
  |
   plus h1 h2 _ =>
   rcases ji hv with⟨w,rfl,hw⟩|⟨w,rfl,hw⟩
   ·simp only[Vl.nodes]at hm;exact qh n m w (by omega) _ s _ σ h1 hσ hl.1 hw v hvv
   ·simp only[Vl.nodes]at hm;exact qh n m w (by omega) _ s _ σ h2 hσ hl.2 hw v hvv
  |
   times h1 h2 _ =>
   rcases ji hv with⟨w,rfl,hw⟩|⟨w,rfl,hw⟩
   ·obtain⟨x,y,rfl,hx,hy⟩:=gn hw
    simp only[Vl.nodes]at hm
    have:=qh n m x (by omega) _ s _ σ h1 hσ hl.1 hx v hvv
    show (vT n _ _&&vT n _ _)=true
    rw[this,hy];rfl
   ·obtain⟨x,y,rfl,hx,hy⟩:=gn hw
    simp only[Vl.nodes]at hm
    have:=qh n m y (by omega) _ s _ σ h2 hσ hl.2 hy v hvv
    show (vT n _ _&&vT n _ _)=true
    rw[this,hx];rfl
  |
   @rc a _ c0 d0 x hx hs h1 h2 hsz =>
   have lo:jz (dy (.name x) a 0) 0:=gG x a hl
   obtain⟨X,e1,e2⟩:=oK (x:=x) hσ hl (h1.lc lo) (h2.lc lo)
   have hv':=hv
   rw[e1]at hv'
   obtain⟨w,rfl,hw⟩:=AT hv'
   rw[e2]at hw
   have hcl:=lO hσ x (j9 hσ (.rc a) hl)
   have hop:eS (iT σ x (eS σ (.rc a))) (dy (.name x) a 0)=dy (eS σ (.rc a)) (eS σ a) 0:=jK hσ x _ a 0 hx
   have hns:eS (iT σ x (eS σ (.rc a))) (.name s)=eS σ (.name s):=by simp only[eS,iT,if_neg (Ne.symm hs)]
   have hnx:eS (iT σ x (eS σ (.rc a))) (.name x)=eS σ (.rc a):=by simp[eS,iT]
   rcases ji hw with⟨y,rfl,hy⟩|⟨y,rfl,hy⟩
   ·simp only[Vl.nodes]at hm
    have:=qh n m y (by omega) _ s _ _ h1 hcl lo hy v (by rw[hns];exact hvv)
    rw[hop,dM x y.nodes y a 0 v (au _)]at this
    exact this
   ·obtain⟨y,z,rfl,hy,hz⟩:=gn hy
    simp only[Vl.nodes]at hm
    have q2:=qh n m z (by omega) (.rc a) s _ σ (.rc x hx hs h1 h2 hsz) hσ hl hz v hvv
    have q1:=qh n m y (by omega) _ x _ _ h2 hcl lo hy (cW (.rc a) z v) (by rw[hnx];exact q2)
    rw[hop,dM x y.nodes y a 0 _ (au _)]at q1
    exact q1
def Eu:Nm->Option Ty:=fun _=>none
theorem se:CO Eu:=fun _ _ h=>by cases h
theorem i7:∀t:Ty,eS Eu t=t
 | .name s=>rfl
 | .plus a b=>by simp only[eS,i7 a,i7 b]
 | .times a b=>by simp only[eS,i7 a,i7 b]
 | .rc a=>by simp only[eS,i7 a]
 | .zero=>rfl
 | .one=>rfl
 | .bound k=>rfl
theorem GJ{n:Nat}{a D:Ty}{x:Nm}(hx:bn x a=false)(hl:jz (.rc a) 0)(h:n9 a x=some D){c:Vl}(hc:vT n c D=true) :
 dL a c=true/\∀v,vT n v (.rc a)=true->vT n (.f (cW a c v)) (.rc a)=true:=by
 simp only[n9,bh,cQ,eU]at h
 obtain⟨d,hd,_,rfl⟩:=h
 have lo:jz (dy (.name x) a 0) 0:=gG x a hl
 have hcl:=lO se x hl
 have e1:sub x (.rc a) d=eS (iT Eu x (.rc a)) d:=by
  have:=im Eu x (.rc a) d
  rw[i7,i7]at this;exact this
 rw[e1]at hc
 have h1:=vy n c.nodes c (au _) _ x _ _ hd hcl lo hc
 rw[jl x c.nodes c a 0 (au _)]at h1
 refine⟨h1,fun v hv=>?_⟩
 have h2:=qh n c.nodes c (au _) _ x _ _ hd hcl lo hc v (by simpa[eS,iT]using hv)
 rw[dM x c.nodes c a 0 v (au _),jK se x _ a 0 hx,i7]at h2
 exact h2
end Go.Proofs.Trees
namespace Go.Proofs.Trees
open Go Go.VL Go.RowKit
theorem z7{env:List Fr}(h:WF env):∀w,w∈names env->dk w=true:=by
 induction h with
 |nil=>intro w hw;cases hw
 |
  cons hs _ _ _ _ _ ih =>
  intro w hw
  simp only[names,aN,aQ]at hw
  rcases hw with hw|rfl
  ·exact ih w hw
  ·exact hs
theorem Br{ar:List (List UInt8)}{k:Nat}(h:k<ar.length):gj ar k∈ar:=by
 unfold gj
 have:ar.length-1-k<ar.length:=by omega
 simp[aa,this]
def AQ(s:List UInt8)(ar:List (List UInt8)):Prop:=hJ s=true\/(bR s ar ar.length).isSome=true
theorem vw{s:List UInt8}{ar:List (List UInt8)}{u:Nat}(hl:∀w,w∈ar->dk w=true)(h:bR s ar ar.length=some u):dk s=true:=by
 obtain⟨h1,h2⟩:=fL _ _ (au _) h
 rw[<-h2];exact hl _ (Br h1)
theorem Gd{s0 s:List UInt8}{ar:List (List UInt8)}{t:Ty}(ht:cS (.atom s0) ar=some t)(hl:∀w,w∈ar->dk w=true)(hs:AQ s ar):eD t (oG s ar)=decide (s0=s):=by
 have h48:∀b:UInt8,hJ [b]=false->dk [b]=false->s≠[b]:=fun b h1 h2 e=>by
  subst e
  rcases hs with h|h
  ·rw[h1]at h;cases h
  ·obtain⟨u,hu⟩:=bU.1 h
   rw[vw hl hu]at h2;cases h2
 simp only[cS]at ht
 split at ht
 ·rename_i e;cases ht;subst e
  have:=h48 48 rfl rfl
  rw[decide_eq_false (fun h=>this h.symm)];cases oG s ar<;>rfl
 ·split at ht
  ·rename_i e;cases ht;subst e
   have:=h48 49 rfl rfl
   rw[decide_eq_false (fun h=>this h.symm)];cases oG s ar<;>rfl
  ·split at ht
   ·rename_i hp
    cases ht
    unfold oG
    cases e:bR s ar ar.length with
    |none=>rfl
    |
     some u =>
     have hloo:=vw hl e
     show false=_
     rw[decide_eq_false]
     rintro rfl
     rw[ky hp]at hloo;cases hloo
   ·rename_i hnp
    split at ht
    ·split at ht
     ·rename_i u hu
      cases ht
      unfold oG
      cases e:bR s ar ar.length with
      |
       none =>
       show false=_
       rw[decide_eq_false]
       rintro rfl
       rw[hu]at e;cases e
      |
       some u' =>
       show decide (u=u')=_
       rw[cx,decide_eq_true_eq,decide_eq_true_eq]
       constructor
       ·rintro rfl
        rw[<-(fL _ _ (au _) hu).2,<-(fL _ _ (au _) e).2]
       ·rintro rfl
        rw[hu]at e;cases e;rfl
     ·rename_i hn
      cases ht
      unfold oG
      cases e:bR s ar ar.length with
      |none=>rfl
      |
       some u =>
       show false=_
       rw[decide_eq_false]
       rintro rfl
       rw[hn]at e;cases e
    ·cases ht
theorem Eg{b:E}{ar:List (List UInt8)}{w:List UInt8}{t:Ty}(hb:cS b (ar++[w])=some t)(hw:dk w=true)(hs:AQ w ar):u4 t (oG w ar).up=false:=by
 rcases hs with h|h
 ·rw[ky h]at hw;cases hw
 ·obtain⟨u,hu⟩:=bU.1 h
  rw[oG,hu];exact GS hb hu
theorem zv{s w:List UInt8}{ar:List (List UInt8)}(h:w≠s)(hs:AQ s ar):AQ s (ar++[w]):=by
 rcases hs with h1|h1
 ·exact .inl h1
 ·right;rw[jH ar h];obtain⟨u,hu⟩:=bU.1 h1;rw[hu];rfl
def Sv(e:E)(s:List UInt8)(t:Ty)(tg:Tg)(v:Vl):Prop:=an Tryz.prog 74 [.agg [.v (.string (mk e.at)),e.sp],.v (.string (mk s)),.agg [.v (.string (mk v.cL.at)),v.cL.sp]] [] (bK (.sl (l9 (ck t tg v))))
theorem E9(n:Nat):∀(m:Nat) (v:Vl),v.nodes<=m->∀(e:E) (env:List Fr) (t:Ty),Ask e env t->eY n v (e,env)=true->env.length+v.nodes<100000->∀(s:List UInt8),AQ s (names env)->Sv e s t (oG s (names env)) v
 |0,v,hm=>by have:=du v;omega
 |
  m+1,v,hm=>by
  intro e env t A hv hl s hs
  have hloo:=z7 A.wf
  unfold Sv
  refine Sx _ _ _ _ _ ((aX _).mpr trivial) ((aX _).mpr trivial) ?_
  have hlen:=mX t (oG s (names env)) v
  have atomCase:∀s0,e=.atom s0->stuck t v=true->eZ Tryz.prog 244 (xr (mk e.at) e.sp (mk s) (mk v.cL.at) v.cL.sp) fun _ xs obs=>bK (.sl (l9 (ck t (oG s (names env)) v))) (xs.headD .any) obs:=by
   rintro s0 rfl hst
   have hat:=Gd A.ty hloo hs
   have hne:s0≠[]:=A.ok
   simp only[xr,E.at,↓zq,zs,ae,zt]
   refine⟨fun _=>⟨fun h=>?_,fun h=>?_⟩,fun h=>absurd h hne⟩
   ·rw[decide_eq_true h]at hat
    rw[mo v hat]
    refine⟨⟨zO _ _ _ _,by omega⟩,?_⟩
    simp[bK,l9,Vl.cL,E.at,E.sp]
   ·rw[decide_eq_false h]at hat
    rw[dS hat hst]
    simp[bK,l9]
  have hvh:=AY v
  rw[dm]at hvh
  rcases gp A.wf A.ty with⟨hb,hq⟩|⟨u,g,rfl,hq,hu⟩
  ·have hhd:hd e env=(e,env):=kf hq
   rcases fK A.ty hb A.cl with⟨rfl,rfl⟩|⟨rfl,rfl⟩|⟨s0,rfl,rfl,hp,h0,h1⟩|⟨x,a,b,t1,t2,rfl,hx,rfl,ha,hbb⟩|⟨x,a,b,t1,t2,rfl,hx,rfl,ha,hbb⟩|⟨x,a,b,t1,rfl,hx,rfl⟩
   ·exact atomCase _ rfl (by cases v<;>rfl)
   ·exact atomCase _ rfl (by cases v<;>rfl)
   ·exact atomCase _ rfl (by cases v<;>rfl)
   ·obtain⟨ok1,ok2,ok3,_⟩:=A.ok
    obtain⟨f1,f2⟩:=fA A.cl
    have hP:=P3.of x a b
    cases v with
    |
     l w =>
     simp only[eY,hhd,hx,beq_self_eq_true,bX]at hv
     simp only[Vl.nodes]at hm hl hlen
     rw[m9]at hlen |-
     rw[fQ]at hlen
     have hW:=P2.of (.atom [108]) w.cL
     simp only[xr,E.at,↓zq,zs,ae,zt]
     refine⟨fun h=>absurd rfl h,fun _=>aj hvh ?_⟩
     simp only[vh,Vl.cL,toNat_one,bg,↓zq,zs,ae,zt,hP.1,hP.2.1,hP.2.2.1,hP.2.2.2,hW.1,hW.2.1,hW.2.2,aL]
     refine⟨fun _=>?_,fun h=>absurd rfl h⟩
     repeat refine⟨by omega,?_⟩
     refine aj (E9 n m w (by omega) a env t1 ⟨ok2,A.wf,ha,f1⟩ hv (by omega) s hs) ?_
     simp only[↓zq,zs,ae]
     refine aV (NY [108] Vl.l (fun c=>rfl) (ck t1 (oG s (names env)) w) [] (by simp;omega)) ?_
     simp[↓zq,zs,ae,bK,aO,bx]
    |
     r w =>
     simp only[eY,hhd,hx,beq_self_eq_true,bX]at hv
     simp only[Vl.nodes]at hm hl hlen
     rw[mU]at hlen |-
     rw[fQ]at hlen
     have hW:=P2.of (.atom [114]) w.cL
     simp only[xr,E.at,↓zq,zs,ae,zt]
     refine⟨fun h=>absurd rfl h,fun _=>aj hvh ?_⟩
     simp only[vh,Vl.cL,toNat_one,bg,↓zq,zs,ae,zt,hP.1,hP.2.1,hP.2.2.1,hP.2.2.2,hW.1,hW.2.1,hW.2.2,aL]
     refine⟨fun h=>by simp at h,fun _=>⟨fun _=>?_,fun h=>absurd rfl h⟩⟩
     repeat refine⟨by omega,?_⟩
     refine aj (E9 n m w (by omega) b env t2 ⟨ok3,A.wf,hbb,f2⟩ hv (by omega) s hs) ?_
     simp only[↓zq,zs,ae]
     refine aV (NY [114] Vl.r (fun c=>rfl) (ck t2 (oG s (names env)) w) [] (by simp;omega)) ?_
     simp[↓zq,zs,ae,bK,aO,bx]
    |_=>simp[eY,hhd,hx]at hv
   ·obtain⟨ok1,ok2,ok3,_⟩:=A.ok
    obtain⟨f1,f2⟩:=eX A.cl
    have hP:=P3.of x a b
    cases v with
    |
     p w w' =>
     simp only[eY,hhd,hx,beq_self_eq_true,bX,aw]at hv
     simp only[Vl.nodes]at hm hl hlen
     rw[nq]at hlen |-
     simp only[aq,fQ]at hlen
     have hW:=P3.of (.atom [112]) w.cL w'.cL
     simp only[xr,E.at,↓zq,zs,ae,zt]
     refine⟨fun h=>absurd rfl h,fun _=>aj hvh ?_⟩
     simp only[vh,Vl.cL,toNat_one,bg,↓zq,zs,ae,zt,hP.1,hP.2.1,hP.2.2.1,hP.2.2.2,hW.1,hW.2.1,hW.2.2.1,hW.2.2.2,aL]
     refine⟨fun h=>by simp at h,fun _=>⟨fun h=>by simp at h,fun _=>⟨fun _=>?_,fun h=>absurd rfl h⟩⟩⟩
     repeat refine⟨by omega,?_⟩
     refine aj (E9 n m w (by omega) a env t1 ⟨ok2,A.wf,ha,f1⟩ hv.1 (by omega) s hs) ?_
     simp only[↓zq,zs,ae]
     have h1:=La s (mk []) (E.list [x,a,b]).sp ((aX _).mpr trivial) (mk []) (E.list [.atom [112],w.cL,w'.cL]).sp w w' (P3.of _ _ _) (ck t1 (oG s (names env)) w) (by omega) _ 0 [] (aW _) (by simp;omega)
     rw[bb,aU]at h1
     refine cz h1 ?_
     simp only[↓zq,zs,ae,aX,ae,bg,hP.1,hP.2.1,hP.2.2.2,hW.1,hW.2.1,hW.2.2.2,aL]
     repeat refine⟨by omega,?_⟩
     refine aj (E9 n m w' (by omega) b env t2 ⟨ok3,A.wf,hbb,f2⟩ hv.2 (by omega) s hs) ?_
     simp only[↓zq,zs,ae]
     have h2:=Jz (mk []) (E.list [.atom [112],w.cL,w'.cL]).sp w w' (P3.of _ _ _) (ck t2 (oG s (names env)) w') (by omega) _ 0 (iI (fun c=>Vl.l (.p c w')) (ck t1 (oG s (names env)) w)) (aW _) (by rw[fQ];omega)
     rw[bb]at h2
     refine cz h2 ?_
     simp[↓zq,zs,ae,bK]
    |_=>simp[eY,hhd,hx]at hv
   ·obtain⟨t1',he1,h1,f1,hw1⟩:=ju A.wf A.ok hx A.ty A.cl
    cases he1
    obtain⟨ok1,ok2,ok3,_⟩:=A.ok
    obtain⟨_,hla,_,_⟩:=dw hx A.ty
    have A':Ask b (.mk a.at (.list [x,a,b]) env::env) t1:=⟨ok3,hw1,h1,f1⟩
    have hnm:names (.mk a.at (.list [x,a,b]) env::env)=names env++[a.at]:=rfl
    have hP:=P3.of x a b
    cases v with
    |
     f w =>
     simp only[eY,hhd,hx,beq_self_eq_true,bX]at hv
     simp only[Vl.nodes]at hm hl hlen
     have hW:=P2.of (.atom [102]) w.cL
     simp only[xr,E.at,↓zq,zs,ae,zt]
     refine⟨fun h=>absurd rfl h,fun _=>aj hvh ?_⟩
     simp only[vh,Vl.cL,toNat_one,bg,↓zq,zs,ae,zt,hP.1,hP.2.1,hP.2.2.1,hP.2.2.2,hW.1,hW.2.1,hW.2.2,aL]
     refine⟨fun h=>by simp at h,fun _=>⟨fun h=>by simp at h,fun _=>⟨fun h=>by simp at h,fun _=>?_⟩⟩⟩
     repeat refine⟨by omega,?_⟩
     refine⟨fun h=>?_,fun h=>?_⟩
     ·
      have hh:a.at=s:=h
      subst hh
      have:u4 (.rc t1) (oG a.at (names env))=false:=Eg h1 hla hs
      rw[iY _ _ (au _) _ _ this]
      simp[bK,l9]
     ·have hh:a.at≠s:=h
      rw[nk]at hlen |-
      simp only[aq,fQ]at hlen
      repeat refine⟨by omega,?_⟩
      have i1:=E9 n m w (by omega) b _ t1 A' hv (by simp;omega) s (by rw[hnm];exact zv hh hs)
      rw[hnm,zu _ hh]at i1
      refine aj i1 ?_
      simp only[↓zq,zs,ae]
      have h3:=Mv s a.at (mk []) (E.list [x,a,b]).sp ((aX _).mpr trivial) (mk []) (E.list [.atom [102],w.cL]).sp ((aX _).mpr trivial) (ck t1 (oG s (names env)).up w) (by omega) _ 0 [] (aW _) (by simp;omega)
      rw[bb,aU]at h3
      refine cz h3 ?_
      simp only[↓zq,zs,ae,aX,ae,toNat_one,bg,hP.1,hP.2.1,hP.2.2.2,hW.1,hW.2.1,hW.2.2,aL]
      repeat refine⟨by omega,?_⟩
      have i2:=E9 n m w (by omega) b _ t1 A' hv (by simp;omega) a.at (by rw[hnm];right;rw[fu];rfl)
      rw[hnm,vX]at i2
      refine aj i2 ?_
      simp only[↓zq,zs,ae]
      have hl2:=mX t1 (.bd 0) w
      have ih3:∀h,h∈ck t1 (.bd 0) w->Sv (.list [x,a,b]) s (.rc t1) (oG s (names env)) h.2:=fun h hh=>by
       have h3:=(iD hh).1
       have h4:=iq n m w (by omega) b _ t1 A' hv 0 _ rfl h hh
       exact E9 n m h.2 (by omega) (.list [x,a,b]) env (.rc t1) A h4 (by omega) s hs
      have h4:=Md s (.list [x,a,b]) t1 (oG s (names env)) (ck t1 (.bd 0) w) (by omega) ih3 _ 0 (iI (fun c=>.f (.l c)) (ck t1 (oG s (names env)).up w)) (aW _) (by
       simp only[bb,aq,fQ]
       have hlen2:(ck t1 (oG s (names env)).up w).length+((ck t1 (.bd 0) w).flatMap (Aw t1 (oG s (names env)))).length<=1+w.nodes:=hlen
       omega)
      rw[bb]at h4
      simp only[E.at]at h4
      refine cz h4 ?_
      simp[↓zq,zs,ae,bK]
    |_=>simp[eY,hhd,hx]at hv
  ·cases e with
   |atom s0=>exact atomCase _ rfl (by cases v<;>rfl)
   |list l=>exact absurd hq (by rw[show (E.list l).at=[] from rfl,kZ A.wf];simp)
end Go.Proofs.Trees
namespace Go.Proofs.Trees
open Go Go.VL Go.RowKit
def kE(s:List UInt8):Option Ty:=match w6 s with
 |some (.rc a)=>some a
 |_=>none
def Ci:Option Ty->AV
 |some a=>(Ty.rc a).av
 |none=>ir
theorem PB(s:List UInt8):an Tryz.prog 95 [.v (.string (mk s))] [] (bK (Ci (kE s))):=by
 refine Ry _ ?_
 unfold L3
 refine aj (N1 s) ?_
 cases h:w6 s with
 |none=>simp[↓zq,zs,ae,ij,Ci,kE,h,bK]
 |some t=>cases t<;>simp[↓zq,zs,ae,ij,Ci,kE,h,bK,Ty.av]
def qw(s v:List UInt8):Option Vl:=match kE s with
 |some _=>mn s v 100
 |none=>none
def G7(s:List UInt8):AV:=match kE s with
 |some a=>(Ty.rc a).av
 |none=>ir
theorem uO{s:List UInt8}{a:Ty}(h:kE s=some a):w6 s=some (.rc a):=by
 unfold kE at h
 split at h
 ·rename_i e;cases h;exact e
 ·cases h
theorem Qg(s v:List UInt8):an Tryz.prog 69 [.v (.string (mk s)),.v (.string (mk v))] [] (bK (.cH [G7 s,jy (qw s v)])):=by
 refine S2 _ _ ?_
 unfold Mg
 refine aj (PB s) ?_
 cases h:kE s with
 |none=>simp[↓zq,zs,ae,Ci,G7,qw,h,bK,jy]
 |
  some a =>
  simp only[↓zq,zs,ae,Ci,aE,fO]
  refine⟨fun h=>(by cases h),fun _=>?_⟩
  refine aj (Oo s v 100) ?_
  rw[uO h]
  simp[↓zq,zs,ae,ij,gv,G7,qw,h,bK,aE]
structure LV(s v:List UInt8)(w:Vl)(a:Ty)(x A B:E):Prop where
 l:kE s=some a
 ce:jI s=some (.list [x,A,B])
 v:su v=some w
 ask:Ask (.list [x,A,B]) [] (.rc a)
 hx:x.at=[114,101,99]
 TF:dk A.at=true
 body:Ask B [.mk A.at (.list [x,A,B]) []] a
 eY:eY 100 w (.list [x,A,B],[])=true
theorem sM{e:E}{env:List Fr}{a:Ty}(A:Ask e env (.rc a)):∃x y z,e=.list [x,y,z]/\x.at=[114,101,99]/\dk y.at=true/\Ask z (.mk y.at (.list [x,y,z]) env::env) a:=by
 rcases fK A.ty rfl A.cl with⟨_,h⟩|⟨_,h⟩|⟨s,_,h,_⟩|⟨x,y,z,t1,t2,_,_,h,_⟩|⟨x,y,z,t1,t2,_,_,h,_⟩|⟨x,y,z,t1,rfl,hx,h⟩
 ·cases h
 ·cases h
 ·cases h
 ·cases h
 ·cases h
 ·cases h
  obtain⟨t1',he1,h1,f1,hw1⟩:=ju A.wf A.ok hx A.ty A.cl
  cases he1
  obtain⟨_,_,ok3,_⟩:=A.ok
  obtain⟨_,hla,_,_⟩:=dw hx A.ty
  exact⟨x,y,z,rfl,hx,hla,ok3,hw1,h1,f1⟩
theorem pJ{s v:List UInt8}{w:Vl}(h:qw s v=some w):∃a x A B,LV s v w a x A B:=by
 unfold qw at h
 split at h
 ·rename_i a hl
  obtain⟨e,t,m,h1,h2,h3,h4,h5,h6,h7⟩:=oO h
  rw[uO hl]at h3
  cases h3
  obtain⟨x,A,B,rfl,hx,hA,hB⟩:=sM h4
  have:m=100:=by omega
  subst this
  exact⟨a,x,A,B,hl,h1,h2,h4,hx,hA,hB,h7⟩
 ·cases h
theorem LV.hZ{s v:List UInt8}{w:Vl}{a:Ty}{x A B:E}(h:LV s v w a x A B):w.hZ 100:=(lN h.v).2.1
theorem LV.nodes{s v:List UInt8}{w:Vl}{a:Ty}{x A B:E}(h:LV s v w a x A B):w.nodes<=200:=(lN h.v).2.2
theorem tT{n:Nat}{v:Vl}{x A B:E}{env:List Fr}(hw:WF env)(hx:x.at=[114,101,99])(h:eY n v (.list [x,A,B],env)=true):∃w,v=.f w/\eY n w (B,.mk A.at (.list [x,A,B]) env::env)=true:=by
 have hd:=pW (x:=x) (a:=A) (b:=B) hw
 cases v<;>simp[eY,hd,hx]at h |-
 exact h
theorem LX(n:Nat)(v:Vl)(x A B:E)(a:Ty)(hA:Ask B [.mk A.at (.list [x,A,B]) []] a)(hx:x.at=[114,101,99])(hv:eY n v (.list [x,A,B],[])=true)(hl:v.nodes<90000):an Tryz.prog 58 [(Ty.rc a).av,v.cE] [] (bK (.sl (gK (kids a v)))):=by
 obtain⟨w,rfl,hw⟩:=tT .nil hx hv
 refine PR _ _ ((aE _).mpr trivial) ((aM _).mpr trivial) ?_
 unfold Oh
 refine aP (D2 a ir [] .nil) (Bu.ne a ir []) ?_
 rintro r o ⟨⟨m,hm,rfl⟩,rfl⟩
 have he2:kD (.ptr [.pid m [(Ty.rc a).av,ir],ir]) [m]:=.cons hm .nil
 have hfr:LK.ptr.has (.pid m [(Ty.rc a).av,ir]):=.inr (.inr ⟨_,_,rfl⟩)
 simp only[Ty.av]at he2 hfr
 simp only[↓zq,zs,ae,bI,aE,he2.has,hfr,Vl.cE,aM,Ty.av]
 repeat refine⟨by omega,?_⟩
 simp only[Vl.nodes]at hl
 have i2:=E0 n w.nodes w (au _) B _ a hA hw (by simp;omega) _ _ he2 (by simp) (.bd 0) [] _ (by have:=AA.bd (k:=0) (ids:=[m]) (by simp) [(Ty.rc a).av,ir] [];simpa only[bq,Ty.av]using this)
 unfold HB at i2
 refine aj i2 ?_
 simp[↓zq,zs,ae,bK,kids]
def si(l:List Nat):List (List AV):=l.map fun(k:Nat)=>[.v (.int .i64 (k:Int))]
theorem xq(l:List Nat):(si l).length=l.length:=by simp[si]
end Go.Proofs.Trees
namespace Go.Proofs.Trees
open Go Go.VL Go.RowKit
theorem F0{b:UInt8}(h:ig b=true):ff b=true:=by
 simp only[ig,ff,decide_eq_true_eq]at h |-;omega
theorem Eh{y:Nm}(h:Lr y):y≠[]/\y.all ff=true:=by
 have key:∀lo hi,97<=lo->hi<=122->named lo hi y=true->y≠[]/\y.all ff=true:=fun lo hi h1 h2 h=>by
  cases y with
  |nil=>cases h
  |
   cons c r =>
   simp only[named,aw,decide_eq_true_eq]at h
   refine⟨by simp,?_⟩
   rw[cZ,aw]
   refine⟨?_,?_⟩
   ·simp only[ff,decide_eq_true_eq];omega
   ·rw[bY]
    intro b hb
    exact F0 (bY.1 h.2 b hb)
 rcases h with h|h
 ·exact key 120 122 (by omega) (by omega) h
 ·exact key 116 116 (by omega) (by omega) h
theorem B6(m:Nat):(tN m).all ff=true:=by
 rw[cZ,xi (m+1) m (by omega)];rfl
theorem pH(F:List Nm):∀(t:Ty) (to:List Nm) (k:Nat),(∀y,bn y t=true->y≠[]/\y.all ff=true)->(∀w,w∈to->w≠[]/\w.all ff=true)->jz t to.length->(gY F t to k).1.pr
 | .zero,_,_,_,_,_=>⟨by simp,by decide⟩
 | .one,_,_,_,_,_=>⟨by simp,by decide⟩
 | .name s,_,_,hn,_,_=>hn s (by simp[bn])
 |
  .bound u,to,_,_,ht,hl=>by
  have:to.length-1-u<to.length:=by have:u<to.length:=hl;omega
  show (E.atom (gj to u)).pr
  unfold gj
  rw[aa,bp this]
  exact ht _ (bD this)
 | .plus a b,to,k,hn,ht,hl=>⟨by simp,⟨by simp,by decide⟩,pH F a to k (fun y hy=>hn y (by simp[bn,hy])) ht hl.1,pH F b to _ (fun y hy=>hn y (by simp[bn,hy])) ht hl.2,trivial⟩
 | .times a b,to,k,hn,ht,hl=>⟨by simp,⟨by simp,by decide⟩,pH F a to k (fun y hy=>hn y (by simp[bn,hy])) ht hl.1,pH F b to _ (fun y hy=>hn y (by simp[bn,hy])) ht hl.2,trivial⟩
 |
  .rc a,to,k,hn,ht,hl=>by
  refine⟨by simp,⟨by simp,by decide⟩,⟨by simp,B6 _⟩,pH F a (to++[tN (nx F k)]) _ hn (fun w hw=>?_) (by rw[aq];exact hl),trivial⟩
  rcases aN.1 hw with hw|hw
  ·exact ht w hw
  ·simp only[aQ]at hw;rw[hw];exact⟨by simp,B6 _⟩
theorem zL{D:Ty}{dt:Nm}(g:fW D)(hn:∀y,bn y D=true->Lr y)(h:told D=some dt):qX dt=some D:=by
 unfold told at h
 split at h
 ·rename_i hh
  cases h
  obtain⟨t,ht⟩:=bU.1 hh.2
  obtain⟨e,he,hw,hte,_,_⟩:=nK ht
  obtain⟨h1,_,_⟩:=pR he
  obtain⟨hx,hpr,_⟩:=yL h1
  obtain⟨w1,w2,_⟩:=kC (bQ D []) D [] 0 (.nil _ _) g.1 fun y hy=>⟨(eT D [] y).2 (.inr hy),g.2 y hy⟩
  have hp:=pH (bQ D []) D [] 0 (fun y hy=>Eh (hn y hy)) (fun w hw=>by cases hw) g.1
  have:=BA hp hpr hx
  rw[ht,<-hte,<-this,w2]
 ·cases h
theorem s4{a d:Ty}{x:Nm}(h:n9 a x=some d):∀y,bn y d=true->bn y a=true:=by
 simp only[n9,bh,cQ,eU]at h
 obtain⟨d',h1,_,rfl⟩:=h
 intro y hy
 rcases jm _ hy with h|⟨h,h'⟩
 ·exact h
 ·rcases gA a 0 (h1.names y h')with e|e
  ·exact absurd e h
  ·exact e
structure ZT(s d:Nm)(a:Ty)(x A B:E)(D:Ty):Prop where
 l:kE s=some a
 ce:jI s=some (.list [x,A,B])
 ask:Ask (.list [x,A,B]) [] (.rc a)
 hx:x.at=[114,101,99]
 body:Ask B [.mk A.at (.list [x,A,B]) []] a
 dl:cJ s=some d
 y:qX s=some (.rc a)
 lp:n9 a mg=some D
 bk:qX d=some D
theorem uf{s:Nm}{t:Ty}(h:w6 s=some t):qX s=some t:=by
 unfold w6 at h
 split at h
 ·cases h
 ·rename_i u hu
  split at h
  ·cases h;exact hu
  ·cases h
theorem ZT.of{s d:Nm}{a:Ty}(hl:kE s=some a)(hd:cJ s=some d):∃x A B D,ZT s d a x A B D:=by
 have hc:=uO hl
 cases hce:jI s with
 |none=>rw[nf hce]at hc;cases hc
 |
  some e =>
  obtain⟨t,h1,hA,_⟩:=ia hce
  rw[hc]at h1;cases h1
  obtain⟨x,A,B,rfl,hx,hA',hB⟩:=sM hA
  have hy:=uf hc
  have hd':=hd
  unfold cJ at hd'
  rw[hy]at hd'
  obtain⟨D,h2,h3⟩:=bh.1 hd'
  obtain⟨e2,he2,hw2,hte2,_,_⟩:=nK hy
  have hg:=sr hw2 hte2 (x:=mg) ⟨by simp,by simp,by simp⟩ h2
  exact⟨x,A,B,D,hl,hce,hA,hx,hB,hd,hy,h2,zL hg.1 (fun y hy'=>na hy y (s4 h2 y hy')) h3⟩
structure Cx(a:Ty)(w:Vl):Prop where
 ok:dL a w=true
 ty:∀v,vT 100 v (.rc a)=true->vT 100 (.f (cW a w v)) (.rc a)=true
 hZ:w.hZ 100
 nd:w.nodes<=200
structure Fo(a:Ty)(v:Vl):Prop where
 ty:vT 100 v (.rc a)=true
 hZ:v.hZ 100
 nd:v.nodes<=200
theorem ZT.ctx{s d:Nm}{a:Ty}{x A B:E}{D:Ty}(z:ZT s d a x A B D){c:Nm}{w:Vl}(h:mn d c 100=some w):Cx a w:=by
 obtain⟨e,t,m,h1,h2,h3,h4,h5,h6,h7⟩:=oO h
 have hm:m=100:=by omega
 subst hm
 have:=uf h3
 rw[z.bk]at this;cases this
 rw[m8 h4]at h7
 obtain⟨e2,he2,hw2,hte2,_,_⟩:=nK z.y
 have hlc:jz (.rc a) 0:=hte2 ▸ hw2.qy.1
 obtain⟨q1,q2⟩:=GJ (uE z.y) hlc z.lp h7
 exact⟨q1,q2,(lN h2).2.1,(lN h2).2.2⟩
theorem ZT.nG{s d:Nm}{a:Ty}{x A B:E}{D:Ty}(z:ZT s d a x A B D){f:Nm}{v:Vl}(h:qw s f=some v):Fo a v/\f=v.cF:=by
 obtain⟨a',x',A',B',L⟩:=pJ h
 have:=L.l
 rw[z.l]at this;cases this
 exact⟨⟨by rw[<-m8 L.ask];exact L.eY,L.hZ,L.nodes⟩,qS L.v⟩
theorem Fo.eY{s d:Nm}{a:Ty}{x A B:E}{D:Ty}(z:ZT s d a x A B D){v:Vl}(h:Fo a v):eY 100 v (.list [x,A,B],[])=true:=by rw[m8 z.ask];exact h.ty
theorem ZT.cF{s d:Nm}{a:Ty}{x A B:E}{D:Ty}(z:ZT s d a x A B D){w:Vl}(hb:w.hZ 100)(hv:vT 100 w (.rc a)=true):mn s w.cF 100=if w.nodes<=200 then some w else none:=by
 unfold mn
 rw[z.ce]
 by_cases hn:w.nodes<=200
 ·rw[qR hb hn,if_pos hn]
  simp only
  rw[if_pos ⟨by omega,by rw[show (100:Int).toNat=100 from rfl,m8 z.ask];exact hv⟩]
 ·rw[if_neg hn]
  cases q:su w.cF with
  |none=>rfl
  |
   some w' =>
   exfalso
   obtain⟨_,h2,h3⟩:=lN q
   have:=uW hb h2 (qS q)
   rw[this]at hn;exact hn h3
theorem ZT.lv{s d:Nm}{a:Ty}{x A B:E}{D:Ty}(z:ZT s d a x A B D)(f:Nm):qw s f=mn s f 100:=by
 unfold qw;rw[z.l]
def eC(d:Nm):List Nm->Option (List Vl)
 |[]=>some []
 |
  c::r=>match mn d c 100,eC d r with
  |some w,some l=>some (w::l)
  |_,_=>none
theorem rX{s d:Nm}{a:Ty}{x A B:E}{D:Ty}(z:ZT s d a x A B D):∀(p:List Nm) (l:List Vl),eC d p=some l->p=l.map (·.cF)/\∀c,c∈l->Cx a c
 |[],l,h=>by cases h;exact⟨rfl,fun c hc=>by cases hc⟩
 |
  c::r,l,h=>by
  simp only[eC]at h
  split at h
  ·rename_i w l' h1 h2
   cases h
   obtain⟨q1,q2⟩:=rX z r l' h2
   obtain⟨_,_,_,_,hv,_⟩:=oO h1
   refine⟨by rw[bE,<-q1,<-qS hv],fun c' hc'=>?_⟩
   rcases aJ.1 hc' with rfl|hc'
   ·exact z.ctx h1
   ·exact q2 c' hc'
  ·cases h
theorem sL(d:Nm):∀(p q:List Nm),eC d (p++q)=(eC d p).bind fun l=>(eC d q).map (l++·)
 |[],q=>by cases h:eC d q<;>simp[eC,h]
 |
  c::p,q=>by
  simp only[bc,eC,sL d p q]
  cases mn d c 100 with
  |none=>rfl
  |
   some w =>
   cases eC d p with
   |none=>rfl
   |some l=>cases eC d q<;>rfl
noncomputable def sE (s:Nm) (p:List Nm) (f:Nm):Option (List Vl×Vl):=match qw s f,cJ s with
 |some v,some d=>if p.length<=50 then(eC d p).map fun l=>(l,v)else none
 |_,_=>none
def zA(s:Nm):Ty:=(kE s).getD .zero
def qF(a:Ty)(l:List Vl)(v:Vl):Option (List Vl×Vl):=match l.getLast? with
 |none=>none
 |some c=>if(Vl.f (cW a c v)).nodes<=200 then some (l.dropLast,.f (cW a c v))else none
def iL:Nat->Ty->List Vl->Vl->Option Vl
 |0,_,_,v=>some v
 |n+1,a,l,v=>(qF a l v).bind fun r=>iL n a r.1 r.2
def sG(a:Ty)(l:List Vl)(v:Vl):Option Vl:=iL l.length a l v
noncomputable def ga (s:Nm) (p:List Nm) (f:Nm):Option (List Vl×Vl):=(sE s p f).bind fun r=>if(sG (zA s) r.1 r.2).isSome=true then some r else none
structure ZI(a:Ty)(l:List Vl)(v:Vl):Prop where
 ctx:∀c,c∈l->Cx a c
 nG:Fo a v
theorem rQ{a:Ty}{l l':List Vl}{v w:Vl}(h:ZI a l v)(hu:qF a l v=some (l',w)):ZI a l' w/\l'.length+1=l.length/\∃c,l=l'++[c]/\w=.f (cW a c v):=by
 unfold qF at hu
 cases q:l.getLast? with
 |none=>rw[q]at hu;cases hu
 |
  some c =>
  rw[q]at hu
  simp only at hu
  split at hu
  ·rename_i hn
   cases hu
   have hne:l≠[]:=by rintro rfl;cases q
   have hl:l.dropLast++[c]=l:=by
    have:=List.dropLast_concat_getLast hne
    rw[List.getLast?_eq_some_getLast hne]at q
    cases q;exact this
   have hc:c∈l:=by rw[<-hl];simp
   have hC:=h.ctx c hc
   refine⟨⟨fun c' hc'=>h.ctx c' (by rw[<-hl];exact aD _ hc'),hC.ty v h.nG.ty,rA 100 a c v hC.hZ h.nG.hZ,hn⟩,?_,c,hl.symm,rfl⟩
   have:=congrArg List.length hl
   simpa using this
  ·cases hu
end Go.Proofs.Trees
namespace Go.Proofs.Trees
open Go Go.VL Go.RowKit
theorem wH(w:World)(k:Nat)(os:Array Obj):Below w.heap.size w (Go.«Sort».grow (w.drewN k) os):=by
 refine⟨rfl,rfl,rfl,?_,fun b hb=>?_⟩
 ·simp[Go.«Sort».grow,World.drewN]
 ·simp only[Go.«Sort».grow,World.drewN]
  rw[Array.getElem?_append_left hb]
theorem GK(k:Nat)(hk:k<1000000000):an Tryz.prog 152 [.v (.int .i64 (k:Int))] [] (bK (.v (.string (mk (dd k))))):=by
 refine an.Rs (xs:=[.int .i64 (k:Int)]) ⟨qC,by kernel_rfl,by kernel_rfl,by kernel_rfl⟩ fun w ht=>?_
 have:=Any.strconv_Itoa Tryz.BK (k:Int) (by omega) (by omega) w ht
 refine Calls.mono this fun e w' ⟨h1,n,os,h2⟩=>⟨?_,?_⟩
 ·rw[h1,Lib.itoa_nonneg];rfl
 ·rw[h2];exact wH w n os
abbrev hN(k:Nat):Nm:=35::dd k
theorem uu{j k:Nat}(h:hN j=hN k):j=k:=wU (j+1) j k (by omega) (List.cons.inj h).2
theorem wN(u:Ty):∀(t:Ty) (i:Nat),i+t.atoms<1000000->an Tryz.prog 135 [t.av,u.av,.v (.int .i64 (i:Int))] [] (bK (dy u t i).av)
 |
  .zero,i,_=>by
  refine wZ _ _ _ ((aE _).mpr trivial) ((aE _).mpr trivial) ?_
  simp[E6,Ty.av,dy,↓zq,zs,ae,bK]
 |
  .one,i,_=>by
  refine wZ _ _ _ ((aE _).mpr trivial) ((aE _).mpr trivial) ?_
  simp[E6,Ty.av,dy,↓zq,zs,ae,bK]
 |
  .name s,i,_=>by
  refine wZ _ _ _ ((aE _).mpr trivial) ((aE _).mpr trivial) ?_
  simp[E6,Ty.av,dy,↓zq,zs,ae,bK]
 |
  .bound k,i,_=>by
  refine wZ _ _ _ ((aE _).mpr trivial) ((aE _).mpr trivial) ?_
  simp only[E6,Ty.av,dy,↓zq,zs,ae,bK]
  refine⟨by omega,fun _=>⟨by omega,fun h=>?_,fun h=>?_⟩,fun h=>absurd rfl h⟩
  ·rw[if_pos (by omega)]
  ·rw[if_neg (by omega)];rfl
 |
  .plus a b,i,hl=>by
  simp only[Ty.atoms]at hl
  refine wZ _ _ _ ((aE _).mpr trivial) ((aE _).mpr trivial) ?_
  simp only[E6,Ty.av,dy,↓zq,zs,ae,aE]
  refine⟨by omega,fun h=>by omega,fun _=>⟨fun _=>?_,fun h=>absurd rfl h⟩⟩
  repeat refine⟨by omega,?_⟩
  refine aj (wN u a i (by omega)) ?_
  simp only[↓zq,zs,ae,aE]
  repeat refine⟨by omega,?_⟩
  refine aj (wN u b i (by omega)) ?_
  simp only[↓zq,zs,ae,aE]
  exact⟨rfl,rfl⟩
 |
  .times a b,i,hl=>by
  simp only[Ty.atoms]at hl
  refine wZ _ _ _ ((aE _).mpr trivial) ((aE _).mpr trivial) ?_
  simp only[E6,Ty.av,dy,↓zq,zs,ae,aE]
  refine⟨by omega,fun h=>by omega,fun _=>⟨fun h=>by omega,fun _=>⟨fun _=>?_,fun h=>absurd rfl h⟩⟩⟩
  repeat refine⟨by omega,?_⟩
  refine aj (wN u a i (by omega)) ?_
  simp only[↓zq,zs,ae,aE]
  repeat refine⟨by omega,?_⟩
  refine aj (wN u b i (by omega)) ?_
  simp only[↓zq,zs,ae,aE]
  exact⟨rfl,rfl⟩
 |
  .rc a,i,hl=>by
  simp only[Ty.atoms]at hl
  refine wZ _ _ _ ((aE _).mpr trivial) ((aE _).mpr trivial) ?_
  simp only[E6,Ty.av,dy,↓zq,zs,ae,aE]
  refine⟨by omega,fun h=>by omega,fun _=>⟨fun h=>by omega,fun _=>⟨fun h=>by omega,fun _=>⟨fun _=>?_,fun h=>absurd rfl h⟩⟩⟩⟩
  repeat refine⟨by omega,?_⟩
  rw[bz i (by omega)]
  refine aj (wN u a (i+1) (by omega)) ?_
  simp only[↓zq,zs,ae,aE]
  exact⟨rfl,rfl⟩
theorem CF(x:Nm)(u:Ty):∀(t:Ty),an Tryz.prog 136 [t.av,.v (.string (mk x)),u.av] [] (bK (sub x u t).av)
 |
  .zero=>by
  refine wS _ _ _ ((aE _).mpr trivial) ((aE _).mpr trivial) ?_
  simp[EM,Ty.av,sub,↓zq,zs,ae,bK]
 |
  .one=>by
  refine wS _ _ _ ((aE _).mpr trivial) ((aE _).mpr trivial) ?_
  simp[EM,Ty.av,sub,↓zq,zs,ae,bK]
 |
  .bound k=>by
  refine wS _ _ _ ((aE _).mpr trivial) ((aE _).mpr trivial) ?_
  simp[EM,Ty.av,sub,↓zq,zs,ae,bK]
 |
  .name s=>by
  refine wS _ _ _ ((aE _).mpr trivial) ((aE _).mpr trivial) ?_
  simp only[EM,Ty.av,sub,↓zq,zs,ae,zt,bK]
  refine⟨by omega,fun _=>⟨by omega,fun h=>?_,fun h=>?_⟩,fun h=>absurd rfl h⟩
  ·rw[if_pos h]
  ·rw[if_neg h];rfl
 |
  .plus a b=>by
  refine wS _ _ _ ((aE _).mpr trivial) ((aE _).mpr trivial) ?_
  simp only[EM,Ty.av,sub,↓zq,zs,ae,aE]
  refine⟨by omega,fun h=>by omega,fun _=>⟨fun _=>?_,fun h=>absurd rfl h⟩⟩
  repeat refine⟨by omega,?_⟩
  refine aj (CF x u a) ?_
  simp only[↓zq,zs,ae,aE]
  repeat refine⟨by omega,?_⟩
  refine aj (CF x u b) ?_
  simp only[↓zq,zs,ae,aE]
  exact⟨rfl,rfl⟩
 |
  .times a b=>by
  refine wS _ _ _ ((aE _).mpr trivial) ((aE _).mpr trivial) ?_
  simp only[EM,Ty.av,sub,↓zq,zs,ae,aE]
  refine⟨by omega,fun h=>by omega,fun _=>⟨fun h=>by omega,fun _=>⟨fun _=>?_,fun h=>absurd rfl h⟩⟩⟩
  repeat refine⟨by omega,?_⟩
  refine aj (CF x u a) ?_
  simp only[↓zq,zs,ae,aE]
  repeat refine⟨by omega,?_⟩
  refine aj (CF x u b) ?_
  simp only[↓zq,zs,ae,aE]
  exact⟨rfl,rfl⟩
 |
  .rc a=>by
  refine wS _ _ _ ((aE _).mpr trivial) ((aE _).mpr trivial) ?_
  simp only[EM,Ty.av,sub,↓zq,zs,ae,aE]
  refine⟨by omega,fun h=>by omega,fun _=>⟨fun h=>by omega,fun _=>⟨fun h=>by omega,fun _=>⟨fun _=>?_,fun h=>absurd rfl h⟩⟩⟩⟩
  repeat refine⟨by omega,?_⟩
  refine aj (CF x u a) ?_
  simp only[↓zq,zs,ae,aE]
  exact⟨rfl,rfl⟩
theorem yG(c:Int)(a b:Ty):an Tryz.prog 153 [.v (.int .u8 c),a.av,b.av] [] (bK (.ptr [.v (.int .u8 c),.v (.string (mk [])),.v (.int .i64 0),a.av,b.av])):=by
 refine S4 _ _ _ ((aE _).mpr trivial) ((aE _).mpr trivial) ?_
 simp[KY,↓zq,zs,ae,bK]
abbrev Dg(f:Nat)(g:Bool):Ob:=.cells [.v (.int .i64 (f:Int)),.v (.bool g)]
theorem NJ(f:Nat)(g:Bool)(hf:f<100000000):an Tryz.prog 132 [.ref 0 0] [Dg f g] (df (.v (.string (mk (hN (f+1))))) [Dg (f+1) g]):=by
 refine Qt _ _ ?_
 simp only[MU,↓zq,zs,ae,zt]
 rw[bz f (by omega)]
 refine aj (GK (f+1) (by omega)) ?_
 have hd:=oz 8 (f+1) (by omega)
 simp only[↓zq,zs,ae,zt,bc,aU]
 exact⟨by simp[cM];omega,rfl,rfl⟩
def uZ(g:Bool)(t:Ty):Ty:=if g=true\/400<t.atoms then .zero else t
def Ax(g:Bool)(t:Ty):Bool:=g||decide (400<t.atoms)
theorem yb(t:Ty):uZ true t=.zero:=by simp[uZ]
theorem vf(t:Ty):Ax true t=true:=rfl
theorem vx{t:Ty}(h:t.atoms<=400):uZ false t=t:=by simp[uZ,show ¬400<t.atoms by omega]
theorem wg{t:Ty}(h:t.atoms<=400):Ax false t=false:=by simp[Ax,show ¬400<t.atoms by omega]
theorem ER{t:Ty}(h:¬t.atoms<=400):Ax false t=true:=by simp[Ax,show 400<t.atoms by omega]
theorem E4{t:Ty}(h:¬t.atoms<=400):uZ false t=.zero:=by simp[uZ,show 400<t.atoms by omega]
theorem vG(f:Nat)(g:Bool)(t:Ty)(hl:t.atoms<1000000):an Tryz.prog 133 [.ref 0 0,t.av] [Dg f g] (df (uZ g t).av [Dg f (Ax g t)]):=by
 refine QW _ _ _ ((aE _).mpr trivial) ?_
 simp only[J2,↓zq,zs,ae,zt]
 cases g with
 |true=>exact⟨fun _=>⟨rfl,rfl⟩,fun h=>(by cases h)⟩
 |
  false =>
  refine⟨fun h=>(by cases h),fun _=>?_⟩
  refine aj (EK t hl) ?_
  simp only[↓zq,zs,ae,zt]
  refine⟨fun h=>?_,fun h=>?_⟩
  ·have h:400<t.atoms:=by omega
   simp[uZ,Ax,h,df,Ty.av]
  ·have h:¬400<t.atoms:=by omega
   simp[uZ,Ax,h,df]
theorem H3(t:Ty)(s:Nm)(f:Nat):an Tryz.prog 134 [.ref 0 0,t.av,.v (.string (mk s))] [Dg f true] (df Ty.zero.av [Dg f true]):=by
 refine MA _ _ _ _ ((aE _).mpr trivial) ?_
 simp only[Dx,↓zq,zs,ae]
 exact⟨fun _=>⟨rfl,rfl⟩,fun h=>(by cases h)⟩
def CN(f:Nat)(t:Ty):Prop:=∀j,f<j->bn (hN j) t=false
def qa(o:Option Ty)(t:Ty):Nat:=match o with|some d=>d.atoms|none=>1000*t.atoms
def Cb(o:Option Ty)(f B:Nat):AV->List Ob->Prop:=fun r ob=>∃f':Nat,f<=f'/\f'<=f+B/\r=(o.getD .zero).av/\ob=[Dg f' o.isNone]
theorem Cb.ne(o:Option Ty)(f B:Nat):∃r ob,Cb o f B r ob:=⟨_,_,f,au _,da _ _,rfl,rfl⟩
theorem rO{f f':Nat}{t:Ty}(h:CN f t)(hf:f<=f'):CN f' t:=fun j hj=>h j (by omega)
theorem xk:∀(n:Nat) (t:Ty),t.atoms<=n->t.atoms<=400->∀(s:Nm) (f:Nat),CN f t->(∀j,f<j->s≠hN j)->f+1000*t.atoms<50000000->an Tryz.prog 134 [.ref 0 0,t.av,.v (.string (mk s))] [Dg f false] (Cb (lY t s) f (qa (lY t s) t))
 |0,t,h=>by have:=en t;omega
 |
  n+1,t,hn=>by
  intro h4 s f hf hs hb
  refine MA _ _ _ _ ((aE _).mpr trivial) ?_
  have fin0:∀u:Ty,lY t s=some u->Cb (lY t s) f (qa (lY t s) t) u.av [Dg f false]:=fun u hu=>by
   rw[hu];exact⟨f,au _,da _ _,rfl,rfl⟩
  cases t with
  |
   zero =>
   have:=fin0 .zero (vZ s)
   simpa[Dx,Ty.av,↓zq,zs,ae]using this
  |
   one =>
   have:=fin0 .zero (yg s)
   simpa[Dx,Ty.av,↓zq,zs,ae]using this
  |
   bound k =>
   have:=fin0 .zero (zS k s)
   simpa[Dx,Ty.av,↓zq,zs,ae]using this
  |
   name c =>
   simp only[Dx,Ty.av,↓zq,zs,ae,zt]
   refine⟨fun h=>(by cases h),fun _=>⟨by omega,fun _=>⟨by omega,fun h=>?_,fun h=>?_⟩,fun h=>absurd rfl h⟩⟩
   ·exact fin0 .one (by rw[oi,if_pos h])
   ·exact fin0 .zero (by rw[oi,if_neg h])
  |
   plus a b =>
   simp only[Ty.atoms]at hn h4 hb
   have pa:=en a
   have pb:=en b
   have fa:CN f a:=fun j hj=>by have:=hf j hj;simp only[bn,cg]at this;exact this.1
   have fb:CN f b:=fun j hj=>by have:=hf j hj;simp only[bn,cg]at this;exact this.2
   simp only[Dx,Ty.av,↓zq,zs,ae,zt,aE]
   refine⟨fun h=>(by cases h),fun _=>⟨by omega,fun h=>by omega,fun _=>⟨fun _=>?_,fun h=>absurd rfl h⟩⟩⟩
   repeat refine⟨by omega,?_⟩
   rw[vg]
   refine aP (xk n a (by omega) (by omega) s f fa hs (by omega)) (Cb.ne _ _ _) ?_
   rintro r ob ⟨f1,g1,g2,rfl,rfl⟩
   simp only[↓zq,zs,ae,zt,aK,aE]
   repeat refine⟨by omega,?_⟩
   cases q1:lY a s with
   |
    none =>
    rw[q1]at g2
    simp only[qa]at g2
    simp only[Option.isNone_none,Option.getD_none,bJ]
    refine aV (H3 b s f1) ?_
    simp only[↓zq,zs,ae,zt,aK,aE]
    repeat refine⟨by omega,?_⟩
    refine aj (yG 43 _ _) ?_
    simp only[↓zq,zs,ae,zt,bZ]
    refine aV (vG f1 true (.plus .zero .zero) (by simp[Ty.atoms])) ?_
    simp only[↓zq,zs,ae,zt,aK,aE]
    exact⟨f1,g1,by simp only[qa,Ty.atoms];omega,rfl,rfl⟩
   |
    some a' =>
    rw[q1]at g2
    simp only[qa]at g2
    have la:=(cQ.1 q1).small
    simp only[Option.isNone_some,cD,a7]
    refine aP (xk n b (by omega) (by omega) s f1 (rO fb g1) (fun j hj=>hs j (by omega)) (by omega)) (Cb.ne _ _ _) ?_
    rintro r ob ⟨f2,k1,k2,rfl,rfl⟩
    simp only[↓zq,zs,ae,zt,aK,aE]
    repeat refine⟨by omega,?_⟩
    refine aj (yG 43 _ _) ?_
    simp only[↓zq,zs,ae,zt,bZ]
    cases q2:lY b s with
    |
     none =>
     rw[q2]at k2
     simp only[qa]at k2
     simp only[Option.isNone_none,Option.getD_none,bJ]
     refine aV (vG f2 true (.plus a' .zero) (by simp[Ty.atoms];omega)) ?_
     simp only[↓zq,zs,ae,zt,aK,aE]
     exact⟨f2,by omega,by simp only[qa,Ty.atoms];omega,rfl,rfl⟩
    |
     some b' =>
     rw[q2]at k2
     simp only[qa]at k2
     have lb:=(cQ.1 q2).small
     simp only[Option.isNone_some,cD,a7]
     refine aV (vG f2 false (.plus a' b') (by simp only[Ty.atoms];omega)) ?_
     simp only[↓zq,zs,ae,zt,aK,aE]
     unfold nE
     by_cases hle:(Ty.plus a' b').atoms<=400
     ·rw[if_pos hle]
      refine⟨f2,by omega,by simp only[qa,Ty.atoms];omega,?_,?_⟩
      ·simp[uZ,show ¬400<(Ty.plus a' b').atoms by omega]
      ·simp[Ax,show ¬400<(Ty.plus a' b').atoms by omega]
     ·rw[if_neg hle]
      refine⟨f2,by omega,by simp only[qa,Ty.atoms];omega,?_,?_⟩
      ·simp[uZ,show 400<(Ty.plus a' b').atoms by omega]
      ·simp[Ax,show 400<(Ty.plus a' b').atoms by omega]
  |
   times a b =>
   simp only[Ty.atoms]at hn h4 hb
   have pa:=en a
   have pb:=en b
   have fa:CN f a:=fun j hj=>by have:=hf j hj;simp only[bn,cg]at this;exact this.1
   have fb:CN f b:=fun j hj=>by have:=hf j hj;simp only[bn,cg]at this;exact this.2
   simp only[Dx,Ty.av,↓zq,zs,ae,zt,aE]
   refine⟨fun h=>(by cases h),fun _=>⟨by omega,fun h=>by omega,fun _=>⟨fun h=>by omega,fun _=>⟨fun _=>?_,fun h=>absurd rfl h⟩⟩⟩⟩
   repeat refine⟨by omega,?_⟩
   rw[sO]
   refine aP (xk n a (by omega) (by omega) s f fa hs (by omega)) (Cb.ne _ _ _) ?_
   rintro r ob ⟨f1,g1,g2,rfl,rfl⟩
   simp only[↓zq,zs,ae,zt,aK,aE]
   repeat refine⟨by omega,?_⟩
   refine aj (yG 42 _ _) ?_
   simp only[↓zq,zs,ae,zt,bZ]
   repeat refine⟨by omega,?_⟩
   cases q1:lY a s with
   |
    none =>
    rw[q1]at g2
    simp only[qa]at g2
    simp only[Option.isNone_none,Option.getD_none,bJ]
    refine aV (H3 b s f1) ?_
    simp only[↓zq,zs,ae,zt,aK,aE]
    repeat refine⟨by omega,?_⟩
    refine aj (yG 42 _ _) ?_
    simp only[↓zq,zs,ae,zt,bZ]
    refine aj (yG 43 (.times .zero b) (.times a .zero)) ?_
    simp only[↓zq,zs,ae,zt,bZ]
    refine aV (vG f1 true (.plus (.times .zero b) (.times a .zero)) (by simp only[Ty.atoms];omega)) ?_
    simp only[↓zq,zs,ae,zt,aK,aE]
    exact⟨f1,g1,by simp only[qa,Ty.atoms];omega,rfl,rfl⟩
   |
    some a' =>
    rw[q1]at g2
    simp only[qa]at g2
    have la:=(cQ.1 q1).small
    simp only[Option.isNone_some,cD,a7]
    refine aP (xk n b (by omega) (by omega) s f1 (rO fb g1) (fun j hj=>hs j (by omega)) (by omega)) (Cb.ne _ _ _) ?_
    rintro r ob ⟨f2,k1,k2,rfl,rfl⟩
    simp only[↓zq,zs,ae,zt,aK,aE]
    repeat refine⟨by omega,?_⟩
    refine aj (yG 42 _ _) ?_
    simp only[↓zq,zs,ae,zt,bZ]
    cases q2:lY b s with
    |
     none =>
     rw[q2]at k2
     simp only[qa]at k2
     simp only[Option.isNone_none,Option.getD_none,bJ]
     refine aj (yG 43 (.times a' b) (.times a .zero)) ?_
     simp only[↓zq,zs,ae,zt,bZ]
     refine aV (vG f2 true (.plus (.times a' b) (.times a .zero)) (by simp only[Ty.atoms];omega)) ?_
     simp only[↓zq,zs,ae,zt,aK,aE]
     exact⟨f2,by omega,by simp only[qa,Ty.atoms];omega,rfl,rfl⟩
    |
     some b' =>
     rw[q2]at k2
     simp only[qa]at k2
     have lb:=(cQ.1 q2).small
     simp only[Option.isNone_some,cD,a7]
     refine aj (yG 43 (.times a' b) (.times a b')) ?_
     simp only[↓zq,zs,ae,zt,bZ]
     refine aV (vG f2 false (.plus (.times a' b) (.times a b')) (by simp only[Ty.atoms];omega)) ?_
     simp only[↓zq,zs,ae,zt,aK,aE]
     unfold nE
     by_cases hle:(Ty.plus (.times a' b) (.times a b')).atoms<=400
     ·rw[if_pos hle]
      refine⟨f2,by omega,by simp only[qa,Ty.atoms];omega,?_,?_⟩
      ·simp[uZ,show ¬400<(Ty.plus (.times a' b) (.times a b')).atoms by omega]
      ·simp[Ax,show ¬400<(Ty.plus (.times a' b) (.times a b')).atoms by omega]
     ·rw[if_neg hle]
      refine⟨f2,by omega,by simp only[qa,Ty.atoms];omega,?_,?_⟩
      ·simp[uZ,show 400<(Ty.plus (.times a' b) (.times a b')).atoms by omega]
      ·simp[Ax,show 400<(Ty.plus (.times a' b) (.times a b')).atoms by omega]
  |
   rc a =>
   simp only[Ty.atoms]at hn h4 hb
   have pa:=en a
   have fa:CN f a:=fun j hj=>hf j hj
   have hxa:bn (hN (f+1)) a=false:=fa _ (by omega)
   have hxs:hN (f+1)≠s:=fun e=>hs _ (by omega) e.symm
   have fo:CN (f+1) (dy (.name (hN (f+1))) a 0):=fun j hj=>by
    cases q:bn (hN j) (dy (.name (hN (f+1))) a 0)with
    |false=>rfl
    |
     true =>
     rcases gA a 0 q with e|e
     ·have:=uu e;omega
     ·rw[fa j (by omega)]at e;cases e
   have hoa:(dy (.name (hN (f+1))) a 0).atoms=a.atoms:=fM _ _ _
   have hop:=wN (.name (hN (f+1))) a 0 (by omega)
   rw[AI hxa hxs]
   simp only[Dx,Ty.av,↓zq,zs,ae,zt,aE]
   refine⟨fun h=>(by cases h),fun _=>⟨by omega,fun h=>by omega,fun _=>⟨fun h=>by omega,fun _=>⟨fun h=>by omega,fun _=>⟨fun _=>?_,fun h=>absurd rfl h⟩⟩⟩⟩⟩
   refine aV (NJ f false (by omega)) ?_
   simp only[↓zq,zs,ae,zt,aK,aE]
   repeat refine⟨by omega,?_⟩
   simp only[Ty.av]at hop
   refine aj hop ?_
   simp only[↓zq,zs,ae,zt,aK,aE]
   refine aP (xk n (dy (.name (hN (f+1))) a 0) (by omega) (by omega) s (f+1) fo (fun j hj=>hs j (by omega)) (by omega)) (Cb.ne _ _ _) ?_
   rintro r ob ⟨f1,g1,g2,rfl,rfl⟩
   simp only[↓zq,zs,ae,zt,aK,aE]
   generalize hx:hN (f+1)=x at *
   generalize hin:dy (.name x) a 0=i at *
   have hrc:(Ty.rc a).av=.ptr [.v (.int .u8 114),.v (.string (mk [])),.v (.int .i64 0),a.av,.v (.pointer none)]:=rfl
   cases q1:lY i s with
   |
    none =>
    rw[q1]at g2
    simp only[qa]at g2
    simp only[Option.isNone_none,Option.getD_none,bJ]
    refine aV (vG f1 true .zero (by simp[Ty.atoms])) ?_
    simp only[↓zq,zs,ae,zt,aK,aE]
    rw[<-hrc]
    refine aj (CF x (.rc a) _) ?_
    simp only[↓zq,zs,ae,zt,aE]
    refine aV (H3 i x f1) ?_
    simp only[↓zq,zs,ae,zt,aK,aE]
    refine aV (vG f1 true .zero (by simp[Ty.atoms])) ?_
    simp only[↓zq,zs,ae,zt,aK,aE]
    refine aj (CF x (.rc a) _) ?_
    simp only[↓zq,zs,ae,zt,aE]
    refine aj (yG 42 _ (.bound 0)) ?_
    simp only[↓zq,zs,ae,zt,bZ]
    refine aj (yG 43 (sub x (.rc a) (uZ true .zero)) (.times (sub x (.rc a) (uZ true .zero)) (.bound 0))) ?_
    simp only[↓zq,zs,ae,zt,bZ,vf]
    have hz:sub x (.rc a) (uZ true .zero)=.zero:=by rw[yb];rfl
    refine aV (vG f1 true (.rc (.plus (sub x (.rc a) (uZ true .zero)) (.times (sub x (.rc a) (uZ true .zero)) (.bound 0)))) (by rw[hz];simp only[Ty.atoms];omega)) ?_
    simp only[↓zq,zs,ae,zt,aK,aE]
    rw[yb,vf]
    exact⟨f1,by omega,by simp only[qa,Ty.atoms];omega,rfl,rfl⟩
   |
    some c =>
    rw[q1]at g2
    simp only[qa]at g2
    have lc:=(cQ.1 q1).small
    simp only[Option.isNone_some,cD,a7]
    refine aV (vG f1 false c (by omega)) ?_
    simp only[↓zq,zs,ae,zt,aK,aE]
    rw[vx lc,wg lc,<-hrc]
    refine aj (CF x (.rc a) c) ?_
    simp only[↓zq,zs,ae,zt,aE]
    refine aP (xk n i (by omega) (by omega) x f1 (rO fo g1) (fun j hj=>by rw[<-hx];exact fun e=>by have:=uu e;omega) (by omega)) (Cb.ne _ _ _) ?_
    rintro r ob ⟨f2,k1,k2,rfl,rfl⟩
    simp only[↓zq,zs,ae,zt,aK,aE]
    have hsc:(sub x (.rc a) c).atoms+fy x c=c.atoms+fy x c*(Ty.rc a).atoms:=dU x (.rc a) c
    have hcc:∀t:Ty,fy x t<=t.atoms:=fun t=>by
     have h1:=dU x .zero t
     have h2:=gZ x .zero t
     simp only[Ty.atoms,dG]at h1
     have h3:∀t:Ty,fy x t<=t.atoms:=by
      intro t
      induction t with
      |name s=>simp only[fy,Ty.atoms];split<;>omega
      |plus a b i1 i2=>simp only[fy,Ty.atoms];omega
      |times a b i1 i2=>simp only[fy,Ty.atoms];omega
      |rc a i=>simp only[fy,Ty.atoms];omega
      |_=>simp[fy,Ty.atoms]
     exact h3 t
    have hbig:∀t:Ty,t.atoms<=400->(sub x (.rc a) t).atoms<=400+400*402:=fun t ht=>by
     have h1:=dU x (.rc a) t
     have h2:=hcc t
     have h3:fy x t*(Ty.rc a).atoms<=400*402:=Nat.mul_le_mul (by omega) (by simp only[Ty.atoms];omega)
     omega
    have b1:=hbig c lc
    cases q2:lY i x with
    |
     none =>
     rw[q2]at k2
     simp only[qa]at k2
     simp only[Option.isNone_none,Option.getD_none,bJ]
     refine aV (vG f2 true .zero (by simp[Ty.atoms])) ?_
     simp only[↓zq,zs,ae,zt,aK,aE]
     rw[yb,vf]
     refine aj (CF x (.rc a) .zero) ?_
     simp only[↓zq,zs,ae,zt,aE]
     refine aj (yG 42 _ (.bound 0)) ?_
     simp only[↓zq,zs,ae,zt,bZ]
     refine aj (yG 43 (sub x (.rc a) c) (.times (sub x (.rc a) .zero) (.bound 0))) ?_
     simp only[↓zq,zs,ae,zt,bZ]
     refine aV (vG f2 true (.rc (.plus (sub x (.rc a) c) (.times (sub x (.rc a) .zero) (.bound 0)))) (by simp only[sub,Ty.atoms];omega)) ?_
     simp only[↓zq,zs,ae,zt,aK,aE]
     rw[yb,vf]
     exact⟨f2,by omega,by simp only[qa,Ty.atoms];omega,rfl,rfl⟩
    |
     some d =>
     rw[q2]at k2
     simp only[qa]at k2
     have ld:=(cQ.1 q2).small
     have b2:=hbig d ld
     simp only[Option.isNone_some,cD,a7]
     refine aV (vG f2 false d (by omega)) ?_
     simp only[↓zq,zs,ae,zt,aK,aE]
     rw[vx ld,wg ld]
     refine aj (CF x (.rc a) d) ?_
     simp only[↓zq,zs,ae,zt,aE]
     refine aj (yG 42 _ (.bound 0)) ?_
     simp only[↓zq,zs,ae,zt,bZ]
     refine aj (yG 43 (sub x (.rc a) c) (.times (sub x (.rc a) d) (.bound 0))) ?_
     simp only[↓zq,zs,ae,zt,bZ]
     have hdrc:pX a x c d=.rc (.plus (sub x (.rc a) c) (.times (sub x (.rc a) d) (.bound 0))):=rfl
     refine aV (vG f2 false (pX a x c d) (by rw[hdrc];simp only[Ty.atoms];omega)) ?_
     simp only[↓zq,zs,ae,zt,aK,aE]
     have s1:=gZ x (.rc a) c
     have s2:=gZ x (.rc a) d
     unfold nE
     by_cases hle:(pX a x c d).atoms<=400
     ·rw[if_pos hle,vx hle,wg hle]
      exact⟨f2,by omega,by simp only[qa,hdrc,Ty.atoms];omega,rfl,rfl⟩
     ·rw[if_neg hle,E4 hle,ER hle]
      exact⟨f2,by omega,by simp only[qa,Ty.atoms];omega,rfl,rfl⟩
def Pg(o:Option Ty):AV->List Ob->Prop:=fun r ob=>ob=[]/\∃p,LK.ptr.has p/\r=.cH [p,.v (.bool o.isSome)]/\∀d,o=some d->p=d.av
theorem Pg.ne(o:Option Ty):∃r ob,Pg o r ob:=by
 cases o with
 |none=>exact⟨_,_,rfl,ir,(iF).mpr trivial,rfl,fun d h=>by cases h⟩
 |some d=>exact⟨_,_,rfl,d.av,(aE _).mpr trivial,rfl,fun d' h=>by cases h;rfl⟩
theorem Hg:hN 1=mg:=by show (35::dd 1:Nm)=_;rw[eI (by omega)];rfl
theorem RW(a:Ty)(h4:a.atoms+2<=400)(hf:∀j,bn (hN j) a=false):an Tryz.prog 97 [(Ty.rc a).av] [] (Pg (n9 a mg)):=by
 have hxa:bn (hN 1) a=false:=hf 1
 have fo:CN 1 (dy (.name (hN 1)) a 0):=fun j hj=>by
  cases q:bn (hN j) (dy (.name (hN 1)) a 0)with
  |false=>rfl
  |
   true =>
   rcases gA a 0 q with e|e
   ·have:=uu e;omega
   ·rw[hf j]at e;cases e
 have hoa:(dy (.name (hN 1)) a 0).atoms=a.atoms:=fM _ _ _
 have hop:=wN (.name (hN 1)) a 0 (by omega)
 rw[<-Hg]
 have hrc:(Ty.rc a).av=.ptr [.v (.int .u8 114),.v (.string (mk [])),.v (.int .i64 0),a.av,.v (.pointer none)]:=rfl
 refine Ro _ ((aE _).mpr trivial) ?_
 unfold LL
 refine aV (NJ 0 false (by omega)) ?_
 simp only[Ty.av,↓zq,zs,ae,zt,aK,aE]
 repeat refine⟨by omega,?_⟩
 simp only[Ty.av]at hop
 refine aj hop ?_
 simp only[↓zq,zs,ae,zt,aK,aE]
 refine aP (xk 400 (dy (.name (hN 1)) a 0) (by omega) (by omega) (hN 1) 1 fo (fun j hj e=>by have:=uu e;omega) (by omega)) (Cb.ne _ _ _) ?_
 rintro r ob ⟨f1,g1,g2,rfl,rfl⟩
 simp only[↓zq,zs,ae,zt,aK,aE]
 unfold n9
 cases q1:lY (dy (.name (hN 1)) a 0) (hN 1)with
 |
  none =>
  simp only[Option.isNone_none,Option.getD_none,bJ]
  refine aV (vG f1 true .zero (by simp[Ty.atoms])) ?_
  simp only[↓zq,zs,ae,zt,aK,aE,vf]
  exact⟨fun _=>⟨rfl,ir,(iF).mpr trivial,rfl,fun d h=>(by cases h)⟩,fun h=>(by cases h)⟩
 |
  some d =>
  have ld:=(cQ.1 q1).small
  simp only[Option.isNone_some,cD,a7]
  refine aV (vG f1 false d (by omega)) ?_
  simp only[↓zq,zs,ae,zt,aK,aE]
  rw[vx ld,wg ld]
  refine⟨fun h=>(by cases h),fun _=>?_⟩
  rw[<-hrc]
  refine aj (CF (hN 1) (.rc a) d) ?_
  simp only[↓zq,zs,ae,zt,aE]
  have h1:=dU (hN 1) (.rc a) d
  have hcn:fy (hN 1) d<=d.atoms:=by
   have h3:∀t:Ty,fy (hN 1) t<=t.atoms:=by
    intro t
    induction t with
    |name s=>simp only[fy,Ty.atoms];split<;>omega
    |plus a b i1 i2=>simp only[fy,Ty.atoms];omega
    |times a b i1 i2=>simp only[fy,Ty.atoms];omega
    |rc a i=>simp only[fy,Ty.atoms];omega
    |_=>simp[fy,Ty.atoms]
   exact h3 d
  have h3:fy (hN 1) d*(Ty.rc a).atoms<=400*402:=Nat.mul_le_mul (by omega) (by simp only[Ty.atoms];omega)
  refine aV (vG f1 false (sub (hN 1) (.rc a) d) (by omega)) ?_
  simp only[↓zq,zs,ae,zt,aK,aE]
  unfold nE
  by_cases hle:(sub (hN 1) (.rc a) d).atoms<=400
  ·rw[if_pos hle,vx hle,wg hle]
   exact⟨rfl,_,(aE _).mpr trivial,rfl,fun d' h=>by cases h;rfl⟩
  ·rw[if_neg hle,E4 hle,ER hle]
   exact⟨rfl,_,(aE _).mpr trivial,rfl,fun d' h=>(by cases h)⟩
end Go.Proofs.Trees
namespace Go.Proofs.Trees
open Go Go.VL Go.RowKit
theorem rM(h:Nm)(a b:E):(fe (.list [.atom h,a,b])).length=h.length+(fe a).length+(fe b).length+4:=by
 simp only[fe,eh,az,aq,aG];omega
theorem jh(F:List Nm)(hF:F.length<=10000):∀(t:Ty) (to:List Nm) (k:Nat),vd t->(∀w,w∈to->w.length<=20)->k+(F.length+1)*t.atoms<90000000->(fe (gY F t to k).1).length<=50*t.atoms
 | .zero,_,_,_,_,_=>by simp[gY,fe,Ty.atoms]
 | .one,_,_,_,_,_=>by simp[gY,fe,Ty.atoms]
 | .name s,_,_,hn,_,_=>by have:=hn s (by simp[bn]);simp only[gY,fe,Ty.atoms];omega
 |
  .bound u,to,_,_,ht,_=>by
  show (gj to u).length<=50*1
  unfold gj
  by_cases h:to.length-1-u<to.length
  ·rw[aa,bp h];have:=ht _ (bD h);simp only[cD];omega
  ·rw[aa,List.getElem?_eq_none (by omega)];simp
 |
  .plus a b,to,k,hn,ht,hk=>by
  have h1:=iw F a to k
  have:(F.length+1)*(1+a.atoms+b.atoms)=(F.length+1)+(F.length+1)*a.atoms+(F.length+1)*b.atoms:=by simp only[cT,dG]
  simp only[Ty.atoms]at hk
  have i1:=jh F hF a to k (fun y hy=>hn y (by simp[bn,hy])) ht (by omega)
  have i2:=jh F hF b to _ (fun y hy=>hn y (by simp[bn,hy])) ht (show (gY F a to k).2+_<_ by omega)
  simp only[gY,rM,Ty.atoms,az,aG];omega
 |
  .times a b,to,k,hn,ht,hk=>by
  have h1:=iw F a to k
  have:(F.length+1)*(1+a.atoms+b.atoms)=(F.length+1)+(F.length+1)*a.atoms+(F.length+1)*b.atoms:=by simp only[cT,dG]
  simp only[Ty.atoms]at hk
  have i1:=jh F hF a to k (fun y hy=>hn y (by simp[bn,hy])) ht (by omega)
  have i2:=jh F hF b to _ (fun y hy=>hn y (by simp[bn,hy])) ht (show (gY F a to k).2+_<_ by omega)
  simp only[gY,rM,Ty.atoms,az,aG];omega
 |
  .rc a,to,k,hn,ht,hk=>by
  obtain⟨g1,g2,_,_⟩:=gD F k
  have:(F.length+1)*(2+a.atoms)=(F.length+1)*2+(F.length+1)*a.atoms:=by simp only[cT]
  simp only[Ty.atoms]at hk
  have hl:=xz (k:=nx F k) (by omega)
  have i1:=jh F hF a (to++[tN (nx F k)]) (nx F k+1) hn (fun w hw=>by
   rcases aN.1 hw with hw|hw
   ·exact ht w hw
   ·simp only[aQ]at hw;rw[hw];exact hl) (by omega)
  simp only[gY,rM,Ty.atoms,az,aG]
  simp only[fe]
  simp only[az]at hl |-
  omega
theorem IX(x0 a fv:AV)(F:List Nm)(h0:LK.ptr.has x0)(ha:LK.sl.has a)(hfv:cy fv F)(hF:F.length<100000):∀(n j:Nat),qb F n j<j+n->j+n<100000000 ->
 Ei [x0,a,.v (.string (mk (tN j)))] [.cells [fv],.cells [.v (.int .i64 ((j+1:Nat):Int))]] (gI 1 [x0,a,.v (.string (mk (tN (qb F n j))))] [.cells [fv],.cells [.v (.int .i64 ((qb F n j+1:Nat):Int))]])
 |0,j,h,_=>by simp only[qb]at h;omega
 |
  n+1,j,h,hj=>by
  refine Ny _ _ _ _ _ ?_
  simp only[Fl,↓zq,zs,ae,zt,ae,hfv.1,h0,ha]
  refine⟨fun h=>(by simp at h),fun _=>?_⟩
  refine aj (M6 F fv hfv (tN j) (by omega)) ?_
  simp only[↓zq,zs,ae,zt]
  rw[qb]at h |-
  refine⟨fun hm=>?_,fun hm=>?_⟩
  ·rw[if_pos hm]at h |-
   refine aj (GK (j+1) (by omega)) ?_
   have hd:=oz 8 (j+1) (by omega)
   simp only[↓zq,zs,ae,zt,bc,aU]
   rw[bz (j+1) (by omega)]
   exact⟨by simp[cM];omega,IX x0 a fv F h0 ha hfv hF n (j+1) (by omega) (by omega)⟩
  ·rw[if_neg hm]
   exact⟨rfl,rfl,rfl⟩
theorem Qy(x0 a fv:AV)(F:List Nm)(h0:LK.ptr.has x0)(ha:LK.sl.has a)(hfv:cy fv F)(hF:F.length<10000)(k:Nat)(hk:k<90000000) :
 Ei [x0,a,.v (.string (mk []))] [.cells [fv],.cells [.v (.int .i64 (k:Int))]] (gI 1 [x0,a,.v (.string (mk (tN (nx F k))))] [.cells [fv],.cells [.v (.int .i64 ((nx F k+1:Nat):Int))]]):=by
 obtain⟨g1,g2,_,_⟩:=gD F k
 refine Ny _ _ _ _ _ ?_
 simp only[Fl,↓zq,zs,ae,zt,ae,hfv.1,h0,ha]
 refine⟨fun _=>?_,fun h=>(by simp at h)⟩
 refine aj (GK k (by omega)) ?_
 have hd:=oz 8 k (by omega)
 simp only[↓zq,zs,ae,zt,bc,aU]
 rw[bz k (by omega)]
 exact⟨by simp[cM];omega,IX x0 a fv F h0 ha hfv (by omega) (F.length+1) k (by show nx F k<_;omega) (by omega)⟩
theorem Aj(F:List Nm)(fv:AV)(hfv:cy fv F)(hF:F.length<=1000):∀(t:Ty) (to:List Nm) (a:AV) (k:Nat),cy a to->to.length+t.atoms<10000->jz t to.length->vd t->(∀w,w∈to->w.length<=20)->k+(F.length+1)*t.atoms<80000000 ->
 an Tryz.prog 155 [t.av,a,.gN 155 [none,some 0,some 1],.ref 0 0,.ref 1 0] [.cells [fv],.cells [.v (.int .i64 (k:Int))]] (df (.v (.string (mk (fe (gY F t to k).1)))) [.cells [fv],.cells [.v (.int .i64 ((gY F t to k).2:Int))]])
 |
  .zero,to,a,k,ha,hl,hlc,hs,ht,hk=>by
  refine F1 _ _ _ _ ((aE _).mpr trivial) ha.1 hfv.1 ?_
  simp only[ES,Ty.av,↓zq,zs,ae,zt,aE]
  refine⟨by omega,fun h=>by omega,fun _=>⟨fun h=>by omega,fun _=>⟨fun h=>by omega,fun _=>⟨fun h=>by omega,fun _=>⟨fun h=>by omega,fun _=>?_⟩⟩⟩⟩⟩
  repeat refine⟨by omega,?_⟩
  exact⟨⟨rfl,(l8 _ _).mpr trivial,trivial⟩,rfl,rfl⟩
 |
  .one,to,a,k,ha,hl,hlc,hs,ht,hk=>by
  refine F1 _ _ _ _ ((aE _).mpr trivial) ha.1 hfv.1 ?_
  simp only[ES,Ty.av,↓zq,zs,ae,zt,aE]
  refine⟨by omega,fun h=>by omega,fun _=>⟨fun h=>by omega,fun _=>⟨fun h=>by omega,fun _=>⟨fun h=>by omega,fun _=>⟨fun h=>by omega,fun _=>?_⟩⟩⟩⟩⟩
  repeat refine⟨by omega,?_⟩
  exact⟨⟨rfl,(l8 _ _).mpr trivial,trivial⟩,rfl,rfl⟩
 |
  .name s,to,a,k,ha,hl,hlc,hs,ht,hk=>by
  refine F1 _ _ _ _ ((aE _).mpr trivial) ha.1 hfv.1 ?_
  simp[ES,Ty.av,↓zq,zs,ae,df,gY,fe]
 |
  .bound u,to,a,k,ha,hl,hlc,hs,ht,hk=>by
  have hu:u<to.length:=hlc
  refine F1 _ _ _ _ ((aE _).mpr trivial) ha.1 hfv.1 ?_
  simp only[ES,Ty.av,↓zq,zs,ae,zt,ha.len]
  rw[wrap64 ((to.length:Int)-1) (by omega) (by omega),wrap64 _ (by omega) (by omega)]
  have e1:(to.length:Int)-1-(u:Int)=((to.length-1-u:Nat):Int):=by omega
  rw[e1]
  simp only[bG,ha.idx (show to.length-1-u<to.length by omega),↓zq,zs,ae,zt]
  refine⟨by omega,fun h=>by omega,fun _=>⟨fun _=>⟨ha.1,by omega,⟨ha.1,by omega,by omega⟩,by omega,rfl,rfl⟩,fun h=>absurd rfl h⟩⟩
 |
  .plus x y,to,a,k,ha,hl,hlc,hs,ht,hk=>by
  simp only[Ty.atoms]at hl hk
  have h1:=iw F x to k
  have hm:(F.length+1)*(1+x.atoms+y.atoms)=(F.length+1)+(F.length+1)*x.atoms+(F.length+1)*y.atoms:=by simp only[cT,dG]
  have sx:vd x:=fun z hz=>hs z (by simp[bn,hz])
  have sy:vd y:=fun z hz=>hs z (by simp[bn,hz])
  have t1:=jh F (by omega) x to k sx ht (by omega)
  have t2:=jh F (by omega) y to (gY F x to k).2 sy ht (by omega)
  have hb:(⟨(bytesOf [[.v (.int .u8 43)]]).toArray⟩:ByteArray)=mk [43]:=rfl
  have h8:jA [[AV.v (.int .u8 43)]]:=⟨rfl,(l8 _ _).mpr trivial,trivial⟩
  refine F1 _ _ _ _ ((aE _).mpr trivial) ha.1 hfv.1 ?_
  simp only[ES,Ty.av,↓zq,zs,ae,zt,aE,hb]
  refine⟨by omega,fun h=>by omega,fun _=>⟨fun h=>by omega,fun _=>⟨fun _=>?_,fun h=>absurd rfl h⟩⟩⟩
  repeat refine⟨by omega,?_⟩
  refine aV (Aj F fv hfv hF x to a k ha (by omega) hlc.1 sx ht (by omega)) ?_
  simp only[↓zq,zs,ae,zt,aK,hfv.1,hb,bc,aU]
  repeat (first|refine⟨by omega,?_⟩|refine⟨h8,?_⟩|refine⟨by simp[cM];omega,?_⟩)
  refine aV (Aj F fv hfv hF y to a _ ha (by omega) hlc.2 sy ht (by omega)) ?_
  simp only[↓zq,zs,ae,zt,aK,hfv.1,hb,bc,aU]
  repeat (first|refine⟨by omega,?_⟩|refine⟨h8,?_⟩|refine⟨by simp[cM];omega,?_⟩)
  refine⟨?_,rfl⟩
  simp[gY,fe,eh]
 |
  .times x y,to,a,k,ha,hl,hlc,hs,ht,hk=>by
  simp only[Ty.atoms]at hl hk
  have h1:=iw F x to k
  have hm:(F.length+1)*(1+x.atoms+y.atoms)=(F.length+1)+(F.length+1)*x.atoms+(F.length+1)*y.atoms:=by simp only[cT,dG]
  have sx:vd x:=fun z hz=>hs z (by simp[bn,hz])
  have sy:vd y:=fun z hz=>hs z (by simp[bn,hz])
  have t1:=jh F (by omega) x to k sx ht (by omega)
  have t2:=jh F (by omega) y to (gY F x to k).2 sy ht (by omega)
  have hb:(⟨(bytesOf [[.v (.int .u8 42)]]).toArray⟩:ByteArray)=mk [42]:=rfl
  have h8:jA [[AV.v (.int .u8 42)]]:=⟨rfl,(l8 _ _).mpr trivial,trivial⟩
  refine F1 _ _ _ _ ((aE _).mpr trivial) ha.1 hfv.1 ?_
  simp only[ES,Ty.av,↓zq,zs,ae,zt,aE,hb]
  refine⟨by omega,fun h=>by omega,fun _=>⟨fun h=>by omega,fun _=>⟨fun h=>by omega,fun _=>⟨fun _=>?_,fun h=>absurd rfl h⟩⟩⟩⟩
  repeat refine⟨by omega,?_⟩
  refine aV (Aj F fv hfv hF x to a k ha (by omega) hlc.1 sx ht (by omega)) ?_
  simp only[↓zq,zs,ae,zt,aK,hfv.1,hb,bc,aU]
  repeat (first|refine⟨by omega,?_⟩|refine⟨h8,?_⟩|refine⟨by simp[cM];omega,?_⟩)
  refine aV (Aj F fv hfv hF y to a _ ha (by omega) hlc.2 sy ht (by omega)) ?_
  simp only[↓zq,zs,ae,zt,aK,hfv.1,hb,bc,aU]
  repeat (first|refine⟨by omega,?_⟩|refine⟨h8,?_⟩|refine⟨by simp[cM];omega,?_⟩)
  refine⟨?_,rfl⟩
  simp[gY,fe,eh]
 |
  .rc x,to,a,k,ha,hl,hlc,hs,ht,hk=>by
  simp only[Ty.atoms]at hl hk
  obtain⟨g1,g2,_,_⟩:=gD F k
  have hm:(F.length+1)*(2+x.atoms)=(F.length+1)*2+(F.length+1)*x.atoms:=by simp only[cT]
  have hln:=xz (k:=nx F k) (by omega)
  have ht':∀w,w∈to++[tN (nx F k)]->w.length<=20:=fun w hw=>by
   rcases aN.1 hw with hw|hw
   ·exact ht w hw
   ·simp only[aQ]at hw;rw[hw];exact hln
  have t1:=jh F (by omega) x (to++[tN (nx F k)]) (nx F k+1) hs ht' (by omega)
  have hrc:(Ty.rc x).av=.ptr [.v (.int .u8 114),.v (.string (mk [])),.v (.int .i64 0),x.av,.v (.pointer none)]:=rfl
  refine F1 _ _ _ _ ((aE _).mpr trivial) ha.1 hfv.1 ?_
  simp only[ES,Ty.av,↓zq,zs,ae,zt,aE]
  refine⟨by omega,fun h=>by omega,fun _=>⟨fun h=>by omega,fun _=>⟨fun h=>by omega,fun _=>⟨fun h=>by omega,fun _=>⟨fun _=>?_,fun h=>absurd rfl h⟩⟩⟩⟩⟩
  rw[<-hrc]
  repeat refine⟨by omega,?_⟩
  refine cz (Qy (Ty.rc x).av a fv F ((aE _).mpr trivial) ha.1 hfv (by omega) k (by omega)) ?_
  simp only[Ty.av,↓zq,zs,ae,zt,ae,aK,hfv.1,ha.1,aE,ha.2,EU,aU,kl,kp]
  have hl2:(dd (nx F k)).length+1<=20:=hln
  have hl3:(tN (nx F k)).length=(dd (nx F k)).length+1:=rfl
  refine⟨by omega,by simp only[aq,az,aG,hl3];omega,by omega,by omega,⟨fun c hc=>by simp at hc;rw[hc];rfl,by omega⟩,?_⟩
  refine aV (Aj F fv hfv hF x (to++[tN (nx F k)]) _ (nx F k+1) (.of _) (by simp;omega) (by rw[aq];exact hlc) hs ht' (by omega)) ?_
  simp only[↓zq,zs,ae,zt,aK,hfv.1]
  repeat refine⟨by omega,?_⟩
  refine⟨by simp only[aq,az,aG,hl3];omega,by simp only[aq,az,aG,hl3];omega,?_,rfl⟩
  simp[gY,fe,eh]
theorem RT(t:Ty)(g:fW t)(hs:vd t)(h4:t.atoms<=400):an Tryz.prog 137 [t.av] [] (bK (.v (.string (mk (EN t))))):=by
 refine Sf _ ((aE _).mpr trivial) ?_
 unfold Oy
 have hn:=ew t []
 simp only[aG,aW]at hn
 have hm:((bQ t []).length+1)*t.atoms<=401*400:=Nat.mul_le_mul (by omega) h4
 refine aj (JG t (by omega)) ?_
 simp only[↓zq,zs,ae,zt,cf]
 refine aV (Aj (bQ t []) _ (.of _) (by omega) t [] yx 0 .nil (by simp;omega) g.1 hs (fun w hw=>by cases hw) (by omega)) ?_
 simp only[↓zq,zs,ae,zt,aK,cf]
 exact⟨rfl,rfl⟩
theorem PS(t:Ty)(g:fW t)(hs:vd t)(hl:t.atoms<1000000):an Tryz.prog 98 [t.av] [] (bK (rB (told t))):=by
 refine R0 _ ((aE _).mpr trivial) ?_
 unfold MJ
 refine aj (EK t hl) ?_
 simp only[↓zq,zs,ae,zt]
 refine⟨fun h=>?_,fun h=>?_⟩
 ·have:told t=none:=by unfold told;rw[if_neg fun h'=>by have:=h'.1;omega]
  rw[this];exact⟨rfl,rfl⟩
 ·have h4:t.atoms<=400:=by omega
  refine aj (RT t g hs h4) ?_
  simp only[↓zq,zs,ae,zt]
  refine aj (GG (EN t)) ?_
  simp only[↓zq,zs,ae,zt,ik]
  unfold told
  cases q:qX (EN t)with
  |
   none =>
   simp only[ij,↓zq,zs,ae]
   rw[if_neg (by simp)]
   exact⟨fun _=>⟨rfl,rfl⟩,fun h=>(by cases h)⟩
  |
   some u =>
   simp only[ij,↓zq,zs,ae,fO]
   rw[if_pos ⟨h4,rfl⟩]
   exact⟨fun h=>(by cases h),fun _=>⟨rfl,rfl⟩⟩
theorem Ql(s:Nm):an Tryz.prog 70 [.v (.string (mk s))] [] (bK (rB (cJ s))):=by
 refine P5 _ ?_
 unfold MR
 refine aj (GG s) ?_
 simp only[↓zq,zs,ae,zt,ik]
 cases q:qX s with
 |
  none =>
  have:cJ s=none:=by unfold cJ;rw[q]
  rw[this]
  simp only[ij,↓zq,zs,ae]
  exact⟨fun _=>⟨rfl,rfl⟩,fun h=>(by cases h)⟩
 |
  some t =>
  simp only[ij,↓zq,zs,ae,fO]
  have notRec:(∀a,t≠.rc a)->cJ s=none:=fun hn=>by
   unfold cJ;rw[q]
   cases t<;>first|rfl|exact absurd rfl (hn _)
  refine⟨fun h=>(by cases h),fun _=>?_⟩
  cases t with
  |
   rc a =>
   have h4:=tv q
   simp only[Ty.atoms]at h4
   have hq:cJ s=(n9 a mg).bind told:=by unfold cJ;rw[q]
   obtain⟨e,he,hw,hte,hats,hok⟩:=nK q
   have hgood:∀d,n9 a mg=some d->fW d/\(vd (.rc a)->vd d):=fun d hd=>sr hw hte ⟨by simp,by simp,by simp⟩ hd
   rw[hq]
   simp only[Ty.av,↓zq,zs,ae]
   refine⟨by omega,fun h=>by omega,fun _=>?_⟩
   have hld:=RW a (by omega) (fun j=>by
    cases q2:bn (hN j) a with
    |false=>rfl
    |true=>exact absurd rfl ((wR (na q (hN j) q2)).2 (dd j)))
   simp only[Ty.av]at hld
   refine aP hld (Pg.ne _) ?_
   rintro r ob ⟨rfl,p,hp,rfl,hpe⟩
   simp only[↓zq,zs,ae,zt,eq_true hp]
   cases q1:n9 a mg with
   |
    none =>
    simp only[bA,bJ]
    exact⟨fun _=>⟨rfl,rfl⟩,fun h=>(by cases h)⟩
   |
    some d =>
    simp only[aZ,a7]
    refine⟨fun h=>(by cases h),fun _=>?_⟩
    rw[hpe d q1]
    have hl:d.atoms<=400:=by
     simp only[n9,bh,eU]at q1
     obtain⟨_,_,h1,h2⟩:=q1
     rw[<-h2];exact h1
    refine aj (PS d (hgood d q1).1 ((hgood d q1).2 (Cy q)) (by omega)) ?_
    cases told d<;>simp only[rB,↓zq,zs,ae,zt]<;>exact⟨rfl,rfl⟩
  |
   _ =>
   rw[notRec fun a h=>by cases h]
   simp only[Ty.av,↓zq,zs,ae]
   exact⟨by omega,fun _=>⟨rfl,rfl⟩,fun h=>by omega⟩
end Go.Proofs.Trees
namespace Go.Proofs.Trees
open Go Go.VL Go.RowKit
theorem EY:∀(m:Nat) (c:Vl),c.nodes<=m->∀(t:Ty) (v:Vl),dL t c=true->∀(ea:AV) (ids:List Nat),kD ea ids->∀(s:List UInt8) (fr:AV),LK.has .ptr fr->an Tryz.prog 79 [.agg [t.av,ea],c.cE,.agg [.v (.string (mk s)),fr],v.cE] [] (bK (cW t c v).cE)
 |0,c,hm=>by have:=du c;omega
 |
  m+1,c,hm=>by
  intro t v hc ea ids he s fr hf
  refine Q8 _ _ _ _ _ _ ((aE _).mpr trivial) he.has ((aM _).mpr trivial) hf ((aM _).mpr trivial) ?_
  have fin:∀x:AV,LK.has .ptr x->LK.has .ptr x=True:=fun x h=>eq_true h
  cases t with
  |zero=>rw[tH];simp[Ce,Ty.av,↓zq,zs,ae,bK]
  |one=>rw[wj];simp[Ce,Ty.av,↓zq,zs,ae,bK]
  |name n=>rw[kT];simp[Ce,Ty.av,↓zq,zs,ae,bK]
  |bound u=>rw[rN];simp[Ce,Ty.av,↓zq,zs,ae,bK]
  |
   plus a b =>
   have hL:=zm a.av b.av ea 43 (mk []) 0 ((aE _).mpr trivial) he.has
   have hR:=Af a.av b.av ea 43 (mk []) 0 ((aE _).mpr trivial) he.has
   rcases vW hc with⟨x,rfl,hx⟩|⟨x,rfl,hx⟩
   ·simp only[Vl.nodes]at hm
    simp only[Ce,Ty.av,↓zq,zs,ae]
    refine⟨by omega,fun _=>?_,fun h=>absurd rfl h⟩
    refine aj hL ?_
    simp only[↓zq,zs,ae,bI,aE,he.has,Vl.cE,aM]
    refine⟨by omega,fun h=>by omega,fun _=>⟨by omega,by omega,?_⟩⟩
    refine aj (EY m x (by omega) a v hx ea ids he s fr hf) ?_
    simp only[↓zq,zs,ae,aM]
    refine aj (zo 108 _ ((aM _).mpr trivial)) ?_
    simp[↓zq,zs,ae,bK,cW,Vl.cE,bZ]
   ·simp only[Vl.nodes]at hm
    simp only[Ce,Ty.av,↓zq,zs,ae]
    refine⟨by omega,fun _=>?_,fun h=>absurd rfl h⟩
    refine aj hL ?_
    simp only[↓zq,zs,ae,bI,aE,he.has,Vl.cE,aM]
    refine⟨by omega,fun _=>?_,fun h=>absurd rfl h⟩
    refine aj hR ?_
    simp only[↓zq,zs,ae,bI,aE,he.has,Vl.cE,aM]
    refine⟨by omega,by omega,?_⟩
    refine aj (EY m x (by omega) b v hx ea ids he s fr hf) ?_
    simp only[↓zq,zs,ae,aM]
    refine aj (zo 114 _ ((aM _).mpr trivial)) ?_
    simp[↓zq,zs,ae,bK,cW,Vl.cE,bZ]
  |
   times a b =>
   have hL:=zm a.av b.av ea 42 (mk []) 0 ((aE _).mpr trivial) he.has
   have hR:=Af a.av b.av ea 42 (mk []) 0 ((aE _).mpr trivial) he.has
   rcases tf hc with⟨x,y,rfl,hx⟩|⟨x,y,rfl,hx⟩
   ·simp only[Vl.nodes]at hm
    simp only[Ce,Ty.av,↓zq,zs,ae,Vl.cE]
    refine⟨by omega,fun h=>by omega,fun _=>⟨fun _=>⟨by omega,fun _=>?_,fun h=>absurd rfl h⟩,fun h=>absurd rfl h⟩⟩
    refine aj hL ?_
    simp only[↓zq,zs,ae,bI,aE,he.has,Vl.cE,aM]
    repeat refine⟨by omega,?_⟩
    refine aj (EY m x (by omega) a v hx ea ids he s fr hf) ?_
    simp only[↓zq,zs,ae,aM]
    repeat refine⟨by omega,?_⟩
    refine aj (zn _ _ ((aM _).mpr trivial) ((aM _).mpr trivial)) ?_
    simp[↓zq,zs,ae,bK,cW,Vl.cE,bZ]
   ·simp only[Vl.nodes]at hm
    simp only[Ce,Ty.av,↓zq,zs,ae,Vl.cE,aM]
    refine⟨by omega,fun h=>by omega,fun _=>⟨fun _=>⟨by omega,fun h=>by omega,fun _=>?_⟩,fun h=>absurd rfl h⟩⟩
    repeat refine⟨by omega,?_⟩
    refine aj hR ?_
    simp only[↓zq,zs,ae,bI,aE,he.has,Vl.cE,aM]
    repeat refine⟨by omega,?_⟩
    refine aj (EY m y (by omega) b v hx ea ids he s fr hf) ?_
    simp only[↓zq,zs,ae,aM]
    refine aj (zn _ _ ((aM _).mpr trivial) ((aM _).mpr trivial)) ?_
    simp[↓zq,zs,ae,bK,cW,Vl.cE,bZ]
  |
   rc a =>
   have hin:=D2 a ea ids he
   simp only[Ty.av]at hin
   rcases BE hc with⟨x,rfl,hx⟩|⟨x,y,rfl,hx,hy⟩
   ·simp only[Vl.nodes]at hm
    simp only[Ce,Ty.av,↓zq,zs,ae,Vl.cE,aM]
    refine⟨by omega,fun h=>by omega,fun _=>⟨fun h=>by omega,fun _=>⟨fun _=>?_,fun h=>absurd rfl h⟩⟩⟩
    refine aP hin (by have:=Bu.ne a ea ids;simpa only[Bu,Ty.av]using this) ?_
    intro r o hr
    obtain⟨⟨q,hq,rfl⟩,rfl⟩:=hr
    have he2:kD (.ptr [.pid q [(Ty.rc a).av,ea],ea]) (q::ids):=.cons hq he
    have hfr:LK.ptr.has (.pid q [(Ty.rc a).av,ea]):=.inr (.inr ⟨_,_,rfl⟩)
    simp only[Ty.av]at he2 hfr
    simp only[↓zq,zs,ae,bI,aE,he2.has,hfr,Vl.cE,aM,Ty.av]
    repeat refine⟨by omega,?_⟩
    refine⟨fun _=>?_,fun h=>absurd rfl h⟩
    repeat refine⟨by omega,?_⟩
    refine aj (EY m x (by omega) a v hx _ _ he2 s fr hf) ?_
    simp only[↓zq,zs,ae,aM]
    refine aj (zo 102 _ ((aM _).mpr trivial)) ?_
    simp[↓zq,zs,ae,bK,cW,Vl.cE,bZ]
   ·simp only[Vl.nodes]at hm
    simp only[Ce,Ty.av,↓zq,zs,ae,Vl.cE,aM]
    refine⟨by omega,fun h=>by omega,fun _=>⟨fun h=>by omega,fun _=>⟨fun _=>?_,fun h=>absurd rfl h⟩⟩⟩
    refine aP hin (by have:=Bu.ne a ea ids;simpa only[Bu,Ty.av]using this) ?_
    intro r o hr
    obtain⟨⟨q,hq,rfl⟩,rfl⟩:=hr
    have he2:kD (.ptr [.pid q [(Ty.rc a).av,ea],ea]) (q::ids):=.cons hq he
    have hfr:LK.ptr.has (.pid q [(Ty.rc a).av,ea]):=.inr (.inr ⟨_,_,rfl⟩)
    simp only[Ty.av]at he2 hfr
    simp only[↓zq,zs,ae,bI,aE,he2.has,hfr,Vl.cE,aM,Ty.av]
    repeat refine⟨by omega,?_⟩
    refine fun _=>?_
    repeat refine⟨by omega,?_⟩
    have i1:=EY m y (by omega) (.rc a) v hy ea ids he s fr hf
    simp only[Ty.av]at i1
    refine aj i1 ?_
    simp only[↓zq,zs,ae,aM]
    repeat refine⟨by omega,?_⟩
    refine aj (EY m x (by omega) a (cW (.rc a) y v) hx _ _ he2 [] _ hfr) ?_
    simp only[↓zq,zs,ae,aM]
    refine aj (zo 102 _ ((aM _).mpr trivial)) ?_
    simp[↓zq,zs,ae,bK,cW,Vl.cE,bZ]
theorem Rg(a:Ty)(c v:Vl)(hc:dL a c=true):an Tryz.prog 55 [(Ty.rc a).av,c.cE,v.cE] [] (bK (Vl.f (cW a c v)).cE):=by
 refine P6 _ _ _ ((aE _).mpr trivial) ((aM _).mpr trivial) ((aM _).mpr trivial) ?_
 unfold Nj
 refine aP (D2 a ir [] .nil) (Bu.ne a ir []) ?_
 rintro r o ⟨⟨m,hm,rfl⟩,rfl⟩
 have he2:kD (.ptr [.pid m [(Ty.rc a).av,ir],ir]) [m]:=.cons hm .nil
 have hfr:LK.ptr.has (.pid m [(Ty.rc a).av,ir]):=.inr (.inr ⟨_,_,rfl⟩)
 simp only[Ty.av]at he2 hfr
 simp only[↓zq,zs,ae,bI,aE,he2.has,hfr,Ty.av]
 repeat refine⟨by omega,?_⟩
 refine aj (EY c.nodes c (au _) a v hc _ _ he2 [] _ hfr) ?_
 simp only[↓zq,zs,ae,aM]
 refine aj (zo 102 _ ((aM _).mpr trivial)) ?_
 simp[↓zq,zs,ae,bK,Vl.cE,bZ]
end Go.Proofs.Trees
namespace Go.Proofs.Trees
open Go Go.VL Go.RowKit
def u5(l:List Vl):List (List AV):=l.map fun c=>[c.cE]
theorem gy(l:List Vl):(u5 l).length=l.length:=by simp[u5]
theorem um{l:List Vl}{i:Nat}(h:i<l.length):(u5 l).getD i []=[(l[i]).cE]:=by simp[u5,aa,h]
theorem ye(l:List Vl)(c:Vl):u5 l++[[c.cE]]=u5 (l++[c]):=by simp[u5]
def pC(s:Nm)(a:Ty)(l:List Vl)(v:Vl):AV:=.ptr [.v (.string (mk s)),(Ty.rc a).av,.sl (u5 l),v.cE]
def oZ(s:Nm)(a:Ty):Option (List Vl×Vl)->AV
 |some r=>pC s a r.1 r.2
 |none=>ir
theorem jZ(s:Nm)(a:Ty)(o:Option (List Vl×Vl)):LK.has .ptr (oZ s a o)=True:=by cases o<;>simp[oZ,pC,iF,bZ]
theorem CT(v:Vl):(Vl.f v).nodes=v.nodes+1:=by simp only[Vl.nodes];omega
theorem G4(s:Nm)(a:Ty)(l:List Vl)(v:Vl)(h:ZI a l v)(hl:l.length<=50):an Tryz.prog 34 [pC s a l v] [] (bK (oZ s a (qF a l v))):=by
 refine R2 _ ((bZ _).mpr trivial) ?_
 simp only[OW,pC,↓zq,zs,ae,gy]
 refine⟨fun h=>(by cases h),fun _=>?_⟩
 repeat refine⟨by omega,?_⟩
 unfold qF
 refine⟨fun h0=>?_,fun h0=>?_⟩
 ·have:l=[]:=bH (by omega)
  subst this
  exact⟨rfl,rfl⟩
 ·have hpos:0<l.length:=by omega
  have hne:l≠[]:=by rintro rfl;simp at hpos
  rw[wrap64 ((l.length:Int)-1) (by omega) (by omega)]
  have e1:((l.length:Int)-1).toNat=l.length-1:=by omega
  have hlt:l.length-1<l.length:=by omega
  have hlast:l.getLast?=some (l[l.length-1]):=by rw[List.getLast?_eq_some_getLast hne,List.getLast_eq_getElem]
  rw[hlast]
  have hC:=h.ctx _ (bD hlt)
  generalize hc:l[l.length-1]=c at *
  simp only[e1,um hlt,hc,↓zq,zs,ae,aM,aE]
  repeat refine⟨by omega,?_⟩
  refine aj (Rg a c v hC.ok) ?_
  simp only[↓zq,zs,ae,aM]
  have hn:=sf a c v
  have h1:=hC.nd
  have h2:=h.nG.nd
  refine aj (EO (.f (cW a c v)) (by rw[CT];omega)) ?_
  simp only[↓zq,zs,ae,aM,aE]
  refine⟨fun hb=>?_,fun hb=>?_⟩
  ·rw[if_neg (by omega)];exact⟨rfl,rfl⟩
  ·rw[if_pos (by omega)]
   repeat refine⟨by omega,?_⟩
   refine⟨?_,rfl⟩
   have:(u5 l).take (l.length-1)=u5 l.dropLast:=by rw[List.dropLast_eq_take];simp[u5]
   simp only[oZ,pC,Int.toNat_zero,bb,this]
theorem Kt{s d:Nm}{a:Ty}{x A B:E}{D:Ty}(z:ZT s d a x A B D)(pa:AV)(p:List Nm)(hp:cy pa p)(hl:p.length<=50)(v:Vl):∀(k i:Nat) (l0:List Vl),i+k=p.length->l0.length<=i ->
 HS [.v (.string (mk d)),pa,.v (.int .i64 (p.length:Int)),.v (.int .i64 (i:Int))] [.cells [.v (.string (mk s)),(Ty.rc a).av,.any,v.cE],.vec 1 (u5 l0)]
  (po (match eC d (p.drop i)with|some l=>(1,[],[.cells [.v (.string (mk s)),(Ty.rc a).av,.any,v.cE],.vec 1 (u5 (l0++l))])|none=>(2,[ir],[])))
 |
  0,i,l0,hi,IS=>by
  refine Mz _ _ _ _ _ _ _ _ ?_
  have:i=p.length:=by omega
  subst this
  simp only[Gw,↓zq,zs,ae,ae,aE,aM,List.drop_length]
  exact⟨hp.1,fun h=>by omega,fun _=>by simp[po,eC]⟩
 |
  k+1,i,l0,hi,IS=>by
  have hlt:i<p.length:=by omega
  have hd:p.drop i=p.getD i []::p.drop (i+1):=by rw[aS hlt];simp[aa,hlt]
  refine Mz _ _ _ _ _ _ _ _ ?_
  simp only[Gw,↓zq,zs,ae,zt,ae,aE,aM,hp.len,hp.idx hlt,bG]
  refine⟨hp.1,fun _=>⟨⟨hp.1,by omega,by omega⟩,by omega,?_⟩,fun h=>by omega⟩
  refine aj (Oo d (p.getD i []) 100) ?_
  rw[hd,eC]
  simp only[↓zq,zs,ae,zt,ik,gv]
  cases q:mn d (p.getD i []) 100 with
  |
   none =>
   simp only[jy,↓zq,zs,ae]
   exact⟨fun _=>by first|trivial|rfl,fun h=>(by cases h)⟩
  |
   some w =>
   simp only[jy,↓zq,zs,ae,fC,ye]
   refine⟨fun h=>(by cases h),fun _=>?_⟩
   rw[bz i (by omega)]
   have ih:=Kt z pa p hp hl v k (i+1) (l0++[w]) (by omega) (by simp;omega)
   refine⟨⟨fun c hc=>by simp at hc;rw[hc];rfl,by rw[gy];omega⟩,?_⟩
   cases q2:eC d (p.drop (i+1))with
   |none=>rw[q2]at ih;exact ih
   |some l=>rw[q2]at ih;simp only[a8,bc,aU]at ih;exact ih
theorem mw{s:Nm}{p:List Nm}{f:Nm}{l:List Vl}{v:Vl}(h:sE s p f=some (l,v)):∃d a x A B D,ZT s d a x A B D/\ZI a l v/\p=l.map (·.cF)/\f=v.cF/\p.length<=50/\zA s=a/\qw s f=some v/\eC d p=some l:=by
 unfold sE at h
 split at h
 ·rename_i v' d h1 h2
  split at h
  ·rename_i hl
   obtain⟨l',h3,h4⟩:=Option.map_eq_some_iff.1 h
   cases h4
   obtain⟨a,_,_,_,L⟩:=pJ h1
   obtain⟨x,A,B,D,z⟩:=ZT.of L.l h2
   obtain⟨q1,q2⟩:=rX z p l h3
   obtain⟨q3,q4⟩:=z.nG h1
   exact⟨d,a,x,A,B,D,z,⟨q2,q3⟩,q1,q4,hl,by unfold zA;rw[L.l];rfl,h1,h3⟩
  ·cases h
 ·cases h
theorem KV(s:Nm)(pa:AV)(p:List Nm)(hp:cy pa p)(f:Nm):an Tryz.prog 49 [.agg [.v (.string (mk s)),pa,.v (.string (mk f))]] [] (bK (oZ s (zA s) (sE s p f))):=by
 refine PU _ _ _ hp.1 ?_
 unfold JR
 refine aj (Qg s f) ?_
 have hlt:LK.has .ptr (G7 s)=True:=by unfold G7;split<;>simp[aE,iF]
 simp only[↓zq,zs,ae,zt,hlt,gv]
 refine aj (Ql s) ?_
 have ho:∀o:Option Nm,rB o=.cH [.v (.string (mk (o.getD []))),.v (.bool o.isSome)]:=fun o=>by cases o<;>rfl
 rw[ho]
 simp only[↓zq,zs,ae,zt]
 unfold sE
 cases h1:qw s f with
 |
  none =>
  simp only[jy,↓zq,zs,ae]
  exact⟨fun _=>⟨rfl,rfl⟩,fun h=>(by cases h)⟩
 |
  some v =>
  simp only[jy,↓zq,zs,ae,fC]
  refine⟨fun h=>(by cases h),fun _=>?_⟩
  cases h2:cJ s with
  |
   none =>
   simp only[bA]
   exact⟨fun _=>⟨rfl,rfl⟩,fun h=>(by cases h)⟩
  |
   some d =>
   simp only[aZ,cD,hp.len]
   refine⟨fun h=>(by cases h),fun _=>⟨hp.1,fun h=>?_,fun h=>?_⟩⟩
   ·rw[if_neg (by omega)];exact⟨rfl,rfl⟩
   ·have hl:p.length<=50:=by omega
    rw[if_pos hl]
    obtain⟨a,_,_,_,L⟩:=pJ h1
    obtain⟨x,A,B,D,z⟩:=ZT.of L.l h2
    have ht:G7 s=(Ty.rc a).av:=by unfold G7;rw[L.l]
    have hza:zA s=a:=by unfold zA;rw[L.l];rfl
    rw[ht,hza]
    refine⟨hp.1,?_⟩
    have hloop:=Kt z pa p hp hl v p.length 0 [] (by omega) (by simp)
    rw[bb]at hloop
    refine fF hloop (fun ys o e=>?_) (fun ys o e=>?_)
    ·cases q:eC d p with
     |none=>rw[q]at e;cases e
     |
      some l =>
      rw[q]at e
      cases e
      simp only[↓zq,zs,ae,zt,ae,aK,aE,aM,ct]
      exact⟨rfl,rfl⟩
    ·cases q:eC d p with
     |
      none =>
      rw[q]at e
      cases e
      simp only[↓zq,zs,ae,zt,ae,aK,Option.map_none]
      exact⟨rfl,rfl⟩
     |some l=>rw[q]at e;cases e
theorem Jt(s:Nm)(a:Ty)(x3:AV)(h3:LK.ptr.has x3):∀(n:Nat) (l:List Vl) (v:Vl),l.length=n->ZI a l v->n<=50 ->
 GX [x3,pC s a l v] [] (po (if(iL n a l v).isSome=true then(1,[x3],[])else(2,[ir],[])))
 |
  0,l,v,hl,h,hn=>by
  refine L4 _ _ ?_
  simp only[Hs,pC,↓zq,zs,ae,h3,gy,hl,iL]
  repeat refine⟨by omega,?_⟩
  exact fun _=>by simp[po]
 |
  n+1,l,v,hl,h,hn=>by
  refine L4 _ _ ?_
  have hup:=G4 s a l v h (by omega)
  simp only[Hs,↓zq,zs,ae,h3]
  simp only[pC,↓zq,zs,ae,gy,hl]at hup |-
  repeat refine⟨by omega,?_⟩
  refine⟨fun _=>?_,fun h=>by omega⟩
  refine aj hup ?_
  simp only[↓zq,zs,ae,jZ]
  rw[iL]
  cases q:qF a l v with
  |
   none =>
   simp only[oZ,↓zq,zs,ae,bJ]
   exact⟨fun _=>by simp[po],fun h=>(by cases h)⟩
  |
   some r =>
   obtain⟨hz,hlen,_⟩:=rQ h q
   have ih:=Jt s a x3 h3 n r.1 r.2 (by omega) hz (by omega)
   simp only[oZ,pC,↓zq,zs,ae,a7]at ih |-
   exact⟨fun h=>(by cases h),fun _=>ih⟩
theorem Qa(s:Nm)(pa:AV)(p:List Nm)(hp:cy pa p)(f:Nm):an Tryz.prog 33 [.agg [.v (.string (mk s)),pa,.v (.string (mk f))]] [] (bK (oZ s (zA s) (ga s p f))):=by
 refine Ss _ _ _ hp.1 ?_
 unfold KA
 refine aj (KV s pa p hp f) ?_
 simp only[↓zq,zs,ae,zt,jZ]
 unfold ga
 cases q:sE s p f with
 |
  none =>
  simp only[oZ,↓zq,zs,ae,bJ]
  exact⟨fun _=>⟨rfl,rfl⟩,fun h=>(by cases h)⟩
 |
  some r =>
  obtain⟨l,v⟩:=r
  obtain⟨d,a,x,A,B,D,z,hz,hpt,hft,hl,hza,_,_⟩:=mw q
  rw[hza]
  have hll:l.length<=50:=by rw[hpt]at hl;simpa using hl
  have hloop:=Jt s a (pC s a l v) ((bZ _).mpr trivial) l.length l v rfl hz hll
  simp only[oZ,a7]
  refine⟨fun h=>(by cases h),fun _=>?_⟩
  unfold sG
  refine fF hloop (fun ys o e=>?_) (fun ys o e=>?_)
  ·split at e
   ·rename_i hc
    cases e
    rw[if_pos hc]
    simp only[↓zq,zs,ae,pC,bZ]
    exact⟨rfl,rfl⟩
   ·cases e
  ·split at e
   ·cases e
   ·rename_i hc
    cases e
    rw[if_neg hc]
    simp only[↓zq,zs,ae]
    exact⟨rfl,rfl⟩
end Go.Proofs.Trees
namespace Go.Proofs.Trees
open Go Go.VL Go.RowKit
abbrev tZ(s:Nm):Option (List Vl×Vl)->Nm×List Nm×Nm
 |some r=>(s,r.1.map (·.cF),r.2.cF)
 |none=>([],[],[])
def GZ(o:Option (List Vl×Vl)):Prop:=∀r,o=some r->(∀c,c∈r.1->c.cF.length<=900000)/\r.2.cF.length<=900000/\r.1.length<=51
theorem Cx.cF{a:Ty}{c:Vl}(h:Cx a c):c.cF.length<=900000:=by have:=je c h.hZ;have:=h.nd;omega
theorem Fo.cF{a:Ty}{c:Vl}(h:Fo a c):c.cF.length<=900000:=by have:=je c h.hZ;have:=h.nd;omega
theorem ZI.gz{a:Ty}{l:List Vl}{v:Vl}(h:ZI a l v)(hl:l.length<=51):GZ (some (l,v)):=fun r hr=>by
 cases hr;exact⟨fun c hc=>(h.ctx c hc).cF,h.nG.cF,hl⟩
theorem GZ.none:GZ none:=fun r hr=>by cases hr
theorem JM(l:List Vl)(hl:l.length<=51)(ht:∀c,c∈l->c.cF.length<=900000)(s f:Nm):∀(k i:Nat) (out:List Nm),i+k=l.length->out.length<=i ->
 Hk [.sl (u5 l),.v (.int .i64 (l.length:Int)),.v (.int .i64 (i:Int))] [.cells [.v (.string (mk [])),yx,.v (.string (mk []))],.cells [.v (.string (mk s)),.any,.v (.string (mk f))],.vec 1 (bN out)]
  (gI 1 [] [.cells [.v (.string (mk [])),yx,.v (.string (mk []))],.cells [.v (.string (mk s)),.any,.v (.string (mk f))],.vec 1 (bN (out++(l.drop i).map (·.cF)))])
 |
  0,i,out,hi,ho=>by
  refine M8 _ _ _ _ _ _ _ _ _ ?_
  have:i=l.length:=by omega
  subst this
  simp only[Hq,↓zq,zs,ae,zt,ae,bf,List.drop_length]
  exact⟨fun h=>by omega,fun _=>by simp[gI]⟩
 |
  k+1,i,out,hi,ho=>by
  have hlt:i<l.length:=by omega
  refine M8 _ _ _ _ _ _ _ _ _ ?_
  simp only[Hq,↓zq,zs,ae,zt,ae,bf,gy,um hlt,aM,bG]
  refine⟨fun _=>?_,fun h=>by omega⟩
  repeat refine⟨by omega,?_⟩
  refine aj (CQ (l[i]) (ht _ (bD hlt))) ?_
  simp only[↓zq,zs,ae,zt,EU,kl]
  refine⟨⟨fun c hc=>by simp at hc;rw[hc];rfl,by omega⟩,?_⟩
  rw[bz i (by omega),aS hlt,bE]
  have:=JM l hl ht s f k (i+1) (out++[(l[i]).cF]) (by omega) (by simp;omega)
  rw[a8]at this
  exact this
theorem Sw(s:Nm)(a:Ty)(o:Option (List Vl×Vl))(h:GZ o):an Tryz.prog 40 [oZ s a o] [] (df (.cH [.agg [.v (.string (mk (tZ s o).1)),.vec 0,.v (.string (mk (tZ s o).2.2))],.v (.bool o.isSome)]) [.vec 1 (bN (tZ s o).2.1)]):=by
 refine QR _ (by rw[jZ];trivial) ?_
 unfold LU
 cases o with
 |
  none =>
  simp only[oZ,↓zq,zs,ae]
  exact⟨fun _=>⟨rfl,rfl⟩,fun h=>(by cases h)⟩
 |
  some r =>
  obtain⟨h1,h2,h3⟩:=h r rfl
  simp only[oZ,pC,↓zq,zs,ae,zt,aE,aM]
  refine⟨fun h=>(by cases h),fun _=>?_⟩
  repeat refine⟨by omega,?_⟩
  refine aj (CQ r.2 h2) ?_
  simp only[↓zq,zs,ae,zt,aE,aM,gy]
  repeat refine⟨by omega,?_⟩
  have hlp:=JM r.1 h3 h1 s r.2.cF r.1.length 0 [] (by omega) (by simp)
  rw[bb,aU]at hlp
  refine cz hlp ?_
  simp only[↓zq,zs,ae,zt,ae,aK,bf]
  exact⟨rfl,rfl⟩
theorem gb{s:Nm}{p:List Nm}{f:Nm}{l:List Vl}{v:Vl}(h:ga s p f=some (l,v)):sE s p f=some (l,v)/\(sG (zA s) l v).isSome=true:=by
 unfold ga at h
 obtain⟨r,h1,h2⟩:=bh.1 h
 split at h2
 ·rename_i hc
  cases h2
  exact⟨h1,hc⟩
 ·cases h2
theorem DS{s:Nm}{p:List Nm}{f:Nm}{l:List Vl}{v:Vl}(h:ga s p f=some (l,v)):ZI (zA s) l v/\l.length<=50/\p=l.map (·.cF)/\f=v.cF:=by
 obtain⟨h1,_⟩:=gb h
 obtain⟨d,a,x,A,B,D,z,hz,hp,hf,hl,hza,_,_⟩:=mw h1
 rw[hza]
 exact⟨hz,by rw[hp]at hl;simpa using hl,hp,hf⟩
theorem Fh(s:Nm)(p:List Nm)(f:Nm):GZ (sE s p f):=fun r hr=>by
 obtain⟨d,a,x,A,B,D,z,hz,hp,hf,hl,hza,_,_⟩:=mw (l:=r.1) (v:=r.2) hr
 exact hz.gz (by
  rw[hp]at hl;have:r.1.length<=50:=by simpa using hl
  omega) r rfl
noncomputable def uF (s:Nm) (p:List Nm) (f:Nm):Option Nm:=(ga s p f).bind fun r=>(sG (zA s) r.1 r.2).map (·.cF)
noncomputable def qs (s:Nm) (p:List Nm) (f:Nm):Int:=match ga s p f with
 |some r=>((kids (zA s) r.2).length:Int)
 |none=>-1
abbrev HY(s:Nm)(o:Option (List Vl×Vl)):AV->List Ob->Prop:=df (.cH [.agg [.v (.string (mk (tZ s o).1)),.vec 0,.v (.string (mk (tZ s o).2.2))],.v (.bool o.isSome)]) [.vec 1 (bN (tZ s o).2.1)]
theorem Q4(s:Nm)(pa:AV)(p:List Nm)(hp:cy pa p)(f:Nm):an Tryz.prog 22 [.agg [.v (.string (mk s)),pa,.v (.string (mk f))]] [] (bK (.v (.bool (ga s p f).isSome))):=by
 refine Rd _ _ _ hp.1 ?_
 unfold Kr
 refine aj (Qa s pa p hp f) ?_
 simp only[↓zq,zs,ae,jZ]
 cases ga s p f<;>exact⟨rfl,rfl⟩
theorem Jb(s:Nm)(a:Ty):∀(n:Nat) (l:List Vl) (v w:Vl),l.length=n->ZI a l v->n<=50->iL n a l v=some w->Fo a w /\
 Iv [pC s a l v] [] (gI 1 [pC s a [] w] [])
 |
  0,l,v,w,hl,h,hn,hc=>by
  cases hc
  have:l=[]:=bH hl
  subst this
  refine⟨h.nG,MD _ ?_⟩
  simp only[Gv,pC,↓zq,zs,ae,gy,aG]
  refine⟨by omega,fun h=>by omega,fun _=>by simp[gI]⟩
 |
  n+1,l,v,w,hl,h,hn,hc=>by
  rw[iL]at hc
  obtain⟨r,hu,hc⟩:=bh.1 hc
  obtain⟨hz,hlen,_⟩:=rQ (l':=r.1) (w:=r.2) h hu
  obtain⟨i1,i2⟩:=Jb s a n r.1 r.2 w (by omega) hz (by omega) hc
  refine⟨i1,MD _ ?_⟩
  have hup:=G4 s a l v h (by omega)
  rw[hu]at hup
  simp only[Gv,oZ]at hup |-
  simp only[pC,↓zq,zs,ae,gy,hl]at hup |-
  repeat refine⟨by omega,?_⟩
  refine⟨fun _=>?_,fun h=>by omega⟩
  refine aj hup ?_
  simp only[↓zq,zs,ae]
  exact i2
theorem PY(s:Nm)(pa:AV)(p:List Nm)(hp:cy pa p)(f:Nm):an Tryz.prog 24 [.agg [.v (.string (mk s)),pa,.v (.string (mk f))]] [] (bK (rB (uF s p f))):=by
 refine Pv _ _ _ hp.1 ?_
 unfold JW
 refine aj (Qa s pa p hp f) ?_
 simp only[↓zq,zs,ae,jZ]
 unfold uF
 cases q:ga s p f with
 |
  none =>
  simp only[oZ,↓zq,zs,ae,bJ]
  exact⟨fun _=>⟨rfl,rfl⟩,fun h=>(by cases h)⟩
 |
  some r =>
  obtain⟨l,v⟩:=r
  obtain⟨hz,hl,_⟩:=DS q
  obtain⟨w,hw⟩:=bU.1 (gb q).2
  obtain⟨h1,h2⟩:=Jb s (zA s) l.length l v w rfl hz hl hw
  simp only[oZ,a7,hw,ct]
  have hn:(pC s (zA s) l v).isNil=false:=rfl
  simp only[hn]
  refine⟨fun h=>(by cases h),fun _=>?_⟩
  refine cz h2 ?_
  simp only[↓zq,zs,ae,pC,aM,bZ]
  repeat refine⟨by first|trivial|omega,?_⟩
  refine aj (CQ w h1.cF) ?_
  simp only[↓zq,zs,ae,zt]
  exact⟨rfl,rfl⟩
end Go.Proofs.Trees
namespace Go.Proofs.Trees
open Go Go.VL Go.RowKit
def lU:E->Option E
 | .list [x,a,b]=>if x.at=[114,101,99]then some (.list [x,a,b])else none
 |_=>none
def ph(s:List UInt8):Option E:=match jI s with
 |some e=>lU e
 |none=>none
theorem IF(s:List UInt8):an Tryz.prog 67 [.v (.string (mk s))] [] (jF (ph s) (ph s).isSome):=by
 refine SD _ ?_
 unfold OE
 refine aP (H2 s) (jF.ne _ _ (fun h=>h)) ?_
 rintro r o ⟨c,d,hd,rfl,hh⟩
 have hhas:bI [.str,.sl] [.v (.string (mk c)),d] 0:=by simp[bI,dV,hd]
 simp only[↓zq,zs,ae,zt]
 refine⟨hhas,fun h=>?_,fun h=>?_⟩
 ·obtain⟨e,he,hce⟩:=hh h
  obtain⟨t,h1,hA,h3,h4,h5,_⟩:=ia he
  have hce':=hce
  rw[dm]at hce'
  simp only[AV.agg.injEq,List.cons.injEq,AV.v.injEq,Value.string.injEq,and_true]at hce'
  obtain⟨hc1,rfl⟩:=hce'
  have hc2:=mk_inj hc1
  subst hc2
  have head:∀w:List UInt8,an Tryz.prog 86 [.agg [.v (.string (mk e.at)),e.sp]] [] (bK (.v (.string (mk w))))->(w=[114,101,99]↔(lU e).isSome=true)->((lU e).isSome=true->lU e=some e) ->
   eZ Tryz.prog 18 (Tree.call 86 [.agg [.v (.string (mk e.at)),e.sp]] [] fun r2 o2=>Tree.ai (LK.str.has r2) (Tree.done 0 [.cH [.agg [.v (.string (mk e.at)),e.sp],.v (.bool (af r2.toStr==[114,101,99]))]] [])) fun _ xs obs=>jF (ph s) (ph s).isSome (xs.headD .any) obs:=by
   intro w hw h1 h2
   refine aj hw ?_
   simp only[↓zq,zs,ae,zt]
   refine⟨e.at,e.sp,hd,?_,fun hs=>⟨e,?_,(dm e).symm⟩⟩
   ·congr 3
    simp only[ph,he,AV.v.injEq,Value.bool.injEq,List.cons.injEq,and_true]
    rw[cx];simpa using h1
   ·simp only[ph,he]at hs |-;exact h2 hs
  have hl:∀x l,e=.list (x::l)->an Tryz.prog 86 [.agg [.v (.string (mk e.at)),e.sp]] [] (bK (.v (.string (mk x.at)))):=by
   rintro x l rfl;exact u9 x l
  have ha:∀s0,e=.atom s0->an Tryz.prog 86 [.agg [.v (.string (mk e.at)),e.sp]] [] (bK (.v (.string (mk [])))):=by
   rintro s0 rfl;exact zX s0 _ ((bf).mpr trivial) hA.ok
  rcases gp hA.wf hA.ty with⟨hb,_⟩|⟨u,g,rfl,_,hg⟩
  ·rcases fK hA.ty hb hA.cl with⟨rfl,rfl⟩|⟨rfl,rfl⟩|⟨s0,rfl,rfl,hp,h0,h1⟩|⟨x,a,b,t1,t2,rfl,hx,rfl,ha',hbb⟩|⟨x,a,b,t1,t2,rfl,hx,rfl,ha',hbb⟩|⟨x,a,b,t1,rfl,hx,rfl⟩
   ·exact head _ (ha _ rfl) (by simp[lU]) (by simp[lU])
   ·exact head _ (ha _ rfl) (by simp[lU]) (by simp[lU])
   ·exact head _ (ha _ rfl) (by simp[lU]) (by simp[lU])
   ·exact head _ (hl _ _ rfl) (by simp[lU,hx]) (by simp[lU,hx])
   ·exact head _ (hl _ _ rfl) (by simp[lU,hx]) (by simp[lU,hx])
   ·exact head _ (hl _ _ rfl) (by simp[lU,hx]) (by simp[lU,hx])
  ·simp at hg
 ·have hn:jI s=none:=by cases hq:jI s<;>simp[hq]at h |-
  refine⟨c,d,hd,?_,fun h=>?_⟩
  ·simp[ph,hn]
  ·simp[ph,hn]at h
theorem AO(s:List UInt8):(ph s).isSome=(kE s).isSome:=by
 unfold ph kE
 cases h:jI s with
 |none=>rw[nf h];rfl
 |
  some e =>
  obtain⟨t,h1,hA,h3,h4,h5,_⟩:=ia h
  rw[h1]
  simp only
  rcases gp hA.wf hA.ty with⟨hb,_⟩|⟨u,g,rfl,_,hg⟩
  ·rcases fK hA.ty hb hA.cl with⟨rfl,rfl⟩|⟨rfl,rfl⟩|⟨s0,rfl,rfl,hp,h0,h1⟩|⟨x,a,b,t1,t2,rfl,hx,rfl,ha',hbb⟩|⟨x,a,b,t1,t2,rfl,hx,rfl,ha',hbb⟩|⟨x,a,b,t1,rfl,hx,rfl⟩<;>simp_all[lU]
  ·simp at hg
theorem LV.le{s v:List UInt8}{w:Vl}{a:Ty}{x A B:E}(h:LV s v w a x A B):ph s=some (.list [x,A,B]):=by
 unfold ph;rw[h.ce];simp[lU,h.hx]
theorem Q7(n:Nat)(v:Vl)(x A B:E)(a:Ty)(hA:Ask B [.mk A.at (.list [x,A,B]) []] a)(hx:x.at=[114,101,99])(w:Vl)(hw:v=.f w)(hv:eY n v (.list [x,A,B],[])=true)(hl:v.nodes<90000) :
 an Tryz.prog 74 [.agg [.v (.string (mk B.at)),B.sp],.v (.string (mk A.at)),.agg [.v (.string (mk w.cL.at)),w.cL.sp]] [] (bK (.sl (l9 (kids a v)))):=by
 subst hw
 obtain⟨w',e,hw'⟩:=tT .nil hx hv
 cases e
 simp only[Vl.nodes]at hl
 have hnm:names [Fr.mk A.at (.list [x,A,B]) []]=[]++[A.at]:=rfl
 have h:=E9 n w.nodes w (au _) B _ a hA hw' (by simp;omega) A.at (by rw[hnm];right;rw[fu];rfl)
 rw[hnm,vX]at h
 exact h
end Go.Proofs.Trees
namespace Go.Proofs.Trees
open Go Go.VL Go.RowKit
def QY(e:E)(s:List UInt8)(t:Ty)(c v:Vl):Prop:=an Tryz.prog 82 [.agg [.v (.string (mk e.at)),e.sp],.v (.string (mk s)),.agg [.v (.string (mk c.cL.at)),c.cL.sp],.agg [.v (.string (mk v.cL.at)),v.cL.sp]] [] (bK (.agg [.v (.string (mk (cW t c v).cL.at)),(cW t c v).cL.sp]))
theorem E8:∀(m:Nat) (c:Vl),c.nodes<=m->∀(e:E) (env:List Fr) (t:Ty),Ask e env t->dL t c=true->∀(s:List UInt8) (v:Vl),QY e s t c v
 |0,c,hm=>by have:=du c;omega
 |
  m+1,c,hm=>by
  intro e env t A hc s v
  unfold QY
  refine RM _ _ _ _ _ _ _ ((aX _).mpr trivial) ((aX _).mpr trivial) ((aX _).mpr trivial) ?_
  have atomCase:∀s0,e=.atom s0->cW t c v=v->eZ Tryz.prog 244 (CW (mk e.at) e.sp (mk s) (mk c.cL.at) c.cL.sp (mk v.cL.at) v.cL.sp) fun _ xs obs=>bK (.agg [.v (.string (mk (cW t c v).cL.at)),(cW t c v).cL.sp]) (xs.headD .any) obs:=by
   rintro s0 rfl hp
   have hne:s0≠[]:=A.ok
   rw[hp]
   simp only[CW,E.at,↓zq,zs,ae,zt,bK]
   exact⟨fun _=>trivial,fun h=>absurd h hne⟩
  have hvh:=AY c
  rw[dm]at hvh
  rcases gp A.wf A.ty with⟨hb,hq⟩|⟨u,g,rfl,hq,hu⟩
  ·rcases fK A.ty hb A.cl with⟨rfl,rfl⟩|⟨rfl,rfl⟩|⟨s0,rfl,rfl,hp,h0,h1⟩|⟨x,a,b,t1,t2,rfl,hx,rfl,ha,hbb⟩|⟨x,a,b,t1,t2,rfl,hx,rfl,ha,hbb⟩|⟨x,a,b,t1,rfl,hx,rfl⟩
   ·exact atomCase _ rfl (tH _ _)
   ·exact atomCase _ rfl (wj _ _)
   ·exact atomCase _ rfl (kT _ _ _)
   ·obtain⟨ok1,ok2,ok3,_⟩:=A.ok
    obtain⟨f1,f2⟩:=fA A.cl
    have hP:=P3.of x a b
    have hH:an Tryz.prog 86 [.agg [.v (.string (mk [])),(E.list [x,a,b]).sp]] [] (bK (.v (.string (mk [43])))):=by rw[<-hx];exact u9 x [a,b]
    rcases vW hc with⟨y,rfl,hy⟩|⟨y,rfl,hy⟩
    ·simp only[Vl.nodes]at hm
     have hW:=P2.of (.atom [108]) y.cL
     simp only[Vl.cL,bM]at hvh
     simp only[CW,bM,Vl.cL,toNat_one,bg,↓zq,zs,ae,zt,hP.1,hP.2.1,hP.2.2.1,hP.2.2.2,hW.1,hW.2.1,hW.2.2,aL]
     refine⟨fun h=>absurd rfl h,fun _=>?_⟩
     repeat refine⟨by omega,?_⟩
     refine aj hH ?_
     simp only[↓zq,zs,ae,zt]
     refine aj hvh ?_
     simp only[vh,↓zq,zs,ae,zt,bc,aU]
     refine⟨by simp[cM],fun _=>?_,fun h=>absurd rfl h⟩
     repeat refine⟨by omega,?_⟩
     refine aj (E8 m y (by omega) a env t1 ⟨ok2,A.wf,ha,f1⟩ hy s v) ?_
     simp only[↓zq,zs,ae,zt,aL]
     repeat refine⟨by omega,?_⟩
     refine aj (xu _ _) ?_
     simp only[↓zq,zs,ae,zt,aL]
     repeat refine⟨by omega,?_⟩
     exact⟨rfl,rfl⟩
    ·simp only[Vl.nodes]at hm
     have hW:=P2.of (.atom [114]) y.cL
     simp only[Vl.cL,bM]at hvh
     simp only[CW,bM,Vl.cL,toNat_one,bg,↓zq,zs,ae,zt,hP.1,hP.2.1,hP.2.2.1,hP.2.2.2,hW.1,hW.2.1,hW.2.2,aL]
     refine⟨fun h=>absurd rfl h,fun _=>?_⟩
     repeat refine⟨by omega,?_⟩
     refine aj hH ?_
     simp only[↓zq,zs,ae,zt]
     refine aj hvh ?_
     simp only[vh,↓zq,zs,ae,zt,bc,aU]
     refine⟨by simp[cM],fun h=>by simp at h,fun _=>⟨fun _=>?_,fun h=>absurd rfl h⟩⟩
     repeat refine⟨by omega,?_⟩
     refine aj (E8 m y (by omega) b env t2 ⟨ok3,A.wf,hbb,f2⟩ hy s v) ?_
     simp only[↓zq,zs,ae,zt,aL]
     repeat refine⟨by omega,?_⟩
     refine aj (xu _ _) ?_
     simp only[↓zq,zs,ae,zt,aL]
     repeat refine⟨by omega,?_⟩
     exact⟨rfl,rfl⟩
   ·obtain⟨ok1,ok2,ok3,_⟩:=A.ok
    obtain⟨f1,f2⟩:=eX A.cl
    have hP:=P3.of x a b
    have hH:an Tryz.prog 86 [.agg [.v (.string (mk [])),(E.list [x,a,b]).sp]] [] (bK (.v (.string (mk [42])))):=by rw[<-hx];exact u9 x [a,b]
    rcases tf hc with⟨y,z,rfl,hy⟩|⟨y,z,rfl,hy⟩
    ·simp only[Vl.nodes]at hm
     have hW:=P2.of (.atom [108]) (E.list [.atom [112],y.cL,z.cL])
     have hQ:=P3.of (.atom [112]) y.cL z.cL
     simp only[Vl.cL,bM]at hvh
     simp only[CW,bM,Vl.cL,toNat_one,bg,↓zq,zs,ae,zt,hP.1,hP.2.1,hP.2.2.1,hP.2.2.2,hW.1,hW.2.1,hW.2.2,hQ.1,hQ.2.1,hQ.2.2.1,hQ.2.2.2,aL]
     refine⟨fun h=>absurd rfl h,fun _=>?_⟩
     repeat refine⟨by omega,?_⟩
     refine aj hH ?_
     simp only[↓zq,zs,ae,zt]
     refine aj hvh ?_
     simp only[vh,↓zq,zs,ae,zt,bc,aU]
     refine⟨by simp[cM],fun h=>by simp at h,fun _=>⟨fun h=>by simp at h,fun _=>⟨fun _=>?_,fun h=>absurd rfl h⟩⟩⟩
     repeat refine⟨by omega,?_⟩
     refine aj (E8 m y (by omega) a env t1 ⟨ok2,A.wf,ha,f1⟩ hy s v) ?_
     simp only[↓zq,zs,ae,zt,aL]
     repeat refine⟨by omega,?_⟩
     refine aj (wK _ _ _) ?_
     simp only[↓zq,zs,ae,zt,aL]
     repeat refine⟨by omega,?_⟩
     exact⟨rfl,rfl⟩
    ·simp only[Vl.nodes]at hm
     have hW:=P2.of (.atom [114]) (E.list [.atom [112],y.cL,z.cL])
     have hQ:=P3.of (.atom [112]) y.cL z.cL
     simp only[Vl.cL,bM]at hvh
     simp only[CW,bM,Vl.cL,toNat_one,bg,↓zq,zs,ae,zt,hP.1,hP.2.1,hP.2.2.1,hP.2.2.2,hW.1,hW.2.1,hW.2.2,hQ.1,hQ.2.1,hQ.2.2.1,hQ.2.2.2,aL]
     refine⟨fun h=>absurd rfl h,fun _=>?_⟩
     repeat refine⟨by omega,?_⟩
     refine aj hH ?_
     simp only[↓zq,zs,ae,zt]
     refine aj hvh ?_
     simp only[vh,↓zq,zs,ae,zt,bc,aU]
     refine⟨by simp[cM],fun h=>by simp at h,fun _=>⟨fun h=>by simp at h,fun _=>⟨fun h=>by simp at h,fun _=>⟨fun _=>?_,fun h=>absurd rfl h⟩⟩⟩⟩
     repeat refine⟨by omega,?_⟩
     refine aj (E8 m z (by omega) b env t2 ⟨ok3,A.wf,hbb,f2⟩ hy s v) ?_
     simp only[↓zq,zs,ae,zt,aL]
     repeat refine⟨by omega,?_⟩
     refine aj (wK _ _ _) ?_
     simp only[↓zq,zs,ae,zt,aL]
     repeat refine⟨by omega,?_⟩
     exact⟨rfl,rfl⟩
   ·obtain⟨t1',he1,h1,f1,hw1⟩:=ju A.wf A.ok hx A.ty A.cl
    cases he1
    obtain⟨ok1,ok2,ok3,_⟩:=A.ok
    have A':Ask b (.mk a.at (.list [x,a,b]) env::env) t1:=⟨ok3,hw1,h1,f1⟩
    have hP:=P3.of x a b
    have hH:an Tryz.prog 86 [.agg [.v (.string (mk [])),(E.list [x,a,b]).sp]] [] (bK (.v (.string (mk [114,101,99])))):=by rw[<-hx];exact u9 x [a,b]
    rcases BE hc with⟨y,rfl,hy⟩|⟨y,z,rfl,hy,hz⟩
    ·simp only[Vl.nodes]at hm
     have hW:=P2.of (.atom [102]) (E.list [.atom [108],y.cL])
     have hQ:=P2.of (.atom [108]) y.cL
     have hvi:=AY (.l y)
     rw[dm]at hvi
     simp only[Vl.cL,bM]at hvh hvi
     simp only[CW,bM,Vl.cL,toNat_one,bg,↓zq,zs,ae,zt,hP.1,hP.2.1,hP.2.2.1,hP.2.2.2,hW.1,hW.2.1,hW.2.2,hQ.1,hQ.2.1,hQ.2.2,aL]
     refine⟨fun h=>absurd rfl h,fun _=>?_⟩
     repeat refine⟨by omega,?_⟩
     refine aj hH ?_
     simp only[↓zq,zs,ae,zt]
     refine aj hvh ?_
     simp only[vh,↓zq,zs,ae,zt,bc,aU]
     refine⟨by simp[cM],fun h=>by simp at h,fun _=>⟨fun h=>by simp at h,fun _=>⟨fun h=>by simp at h,fun _=>⟨fun h=>by simp at h,fun _=>?_⟩⟩⟩⟩
     repeat refine⟨by omega,?_⟩
     refine aj hvi ?_
     simp only[vh,↓zq,zs,ae,zt]
     refine⟨fun _=>?_,fun h=>absurd rfl h⟩
     repeat refine⟨by omega,?_⟩
     refine aj (E8 m y (by omega) b _ t1 A' hy s v) ?_
     simp only[↓zq,zs,ae,zt,aL]
     repeat refine⟨by omega,?_⟩
     refine aj (xu _ _) ?_
     simp only[↓zq,zs,ae,zt,aL]
     repeat refine⟨by omega,?_⟩
     exact⟨rfl,rfl⟩
    ·simp only[Vl.nodes]at hm
     have hW:=P2.of (.atom [102]) (E.list [.atom [114],E.list [.atom [112],y.cL,z.cL]])
     have hQ:=P2.of (.atom [114]) (E.list [.atom [112],y.cL,z.cL])
     have hR:=P3.of (.atom [112]) y.cL z.cL
     have hvi:=AY (.r (.p y z))
     rw[dm]at hvi
     simp only[Vl.cL,bM]at hvh hvi
     simp only[CW,bM,Vl.cL,toNat_one,bg,↓zq,zs,ae,zt,hP.1,hP.2.1,hP.2.2.1,hP.2.2.2,hW.1,hW.2.1,hW.2.2,hQ.1,hQ.2.1,hQ.2.2,hR.1,hR.2.1,hR.2.2.1,hR.2.2.2,aL]
     refine⟨fun h=>absurd rfl h,fun _=>?_⟩
     repeat refine⟨by omega,?_⟩
     refine aj hH ?_
     simp only[↓zq,zs,ae,zt]
     refine aj hvh ?_
     simp only[vh,↓zq,zs,ae,zt,bc,aU]
     refine⟨by simp[cM],fun h=>by simp at h,fun _=>⟨fun h=>by simp at h,fun _=>⟨fun h=>by simp at h,fun _=>⟨fun h=>by simp at h,fun _=>?_⟩⟩⟩⟩
     repeat refine⟨by omega,?_⟩
     refine aj hvi ?_
     simp only[vh,↓zq,zs,ae,zt]
     refine⟨fun h=>by simp at h,fun _=>?_⟩
     repeat refine⟨by omega,?_⟩
     have i1:=E8 m z (by omega) (.list [x,a,b]) env (.rc t1) A hz s v
     unfold QY at i1
     simp only[bM]at i1
     refine aj i1 ?_
     simp only[↓zq,zs,ae,zt,aL]
     repeat refine⟨by omega,?_⟩
     refine aj (E8 m y (by omega) b _ t1 A' hy a.at (cW (.rc t1) z v)) ?_
     simp only[↓zq,zs,ae,zt,aL]
     repeat refine⟨by omega,?_⟩
     refine aj (xu _ _) ?_
     simp only[↓zq,zs,ae,zt,aL]
     repeat refine⟨by omega,?_⟩
     exact⟨rfl,rfl⟩
  ·cases e with
   |atom s0=>exact atomCase _ rfl (rN _ _ _)
   |list l=>exact absurd hq (by rw[show (E.list l).at=[] from rfl,kZ A.wf];simp)
end Go.Proofs.Trees
namespace Go.Proofs.Trees
open Go Go.VL Go.RowKit
abbrev MO:Ob:=.cells [.v (.string (mk [])),.v (.slice none 0 0),.v (.string (mk []))]
theorem ZT.le{s d:Nm}{a:Ty}{x A B:E}{D:Ty}(z:ZT s d a x A B D):ph s=some (.list [x,A,B]):=by
 unfold ph;rw[z.ce];simp[lU,z.hx]
theorem uL(o:Option Nm):rB o=.cH [.v (.string (mk (o.getD []))),.v (.bool o.isSome)]:=by cases o<;>rfl
theorem zx{a:Ty}{w v:Vl}(hw:Cx a w)(hv:Fo a v):(Vl.f (cW a w v)).cF.length<=900000:=by
 have h1:=je (Vl.f (cW a w v)) (by exact rA 100 a w v hw.hZ hv.hZ)
 have h2:=sf a w v
 have:=hw.nd
 have:=hv.nd
 simp only[Vl.nodes]at h1
 omega
abbrev Ac(a:Ty)(w v:Vl):Option Nm:=if(Vl.f (cW a w v)).nodes<=200 then some (Vl.f (cW a w v)).cF else none
theorem Rv{s d:Nm}{a:Ty}{x A B:E}{D:Ty}(z:ZT s d a x A B D)(w v:Vl)(hw:mn d w.cF 100=some w)(hv:Fo a v):an Tryz.prog 60 [.v (.string (mk s)),.v (.string (mk w.cF)),.v (.string (mk v.cF))] [] (bK (rB (Ac a w v))):=by
 have hC:=z.ctx hw
 have hv2:mn s v.cF 100=some v:=by rw[z.cF hv.hZ hv.ty,if_pos hv.nd]
 refine RD _ _ _ ?_
 unfold J7
 refine aP (IF s) (jF.ne _ _ (fun h=>h)) ?_
 rintro r o ⟨c,e,he,rfl,hh⟩
 rw[z.le]at hh
 obtain⟨e',he',hce⟩:=hh rfl
 cases he'
 rw[dm]at hce
 simp only[AV.agg.injEq,List.cons.injEq,AV.v.injEq,Value.string.injEq,and_true]at hce
 obtain⟨hc1,rfl⟩:=hce
 rw[z.le,hc1]
 simp only[↓zq,zs,ae,zt,aL,bM]
 repeat refine⟨by omega,?_⟩
 refine aj (Jc s) ?_
 rw[uL,z.dl]
 simp only[↓zq,zs,ae,zt,aZ,cD]
 refine⟨fun h=>by simp at h,fun _=>⟨fun h=>by simp at h,fun _=>?_⟩⟩
 refine aj (Ab d w.cF 100) ?_
 rw[hw]
 simp only[↓zq,zs,ae,aZ]
 refine⟨fun h=>by simp at h,fun _=>?_⟩
 refine aj (Ab s v.cF 100) ?_
 rw[hv2]
 simp only[↓zq,zs,ae,aZ]
 refine⟨fun h=>by simp at h,fun _=>?_⟩
 have hP:=P3.of x A B
 have rd:∀q:Vl,q.hZ 100->q.nodes<=200->∀{Q:AV->List Ob->Prop},(∀o,Q (.cH [.agg [.v (.string (mk q.cL.at)),q.cL.sp],.v (.bool true)]) o)->∀r o,jF ((su q.cF).map Vl.cL) (su q.cF).isSome r o->Q r o:=by
  intro q hu hn Q hQ r o
  rw[qR hu hn]
  rintro⟨c,e,he,rfl,hh⟩
  obtain⟨e',he',hce⟩:=hh rfl
  cases he'
  rw[dm]at hce
  rw[hce]
  exact hQ o
 refine aP (Et w.cF) (jF.ne _ _ (fun h=>by simpa using h)) (rd w hC.hZ hC.nd fun o=>?_)
 simp only[↓zq,zs,ae,zt,aL]
 repeat refine⟨by omega,?_⟩
 refine aP (Et v.cF) (jF.ne _ _ (fun h=>by simpa using h)) (rd v hv.hZ hv.nd fun o=>?_)
 simp only[toNat_one,bg,↓zq,zs,ae,zt,hP.1,hP.2.1,hP.2.2.1,hP.2.2.2,aL,aX]
 repeat refine⟨by omega,?_⟩
 refine aj (E8 w.nodes w (au _) B _ a z.body hC.ok A.at v) ?_
 simp only[↓zq,zs,ae,zt,aL]
 repeat refine⟨by omega,?_⟩
 refine aj (xu _ _) ?_
 simp only[↓zq,zs,ae,zt,aL]
 repeat refine⟨by omega,?_⟩
 have htx:=Dr (Vl.f (cW a w v)).cL (mP _) (zx hC hv)
 rw[dm]at htx
 simp only[Vl.cL,bM]at htx
 refine aj htx ?_
 simp only[↓zq,zs,ae,zt]
 refine aj (Ab s (Vl.f (cW a w v)).cF 100) ?_
 rw[z.cF (w:=Vl.f (cW a w v)) (by exact rA 100 a w v hC.hZ hv.hZ) (hC.ty v hv.ty)]
 unfold Ac
 by_cases hn:(Vl.f (cW a w v)).nodes<=200
 ·rw[if_pos hn,if_pos hn]
  simp only[↓zq,zs,ae,aZ]
  exact⟨fun h=>by simp at h,fun _=>⟨rfl,rfl⟩⟩
 ·rw[if_neg hn,if_neg hn]
  simp only[↓zq,zs,ae,bA]
  exact⟨fun _=>⟨rfl,rfl⟩,fun h=>by simp at h⟩
theorem nS{d:Nm}:∀{p:List Nm} {l:List Vl},eC d p=some l->p=l.map (·.cF)->∀c,c∈l->mn d c.cF 100=some c
 |[],l,h,_,c,hc=>by cases h;cases hc
 |
  q::r,l,h,hp,c,hc=>by
  simp only[eC]at h
  split at h
  ·rename_i w l' h1 h2
   cases h
   simp only[bE,List.cons.injEq]at hp
   rcases aJ.1 hc with rfl|hc
   ·rw[<-hp.1];exact h1
   ·exact nS h2 hp.2 c hc
  ·cases h
structure St(s d:Nm)(a:Ty)(l:List Vl)(v:Vl):Prop where
 z:∃x A B D,ZT s d a x A B D
 i:ZI a l v
 each:∀c,c∈l->mn d c.cF 100=some c
 len:l.length<=50
def zH(s:Nm)(pa:AV)(a:Ty)(l:List Vl)(v:Vl):AV:=match l.getLast? with
 |none=>.cH [.agg [.v (.string (mk s)),pa,.v (.string (mk v.cF))],.v (.bool false)]
 |some c=>.cH [.agg [.v (.string (mk s)),.sl (bN (l.dropLast.map (·.cF))),.v (.string (mk ((Ac a c v).getD [])))],.v (.bool (Ac a c v).isSome)]
theorem Rt{s d:Nm}{a:Ty}{l:List Vl}{v:Vl}(h:St s d a l v)(pa:AV)(hp:cy pa (l.map (·.cF))):an Tryz.prog 38 [.agg [.v (.string (mk s)),pa,.v (.string (mk v.cF))]] [] (bK (zH s pa a l v)):=by
 refine QB _ _ _ hp.1 ?_
 unfold Kq
 have hlen:=h.len
 simp only[↓zq,zs,ae,zt,hp.len,cu,kl]
 unfold zH
 refine⟨hp.1,fun h0=>?_,fun h0=>?_⟩
 ·have:l=[]:=bH (by omega)
  subst this
  exact⟨rfl,rfl⟩
 ·have hpos:0<l.length:=by omega
  have hne:l≠[]:=by rintro rfl;simp at hpos
  rw[wrap64 ((l.length:Int)-1) (by omega) (by omega)]
  have e1:((l.length:Int)-1).toNat=l.length-1:=by omega
  have hlt:l.length-1<(l.map (·.cF)).length:=by rw[cu];omega
  have hlt':l.length-1<l.length:=by omega
  have hlast:l.getLast?=some (l[l.length-1]):=by rw[List.getLast?_eq_some_getLast hne,List.getLast_eq_getElem]
  rw[hlast]
  have hm:=bD hlt'
  have hg:(l.map (·.cF)).getD (l.length-1) []=(l[l.length-1]).cF:=by rw[aa,bp hlt,List.getElem_map];rfl
  obtain⟨x,A,B,D,z⟩:=h.z
  rw[e1,hp.idx hlt,hg]
  generalize l[l.length-1]=c at *
  simp only[↓zq,zs,ae,zt]
  refine⟨⟨hp.1,by omega⟩,by omega,?_⟩
  refine aj (Rv z c v (h.each c hm) h.i.nG) ?_
  rw[uL]
  simp only[↓zq,zs,ae,zt]
  refine⟨⟨hp.1,by omega⟩,⟨fun y hy=>?_,?_⟩,?_,rfl⟩
  ·rw[hp.2]at hy
   have:=List.mem_of_mem_take hy
   obtain⟨t,_,rfl⟩:=bO.1 this
   rfl
  ·rw[hp.2];simp[bN];omega
  ·have:pa.elems.take (l.length-1)=bN (l.dropLast.map (·.cF)):=by
    rw[hp.2,List.dropLast_eq_take,List.map_take];simp[bN,List.map_take]
   rw[this];rfl
theorem St.up{s d:Nm}{a:Ty}{l l':List Vl}{v w:Vl}(h:St s d a l v)(hu:qF a l v=some (l',w)):St s d a l' w:=by
 obtain⟨h1,h2,c,h3,_⟩:=rQ h.i hu
 have hl:=h.len
 exact⟨h.z,h1,fun c' hc'=>h.each c' (by rw[h3];exact aD _ hc'),by omega⟩
theorem Ar{s:Nm}{pa:AV}{a:Ty}{l l':List Vl}{v w:Vl}(hu:qF a l v=some (l',w)):zH s pa a l v=.cH [.agg [.v (.string (mk s)),.sl (bN (l'.map (·.cF))),.v (.string (mk w.cF))],.v (.bool true)]:=by
 unfold qF at hu
 unfold zH
 cases q:l.getLast? with
 |none=>rw[q]at hu;cases hu
 |
  some c =>
  rw[q]at hu
  simp only at hu |-
  unfold Ac
  split at hu
  ·rename_i hn
   cases hu
   rw[if_pos hn];rfl
  ·cases hu
theorem zY{s:Nm}{pa:AV}{a:Ty}{l:List Vl}{v:Vl}(hpa:LK.sl.has pa)(hu:qF a l v=none):∃p f,LK.sl.has p/\zH s pa a l v=.cH [.agg [.v (.string (mk s)),p,.v (.string (mk f))],.v (.bool false)]:=by
 unfold qF at hu
 unfold zH
 cases q:l.getLast? with
 |none=>exact⟨_,_,hpa,rfl⟩
 |
  some c =>
  rw[q]at hu
  simp only at hu |-
  unfold Ac
  split at hu
  ·cases hu
  ·rename_i hn
   rw[if_neg hn];exact⟨_,_,(cf _).mpr trivial,rfl⟩
def Gc(s:Nm)(o:Option Vl):Nat->List AV->List Ob->Prop:=fun k ys ob=>match o with
 |some w=>k=1/\ys=[]/\∃pa,LK.sl.has pa/\ob=[.cells [.v (.string (mk s)),pa,.v (.string (mk w.cF))],MO]
 |none=>k=2/\ys=[.v (.bool false)]/\∃pa f,LK.sl.has pa/\ob=[.cells [.v (.string (mk s)),pa,.v (.string (mk f))]]
theorem O2(s d:Nm)(a:Ty):∀(n:Nat) (l:List Vl) (v:Vl) (pa:AV),l.length=n->St s d a l v->cy pa (l.map (·.cF))->Ia [] [.cells [.v (.string (mk s)),pa,.v (.string (mk v.cF))],MO] (Gc s (iL n a l v))
 |
  0,l,v,pa,hl,h,hp=>by
  refine Jf _ _ _ _ _ _ ?_
  simp only[Hu,↓zq,zs,ae,zt,ae,bf,hp.len,cu,hl,iL]
  refine⟨hp.1,hp.1,fun h=>by omega,fun _=>?_⟩
  exact⟨rfl,rfl,pa,hp.1,rfl⟩
 |
  n+1,l,v,pa,hl,h,hp=>by
  refine Jf _ _ _ _ _ _ ?_
  simp only[Hu,↓zq,zs,ae,zt,ae,bf,hp.len,cu,hl]
  refine⟨hp.1,hp.1,fun _=>?_,fun h=>by omega⟩
  refine aj (Rt h pa hp) ?_
  rw[iL]
  cases q:qF a l v with
  |
   none =>
   obtain⟨p',f',h1,h2⟩:=zY (s:=s) hp.1 q
   rw[h2]
   simp only[↓zq,zs,ae,zt,bI,bJ]
   exact⟨h1,fun _=>⟨rfl,rfl,pa,v.cF,hp.1,rfl⟩,fun h=>by simp at h⟩
  |
   some r =>
   obtain⟨l',w⟩:=r
   obtain⟨_,hlen,_⟩:=rQ h.i q
   rw[Ar q]
   simp only[↓zq,zs,ae,zt,bI,a7,cf]
   refine⟨fun h=>by simp at h,fun _=>?_⟩
   exact O2 s d a n l' w _ (by omega) (h.up q) (cy.of _)
def Dw(o:Option Vl):AV->List Ob->Prop:=fun r ob=>ob=[]/\∃c0 pa c2,LK.sl.has pa/\r=.cH [.agg [.v (.string c0),pa,.v (.string c2)],.v (.bool o.isSome)]/\∀w,o=some w->c2=mk w.cF
theorem Dw.ne(o:Option Vl):∃r ob,Dw o r ob:=⟨_,[],rfl,mk [],.sl [],mk ((o.map (·.cF)).getD []),(cf _).mpr trivial,rfl,fun w h=>by rw[h];rfl⟩
theorem SJ{s d:Nm}{a:Ty}{l:List Vl}{v:Vl}(h:St s d a l v)(pa:AV)(hp:cy pa (l.map (·.cF))):an Tryz.prog 47 [.agg [.v (.string (mk s)),pa,.v (.string (mk v.cF))]] [] (Dw (sG a l v)):=by
 refine RU _ _ _ hp.1 ?_
 unfold Lx
 have hloop:=O2 s d a l.length l v pa rfl h hp
 refine lz hloop (fun ys o e=>?_) (fun ys o e=>?_)
 ·unfold Gc at e
  unfold sG
  cases q:iL l.length a l v with
  |none=>rw[q]at e;exact absurd e.1 (by decide)
  |
   some w =>
   rw[q]at e
   obtain⟨_,rfl,p',h1,rfl⟩:=e
   simp only[↓zq,zs,ae,zt,ae,bf]
   exact⟨h1,rfl,_,_,_,h1,rfl,fun w' h=>by cases h;rfl⟩
 ·unfold Gc at e
  unfold sG
  cases q:iL l.length a l v with
  |some w=>rw[q]at e;exact absurd e.1 (by decide)
  |
   none =>
   rw[q]at e
   obtain⟨_,rfl,p',f',h1,rfl⟩:=e
   simp only[↓zq,zs,ae,zt,ae]
   exact⟨h1,rfl,_,_,_,h1,rfl,fun w' h=>by cases h⟩
theorem K9(s d f:Nm)(pa:AV)(p:List Nm)(hp:cy pa p)(hl:p.length<=50):∀(k i:Nat),i+k=p.length->GQ [.v (.string (mk d)),.v (.int .i64 (i:Int))] [.cells [.v (.string (mk s)),pa,.v (.string (mk f))]] (po (if(eC d (p.drop i)).isSome=true then(1,[],[])else(2,[.v (.bool false)],[])))
 |
  0,i,hi=>by
  refine Kp _ _ _ _ _ ?_
  have:i=p.length:=by omega
  subst this
  simp only[HN,↓zq,zs,ae,zt,ae,hp.len,List.drop_length]
  exact⟨hp.1,hp.1,fun h=>by omega,fun _=>rfl⟩
 |
  k+1,i,hi=>by
  have hlt:i<p.length:=by omega
  have hd:p.drop i=p.getD i []::p.drop (i+1):=by rw[aS hlt];simp[aa,hlt]
  refine Kp _ _ _ _ _ ?_
  simp only[HN,↓zq,zs,ae,zt,ae,hp.len,hp.idx hlt,bG]
  refine⟨hp.1,hp.1,fun _=>⟨⟨hp.1,by omega,by omega⟩,by omega,?_⟩,fun h=>by omega⟩
  refine aj (Ab d (p.getD i []) 100) ?_
  rw[hd,eC]
  simp only[↓zq,zs,ae]
  cases q:mn d (p.getD i []) 100 with
  |
   none =>
   simp only[bA]
   exact⟨fun _=>rfl,fun h=>by simp at h⟩
  |
   some w =>
   simp only[aZ]
   refine⟨fun h=>by simp at h,fun _=>?_⟩
   rw[bz i (by omega)]
   have ih:=K9 s d f pa p hp hl k (i+1) (by omega)
   cases q2:eC d (p.drop (i+1))with
   |none=>rw[q2]at ih;exact ih
   |some l=>rw[q2]at ih;exact ih
theorem ua(s:Nm)(p:List Nm)(f:Nm):sE s p f=(cJ s).bind fun d=>(kE s).bind fun _=>(mn s f 100).bind fun v=>if p.length<=50 then(eC d p).map fun l=>(l,v)else none:=by
 unfold sE qw
 cases kE s with
 |none=>cases cJ s<;>rfl
 |some a=>cases mn s f 100<;>cases cJ s<;>rfl
theorem SY(s:Nm)(pa:AV)(p:List Nm)(hp:cy pa p)(f:Nm):an Tryz.prog 46 [.agg [.v (.string (mk s)),pa,.v (.string (mk f))]] [] (bK (.v (.bool (sE s p f).isSome))):=by
 refine QG _ _ _ hp.1 ?_
 unfold Lp
 refine aj (Jc s) ?_
 rw[uL]
 simp only[↓zq,zs,ae,zt]
 refine aP (IF s) (jF.ne _ _ (fun h=>h)) ?_
 rintro r o ⟨c,e,he,rfl,_⟩
 rw[AO]
 simp only[↓zq,zs,ae,zt,bI,hp.len]
 rw[ua]
 refine⟨he,fun h=>?_,fun h=>⟨fun h'=>?_,fun h'=>⟨hp.1,fun h''=>?_,fun h''=>?_⟩⟩⟩
 ·have:cJ s=none:=by cases q:cJ s with|none=>rfl|some d=>simp[q]at h
  rw[this]
  exact⟨rfl,rfl⟩
 ·have:kE s=none:=by cases q:kE s with|none=>rfl|some d=>simp[q]at h'
  rw[this]
  cases cJ s<;>exact⟨rfl,rfl⟩
 ·simp only[if_neg (show ¬p.length<=50 by omega)]
  exact⟨by cases cJ s<;>cases kE s<;>cases mn s f 100<;>rfl,rfl⟩
 ·obtain⟨d,hd⟩:∃d,cJ s=some d:=by cases q:cJ s with|none=>simp[q]at h|some d=>exact⟨d,rfl⟩
  obtain⟨a,ha⟩:∃a,kE s=some a:=by cases q:kE s with|none=>simp[q]at h'|some d=>exact⟨d,rfl⟩
  rw[hd,ha]
  refine aj (Ab s f 100) ?_
  simp only[↓zq,zs,ae]
  cases q:mn s f 100 with
  |none=>simp only[bA];exact⟨fun _=>⟨rfl,rfl⟩,fun h=>by simp at h⟩
  |
   some v =>
   simp only[aZ,cD,a7]
   refine⟨fun h=>by simp at h,fun _=>?_⟩
   have hl:p.length<=50:=by omega
   have hloop:=K9 s d f pa p hp hl p.length 0 (by omega)
   rw[bb]at hloop
   rw[if_pos hl]
   refine fF hloop (fun ys o e=>?_) (fun ys o e=>?_)
   ·cases q2:eC d p with
    |none=>rw[q2]at e;cases e
    |some l=>exact⟨rfl,rfl⟩
   ·cases q2:eC d p with
    |none=>rw[q2]at e;cases e;simp only[↓zq,zs,ae];exact⟨rfl,rfl⟩
    |some l=>rw[q2]at e;cases e
theorem xj{s:Nm}{p:List Nm}{f:Nm}{l:List Vl}{v:Vl}(h:sE s p f=some (l,v)):∃d,St s d (zA s) l v/\p=l.map (·.cF)/\f=v.cF:=by
 obtain⟨d,a,x,A,B,D,z,hz,hp,hf,hl,hza,_,hr⟩:=mw h
 rw[hza]
 exact⟨d,⟨⟨x,A,B,D,z⟩,hz,nS hr hp,by rw[hp]at hl;simpa using hl⟩,hp,hf⟩
theorem O9(s:Nm)(pa:AV)(p:List Nm)(hp:cy pa p)(f:Nm):an Tryz.prog 23 [.agg [.v (.string (mk s)),pa,.v (.string (mk f))]] [] (bK (.v (.bool (ga s p f).isSome))):=by
 refine QS _ _ _ hp.1 ?_
 unfold Ly
 refine aj (SY s pa p hp f) ?_
 simp only[↓zq,zs,ae]
 unfold ga
 cases q:sE s p f with
 |none=>simp only[bA];exact⟨fun _=>⟨rfl,rfl⟩,fun h=>by simp at h⟩
 |
  some r =>
  obtain⟨l,v⟩:=r
  obtain⟨d,hs,rfl,rfl⟩:=xj q
  simp only[aZ,a7]
  refine⟨fun h=>by simp at h,fun _=>?_⟩
  refine aP (SJ hs pa hp) (Dw.ne _) ?_
  rintro r o ⟨rfl,c0,p',c2,h1,rfl,_⟩
  simp only[↓zq,zs,ae,zt,bI]
  refine⟨h1,?_,rfl⟩
  congr 2
  cases sG (zA s) l v<;>rfl
end Go.Proofs.Trees
namespace Go.Proofs.Trees
open Go Go.VL Go.RowKit
inductive Rl(x:Nm):Nat->Tg->Tg->Prop
 |nm (i):Rl x i (.nm x) (.bd i)
 |kJ (i s) (h:s≠x):Rl x i (.nm s) (.nm s)
 |bd (i j) (h:j≠i):Rl x i (.bd j) (.bd j)
theorem Rl.up{x:Nm}{i:Nat}{a b:Tg}(h:Rl x i a b):Rl x (i+1) a.up b.up:=by
 cases h with
 |nm=>exact .nm _
 |kJ s h=>exact .kJ _ _ h
 |bd j h=>exact .bd _ _ (by omega)
theorem Rl.at{x:Nm}{i:Nat}{a b:Tg}(h:Rl x i a b):∀t:Ty,bn x t=false->eD (dy (.name x) t i) a=eD t b
 |
  .bound k,_=>by
  simp only[dy]
  cases h with
  |
   nm =>
   by_cases e:k=i
   ·simp[e,eD]
   ·simp[e,eD]
  |
   kJ s h =>
   by_cases e:k=i
   ·simp[e,eD,Ne.symm h]
   ·simp[e,eD]
  |
   bd j h =>
   by_cases e:k=i
   ·simp[e,eD,Ne.symm h]
   ·simp[e,eD]
 |
  .name s,hn=>by
  have hs:s≠x:=by simpa[bn]using hn
  cases h with
  |nm=>simp[dy,eD,hs]
  |kJ=>rfl
  |bd=>rfl
 | .plus _ _,_=>by cases h<;>rfl
 | .times _ _,_=>by cases h<;>rfl
 | .rc _,_=>by cases h<;>rfl
 | .zero,_=>by cases h<;>rfl
 | .one,_=>by cases h<;>rfl
theorem ib(x:Nm):∀(n:Nat) (t:Ty) (i:Nat) (a b:Tg) (v:Vl),bn x t=false->Rl x i a b->dC n (dy (.name x) t i) a v=dC n t b v
 |0,_,_,_,_,_,_,_=>rfl
 |
  n+1,t,i,a,b,v,hn,h=>by
  rw[dC,dC,h.at t hn]
  by_cases ht:eD t b=true
  ·rw[if_pos ht,if_pos ht]
  ·rw[if_neg ht,if_neg ht]
   cases t with
   |
    plus p q =>
    simp only[bn,cg]at hn
    cases v<;>simp only[dy,iW,ib x n p i a b _ hn.1 h,ib x n q i a b _ hn.2 h]
   |
    times p q =>
    simp only[bn,cg]at hn
    cases v<;>simp only[dy,iW,ib x n p i a b _ hn.1 h,ib x n q i a b _ hn.2 h]
   |
    rc p =>
    have h0:Rl x (i+1) (.bd 0) (.bd 0):=.bd _ _ (by omega)
    cases v<;>simp only[dy,iW]
    rename_i w
    rw[ib x n p (i+1) a.up b.up w hn h.up,ib x n p (i+1) (.bd 0) (.bd 0) w hn h0]
    congr 1
    apply iU
    intro k _
    have:=ib x n (.rc p) i a b k.2 hn h
    simp only[dy]at this
    rw[this]
   |
    bound k =>
    simp only[dy]
    by_cases e:k=i
    ·rw[if_pos e];cases v<;>rfl
    ·rw[if_neg e];cases v<;>rfl
   |name s=>rfl
   |zero=>rfl
   |one=>rfl
theorem nU(x:Nm){t:Ty}{i:Nat}{a b:Tg}(v:Vl)(hn:bn x t=false)(h:Rl x i a b):ck (dy (.name x) t i) a v=ck t b v:=ib x _ t i a b v hn h
theorem mq(n:Nat):∀(m:Nat) (v:Vl),v.nodes<=m->∀(t:Ty) (s:Nm) (d:Ty) (σ:Nm->Option Ty),Dv t s d->CO σ->jz t 0->vT n v (eS σ t)=true->∀h,h∈ck t (.nm s) v ->
 vT n h.1 (eS σ d)=true/\vT n h.2 (eS σ (.name s))=true/\cW t h.1 h.2=v
 |0,v,hm=>by have:=du v;omega
 |
  m+1,v,hm=>by
  intro t s d σ hd hσ hl hv h hh
  cases hd with
  |zero=>rw[dS rfl (by cases v<;>rfl)]at hh;cases hh
  |one=>rw[dS rfl (by cases v<;>rfl)]at hh;cases hh
  |bound=>rw[dS rfl (by cases v<;>rfl)]at hh;cases hh
  |qv hne=>rw[dS (by simp[eD,hne]) (by cases v<;>rfl)]at hh;cases hh
  |
   hit =>
   rw[mo v (by simp[eD])]at hh
   simp only[aQ]at hh
   subst hh
   exact⟨rfl,hv,kT _ _ _⟩
  |
   @plus a b _ a' b' h1 h2 _ =>
   rcases ji hv with⟨w,rfl,hw⟩|⟨w,rfl,hw⟩
   ·simp only[Vl.nodes]at hm
    rw[m9]at hh
    obtain⟨k,hk,rfl⟩:=cY hh
    obtain⟨q1,q2,q3⟩:=mq n m w (by omega) _ s _ σ h1 hσ hl.1 hw k hk
    exact⟨q1,q2,congrArg Vl.l q3⟩
   ·simp only[Vl.nodes]at hm
    rw[mU]at hh
    obtain⟨k,hk,rfl⟩:=cY hh
    obtain⟨q1,q2,q3⟩:=mq n m w (by omega) _ s _ σ h2 hσ hl.2 hw k hk
    exact⟨q1,q2,congrArg Vl.r q3⟩
  |
   @times a b _ a' b' h1 h2 _ =>
   obtain⟨x,y,rfl,hx,hy⟩:=gn hv
   simp only[Vl.nodes]at hm
   rw[nq]at hh
   rcases aN.1 hh with hh|hh
   ·obtain⟨k,hk,rfl⟩:=cY hh
    obtain⟨q1,q2,q3⟩:=mq n m x (by omega) _ s _ σ h1 hσ hl.1 hx k hk
    refine⟨?_,q2,congrArg (fun q=>Vl.p q y) q3⟩
    show (vT n k.1 (eS σ a')&&vT n y (eS σ b))=true
    rw[q1,hy];rfl
   ·obtain⟨k,hk,rfl⟩:=cY hh
    obtain⟨q1,q2,q3⟩:=mq n m y (by omega) _ s _ σ h2 hσ hl.2 hy k hk
    refine⟨?_,q2,congrArg (Vl.p x) q3⟩
    show (vT n x (eS σ a)&&vT n k.1 (eS σ b'))=true
    rw[q1,hx];rfl
  |
   @rc a _ c0 d0 x hx hs h1 h2 hsz =>
   have lo:jz (dy (.name x) a 0) 0:=gG x a hl
   obtain⟨X,e1,e2⟩:=oK (x:=x) hσ hl (h1.lc lo) (h2.lc lo)
   obtain⟨w,rfl,hw⟩:=AT hv
   simp only[Vl.nodes]at hm
   have hcl:=lO hσ x (j9 hσ (.rc a) hl)
   have hop:eS (iT σ x (eS σ (.rc a))) (dy (.name x) a 0)=dy (eS σ (.rc a)) (eS σ a) 0:=jK hσ x _ a 0 hx
   have hns:eS (iT σ x (eS σ (.rc a))) (.name s)=eS σ (.name s):=by simp only[eS,iT,if_neg (Ne.symm hs)]
   have hnx:eS (iT σ x (eS σ (.rc a))) (.name x)=eS σ (.rc a):=by simp[eS,iT]
   have hw':vT n w (eS (iT σ x (eS σ (.rc a))) (dy (.name x) a 0))=true:=by rw[hop];exact hw
   have ty:∀y,vT n y (dy (.rc X) X 0)=true->vT n (.f y) (eS σ (pX a x c0 d0))=true:=fun y hy=>by rw[e1];exact hy
   rw[nk]at hh
   rcases aN.1 hh with hh|hh
   ·obtain⟨k,hk,rfl⟩:=cY hh
    have hk':k∈ck (dy (.name x) a 0) (.nm s) w:=by rw[nU x w hx (.kJ 0 s (Ne.symm hs))];exact hk
    obtain⟨q1,q2,q3⟩:=mq n m w (by omega) _ s _ _ h1 hcl lo hw' k hk'
    rw[dM x k.1.nodes k.1 a 0 k.2 (au _)]at q3
    refine⟨ty _ ?_,by rw[<-hns];exact q2,congrArg Vl.f q3⟩
    rw[e2];exact q1
   ·obtain⟨k,hk,hh⟩:=List.mem_flatMap.1 hh
    obtain⟨k2,hk2,rfl⟩:=cY hh
    have hk':k∈ck (dy (.name x) a 0) (.nm x) w:=by rw[nU x w hx (.nm 0)];exact hk
    obtain⟨q1,q2,q3⟩:=mq n m w (by omega) _ x _ _ h2 hcl lo hw' k hk'
    rw[dM x k.1.nodes k.1 a 0 k.2 (au _)]at q3
    rw[hnx]at q2
    have hsz2:=(iD hk).1
    obtain⟨r1,r2,r3⟩:=mq n m k.2 (by omega) (.rc a) s _ σ (.rc x hx hs h1 h2 hsz) hσ hl q2 k2 hk2
    refine⟨ty _ ?_,r2,?_⟩
    ·rw[e2]
     show (vT n k.1 _&&vT n k2.1 _)=true
     rw[q1,r1];rfl
    ·show Vl.f (cW a k.1 (cW (.rc a) k2.1 k2.2))=.f w
     rw[r3,q3]
theorem C3{n:Nat}{a D:Ty}{x:Nm}(hx:bn x a=false)(hl:jz (.rc a) 0)(h:n9 a x=some D){v:Vl}(hv:vT n v (.rc a)=true){k:Hl}(hk:k∈kids a v) :
 vT n k.1 D=true/\vT n k.2 (.rc a)=true/\.f (cW a k.1 k.2)=v:=by
 simp only[n9,bh,cQ,eU]at h
 obtain⟨d,hd,_,rfl⟩:=h
 have lo:jz (dy (.name x) a 0) 0:=gG x a hl
 have hcl:=lO se x hl
 have e1:sub x (.rc a) d=eS (iT Eu x (.rc a)) d:=by
  have:=im Eu x (.rc a) d
  rw[i7,i7]at this;exact this
 obtain⟨w,rfl,hw⟩:=AT hv
 have hk':k∈ck (dy (.name x) a 0) (.nm x) w:=by rw[nU x w hx (.nm 0)];exact hk
 have hop:eS (iT Eu x (.rc a)) (dy (.name x) a 0)=dy (.rc a) a 0:=by rw[jK se x _ a 0 hx,i7]
 obtain⟨q1,q2,q3⟩:=mq n w.nodes w (au _) _ x _ _ hd hcl lo (by rw[hop];exact hw) k hk'
 rw[dM x k.1.nodes k.1 a 0 k.2 (au _)]at q3
 refine⟨by rw[e1];exact q1,?_,congrArg Vl.f q3⟩
 simpa[eS,iT]using q2
theorem ic:∀{t:Ty},cc t=true->∃y,bn y t=true/\dk y=true
 | .name s,h=>⟨s,by simp[bn],h⟩
 |
  .plus a b,h=>by
  simp only[cc,bC]at h
  rcases h with h|h
  ·obtain⟨y,h1,h2⟩:=ic h;exact⟨y,by simp[bn,h1],h2⟩
  ·obtain⟨y,h1,h2⟩:=ic h;exact⟨y,by simp[bn,h1],h2⟩
 |
  .times a b,h=>by
  simp only[cc,bC]at h
  rcases h with h|h
  ·obtain⟨y,h1,h2⟩:=ic h;exact⟨y,by simp[bn,h1],h2⟩
  ·obtain⟨y,h1,h2⟩:=ic h;exact⟨y,by simp[bn,h1],h2⟩
 |
  .rc a,h=>by
  obtain⟨y,h1,h2⟩:=ic (t:=a) h;exact⟨y,by simp[bn,h1],h2⟩
theorem gX:∀{t:Ty} {y:Nm},bn y t=true->dk y=true->cc t=true
 |
  .name s,y,h,hl=>by
  have:s=y:=by simpa[bn]using h
  rw[this];exact hl
 |
  .plus a b,y,h,hl=>by
  simp only[bn,bC]at h
  simp only[cc,bC]
  exact h.imp (gX · hl) (gX · hl)
 |
  .times a b,y,h,hl=>by
  simp only[bn,bC]at h
  simp only[cc,bC]
  exact h.imp (gX · hl) (gX · hl)
 | .rc a,y,h,hl=>gX (t:=a) h hl
 | .zero,y,h,_=>by simp[bn]at h
 | .one,y,h,_=>by simp[bn]at h
 | .bound k,y,h,_=>by simp[bn]at h
theorem ZT.TB{s d:Nm}{a:Ty}{x A B:E}{D:Ty}(z:ZT s d a x A B D):∃e,jI d=some e/\Ask e [] D:=by
 have hcl:cc D=false:=by
  cases q:cc D with
  |false=>rfl
  |
   true =>
   obtain⟨y,h1,h2⟩:=ic q
   have:=gX (t:=.rc a) (s4 z.lp y h1) h2
   rw[z.ask.cl]at this;cases this
 have hc:w6 d=some D:=by unfold w6;rw[z.bk];simp only;rw[if_pos (by rw[sZ,hcl];rfl)]
 cases q:jI d with
 |none=>rw[nf q]at hc;cases hc
 |
  some e =>
  obtain⟨t,h1,hA,_⟩:=ia q
  rw[hc]at h1;cases h1
  exact⟨e,rfl,hA⟩
theorem ZT.S3{s d:Nm}{a:Ty}{x A B:E}{D:Ty}(z:ZT s d a x A B D){w:Vl}(hb:w.hZ 100)(hv:vT 100 w D=true):mn d w.cF 100=if w.nodes<=200 then some w else none:=by
 obtain⟨e,he,hA⟩:=z.TB
 unfold mn
 rw[he]
 by_cases hn:w.nodes<=200
 ·rw[qR hb hn,if_pos hn]
  simp only
  rw[if_pos ⟨by omega,by rw[show (100:Int).toNat=100 from rfl,m8 hA];exact hv⟩]
 ·rw[if_neg hn]
  cases q:su w.cF with
  |none=>rfl
  |
   some w' =>
   exfalso
   obtain⟨_,h2,h3⟩:=lN q
   have:=uW hb h2 (qS q)
   rw[this]at hn;exact hn h3
theorem ZT.Sj{s d:Nm}{a:Ty}{x A B:E}{D:Ty}(z:ZT s d a x A B D){v:Vl}(hv:Fo a v){k:Hl}(hk:k∈kids a v):vT 100 k.1 D=true/\Fo a k.2/\.f (cW a k.1 k.2)=v:=by
 obtain⟨e2,he2,hw2,hte2,_,_⟩:=nK z.y
 have hlc:jz (.rc a) 0:=hte2 ▸ hw2.qy.1
 obtain⟨q1,q2,q3⟩:=C3 (uE z.y) hlc z.lp hv.ty hk
 have:=xM hk
 have:=hv.nd
 exact⟨q1,⟨q2,(kO hv.hZ hk).2,by omega⟩,q3⟩
def u7(a:Ty)(l:List Vl)(v:Vl)(k:Int):Option (List Vl×Vl) :=
 if l.length=50 then none else if 0<=k/\k.toNat<(kids a v).length then
  (if((kids a v).getD k.toNat (.u,.u)).1.nodes<=200 then some (l++[((kids a v).getD k.toNat (.u,.u)).1],((kids a v).getD k.toNat (.u,.u)).2)else none)else none
theorem vB{a:Ty}{l:List Vl}{c e v:Vl}(h:.f (cW a c e)=v)(hn:v.nodes<=200):qF a (l++[c]) e=some (l,v)/\sG a (l++[c]) e=sG a l v:=by
 have hu:qF a (l++[c]) e=some (l,v):=by
  unfold qF
  rw[List.getLast?_concat]
  simp only
  rw[h,if_pos hn,List.dropLast_concat]
 refine⟨hu,?_⟩
 unfold sG
 rw[aq,List.length_singleton,iL,hu]
 rfl
theorem zJ{s d:Nm}{l:List Vl}{v:Vl}(hs:St s d (zA s) l v)(hd:cJ s=some d)(hv:ga s (l.map (·.cF)) v.cF=some (l,v)){k:Hl}(hk:k∈kids (zA s) v) :
 ga s (l.map (·.cF)++[k.1.cF]) k.2.cF=if l.length=50 then none else if k.1.nodes<=200 then some (l++[k.1],k.2)else none:=by
 obtain⟨x,A,B,D,z⟩:=hs.z
 obtain⟨t1,t2,t3⟩:=z.Sj hs.i.nG hk
 have hb:=(kO hs.i.nG.hZ hk).1
 have hz:=(gb hv).1
 have hclo:=(gb hv).2
 have hlen:=hs.len
 have hlp:eC d (l.map (·.cF))=some l:=by
  rw[ua,hd]at hz
  simp only[a7,z.l]at hz
  obtain⟨_,h1,h2⟩:=bh.1 hz
  split at h2
  ·obtain⟨l',h3,h4⟩:=Option.map_eq_some_iff.1 h2
   cases h4;exact h3
  ·cases h2
 have e1:mn s k.2.cF 100=some k.2:=by rw[z.cF t2.hZ t2.ty,if_pos t2.nd]
 unfold ga
 rw[ua,hd]
 simp only[a7,z.l,e1,sL,hlp,eC,z.S3 hb t1,aq,cu,List.length_singleton]
 by_cases h50:l.length=50
 ·rw[if_neg (by omega),if_pos h50];rfl
 ·rw[if_pos (by omega),if_neg h50]
  by_cases hn:k.1.nodes<=200
  ·rw[if_pos hn,if_pos hn]
   simp only[ct,a7,(vB (l:=l) t3 hs.i.nG.nd).2]
   rw[if_pos hclo]
  ·rw[if_neg hn,if_neg hn];rfl
end Go.Proofs.Trees
namespace Go.Proofs.Trees
open Go Go.VL Go.RowKit
def Pm(s:Nm)(o:Option (List Vl×Vl)):AV->List Ob->Prop:=fun r obs=>obs=[]/\∃pa,cy pa (tZ s o).2.1/\r=.cH [.agg [.v (.string (mk (tZ s o).1)),pa,.v (.string (mk (tZ s o).2.2))],.v (.bool o.isSome)]
theorem Bt(s:Nm){o:Option (List Vl×Vl)}(h:GZ o):(tZ s o).2.1.length<=51:=by
 cases o with
 |none=>simp
 |some r=>obtain⟨_,_,h3⟩:=h r rfl;simpa using h3
theorem Pm.ne(s:Nm)(o:Option (List Vl×Vl)):∃r ob,Pm s o r ob:=⟨_,[],rfl,_,cy.of _,rfl⟩
theorem Pm.none(s:Nm):Pm s none (.cH [.agg [.v (.string (mk [])),.v (.slice none 0 0),.v (.string (mk []))],.v (.bool false)]) []:=⟨rfl,_,cy.nil,rfl⟩
theorem py{s:Nm}{p:List Nm}{f:Nm}{l:List Vl}{v:Vl}(h:ga s p f=some (l,v)):∃d,St s d (zA s) l v/\p=l.map (·.cF)/\f=v.cF:=xj (gb h).1
abbrev R6(s:Nm)(o:Option (List Vl×Vl)):AV->List Ob->Prop:=df (.cH [.agg [.v (.string (mk (tZ s o).1)),.vec 1,.v (.string (mk (tZ s o).2.2))],.v (.bool o.isSome)]) [.dead,.vec 1 (bN (tZ s o).2.1)]
theorem Oa(s:Nm)(p:List Nm)(f:Nm):an Tryz.prog 41 [.agg [.v (.string (mk s)),.vec 0,.v (.string (mk f))]] [.vec 1 (bN p)] (R6 s (ga s p f)):=by
 refine RP _ _ _ ?_
 unfold Lv
 refine aj (O9 s _ p (cy.of p) f) ?_
 simp only[↓zq,zs,ae]
 cases q:ga s p f with
 |none=>simp only[bA];exact⟨fun _=>⟨rfl,rfl⟩,fun h=>by simp at h⟩
 |
  some r =>
  obtain⟨_,_,rfl,rfl⟩:=py (l:=r.1) (v:=r.2) q
  simp only[aZ]
  exact⟨fun h=>by simp at h,fun _=>⟨rfl,rfl⟩⟩
theorem wt(s f:Nm):ga s [] f=sE s [] f:=by
 unfold ga
 cases q:sE s [] f with
 |none=>rfl
 |
  some r =>
  obtain⟨l,v⟩:=r
  obtain⟨_,_,h,_⟩:=xj q
  have:l=[]:=List.map_eq_nil_iff.1 h.symm
  subst this
  rfl
theorem QI(s f:Nm):an Tryz.prog 54 [.v (.string (mk s)),.v (.string (mk f))] [] (HY s (sE s [] f)):=by
 refine Rh _ _ ?_
 unfold Ms
 rw[<-wt]
 refine aV (Oa s [] f) ?_
 simp only[↓zq,zs,ae,zt,aK,Ob.es,aO,bx]
 exact⟨rfl,rfl⟩
def lW(l:List Hl):List (List AV):=l.map fun h=>[.v (.string (mk h.1.cF)),.v (.string (mk h.2.cF))]
theorem lH(l:List Hl):(lW l).length=l.length:=by simp[lW]
theorem Lu(l:List Hl)(hl:l.length<=1000)(h1:∀h,h∈l->h.1.cF.length<=900000)(h2:∀h,h∈l->h.2.cF.length<=900000):∀(k i:Nat) (out:List Hl),i+k=l.length->out.length<=i ->
 FF [.sl (l9 l),.v (.int .i64 (i:Int))] [.vec 2 (lW out)] (gI 1 [] [.vec 2 (lW (out++l.drop i))])
 |
  0,i,out,hi,ho=>by
  refine KW _ _ _ ?_
  have:i=l.length:=by omega
  subst this
  simp only[Fw,↓zq,zs,ae,fB,List.drop_length]
  exact⟨fun h=>by omega,fun _=>by simp[gI]⟩
 |
  k+1,i,out,hi,ho=>by
  have hlt:i<l.length:=by omega
  have hm:=bD hlt
  have t1:=Dr (l[i]).1.cL (mP _) (h1 _ hm)
  have t2:=Dr (l[i]).2.cL (mP _) (h2 _ hm)
  rw[dm]at t1 t2
  refine KW _ _ _ ?_
  simp only[Fw,↓zq,zs,ae,zt,fB,gC hlt,bI,aX]
  refine⟨fun _=>?_,fun h=>by omega⟩
  repeat refine⟨by omega,?_⟩
  refine aj t1 ?_
  simp only[↓zq,zs,ae,zt]
  repeat refine⟨by omega,?_⟩
  refine aj t2 ?_
  simp only[↓zq,zs,ae,zt,lH]
  refine⟨⟨fun c hc=>by simp at hc;rw[hc];rfl,by omega⟩,?_⟩
  rw[bz i (by omega),aS hlt]
  have:=Lu l hl h1 h2 k (i+1) (out++[l[i]]) (by omega) (by simp;omega)
  rw[a8]at this
  simpa[lW]using this
theorem Qi(l:List Hl)(hl:l.length<=1000)(h1:∀h,h∈l->h.1.cF.length<=900000)(h2:∀h,h∈l->h.2.cF.length<=900000):an Tryz.prog 73 [.sl (l9 l)] [] (bK (.sl (lW l))):=by
 refine SB _ ((cf _).mpr trivial) ?_
 unfold LA
 refine cz (Lu l hl h1 h2 l.length 0 [] (by omega) (by simp)) ?_
 simp only[↓zq,zs,ae]
 exact⟨rfl,rfl⟩
theorem re{a:Ty}{v:Vl}(h:Fo a v){k:Hl}(hk:k∈kids a v):k.1.cF.length<=900000/\k.2.cF.length<=900000:=by
 obtain⟨b1,b2⟩:=kO h.hZ hk
 have h1:=je _ b1
 have h2:=je _ b2
 have h3:=xM hk
 have h4:=h.nd
 have h5:k.1.nodes<=4*v.nodes:=by
  cases v with
  |f w=>have:=(iD hk).2;simp only[Vl.nodes];omega
  |_=>cases hk
 omega
end Go.Proofs.Trees
