/-
  Part of a proof: Go functions read by values, trees of functions, their contracts.
-/
import Derived.Test.YthcjhageibaepaaGreatDoorP5
set_option linter.unusedVariables false
set_option linter.unusedSimpArgs false
open And renaming intro→aH
open Bool renaming and_eq_true→aw,eq_iff_iff→cy,or_eq_false_iff→ck,or_eq_true→bC,true_and→bW
open ByteArray renaming toList→af
open Int renaming tmod→dH,toNat_natCast→bM
open List renaming all_cons→da,all_eq_true→bX,append_assoc→bf,append_nil→cY,cons_append→bc,drop_eq_getElem_cons→aR,drop_zero→bb,eq_nil_of_length_eq_zero→ca,getD_cons_zero→bx,getD_eq_getElem?_getD→aa,getElem?_eq_getElem→bp,getElem_mem→bD,headD_cons→aO,length_append→aq,length_cons→az,length_map→cj,length_nil→aG,map_cons→bE,mem_append→aN,mem_append_left→aD,mem_append_right→aB,mem_cons→aK,mem_cons_of_mem→al,mem_cons_self→ak,mem_map→bQ,mem_singleton→aU,nil_append→aT,tail_cons→bq
open Nat renaming le_add_right→db,le_refl→au,mul_add→cU,mul_le_mul_right→a8,mul_one→dI,zero_add→aY,zero_le→dQ
open Option renaming bind_eq_some_iff→aX,bind_none→bI,bind_some→aW,getD_some→cI,isSome_iff_exists→cb,isSome_none→bu,isSome_some→aZ,map_some→cB
open UInt8 renaming ofNat→bj
namespace Go.Proofs.Trees
open Go Go.VL Go.RowKit
theorem xd(w:List UInt8)(e:E):an Tryz.prog 81 [.v (.string (mk w)),.sl [[.v (.string (mk e.at)),e.sp]]] [] (bJ (.agg [.v (.string (mk [])),(E.list [.atom w,e]).sp])):=by
 have:=OL w [e] (by simp)
 simpa only[E.bw,fM,dj,E.at]using this
theorem xz(w:List UInt8)(e e':E):an Tryz.prog 81 [.v (.string (mk w)),.sl [[.v (.string (mk e.at)),e.sp],[.v (.string (mk e'.at)),e'.sp]]] [] (bJ (.agg [.v (.string (mk [])),(E.list [.atom w,e,e']).sp])):=by
 have:=OL w [e,e'] (by simp)
 simpa only[E.bw,fM,dj,E.at]using this
def P3(pv:AV)(a b:E):Prop:=LK.sl.has pv/\pv.elems.length=3/\pv.elems.getD 1 []=[.v (.string (mk a.at)),a.sp]/\pv.elems.getD 2 []=[.v (.string (mk b.at)),b.sp]
theorem P3.of(x a b:E):P3 (E.list [x,a,b]).sp a b:=⟨by simp[E.sp,cc],by simp[E.sp,E.bw,fF],by simp[E.sp,E.bw,fF,fM],by simp[E.sp,E.bw,fF,fM]⟩
def P2(pv:AV)(a:E):Prop:=LK.sl.has pv/\pv.elems.length=2/\pv.elems.getD 1 []=[.v (.string (mk a.at)),a.sp]
theorem P2.of(x a:E):P2 (E.list [x,a]).sp a:=⟨by simp[E.sp,cc],by simp[E.sp,E.bw,fF],by simp[E.sp,E.bw,fF,fM]⟩
theorem M8(w:List UInt8)(g:Vl->Vl)(hg:∀c,(g c).cL=.list [.atom w,c.cL])(l:List Hl)(hl:l.length<=1000000):∀(k i:Nat) (out:List Hl),i+k=l.length->out.length+k<=1000000 ->
 Fl [.sl (mf l),.v (.string (mk w)),.v (.int .i64 (i:Int))] [.vec 4 (mf out)] (iG 1 [] [.vec 4 (mf (out++iF g (l.drop i)))])
 |
  0,i,out,hi,ho=>by
  refine Mk _ _ _ _ ?_
  have:i=l.length:=by omega
  subst this
  simp only[H0,↓zq,zs,ae,fA]
  exact⟨fun h=>by omega,fun _=>by simp[iG,iF]⟩
 |
  k+1,i,out,hi,ho=>by
  have hlt:i<l.length:=by omega
  refine Mk _ _ _ _ ?_
  simp only[H0,↓zq,zs,ae,zt,fA,gB hlt,kY,aL]
  refine⟨fun _=>?_,fun h=>by omega⟩
  repeat refine⟨by omega,?_⟩
  refine ai (xd _ _) ?_
  simp only[↓zq,zs,ae,aL]
  repeat refine⟨by omega,?_⟩
  refine⟨⟨zz _ _ _ _,by omega⟩,?_⟩
  rw[bA i (by omega)]
  have:=M8 w g hg l hl k (i+1) (out++[(g (l[i]).1,(l[i]).2)]) (by omega) (by simp;omega)
  rw[bf,<-oK,hg]at this
  rw[gq g l hlt]
  exact this
theorem M4(w:List UInt8)(g:Vl->Vl)(hg:∀c,(g c).cL=.list [.atom w,c.cL])(l out:List Hl)(hl:out.length+l.length<=1000000) :
 an Tryz.prog 105 [.sl (mf l),.v (.string (mk w)),.vec 0] [.vec 4 (mf out)] (dq (.vec 1) [.dead,.vec 4 (mf (out++iF g l))]):=by
 refine RH _ _ _ ((cc _).mpr trivial) ?_
 simp only[J4,↓zq,zs,ae]
 have h:=M8 w g hg l (by omega) l.length 0 out (by omega) (by omega)
 rw[bb]at h
 refine cJ h ?_
 simp[↓zq,zs,ae,dq]
theorem Nb(s:List UInt8)(ta:ByteArray)(tp:AV)(ht:LK.sl.has tp)(va:ByteArray)(vp:AV)(x y:Vl)(hp:P3 vp x.cL y.cL)(l:List Hl)(hl:l.length<=1000000):∀(k i:Nat) (out:List Hl),i+k=l.length->out.length+k<=1000000 ->
 HW [.v (.string (mk s)),.sl (mf l),.v (.int .i64 (i:Int))] [.cells [.v (.string ta),tp],.cells [.v (.string va),vp],.vec 4 (mf out)] (iG 1 [.v (.string (mk s))] [.cells [.v (.string ta),tp],.cells [.v (.string va),vp],.vec 4 (mf (out++iF (fun c=>Vl.l (.p c y)) (l.drop i)))])
 |
  0,i,out,hi,ho=>by
  refine N1 _ _ _ _ _ _ _ _ ?_
  have:i=l.length:=by omega
  subst this
  simp only[Ib,↓zq,zs,ae,fA,ht,a6,ae,hp.1]
  exact⟨fun h=>by omega,fun _=>by simp[iG,iF]⟩
 |
  k+1,i,out,hi,ho=>by
  have hlt:i<l.length:=by omega
  refine N1 _ _ _ _ _ _ _ _ ?_
  simp only[Ib,↓zq,zs,ae,zt,fA,gB hlt,kY,aL,gB,ht,a6,ae,hp.1,toNat_one,bg,hp.1,hp.2.1,hp.2.2.1,hp.2.2.2]
  refine⟨fun _=>?_,fun h=>by omega⟩
  repeat refine⟨by omega,?_⟩
  refine ai (xz _ _ _) ?_
  simp only[↓zq,zs,ae,aL]
  repeat refine⟨by omega,?_⟩
  refine ai (xd [108] (E.list [.atom [112],(l[i]).1.cL,y.cL])) ?_
  simp only[↓zq,zs,ae,aL]
  repeat refine⟨by omega,?_⟩
  refine⟨⟨zz _ _ _ _,by omega⟩,?_⟩
  rw[bA i (by omega)]
  have:=Nb s ta tp ht va vp x y hp l hl k (i+1) (out++[((fun c=>Vl.l (.p c y)) (l[i]).1,(l[i]).2)]) (by omega) (by simp;omega)
  rw[bf,<-oK]at this
  rw[gq (fun c=>Vl.l (.p c y)) l hlt]
  exact this
theorem M9(va:ByteArray)(vp:AV)(x y:Vl)(hp:P3 vp x.cL y.cL)(l:List Hl)(hl:l.length<=1000000):∀(k i:Nat) (out:List Hl),i+k=l.length->out.length+k<=1000000 ->
 G2 [.sl (mf l),.v (.int .i64 (i:Int))] [.cells [.v (.string va),vp],.vec 4 (mf out)] (iG 1 [] [.vec 4 (mf (out++iF (fun c=>Vl.r (.p x c)) (l.drop i)))])
 |
  0,i,out,hi,ho=>by
  refine JE _ _ _ _ _ ?_
  have:i=l.length:=by omega
  subst this
  simp only[HR,↓zq,zs,ae,fA,a6,ae,hp.1]
  exact⟨fun h=>by omega,fun _=>by simp[iG,iF]⟩
 |
  k+1,i,out,hi,ho=>by
  have hlt:i<l.length:=by omega
  refine JE _ _ _ _ _ ?_
  simp only[HR,↓zq,zs,ae,zt,fA,gB hlt,kY,aL,gB,a6,ae,hp.1,toNat_one,bg,hp.1,hp.2.1,hp.2.2.1,hp.2.2.2]
  refine⟨fun _=>?_,fun h=>by omega⟩
  repeat refine⟨by omega,?_⟩
  refine ai (xz _ _ _) ?_
  simp only[↓zq,zs,ae,aL]
  repeat refine⟨by omega,?_⟩
  refine ai (xd [114] (E.list [.atom [112],x.cL,(l[i]).1.cL])) ?_
  simp only[↓zq,zs,ae,aL]
  repeat refine⟨by omega,?_⟩
  refine⟨⟨zz _ _ _ _,by omega⟩,?_⟩
  rw[bA i (by omega)]
  have:=M9 va vp x y hp l hl k (i+1) (out++[((fun c=>Vl.r (.p x c)) (l[i]).1,(l[i]).2)]) (by omega) (by simp;omega)
  rw[bf,<-oK]at this
  rw[gq (fun c=>Vl.r (.p x c)) l hlt]
  exact this
theorem NN(s s2:List UInt8)(ta:ByteArray)(tp:AV)(ht:LK.sl.has tp)(va:ByteArray)(vp:AV)(hp:LK.sl.has vp)(l:List Hl)(hl:l.length<=1000000):∀(k i:Nat) (out:List Hl),i+k=l.length->out.length+k<=1000000 ->
 HF [.v (.string (mk s)),.v (.string (mk s2)),.sl (mf l),.v (.int .i64 (i:Int))] [.cells [.v (.string ta),tp],.cells [.v (.string va),vp],.vec 4 (mf out)] (iG 1 [.v (.string (mk s)),.v (.string (mk s2))] [.cells [.v (.string ta),tp],.cells [.v (.string va),vp],.vec 4 (mf (out++iF (fun c=>Vl.f (.l c)) (l.drop i)))])
 |
  0,i,out,hi,ho=>by
  refine Nt _ _ _ _ _ _ _ _ _ ?_
  have:i=l.length:=by omega
  subst this
  simp only[F7,↓zq,zs,ae,fA,ht,a6,ae,hp]
  exact⟨fun h=>by omega,fun _=>by simp[iG,iF]⟩
 |
  k+1,i,out,hi,ho=>by
  have hlt:i<l.length:=by omega
  refine Nt _ _ _ _ _ _ _ _ _ ?_
  simp only[F7,↓zq,zs,ae,zt,fA,gB hlt,kY,aL,gB,ht,a6,ae,hp]
  refine⟨fun _=>?_,fun h=>by omega⟩
  repeat refine⟨by omega,?_⟩
  refine ai (xd _ _) ?_
  simp only[↓zq,zs,ae,aL]
  repeat refine⟨by omega,?_⟩
  refine ai (xd [102] (E.list [.atom [108],(l[i]).1.cL])) ?_
  simp only[↓zq,zs,ae,aL]
  repeat refine⟨by omega,?_⟩
  refine⟨⟨zz _ _ _ _,by omega⟩,?_⟩
  rw[bA i (by omega)]
  have:=NN s s2 ta tp ht va vp hp l hl k (i+1) (out++[((fun c=>Vl.f (.l c)) (l[i]).1,(l[i]).2)]) (by omega) (by simp;omega)
  rw[bf,<-oK]at this
  rw[gq (fun c=>Vl.f (.l c)) l hlt]
  exact this
theorem I5(s:List UInt8)(L:AV)(q:Nat)(kc:Vl)(kv:Vl)(hL:LK.sl.has L)(hq:q<L.elems.length)(hg:L.elems.getD q []=[.v (.string (mk kc.cL.at)),kc.cL.sp,.v (.string (mk kv.cL.at)),kv.cL.sp])(ta:ByteArray)(tp:AV)(ht:LK.sl.has tp)(l:List Hl)(hl:l.length<=1000000):∀(k i:Nat) (out:List Hl),i+k=l.length->out.length+k<=1000000 ->
 Hw [.v (.string (mk s)),L,.v (.int .i64 (q:Int)),.sl (mf l),.v (.int .i64 (i:Int))] [.cells [.v (.string ta),tp],.vec 4 (mf out)] (iG 1 [.v (.string (mk s)),L,.v (.int .i64 (q:Int))] [.cells [.v (.string ta),tp],.vec 4 (mf (out++iF (fun c=>Vl.f (.r (.p kc c))) (l.drop i)))])
 |
  0,i,out,hi,ho=>by
  refine JW _ _ _ _ _ _ _ _ ?_
  have:i=l.length:=by omega
  subst this
  simp only[GG,↓zq,zs,ae,fA,ht,a6,ae,hL]
  exact⟨fun h=>by omega,fun _=>by simp[iG,iF]⟩
 |
  k+1,i,out,hi,ho=>by
  have hlt:i<l.length:=by omega
  refine JW _ _ _ _ _ _ _ _ ?_
  simp only[GG,↓zq,zs,ae,zt,fA,gB hlt,kY,aL,gB,ht,a6,ae,hL,hg]
  refine⟨fun _=>?_,fun h=>by omega⟩
  repeat refine⟨by omega,?_⟩
  refine ai (xz _ _ _) ?_
  simp only[↓zq,zs,ae,aL]
  repeat refine⟨by omega,?_⟩
  refine ai (xd [114] (E.list [.atom [112],kc.cL,(l[i]).1.cL])) ?_
  simp only[↓zq,zs,ae,aL]
  repeat refine⟨by omega,?_⟩
  refine ai (xd [102] (E.list [.atom [114],E.list [.atom [112],kc.cL,(l[i]).1.cL]])) ?_
  simp only[↓zq,zs,ae,aL]
  repeat refine⟨by omega,?_⟩
  refine⟨⟨zz _ _ _ _,by omega⟩,?_⟩
  rw[bA i (by omega)]
  have:=I5 s L q kc kv hL hq hg ta tp ht l hl k (i+1) (out++[((fun c=>Vl.f (.r (.p kc c))) (l[i]).1,(l[i]).2)]) (by omega) (by simp;omega)
  rw[bf,<-oK]at this
  rw[gq (fun c=>Vl.f (.r (.p kc c))) l hlt]
  exact this
theorem MW(s:List UInt8)(te:E)(a:Ty)(tg:Tg)(l:List Hl)(hl:l.length<=1000000)(ih:∀h,h∈l->an Tryz.prog 74 [.agg [.v (.string (mk te.at)),te.sp],.v (.string (mk s)),.agg [.v (.string (mk h.2.cL.at)),h.2.cL.sp]] [] (bJ (.sl (mf (cq (.rc a) tg h.2))))) :
 ∀(k i:Nat) (out:List Hl),i+k=l.length->(out++(l.drop i).flatMap (AE a tg)).length<=1000000 ->
 Fc [.v (.string (mk s)),.sl (mf l),.v (.int .i64 (i:Int))] [.cells [.v (.string (mk te.at)),te.sp],.vec 4 (mf out)] (iG 1 [] [.vec 4 (mf (out++(l.drop i).flatMap (AE a tg)))])
 |
  0,i,out,hi,ho=>by
  refine JT _ _ _ _ _ _ ?_
  have:i=l.length:=by omega
  subst this
  simp only[Fg,↓zq,zs,ae,fA,a6,ae]
  exact⟨fun h=>by omega,fun _=>by simp[iG]⟩
 |
  k+1,i,out,hi,ho=>by
  have hlt:i<l.length:=by omega
  have hd:(l.drop i).flatMap (AE a tg)=AE a tg (l[i])++(l.drop (i+1)).flatMap (AE a tg):=by rw[aR hlt,List.flatMap_cons]
  rw[hd]at ho |-
  refine JT _ _ _ _ _ _ ?_
  simp only[Fg,↓zq,zs,ae,zt,fA,gB hlt,kY,aL,a6,ae]
  refine⟨fun _=>?_,fun h=>by omega⟩
  repeat refine⟨by omega,?_⟩
  refine ai (ih _ (BL l hlt)) ?_
  simp only[↓zq,zs,ae]
  have hb:out.length+(cq (.rc a) tg (l[i]).2).length<=1000000:=by
   simp only[aq,fP]at ho;omega
  have h5:=I5 s (.sl (mf l)) i (l[i]).1 (l[i]).2 ((cc _).mpr trivial) (by rw[fF,fA];omega) (by rw[fF,gB hlt]) (mk te.at) te.sp ((a6 _).mpr trivial) (cq (.rc a) tg (l[i]).2) (by omega) (cq (.rc a) tg (l[i]).2).length 0 out (by omega) (by omega)
  rw[bb]at h5
  refine cJ h5 ?_
  simp only[↓zq,zs,ae,a6,ae]
  repeat refine⟨by omega,?_⟩
  rw[bA i (by omega),<-bf]
  exact MW s te a tg l hl ih k (i+1) _ (by omega) (by rw[bf];exact ho)
end Go.Proofs.Trees
namespace Go.Proofs.Trees
open Go Go.VL Go.RowKit
def kids(a:Ty):Vl->List Hl
 | .f w=>cq a (.bd 0) w
 |_=>[]
theorem nj(a:Ty)(v:Vl):lg (kids a v)+1<=v.nodes:=by
 cases v with
 |f w=>have:=rW a (.bd 0) w;simp only[kids,Vl.nodes];omega
 |_=>simp only[kids,lg,Vl.nodes,List.map_nil,List.sum_nil];omega
theorem yb{a:Ty}{v:Vl}{h:Hl}(hh:h∈kids a v):h.2.nodes<v.nodes:=by
 cases v with
 |f w=>have:=(iB hh).1;simp only[Vl.nodes];omega
 |_=>cases hh
theorem j6{n:Nat}{a:Ty}{v:Vl}{h:Hl}(hv:v.gZ n)(hh:h∈kids a v):h.1.gZ n/\h.2.gZ n:=by
 cases v with
 |f w=>exact gM n _ _ _ w h hv hh
 |_=>cases hh
end Go.Proofs.Trees
namespace Go.Proofs.Trees
open Go Go.VL
mutual
def E.pr:E->Prop
 | .atom s=>s≠[]/\s.all fe=true
 | .list l=>l≠[]/\E.AI l
def E.AI:List E->Prop
 |[]=>True
 |e::l=>e.pr/\E.AI l
end
mutual
def E.dp:E->Nat
 | .atom _=>0
 | .list l=>1+E.vg l
def E.vg:List E->Nat
 |[]=>0
 |e::l=>max e.dp (E.vg l)
end
def MN(r:List UInt8):Prop:=∀c t,r=c::t->fe c=false
theorem uX:MN []:=by intro c t h;cases h
theorem Bo{s r:List UInt8}(hs:s.all fe=true)(hr:MN r):(s++r).takeWhile fe=s/\(s++r).dropWhile fe=r:=by
 induction s with
 |
  nil =>
  cases r with
  |nil=>exact⟨rfl,rfl⟩
  |cons c t=>have:=hr c t rfl;simp[List.takeWhile,List.dropWhile,this]
 |
  cons c s ih =>
  simp only[da,aw]at hs
  have:=ih hs.2
  simp[List.takeWhile,List.dropWhile,hs.1,this.1,this.2]
theorem wv(l:List E)(r:List UInt8):MN (ej l++41::r):=by
 intro c t h
 cases l with
 |nil=>simp only[ej,aT,List.cons.injEq]at h;rw[<-h.1];decide
 |cons e l=>simp only[ej,bc,List.cons.injEq]at h;rw[<-h.1];decide
theorem AX{f:List UInt8->Option (E×List UInt8)}(r:List UInt8):∀(l:List E) (e:E) (acc:List E) (n:Nat),l.length<n->(∀x,x=e\/x∈l->∀r,MN r->f (e9 x++r)=some (x,r)) ->
 sw f n (e9 e++(ej l++41::r)) acc=some (.list (acc++e::l),r)
 |l,e,acc,0,hn,hf=>by omega
 |
  [],e,acc,n+1,hn,hf=>by
  simp only[sw]
  rw[hf e (.inl rfl) _ (wv [] r)]
  simp[ej]
 |
  x::l,e,acc,n+1,hn,hf=>by
  simp only[sw]
  rw[hf e (.inl rfl) _ (wv (x::l) r)]
  simp only[az]at hn
  have ih:=AX r l x (acc++[e]) n (by omega) (fun y hy=>hf y (.inr (by cases hy with|inl h=>rw[h];exact ak|inr h=>exact al _ h)))
  simp only[bf,bc,aT]at ih
  simp only[ej,bc,bf]
  simp[ih]
theorem DE{l:List E}{k:Nat}:E.AI l->E.vg l<=k->∀x,x∈l->x.pr/\x.dp<=k:=by
 induction l with
 |nil=>intro _ _ x h;cases h
 |
  cons e l ih =>
  intro h hd x hx
  simp only[E.AI,E.vg]at h hd
  cases hx with
  |head=>exact⟨h.1,by omega⟩
  |tail _ hx=>exact ih h.2 (by omega) x hx
theorem xR:∀(k:Nat) (e:E) (r:List UInt8),e.pr->e.dp<=k->MN r->rd k (e9 e++r)=some (e,r)
 |
  0,.atom s,r,hp,hd,hr=>by
  have h:=Bo hp.2 hr
  simp only[e9,rd,h.1,h.2,hp.1,if_false]
 |
  k+1,.atom s,r,hp,hd,hr=>by
  have h:=Bo hp.2 hr
  simp only[e9,rd,h.1,h.2,hp.1,if_false]
 |0,.list l,r,hp,hd,hr=>by simp only[E.dp]at hd;omega
 |k+1,.list [],r,hp,hd,hr=>by exact absurd rfl hp.1
 |
  k+1,.list (e::l),r,hp,hd,hr=>by
  have hs:fe 40=false:=by decide
  simp only[E.dp,E.pr]at hd hp
  have hm:=DE (k:=k) hp.2 (by omega)
  have:=AX (f:=rd k) r l e [] ((e9 e++(ej l++41::r)).length+1) (by have:=sr l;simp only[aq,az];omega)
   (fun x hx r hr=>xR k x r (hm x (by cases hx with|inl h=>rw[h];exact ak|inr h=>exact al _ h)).1 (hm x (by cases hx with|inl h=>rw[h];exact ak|inr h=>exact al _ h)).2 hr)
  simp only[e9,bc,bf,aT]at *
  simp only[rd,List.takeWhile,hs,if_true]
  simpa using this
theorem Cd{e e':E}(h:e.pr)(h':e'.pr)(ht:e9 e=e9 e'):e=e':=by
 have a:=xR (max e.dp e'.dp) e [] h (by omega) uX
 have b:=xR (max e.dp e'.dp) e' [] h' (by omega) uX
 rw[ht,b]at a;cases a;rfl
theorem Ha{e:E}(h:e.pr)(hd:e.dp<=300)(hl:(e9 e).length<=8000):qO (e9 e)=some e:=by
 have:=xR 300 e [] h hd uX
 rw[cY]at this
 rw[qO,this];simp;omega
theorem Cg(s:List UInt8):(s.takeWhile fe).all fe=true:=by
 induction s with
 |nil=>rfl
 |cons c s ih =>
  cases h:fe c
  ·simp[List.takeWhile,h]
  ·simp only[List.takeWhile,h,da,ih];rfl
theorem Eh(l r:List E):E.AI (l++r)↔E.AI l/\E.AI r:=by
 induction l with
 |nil=>simp[E.AI]
 |cons e l ih=>simp[E.AI,ih,and_assoc]
theorem Et(l r:List E):E.vg (l++r)=max (E.vg l) (E.vg r):=by
 induction l with
 |nil=>simp[E.vg]
 |cons e l ih=>simp[E.vg,ih,Nat.max_assoc]
theorem yu{k:Nat}{f:List UInt8->Option (E×List UInt8)}(hf:∀s e r,f s=some (e,r)->s=e9 e++r/\e.pr/\e.dp<=k):∀(n:Nat) (s:List UInt8) (acc:List E) (e:E) (r:List UInt8),sw f n s acc=some (e,r)->E.AI acc->E.vg acc<=k ->
 ∃l,e=.list (acc++l)/\l≠[]/\32::s=ej l++41::r/\E.AI l/\E.vg l<=k
 |0,s,acc,e,r,h,hp,hd=>by cases h
 |
  n+1,s,acc,e,r,h,hp,hd=>by
  simp only[sw]at h
  split at h
  ·rename_i p c r' hs
   obtain⟨h1,h2,h3⟩:=hf _ _ _ hs
   split at h
   ·rename_i hc
    have hc:c=41:=UInt8.toNat_inj.mp hc
    cases h
    exact⟨[p],rfl,by simp,by simp[ej,h1,hc],⟨h2,trivial⟩,by simp[E.vg];omega⟩
   ·split at h
    ·rename_i hc
     have hc:c=32:=UInt8.toNat_inj.mp hc
     obtain⟨l,g1,g2,g3,g4,g5⟩:=yu hf n _ _ _ _ h ((Eh _ _).mpr ⟨hp,h2,trivial⟩) (by rw[Et];simp[E.vg];omega)
     refine⟨p::l,by simpa using g1,by simp,?_,⟨h2,g4⟩,by simp only[E.vg];omega⟩
     rw[h1,hc,g3];simp[ej]
    ·cases h
  ·cases h
theorem Bv:∀(k:Nat) (s:List UInt8) (e:E) (r:List UInt8),rd k s=some (e,r)->s=e9 e++r/\e.pr/\e.dp<=k
 |
  0,s,e,r,h=>by
  simp only[rd]at h
  split at h
  ·cases h
  ·rename_i hs;cases h
   exact⟨(List.takeWhile_append_dropWhile).symm,⟨hs,Cg s⟩,au _⟩
 |
  k+1,s,e,r,h=>by
  simp only[rd]at h
  split at h
  ·split at h
   ·rename_i c r' _
    split at h
    ·rename_i hc
     have hc:c=40:=UInt8.toNat_inj.mp hc
     obtain⟨l,g1,g2,g3,g4,g5⟩:=yu (k:=k) (fun s e r h=>Bv k s e r h) _ _ _ _ _ h trivial (dQ _)
     simp only[aT]at g1
     subst g1;subst hc
     refine⟨?_,⟨g2,g4⟩,by simp only[E.dp];omega⟩
     cases l with
     |nil=>exact absurd rfl g2
     |
      cons x l =>
      simp only[ej,bc,bf,List.cons.injEq,true_and]at g3
      rw[g3];simp[e9]
    ·cases h
   ·cases h
  ·rename_i hs;cases h
   exact⟨(List.takeWhile_append_dropWhile).symm,⟨hs,Cg s⟩,by simp[E.dp]⟩
theorem ym{s:List UInt8}{e:E}(h:qO s=some e):s=e9 e/\e.pr/\e.dp<=300/\s.length<=8000:=by
 unfold qO at h
 split at h
 ·cases h
 ·rename_i hl
  split at h
  ·rename_i e' hr
   cases h
   have:=Bv _ _ _ _ hr
   exact⟨by simpa using this.1,this.2.1,this.2.2,by omega⟩
  ·cases h
theorem Ck{k:Nat}(h:k<10):fe (bj (48+k))=true:=by
 have:∀k:Fin 10,fe (bj (48+k.val))=true:=by decide
 exact this ⟨k,h⟩
theorem w8:∀(n k:Nat),k<n->(dd k).all fe=true
 |0,k,h=>by omega
 |
  n+1,k,h=>by
  by_cases hk:k<10
  ·rw[eI hk,da,Ck hk];rfl
  ·rw[fR hk]
   have:=w8 n (k/10) (by omega)
   rw[List.all_append,this,da,Ck (Nat.mod_lt k (by omega:0<10))];rfl
theorem Hq(k:Nat):(E.atom (wZ k)).pr:=⟨by simp,by have:=w8 (k+1) k (by omega);simp only[wZ,da,this];decide⟩
theorem mV:∀v:Vl,v.cL.pr
 | .u=>⟨by simp,by decide⟩
 | .el k=>Hq k
 | .l v=>⟨by simp,⟨by simp,by decide⟩,mV v,trivial⟩
 | .r v=>⟨by simp,⟨by simp,by decide⟩,mV v,trivial⟩
 | .f v=>⟨by simp,⟨by simp,by decide⟩,mV v,trivial⟩
 | .p a b=>⟨by simp,⟨by simp,by decide⟩,mV a,mV b,trivial⟩
theorem pW:∀v:Vl,v.cL.dp<v.nodes+1
 | .u=>by simp[Vl.cL,E.dp,Vl.nodes]
 | .el k=>by simp[Vl.cL,E.dp,Vl.nodes]
 | .l v=>by have:=pW v;simp only[Vl.cL,E.dp,E.vg,Vl.nodes]at *;omega
 | .r v=>by have:=pW v;simp only[Vl.cL,E.dp,E.vg,Vl.nodes]at *;omega
 | .f v=>by have:=pW v;simp only[Vl.cL,E.dp,E.vg,Vl.nodes]at *;omega
 | .p a b=>by have:=pW a;have:=pW b;simp only[Vl.cL,E.dp,E.vg,Vl.nodes]at *;omega
theorem CT(k:Nat)(h:k<100):(dd k).length<=2:=by
 by_cases hk:k<10
 ·rw[eI hk];simp
 ·rw[fR hk,eI (by omega:k/10<10)];simp
theorem lf:∀v:Vl,v.gZ 100->v.cw.length<=5*v.nodes
 | .u,_=>by simp[Vl.cw,Vl.cL,e9,Vl.nodes]
 |
  .el k,h=>by
  have:=CT k h
  simp only[Vl.cw,Vl.cL,e9,Vl.nodes,az];omega
 | .l v,h=>by have:=lf v h;simp only[Vl.cw,Vl.cL,e9,ej,Vl.nodes,az,aq,aG]at this |-;omega
 | .r v,h=>by have:=lf v h;simp only[Vl.cw,Vl.cL,e9,ej,Vl.nodes,az,aq,aG]at this |-;omega
 | .f v,h=>by have:=lf v h;simp only[Vl.cw,Vl.cL,e9,ej,Vl.nodes,az,aq,aG]at this |-;omega
 | .p a b,h=>by have:=lf a h.1;have:=lf b h.2;simp only[Vl.cw,Vl.cL,e9,ej,Vl.nodes,az,aq,aG]at *;omega
theorem Hn(k:Nat):wZ k≠[117]:=by simp[wZ]
theorem kg:∀v:Vl,v.gZ 100->fN v.cL=some v
 | .u,_=>by simp[Vl.cL,fN]
 | .el k,h=>by simp only[Vl.cL,fN,Hn,if_false,vB k h]
 | .l v,h=>by simp only[Vl.cL,fN,kg v h,E.at];simp
 | .r v,h=>by simp only[Vl.cL,fN,kg v h,E.at];simp
 | .f v,h=>by simp only[Vl.cL,fN,kg v h,E.at];simp
 | .p a b,h=>by simp only[Vl.cL,fN,kg a h.1,kg b h.2,E.at];simp
theorem qN{v:Vl}(h:v.gZ 100)(hn:v.nodes<=200):sA v.cw=some v:=by
 have hd:=pW v
 have hl:=lf v h
 rw[sA,Ha (mV v) (by omega) (by show v.cw.length<=8000;omega)]
 simp only[kg v h]
 rw[if_neg (by omega)]
theorem uF{v w:Vl}(h:v.gZ 100)(h':w.gZ 100)(ht:v.cw=w.cw):v=w:=by
 have:=Cd (mV v) (mV w) ht
 have a:=kg v h
 rw[this,kg w h']at a;cases a;rfl
theorem qL{s:List UInt8}{v:Vl}(h:sA s=some v):s=v.cw:=(ym (lT h).1).1
end Go.Proofs.Trees
namespace Go.Proofs.Trees
open Go Go.VL Go.RowKit
theorem bL(l:List E):(E.list l).at=[]:=rfl
def cX:Ty->Vl->Vl->Vl
 | .plus a _,.l c,v=>.l (cX a c v)
 | .plus _ b,.r c,v=>.r (cX b c v)
 | .times a _,.l (.p x y),v=>.p (cX a x v) y
 | .times _ b,.r (.p x y),v=>.p x (cX b y v)
 | .rc a,.f (.l x),v=>.f (cX a x v)
 | .rc a,.f (.r (.p x y)),v=>.f (cX a x (cX (.rc a) y v))
 |_,_,v=>v
def dL:Ty->Vl->Bool
 | .plus a _,.l c=>dL a c
 | .plus _ b,.r c=>dL b c
 | .times a _,.l (.p x _)=>dL a x
 | .times _ b,.r (.p _ y)=>dL b y
 | .rc a,.f (.l x)=>dL a x
 | .rc a,.f (.r (.p x y))=>dL a x&&dL (.rc a) y
 | .plus _ _,_=>false
 | .times _ _,_=>false
 | .rc _,_=>false
 |_,_=>true
theorem tn(c v:Vl):cX .zero c v=v:=by cases c<;>rfl
theorem vQ(c v:Vl):cX .one c v=v:=by cases c<;>rfl
theorem lq(s:List UInt8)(c v:Vl):cX (.name s) c v=v:=by cases c<;>rfl
theorem rC(u:Nat)(c v:Vl):cX (.bound u) c v=v:=by cases c<;>rfl
theorem vN{a b:Ty}{c:Vl}(h:dL (.plus a b) c=true):(∃x,c=.l x/\dL a x=true)\/∃x,c=.r x/\dL b x=true:=by
 cases c<;>simp[dL]at h<;>simp[h]
theorem sT{a b:Ty}{c:Vl}(h:dL (.times a b) c=true):(∃x y,c=.l (.p x y)/\dL a x=true)\/∃x y,c=.r (.p x y)/\dL b y=true:=by
 cases c with
 |l c=>cases c<;>simp[dL]at h<;>simp[h]
 |r c=>cases c<;>simp[dL]at h<;>exact .inr ⟨_,_,rfl,h⟩
 |_=>simp[dL]at h
theorem CC{a:Ty}{c:Vl}(h:dL (.rc a) c=true):(∃x,c=.f (.l x)/\dL a x=true)\/∃x y,c=.f (.r (.p x y))/\dL a x=true/\dL (.rc a) y=true:=by
 cases c with
 |
  f c =>
  cases c with
  |l c=>simp[dL]at h;simp[h]
  |r c=>cases c<;>simp[dL]at h<;>exact .inr ⟨_,_,rfl,h⟩
  |_=>simp[dL]at h
 |_=>simp[dL]at h
theorem rr(t:Ty)(c v:Vl):(cX t c v).nodes<=c.nodes+v.nodes:=by
 induction t,c,v using cX.induct<;>simp only[cX,Vl.nodes]at*<;> omega
theorem rY(m:Nat)(t:Ty)(c v:Vl):c.gZ m->v.gZ m->(cX t c v).gZ m:=by
 induction t,c,v using cX.induct with
 |case1 a b c v ih=>exact fun h h'=>ih h h'
 |case2 a b c v ih=>exact fun h h'=>ih h h'
 |case3 a b x y v ih=>exact fun h h'=>⟨ih h.1 h',h.2⟩
 |case4 a b x y v ih=>exact fun h h'=>⟨h.1,ih h.2 h'⟩
 |case5 a x v ih=>exact fun h h'=>ih h h'
 |case6 a x y v ih1 ih2=>exact fun h h'=>ih2 h.1 (ih1 h.2 h')
 |case7=>intro h h';simpa only[cX]using h'
def Ho:Hl:=(.u,.u)
end Go.Proofs.Trees
namespace Go.Proofs.Trees
open Go Go.VL Go.RowKit
theorem od(s:Nm)(a b:E):an Tryz.prog 86 [.agg [.v (.string (mk [])),(E.list [.atom s,a,b]).sp]] [] (bJ (.v (.string (mk s)))):=u3 (.atom s) [a,b]
theorem D3{e:E}(h:Wf e):∀(bd l:List Nm) (a:AV),cm a bd->bd.length+l.length+e.sz<100000->an Tryz.prog 84 [.agg [.v (.string (mk e.at)),e.sp],a,.vec 0] [.vec 1 (bH l)] (dq (.vec 1) [.dead,.vec 1 (bH (kq e bd l))]):=by
 induction h with
 |
  @atom s hs =>
  intro bd l a ha hl
  simp only[E.sz]at hl
  refine zn _ _ _ _ ((a6 _).mpr trivial) ha.1 ?_
  have hll:(bH l).length=l.length:=by simp[bH]
  simp only[wS,dT,↓zq,zs,ae,zt,dq,kq]
  refine⟨fun _=>⟨fun h=>?_,fun h=>⟨fun h1=>?_,fun h1=>?_⟩⟩,fun h=>absurd h hs⟩
  ·rw[if_pos (.inl h)]
  ·rw[if_pos (.inr (.inl h1))]
  ·refine ai (FN bd a ha s (by omega)) ?_
   simp only[↓zq,zs,ae]
   refine⟨fun h2=>?_,fun h2=>ai (FN l _ (.of l) s (by omega)) ?_⟩
   ·rw[if_pos (.inr (.inr (.inl h2)))]
   ·simp only[↓zq,zs,ae]
    refine⟨fun h3=>?_,fun h3=>⟨⟨fun c hc=>(by simp at hc;rw[hc];rfl),by omega⟩,?_⟩⟩
    ·rw[if_pos (.inr (.inr (.inr h3)))]
    ·rw[E3,if_neg]
     rintro(q|q|q|q)
     ·exact h q
     ·exact h1 q
     ·exact h2 q
     ·exact h3 q
 |
  @plus x y hx hy i1 i2 =>
  intro bd l a ha hl
  simp only[E.sz,E.jt]at hl
  have hfl:=fZ x bd l
  refine zn _ _ _ _ ((a6 _).mpr trivial) ha.1 ?_
  have hP:=P3.of (.atom [43]) x y
  simp only[wS,bL,toNat_one,bg,↓zq,zs,ae,zt,hP.1,hP.2.1,hP.2.2.1,hP.2.2.2,aL,dq]
  refine⟨fun h=>absurd rfl h,fun _=>?_⟩
  refine ai (od [43] x y) ?_
  simp only[↓zq,zs,ae,zt]
  refine⟨fun h=>by simp at h,fun _=>?_⟩
  repeat refine⟨by omega,?_⟩
  refine aV (i1 bd l a ha (by omega)) ?_
  simp only[↓zq,zs,ae,zt,aO,bq,Ob.es]
  repeat refine⟨by omega,?_⟩
  refine aV (i2 bd (kq x bd l) a ha (by omega)) ?_
  simp only[↓zq,zs,ae,zt,aO,bq,Ob.es]
  rw[kq,if_neg (by decide)]
 |
  @times x y hx hy i1 i2 =>
  intro bd l a ha hl
  simp only[E.sz,E.jt]at hl
  have hfl:=fZ x bd l
  refine zn _ _ _ _ ((a6 _).mpr trivial) ha.1 ?_
  have hP:=P3.of (.atom [42]) x y
  simp only[wS,bL,toNat_one,bg,↓zq,zs,ae,zt,hP.1,hP.2.1,hP.2.2.1,hP.2.2.2,aL,dq]
  refine⟨fun h=>absurd rfl h,fun _=>?_⟩
  refine ai (od [42] x y) ?_
  simp only[↓zq,zs,ae,zt]
  refine⟨fun h=>by simp at h,fun _=>?_⟩
  repeat refine⟨by omega,?_⟩
  refine aV (i1 bd l a ha (by omega)) ?_
  simp only[↓zq,zs,ae,zt,aO,bq,Ob.es]
  repeat refine⟨by omega,?_⟩
  refine aV (i2 bd (kq x bd l) a ha (by omega)) ?_
  simp only[↓zq,zs,ae,zt,aO,bq,Ob.es]
  rw[kq,if_neg (by decide)]
 |
  @rc n y hn hy i =>
  intro bd l a ha hl
  simp only[E.sz,E.jt]at hl
  refine zn _ _ _ _ ((a6 _).mpr trivial) ha.1 ?_
  have hP:=P3.of (.atom dG) (.atom n) y
  simp only[wS,bL,toNat_one,bg,↓zq,zs,ae,zt,hP.1,hP.2.1,hP.2.2.1,hP.2.2.2,aL,dq]
  refine⟨fun h=>absurd rfl h,fun _=>?_⟩
  refine ai (od dG (.atom n) y) ?_
  simp only[↓zq,zs,ae,zt]
  refine⟨fun _=>?_,fun h=>absurd rfl h⟩
  repeat refine⟨by omega,?_⟩
  refine aV (wI bd a ha n (by omega)) ?_
  simp only[↓zq,zs,ae,Ob.es,aO]
  refine⟨dx _,?_⟩
  refine aV (i (bd++[n]) l _ (.of _) (by simp;omega)) ?_
  simp only[↓zq,zs,ae,aO,bq,Ob.es]
  rw[kq,if_pos (dT _)];rfl
theorem O9(x:Nm)(u:E){e:E}(h:Wf e):an Tryz.prog 146 [.agg [.v (.string (mk e.at)),e.sp],.v (.string (mk x)),.agg [.v (.string (mk u.at)),u.sp]] [] (bJ (.agg [.v (.string (mk (sc x u e).at)),(sc x u e).sp])):=by
 induction h with
 |
  @atom s hs =>
  refine C8 _ _ _ _ _ ((a6 _).mpr trivial) ((a6 _).mpr trivial) ?_
  simp only[Ba,dT,↓zq,zs,ae,zt,bJ,sc]
  refine⟨fun _=>⟨fun h=>?_,fun h=>?_⟩,fun h=>absurd h hs⟩
  ·rw[if_pos h]
  ·rw[if_neg h];rfl
 |
  @plus a b ha hb i1 i2 =>
  refine C8 _ _ _ _ _ ((a6 _).mpr trivial) ((a6 _).mpr trivial) ?_
  have hP:=P3.of (.atom [43]) a b
  simp only[Ba,bL,toNat_one,bg,↓zq,zs,ae,zt,hP.1,hP.2.1,hP.2.2.1,hP.2.2.2,aL]
  refine⟨fun h=>absurd rfl h,fun _=>?_⟩
  refine ai (od [43] a b) ?_
  simp only[↓zq,zs,ae,zt]
  refine⟨fun h=>by simp at h,fun _=>?_⟩
  refine ai (od [43] a b) ?_
  simp only[↓zq,zs,ae,zt]
  repeat refine⟨by omega,?_⟩
  refine ai i1 ?_
  simp only[↓zq,zs,ae,zt,aL]
  repeat refine⟨by omega,?_⟩
  refine ai i2 ?_
  simp only[↓zq,zs,ae,zt,aL]
  repeat refine⟨by omega,?_⟩
  refine ai (xz _ _ _) ?_
  simp only[↓zq,zs,ae,zt,aL,v8,bL]
  repeat refine⟨by omega,?_⟩
  exact⟨rfl,rfl⟩
 |
  @times a b ha hb i1 i2 =>
  refine C8 _ _ _ _ _ ((a6 _).mpr trivial) ((a6 _).mpr trivial) ?_
  have hP:=P3.of (.atom [42]) a b
  simp only[Ba,bL,toNat_one,bg,↓zq,zs,ae,zt,hP.1,hP.2.1,hP.2.2.1,hP.2.2.2,aL]
  refine⟨fun h=>absurd rfl h,fun _=>?_⟩
  refine ai (od [42] a b) ?_
  simp only[↓zq,zs,ae,zt]
  refine⟨fun h=>by simp at h,fun _=>?_⟩
  refine ai (od [42] a b) ?_
  simp only[↓zq,zs,ae,zt]
  repeat refine⟨by omega,?_⟩
  refine ai i1 ?_
  simp only[↓zq,zs,ae,zt,aL]
  repeat refine⟨by omega,?_⟩
  refine ai i2 ?_
  simp only[↓zq,zs,ae,zt,aL]
  repeat refine⟨by omega,?_⟩
  refine ai (xz _ _ _) ?_
  simp only[↓zq,zs,ae,zt,aL,s7,bL]
  repeat refine⟨by omega,?_⟩
  exact⟨rfl,rfl⟩
 |
  @rc n b hn hb i =>
  refine C8 _ _ _ _ _ ((a6 _).mpr trivial) ((a6 _).mpr trivial) ?_
  have hP:=P3.of (.atom dG) (.atom n) b
  simp only[Ba,bL,toNat_one,bg,↓zq,zs,ae,zt,hP.1,hP.2.1,hP.2.2.1,hP.2.2.2,aL]
  refine⟨fun h=>absurd rfl h,fun _=>?_⟩
  refine ai (od dG (.atom n) b) ?_
  simp only[↓zq,zs,ae,zt]
  refine⟨fun _=>?_,fun h=>absurd rfl h⟩
  repeat refine⟨by omega,?_⟩
  rw[BO]
  refine⟨fun h=>?_,fun h=>?_⟩
  ·have hh:n=x:=h
   rw[if_pos hh];exact⟨rfl,rfl⟩
  ·have hh:¬n=x:=h
   rw[if_neg hh]
   repeat refine⟨by omega,?_⟩
   refine ai i ?_
   simp only[↓zq,zs,ae,zt,aL]
   repeat refine⟨by omega,?_⟩
   refine ai (xz dG (.atom n) (sc x u b)) ?_
   simp only[↓zq,zs,ae,zt,aL,bL]
   repeat refine⟨by omega,?_⟩
   exact⟨rfl,rfl⟩
theorem rz(x:Nm){e:E}(h:Wf e):nq x e<=e.dc:=by
 induction h with
 |atom hs=>simp only[nq,E.dc];split<;>omega
 |plus ha hb i1 i2=>rw[so];simp only[E.dc,E.eW];omega
 |times ha hb i1 i2=>rw[pQ];simp only[E.dc,E.eW];omega
 |rc hn hb i=>rw[w6];simp only[E.dc,E.eW];split<;>omega
theorem P1(x:Nm){e:E}(h:Wf e):e.dc<1000000->an Tryz.prog 145 [.agg [.v (.string (mk e.at)),e.sp],.v (.string (mk x))] [] (bJ (.v (.int .i64 (nq x e:Int)))):=by
 induction h with
 |
  @atom s hs =>
  intro hl
  refine D4 _ _ _ ((a6 _).mpr trivial) ?_
  simp only[Bi,dT,↓zq,zs,ae,zt,bJ,nq]
  refine⟨fun _=>⟨fun h=>?_,fun h=>?_⟩,fun h=>absurd h hs⟩
  ·rw[if_pos h];rfl
  ·rw[if_neg h];rfl
 |
  @plus a b ha hb i1 i2 =>
  intro hl
  simp only[E.dc,E.eW]at hl
  have u1:=rz x ha
  have u2:=rz x hb
  refine D4 _ _ _ ((a6 _).mpr trivial) ?_
  have hP:=P3.of (.atom [43]) a b
  simp only[Bi,bL,toNat_one,bg,↓zq,zs,ae,zt,hP.1,hP.2.1,hP.2.2.1,hP.2.2.2,aL]
  refine⟨fun h=>absurd rfl h,fun _=>?_⟩
  refine ai (od [43] a b) ?_
  simp only[↓zq,zs,ae,zt]
  refine⟨fun h=>by simp at h,fun _=>?_⟩
  repeat refine⟨by omega,?_⟩
  refine ai (i1 (by omega)) ?_
  simp only[↓zq,zs,ae,zt]
  repeat refine⟨by omega,?_⟩
  refine ai (i2 (by omega)) ?_
  simp only[↓zq,zs,ae,zt]
  rw[so,wrap64 _ (by omega) (by omega)]
  exact⟨by simp,rfl⟩
 |
  @times a b ha hb i1 i2 =>
  intro hl
  simp only[E.dc,E.eW]at hl
  have u1:=rz x ha
  have u2:=rz x hb
  refine D4 _ _ _ ((a6 _).mpr trivial) ?_
  have hP:=P3.of (.atom [42]) a b
  simp only[Bi,bL,toNat_one,bg,↓zq,zs,ae,zt,hP.1,hP.2.1,hP.2.2.1,hP.2.2.2,aL]
  refine⟨fun h=>absurd rfl h,fun _=>?_⟩
  refine ai (od [42] a b) ?_
  simp only[↓zq,zs,ae,zt]
  refine⟨fun h=>by simp at h,fun _=>?_⟩
  repeat refine⟨by omega,?_⟩
  refine ai (i1 (by omega)) ?_
  simp only[↓zq,zs,ae,zt]
  repeat refine⟨by omega,?_⟩
  refine ai (i2 (by omega)) ?_
  simp only[↓zq,zs,ae,zt]
  rw[pQ,wrap64 _ (by omega) (by omega)]
  exact⟨by simp,rfl⟩
 |
  @rc n b hn hb i =>
  intro hl
  simp only[E.dc,E.eW]at hl
  refine D4 _ _ _ ((a6 _).mpr trivial) ?_
  have hP:=P3.of (.atom dG) (.atom n) b
  simp only[Bi,bL,toNat_one,bg,↓zq,zs,ae,zt,hP.1,hP.2.1,hP.2.2.1,hP.2.2.2,aL]
  refine⟨fun h=>absurd rfl h,fun _=>?_⟩
  refine ai (od dG (.atom n) b) ?_
  simp only[↓zq,zs,ae,zt]
  refine⟨fun _=>?_,fun h=>absurd rfl h⟩
  repeat refine⟨by omega,?_⟩
  rw[w6]
  refine⟨fun h=>?_,fun h=>?_⟩
  ·have hh:n=x:=h
   rw[if_pos hh];exact⟨rfl,rfl⟩
  ·have hh:¬n=x:=h
   rw[if_neg hh]
   repeat refine⟨by omega,?_⟩
   refine ai (i (by omega)) ?_
   simp only[↓zq,zs,ae,zt]
   exact⟨rfl,rfl⟩
theorem KX{x:Nm}(hx:qR x){e u:E}(h:Wf e)(hu:Wf u)(hl:e.dc<=1000)(hlu:u.dc<=1000):an Tryz.prog 120 [.agg [.v (.string (mk e.at)),e.sp],.v (.string (mk x)),.agg [.v (.string (mk u.at)),u.sp]] [] (bJ (.v (.bool (decide ((sub x (cS u []) (cS e [])).atoms<=400))))):=by
 refine Rp _ _ _ _ _ ((a6 _).mpr trivial) ((a6 _).mpr trivial) ?_
 unfold I4
 have a1:=DZ e h.ok (by have:=h.sz;omega)
 have a2:=DZ u hu.ok (by have:=hu.sz;omega)
 rw[dj]at a1 a2
 have hle:=rz x h
 have hpos:1<=u.dc:=by rw[hu.dc []];exact er _
 refine ai a1 ?_
 simp only[↓zq,zs,ae,zt]
 refine ai (P1 x h (by omega)) ?_
 simp only[↓zq,zs,ae,zt]
 refine ai a2 ?_
 simp only[↓zq,zs,ae,zt]
 have e1:=dW x (cS u []) (cS e [])
 have e2:=Dm hx h []
 rw[if_neg (by simp)]at e2
 rw[e2,<-h.dc [],<-hu.dc []]at e1
 have hm:nq x e*(u.dc-1)<=1000*1000:=Nat.mul_le_mul (by omega) (by omega)
 have e3:(nq x e:Int)*((u.dc:Int)-1)=((nq x e*(u.dc-1):Nat):Int):=by
  rw[Int.natCast_mul];congr 1;omega
 have e4:nq x e*(u.dc-1)+nq x e=nq x e*u.dc:=by
  rw[Nat.mul_sub,dI]
  have:=Nat.le_mul_of_pos_right (nq x e) hpos
  omega
 rw[wrap64 ((u.dc:Int)-1) (by omega) (by omega),e3,wrap64 ((nq x e*(u.dc-1):Nat):Int) (by omega) (by omega),wrap64 _ (by omega) (by omega)]
 refine⟨?_,rfl⟩
 congr 2
 rw[cy,decide_eq_true_eq,decide_eq_true_eq]
 omega
end Go.Proofs.Trees
namespace Go.Proofs.Trees
open Go Go.VL Go.RowKit
abbrev zi:AV:=.v (.slice none 0 0)
abbrev zE:Ob:=.cells [.v (.string (mk [])),zi]
theorem OK(s:Nm)(p a b:AV)(hp:LK.sl.has p)(F fr to:List Nm)(k:Int)(ha:cm a fr)(hb:cm b to)(hft:fr.length=to.length)(hl:fr.length<1000000):∀(i:Nat),i<=fr.length ->
 Iw [a,b,.v (.int .i64 ((i:Int)-1))] [.cells [.v (.string (mk s)),p],zE,.cells [.any,.v (.int .i64 k)],.vec 1 (bH F)]
  (nU (match bP s fr i with|some u=>(2,[],[.cells [.v (.string (mk (gl to u))),zi],.cells [.any,.v (.int .i64 k)],.vec 1 (bH F)])|none=>(1,[],[.cells [.v (.string (mk s)),p],zE,.cells [.any,.v (.int .i64 k)],.vec 1 (bH F)])))
 |
  0,hi=>by
  refine KH _ _ _ _ _ _ _ _ _ ?_
  simp only[FL,↓zq,zs,ae,ae,hp,bh]
  exact⟨ha.1,hb.1,fun h=>by omega,fun _=>rfl⟩
 |
  i+1,hi=>by
  have hlt:i<fr.length:=by omega
  have hlt':i<to.length:=by omega
  have e1:((i+1:Nat):Int)-1=(i:Int):=by omega
  rw[e1]
  refine KH _ _ _ _ _ _ _ _ _ ?_
  simp only[FL,↓zq,zs,ae,zt,ae,hp,bh,ha.len,hb.len,ha.idx hlt,hb.idx hlt',bM]
  refine⟨ha.1,hb.1,fun _=>⟨⟨ha.1,by omega,by omega⟩,by omega,fun h=>?_,fun h=>?_⟩,fun h=>by omega⟩
  ·refine⟨⟨hb.1,by omega,by omega⟩,by omega,?_⟩
   have hh:fr.getD i []=s:=h
   simp only[bP,hh,if_true,nU]
   have:gl to (fr.length-1-i)=to.getD i []:=by unfold gl;congr 1;omega
   rw[this]
  ·have hh:¬fr.getD i []=s:=h
   simp only[bP,hh,if_false]
   rw[wrap64 _ (by omega) (by omega)]
   exact OK s p a b hp F fr to k ha hb hft hl i (by omega)
theorem JN(a b:AV)(ha:LK.sl.has a)(hb:LK.sl.has b)(F:List Nm)(hF:F.length<100000)(t:ByteArray)(p:AV)(hp:LK.sl.has p):∀(n j:Nat),qb F n j<j+n->j+n<100000000 ->
 Hy [a,b,.v (.string (mk (tN j)))] [.cells [.any,.v (.int .i64 (j:Int))],.vec 1 (bH F),.cells [.v (.string t),p],zE] (iG 1 [a,b,.v (.string (mk (tN (qb F n j))))] [.cells [.any,.v (.int .i64 (qb F n j:Int))],.vec 1 (bH F),.cells [.v (.string t),p],zE])
 |0,j,h,_=>by simp only[qb]at h;omega
 |
  n+1,j,h,hj=>by
  refine Pt _ _ _ _ _ _ _ _ _ ?_
  simp only[JD,↓zq,zs,ae,zt,ae,hp,bh]
  refine⟨ha,hb,?_⟩
  refine ai (FN F _ (.of F) (tN j) (by omega)) ?_
  simp only[↓zq,zs,ae,zt]
  rw[qb]at h |-
  refine⟨fun hm=>?_,fun hm=>?_⟩
  ·rw[if_pos hm]at h |-
   rw[bA j (by omega)]
   refine ai (Ao (j+2) (j+1) (by omega) (by omega)) ?_
   have hd:=mn (j+2) (j+1) (by omega)
   simp only[↓zq,zs,ae,zt,bc,aT]
   refine⟨by simp[cN];omega,?_⟩
   exact JN a b ha hb F hF t p hp n (j+1) (by omega) (by omega)
  ·rw[if_neg hm]
   exact⟨rfl,rfl,rfl⟩
theorem ik(F:List Nm):∀(t:Ty) (to:List Nm) (k:Nat),k<=(gU F t to k).2/\(gU F t to k).2<=k+(F.length+1)*t.atoms
 | .zero,_,k=>⟨au _,db _ _⟩
 | .one,_,k=>⟨au _,db _ _⟩
 | .name _,_,k=>⟨au _,db _ _⟩
 | .bound _,_,k=>⟨au _,db _ _⟩
 |
  .plus a b,to,k=>by
  have h1:=ik F a to k
  have h2:=ik F b to (gU F a to k).2
  simp only[gU,Ty.atoms]
  have:(F.length+1)*(1+a.atoms+b.atoms)=(F.length+1)+(F.length+1)*a.atoms+(F.length+1)*b.atoms:=by simp only[cU,dI]
  omega
 |
  .times a b,to,k=>by
  have h1:=ik F a to k
  have h2:=ik F b to (gU F a to k).2
  simp only[gU,Ty.atoms]
  have:(F.length+1)*(1+a.atoms+b.atoms)=(F.length+1)+(F.length+1)*a.atoms+(F.length+1)*b.atoms:=by simp only[cU,dI]
  omega
 |
  .rc a,to,k=>by
  obtain⟨g1,g2,_,_⟩:=gC F k
  have h1:=ik F a (to++[tN (nx F k)]) (nx F k+1)
  simp only[gU,Ty.atoms]
  have:(F.length+1)*(2+a.atoms)=(F.length+1)*2+(F.length+1)*a.atoms:=by simp only[cU]
  omega
theorem kl(l:List Nm):(bH l).length=l.length:=by simp[bH]
theorem RA(F:List Nm)(hF:F.length<10000){e:E}(h:Wf e):∀(fr to:List Nm) (a b:AV) (k:Nat),cm a fr->cm b to->fr.length=to.length->(∀w,w∈fr->qR w)->fr.length+e.sz<10000->k+(F.length+1)*(cS e fr).atoms<99000000 ->
 an Tryz.prog 91 [.agg [.v (.string (mk e.at)),e.sp],a,b,.ref 0 0] [.cells [.vec 1,.v (.int .i64 (k:Int))],.vec 1 (bH F)] (dq (.agg [.v (.string (mk (gU F (cS e fr) to k).1.at)),(gU F (cS e fr) to k).1.sp]) [.cells [.vec 1,.v (.int .i64 ((gU F (cS e fr) to k).2:Int))],.vec 1 (bH F)]):=by
 induction h with
 |
  @atom s hs =>
  intro fr to a b k ha hb hft hfr hl hk
  simp only[E.sz]at hl
  refine CU _ _ _ _ _ _ ((a6 _).mpr trivial) ha.1 hb.1 ?_
  have hz:∀c,(c=[48]\/c=[49])->bP c fr fr.length=none:=fun c hc=>(fC c fr).2 fun hm=>by
   obtain⟨h1,h2,h3⟩:=hfr c hm
   rcases hc with rfl|rfl
   ·exact h2 rfl
   ·exact h3 rfl
  have hq:gU F (cS (.atom s) fr) to k=(match bP s fr fr.length with|some u=>.atom (gl to u)|none=>.atom s,k):=by
   simp only[cS]
   by_cases h0:s=[48]
   ·rw[if_pos h0,hz s (.inl h0),h0];rfl
   ·rw[if_neg h0]
    by_cases h1:s=[49]
    ·rw[if_pos h1,hz s (.inr h1),h1];rfl
    ·rw[if_neg h1]
     cases bP s fr fr.length<;>rfl
  simp only[BH,dT,↓zq,zs,ae,zt]
  refine⟨fun _=>⟨ha.1,?_⟩,fun h=>absurd h hs⟩
  rw[ha.len,wrap64 _ (by omega) (by omega)]
  refine fm (OK s _ a b ((a6 _).mpr trivial) F fr to (k:Int) ha hb hft (by omega) fr.length (au _)) (fun ys o e=>?_) (fun ys o e=>?_)
  ·rw[hq]
   cases q:bP s fr fr.length<;>rw[q]at e<;>cases e
   simp only[↓zq,zs,ae,zt,ae,aI,bh,a6]
   exact⟨rfl,rfl⟩
  ·rw[hq]
   cases q:bP s fr fr.length<;>rw[q]at e<;>cases e
   simp only[↓zq,zs,ae,zt,ae,aI,bh]
   exact⟨rfl,rfl⟩
 |
  @plus x y hx hy i1 i2 =>
  intro fr to a b k ha hb hft hfr hl hk
  simp only[E.sz,E.jt]at hl
  rw[dN]at hk |-
  simp only[Ty.atoms]at hk
  have hm:(F.length+1)*(1+(cS x fr).atoms+(cS y fr).atoms)=(F.length+1)+(F.length+1)*(cS x fr).atoms+(F.length+1)*(cS y fr).atoms:=by simp only[cU,dI]
  have hc:=ik F (cS x fr) to k
  refine CU _ _ _ _ _ _ ((a6 _).mpr trivial) ha.1 hb.1 ?_
  have hP:=P3.of (.atom [43]) x y
  simp only[BH,bL,toNat_one,bg,↓zq,zs,ae,zt,hP.1,hP.2.1,hP.2.2.1,hP.2.2.2,aL]
  refine⟨fun h=>absurd rfl h,fun _=>?_⟩
  refine ai (od [43] x y) ?_
  simp only[↓zq,zs,ae,zt]
  refine⟨fun h=>by simp at h,fun _=>?_⟩
  repeat refine⟨by omega,?_⟩
  refine aV (i1 fr to a b k ha hb hft hfr (by omega) (by omega)) ?_
  simp only[↓zq,zs,ae,zt,aI,aL,aO,bq,Ob.es]
  repeat refine⟨by omega,?_⟩
  refine ai (od [43] x y) ?_
  simp only[↓zq,zs,ae,zt]
  repeat refine⟨by omega,?_⟩
  refine aV (i2 fr to a b _ ha hb hft hfr (by omega) (by omega)) ?_
  simp only[↓zq,zs,ae,zt,aI,aL,aO,bq,Ob.es]
  repeat refine⟨by omega,?_⟩
  refine ai (xz _ _ _) ?_
  simp only[↓zq,zs,ae,zt,aL,bL]
  repeat refine⟨by omega,?_⟩
  exact⟨rfl,rfl⟩
 |
  @times x y hx hy i1 i2 =>
  intro fr to a b k ha hb hft hfr hl hk
  simp only[E.sz,E.jt]at hl
  rw[du]at hk |-
  simp only[Ty.atoms]at hk
  have hm:(F.length+1)*(1+(cS x fr).atoms+(cS y fr).atoms)=(F.length+1)+(F.length+1)*(cS x fr).atoms+(F.length+1)*(cS y fr).atoms:=by simp only[cU,dI]
  have hc:=ik F (cS x fr) to k
  refine CU _ _ _ _ _ _ ((a6 _).mpr trivial) ha.1 hb.1 ?_
  have hP:=P3.of (.atom [42]) x y
  simp only[BH,bL,toNat_one,bg,↓zq,zs,ae,zt,hP.1,hP.2.1,hP.2.2.1,hP.2.2.2,aL]
  refine⟨fun h=>absurd rfl h,fun _=>?_⟩
  refine ai (od [42] x y) ?_
  simp only[↓zq,zs,ae,zt]
  refine⟨fun h=>by simp at h,fun _=>?_⟩
  repeat refine⟨by omega,?_⟩
  refine aV (i1 fr to a b k ha hb hft hfr (by omega) (by omega)) ?_
  simp only[↓zq,zs,ae,zt,aI,aL,aO,bq,Ob.es]
  repeat refine⟨by omega,?_⟩
  refine ai (od [42] x y) ?_
  simp only[↓zq,zs,ae,zt]
  repeat refine⟨by omega,?_⟩
  refine aV (i2 fr to a b _ ha hb hft hfr (by omega) (by omega)) ?_
  simp only[↓zq,zs,ae,zt,aI,aL,aO,bq,Ob.es]
  repeat refine⟨by omega,?_⟩
  refine ai (xz _ _ _) ?_
  simp only[↓zq,zs,ae,zt,aL,bL]
  repeat refine⟨by omega,?_⟩
  exact⟨rfl,rfl⟩
 |
  @rc n y hn hy i =>
  intro fr to a b k ha hb hft hfr hl hk
  simp only[E.sz,E.jt]at hl
  rw[fh]at hk |-
  simp only[Ty.atoms,dT]at hk
  have hm:(F.length+1)*(2+(cS y (fr++[n])).atoms)=(F.length+1)*2+(F.length+1)*(cS y (fr++[n])).atoms:=by simp only[cU]
  have hc:=ik F (cS y (fr++[n])) (to++[tN (nx F k)]) (nx F k+1)
  obtain⟨g1,g2,_,_⟩:=gC F k
  refine CU _ _ _ _ _ _ ((a6 _).mpr trivial) ha.1 hb.1 ?_
  have hP:=P3.of (.atom dG) (.atom n) y
  simp only[BH,bL,toNat_one,bg,↓zq,zs,ae,zt,hP.1,hP.2.1,hP.2.2.1,hP.2.2.2,aL]
  refine⟨fun h=>absurd rfl h,fun _=>?_⟩
  refine ai (od dG (.atom n) y) ?_
  simp only[↓zq,zs,ae,zt]
  refine⟨fun _=>?_,fun h=>absurd rfl h⟩
  refine ai (Ao (k+1) k (by omega) (by omega)) ?_
  have hd:=mn (k+1) k (by omega)
  simp only[↓zq,zs,ae,zt,bc,aT]
  refine⟨by simp[cN];omega,?_⟩
  refine cJ (JN a b ha.1 hb.1 F (by omega) (mk []) _ ((a6 _).mpr trivial) (F.length+1) k (by show nx F k<_;omega) (by omega)) ?_
  simp only[↓zq,zs,ae,zt,ae,aI,bh,a6,ha.1,hb.1,hP.1,hP.2.1,hP.2.2.1,hP.2.2.2,toNat_one,bg,aL]
  repeat refine⟨by omega,?_⟩
  have hnx:qb F (F.length+1) k=nx F k:=rfl
  rw[hnx]
  refine aV (wI fr a ha n (by omega)) ?_
  simp only[↓zq,zs,ae,zt,Ob.es,aO]
  refine⟨dx _,?_⟩
  refine aV (wI to b hb (tN (nx F k)) (by omega)) ?_
  simp only[↓zq,zs,ae,zt,Ob.es,aO]
  refine⟨dx _,?_⟩
  rw[bA (nx F k) (by omega)]
  have hmk:=xz dG (.atom (tN (nx F k))) (gU F (cS y (fr++[n])) (to++[tN (nx F k)]) (nx F k+1)).1
  simp only[dT]at hmk
  refine aV (i (fr++[n]) (to++[tN (nx F k)]) _ _ (nx F k+1) (.of _) (.of _) (by simp[hft]) (fun w hw=>by
   rcases aN.1 hw with hw|hw
   ·exact hfr w hw
   ·simp only[aU]at hw;rw[hw];exact hn) (by simp;omega) (by omega)) ?_
  simp only[↓zq,zs,ae,zt,aI,aL,aO,bq,Ob.es]
  repeat refine⟨by omega,?_⟩
  refine ai hmk ?_
  simp only[↓zq,zs,ae,zt,aL,bL]
  repeat refine⟨by omega,?_⟩
  exact⟨rfl,rfl⟩
theorem xy(l r:List Nm):bH (l++r)=bH l++bH r:=by simp[bH]
def sn(os:List E):List Nm:=os.flatMap fun o=>kq o [] []
theorem vn{os:List E}{i:Nat}(h:i<os.length):(E.bw os).getD i []=[.v (.string (mk (os[i]).at)),(os[i]).sp]:=by
 have:∀(os:List E) (i:Nat) (h:i<os.length),(E.bw os).getD i []=(os[i]).im:=by
  intro os
  induction os with
  |nil=>intro i h;simp at h
  |
   cons o os ih =>
   intro i h
   cases i with
   |zero=>simp[E.bw]
   |succ i=>simpa[E.bw]using ih i (by simpa using h)
 rw[this os i h,fM]
theorem zo(os:List E){i:Nat}(h:i<os.length):sn (os.drop i)=kq (os[i]) [] []++sn (os.drop (i+1)):=by
 unfold sn;rw[aR h,List.flatMap_cons]
theorem Le(a:AV)(os:List E)(ha:LK.sl.has a/\a.elems=E.bw os)(ho:∀o,o∈os->Wf o/\o.sz<5000)(hl:os.length<100)(t:ByteArray)(p:AV)(hp:LK.sl.has p):∀(k i:Nat) (F:List Nm),i+k=os.length->F.length<=5000+5000*i ->
 GU [a,.v (.int .i64 (i:Int))] [.cells [.v (.string t),p],zE,.vec 1 (bH F)] (iG 1 [] [.cells [.v (.string t),p],zE,.vec 1 (bH (F++sn (os.drop i)))])
 |
  0,i,F,hi,hF=>by
  refine NF _ _ _ _ _ _ _ ?_
  have:i=os.length:=by omega
  subst this
  simp only[H3,↓zq,zs,ae,zt,ae,hp,bh,ha.1,ha.2,eh,List.drop_length]
  exact⟨fun h=>by omega,fun _=>by simp[iG,sn]⟩
 |
  k+1,i,F,hi,hF=>by
  have hlt:i<os.length:=by omega
  obtain⟨hw,hsz⟩:=ho _ (bD hlt)
  have hfl:=fZ (os[i]) [] []
  refine NF _ _ _ _ _ _ _ ?_
  simp only[H3,↓zq,zs,ae,zt,ae,hp,bh,ha.1,ha.2,eh,vn hlt,aL,bM]
  refine⟨fun _=>?_,fun h=>by omega⟩
  repeat refine⟨by omega,?_⟩
  have hfre:=D3 hw [] [] (.sl []) (.of []) (by simp;omega)
  refine aV hfre ?_
  simp only[↓zq,zs,ae,zt,aO,bq,Ob.es,kl,<-xy]
  rw[bA i (by omega),zo os hlt,<-bf]
  simp only[aG,aY]at hfl
  refine⟨⟨ke _,by omega⟩,?_⟩
  exact Le a os ha ho hl t p hp k (i+1) _ (by omega) (by simp;omega)
def AD(e:E)(os:List E):List Nm:=kq e [] []++sn os
def Aa(e:E)(os:List E):E:=(gU (AD e os) (cS e []) [] 0).1
theorem DO{e:E}{os:List E}(h:e.sz<=2000)(ho:∀o,o∈os->Wf o/\o.sz<=2000)(hl:os.length<=2):(AD e os).length<=6000:=by
 have h1:=fZ e [] []
 have h2:∀(l:List E),(∀o,o∈l->o.sz<=2000)->(sn l).length<=2000*l.length:=by
  intro l
  induction l with
  |nil=>intro _;simp[sn]
  |
   cons o l ih =>
   intro hl
   have:=ih fun q hq=>hl q (al _ hq)
   have:=hl o ak
   have:=fZ o [] []
   simp only[sn,List.flatMap_cons,aq,az,aG]at *
   omega
 have:=h2 os fun o ho'=>(ho o ho').2
 simp only[AD,aq,aG]at *
 omega
theorem EF{e:E}(h:Wf e)(a:AV)(os:List E)(ha:LK.sl.has a/\a.elems=E.bw os)(he:e.sz<=2000)(ho:∀o,o∈os->Wf o/\o.sz<=2000)(hl:os.length<=2) :
 an Tryz.prog 65 [.agg [.v (.string (mk e.at)),e.sp],a] [] (bJ (.agg [.v (.string (mk (Aa e os).at)),(Aa e os).sp])):=by
 refine P9 _ _ _ ((a6 _).mpr trivial) ha.1 ?_
 unfold Mn
 have hfl:=fZ e [] []
 simp only[aG,aY]at hfl
 have hap:=DO he ho hl
 have hats:(cS e []).atoms<=2000:=by
  rw[<-h.dc []]
  have:e.dc<=e.sz:=by
   clear hap hfl ha he ho hl
   induction h with
   |atom _=>simp[E.dc,E.sz]
   |plus _ _ i1 i2=>simp only[E.dc,E.eW,E.sz,E.jt];omega
   |times _ _ i1 i2=>simp only[E.dc,E.eW,E.sz,E.jt];omega
   |rc _ _ i=>simp only[E.dc,E.eW,E.sz,E.jt];omega
  omega
 have hfre:=D3 h [] [] (.sl []) (.of []) (by simp;omega)
 simp only[↓zq,zs,ae,zt]
 refine aV hfre ?_
 simp only[↓zq,zs,ae,zt,aO,bq,Ob.es]
 have hlp:=Le a os ha (fun o hq=>⟨(ho o hq).1,by have:=(ho o hq).2;omega⟩) (by omega) (mk e.at) e.sp ((a6 _).mpr trivial) os.length 0 (kq e [] []) (by omega) (by omega)
 rw[bb]at hlp
 refine cJ hlp ?_
 simp only[↓zq,zs,ae,zt,ae,aI,bh,a6,aO,bq,Ob.es]
 have hmul:((AD e os).length+1)*(cS e []).atoms<=6001*2000:=Nat.mul_le_mul (by omega) hats
 have hren:=RA (AD e os) (by omega) h [] [] (.sl []) (.sl []) 0 (.of []) (.of []) rfl (fun w hw=>by cases hw) (by simp;omega) (by omega)
 refine aV hren ?_
 simp only[↓zq,zs,ae,zt,aI,aL]
 repeat refine⟨by omega,?_⟩
 exact⟨rfl,rfl⟩
end Go.Proofs.Trees
namespace Go.Proofs.Trees
open Go Go.VL Go.RowKit
def fV(t:Ty):Prop:=jx t 0/\∀y,bn y t=true->qR y
theorem gA:∀(t:Ty) {i j:Nat},jx t i->i<=j->jx t j
 | .bound u,i,j,h,hj=>Nat.lt_of_lt_of_le h hj
 | .plus a b,i,j,h,hj=>⟨gA a h.1 hj,gA b h.2 hj⟩
 | .times a b,i,j,h,hj=>⟨gA a h.1 hj,gA b h.2 hj⟩
 | .rc a,i,j,h,hj=>gA (i:=i+1) (j:=j+1) a h (by omega)
 | .zero,_,_,_,_=>trivial
 | .one,_,_,_,_=>trivial
 | .name _,_,_,_,_=>trivial
theorem gF(x:Nm):∀(t:Ty) {i:Nat},jx t (i+1)->jx (dC (.name x) t i) i
 |
  .bound u,i,h=>by
  simp only[dC]
  split
  ·trivial
  ·have:u<i+1:=h
   show u<i;omega
 | .plus a b,i,h=>⟨gF x a h.1,gF x b h.2⟩
 | .times a b,i,h=>⟨gF x a h.1,gF x b h.2⟩
 | .rc a,i,h=>gF x (i:=i+1) a h
 | .zero,_,_=>trivial
 | .one,_,_=>trivial
 | .name _,_,_=>trivial
theorem kJ{x:Nm}{u:Ty}(hu:jx u 0):∀(t:Ty) {i:Nat},jx t i->jx (sub x u t) i
 | .name s,i,_=>by simp only[sub];split;exact gA u hu (dQ _);trivial
 | .plus a b,i,h=>⟨kJ hu a h.1,kJ hu b h.2⟩
 | .times a b,i,h=>⟨kJ hu a h.1,kJ hu b h.2⟩
 | .rc a,i,h=>kJ hu (i:=i+1) a h
 | .zero,_,_=>trivial
 | .one,_,_=>trivial
 | .bound _,_,h=>h
theorem Dv.lc{t d:Ty}{s:Nm}(h:Dv t s d):jx t 0->jx d 0:=by
 induction h with
 |zero s=>exact fun _=>trivial
 |one s=>exact fun _=>trivial
 |bound k s=>exact fun _=>trivial
 |hit s=>exact fun _=>trivial
 |qx h=>exact fun _=>trivial
 |plus h1 h2 hl i1 i2=>exact fun h=>⟨i1 h.1,i2 h.2⟩
 |times h1 h2 hl i1 i2=>exact fun h=>⟨⟨i1 h.1,h.2⟩,h.1,i2 h.2⟩
 |
  rc x hx hs h1 h2 hl i1 i2 =>
  intro h
  have g1:=kJ (x:=x) h _ (i1 (gF x _ h))
  have g2:=kJ (x:=x) h _ (i2 (gF x _ h))
  exact⟨gA _ g1 (by omega),gA _ g2 (by omega),Nat.zero_lt_one⟩
theorem Wf.qA{e:E}(h:Wf e):fV (cS e []):=⟨uf h [],fun y hy=>(nk h [] y hy).1⟩
theorem fV.dv{t d:Ty}{s:Nm}(g:fV t)(h:Dv t s d):fV d:=⟨h.lc g.1,fun y hy=>g.2 y (h.names y hy)⟩
theorem fV.tree{t:Ty}(g:fV t):∃e,Wf e/\cS e []=t:=by
 obtain⟨h1,h2,_⟩:=kG (bO t []) t [] 0 (.nil _ _) g.1 fun y hy=>⟨(eQ t [] y).2 (.inr hy),g.2 y hy⟩
 exact⟨_,h1,h2⟩
theorem fV.sub{x:Nm}{u t:Ty}(hu:fV u)(ht:fV t):fV (sub x u t):=⟨kJ hu.1 t ht.1,fun y hy=>by
 rcases jb t hy with h|h
 ·exact hu.2 y h
 ·exact ht.2 y h.2⟩
def lA(o:Option Ty):AV->List Ob->Prop:=fun r ob=>ob=[]/\∃(c:Nm) (d:AV),LK.sl.has d/\r=.cD [.agg [.v (.string (mk c)),d],.v (.bool o.isSome)]/\∀t,o=some t->∃e,Wf e/\cS e []=t/\c=e.at/\d=e.sp
theorem lA.ne{o:Option Ty}(h:∀t,o=some t->fV t):∃r ob,lA o r ob:=by
 cases o with
 |none=>exact⟨_,_,rfl,[],zi,(bh).mpr trivial,rfl,fun t h=>by cases h⟩
 |
  some t =>
  obtain⟨e,h1,h2⟩:=(h t rfl).tree
  exact⟨_,_,rfl,e.at,e.sp,(a6 _).mpr trivial,rfl,fun t' h'=>by cases h';exact⟨e,h1,h2,rfl,rfl⟩⟩
theorem lA.of{e:E}(h:Wf e):lA (some (cS e [])) (.cD [.agg [.v (.string (mk e.at)),e.sp],.v (.bool true)]) [] :=
 ⟨rfl,e.at,e.sp,(a6 _).mpr trivial,rfl,fun t h'=>by cases h';exact⟨e,h,rfl,rfl,rfl⟩⟩
theorem lA.no(c:Nm)(d:AV)(hd:LK.sl.has d):lA none (.cD [.agg [.v (.string (mk c)),d],.v (.bool false)]) [] :=
 ⟨rfl,c,d,hd,rfl,fun t h'=>by cases h'⟩
theorem gD{c:ByteArray}{d:AV}(h:LK.sl.has d):bF [.str,.sl] [.v (.string c),d] 0=True:=by simp[bF,dY,h]
theorem xk{e:E}{os:List E}(h:Wf e):Wf (Aa e os)/\cS (Aa e os) []=cS e []/\uJ (·∉AD e os) (Aa e os):=by
 obtain⟨h1,h2,_,_,h5⟩:=kG (AD e os) (cS e []) [] 0 (.nil _ _) (uf h []) fun y hy=>⟨aD _ ((lH h [] [] y).2 (.inr hy)),(nk h [] y hy).1⟩
 exact⟨h1,h2,h5⟩
theorem ss{os:List E}{o:E}(ho:o∈os)(hw:Wf o){y:Nm}(hy:bn y (cS o [])=true):y∈sn os :=
 List.mem_flatMap.2 ⟨o,ho,(lH hw [] [] y).2 (.inr hy)⟩
theorem rp{s:Nm}(hs:qR s):cS (.atom s) []=.name s:=jg hs (by simp)
theorem Lt{x:Nm}(hx:qR x){e u:E}(h:Wf e)(hu:Wf u)(hl:e.dc<=400)(hlu:u.dc<=400):∃g,Wf g/\cS g []=sub x (cS u []) (cS e [])/\an Tryz.prog 121 [.agg [.v (.string (mk e.at)),e.sp],.v (.string (mk x)),.agg [.v (.string (mk u.at)),u.sp]] [] (bJ (.agg [.v (.string (mk g.at)),g.sp])):=by
 obtain⟨w1,w2,w3⟩:=xk (os:=[u,.atom x]) h
 have hap:uJ (fun n=>n≠x/\bn n (cS u [])=false) (Aa e [u,.atom x]):=A6 (fun n hn=>⟨fun e1=>hn (by
  subst e1
  exact aB _ (ss (o:=.atom n) (by simp) (.atom hx.1) (by rw[rp hx];simp[bn]))),by
  cases q:bn n (cS u [])with
  |false=>rfl
  |true=>exact absurd (aB _ (ss (o:=u) (by simp) hu q)) hn⟩) w1 w3
 obtain⟨p1,p2⟩:=D8 hx hu w1 hap [] (by simp) (fun y hy=>by cases hy)
 refine⟨_,p1,by rw[p2,w2],?_⟩
 refine R0 _ _ _ _ _ ((a6 _).mpr trivial) ((a6 _).mpr trivial) ?_
 unfold Mj
 have s1:=h.sz
 have s2:=hu.sz
 have hA:=EF h (.sl [[.v (.string (mk u.at)),u.sp],[.v (.string (mk x)),zi]]) [u,.atom x] ⟨(cc _).mpr trivial,by simp only[fF,E.bw,fM];rfl⟩ (by omega) (fun o ho=>by
  simp only[aK,List.not_mem_nil,or_false]at ho
  rcases ho with rfl|rfl
  ·exact⟨hu,by omega⟩
  ·exact⟨.atom hx.1,by simp[E.sz]⟩) (by simp)
 refine ai hA ?_
 simp only[↓zq,zs,ae,zt,aL]
 repeat refine⟨by omega,?_⟩
 refine ai (O9 x u w1) ?_
 simp only[↓zq,zs,ae,zt,aL]
 repeat refine⟨by omega,?_⟩
 exact⟨rfl,rfl⟩
theorem Iy{x:Nm}(hx:qR x){e u:E}(h:Wf e)(hu:Wf u)(hl:e.dc<=400)(hlu:u.dc<=400):an Tryz.prog 123 [.agg [.v (.string (mk e.at)),e.sp],.v (.string (mk x)),.agg [.v (.string (mk u.at)),u.sp]] [] (lA (nE (sub x (cS u []) (cS e [])))):=by
 refine PM _ _ _ _ _ ((a6 _).mpr trivial) ((a6 _).mpr trivial) ?_
 unfold Ke
 refine ai (KX hx h hu (by omega) (by omega)) ?_
 simp only[↓zq,zs,ae,zt]
 refine⟨fun hn=>?_,fun hy=>?_⟩
 ·rw[show nE (sub x (cS u []) (cS e []))=none by unfold nE;rw[if_neg hn]]
  exact lA.no _ _ ((a6 _).mpr trivial)
 ·rw[show nE (sub x (cS u []) (cS e []))=some (sub x (cS u []) (cS e [])) by unfold nE;rw[if_pos hy]]
  obtain⟨g,g1,g2,g3⟩:=Lt hx h hu hl hlu
  refine ai g3 ?_
  simp only[↓zq,zs,ae,zt,aL]
  repeat refine⟨by omega,?_⟩
  rw[<-g2]
  exact lA.of g1
end Go.Proofs.Trees
namespace Go.Proofs.Trees
open Go Go.VL Go.RowKit
def qo(l:List UInt8):List (List AV):=l.map fun(x:UInt8)=>[.v (.int .u8 (x.toNat:Int))]
structure sB(b:AV)(l:List UInt8):Prop where
 has:LK.sl.has b
 el:b.elems=qo l
 len:l.length<=2000
theorem sB.ln{b:AV}{l:List UInt8}(h:sB b l):b.elems.length=l.length:=by rw[h.el];simp[qo]
theorem sB.get{b:AV}{l:List UInt8}(h:sB b l){i:Nat}(hi:i<l.length):b.elems.getD i []=[.v (.int .u8 ((l[i]).toNat:Int))]:=by rw[h.el];simp[qo,aa,hi]
def eV(b:AV)(p c:Nat)(X:AV->Prop):AV->List Ob->Prop:=fun r o=>∃q:Nat,p<=q/\q<=p+c/\X r/\o=[.cells [b,.v (.int .i64 (q:Int))]]
theorem eV.ne{b:AV}{p c:Nat}{X:AV->Prop}{r:AV}(h:X r):∃r o,eV b p c X r o:=⟨r,_,p,au _,db _ _,h,rfl⟩
theorem Ec{a b:Int}(ha:0<=a)(hb:0<=b)(ha':a<9223372036854775808)(hb':b<9223372036854775808):∃W:Nat,Ct .i64 a b=(W:Int):=by
 obtain⟨x,rfl⟩:∃x:Nat,a=(x:Int):=⟨a.toNat,by omega⟩
 obtain⟨y,rfl⟩:∃y:Nat,b=(y:Int):=⟨b.toNat,by omega⟩
 have e1:(BitVec.ofInt 64 (x:Int)).toNat=x:=by simp;omega
 have e2:(BitVec.ofInt 64 (y:Int)).toNat=y:=by simp;omega
 have hlt:x ^^^ y<2 ^ 63:=Nat.xor_lt_two_pow (by omega) (by omega)
 refine⟨x ^^^ y,?_⟩
 unfold Ct
 have e3:(BitVec.ofInt (IntKind.bits .i64) (x:Int) ^^^ BitVec.ofInt (IntKind.bits .i64) (y:Int)).toNat=x ^^^ y:=by
  show (BitVec.ofInt 64 (x:Int) ^^^ BitVec.ofInt 64 (y:Int)).toNat=_
  rw[BitVec.toNat_xor,e1,e2]
 rw[e3,VL.wrap64]<;>omega
theorem yK(a b:Nat):Int.tdiv (a:Int) (b:Int)=((a/b:Nat):Int):=(Int.ofNat_tdiv a b).symm
theorem qM(a b:Nat):dH (a:Int) (b:Int)=((a%b:Nat):Int):=(Int.ofNat_tmod a b).symm
theorem vM(n:Nat)(h:n<9223372036854775808):IntKind.wrap .i64 (n:Int)=(n:Int):=VL.wrap64 _ (by omega) (by omega)
def isNum(n:Nat):AV->Prop:=fun r=>∃k:Nat,r=.v (.int .i64 (k:Int))/\(1<=n->k<n)/\k<=n
abbrev p6:Nat:=1000000000000000
theorem u4(b:AV)(l:List UInt8)(hb:sB b l)(p n:Nat)(hp:p<2*p6)(hn:n<p6):an Tryz.prog 43 [.ref 0 0,.v (.int .i64 (n:Int))] [.cells [b,.v (.int .i64 (p:Int))]] (eV b p 1 (isNum n)):=by
 refine PY _ _ _ hb.has ?_
 have e1:IntKind.wrap .i64 ((p:Int)+1)=((p+1:Nat):Int):=by rw[VL.wrap64]<;>simp[p6]at hp<;>omega
 have e2:IntKind.wrap .i64 (((p+1:Nat):Int)-1)=(p:Int):=by rw[VL.wrap64]<;>simp[p6]at hp<;>omega
 have fin:∀k:Nat,(1<=n->k<n)->k<=n->eV b p 1 (isNum n) (.v (.int .i64 (k:Int))) [.cells [b,.v (.int .i64 ((p+1:Nat):Int))]]:=fun k h h'=>⟨p+1,by omega,au _,⟨k,rfl,h,h'⟩,rfl⟩
 simp only[Km,↓zq,zs,ae,e1,e2,hb.ln,yK,qM]
 refine⟨fun h=>fin 0 (fun h'=>by omega) (dQ _),fun h=>⟨hb.has,fun h0=>fin 0 (fun h'=>by omega) (dQ _),fun h0=>?_⟩⟩
 have hl:0<l.length:=by omega
 have hll:=hb.len
 refine⟨hb.has,fun hlt=>?_,fun hge=>?_⟩
 ·have hlt:p<l.length:=by omega
  have hx:=(l[p]).toNat_lt
  simp only[bM,hb.get hlt,hb.has,↓zq,zs,ae]
  rw[vM _ (by omega),qM]
  have:=fin ((l[p]).toNat%n) (fun h'=>Nat.mod_lt _ (by omega)) (Nat.le_of_lt (Nat.mod_lt _ (by omega)))
  repeat (first|exact this|refine⟨by omega,?_⟩)
 ·have h1:p%l.length<l.length:=Nat.mod_lt _ hl
  have e3:IntKind.wrap .i64 ((p:Int)*7)=((p*7:Nat):Int):=by rw[VL.wrap64]<;>simp[p6]at hp<;>omega
  have e4:IntKind.wrap .i64 (((p*7:Nat):Int)+3)=((p*7+3:Nat):Int):=by rw[VL.wrap64]<;>simp[p6]at hp<;>omega
  have h2:(p*7+3)%l.length<l.length:=Nat.mod_lt _ hl
  have hx:=(l[p%l.length]).toNat_lt
  have hy:=(l[(p*7+3)%l.length]).toNat_lt
  have hq:p/l.length<=p:=Nat.div_le_self _ _
  simp only[e3,e4,qM,bM,hb.get h1,hb.get h2,hb.has,↓zq,zs,ae]
  generalize hxx:(l[p%l.length]).toNat=x at hx |-
  generalize hyy:(l[(p*7+3)%l.length]).toNat=y at hy |-
  generalize hqq:p/l.length=q at hq |-
  have f1:IntKind.wrap .i64 ((x:Int))=(x:Int):=vM _ (by omega)
  have f2:IntKind.wrap .i64 ((y:Int))=(y:Int):=vM _ (by omega)
  have f3:IntKind.wrap .i64 ((x:Int)*131)=((x*131:Nat):Int):=by rw[VL.wrap64]<;>omega
  have f4:IntKind.wrap .i64 ((y:Int)*1117)=((y*1117:Nat):Int):=by rw[VL.wrap64]<;>omega
  have f5:IntKind.wrap .i64 (((x*131:Nat):Int)+((y*1117:Nat):Int))=((x*131+y*1117:Nat):Int):=by rw[VL.wrap64]<;>omega
  have f6:IntKind.wrap .i64 ((p:Int)*29)=((p*29:Nat):Int):=by rw[VL.wrap64]<;>simp[p6]at hp<;>omega
  have f7:IntKind.wrap .i64 (((x*131+y*1117:Nat):Int)+((p*29:Nat):Int))=((x*131+y*1117+p*29:Nat):Int):=by rw[VL.wrap64]<;>simp[p6]at hp<;>omega
  have f8:IntKind.wrap .i64 ((q:Int))=(q:Int):=vM _ (by simp[p6]at hp;omega)
  have f9:IntKind.wrap .i64 ((q:Int)*53)=((q*53:Nat):Int):=by rw[VL.wrap64]<;>simp[p6]at hp<;>omega
  have f10:IntKind.wrap .i64 (((x*131+y*1117+p*29:Nat):Int)+((q*53:Nat):Int))=((x*131+y*1117+p*29+q*53:Nat):Int):=by rw[VL.wrap64]<;>simp[p6]at hp<;>omega
  simp only[f1,f2,f3,f4,f5,f6,f7,f8,f9,f10]
  generalize hV:x*131+y*1117+p*29+q*53=V
  have hVl:V<1000000000000000000:=by simp[p6]at hp;omega
  have f11:IntKind.wrap .i64 (Int.tdiv (V:Int) 64)=((V/64:Nat):Int):=by
   have:Int.tdiv (V:Int) 64=((V/64:Nat):Int):=yK V 64
   rw[this,vM _ (by omega)]
  rw[f11]
  obtain⟨W,hW⟩:=Ec (a:=(V:Int)) (b:=((V/64:Nat):Int)) (by omega) (by omega) (by omega) (by omega)
  rw[hW,qM]
  have:=fin (W%n) (fun h'=>Nat.mod_lt _ (by omega)) (Nat.le_of_lt (Nat.mod_lt _ (by omega)))
  repeat (first|exact this|refine⟨by omega,?_⟩)
def kN(L:List (List UInt8)):AV->Prop:=fun r=>∃s,s∈L/\r=.v (.string (mk s))
theorem C0(b:AV)(l:List UInt8)(hb:sB b l)(p:Nat)(hp:p<2*p6)(L:List (List UInt8))(a:AV)(ha:cm a L)(hL:0<L.length)(hLl:L.length<1000000):an Tryz.prog 62 [.ref 0 0,a] [.cells [b,.v (.int .i64 (p:Int))]] (eV b p 1 (kN L)):=by
 refine O5 _ _ _ ha.1 hb.has ?_
 unfold Jz
 simp only[↓zq,zs,ae,ha.len]
 refine⟨ha.1,?_⟩
 have hpk:=u4 b l hb p L.length hp (by simp[p6];omega)
 refine aP hpk (eV.ne ⟨0,rfl,fun h=>h,dQ _⟩) ?_
 rintro r o ⟨q,h1,h2,⟨k,rfl,h3,h4⟩,rfl⟩
 have hk:=h3 hL
 simp only[↓zq,zs,ae,zt,aI,hb.has,ha.idx hk,bM]
 refine⟨⟨ha.1,by omega⟩,?_⟩
 have:eV b p 1 (kN L) (.v (.string (mk (L.getD k [])))) [.cells [b,.v (.int .i64 (q:Int))]]:=⟨q,h1,h2,⟨_,by simp[aa,hk],rfl⟩,rfl⟩
 repeat (first|exact this|refine⟨by omega,?_⟩)
def gu(n:Nat):AV->Prop:=fun r=>∃s:List UInt8,r=.v (.string (mk s))/\s.length<=n
theorem kN.cw{L:List (List UInt8)}{n:Nat}(h:∀s,s∈L->s.length<=n){r:AV}(hr:kN L r):gu n r:=by
 obtain⟨s,h1,h2⟩:=hr;exact⟨s,h2,h s h1⟩
end Go.Proofs.Trees
namespace Go.Proofs.Trees
open Go Go.VL Go.RowKit
def j8:AV->List Ob->Prop:=fun r o=>o=[]/\∃b:Bool,r=.v (.bool b)
theorem j8.ne:∃r o,j8 r o:=⟨_,_,rfl,true,rfl⟩
theorem j8.mk(b:Bool):j8 (.v (.bool b)) []:=⟨rfl,b,rfl⟩
theorem j8.call{n:Nat}{f:Nat}{xs:List AV}{k:AV->List Ob->Tree}{Q:Nat->List AV->List Ob->Prop}(h:an Tryz.prog f xs [] j8)(hk:∀b:Bool,eZ Tryz.prog n (k (.v (.bool b)) []) Q):eZ Tryz.prog n (.call f xs [] k) Q :=
 aP h j8.ne (by rintro r o ⟨rfl,b,rfl⟩;exact hk b)
theorem ML{e:E}(h:Wf e):∀(l:List Nm) (a:AV),cm a l->l.length+e.sz<100000->an Tryz.prog 87 [.agg [.v (.string (mk e.at)),e.sp],a] [] j8:=by
 induction h with
 |
  @atom s hs =>
  intro l a ha hl
  simp only[E.sz]at hl
  refine DB _ _ _ ((a6 _).mpr trivial) ha.1 ?_
  simp only[A2,dT,↓zq,zs,ae]
  refine ai (zY s _ ((a6 (.atom s)).mpr trivial) hs) ?_
  simp only[↓zq,zs,ae,zt,ha.1]
  refine⟨fun h=>(by cases h),fun _=>⟨fun h=>(by cases h),fun _=>⟨fun h=>(by cases h),fun _=>⟨fun _=>.mk true,fun _=>?_⟩⟩⟩⟩
  refine ai (FN l a ha s (by omega)) ?_
  simp only[↓zq,zs,ae]
  exact .mk _
 |
  @plus x y hx hy i1 i2 =>
  intro l a ha hl
  simp only[E.sz,E.jt]at hl
  refine DB _ _ _ ((a6 _).mpr trivial) ha.1 ?_
  have hP:=P3.of (.atom [43]) x y
  simp only[A2,bL,toNat_one,bg,↓zq,zs,ae,zt,hP.1,hP.2.1,hP.2.2.1,hP.2.2.2,aL]
  refine ai (od [43] x y) ?_
  simp only[↓zq,zs,ae,zt,ha.1,aL]
  refine⟨fun _=>⟨by omega,by omega,j8.call (i1 l a ha (by omega)) fun b=>?_⟩,fun h=>absurd rfl h⟩
  simp only[↓zq,zs,ae]
  refine⟨fun _=>⟨by omega,by omega,j8.call (i2 l a ha (by omega)) fun b=>?_⟩,fun _=>.mk _⟩
  simp only[↓zq,zs,ae]
  exact .mk _
 |
  @times x y hx hy i1 i2 =>
  intro l a ha hl
  simp only[E.sz,E.jt]at hl
  refine DB _ _ _ ((a6 _).mpr trivial) ha.1 ?_
  have hP:=P3.of (.atom [42]) x y
  simp only[A2,bL,toNat_one,bg,↓zq,zs,ae,zt,hP.1,hP.2.1,hP.2.2.1,hP.2.2.2,aL]
  refine ai (od [42] x y) ?_
  simp only[↓zq,zs,ae,zt,ha.1,aL]
  refine⟨fun h=>(by cases h),fun _=>⟨fun _=>⟨by omega,by omega,j8.call (i1 l a ha (by omega)) fun b=>?_⟩,fun h=>absurd rfl h⟩⟩
  simp only[↓zq,zs,ae]
  refine⟨fun _=>.mk _,fun _=>⟨by omega,by omega,j8.call (i2 l a ha (by omega)) fun b=>?_⟩⟩
  simp only[↓zq,zs,ae]
  exact .mk _
 |
  @rc n b hn hb i =>
  intro l a ha hl
  simp only[E.sz,E.jt]at hl
  refine DB _ _ _ ((a6 _).mpr trivial) ha.1 ?_
  have hP:=P3.of (.atom dG) (.atom n) b
  simp only[A2,bL,toNat_one,bg,↓zq,zs,ae,zt,hP.1,hP.2.1,hP.2.2.1,hP.2.2.2,aL]
  refine ai (od dG (.atom n) b) ?_
  simp only[↓zq,zs,ae,zt,ha.1,aL]
  refine⟨fun h=>(by cases h),fun _=>⟨fun h=>(by cases h),fun _=>⟨fun _=>⟨by omega,by omega,by omega,by omega,?_⟩,fun h=>absurd rfl h⟩⟩⟩
  refine aV (wI l a ha n (by omega)) ?_
  simp only[↓zq,zs,ae,zt,Ob.es,aO]
  refine⟨dx _,?_⟩
  refine j8.call (i (l++[n]) _ (.of _) (by simp;omega)) fun b=>?_
  simp only[↓zq,zs,ae]
  exact .mk _
def Sy:AV->List Ob->Prop:=fun r o=>o=[]/\∃(g:E) (b:Bool),r=.cD [.agg [.v (.string (mk g.at)),g.sp],.v (.bool b)]/\Wf g/\g.dc<=400
theorem QQ{n:Nm}{b:E}(hn:qR n)(hb:Wf b)(hl:(E.list [.atom dG,.atom n,b]).dc<=400):an Tryz.prog 89 [.agg [.v (.string (mk [])),(E.list [.atom dG,.atom n,b]).sp]] [] Sy:=by
 have hw:Wf (.list [.atom dG,.atom n,b]):=.rc hn hb
 refine SC _ _ ((a6 _).mpr trivial) ?_
 have hP:=P3.of (.atom dG) (.atom n) b
 have hbl:b.dc<=400:=by simp only[E.dc,E.eW]at hl;omega
 simp only[Kr,toNat_one,bg,↓zq,zs,ae,zt,hP.1,hP.2.1,hP.2.2.1,hP.2.2.2,aL]
 refine⟨by omega,by omega,by omega,by omega,?_⟩
 have hf:=KX hn hb hw (by omega) (by omega)
 obtain⟨g,g1,g2,g3⟩:=Lt hn hb hw hbl hl
 simp only[bL]at hf g3
 refine ai hf ?_
 simp only[↓zq,zs,ae,zt,aL]
 refine⟨fun h=>⟨rfl,_,false,rfl,hw,hl⟩,fun h=>?_⟩
 repeat refine⟨by omega,?_⟩
 refine ai g3 ?_
 simp only[↓zq,zs,ae,zt,aL]
 refine⟨rfl,g,true,rfl,g1,?_⟩
 rw[g1.dc [],g2]
 simpa using h
end Go.Proofs.Trees
namespace Go.Proofs.Trees
open Go Go.VL Go.RowKit
def jQ(n:Nat):AV->Prop:=fun r=>∃e:E,r=.agg [.v (.string (mk e.at)),e.sp]/\e.ok/\(e9 e).length<=n
theorem jQ.u(n:Nat)(h:1<=n):jQ n (.agg [.v (.string (mk [117])),.v (.slice none 0 0)]):=⟨.atom [117],rfl,by simp[E.ok],by simpa[e9]using h⟩
def jO(b:AV)(d:Int)(e:E)(B C:Nat):Prop:=∀p:Nat,p+C<p6->an Tryz.prog 64 [.ref 0 0,.agg [.v (.string (mk e.at)),e.sp],.v (.int .i64 d)] [.cells [b,.v (.int .i64 (p:Int))]] (eV b p C (jQ B))
theorem jO.mono{b:AV}{d:Int}{e:E}{B C B' C':Nat}(h:jO b d e B C)(hB:B<=B')(hC:C<=C'):jO b d e B' C':=fun p hp=>an.mono (h p (by omega)) fun r o ⟨q,h1,h2,⟨g,h3,h4,h5⟩,h6⟩=>⟨q,h1,by omega,⟨g,h3,h4,by omega⟩,h6⟩
theorem pq(b:AV)(p C B:Nat)(h:1<=B):∃r o,eV b p C (jQ B) r o:=eV.ne (jQ.u B h)
theorem SR(w:Nm)(e:E)(h:w.length=1):(e9 (.list [.atom w,e])).length=(e9 e).length+4:=by
 simp[e9,ej];omega
theorem S0(w:Nm)(e f:E)(h:w.length=1):(e9 (.list [.atom w,e,f])).length=(e9 e).length+(e9 f).length+5:=by
 simp[e9,ej];omega
theorem Mw{b:AV}{p q q' C B:Nat}{w:Nm}{e:E}(hw:w.length=1)(h1:p<=q)(h2:q<=p+1)(h3:q<=q')(h4:q'<=q+C)(ho:e.ok)(hl:(e9 e).length<=B) :
 eV b p (C+1) (jQ (B+5)) (.agg [.v (.string (mk [])),(E.list [.atom w,e]).sp]) [.cells [b,.v (.int .i64 (q':Int))]] :=
 ⟨q',by omega,by omega,⟨.list [.atom w,e],rfl,⟨by intro h;rw[h]at hw;simp at hw,ho,trivial⟩,by rw[SR w e hw];omega⟩,rfl⟩
theorem JF(b:AV)(l:List UInt8)(hb:sB b l)(d:Int){s:Nm}(hs:s≠[]):jO b d (.atom s) 5 1:=by
 intro p hp
 refine DT _ _ _ _ _ ((a6 (.atom s)).mpr trivial) hb.has ?_
 simp only[A4,dT,↓zq,zs,ae]
 refine ai (zY s _ ((a6 (.atom s)).mpr trivial) hs) ?_
 simp only[↓zq,zs,ae,zt]
 refine⟨fun h=>(by cases h),fun _=>⟨fun h=>(by cases h),fun _=>⟨fun h=>(by cases h),fun _=>⟨fun _=>?_,fun _=>?_⟩⟩⟩⟩
 ·exact⟨p,au _,by omega,jQ.u 5 (by omega),rfl⟩
 ·refine aP (u4 b l hb p 3 (by omega) (by decide)) (eV.ne ⟨0,rfl,fun h=>by omega,by omega⟩) ?_
  rintro r o ⟨q,h1,h2,⟨k,rfl,h3,h4⟩,rfl⟩
  have hk:k<3:=h3 (by omega)
  simp only[↓zq,zs,ae,aI,hb.has]
  refine ai (Ao (k+1) k (by omega) (by omega)) ?_
  have hd:dd k=[bj (48+k)]:=eI (by omega)
  simp only[↓zq,zs,ae,zt,hd]
  refine⟨by simp,q,h1,h2,⟨.atom ([101]++[bj (48+k)]),rfl,by simp[E.ok],by simp[e9]⟩,rfl⟩
theorem LF(b:AV)(l:List UInt8)(hb:sB b l)(d:Int)(hd:-100000<=d/\d<=100000){n:Nm}{e:E}(hn:qR n)(he:Wf e)(hl:(E.list [.atom dG,.atom n,e]).dc<=400)(B C:Nat)(ih:-12<=d->∀g,Wf g->g.dc<=400->jO b (d-1) g B C)(hB:1<=B):jO b d (.list [.atom dG,.atom n,e]) (B+5) (C+1):=by
 intro p hp
 refine DT _ _ _ _ _ ((a6 _).mpr trivial) hb.has ?_
 have ed:IntKind.wrap .i64 (d-1)=d-1:=VL.wrap64 _ (by omega) (by omega)
 simp only[A4,bL,↓zq,zs,ae,ed]
 refine ai (od dG (.atom n) e) ?_
 simp only[↓zq,zs,ae,zt]
 have hu:=QQ hn he hl
 refine⟨fun h=>(by cases h),fun _=>⟨fun h=>(by cases h),fun _=>⟨fun _=>?_,fun h=>absurd rfl h⟩⟩⟩
 refine aP hu ⟨_,_,rfl,.atom [117],true,rfl,.atom (by simp),by simp[E.dc]⟩ ?_
 rintro r o ⟨rfl,g,c,rfl,g1,g2⟩
 have u:eV b p (C+1) (jQ (B+5)) (.agg [.v (.string (mk [117])),.v (.slice none 0 0)]) [.cells [b,.v (.int .i64 (p:Int))]]:=⟨p,au _,by omega,jQ.u _ (by omega),rfl⟩
 simp only[↓zq,zs,ae,zt,aL]
 refine⟨fun _=>u,fun _=>⟨fun _=>u,fun hd2=>?_⟩⟩
 refine aP (ih (by omega) g g1 g2 p (by omega)) (pq b p C B hB) ?_
 rintro r o ⟨q,h1,h2,⟨f,rfl,h4,h5⟩,rfl⟩
 simp only[↓zq,zs,ae,zt,aI,hb.has,aL]
 repeat refine⟨by omega,?_⟩
 refine ai (xd [102] f) ?_
 simp only[↓zq,zs,ae,zt,aI,hb.has,aL]
 have fin:=Mw (b:=b) (w:=[102]) rfl (au p) (by omega) h1 h2 h4 h5
 first|exact fin|exact⟨by omega,fin⟩
theorem IP(b:AV)(l:List UInt8)(hb:sB b l)(d:Int)(hd:-100000<=d/\d<=100000){x y:E}(hx:Wf x)(hy:Wf y)(B1 C1 B2 C2:Nat)(ix:jO b (d-1) x B1 C1)(iy:jO b (d-1) y B2 C2)(hB:1<=B1)(hB2:1<=B2):jO b d (.list [.atom [42],x,y]) (B1+B2+5) (C1+C2+1):=by
 intro p hp
 refine DT _ _ _ _ _ ((a6 _).mpr trivial) hb.has ?_
 have ed:IntKind.wrap .i64 (d-1)=d-1:=VL.wrap64 _ (by omega) (by omega)
 have hP:=P3.of (.atom [42]) x y
 simp only[A4,bL,toNat_one,bg,↓zq,zs,ae,zt,hP.1,hP.2.1,hP.2.2.1,hP.2.2.2,aL,ed]
 refine ai (od [42] x y) ?_
 simp only[↓zq,zs,ae,zt]
 refine⟨fun h=>(by cases h),fun _=>⟨fun _=>?_,fun h=>absurd rfl h⟩⟩
 refine⟨by omega,by omega,aP (ix p (by omega)) (pq b p C1 B1 hB) ?_⟩
 rintro r o ⟨q,h1,h2,⟨f,rfl,h4,h5⟩,rfl⟩
 simp only[↓zq,zs,ae,zt,aI,hb.has,aL]
 repeat refine⟨by omega,?_⟩
 refine aP (iy q (by omega)) (pq b q C2 B2 hB2) ?_
 rintro r o ⟨q',g1,g2,⟨g,rfl,g4,g5⟩,rfl⟩
 simp only[↓zq,zs,ae,zt,aI,hb.has,aL]
 repeat refine⟨by omega,?_⟩
 refine ai (xz [112] f g) ?_
 simp only[↓zq,zs,ae,zt,aI,hb.has,aL]
 have fin:eV b p (C1+C2+1) (jQ (B1+B2+5)) (.agg [.v (.string (mk [])),(E.list [.atom [112],f,g]).sp]) [.cells [b,.v (.int .i64 (q':Int))]]:=⟨q',by omega,by omega,⟨.list [.atom [112],f,g],rfl,⟨by simp[E.ok],h4,g4,trivial⟩,by rw[S0 [112] f g rfl];omega⟩,rfl⟩
 first|exact fin|exact⟨by omega,fin⟩
theorem J0(b:AV)(l:List UInt8)(hb:sB b l)(d:Int)(hd:-100000<=d/\d<=100000){x y:E}(hx:Wf x)(hy:Wf y)(hl:(E.list [.atom [43],x,y]).dc<=400)(B C:Nat)(ix:jO b (d-1) x B C)(iy:jO b (d-1) y B C)(hB:1<=B):jO b d (.list [.atom [43],x,y]) (B+5) (C+1):=by
 intro p hp
 refine DT _ _ _ _ _ ((a6 _).mpr trivial) hb.has ?_
 have ed:IntKind.wrap .i64 (d-1)=d-1:=VL.wrap64 _ (by omega) (by omega)
 have hP:=P3.of (.atom [43]) x y
 simp only[E.dc,E.eW]at hl
 have s1:=hx.sz
 have s2:=hy.sz
 simp only[A4,bL,toNat_one,bg,↓zq,zs,ae,zt,hP.1,hP.2.1,hP.2.2.1,hP.2.2.2,aL,ed]
 refine ai (od [43] x y) ?_
 simp only[↓zq,zs,ae,zt]
 refine⟨fun _=>?_,fun h=>absurd rfl h⟩
 refine aP (u4 b l hb p 2 (by omega) (by decide)) (eV.ne ⟨0,rfl,fun h=>by omega,by omega⟩) ?_
 rintro r o ⟨q,h1,h2,⟨k,rfl,_,_⟩,rfl⟩
 simp only[↓zq,zs,ae,zt,aI,hb.has,aL]
 have ex:=ML hx [] (.sl []) (.of []) (by simp;omega)
 have ey:=ML hy [] (.sl []) (.of []) (by simp;omega)
 have ax:=DZ x hx.ok (by omega)
 have ay:=DZ y hy.ok (by omega)
 rw[dj]at ax ay
 have lx:=ix q (by omega)
 have ly:=iy q (by omega)
 have t:=pq b q C B hB
 have leaf:∀(w:Nm) (q':Nat) (f:E),w.length=1->q<=q'->q'<=q+C->f.ok->(e9 f).length<=B->eV b p (C+1) (jQ (B+5)) (.agg [.v (.string (mk [])),(E.list [.atom w,f]).sp]) [.cells [b,.v (.int .i64 (q':Int))]]:=fun w q' f hw g1 g2 h4 h5=>Mw hw h1 h2 g1 g2 h4 h5
 repeat' first
  |intro _
  |refine⟨by omega,?_⟩
  |(
   with_reducible refine aP lx t ?_
   rintro r o ⟨q',g1,g2,⟨f,rfl,h4,h5⟩,rfl⟩
   simp only[↓zq,zs,ae,zt,aI,hb.has,aL]
   repeat refine⟨by omega,?_⟩
   refine ai (xd _ f) ?_
   simp only[↓zq,zs,ae,zt,aI,hb.has,aL]
   have fin:=leaf [108] q' f rfl g1 g2 h4 h5
   first|exact fin|exact⟨by omega,fin⟩)
  |(
   with_reducible refine aP ly t ?_
   rintro r o ⟨q',g1,g2,⟨f,rfl,h4,h5⟩,rfl⟩
   simp only[↓zq,zs,ae,zt,aI,hb.has,aL]
   repeat refine⟨by omega,?_⟩
   refine ai (xd _ f) ?_
   simp only[↓zq,zs,ae,zt,aI,hb.has,aL]
   have fin:=leaf [114] q' f rfl g1 g2 h4 h5
   first|exact fin|exact⟨by omega,fin⟩)
  |(with_reducible refine j8.call ex fun _=>?_;simp only[↓zq,zs,ae,zt,aL])
  |(with_reducible refine j8.call ey fun _=>?_;simp only[↓zq,zs,ae,zt,aL])
  |(with_reducible refine ai ax ?_;simp only[↓zq,zs,ae,zt,aL])
  |(with_reducible refine ai ay ?_;simp only[↓zq,zs,ae,zt,aL])
  |with_reducible refine aH ?_ ?_
  |(exfalso;omega)
end Go.Proofs.Trees
namespace Go.Proofs.Trees
open Go Go.VL Go.RowKit
def nv:Nat->Nat
 |0=>2
 |d+1=>2*nv d+15
def nB:Nat->Nat
 |0=>3
 |d+1=>2*nB d+8
theorem Rt(d:Nat):2<=nv d:=by cases d<;>simp only[nv]<;>omega
theorem P7(d:Nat):3<=nB d:=by cases d<;>simp only[nB]<;>omega
theorem Gy:∀d:Nat,d<=10->nv d<=100000000
 |0,_=>by decide
 |1,_=>by decide
 |2,_=>by decide
 |3,_=>by decide
 |4,_=>by decide
 |5,_=>by decide
 |6,_=>by decide
 |7,_=>by decide
 |8,_=>by decide
 |9,_=>by decide
 |10,_=>by decide
 |d+11,h=>by omega
theorem BG(b:AV)(l:List UInt8)(hb:sB b l)(p:Nat)(hp:p<2*p6):an Tryz.prog 75 [.ref 0 0] [.cells [b,.v (.int .i64 (p:Int))]] (eV b p 1 (gu 60)):=by
 refine Qo _ _ hb.has ?_
 unfold Nj
 refine aP (C0 b l hb p hp _ _ (.of [_,_,_,_,_,_,_]) (by simp) (by simp)) (eV.ne ⟨_,ak,rfl⟩) ?_
 rintro r o ⟨q,h1,h2,hr,rfl⟩
 obtain⟨s,rfl,hs⟩:=kN.cw (n:=60) (by decide) hr
 simp only[↓zq,zs,ae,aI,hb.has]
 exact⟨q,h1,h2,⟨s,rfl,hs⟩,rfl⟩
theorem Ga(b:AV)(l:List UInt8)(hb:sB b l):∀(d:Nat),d<=10->∀(p:Nat) (ls:List (List UInt8)) (a:AV),cm a ls->(∀s,s∈ls->s.length<=2)->ls.length+d<=100->p+nB d<2*p6 ->
 an Tryz.prog 144 [.ref 0 0,a,.v (.int .i64 (d:Int))] [.cells [b,.v (.int .i64 (p:Int))]] (eV b p (nB d) (gu (nv d))):=by
 intro d
 induction d with
 |
  zero =>
  intro hd p ls a ha hls hll hp
  simp only[nB]at hp
  refine Jj _ _ _ _ ha.1 hb.has ?_
  simp only[G5,↓zq,zs,ae,ha.len]
  refine⟨fun _=>⟨ha.1,fun hpos=>?_,fun _=>?_⟩,fun h=>by omega⟩
  ·refine aP (u4 b l hb p 3 (by omega) (by decide)) (eV.ne ⟨0,rfl,fun h=>by omega,by omega⟩) ?_
   rintro r o ⟨q1,h1,h2,⟨k,rfl,h3,h4⟩,rfl⟩
   simp only[↓zq,zs,ae,aI,hb.has]
   refine⟨fun _=>⟨ha.1,?_⟩,fun _=>?_⟩
   ·refine aP (u4 b l hb q1 ls.length (by omega) (by simp[p6];omega)) (eV.ne ⟨0,rfl,fun h=>by omega,by omega⟩) ?_
    rintro r o ⟨q2,g1,g2,⟨k2,rfl,g3,g4⟩,rfl⟩
    have hk:=g3 (by omega)
    simp only[↓zq,zs,ae,aI,hb.has,bM,ha.idx hk]
    have:eV b p (nB 0) (gu (nv 0)) (.v (.string (mk (ls.getD k2 [])))) [.cells [b,.v (.int .i64 (q2:Int))]]:=⟨q2,by omega,by simp only[nB];omega,⟨_,rfl,by
     have:=hls (ls.getD k2 []) (by simp[aa,hk]);simp only[nv];omega⟩,rfl⟩
    refine⟨⟨ha.1,by omega⟩,?_⟩
    repeat (first|exact this|refine⟨by omega,?_⟩)
   ·refine aP (C0 b l hb q1 (by omega) _ _ (.of [_,_,_,_,_,_]) (by simp) (by simp)) (eV.ne ⟨_,ak,rfl⟩) ?_
    rintro r o ⟨q2,g1,g2,hr,rfl⟩
    obtain⟨s,rfl,hs⟩:=kN.cw (n:=2) (by decide) hr
    simp only[↓zq,zs,ae,aI,hb.has]
    exact⟨q2,by omega,by simp only[nB];omega,⟨s,rfl,by simp only[nv];omega⟩,rfl⟩
  ·refine aP (C0 b l hb p (by omega) _ _ (.of [_,_,_,_,_,_]) (by simp) (by simp)) (eV.ne ⟨_,ak,rfl⟩) ?_
   rintro r o ⟨q2,g1,g2,hr,rfl⟩
   obtain⟨s,rfl,hs⟩:=kN.cw (n:=2) (by decide) hr
   simp only[↓zq,zs,ae,aI,hb.has]
   exact⟨q2,by omega,by simp only[nB];omega,⟨s,rfl,by simp only[nv];omega⟩,rfl⟩
 |
  succ d ih =>
  intro hd p ls a ha hls hll hp
  simp only[nB]at hp
  have hL:=Rt d
  have hC:=P7 d
  have ih:=ih (by omega)
  have hL8:=Gy d (by omega)
  have ed:IntKind.wrap .i64 (((d+1:Nat):Int)-1)=(d:Int):=by rw[VL.wrap64]<;>omega
  refine Jj _ _ _ _ ha.1 hb.has ?_
  simp only[G5,↓zq,zs,ae,ha.len,ed]
  refine⟨fun h=>by omega,fun _=>?_⟩
  refine aP (u4 b l hb p 4 (by omega) (by decide)) (eV.ne ⟨0,rfl,fun h=>by omega,by omega⟩) ?_
  rintro r o ⟨q0,a1,a2,⟨k0,rfl,_,_⟩,rfl⟩
  simp only[↓zq,zs,ae,aI,hb.has]
  refine⟨fun _=>⟨ha.1,fun hpos=>?_,fun _=>?_⟩,fun _=>?_⟩
  ·refine aP (u4 b l hb q0 3 (by omega) (by decide)) (eV.ne ⟨0,rfl,fun h=>by omega,by omega⟩) ?_
   rintro r o ⟨q1,h1,h2,⟨k,rfl,h3,h4⟩,rfl⟩
   simp only[↓zq,zs,ae,aI,hb.has]
   refine⟨fun _=>⟨ha.1,?_⟩,fun _=>?_⟩
   ·refine aP (u4 b l hb q1 ls.length (by omega) (by simp[p6];omega)) (eV.ne ⟨0,rfl,fun h=>by omega,by omega⟩) ?_
    rintro r o ⟨q2,g1,g2,⟨k2,rfl,g3,g4⟩,rfl⟩
    have hk:=g3 (by omega)
    simp only[↓zq,zs,ae,aI,hb.has,bM,ha.idx hk]
    have:eV b p (nB (d+1)) (gu (nv (d+1))) (.v (.string (mk (ls.getD k2 [])))) [.cells [b,.v (.int .i64 (q2:Int))]]:=⟨q2,by omega,by simp only[nB];omega,⟨_,rfl,by
     have:=hls (ls.getD k2 []) (by simp[aa,hk]);simp only[nv];omega⟩,rfl⟩
    refine⟨⟨ha.1,by omega⟩,?_⟩
    repeat (first|exact this|refine⟨by omega,?_⟩)
   ·refine aP (C0 b l hb q1 (by omega) _ _ (.of [_,_,_,_,_,_]) (by simp) (by simp)) (eV.ne ⟨_,ak,rfl⟩) ?_
    rintro r o ⟨q2,g1,g2,hr,rfl⟩
    obtain⟨s,rfl,hs⟩:=kN.cw (n:=2) (by decide) hr
    simp only[↓zq,zs,ae,aI,hb.has]
    exact⟨q2,by omega,by simp only[nB];omega,⟨s,rfl,by simp only[nv];omega⟩,rfl⟩
  ·refine aP (C0 b l hb q0 (by omega) _ _ (.of [_,_,_,_,_,_]) (by simp) (by simp)) (eV.ne ⟨_,ak,rfl⟩) ?_
   rintro r o ⟨q2,g1,g2,hr,rfl⟩
   obtain⟨s,rfl,hs⟩:=kN.cw (n:=2) (by decide) hr
   simp only[↓zq,zs,ae,aI,hb.has]
   exact⟨q2,by omega,by simp only[nB];omega,⟨s,rfl,by simp only[nv];omega⟩,rfl⟩
  ·refine aP (u4 b l hb q0 5 (by omega) (by decide)) (eV.ne ⟨0,rfl,fun h=>by omega,by omega⟩) ?_
   rintro r o ⟨q1,b1,b2,⟨k1,rfl,c3,_⟩,rfl⟩
   have hk1:=c3 (by omega)
   obtain rfl|rfl|rfl|rfl|rfl:k1=0\/k1=1\/k1=2\/k1=3\/k1=4:=by omega
   ·simp only[↓zq,zs,ae,aI,hb.has]
    refine⟨fun _=>?_,fun h=>absurd rfl h⟩
    refine aP (ih q1 ls a ha hls (by omega) (by omega)) (eV.ne ⟨[],rfl,by simp⟩) ?_
    rintro r o ⟨q2,d1,d2,⟨s1,rfl,d3⟩,rfl⟩
    simp only[↓zq,zs,ae,zt,aI,hb.has,aq]
    repeat refine⟨by first|omega|(simp only[aq,az,aG];omega),?_⟩
    refine aP (ih q2 ls a ha hls (by omega) (by omega)) (eV.ne ⟨[],rfl,by simp⟩) ?_
    rintro r o ⟨q3,e1,e2,⟨s2,rfl,e3⟩,rfl⟩
    simp only[↓zq,zs,ae,zt,aI,hb.has,aq]
    have fin:∀s:List UInt8,s.length<=nv (d+1)->eV b p (nB (d+1)) (gu (nv (d+1))) (.v (.string (mk s))) [.cells [b,.v (.int .i64 (q3:Int))]]:=fun s hs=>⟨q3,by omega,by simp only[nB];omega,⟨s,rfl,hs⟩,rfl⟩
    repeat (first|exact fin _ (by simp only[aq,az,aG,nv];omega)|refine⟨by first|omega|(simp only[aq,az,aG];omega),?_⟩)
   ·simp only[↓zq,zs,ae,aI,hb.has]
    refine⟨fun h=>by omega,fun _=>⟨fun _=>?_,fun h=>absurd rfl h⟩⟩
    refine aP (ih q1 ls a ha hls (by omega) (by omega)) (eV.ne ⟨[],rfl,by simp⟩) ?_
    rintro r o ⟨q2,d1,d2,⟨s1,rfl,d3⟩,rfl⟩
    simp only[↓zq,zs,ae,zt,aI,hb.has,aq]
    repeat refine⟨by first|omega|(simp only[aq,az,aG];omega),?_⟩
    refine aP (ih q2 ls a ha hls (by omega) (by omega)) (eV.ne ⟨[],rfl,by simp⟩) ?_
    rintro r o ⟨q3,e1,e2,⟨s2,rfl,e3⟩,rfl⟩
    simp only[↓zq,zs,ae,zt,aI,hb.has,aq]
    have fin:∀s:List UInt8,s.length<=nv (d+1)->eV b p (nB (d+1)) (gu (nv (d+1))) (.v (.string (mk s))) [.cells [b,.v (.int .i64 (q3:Int))]]:=fun s hs=>⟨q3,by omega,by simp only[nB];omega,⟨s,rfl,hs⟩,rfl⟩
    repeat (first|exact fin _ (by simp only[aq,az,aG,nv];omega)|refine⟨by first|omega|(simp only[aq,az,aG];omega),?_⟩)
   ·simp only[↓zq,zs,ae,aI,hb.has]
    refine⟨fun h=>by omega,fun _=>⟨fun h=>by omega,fun _=>⟨fun _=>?_,fun h=>absurd rfl h⟩⟩⟩
    refine aP (ih q1 ls a ha hls (by omega) (by omega)) (eV.ne ⟨[],rfl,by simp⟩) ?_
    rintro r o ⟨q2,d1,d2,⟨s1,rfl,d3⟩,rfl⟩
    simp only[↓zq,zs,ae,zt,aI,hb.has,aq]
    repeat refine⟨by first|omega|(simp only[aq,az,aG];omega),?_⟩
    refine aP (ih q2 ls a ha hls (by omega) (by omega)) (eV.ne ⟨[],rfl,by simp⟩) ?_
    rintro r o ⟨q3,e1,e2,⟨s2,rfl,e3⟩,rfl⟩
    simp only[↓zq,zs,ae,zt,aI,hb.has,aq]
    have fin:∀s:List UInt8,s.length<=nv (d+1)->eV b p (nB (d+1)) (gu (nv (d+1))) (.v (.string (mk s))) [.cells [b,.v (.int .i64 (q3:Int))]]:=fun s hs=>⟨q3,by omega,by simp only[nB];omega,⟨s,rfl,hs⟩,rfl⟩
    repeat (first|exact fin _ (by simp only[aq,az,aG,nv];omega)|refine⟨by first|omega|(simp only[aq,az,aG];omega),?_⟩)
   ·simp only[↓zq,zs,ae,aI,hb.has]
    refine⟨fun h=>by omega,fun _=>⟨fun h=>by omega,fun _=>⟨fun h=>by omega,fun _=>⟨fun _=>?_,fun h=>absurd rfl h⟩⟩⟩⟩
    refine aP (ih q1 ls a ha hls (by omega) (by omega)) (eV.ne ⟨[],rfl,by simp⟩) ?_
    rintro r o ⟨q2,d1,d2,⟨s1,rfl,d3⟩,rfl⟩
    simp only[↓zq,zs,ae,zt,aI,hb.has,aq]
    repeat refine⟨by first|omega|(simp only[aq,az,aG];omega),?_⟩
    refine aP (ih q2 ls a ha hls (by omega) (by omega)) (eV.ne ⟨[],rfl,by simp⟩) ?_
    rintro r o ⟨q3,e1,e2,⟨s2,rfl,e3⟩,rfl⟩
    simp only[↓zq,zs,ae,zt,aI,hb.has,aq]
    have fin:∀s:List UInt8,s.length<=nv (d+1)->eV b p (nB (d+1)) (gu (nv (d+1))) (.v (.string (mk s))) [.cells [b,.v (.int .i64 (q3:Int))]]:=fun s hs=>⟨q3,by omega,by simp only[nB];omega,⟨s,rfl,hs⟩,rfl⟩
    repeat (first|exact fin _ (by simp only[aq,az,aG,nv];omega)|refine⟨by first|omega|(simp only[aq,az,aG];omega),?_⟩)
   ·simp only[↓zq,zs,ae,aI,hb.has]
    refine⟨fun h=>by omega,fun _=>⟨fun h=>by omega,fun _=>⟨fun h=>by omega,fun _=>⟨fun h=>by omega,fun _=>?_⟩⟩⟩⟩
    refine aP (C0 b l hb q1 (by omega) _ _ (.of [_,_,_]) (by simp) (by simp)) (eV.ne ⟨_,ak,rfl⟩) ?_
    rintro r o ⟨q2,g1,g2,hr,rfl⟩
    obtain⟨s,rfl,hs⟩:=kN.cw (n:=2) (by decide) hr
    simp only[↓zq,zs,ae,zt,aI,hb.has]
    repeat refine⟨by first|omega|(simp only[aq,az,aG];omega),?_⟩
    refine aV (wI ls a ha s (by omega)) ?_
    simp only[↓zq,zs,ae,Ob.es,aO]
    refine⟨dx _,?_⟩
    refine aP (ih q2 (ls++[s]) _ (.of _) (fun w hw=>by
     rcases aN.1 hw with hw|hw
     ·exact hls w hw
     ·simp at hw;rw[hw];exact hs) (by simp;omega) (by omega)) (eV.ne ⟨[],rfl,by simp⟩) ?_
    rintro r o ⟨q3,e1,e2,⟨s2,rfl,e3⟩,rfl⟩
    simp only[↓zq,zs,ae,zt,aI,hb.has,aq]
    have fin:∀s:List UInt8,s.length<=nv (d+1)->eV b p (nB (d+1)) (gu (nv (d+1))) (.v (.string (mk s))) [.cells [b,.v (.int .i64 (q3:Int))]]:=fun s hs=>⟨q3,by omega,by simp only[nB];omega,⟨s,rfl,hs⟩,rfl⟩
    repeat (first|exact fin _ (by simp only[aq,az,aG,nv];omega)|refine⟨by first|omega|(simp only[aq,az,aG];omega),?_⟩)
end Go.Proofs.Trees
namespace Go.Proofs.Trees
open Go Go.VL Go.RowKit
theorem eV.mono{b:AV}{p c c':Nat}{X Y:AV->Prop}(hc:c<=c')(h:∀r,X r->Y r){r:AV}{o:List Ob}(hr:eV b p c X r o):eV b p c' Y r o:=by
 obtain⟨q,h1,h2,h3,h4⟩:=hr;exact⟨q,h1,by omega,h r h3,h4⟩
theorem gu.le{n m:Nat}(h:n<=m){r:AV}(hr:gu n r):gu m r:=by obtain⟨s,h1,h2⟩:=hr;exact⟨s,h1,by omega⟩
theorem QY(b:AV)(l:List UInt8)(hb:sB b l)(p:Nat)(hp:p<p6):an Tryz.prog 143 [.ref 0 0] [.cells [b,.v (.int .i64 (p:Int))]] (eV b p 100 (gu 200)):=by
 refine Qs _ _ hb.has ?_
 unfold L3
 have hfar:p6=1000000000000000:=rfl
 refine aP (u4 b l hb p 12 (by omega) (by decide)) (eV.ne ⟨0,rfl,fun h=>by omega,by omega⟩) ?_
 rintro r o ⟨q,h1,h2,⟨k,rfl,_,_⟩,rfl⟩
 have kn:∀(c m:Nat) (r:AV) (o:List Ob),c<=90->m<=200->eV b q c (gu m) r o->∃q':Nat,∃s:List UInt8,r=.v (.string (mk s))/\o=[.cells [b,.v (.int .i64 (q':Int))]]/\eV b p 100 (gu 200) (.v (.string (mk s))) [.cells [b,.v (.int .i64 (q':Int))]]:=by
  rintro c m r o hc hm ⟨q',g1,g2,⟨s,rfl,hs⟩,rfl⟩
  exact⟨q',s,rfl,rfl,q',by omega,by omega,⟨s,rfl,by omega⟩,rfl⟩
 simp only[↓zq,zs,ae,aI,hb.has]
 refine⟨fun _=>?_,fun _=>⟨fun _=>?_,fun _=>⟨fun _=>?_,fun _=>⟨fun _=>?_,fun _=>⟨fun _=>?_,fun _=>?_⟩⟩⟩⟩⟩
 ·refine aP (C0 b l hb q (by omega) _ _ (.of [_,_,_,_,_,_,_,_,_]) (by simp) (by simp)) (eV.ne ⟨_,ak,rfl⟩) ?_
  intro r o hr
  obtain⟨q',s,rfl,rfl,hd⟩:=kn 1 20 r o (by omega) (by omega) (hr.mono (au _) fun r h=>kN.cw (n:=20) (by decide) h)
  simp only[↓zq,zs,ae,aI,hb.has];exact hd
 ·refine aP (BG b l hb q (by omega)) (eV.ne ⟨[],rfl,by simp⟩) ?_
  intro r o hr
  obtain⟨q',s,rfl,rfl,hd⟩:=kn _ _ r o (by omega) (by omega) hr
  simp only[↓zq,zs,ae,aI,hb.has];exact hd
 ·refine aP (BG b l hb q (by omega)) (eV.ne ⟨[],rfl,by simp⟩) ?_
  intro r o hr
  obtain⟨q',s,rfl,rfl,hd⟩:=kn _ _ r o (by omega) (by omega) hr
  simp only[↓zq,zs,ae,aI,hb.has];exact hd
 ·refine aP (BG b l hb q (by omega)) (eV.ne ⟨[],rfl,by simp⟩) ?_
  intro r o hr
  obtain⟨q',s,rfl,rfl,hd⟩:=kn _ _ r o (by omega) (by omega) hr
  simp only[↓zq,zs,ae,aI,hb.has];exact hd
 ·refine aP (Ga b l hb 2 (by omega) q [[116],[116,49]] _ (cm.of [[116],[116,49]]) (by decide) (by simp) (by simp[nB];omega)) (eV.ne ⟨[],rfl,by simp⟩) ?_
  intro r o hr
  obtain⟨q',s,rfl,rfl,hd⟩:=kn _ _ r o (by simp[nB]) (by simp[nv]) hr
  simp only[↓zq,zs,ae,aI,hb.has];exact hd
 ·refine aP (Ga b l hb 3 (by omega) q [] _ (cm.of []) (by simp) (by simp) (by simp[nB];omega)) (eV.ne ⟨[],rfl,by simp⟩) ?_
  intro r o hr
  obtain⟨q',s,rfl,rfl,hd⟩:=kn _ _ r o (by simp[nB]) (by simp[nv]) hr
  simp only[↓zq,zs,ae,aI,hb.has];exact hd
def yZ(a:AV):Prop:=LK.sl.has a/\∃l:List UInt8,a.elems=qo l
def O0(r:AV)(o:List Ob):Prop:=∃(b:AV) (l:List UInt8),sB b l/\r=.ref 0 0/\o=[.cells [b,.v (.int .i64 0)]]
theorem O0.ne:∃r o,O0 r o:=⟨_,_,.v (.slice none 0 0),[],⟨(bh).mpr trivial,rfl,by simp⟩,rfl,rfl⟩
theorem RX(a:AV)(ha:yZ a):an Tryz.prog 32 [a] [] O0:=by
 obtain⟨hs,l,hl⟩:=ha
 have hln:a.elems.length=l.length:=by rw[hl];simp[qo]
 refine Rf _ hs ?_
 simp only[Nk,↓zq,zs,ae,hln]
 refine⟨hs,fun h=>⟨⟨hs,by omega⟩,?_⟩,fun h=>?_⟩
 ·refine⟨_,l.take 2000,⟨(cc _).mpr trivial,?_,?_⟩,rfl,rfl⟩
  ·rw[fF,hl];simp[qo]
  ·simp;omega
 ·exact⟨a,l,⟨hs,hl,by omega⟩,rfl,rfl⟩
end Go.Proofs.Trees
namespace Go.Proofs.Trees
open Go Go.VL Go.RowKit
theorem Bg(b:AV)(l:List UInt8)(hb:sB b l){e:E}(h:Wf e):∀d:Int,d<=-13->-50000+(e.sz:Int)<=d->e.dc<=400->jO b d e (5*e.sz) e.sz:=by
 induction h with
 |
  @atom s hs =>
  intro d h1 h2 h3
  exact(JF b l hb d hs).mono (by simp[E.sz]) (by simp[E.sz])
 |
  @plus x y hx hy i1 i2 =>
  intro d h1 h2 h3
  have h4:=h3
  simp only[E.sz,E.jt,E.dc,E.eW]at h2 h4 |-
  exact(J0 b l hb d (by omega) hx hy h3 (5*(x.sz+y.sz)+1) (x.sz+y.sz) ((i1 (d-1) (by omega) (by omega) (by omega)).mono (by omega) (by omega)) ((i2 (d-1) (by omega) (by omega) (by omega)).mono (by omega) (by omega)) (by omega)).mono (by omega) (by omega)
 |
  @times x y hx hy i1 i2 =>
  intro d h1 h2 h3
  have h4:=h3
  simp only[E.sz,E.jt,E.dc,E.eW]at h2 h4 |-
  exact(IP b l hb d (by omega) hx hy (5*x.sz+1) x.sz (5*y.sz+1) y.sz ((i1 (d-1) (by omega) (by omega) (by omega)).mono (by omega) (by omega)) ((i2 (d-1) (by omega) (by omega) (by omega)).mono (by omega) (by omega)) (by omega) (by omega)).mono (by omega) (by omega)
 |
  @rc n x hn hx i =>
  intro d h1 h2 h3
  simp only[E.sz,E.jt]at h2 |-
  exact(LF b l hb d (by omega) hn hx h3 1 0 (fun h=>absurd h (by omega)) (by omega)).mono (by omega) (by omega)
def pC:Nat->Nat
 |0=>6100
 |n+1=>2*pC n+5
theorem HZ:∀n,6100<=pC n
 |0=>au _
 |n+1=>by have:=HZ n;simp only[pC];omega
theorem xp:∀n k:Nat,pC (n+k)+5=2 ^ k*(pC n+5)
 |n,0=>by simp
 |
  n,k+1=>by
  have:=xp n k
  rw[show n+(k+1)=n+k+1 from rfl,pC,Nat.pow_succ,Nat.mul_comm (2 ^ k) 2,Nat.mul_assoc,<-this];omega
theorem Bn{n m:Nat}(h:n<=m):pC n<=pC m:=by
 obtain⟨k,rfl⟩:=Nat.exists_eq_add_of_le h
 have:=xp n k
 have h2:1*(pC n+5)<=2 ^ k*(pC n+5):=a8 _ Nat.one_le_two_pow
 omega
theorem Jx:pC 22<=30000000000:=by
 have:=xp 0 22
 simp only[aY]at this
 have h0:pC 0=6100:=rfl
 rw[h0]at this
 omega
theorem yB(b:AV)(l:List UInt8)(hb:sB b l):∀n:Nat,n<=40->∀e,Wf e->e.dc<=400->jO b ((n:Int)-13) e (pC n) (pC n)
 |
  0,hn,e,h,hl=>by
  have:=h.sz
  exact(Bg b l hb h _ (by simp) (by simp;omega) hl).mono (by simp only[pC];omega) (by simp only[pC];omega)
 |
  n+1,hn,e,h,hl=>by
  have hb1:=HZ n
  have ih:∀g,Wf g->g.dc<=400->jO b (((n+1:Nat):Int)-13-1) g (pC n) (pC n):=by
   rw[show ((n+1:Nat):Int)-13-1=(n:Int)-13 by omega];exact yB b l hb n (by omega)
  cases h with
  |@atom s hs=>exact(JF b l hb _ hs).mono (by simp only[pC];omega) (by simp only[pC];omega)
  |
   @plus x y hx hy =>
   have h4:=hl
   simp only[E.dc,E.eW]at h4
   exact(J0 b l hb _ (by omega) hx hy hl _ _ (ih x hx (by omega)) (ih y hy (by omega)) (by omega)).mono (by simp only[pC];omega) (by simp only[pC];omega)
  |
   @times x y hx hy =>
   simp only[E.dc,E.eW]at hl
   exact(IP b l hb _ (by omega) hx hy _ _ _ _ (ih x hx (by omega)) (ih y hy (by omega)) (by omega) (by omega)).mono (by simp only[pC];omega) (by simp only[pC];omega)
  |@rc m x hm hx=>exact(LF b l hb _ (by omega) hm hx hl _ _ (fun _=>ih) (by omega)).mono (by simp only[pC];omega) (by simp only[pC];omega)
theorem K7(b:AV)(l:List UInt8)(hb:sB b l)(p:Nat)(hp:p<100000000000000)(s:Nm):an Tryz.prog 39 [.ref 0 0,.v (.string (mk s))] [.cells [b,.v (.int .i64 (p:Int))]] (eV b p 40000000000 (gu 40000000000)):=by
 refine Qy _ _ _ hb.has ?_
 have hfar:p6=1000000000000000:=rfl
 have oneL:∀(q:Nat) (r:AV) (o:List Ob),p<=q->q<=p+1->eV b q 1 (kN [[],[117],[101,48],[101,48,48],[101,49,48,48],[40,108,32,117,41],[40,112,32,117,41],[40,102,32,40,108,32,117,41,41],[40,120,32,117,41],[40,108,32,32,117,41]]) r o->∃q':Nat,∃t:List UInt8,r=.v (.string (mk t))/\o=[.cells [b,.v (.int .i64 (q':Int))]]/\eV b p 40000000000 (gu 40000000000) (.v (.string (mk t))) [.cells [b,.v (.int .i64 (q':Int))]]:=by
  rintro q r o h1 h2 ⟨q',g1,g2,hr,rfl⟩
  obtain⟨t,rfl,ht⟩:=kN.cw (n:=20) (by decide) hr
  exact⟨q',t,rfl,rfl,q',by omega,by omega,⟨t,rfl,by omega⟩,rfl⟩
 unfold Lc
 refine aP (Hu s) (jI.ne _ _ (fun h=>h)) ?_
 rintro r o ⟨c,d,hd,rfl,hh⟩
 have hhas:bF [.str,.sl] [.v (.string (mk c)),d] 0:=by simp[bF,dY,hd]
 simp only[↓zq,zs,ae,zt]
 refine⟨hhas,fun h=>?_,fun h=>?_⟩
 ·refine aP (C0 b l hb p (by omega) _ _ (.of [_,_,_,_,_,_,_,_,_,_]) (by simp) (by simp)) (eV.ne ⟨_,ak,rfl⟩) ?_
  intro r o hr
  obtain⟨q',t,rfl,rfl,hd⟩:=oneL p r o (au _) (by omega) hr
  simp only[↓zq,zs,ae,aI,hb.has];exact hd
 ·obtain⟨e,he,hce⟩:=hh (by simpa using h)
  obtain⟨t,h1,hA,h3,h4,h5,_⟩:=gX he
  rw[dj]at hce
  simp only[AV.agg.injEq,List.cons.injEq,AV.v.injEq,Value.string.injEq,and_true]at hce
  obtain⟨hc1,rfl⟩:=hce
  have hc2:=mk_inj hc1
  subst hc2
  obtain⟨hw,hwt⟩:=kp e [] t hA.ok (by simp) hA.ty
  have hats:e.dc<=400:=by rw[hw.dc [],hwt];exact h5
  have hsz:=hw.sz
  refine aP (u4 b l hb p 16 (by omega) (by decide)) (eV.ne ⟨0,rfl,fun h=>by omega,by omega⟩) ?_
  rintro r o ⟨q,h1,h2,⟨k,rfl,_,_⟩,rfl⟩
  simp only[↓zq,zs,ae,aI,hb.has]
  refine⟨fun _=>?_,fun _=>?_⟩
  ·refine aP (C0 b l hb q (by omega) _ _ (.of [_,_,_,_,_,_,_,_,_,_]) (by simp) (by simp)) (eV.ne ⟨_,ak,rfl⟩) ?_
   intro r o hr
   obtain⟨q',t,rfl,rfl,hd⟩:=oneL q r o h1 h2 hr
   simp only[↓zq,zs,ae,aI,hb.has];exact hd
  ·obtain⟨w1,w2,_⟩:=xk (os:=[]) hw
   have hap:=EF hw (.v (.slice none 0 0)) [] ⟨(bh).mpr trivial,rfl⟩ (by omega) (by simp) (by simp)
   refine ai hap ?_
   simp only[↓zq,zs,ae,zt,aL]
   repeat refine⟨by omega,?_⟩
   have hats2:(Aa e []).dc<=400:=by rw[w1.dc [],w2,<-hw.dc []];exact hats
   refine aP (u4 b l hb q 5 (by omega) (by decide)) (eV.ne ⟨0,rfl,fun h=>by omega,by omega⟩) ?_
   rintro r o ⟨q1,g1,g2,⟨k1,rfl,c3,_⟩,rfl⟩
   have hk1:=c3 (by omega)
   simp only[↓zq,zs,ae,zt,aI,hb.has,aL]
   have ed:IntKind.wrap .i64 (5+(k1:Int))=((18+k1:Nat):Int)-13:=by rw[VL.wrap64 _ (by omega) (by omega)];omega
   have hB:=Jx
   have hB2:pC (18+k1)<=pC 22:=Bn (by omega)
   have hB3:=HZ (18+k1)
   rw[ed]
   refine aP (yB b l hb (18+k1) (by omega) (Aa e []) w1 hats2 q1 (by omega)) (pq b q1 _ _ (by omega)) ?_
   rintro r o ⟨q2,d1,d2,⟨f,rfl,f1,f2⟩,rfl⟩
   simp only[↓zq,zs,ae,zt,aI,hb.has,aL]
   repeat refine⟨by omega,?_⟩
   have ht:=Dy (f.sz+1) f (by omega) f1 (by omega)
   rw[dj]at ht
   refine ai ht ?_
   simp only[↓zq,zs,ae,zt,aI,hb.has,aL]
   exact⟨q2,by omega,by omega,⟨e9 f,rfl,by omega⟩,rfl⟩
theorem Ro(b:AV)(l:List UInt8)(hb:sB b l)(p:Nat)(hp:p<100000000000000):an Tryz.prog 106 [.ref 0 0] [.cells [b,.v (.int .i64 (p:Int))]] (eV b p 200 (gu 200)):=by
 refine Po _ _ hb.has ?_
 unfold JP
 have hfar:p6=1000000000000000:=rfl
 refine aP (u4 b l hb p 8 (by omega) (by decide)) (eV.ne ⟨0,rfl,fun h=>by omega,by omega⟩) ?_
 rintro r o ⟨q,h1,h2,⟨k,rfl,_,_⟩,rfl⟩
 have kn:∀(c m:Nat) (r:AV) (o:List Ob),c<=190->m<=200->eV b q c (gu m) r o->∃q':Nat,∃s:List UInt8,r=.v (.string (mk s))/\o=[.cells [b,.v (.int .i64 (q':Int))]]/\eV b p 200 (gu 200) (.v (.string (mk s))) [.cells [b,.v (.int .i64 (q':Int))]]:=by
  rintro c m r o hc hm ⟨q',g1,g2,⟨s,rfl,hs⟩,rfl⟩
  exact⟨q',s,rfl,rfl,q',by omega,by omega,⟨s,rfl,by omega⟩,rfl⟩
 have sh:=Ga b l hb 3 (by omega) q [] _ (cm.of []) (by simp) (by simp) (by simp[nB];omega)
 have ty:=QY b l hb q (by omega)
 have kw:=BG b l hb q (by omega)
 simp only[↓zq,zs,ae,aI,hb.has]
 refine⟨fun _=>?_,fun _=>⟨fun _=>?_,fun _=>⟨fun _=>?_,fun _=>⟨fun _=>?_,fun _=>?_⟩⟩⟩⟩
 ·refine aP ty (eV.ne ⟨[],rfl,by simp⟩) ?_
  intro r o hr
  obtain⟨q',s,rfl,rfl,hd⟩:=kn _ _ r o (by omega) (by omega) hr
  simp only[↓zq,zs,ae,aI,hb.has];exact hd
 ·refine aP sh (eV.ne ⟨[],rfl,by simp⟩) ?_
  intro r o hr
  obtain⟨q',s,rfl,rfl,hd⟩:=kn _ _ r o (by simp[nB]) (by simp[nv]) hr
  simp only[↓zq,zs,ae,aI,hb.has];exact hd
 ·refine aP sh (eV.ne ⟨[],rfl,by simp⟩) ?_
  intro r o hr
  obtain⟨q',s,rfl,rfl,hd⟩:=kn _ _ r o (by simp[nB]) (by simp[nv]) hr
  simp only[↓zq,zs,ae,aI,hb.has];exact hd
 ·refine aP sh (eV.ne ⟨[],rfl,by simp⟩) ?_
  intro r o hr
  obtain⟨q',s,rfl,rfl,hd⟩:=kn _ _ r o (by simp[nB]) (by simp[nv]) hr
  simp only[↓zq,zs,ae,aI,hb.has];exact hd
 ·refine aP kw (eV.ne ⟨[],rfl,by simp⟩) ?_
  intro r o hr
  obtain⟨q',s,rfl,rfl,hd⟩:=kn _ _ r o (by omega) (by omega) hr
  simp only[↓zq,zs,ae,aI,hb.has];exact hd
def Jp:AV->Prop:=fun r=>∃s t:Nm,r=.cD [.v (.string (mk s)),.v (.string (mk t))]
theorem RF(b:AV)(l:List UInt8)(hb:sB b l)(p:Nat)(hp:p<10000000000000):an Tryz.prog 76 [.ref 0 0] [.cells [b,.v (.int .i64 (p:Int))]] (eV b p 50000000000 Jp):=by
 refine PS _ _ hb.has ?_
 unfold IS
 refine aP (Ro b l hb p (by omega)) (eV.ne ⟨[],rfl,by simp⟩) ?_
 rintro r o ⟨q,h1,h2,⟨s,rfl,_⟩,rfl⟩
 simp only[↓zq,zs,ae,aI,hb.has]
 refine aP (K7 b l hb q (by omega) s) (eV.ne ⟨[],rfl,by simp⟩) ?_
 rintro r o ⟨q1,g1,g2,⟨t,rfl,_⟩,rfl⟩
 simp only[↓zq,zs,ae,aI,hb.has]
 exact⟨q1,by omega,by omega,⟨s,t,rfl⟩,rfl⟩
theorem Sp(b:AV)(l:List UInt8)(hb:sB b l)(p:Nat)(hp:p<1000000000000):an Tryz.prog 53 [.ref 0 0] [.cells [b,.v (.int .i64 (p:Int))]] (eV b p 60000000000 Jp):=by
 refine Sa _ _ hb.has ?_
 unfold KL
 have hfar:p6=1000000000000000:=rfl
 refine aP (BG b l hb p (by omega)) (eV.ne ⟨[],rfl,by simp⟩) ?_
 rintro r o ⟨q,h1,h2,⟨s,rfl,_⟩,rfl⟩
 simp only[↓zq,zs,ae,aI,hb.has]
 refine aP (u4 b l hb q 12 (by omega) (by decide)) (eV.ne ⟨0,rfl,fun h=>by omega,by omega⟩) ?_
 rintro r o ⟨q1,g1,g2,⟨k,rfl,_,_⟩,rfl⟩
 simp only[↓zq,zs,ae,aI,hb.has]
 refine⟨fun _=>?_,fun _=>?_⟩
 ·refine aP (RF b l hb q1 (by omega)) (eV.ne ⟨[],[],rfl⟩) ?_
  rintro r o ⟨q2,e1,e2,⟨x,y,rfl⟩,rfl⟩
  simp only[↓zq,zs,ae,zt,aI,hb.has]
  exact⟨q2,by omega,by omega,⟨x,y,rfl⟩,rfl⟩
 ·refine aP (K7 b l hb q1 (by omega) s) (eV.ne ⟨[],rfl,by simp⟩) ?_
  rintro r o ⟨q2,e1,e2,⟨t,rfl,_⟩,rfl⟩
  simp only[↓zq,zs,ae,aI,hb.has]
  exact⟨q2,by omega,by omega,⟨s,t,rfl⟩,rfl⟩
end Go.Proofs.Trees
namespace Go.Proofs.Trees
open Go Go.VL Go.RowKit
theorem A5(w:Nm)(c1 c2:Nm)(d1 d2:AV):an Tryz.prog 81 [.v (.string (mk w)),.sl [[.v (.string (mk c1)),d1],[.v (.string (mk c2)),d2]]] [] (bJ (.agg [.v (.string (mk [])),.sl [[.v (.string (mk w)),zi],[.v (.string (mk c1)),d1],[.v (.string (mk c2)),d2]]])):=by
 refine NY _ _ ((cc _).mpr trivial) ?_
 simp only[FR,↓zq,zs,ae,bJ]
 exact⟨⟨fun c hc=>by
  simp only[aK,List.not_mem_nil,or_false]at hc
  rcases hc with rfl|rfl<;>rfl,by omega⟩,rfl⟩
theorem LS(F:List Nm)(hF:F.length<100000)(c1 c2:Nm)(d1 d2:AV)(h1:LK.sl.has d1)(h2:LK.sl.has d2):∀(n j:Nat),qb F n j<j+n->j+n<100000000 ->
 FU [.v (.int .i64 (j:Int))] [zE,.cells [.v (.string (mk c1)),d1],.cells [.v (.string (mk c2)),d2],.vec 1 (bH F)] (iG 1 [.v (.int .i64 (qb F n j:Int))] [zE,.cells [.v (.string (mk c1)),d1],.cells [.v (.string (mk c2)),d2]])
 |0,j,h,_=>by simp only[qb]at h;omega
 |
  n+1,j,h,hj=>by
  refine RZ _ _ _ _ _ _ _ _ ?_
  simp only[KR,↓zq,zs,ae,zt,ae,bh,h1,h2]
  refine ai (Ao (j+1) j (by omega) (by omega)) ?_
  have hd:=mn (j+1) j (by omega)
  simp only[↓zq,zs,ae,zt,bc,aT]
  refine⟨by simp[cN];omega,?_⟩
  refine ai (FN F _ (.of F) (tN j) (by omega)) ?_
  simp only[↓zq,zs,ae,zt]
  rw[qb]at h |-
  refine⟨fun hm=>?_,fun hm=>?_⟩
  ·rw[if_pos hm]at h |-
   rw[bA j (by omega)]
   exact LS F hF c1 c2 d1 d2 h1 h2 n (j+1) (by omega) (by omega)
  ·rw[if_neg hm]
   exact⟨rfl,rfl,rfl⟩
theorem uT{x:Nm}{a c d:Ty}(h:(pV a x c d).atoms<=400):(sub x (.rc a) c).atoms<=400/\(sub x (.rc a) d).atoms<=400:=by
 simp only[pV,Ty.atoms]at h;omega
theorem Wf.iU{e:E}(h:Wf e){t:Ty}(ht:cS e []=t)(hl:t.atoms<=400):e.dc<=400:=by rw[h.dc [],ht];exact hl
def SD(n:Nat):Prop:=∀(e:E) (s:Nm),Wf e->e.dc<=n->e.dc<=400->qR s->an Tryz.prog 122 [.agg [.v (.string (mk e.at)),e.sp],.v (.string (mk s))] [] (lA (lV (cS e []) s))
theorem km{e:E}{s:Nm}(h:Wf e):∀t,lV (cS e []) s=some t->fV t:=fun t ht=>h.qA.dv (cR.1 ht)
theorem rj{t:Ty}(h:fV t):∀d,nE t=some d->fV d:=fun d hd=>by obtain⟨_,rfl⟩:=eN.1 hd;exact h
theorem Sj(n:Nat)(ih:SD n)(m:Nm)(B:E)(hm:qR m)(hB:Wf B)(hl:(E.list [.atom dG,.atom m,B]).dc<=n+1)(hl4:(E.list [.atom dG,.atom m,B]).dc<=400)(s:Nm)(hs:qR s) :
 an Tryz.prog 147 [.agg [.v (.string (mk [])),(E.list [.atom dG,.atom m,B]).sp],.v (.string (mk s))] [] (lA (lV (cS (.list [.atom dG,.atom m,B]) []) s)):=by
 have hw:Wf (.list [.atom dG,.atom m,B]):=.rc hm hB
 have hsz:=hw.sz
 have hA:=EF hw (.sl [[.v (.string (mk s)),zi]]) [.atom s] ⟨(cc _).mpr trivial,by simp only[fF,E.bw,fM];rfl⟩ (by omega) (fun o ho=>by
  simp only[aK,List.not_mem_nil,or_false]at ho
  subst ho
  exact⟨.atom hs.1,by simp[E.sz]⟩) (by simp)
 have hatsB:B.dc+2=(E.list [.atom dG,.atom m,B]).dc:=by simp only[E.dc,E.eW];omega
 have hT:cS (.list [.atom dG,.atom m,B]) []=.rc (cS B [m]):=fh _ _ _
 obtain⟨w1,w2,_,_,w5⟩:=kG (AD (.list [.atom dG,.atom m,B]) [.atom s]) (cS (.list [.atom dG,.atom m,B]) []) [] 0 (.nil _ _) (uf hw []) fun y hy=>⟨aD _ ((lH hw [] [] y).2 (.inr hy)),(nk hw [] y hy).1⟩
 have hsF:s∈AD (.list [.atom dG,.atom m,B]) [.atom s]:=aB _ (ss (o:=.atom s) (by simp) (.atom hs.1) (by rw[rp hs];simp[bn]))
 have haF:∀y,bn y (cS B [m])=true->y∈AD (.list [.atom dG,.atom m,B]) [.atom s]:=fun y hy=>aD _ ((lH hw [] [] y).2 (.inr (by rw[hT];exact hy)))
 unfold Aa at hA
 rw[hT]at hA w1 w2 w5
 rw[hT]
 generalize AD (.list [.atom dG,.atom m,B]) [.atom s]=F at *
 obtain⟨_,_,_,hxF⟩:=gC F 0
 simp only[gU,aT]at hA w1 w2 w5
 generalize hxd:tN (nx F 0)=x at *
 have hx:qR x:=by rw[<-hxd];exact zh _
 generalize (gU F (cS B [m]) [x] (nx F 0+1)).1=b at *
 have hb:Wf b:=by cases w1;assumption
 rw[fh]at w2
 have hbt:cS b [x]=cS B [m]:=by injection w2
 have hxa:bn x (cS B [m])=false:=by
  cases q:bn x (cS B [m])with
  |false=>rfl
  |true=>exact absurd (haF x q) hxF
 have hxs:x≠s:=fun e=>hxF (by rw[e];exact hsF)
 generalize cS B [m]=a at *
 have hbo:cS b []=dC (.name x) a 0:=by
  have:=yM x hb []
  rw[cY,hbt]at this;exact this
 have hba:b.dc+2=(E.list [.atom dG,.atom m,B]).dc:=by
  rw[hw.dc [],hT,hb.dc [],hbo,fK];simp only[Ty.atoms];omega
 have i1:=ih b s hb (by omega) (by omega) hs
 have i2:=ih b x hb (by omega) (by omega) hx
 have n1:=km (s:=s) hb
 have n2:=km (s:=x) hb
 rw[hbo]at i1 i2 n1 n2
 have hP:=P3.of (.atom dG) (.atom x) b
 rw[Cq hxa hxs]
 have hE1:Wf (.list [.atom dG,.atom x,b]):=w1
 have hE1t:cS (.list [.atom dG,.atom x,b]) []=.rc a:=by rw[fh];exact w2
 have hE1l:(E.list [.atom dG,.atom x,b]).dc<=400:=by
  have:(E.list [.atom dG,.atom x,b]).dc=b.dc+2:=by simp only[E.dc,E.eW];omega
  omega
 refine QI _ _ _ ((a6 _).mpr trivial) ?_
 unfold NK
 refine ai hA ?_
 simp only[↓zq,zs,ae,zt,aL,bL,toNat_one,bg,hP.1,hP.2.1,hP.2.2.1,hP.2.2.2,dT]
 repeat refine⟨by omega,?_⟩
 refine aP i1 (lA.ne n1) ?_
 rintro r o ⟨rfl,c1,d1,hd1,rfl,hc1⟩
 simp only[↓zq,zs,ae,zt,gD hd1]
 repeat refine⟨by omega,?_⟩
 refine aP i2 (lA.ne n2) ?_
 rintro r o ⟨rfl,c2,d2,hd2,rfl,hc2⟩
 simp only[↓zq,zs,ae,zt,gD hd2]
 cases q1:lV (dC (.name x) a 0) s with
 |
  none =>
  simp only[bu,bI]
  exact⟨fun _=>lA.no _ _ ((a6 _).mpr trivial),fun h=>(by cases h)⟩
 |some c =>
 cases q2:lV (dC (.name x) a 0) x with
 |
  none =>
  simp only[bu,aZ,bI,aW]
  exact⟨fun h=>(by cases h),fun _=>⟨fun _=>lA.no _ _ ((a6 _).mpr trivial),fun h=>(by cases h)⟩⟩
 |some d =>
 simp only[aZ,aW]
 refine⟨fun h=>(by cases h),fun _=>⟨fun h=>(by cases h),fun _=>?_⟩⟩
 obtain⟨ec,wc,tc,rfl,rfl⟩:=hc1 c q1
 obtain⟨ed,wd,td,rfl,rfl⟩:=hc2 d q2
 have lc:=(cR.1 q1).small
 have ld:=(cR.1 q2).small
 have p1:=Iy hx wc hE1 (wc.iU tc lc) hE1l
 have p2:=Iy hx wd hE1 (wd.iU td ld) hE1l
 have g1:=rj (hE1.qA.sub (x:=x) wc.qA)
 have g2:=rj (hE1.qA.sub (x:=x) wd.qA)
 rw[hE1t,tc]at p1 g1
 rw[hE1t,td]at p2 g2
 simp only[bL]at p1 p2
 repeat refine⟨by omega,?_⟩
 refine aP p1 (lA.ne g1) ?_
 rintro r o ⟨rfl,c3,d3,hd3,rfl,hc3⟩
 simp only[↓zq,zs,ae,zt,gD hd3]
 repeat refine⟨by omega,?_⟩
 refine aP p2 (lA.ne g2) ?_
 rintro r o ⟨rfl,c4,d4,hd4,rfl,hc4⟩
 simp only[↓zq,zs,ae,zt,gD hd4]
 have big:∀t:Ty,nE t=none->¬t.atoms<=400:=fun t ht hle=>by unfold nE at ht;rw[if_pos hle]at ht;cases ht
 have out0:(nE (sub x (.rc a) c)=none\/nE (sub x (.rc a) d)=none)->nE (pV a x c d)=none:=fun h=>by
  unfold nE
  rw[if_neg fun hle=>?_]
  have:=uT hle
  rcases h with h|h
  ·exact big _ h this.1
  ·exact big _ h this.2
 cases q3:nE (sub x (.rc a) c)with
 |
  none =>
  rw[out0 (.inl q3)]
  simp only[bu]
  exact⟨fun _=>lA.no _ _ ((a6 _).mpr trivial),fun h=>(by cases h)⟩
 |some c' =>
 cases q4:nE (sub x (.rc a) d)with
 |
  none =>
  rw[out0 (.inr q4)]
  simp only[bu,aZ]
  exact⟨fun h=>(by cases h),fun _=>⟨fun _=>lA.no _ _ ((a6 _).mpr trivial),fun h=>(by cases h)⟩⟩
 |some d' =>
 simp only[aZ]
 refine⟨fun h=>(by cases h),fun _=>⟨fun h=>(by cases h),fun _=>?_⟩⟩
 obtain⟨ec',wc',tc',rfl,rfl⟩:=hc3 c' q3
 obtain⟨ed',wd',td',rfl,rfl⟩:=hc4 d' q4
 obtain⟨lc',e3⟩:=eN.1 q3
 obtain⟨ld',e4⟩:=eN.1 q4
 rw[e3]at lc';rw[e4]at ld'
 have z1:=wc'.sz
 have z2:=wd'.sz
 have k1:=wc'.iU tc' lc'
 have k2:=wd'.iU td' ld'
 have f1:=D3 wd' [] [] (.sl []) (.of []) (by simp;omega)
 have fl1:=fZ ed' [] []
 have fl2:=fZ ec' [] (kq ed' [] [])
 simp only[aG,aY]at fl1
 have f2:=D3 wc' [] (kq ed' [] []) (.sl []) (.of []) (by simp;omega)
 refine aV f1 ?_
 simp only[↓zq,zs,ae,zt,aO,bq,Ob.es]
 refine aV f2 ?_
 simp only[↓zq,zs,ae,zt,aO,bq,Ob.es]
 have hF3:∀y,(bn y c'=true\/bn y d'=true)->y∈kq ec' [] (kq ed' [] []):=fun y hy=>by
  rw[lH wc',lH wd']
  rcases hy with hy|hy
  ·exact .inr (by rw[tc'];exact hy)
  ·exact .inl (.inr (by rw[td'];exact hy))
 generalize kq ec' [] (kq ed' [] [])=F3 at *
 obtain⟨_,y2,_,hyF⟩:=gC F3 0
 refine cJ (LS F3 (by omega) _ _ _ _ ((a6 _).mpr trivial) ((a6 _).mpr trivial) (F3.length+1) 0 (by show nx F3 0<_;omega) (by omega)) ?_
 have hnx:qb F3 (F3.length+1) 0=nx F3 0:=rfl
 rw[hnx]
 simp only[↓zq,zs,ae,zt,ae,aI,bh,a6]
 refine ai (Ao (nx F3 0+1) (nx F3 0) (by omega) (by omega)) ?_
 have hdl:=mn (nx F3 0+1) (nx F3 0) (by omega)
 simp only[↓zq,zs,ae,zt,bc,aT]
 refine⟨by omega,?_⟩
 obtain⟨y,hyd⟩:∃y:Nm,(116::dd (nx F3 0):Nm)=y:=⟨_,rfl⟩
 rw[hyd]
 rw[show tN (nx F3 0)=y from hyd]at hyF
 have hy:qR y:=by rw[<-hyd];exact zh _
 have hcy:cS ec' [y]=c':=by
  have:=tT [y] wc' [] (fun z hz hm=>hyF (by
   simp only[aU]at hm
   rw[<-hm];exact hF3 z (.inl (by rw[<-tc'];exact hz))))
  rw[cY,tc']at this;exact this
 have hdy:cS ed' [y]=d':=by
  have:=tT [y] wd' [] (fun z hz hm=>hyF (by
   simp only[aU]at hm
   rw[<-hm];exact hF3 z (.inr (by rw[<-td'];exact hz))))
  rw[cY,td']at this;exact this
 have hyb:cS (.atom y) [y]=.bound 0:=by
  simp only[cS];rw[if_neg hy.2.1,if_neg hy.2.2,show bP y [y] [y].length=some 0 from fq y []]
 let o1:E:=.list [.atom [42],ed',.atom y]
 let o2:E:=.list [.atom [43],ec',o1]
 let o3:E:=.list [.atom dG,.atom y,o2]
 have hw3:Wf o3:=.rc hy (.plus wc' (.times wd' (.atom hy.1)))
 have ht3:cS o3 []=pV a x c d:=by
  show cS (.list [.atom dG,.atom y,o2]) []=_
  rw[fh]
  show Ty.rc (cS (.list [.atom [43],ec',o1]) [y])=_
  rw[dN]
  show Ty.rc (.plus (cS ec' [y]) (cS (.list [.atom [42],ed',.atom y]) [y]))=_
  rw[du,hcy,hdy,hyb,pV,e3,e4]
 have m1:=xz [42] ed' (.atom y)
 have m2:=xz [43] ec' o1
 have m3:=xz dG (.atom y) o2
 simp only[o1,bL,dT]at m1 m2 m3
 refine ai m1 ?_
 simp only[↓zq,zs,ae,zt,aL]
 repeat refine⟨by omega,?_⟩
 refine ai m2 ?_
 simp only[↓zq,zs,ae,zt,aL]
 repeat refine⟨by omega,?_⟩
 refine ai m3 ?_
 simp only[↓zq,zs,ae,zt,aL]
 repeat refine⟨by omega,?_⟩
 have z3:=hw3.sz
 have hats3:o3.dc=ec'.dc+ed'.dc+5:=by simp only[o3,o2,o1,E.dc,E.eW];omega
 have ma:=DZ o3 hw3.ok (by omega)
 rw[dj]at ma
 simp only[o3,o2,o1,bL]at ma
 refine ai ma ?_
 simp only[↓zq,zs,ae,zt]
 have hd3:(pV a x c d).atoms=o3.dc:=by rw[<-ht3,<-hw3.dc []]
 unfold nE
 by_cases hle:(pV a x c d).atoms<=400
 ·rw[if_pos hle]
  have:=lA.of hw3
  rw[ht3]at this
  rw[show decide ((((E.list [.atom dG,.atom y,.list [.atom [43],ec',.list [.atom [42],ed',.atom y]]]).dc:Nat):Int)<=400)=true from decide_eq_true (by show ((o3.dc:Nat):Int)<=400;omega)]
  exact this
 ·rw[if_neg hle]
  rw[show decide ((((E.list [.atom dG,.atom y,.list [.atom [43],ec',.list [.atom [42],ed',.atom y]]]).dc:Nat):Int)<=400)=false from decide_eq_false (by show ¬((o3.dc:Nat):Int)<=400;omega)]
  exact lA.no _ _ ((a6 o3).mpr trivial)
theorem At:∀n,SD n
 |0=>fun e s h hl=>by have:=er (cS e []);rw[<-h.dc []]at this;omega
 |
  n+1=>by
  intro e s h hl h4 hs
  cases h with
  |
   @atom c hc =>
   refine DN _ _ _ ((a6 _).mpr trivial) ?_
   simp only[Cp,dT,↓zq,zs,ae,zt]
   refine⟨fun _=>⟨fun he=>?_,fun hne=>?_⟩,fun h=>absurd h hc⟩
   ·have he:c=s:=he
    subst he
    rw[rp hs,ou,if_pos rfl]
    exact lA.of (e:=.atom [49]) (.atom (by simp))
   ·have hne:¬c=s:=hne
    have:lV (cS (.atom c) []) s=some .zero:=by
     simp only[cS]
     split
     ·exact we _
     ·split
      ·exact yg _
      ·rw[show bP c [] ([]:List Nm).length=none from rfl,ou,if_neg hne]
    rw[this]
    exact lA.of (e:=.atom [48]) (.atom (by simp))
  |
   @plus x y hx hy =>
   have hxy:(E.list [.atom [43],x,y]).dc=x.dc+y.dc+1:=by simp only[E.dc,E.eW];omega
   have p1:1<=x.dc:=by rw[hx.dc []];exact er _
   have p2:1<=y.dc:=by rw[hy.dc []];exact er _
   refine DN _ _ _ ((a6 _).mpr trivial) ?_
   have hP:=P3.of (.atom [43]) x y
   simp only[Cp,bL,toNat_one,bg,↓zq,zs,ae,zt,hP.1,hP.2.1,hP.2.2.1,hP.2.2.2,aL]
   refine⟨fun h=>absurd rfl h,fun _=>?_⟩
   refine ai (od [43] x y) ?_
   simp only[↓zq,zs,ae,zt]
   refine⟨fun h=>by simp at h,fun _=>?_⟩
   repeat refine⟨by omega,?_⟩
   rw[dN,vO]
   refine aP (At n x s hx (by omega) (by omega) hs) (lA.ne (km hx)) ?_
   rintro r o ⟨rfl,c1,d1,hd1,rfl,hc1⟩
   simp only[↓zq,zs,ae,zt,gD hd1]
   repeat refine⟨by omega,?_⟩
   refine aP (At n y s hy (by omega) (by omega) hs) (lA.ne (km hy)) ?_
   rintro r o ⟨rfl,c2,d2,hd2,rfl,hc2⟩
   simp only[↓zq,zs,ae,zt,gD hd2]
   refine ai (A5 [43] c1 c2 d1 d2) ?_
   simp only[↓zq,zs,ae,zt,bF,dY,cc]
   repeat refine⟨by omega,?_⟩
   refine ai (od [43] x y) ?_
   simp only[↓zq,zs,ae,zt]
   refine⟨fun h=>by simp at h,fun _=>?_⟩
   cases q1:lV (cS x []) s with
   |
    none =>
    simp only[bu,bI]
    exact⟨fun h=>(by cases h),fun _=>lA.no _ _ ((cc _).mpr trivial)⟩
   |some tx =>
   cases q2:lV (cS y []) s with
   |
    none =>
    simp only[bu,aZ,bI,aW]
    exact⟨fun _=>⟨fun h=>(by cases h),fun _=>lA.no _ _ ((cc _).mpr trivial)⟩,fun h=>(by cases h)⟩
   |some t2 =>
   simp only[aZ,aW]
   refine⟨fun _=>⟨fun _=>?_,fun h=>(by cases h)⟩,fun h=>(by cases h)⟩
   obtain⟨e1,w1,te1,rfl,rfl⟩:=hc1 tx q1
   obtain⟨e2,w2,te2,rfl,rfl⟩:=hc2 t2 q2
   have l1:=w1.iU te1 (cR.1 q1).small
   have l2:=w2.iU te2 (cR.1 q2).small
   have z1:=w1.sz
   have z2:=w2.sz
   have hw3:Wf (.list [.atom [43],e1,e2]):=.plus w1 w2
   have ht3:cS (.list [.atom [43],e1,e2]) []=.plus tx t2:=by rw[dN,te1,te2]
   have ma:=DZ _ hw3.ok (by simp only[E.sz,E.jt];omega)
   rw[dj]at ma
   simp only[bL]at ma
   have e3:AV.sl [[.v (.string (mk [43])),zi],[.v (.string (mk e1.at)),e1.sp],[.v (.string (mk e2.at)),e2.sp]]=(E.list [.atom [43],e1,e2]).sp:=by simp only[E.sp,E.bw,fM];rfl
   rw[e3]
   refine ai ma ?_
   simp only[↓zq,zs,ae,zt]
   have hd3:(Ty.plus tx t2).atoms=(E.list [.atom [43],e1,e2]).dc:=by rw[<-ht3,<-hw3.dc []]
   unfold nE
   by_cases hle:(Ty.plus tx t2).atoms<=400
   ·rw[if_pos hle,show decide ((((E.list [.atom [43],e1,e2]).dc:Nat):Int)<=400)=true from decide_eq_true (by omega)]
    have:=lA.of hw3
    rw[ht3]at this
    exact this
   ·rw[if_neg hle,show decide ((((E.list [.atom [43],e1,e2]).dc:Nat):Int)<=400)=false from decide_eq_false (by omega)]
    exact lA.no _ _ ((a6 _).mpr trivial)
  |
   @times x y hx hy =>
   have hxy:(E.list [.atom [42],x,y]).dc=x.dc+y.dc+1:=by simp only[E.dc,E.eW];omega
   have p1:1<=x.dc:=by rw[hx.dc []];exact er _
   have p2:1<=y.dc:=by rw[hy.dc []];exact er _
   refine DN _ _ _ ((a6 _).mpr trivial) ?_
   have hP:=P3.of (.atom [42]) x y
   simp only[Cp,bL,toNat_one,bg,↓zq,zs,ae,zt,hP.1,hP.2.1,hP.2.2.1,hP.2.2.2,aL]
   refine⟨fun h=>absurd rfl h,fun _=>?_⟩
   refine ai (od [42] x y) ?_
   simp only[↓zq,zs,ae,zt]
   refine⟨fun h=>by simp at h,fun _=>?_⟩
   repeat refine⟨by omega,?_⟩
   rw[du,tA]
   refine aP (At n x s hx (by omega) (by omega) hs) (lA.ne (km hx)) ?_
   rintro r o ⟨rfl,c1,d1,hd1,rfl,hc1⟩
   simp only[↓zq,zs,ae,zt,gD hd1]
   repeat refine⟨by omega,?_⟩
   refine aP (At n y s hy (by omega) (by omega) hs) (lA.ne (km hy)) ?_
   rintro r o ⟨rfl,c2,d2,hd2,rfl,hc2⟩
   simp only[↓zq,zs,ae,zt,gD hd2]
   refine ai (A5 [43] c1 c2 d1 d2) ?_
   simp only[↓zq,zs,ae,zt,bF,dY,cc]
   repeat refine⟨by omega,?_⟩
   refine ai (od [42] x y) ?_
   simp only[↓zq,zs,ae,zt]
   refine⟨fun _=>?_,fun h=>by simp at h⟩
   repeat refine⟨by omega,?_⟩
   refine ai (A5 [42] c1 y.at d1 y.sp) ?_
   simp only[↓zq,zs,ae,zt,bF,dY,cc,a6]
   repeat refine⟨by omega,?_⟩
   refine ai (A5 [42] x.at c2 x.sp d2) ?_
   simp only[↓zq,zs,ae,zt,bF,dY,cc,a6]
   repeat refine⟨by omega,?_⟩
   refine ai (A5 [43] [] [] _ _) ?_
   simp only[↓zq,zs,ae,zt,bF,dY,cc]
   repeat refine⟨by omega,?_⟩
   cases q1:lV (cS x []) s with
   |
    none =>
    simp only[bu,bI]
    exact⟨fun h=>(by cases h),fun _=>lA.no _ _ ((cc _).mpr trivial)⟩
   |some tx =>
   cases q2:lV (cS y []) s with
   |
    none =>
    simp only[bu,aZ,bI,aW]
    exact⟨fun _=>⟨fun h=>(by cases h),fun _=>lA.no _ _ ((cc _).mpr trivial)⟩,fun h=>(by cases h)⟩
   |some t2 =>
   simp only[aZ,aW]
   refine⟨fun _=>⟨fun _=>?_,fun h=>(by cases h)⟩,fun h=>(by cases h)⟩
   obtain⟨e1,w1,te1,rfl,rfl⟩:=hc1 tx q1
   obtain⟨e2,w2,te2,rfl,rfl⟩:=hc2 t2 q2
   have l1:=w1.iU te1 (cR.1 q1).small
   have l2:=w2.iU te2 (cR.1 q2).small
   have z1:=w1.sz
   have z2:=w2.sz
   have z3:=hx.sz
   have z4:=hy.sz
   have hw3:Wf (.list [.atom [43],.list [.atom [42],e1,y],.list [.atom [42],x,e2]]):=.plus (.times w1 hy) (.times hx w2)
   have ht3:cS (.list [.atom [43],.list [.atom [42],e1,y],.list [.atom [42],x,e2]]) []=.plus (.times tx (cS y [])) (.times (cS x []) t2):=by rw[dN,du,du,te1,te2]
   have ma:=DZ _ hw3.ok (by simp only[E.sz,E.jt];omega)
   rw[dj]at ma
   simp only[bL]at ma
   have e3:AV.sl [[.v (.string (mk [43])),zi],[.v (.string (mk [])),.sl [[.v (.string (mk [42])),zi],[.v (.string (mk e1.at)),e1.sp],[.v (.string (mk y.at)),y.sp]]],[.v (.string (mk [])),.sl [[.v (.string (mk [42])),zi],[.v (.string (mk x.at)),x.sp],[.v (.string (mk e2.at)),e2.sp]]]]=(E.list [.atom [43],.list [.atom [42],e1,y],.list [.atom [42],x,e2]]).sp:=by simp only[E.sp,E.bw,fM];rfl
   rw[e3]
   refine ai ma ?_
   simp only[↓zq,zs,ae,zt]
   have hd3:(Ty.plus (.times tx (cS y [])) (.times (cS x []) t2)).atoms=(E.list [.atom [43],.list [.atom [42],e1,y],.list [.atom [42],x,e2]]).dc:=by rw[<-ht3,<-hw3.dc []]
   unfold nE
   by_cases hle:(Ty.plus (.times tx (cS y [])) (.times (cS x []) t2)).atoms<=400
   ·rw[if_pos hle,show decide ((((E.list [.atom [43],.list [.atom [42],e1,y],.list [.atom [42],x,e2]]).dc:Nat):Int)<=400)=true from decide_eq_true (by omega)]
    have:=lA.of hw3
    rw[ht3]at this
    exact this
   ·rw[if_neg hle,show decide ((((E.list [.atom [43],.list [.atom [42],e1,y],.list [.atom [42],x,e2]]).dc:Nat):Int)<=400)=false from decide_eq_false (by omega)]
    exact lA.no _ _ ((a6 _).mpr trivial)
  |
   @rc m B hm hB =>
   have hlp:=Sj n (At n) m B hm hB hl h4 s hs
   have hg:=km (s:=s) (Wf.rc hm hB)
   refine DN _ _ _ ((a6 _).mpr trivial) ?_
   have hP:=P3.of (.atom dG) (.atom m) B
   simp only[Cp,bL,toNat_one,bg,↓zq,zs,ae,zt,hP.1,hP.2.1,hP.2.2.1,hP.2.2.2,aL]
   refine⟨fun h=>absurd rfl h,fun _=>?_⟩
   refine ai (od dG (.atom m) B) ?_
   simp only[↓zq,zs,ae,zt]
   refine⟨fun _=>?_,fun h=>absurd rfl h⟩
   refine aP hlp (lA.ne hg) ?_
   rintro r o ⟨rfl,c1,d1,hd1,rfl,hc1⟩
   simp only[↓zq,zs,ae,zt,gD hd1]
   exact⟨rfl,c1,d1,hd1,rfl,hc1⟩
end Go.Proofs.Trees
namespace Go.Proofs.Trees
open Go Go.VL Go.RowKit
theorem oT:∀(n k:Nat),k<10 ^ (n+1)->(dd k).length<=n+1
 |0,k,h=>by rw[eI (by omega)];simp
 |
  n+1,k,h=>by
  by_cases h1:k<10
  ·rw[eI h1];simp
  ·rw[fR h1]
   have:=oT n (k/10) (by
    have:10 ^ (n+1+1)=10*10 ^ (n+1):=by rw[Nat.pow_succ,Nat.mul_comm]
    omega)
   simp;omega
inductive Sh:E->Prop
 |atom {s:Nm} (h:s.length<=20):Sh (.atom s)
 |l3 {h:Nm} {a b:E} (hh:h.length<=20) (ha:Sh a) (hb:Sh b):Sh (.list [.atom h,a,b])
theorem Sh.cw{e:E}(hw:Wf e)(h:Sh e):(e9 e).length<=50*e.dc:=by
 induction hw with
 |atom _=>cases h with|atom h=>simp only[e9,E.dc];omega
 |
  plus _ _ i1 i2 =>
  cases h with|l3 hh ha hb =>
  have:=i1 ha
  have:=i2 hb
  simp only[e9,ej,az,aq,aG,E.dc,E.eW];omega
 |
  times _ _ i1 i2 =>
  cases h with|l3 hh ha hb =>
  have:=i1 ha
  have:=i2 hb
  simp only[e9,ej,az,aq,aG,E.dc,E.eW];omega
 |
  rc _ _ i =>
  cases h with|l3 hh ha hb =>
  cases ha with|atom ha =>
  have:=i hb
  simp only[e9,ej,az,aq,aG,E.dc,E.eW];omega
def vd(t:Ty):Prop:=∀y,bn y t=true->y.length<=20
theorem wE{k:Nat}(h:k<100000000):(tN k).length<=20:=by
 have:=oT 7 k (by omega)
 simp;omega
theorem pH(F:List Nm)(hF:F.length<=10000):∀(t:Ty) (to:List Nm) (k:Nat),vd t->(∀w,w∈to->w.length<=20)->k+(F.length+1)*t.atoms<90000000->Sh (gU F t to k).1
 | .zero,_,_,_,_,_=>.atom (by simp)
 | .one,_,_,_,_,_=>.atom (by simp)
 | .name s,_,_,hn,_,_=>.atom (hn s (by simp[bn]))
 |
  .bound u,to,_,_,ht,_=>by
  refine .atom ?_
  show (gl to u).length<=20
  unfold gl
  by_cases h:to.length-1-u<to.length
  ·rw[aa,bp h];exact ht _ (bD h)
  ·rw[aa,List.getElem?_eq_none (by omega)];simp
 |
  .plus a b,to,k,hn,ht,hk=>by
  have h1:=ik F a to k
  have:(F.length+1)*(1+a.atoms+b.atoms)=(F.length+1)+(F.length+1)*a.atoms+(F.length+1)*b.atoms:=by simp only[cU,dI]
  simp only[Ty.atoms]at hk
  exact .l3 (by simp) (pH F hF a to k (fun y hy=>hn y (by simp[bn,hy])) ht (by omega)) (pH F hF b to _ (fun y hy=>hn y (by simp[bn,hy])) ht (by omega))
 |
  .times a b,to,k,hn,ht,hk=>by
  have h1:=ik F a to k
  have:(F.length+1)*(1+a.atoms+b.atoms)=(F.length+1)+(F.length+1)*a.atoms+(F.length+1)*b.atoms:=by simp only[cU,dI]
  simp only[Ty.atoms]at hk
  exact .l3 (by simp) (pH F hF a to k (fun y hy=>hn y (by simp[bn,hy])) ht (by omega)) (pH F hF b to _ (fun y hy=>hn y (by simp[bn,hy])) ht (by omega))
 |
  .rc a,to,k,hn,ht,hk=>by
  obtain⟨g1,g2,_,_⟩:=gC F k
  have:(F.length+1)*(2+a.atoms)=(F.length+1)*2+(F.length+1)*a.atoms:=by simp only[cU]
  simp only[Ty.atoms]at hk
  have hl:=wE (k:=nx F k) (by omega)
  exact .l3 (by simp) (.atom hl) (pH F hF a _ _ hn (fun w hw=>by
   rcases aN.1 hw with hw|hw
   ·exact ht w hw
   ·simp only[aU]at hw;rw[hw];exact hl) (by omega))
def E0(t:Ty):Nm:=e9 (gU (bO t []) t [] 0).1
def told(t:Ty):Option Nm:=if t.atoms<=400/\(qJ (E0 t)).isSome=true then some (E0 t)else none
theorem Ea{t:Ty}(g:fV t)(hs:vd t)(ha:t.atoms<=400):(E0 t).length<=20000:=by
 obtain⟨h1,h2,_⟩:=kG (bO t []) t [] 0 (.nil _ _) g.1 fun y hy=>⟨(eQ t [] y).2 (.inr hy),g.2 y hy⟩
 have hn:=eB t []
 simp only[aG,aY]at hn
 have hm:((bO t []).length+1)*t.atoms<=401*400:=Nat.mul_le_mul (by omega) ha
 have:=(pH (bO t []) (by omega) t [] 0 hs (fun w hw=>by cases hw) (by omega)).cw h1
 have:=h1.iU h2 ha
 unfold E0;omega
theorem ua(s:Nm):(wC s).isSome=(qJ s).isSome:=by
 rw[uW]
 cases he:wC s with
 |none=>rfl
 |
  some e =>
  obtain⟨h1,h2,h3⟩:=pL he
  simp only[iY e [],h2];rfl
theorem PQ(s:Nm):an Tryz.prog 124 [.v (.string (mk s))] [] (bJ (.v (.bool (qJ s).isSome))):=by
 refine PZ _ ?_
 unfold JA
 refine aP (HM s) (jI.ne _ _ (fun h=>h)) ?_
 rintro r o ⟨c,d,hd,rfl,hh⟩
 have hhas:bF [.str,.sl] [.v (.string (mk c)),d] 0:=by simp[bF,dY,hd]
 simp only[↓zq,zs,ae,zt,ua]
 exact⟨hhas,rfl,rfl⟩
theorem Rq{e:E}(h:Wf e)(hl:e.dc<=400)(hs:vd (cS e [])):an Tryz.prog 93 [.agg [.v (.string (mk e.at)),e.sp]] [] (bJ (uO (told (cS e [])))):=by
 refine RC _ _ ((a6 _).mpr trivial) ?_
 unfold JO
 have z:=h.sz
 have ma:=DZ e h.ok (by omega)
 rw[dj]at ma
 have hA:=EF h zi [] ⟨(bh).mpr trivial,rfl⟩ (by omega) (fun o ho=>by cases ho) (by simp)
 have ha:(cS e []).atoms<=400:=by rw[<-h.dc []];exact hl
 have hc:Aa e []=(gU (bO (cS e []) []) (cS e []) [] 0).1:=by
  unfold Aa AD sn
  rw[List.flatMap_nil,cY,jK (F':=bO (cS e []) []) fun y=>by rw[lH h,eQ]]
 have hx:e9 (Aa e [])=E0 (cS e []):=by rw[hc];rfl
 have hlen:=Ea h.qA hs ha
 have hT:=CX (Aa e []) (xk h).1.ok (by rw[hx];omega)
 rw[dj,hx]at hT
 refine ai ma ?_
 simp only[↓zq,zs,ae,zt]
 refine⟨fun h=>by omega,fun _=>?_⟩
 refine ai hA ?_
 simp only[↓zq,zs,ae,zt,aL]
 refine ai hT ?_
 simp only[↓zq,zs,ae,zt]
 refine ai (PQ _) ?_
 simp only[↓zq,zs,ae,zt]
 unfold told
 refine⟨fun hn=>?_,fun hy=>?_⟩
 ·rw[if_neg (by rw[hn];simp)];exact⟨rfl,rfl⟩
 ·rw[if_pos ⟨ha,hy⟩];exact⟨rfl,rfl⟩
abbrev l9:Nm:=[35,49]
noncomputable def cF (s:Nm):Option Nm:=match qJ s with
 |some (.rc a)=>(oe a l9).bind told
 |_=>none
theorem nX{s:Nm}{t:Ty}(h:qJ s=some t):∃e,wC s=some e/\Wf e/\cS e []=t/\e.dc<=400/\e.ok:=by
 rw[uW]at h
 cases he:wC s with
 |none=>rw[he]at h;cases h
 |
  some e =>
  rw[he]at h
  obtain⟨h1,h2,h3⟩:=pL he
  obtain⟨hok,_⟩:=nM h1
  obtain⟨w1,w2⟩:=kp e [] t hok (fun w hw=>by cases hw) h
  exact⟨e,rfl,w1,w2,h3,hok⟩
theorem rP{e:E}{x:Nm}{a d:Ty}(hw:Wf e)(ht:cS e []=.rc a)(hx:qR x)(hd:oe a x=some d):fV d/\(vd (.rc a)->vd d):=by
 simp only[oe,aX,cR,eN]at hd
 obtain⟨d',h1,_,rfl⟩:=hd
 have g:fV (.rc a):=ht ▸ hw.qA
 have go:fV (dC (.name x) a 0):=⟨gF x a g.1,fun y hy=>by
  rcases gx a 0 hy with rfl|h
  ·exact hx
  ·exact g.2 y h⟩
 refine⟨g.sub (go.dv h1),fun hs y hy=>?_⟩
 rcases jb _ hy with h|⟨h,h'⟩
 ·exact hs y h
 ·rcases gx a 0 (h1.names y h')with e|e
  ·exact absurd e h
  ·exact hs y e
def Ja(y:Nm):Prop:=gT y=true\/dm y=true
theorem i6:∀(e:E) (ar:List Nm) (t:Ty),cT e ar=some t->∀y,bn y t=true->Ja y
 |
  .atom s,ar,t,ht,y,hy=>by
  simp only[cT]at ht
  split at ht
  ·cases ht;cases hy
  ·split at ht
   ·cases ht;cases hy
   ·split at ht
    ·rename_i hp
     cases ht
     simp only[bn,decide_eq_true_eq]at hy
     subst hy;exact .inl hp
    ·split at ht
     ·rename_i hq
      split at ht
      ·cases ht;cases hy
      ·cases ht
       simp only[bn,decide_eq_true_eq]at hy
       subst hy;exact .inr hq
     ·cases ht
 |
  .list [x,a,b],ar,t,ht,y,hy=>by
  by_cases h0:x.at=[43]
  ·obtain⟨t1,t2,h1,h2,rfl⟩:=fL h0 ht
   simp only[bn,bC]at hy
   rcases hy with hy|hy
   ·exact i6 a ar t1 h1 y hy
   ·exact i6 b ar t2 h2 y hy
  ·by_cases h1:x.at=[42]
   ·obtain⟨t1,t2,h2,h3,rfl⟩:=fk h1 ht
    simp only[bn,bC]at hy
    rcases hy with hy|hy
    ·exact i6 a ar t1 h2 y hy
    ·exact i6 b ar t2 h3 y hy
   ·by_cases h2:x.at=[114,101,99]
    ·obtain⟨t1,hla,h3,rfl⟩:=dy h2 ht
     exact i6 b _ t1 h3 y hy
    ·rw[je _ h0 h1 h2]at ht;cases ht
 | .list [],ar,t,ht,_,_=>by cases ht
 | .list [_],ar,t,ht,_,_=>by cases ht
 | .list [_,_],ar,t,ht,_,_=>by cases ht
 | .list (_::_::_::_::_),ar,t,ht,_,_=>by cases ht
theorem xE{y:Nm}(h:Ja y):y.length<=3/\∀r,y≠35::r:=by
 have key:∀lo hi,116<=lo->named lo hi y=true->y.length<=3/\∀r,y≠35::r:=fun lo hi hlo h=>by
  cases y with
  |nil=>cases h
  |
   cons c r =>
   simp only[named,aw,decide_eq_true_eq]at h
   refine⟨by simp;omega,fun r' e=>?_⟩
   have:c=35:=by injection e
   subst this
   have:=h.1.2.1
   have e35:(35:UInt8).toNat=35:=rfl
   omega
 rcases h with h|h
 ·exact key 120 122 (by omega) h
 ·exact key 116 116 (by omega) h
theorem np{s:Nm}{t:Ty}(h:qJ s=some t):∀y,bn y t=true->Ja y:=by
 rw[uW]at h
 cases he:wC s with
 |none=>rw[he]at h;cases h
 |some e=>rw[he]at h;exact i6 e [] t h
theorem uc{s:Nm}{a:Ty}(h:qJ s=some (.rc a)):bn l9 a=false:=by
 cases q:bn l9 a with
 |false=>rfl
 |true=>exact absurd rfl ((xE (np h l9 q)).2 [49])
theorem BU{s:Nm}{t:Ty}(h:qJ s=some t):vd t:=fun y hy=>by have:=(xE (np h y hy)).1;omega
theorem Rr{m:Nm}{B:E}(hm:qR m)(hB:Wf B)(hl:(E.list [.atom dG,.atom m,B]).dc<=400):an Tryz.prog 92 [.agg [.v (.string (mk [])),(E.list [.atom dG,.atom m,B]).sp]] [] (lA (oe (cS B [m]) m)):=by
 have hw:Wf (.list [.atom dG,.atom m,B]):=.rc hm hB
 have hT:cS (.list [.atom dG,.atom m,B]) []=.rc (cS B [m]):=fh _ _ _
 have hP:=P3.of (.atom dG) (.atom m) B
 have hbo:cS B []=dC (.name m) (cS B [m]) 0:=by
  have:=yM m hB []
  rw[cY]at this;exact this
 have hba:B.dc+2=(E.list [.atom dG,.atom m,B]).dc:=by simp only[E.dc,E.eW];omega
 have i1:=At 400 B m hB (by omega) (by omega) hm
 have n1:=km (s:=m) hB
 rw[hbo]at i1 n1
 refine Q4 _ _ ((a6 _).mpr trivial) ?_
 simp only[KO,bL,toNat_one,bg,↓zq,zs,ae,zt,hP.1,hP.2.1,hP.2.2.1,hP.2.2.2,aL,dT]
 repeat refine⟨by omega,?_⟩
 refine aP i1 (lA.ne n1) ?_
 rintro r o ⟨rfl,c1,d1,hd1,rfl,hc1⟩
 simp only[↓zq,zs,ae,zt,gD hd1,oe]
 cases q1:lV (dC (.name m) (cS B [m]) 0) m with
 |
  none =>
  simp only[bu,bI]
  exact⟨fun _=>lA.no _ _ ((a6 _).mpr trivial),fun h=>(by cases h)⟩
 |
  some d =>
  simp only[aZ,aW]
  refine⟨fun h=>(by cases h),fun _=>?_⟩
  obtain⟨ed,wd,td,rfl,rfl⟩:=hc1 d q1
  have p1:=Iy hm wd hw (wd.iU td (cR.1 q1).small) hl
  have g1:=rj (hw.qA.sub (x:=m) wd.qA)
  rw[hT,td]at p1 g1
  simp only[bL]at p1
  repeat refine⟨by omega,?_⟩
  refine aP p1 (lA.ne g1) ?_
  rintro r o ⟨rfl,c2,d2,hd2,rfl,hc2⟩
  simp only[↓zq,zs,ae,zt,gD hd2]
  exact⟨rfl,c2,d2,hd2,rfl,hc2⟩
theorem MP(s:Nm):an Tryz.prog 66 [.v (.string (mk s))] [] (bJ (uO (cF s))):=by
 refine Qr _ ?_
 unfold Oc
 refine aP (HM s) (jI.ne _ _ (fun h=>h)) ?_
 rintro r o ⟨c,d,hd,rfl,hh⟩
 have hhas:bF [.str,.sl] [.v (.string (mk c)),d] 0:=by simp[bF,dY,hd]
 simp only[↓zq,zs,ae,zt]
 refine⟨hhas,fun h=>?_,fun h=>?_⟩
 ·rw[ua]at h
  have:qJ s=none:=by cases hq:qJ s<;>simp[hq]at h |-
  unfold cF;rw[this];exact⟨rfl,rfl⟩
 ·rw[ua]at h
  obtain⟨t,ht⟩:=cb.1 h
  obtain⟨e,he,hw,hte,hats,hok⟩:=nX ht
  obtain⟨e',he',hce⟩:=hh (by rw[he];rfl)
  rw[he]at he';cases he'
  have notRec:(∀a,t≠.rc a)->cF s=none:=fun hn=>by
   unfold cF;rw[ht]
   cases t<;>first|rfl|exact absurd rfl (hn _)
  rw[hce,dj]
  cases hw with
  |
   @atom c hc =>
   have hn:cF s=none:=notRec fun a q=>by
    rw[<-hte]at q
    simp only[cS]at q
    split at q
    ·cases q
    ·split at q
     ·cases q
     ·split at q<;>cases q
   rw[hn]
   refine ai (zY c _ ((a6 _).mpr trivial) hc) ?_
   simp only[↓zq,zs,ae,zt]
   exact⟨fun _=>⟨rfl,rfl⟩,fun h=>by simp at h⟩
  |
   @plus x y hx hy =>
   have hn:cF s=none:=notRec fun a q=>by rw[<-hte,dN]at q;cases q
   rw[hn]
   simp only[bL]
   refine ai (od [43] x y) ?_
   simp only[↓zq,zs,ae,zt]
   exact⟨fun _=>⟨rfl,rfl⟩,fun h=>by simp at h⟩
  |
   @times x y hx hy =>
   have hn:cF s=none:=notRec fun a q=>by rw[<-hte,du]at q;cases q
   rw[hn]
   simp only[bL]
   refine ai (od [42] x y) ?_
   simp only[↓zq,zs,ae,zt]
   exact⟨fun _=>⟨rfl,rfl⟩,fun h=>by simp at h⟩
  |
   @rc m B hm hB =>
   have hrt:cS (.list [.atom dG,.atom m,B]) []=.rc (cS B [m]):=fh _ _ _
   rw[hrt]at hte
   have hq:cF s=(oe (cS B [m]) m).bind told:=by
    unfold cF;rw[ht,<-hte]
    show (oe (cS B [m]) l9).bind told=_
    rw[Gu (uc (by rw[ht,<-hte])) (by
     cases q:bn m (cS B [m])with
     |false=>rfl
     |true=>exact absurd (by simp) (nk hB [m] m q).2)]
   rw[hq]
   simp only[bL]
   refine ai (od dG (.atom m) B) ?_
   simp only[↓zq,zs,ae,zt]
   refine⟨fun h=>by simp at h,fun _=>?_⟩
   have hgood:∀d,oe (cS B [m]) m=some d->fV d/\(vd (.rc (cS B [m]))->vd d):=fun d hd=>rP (Wf.rc hm hB) hrt hm hd
   refine aP (Rr hm hB hats) (lA.ne fun t h=>(hgood t h).1) ?_
   rintro r o ⟨rfl,c1,d1,hd1,rfl,hc1⟩
   simp only[↓zq,zs,ae,zt,gD hd1]
   cases q1:oe (cS B [m]) m with
   |
    none =>
    simp only[bu,bI]
    exact⟨fun _=>⟨rfl,rfl⟩,fun h=>(by cases h)⟩
   |
    some d =>
    simp only[aZ,aW]
    refine⟨fun h=>(by cases h),fun _=>?_⟩
    obtain⟨ed,wd,td,rfl,rfl⟩:=hc1 d q1
    have hl:d.atoms<=400:=by
     simp only[oe,aX,eN]at q1
     obtain⟨_,_,h1,h2⟩:=q1
     rw[<-h2];exact h1
    have hcn:=Rq wd (wd.iU td hl) (by rw[td];exact(hgood d q1).2 (hte ▸ BU ht))
    rw[td]at hcn
    refine ai hcn ?_
    cases told d<;>simp only[uO,↓zq,zs,ae,zt]<;>exact⟨rfl,rfl⟩
end Go.Proofs.Trees
namespace Go.Proofs.Trees
open Go Go.VL Go.RowKit
def vT(n:Nat):Vl->Ty->Bool
 | .u,.one=>true
 | .el k,.name _=>decide (k<n)
 | .l w,.plus a _=>vT n w a
 | .r w,.plus _ b=>vT n w b
 | .p x y,.times a b=>vT n x a&&vT n y b
 | .f w,.rc a=>vT n w (dC (.rc a) a 0)
 |_,_=>false
def cls(us:List Ty):Ty->Nat->Ty
 | .bound k,i=>if k<i then .bound k else us.getD (k-i) .zero
 | .plus a b,i=>.plus (cls us a i) (cls us b i)
 | .times a b,i=>.times (cls us a i) (cls us b i)
 | .rc a,i=>.rc (cls us a (i+1))
 |t,_=>t
def xJ:List Fr->List Ty
 |[]=>[]
 |f::r=>cls (xJ r) (xH f.ex r) 0::xJ r
theorem lQ(u:Ty):∀(t:Ty) {i:Nat},jx t i->dC u t i=t
 | .bound k,i,h=>by simp only[dC];rw[if_neg (by have:k<i:=h;omega)]
 | .plus a b,i,h=>by simp only[dC];rw[lQ u a h.1,lQ u b h.2]
 | .times a b,i,h=>by simp only[dC];rw[lQ u a h.1,lQ u b h.2]
 | .rc a,i,h=>by simp only[dC];rw[lQ u a (i:=i+1) h]
 | .zero,_,_=>rfl
 | .one,_,_=>rfl
 | .name _,_,_=>rfl
theorem pZ(us:List Ty):∀(t:Ty) {i:Nat},jx t i->cls us t i=t
 | .bound k,i,h=>by simp only[cls];rw[if_pos (by have:k<i:=h;omega)]
 | .plus a b,i,h=>by simp only[cls];rw[pZ us a h.1,pZ us b h.2]
 | .times a b,i,h=>by simp only[cls];rw[pZ us a h.1,pZ us b h.2]
 | .rc a,i,h=>by simp only[cls];rw[pZ us a (i:=i+1) h]
 | .zero,_,_=>rfl
 | .one,_,_=>rfl
 | .name _,_,_=>rfl
theorem yd{us:List Ty}(hu:∀u,u∈us->jx u 0)(k:Nat):jx (us.getD k .zero) 0:=by
 by_cases h:k<us.length
 ·rw[aa,bp h];exact hu _ (bD h)
 ·rw[aa,List.getElem?_eq_none (by omega)];trivial
theorem p5{us:List Ty}(hu:∀u,u∈us->jx u 0):∀(t:Ty) (i:Nat),jx (cls us t i) i
 |
  .bound k,i=>by
  simp only[cls]
  split
  ·rename_i h;exact h
  ·exact gA _ (yd hu _) (dQ _)
 | .plus a b,i=>⟨p5 hu a i,p5 hu b i⟩
 | .times a b,i=>⟨p5 hu a i,p5 hu b i⟩
 | .rc a,i=>p5 hu a (i+1)
 | .zero,_=>trivial
 | .one,_=>trivial
 | .name _,_=>trivial
theorem nt{us:List Ty}(hu:∀u,u∈us->jx u 0)(U:Ty):∀(t:Ty) (i:Nat),dC U (cls us t (i+1)) i=cls (U::us) t i
 |
  .bound k,i=>by
  simp only[cls]
  by_cases h1:k<i
  ·rw[if_pos (by omega),if_pos h1];simp only[dC];rw[if_neg (by omega)]
  ·rw[if_neg h1]
   by_cases h2:k=i
   ·subst h2;rw[if_pos (by omega)];simp[dC]
   ·rw[if_neg (by omega),lQ U _ (gA _ (yd hu _) (dQ _)),show k-i=(k-(i+1))+1 by omega,List.getD_cons_succ]
 | .plus a b,i=>by simp only[cls,dC];rw[nt hu U a i,nt hu U b i]
 | .times a b,i=>by simp only[cls,dC];rw[nt hu U a i,nt hu U b i]
 | .rc a,i=>by simp only[cls,dC];rw[nt hu U a (i+1)]
 | .zero,_=>rfl
 | .one,_=>rfl
 | .name _,_=>rfl
theorem xg:∀env:List Fr,∀u,u∈xJ env->jx u 0
 |[],u,h=>by cases h
 |
  f::r,u,h=>by
  rcases aK.1 h with rfl|h
  ·exact p5 (xg r) _ 0
  ·exact xg r u h
theorem DC{env:List Fr}(h:WF env):∀{u:Nat} {g:Fr},env[u]?=some g->(xJ env).getD u .zero=cls (xJ g.out) (xH g.ex g.out) 0:=by
 induction h with
 |nil=>intro u g hg;simp at hg
 |
  cons hs hok hx ht hf hr ih =>
  intro u g hg
  cases u with
  |zero=>simp at hg;subst hg;rfl
  |
   succ u =>
   have:=ih (u:=u) (g:=g) (by simpa using hg)
   simpa[xJ]using this
theorem pF(n:Nat):∀(m:Nat) (v:Vl),v.nodes<=m->∀(e:E) (env:List Fr) (t:Ty),Ask e env t->eX n v (e,env)=vT n v (cls (xJ env) t 0)
 |0,v,hm=>by have:=dw v;omega
 |
  m+1,v,hm=>by
  intro e env t A
  have recCase:∀(x a b:E) (env:List Fr) (t1:Ty),Ask (.list [x,a,b]) env (.rc t1)->x.at=[114,101,99]->eX n v (.list [x,a,b],env)=vT n v (cls (xJ env) (.rc t1) 0):=by
   intro x a b env t1 A hx
   have hhd:hd (.list [x,a,b]) env=(.list [x,a,b],env):=pY A.wf
   obtain⟨t1',he1,h1,f1,hw1⟩:=jm A.wf A.ok hx A.ty A.cl
   cases he1
   obtain⟨ok1,ok2,ok3,_⟩:=A.ok
   have A':Ask b (.mk a.at (.list [x,a,b]) env::env) t1:=⟨ok3,hw1,h1,f1⟩
   cases v with
   |
    f w =>
    simp only[Vl.nodes]at hm
    simp only[eX,hhd,hx,beq_self_eq_true,bW]
    rw[pF n m w (by omega) b _ t1 A']
    have hty:xH (.list [x,a,b]) env=.rc t1:=by unfold xH;rw[A.ty];rfl
    show vT n w (cls (cls (xJ env) (xH (.list [x,a,b]) env) 0::xJ env) t1 0)=vT n w (dC (.rc (cls (xJ env) t1 1)) (cls (xJ env) t1 1) 0)
    rw[hty,nt (xg env)]
    rfl
   |_=>simp[eX,hhd,hx,cls,vT]
  rcases gv A.wf A.ty with⟨hb,hq⟩|⟨u,g,rfl,hq,hu⟩
  ·have hhd:hd e env=(e,env):=ka hq
   rcases fG A.ty hb A.cl with⟨rfl,rfl⟩|⟨rfl,rfl⟩|⟨s,rfl,rfl,hp,h0,h1⟩|⟨x,a,b,t1,t2,rfl,hx,rfl,ha,hbb⟩|⟨x,a,b,t1,t2,rfl,hx,rfl,ha,hbb⟩|⟨x,a,b,t1,rfl,hx,rfl⟩
   ·have hp0:gT [48]=false:=rfl
    cases v<;>simp[eX,hhd,cls,vT,hp0]
   ·cases v<;>simp[eX,hhd,cls,vT]
   ·cases v<;>simp[eX,hhd,cls,vT,hp,h1]
   ·obtain⟨ok1,ok2,ok3,_⟩:=A.ok
    obtain⟨f1,f2⟩:=fy A.cl
    cases v with
    |
     l w =>
     simp only[Vl.nodes]at hm
     simp only[eX,hhd,hx,beq_self_eq_true,bW,cls,vT]
     exact pF n m w (by omega) a env t1 ⟨ok2,A.wf,ha,f1⟩
    |
     r w =>
     simp only[Vl.nodes]at hm
     simp only[eX,hhd,hx,beq_self_eq_true,bW,cls,vT]
     exact pF n m w (by omega) b env t2 ⟨ok3,A.wf,hbb,f2⟩
    |_=>simp[eX,hhd,hx,cls,vT]
   ·obtain⟨ok1,ok2,ok3,_⟩:=A.ok
    obtain⟨f1,f2⟩:=eY A.cl
    cases v with
    |
     p w w' =>
     simp only[Vl.nodes]at hm
     simp only[eX,hhd,hx,beq_self_eq_true,bW,cls,vT]
     rw[pF n m w (by omega) a env t1 ⟨ok2,A.wf,ha,f1⟩,pF n m w' (by omega) b env t2 ⟨ok3,A.wf,hbb,f2⟩]
    |_=>simp[eX,hhd,hx,cls,vT]
   ·exact recCase x a b env t1 A hx
  ·obtain⟨x,a,b,t',hfe,hok,hx,ht',hf',hwf,hlt⟩:=oY A.wf hq
   have hrec:hd g.ex g.out=(g.ex,g.out):=by rw[hfe];exact pY hwf
   rw[tX n v (qK hq) hrec]
   have hcl:cls (xJ env) (.bound u) 0=cls (xJ g.out) (xH g.ex g.out) 0:=by
    simp only[cls];rw[if_neg (by omega),Nat.sub_zero];exact DC A.wf hu
   rw[hcl]
   have hty:xH g.ex g.out=t':=by unfold xH;rw[ht'];rfl
   rw[hty,hfe]
   rw[hfe]at ht'
   obtain⟨t1,_,_,rfl⟩:=dy hx ht'
   exact recCase x a b g.out t1 ⟨hok,hwf,ht',hf'⟩ hx
theorem mX{n:Nat}{v:Vl}{e:E}{t:Ty}(A:Ask e [] t):eX n v (e,[])=vT n v t:=by
 have:=pF n v.nodes v (au _) e [] t A
 rw[this]
 obtain⟨w,ht⟩:=kp e [] t A.ok (fun w hw=>by cases hw) A.ty
 have hl:=uf w []
 rw[ht]at hl
 exact congrArg (vT n v) (pZ _ t hl)
def eU(σ:Nm->Option Ty):Ty->Ty
 | .name s=>(σ s).getD (.name s)
 | .plus a b=>.plus (eU σ a) (eU σ b)
 | .times a b=>.times (eU σ a) (eU σ b)
 | .rc a=>.rc (eU σ a)
 |t=>t
def iW(σ:Nm->Option Ty)(x:Nm)(u:Ty):Nm->Option Ty:=fun s=>if s=x then some u else σ s
theorem il(σ:Nm->Option Ty)(x:Nm)(u:Ty):∀t:Ty,eU σ (sub x u t)=eU (iW σ x (eU σ u)) t
 |
  .name s=>by
  by_cases h:s=x
  ·simp[sub,eU,iW,h]
  ·simp[sub,eU,iW,h]
 | .plus a b=>by simp only[sub,eU,il σ x u a,il σ x u b]
 | .times a b=>by simp only[sub,eU,il σ x u a,il σ x u b]
 | .rc a=>by simp only[sub,eU,il σ x u a]
 | .zero=>rfl
 | .one=>rfl
 | .bound k=>rfl
def CM(σ:Nm->Option Ty):Prop:=∀s u,σ s=some u->jx u 0
theorem j2{σ:Nm->Option Ty}(hσ:CM σ):∀(t:Ty) {i:Nat},jx t i->jx (eU σ t) i
 |
  .name s,i,_=>by
  simp only[eU]
  cases q:σ s with
  |none=>trivial
  |some u=>exact gA u (hσ s u q) (dQ _)
 | .plus a b,i,h=>⟨j2 hσ a h.1,j2 hσ b h.2⟩
 | .times a b,i,h=>⟨j2 hσ a h.1,j2 hσ b h.2⟩
 | .rc a,i,h=>j2 hσ a (i:=i+1) h
 | .zero,_,_=>trivial
 | .one,_,_=>trivial
 | .bound k,_,h=>h
theorem jD{σ:Nm->Option Ty}(hσ:CM σ)(x:Nm)(U:Ty):∀(t:Ty) (i:Nat),bn x t=false->eU (iW σ x U) (dC (.name x) t i)=dC U (eU σ t) i
 |
  .name s,i,h=>by
  have hs:s≠x:=by simpa[bn]using h
  simp only[dC,eU,iW,if_neg hs]
  cases q:σ s with
  |none=>rfl
  |some u=>exact(lQ U u (gA u (hσ s u q) (dQ _))).symm
 |
  .bound k,i,h=>by
  simp only[dC,eU]
  split
  ·simp[eU,iW]
  ·rfl
 |
  .plus a b,i,h=>by
  simp only[bn,ck]at h
  simp only[dC,eU,jD hσ x U a i h.1,jD hσ x U b i h.2]
 |
  .times a b,i,h=>by
  simp only[bn,ck]at h
  simp only[dC,eU,jD hσ x U a i h.1,jD hσ x U b i h.2]
 | .rc a,i,h=>by simp only[dC,eU,jD hσ x U a (i+1) h]
 | .zero,_,_=>rfl
 | .one,_,_=>rfl
theorem lK{σ:Nm->Option Ty}(hσ:CM σ)(x:Nm){u:Ty}(hu:jx u 0):CM (iW σ x u):=fun s v h=>by
 unfold iW at h
 split at h
 ·cases h;exact hu
 ·exact hσ s v h
theorem jd(x:Nm):∀(n:Nat) (c:Vl) (t:Ty) (i:Nat),c.nodes<=n->dL (dC (.name x) t i) c=dL t c
 |0,c,_,_,h=>by have:=dw c;omega
 |
  n+1,c,t,i,hn=>by
  cases t with
  |bound k=>simp only[dC];split<;>(cases c<;>rfl)
  |
   plus a b =>
   cases c with
   |l c=>simp only[Vl.nodes]at hn;exact jd x n c a i (by omega)
   |r c=>simp only[Vl.nodes]at hn;exact jd x n c b i (by omega)
   |_=>rfl
  |
   times a b =>
   cases c with
   |
    l c =>
    cases c with
    |p y z=>simp only[Vl.nodes]at hn;exact jd x n y a i (by omega)
    |_=>rfl
   |
    r c =>
    cases c with
    |p y z=>simp only[Vl.nodes]at hn;exact jd x n z b i (by omega)
    |_=>rfl
   |_=>rfl
  |
   rc a =>
   cases c with
   |
    f c =>
    cases c with
    |l y=>simp only[Vl.nodes]at hn;exact jd x n y a (i+1) (by omega)
    |
     r c =>
     cases c with
     |
      p y z =>
      simp only[Vl.nodes]at hn
      have h1:=jd x n y a (i+1) (by omega)
      have h2:=jd x n z (.rc a) i (by omega)
      show (dL (dC (.name x) a (i+1)) y&&dL (.rc (dC (.name x) a (i+1))) z)=(dL a y&&dL (.rc a) z)
      rw[h1]
      exact congrArg _ h2
     |_=>rfl
    |_=>rfl
   |_=>rfl
  |_=>rfl
end Go.Proofs.Trees
namespace Go.Proofs.Trees
open Go Go.VL Go.RowKit
theorem dM(x:Nm):∀(n:Nat) (c:Vl) (t:Ty) (i:Nat) (v:Vl),c.nodes<=n->cX (dC (.name x) t i) c v=cX t c v
 |0,c,_,_,_,h=>by have:=dw c;omega
 |
  n+1,c,t,i,v,hn=>by
  cases t with
  |bound k=>simp only[dC];split<;>(cases c<;>rfl)
  |
   plus a b =>
   cases c with
   |l c=>simp only[Vl.nodes]at hn;exact congrArg Vl.l (dM x n c a i v (by omega))
   |r c=>simp only[Vl.nodes]at hn;exact congrArg Vl.r (dM x n c b i v (by omega))
   |_=>rfl
  |
   times a b =>
   cases c with
   |
    l c =>
    cases c with
    |p y z=>simp only[Vl.nodes]at hn;exact congrArg (fun q=>Vl.p q z) (dM x n y a i v (by omega))
    |_=>rfl
   |
    r c =>
    cases c with
    |p y z=>simp only[Vl.nodes]at hn;exact congrArg (Vl.p y) (dM x n z b i v (by omega))
    |_=>rfl
   |_=>rfl
  |
   rc a =>
   cases c with
   |
    f c =>
    cases c with
    |l y=>simp only[Vl.nodes]at hn;exact congrArg Vl.f (dM x n y a (i+1) v (by omega))
    |
     r c =>
     cases c with
     |
      p y z =>
      simp only[Vl.nodes]at hn
      have h2:=dM x n z (.rc a) i v (by omega)
      have h1:=dM x n y a (i+1) (cX (.rc a) z v) (by omega)
      show Vl.f (cX (dC (.name x) a (i+1)) y (cX (.rc (dC (.name x) a (i+1))) z v))=Vl.f (cX a y (cX (.rc a) z v))
      have h3:cX (.rc (dC (.name x) a (i+1))) z v=cX (.rc a) z v:=h2
      rw[h3,h1]
     |_=>rfl
    |_=>rfl
   |_=>rfl
  |_=>rfl
theorem BV{n:Nat}{c:Vl}{a:Ty}(h:vT n c (.rc a)=true):∃w,c=.f w/\vT n w (dC (.rc a) a 0)=true:=by
 cases c with
 |f w=>exact⟨w,rfl,h⟩
 |_=>simp[vT]at h
theorem ji{n:Nat}{c:Vl}{a b:Ty}(h:vT n c (.plus a b)=true):(∃w,c=.l w/\vT n w a=true)\/∃w,c=.r w/\vT n w b=true:=by
 cases c with
 |l w=>exact .inl ⟨w,rfl,h⟩
 |r w=>exact .inr ⟨w,rfl,h⟩
 |_=>simp[vT]at h
theorem gr{n:Nat}{c:Vl}{a b:Ty}(h:vT n c (.times a b)=true):∃x y,c=.p x y/\vT n x a=true/\vT n y b=true:=by
 cases c with
 |p x y=>simp only[vT,aw]at h;exact⟨x,y,rfl,h.1,h.2⟩
 |_=>simp[vT]at h
theorem oH{σ:Nm->Option Ty}(hσ:CM σ){a c d:Ty}{x:Nm}(ha:jx (.rc a) 0)(hc:jx c 0)(hd:jx d 0):∃X,eU σ (pV a x c d)=.rc X/\dC (.rc X) X 0=.plus (eU (iW σ x (eU σ (.rc a))) c) (.times (eU (iW σ x (eU σ (.rc a))) d) (eU σ (pV a x c d))):=by
 refine⟨.plus (eU σ (sub x (.rc a) c)) (.times (eU σ (sub x (.rc a) d)) (.bound 0)),rfl,?_⟩
 have h1:=j2 hσ (sub x (.rc a) c) (kJ ha c hc)
 have h2:=j2 hσ (sub x (.rc a) d) (kJ ha d hd)
 simp only[dC,lQ _ _ h1,lQ _ _ h2,if_true]
 rw[il,il]
 simp only[pV,eU,il]
theorem vL(n:Nat):∀(m:Nat) (c:Vl),c.nodes<=m->∀(t:Ty) (s:Nm) (d:Ty) (σ:Nm->Option Ty),Dv t s d->CM σ->jx t 0->vT n c (eU σ d)=true->dL t c=true
 |0,c,h=>by have:=dw c;omega
 |
  m+1,c,hm=>by
  intro t s d σ hd hσ hl hv
  cases hd with
  |zero=>cases c<;>rfl
  |one=>cases c<;>rfl
  |bound=>cases c<;>rfl
  |hit=>cases c<;>rfl
  |qx=>cases c<;>rfl
  |
   plus h1 h2 _ =>
   rcases ji hv with⟨w,rfl,hw⟩|⟨w,rfl,hw⟩
   ·simp only[Vl.nodes]at hm;exact vL n m w (by omega) _ s _ σ h1 hσ hl.1 hw
   ·simp only[Vl.nodes]at hm;exact vL n m w (by omega) _ s _ σ h2 hσ hl.2 hw
  |
   times h1 h2 _ =>
   rcases ji hv with⟨w,rfl,hw⟩|⟨w,rfl,hw⟩
   ·obtain⟨x,y,rfl,hx,hy⟩:=gr hw
    simp only[Vl.nodes]at hm;exact vL n m x (by omega) _ s _ σ h1 hσ hl.1 hx
   ·obtain⟨x,y,rfl,hx,hy⟩:=gr hw
    simp only[Vl.nodes]at hm;exact vL n m y (by omega) _ s _ σ h2 hσ hl.2 hy
  |
   @rc a _ c0 d0 x hx hs h1 h2 hsz =>
   have lo:jx (dC (.name x) a 0) 0:=gF x a hl
   obtain⟨X,e1,e2⟩:=oH (x:=x) hσ hl (h1.lc lo) (h2.lc lo)
   have hv':=hv
   rw[e1]at hv'
   obtain⟨w,rfl,hw⟩:=BV hv'
   rw[e2]at hw
   have hcl:=lK hσ x (j2 hσ (.rc a) hl)
   rcases ji hw with⟨y,rfl,hy⟩|⟨y,rfl,hy⟩
   ·simp only[Vl.nodes]at hm
    have:=vL n m y (by omega) _ s _ _ h1 hcl lo hy
    rw[jd x y.nodes y a 0 (au _)]at this
    exact this
   ·obtain⟨y,z,rfl,hy,hz⟩:=gr hy
    simp only[Vl.nodes]at hm
    have q1:=vL n m y (by omega) _ x _ _ h2 hcl lo hy
    rw[jd x y.nodes y a 0 (au _)]at q1
    have q2:=vL n m z (by omega) (.rc a) s _ σ (.rc x hx hs h1 h2 hsz) hσ hl hz
    show (dL a y&&dL (.rc a) z)=true
    rw[q1,q2];rfl
theorem qn(n:Nat):∀(m:Nat) (c:Vl),c.nodes<=m->∀(t:Ty) (s:Nm) (d:Ty) (σ:Nm->Option Ty),Dv t s d->CM σ->jx t 0->vT n c (eU σ d)=true->∀v,vT n v (eU σ (.name s))=true->vT n (cX t c v) (eU σ t)=true
 |0,c,h=>by have:=dw c;omega
 |
  m+1,c,hm=>by
  intro t s d σ hd hσ hl hv v hvv
  have no:∀c,vT n c .zero=false:=fun c=>by cases c<;>rfl
  cases hd with
  |zero=>rw[show eU σ .zero=.zero from rfl,no]at hv;cases hv
  |one=>rw[show eU σ .zero=.zero from rfl,no]at hv;cases hv
  |bound=>rw[show eU σ .zero=.zero from rfl,no]at hv;cases hv
  |qx=>rw[show eU σ .zero=.zero from rfl,no]at hv;cases hv
  |hit=>rw[lq];exact hvv
  |
   plus h1 h2 _ =>
   rcases ji hv with⟨w,rfl,hw⟩|⟨w,rfl,hw⟩
   ·simp only[Vl.nodes]at hm;exact qn n m w (by omega) _ s _ σ h1 hσ hl.1 hw v hvv
   ·simp only[Vl.nodes]at hm;exact qn n m w (by omega) _ s _ σ h2 hσ hl.2 hw v hvv
  |
   times h1 h2 _ =>
   rcases ji hv with⟨w,rfl,hw⟩|⟨w,rfl,hw⟩
   ·obtain⟨x,y,rfl,hx,hy⟩:=gr hw
    simp only[Vl.nodes]at hm
    have:=qn n m x (by omega) _ s _ σ h1 hσ hl.1 hx v hvv
    show (vT n _ _&&vT n _ _)=true
    rw[this,hy];rfl
   ·obtain⟨x,y,rfl,hx,hy⟩:=gr hw
    simp only[Vl.nodes]at hm
    have:=qn n m y (by omega) _ s _ σ h2 hσ hl.2 hy v hvv
    show (vT n _ _&&vT n _ _)=true
    rw[this,hx];rfl
  |
   @rc a _ c0 d0 x hx hs h1 h2 hsz =>
   have lo:jx (dC (.name x) a 0) 0:=gF x a hl
   obtain⟨X,e1,e2⟩:=oH (x:=x) hσ hl (h1.lc lo) (h2.lc lo)
   have hv':=hv
   rw[e1]at hv'
   obtain⟨w,rfl,hw⟩:=BV hv'
   rw[e2]at hw
   have hcl:=lK hσ x (j2 hσ (.rc a) hl)
   have hop:eU (iW σ x (eU σ (.rc a))) (dC (.name x) a 0)=dC (eU σ (.rc a)) (eU σ a) 0:=jD hσ x _ a 0 hx
   have hns:eU (iW σ x (eU σ (.rc a))) (.name s)=eU σ (.name s):=by simp only[eU,iW,if_neg (Ne.symm hs)]
   have hnx:eU (iW σ x (eU σ (.rc a))) (.name x)=eU σ (.rc a):=by simp[eU,iW]
   rcases ji hw with⟨y,rfl,hy⟩|⟨y,rfl,hy⟩
   ·simp only[Vl.nodes]at hm
    have:=qn n m y (by omega) _ s _ _ h1 hcl lo hy v (by rw[hns];exact hvv)
    rw[hop,dM x y.nodes y a 0 v (au _)]at this
    exact this
   ·obtain⟨y,z,rfl,hy,hz⟩:=gr hy
    simp only[Vl.nodes]at hm
    have q2:=qn n m z (by omega) (.rc a) s _ σ (.rc x hx hs h1 h2 hsz) hσ hl hz v hvv
    have q1:=qn n m y (by omega) _ x _ _ h2 hcl lo hy (cX (.rc a) z v) (by rw[hnx];exact q2)
    rw[hop,dM x y.nodes y a 0 _ (au _)]at q1
    exact q1
def Dc:Nm->Option Ty:=fun _=>none
theorem rZ:CM Dc:=fun _ _ h=>by cases h
theorem iZ:∀t:Ty,eU Dc t=t
 | .name s=>rfl
 | .plus a b=>by simp only[eU,iZ a,iZ b]
 | .times a b=>by simp only[eU,iZ a,iZ b]
 | .rc a=>by simp only[eU,iZ a]
 | .zero=>rfl
 | .one=>rfl
 | .bound k=>rfl
theorem HC{n:Nat}{a D:Ty}{x:Nm}(hx:bn x a=false)(hl:jx (.rc a) 0)(h:oe a x=some D){c:Vl}(hc:vT n c D=true) :
 dL a c=true/\∀v,vT n v (.rc a)=true->vT n (.f (cX a c v)) (.rc a)=true:=by
 simp only[oe,aX,cR,eN]at h
 obtain⟨d,hd,_,rfl⟩:=h
 have lo:jx (dC (.name x) a 0) 0:=gF x a hl
 have hcl:=lK rZ x hl
 have e1:sub x (.rc a) d=eU (iW Dc x (.rc a)) d:=by
  have:=il Dc x (.rc a) d
  rw[iZ,iZ]at this;exact this
 rw[e1]at hc
 have h1:=vL n c.nodes c (au _) _ x _ _ hd hcl lo hc
 rw[jd x c.nodes c a 0 (au _)]at h1
 refine⟨h1,fun v hv=>?_⟩
 have h2:=qn n c.nodes c (au _) _ x _ _ hd hcl lo hc v (by simpa[eU,iW]using hv)
 rw[dM x c.nodes c a 0 v (au _),jD rZ x _ a 0 hx,iZ]at h2
 exact h2
end Go.Proofs.Trees
namespace Go.Proofs.Trees
open Go Go.VL Go.RowKit
theorem zF{env:List Fr}(h:WF env):∀w,w∈names env->dm w=true:=by
 induction h with
 |nil=>intro w hw;cases hw
 |
  cons hs _ _ _ _ _ ih =>
  intro w hw
  simp only[names,aN,aU]at hw
  rcases hw with hw|rfl
  ·exact ih w hw
  ·exact hs
theorem BX{ar:List (List UInt8)}{k:Nat}(h:k<ar.length):gl ar k∈ar:=by
 unfold gl
 have:ar.length-1-k<ar.length:=by omega
 simp[aa,this]
def BJ(s:List UInt8)(ar:List (List UInt8)):Prop:=gT s=true\/(bP s ar ar.length).isSome=true
theorem wB{s:List UInt8}{ar:List (List UInt8)}{u:Nat}(hl:∀w,w∈ar->dm w=true)(h:bP s ar ar.length=some u):dm s=true:=by
 obtain⟨h1,h2⟩:=fJ _ _ (au _) h
 rw[<-h2];exact hl _ (BX h1)
theorem IF{s0 s:List UInt8}{ar:List (List UInt8)}{t:Ty}(ht:cT (.atom s0) ar=some t)(hl:∀w,w∈ar->dm w=true)(hs:BJ s ar):eF t (oj s ar)=decide (s0=s):=by
 have h48:∀b:UInt8,gT [b]=false->dm [b]=false->s≠[b]:=fun b h1 h2 e=>by
  subst e
  rcases hs with h|h
  ·rw[h1]at h;cases h
  ·obtain⟨u,hu⟩:=cb.1 h
   rw[wB hl hu]at h2;cases h2
 simp only[cT]at ht
 split at ht
 ·rename_i e;cases ht;subst e
  have:=h48 48 rfl rfl
  rw[decide_eq_false (fun h=>this h.symm)];cases oj s ar<;>rfl
 ·split at ht
  ·rename_i e;cases ht;subst e
   have:=h48 49 rfl rfl
   rw[decide_eq_false (fun h=>this h.symm)];cases oj s ar<;>rfl
  ·split at ht
   ·rename_i hp
    cases ht
    unfold oj
    cases e:bP s ar ar.length with
    |none=>rfl
    |
     some u =>
     have hloo:=wB hl e
     show false=_
     rw[decide_eq_false]
     rintro rfl
     rw[kb hp]at hloo;cases hloo
   ·rename_i hnp
    split at ht
    ·split at ht
     ·rename_i u hu
      cases ht
      unfold oj
      cases e:bP s ar ar.length with
      |
       none =>
       show false=_
       rw[decide_eq_false]
       rintro rfl
       rw[hu]at e;cases e
      |
       some u' =>
       show decide (u=u')=_
       rw[cy,decide_eq_true_eq,decide_eq_true_eq]
       constructor
       ·rintro rfl
        rw[<-(fJ _ _ (au _) hu).2,<-(fJ _ _ (au _) e).2]
       ·rintro rfl
        rw[hu]at e;cases e;rfl
     ·rename_i hn
      cases ht
      unfold oj
      cases e:bP s ar ar.length with
      |none=>rfl
      |
       some u =>
       show false=_
       rw[decide_eq_false]
       rintro rfl
       rw[hn]at e;cases e
    ·cases ht
theorem Er{b:E}{ar:List (List UInt8)}{w:List UInt8}{t:Ty}(hb:cT b (ar++[w])=some t)(hw:dm w=true)(hs:BJ w ar):uZ t (oj w ar).up=false:=by
 rcases hs with h|h
 ·rw[kb h]at hw;cases hw
 ·obtain⟨u,hu⟩:=cb.1 h
  rw[oj,hu];exact HX hb hu
theorem Ab{s w:List UInt8}{ar:List (List UInt8)}(h:w≠s)(hs:BJ s ar):BJ s (ar++[w]):=by
 rcases hs with h1|h1
 ·exact .inl h1
 ·right;rw[jC ar h];obtain⟨u,hu⟩:=cb.1 h1;rw[hu];rfl
def Rg(e:E)(s:List UInt8)(t:Ty)(tg:Tg)(v:Vl):Prop:=an Tryz.prog 74 [.agg [.v (.string (mk e.at)),e.sp],.v (.string (mk s)),.agg [.v (.string (mk v.cL.at)),v.cL.sp]] [] (bJ (.sl (mf (cq t tg v))))
theorem E4(n:Nat):∀(m:Nat) (v:Vl),v.nodes<=m->∀(e:E) (env:List Fr) (t:Ty),Ask e env t->eX n v (e,env)=true->env.length+v.nodes<100000->∀(s:List UInt8),BJ s (names env)->Rg e s t (oj s (names env)) v
 |0,v,hm=>by have:=dw v;omega
 |
  m+1,v,hm=>by
  intro e env t A hv hl s hs
  have hloo:=zF A.wf
  unfold Rg
  refine Pg _ _ _ _ _ ((a6 _).mpr trivial) ((a6 _).mpr trivial) ?_
  have hlen:=nr t (oj s (names env)) v
  have atomCase:∀s0,e=.atom s0->stuck t v=true->eZ Tryz.prog 244 (xq (mk e.at) e.sp (mk s) (mk v.cL.at) v.cL.sp) fun _ xs obs=>bJ (.sl (mf (cq t (oj s (names env)) v))) (xs.headD .any) obs:=by
   rintro s0 rfl hst
   have hat:=IF A.ty hloo hs
   have hne:s0≠[]:=A.ok
   simp only[xq,E.at,↓zq,zs,ae,zt]
   refine⟨fun _=>⟨fun h=>?_,fun h=>?_⟩,fun h=>absurd h hne⟩
   ·rw[decide_eq_true h]at hat
    rw[mD v hat]
    refine⟨⟨zz _ _ _ _,by omega⟩,?_⟩
    simp[bJ,mf,Vl.cL,E.at,E.sp]
   ·rw[decide_eq_false h]at hat
    rw[dS hat hst]
    simp[bJ,mf]
  have hvh:=Ce v
  rw[dj]at hvh
  rcases gv A.wf A.ty with⟨hb,hq⟩|⟨u,g,rfl,hq,hu⟩
  ·have hhd:hd e env=(e,env):=ka hq
   rcases fG A.ty hb A.cl with⟨rfl,rfl⟩|⟨rfl,rfl⟩|⟨s0,rfl,rfl,hp,h0,h1⟩|⟨x,a,b,t1,t2,rfl,hx,rfl,ha,hbb⟩|⟨x,a,b,t1,t2,rfl,hx,rfl,ha,hbb⟩|⟨x,a,b,t1,rfl,hx,rfl⟩
   ·exact atomCase _ rfl (by cases v<;>rfl)
   ·exact atomCase _ rfl (by cases v<;>rfl)
   ·exact atomCase _ rfl (by cases v<;>rfl)
   ·obtain⟨ok1,ok2,ok3,_⟩:=A.ok
    obtain⟨f1,f2⟩:=fy A.cl
    have hP:=P3.of x a b
    cases v with
    |
     l w =>
     simp only[eX,hhd,hx,beq_self_eq_true,bW]at hv
     simp only[Vl.nodes]at hm hl hlen
     rw[nh]at hlen |-
     rw[fP]at hlen
     have hW:=P2.of (.atom [108]) w.cL
     simp only[xq,E.at,↓zq,zs,ae,zt]
     refine⟨fun h=>absurd rfl h,fun _=>ai hvh ?_⟩
     simp only[vh,Vl.cL,toNat_one,bg,↓zq,zs,ae,zt,hP.1,hP.2.1,hP.2.2.1,hP.2.2.2,hW.1,hW.2.1,hW.2.2,aL]
     refine⟨fun _=>?_,fun h=>absurd rfl h⟩
     repeat refine⟨by omega,?_⟩
     refine ai (E4 n m w (by omega) a env t1 ⟨ok2,A.wf,ha,f1⟩ hv (by omega) s hs) ?_
     simp only[↓zq,zs,ae]
     refine aV (M4 [108] Vl.l (fun c=>rfl) (cq t1 (oj s (names env)) w) [] (by simp;omega)) ?_
     simp[↓zq,zs,ae,bJ,aO,bq]
    |
     r w =>
     simp only[eX,hhd,hx,beq_self_eq_true,bW]at hv
     simp only[Vl.nodes]at hm hl hlen
     rw[mW]at hlen |-
     rw[fP]at hlen
     have hW:=P2.of (.atom [114]) w.cL
     simp only[xq,E.at,↓zq,zs,ae,zt]
     refine⟨fun h=>absurd rfl h,fun _=>ai hvh ?_⟩
     simp only[vh,Vl.cL,toNat_one,bg,↓zq,zs,ae,zt,hP.1,hP.2.1,hP.2.2.1,hP.2.2.2,hW.1,hW.2.1,hW.2.2,aL]
     refine⟨fun h=>by simp at h,fun _=>⟨fun _=>?_,fun h=>absurd rfl h⟩⟩
     repeat refine⟨by omega,?_⟩
     refine ai (E4 n m w (by omega) b env t2 ⟨ok3,A.wf,hbb,f2⟩ hv (by omega) s hs) ?_
     simp only[↓zq,zs,ae]
     refine aV (M4 [114] Vl.r (fun c=>rfl) (cq t2 (oj s (names env)) w) [] (by simp;omega)) ?_
     simp[↓zq,zs,ae,bJ,aO,bq]
    |_=>simp[eX,hhd,hx]at hv
   ·obtain⟨ok1,ok2,ok3,_⟩:=A.ok
    obtain⟨f1,f2⟩:=eY A.cl
    have hP:=P3.of x a b
    cases v with
    |
     p w w' =>
     simp only[eX,hhd,hx,beq_self_eq_true,bW,aw]at hv
     simp only[Vl.nodes]at hm hl hlen
     rw[m9]at hlen |-
     simp only[aq,fP]at hlen
     have hW:=P3.of (.atom [112]) w.cL w'.cL
     simp only[xq,E.at,↓zq,zs,ae,zt]
     refine⟨fun h=>absurd rfl h,fun _=>ai hvh ?_⟩
     simp only[vh,Vl.cL,toNat_one,bg,↓zq,zs,ae,zt,hP.1,hP.2.1,hP.2.2.1,hP.2.2.2,hW.1,hW.2.1,hW.2.2.1,hW.2.2.2,aL]
     refine⟨fun h=>by simp at h,fun _=>⟨fun h=>by simp at h,fun _=>⟨fun _=>?_,fun h=>absurd rfl h⟩⟩⟩
     repeat refine⟨by omega,?_⟩
     refine ai (E4 n m w (by omega) a env t1 ⟨ok2,A.wf,ha,f1⟩ hv.1 (by omega) s hs) ?_
     simp only[↓zq,zs,ae]
     have h1:=Nb s (mk []) (E.list [x,a,b]).sp ((a6 _).mpr trivial) (mk []) (E.list [.atom [112],w.cL,w'.cL]).sp w w' (P3.of _ _ _) (cq t1 (oj s (names env)) w) (by omega) _ 0 [] (aY _) (by simp;omega)
     rw[bb,aT]at h1
     refine cJ h1 ?_
     simp only[↓zq,zs,ae,a6,ae,bg,hP.1,hP.2.1,hP.2.2.2,hW.1,hW.2.1,hW.2.2.2,aL]
     repeat refine⟨by omega,?_⟩
     refine ai (E4 n m w' (by omega) b env t2 ⟨ok3,A.wf,hbb,f2⟩ hv.2 (by omega) s hs) ?_
     simp only[↓zq,zs,ae]
     have h2:=M9 (mk []) (E.list [.atom [112],w.cL,w'.cL]).sp w w' (P3.of _ _ _) (cq t2 (oj s (names env)) w') (by omega) _ 0 (iF (fun c=>Vl.l (.p c w')) (cq t1 (oj s (names env)) w)) (aY _) (by rw[fP];omega)
     rw[bb]at h2
     refine cJ h2 ?_
     simp[↓zq,zs,ae,bJ]
    |_=>simp[eX,hhd,hx]at hv
   ·obtain⟨t1',he1,h1,f1,hw1⟩:=jm A.wf A.ok hx A.ty A.cl
    cases he1
    obtain⟨ok1,ok2,ok3,_⟩:=A.ok
    obtain⟨_,hla,_,_⟩:=dy hx A.ty
    have A':Ask b (.mk a.at (.list [x,a,b]) env::env) t1:=⟨ok3,hw1,h1,f1⟩
    have hnm:names (.mk a.at (.list [x,a,b]) env::env)=names env++[a.at]:=rfl
    have hP:=P3.of x a b
    cases v with
    |
     f w =>
     simp only[eX,hhd,hx,beq_self_eq_true,bW]at hv
     simp only[Vl.nodes]at hm hl hlen
     have hW:=P2.of (.atom [102]) w.cL
     simp only[xq,E.at,↓zq,zs,ae,zt]
     refine⟨fun h=>absurd rfl h,fun _=>ai hvh ?_⟩
     simp only[vh,Vl.cL,toNat_one,bg,↓zq,zs,ae,zt,hP.1,hP.2.1,hP.2.2.1,hP.2.2.2,hW.1,hW.2.1,hW.2.2,aL]
     refine⟨fun h=>by simp at h,fun _=>⟨fun h=>by simp at h,fun _=>⟨fun h=>by simp at h,fun _=>?_⟩⟩⟩
     repeat refine⟨by omega,?_⟩
     refine⟨fun h=>?_,fun h=>?_⟩
     ·
      have hh:a.at=s:=h
      subst hh
      have:uZ (.rc t1) (oj a.at (names env))=false:=Er h1 hla hs
      rw[iS _ _ (au _) _ _ this]
      simp[bJ,mf]
     ·have hh:a.at≠s:=h
      rw[nn]at hlen |-
      simp only[aq,fP]at hlen
      repeat refine⟨by omega,?_⟩
      have i1:=E4 n m w (by omega) b _ t1 A' hv (by simp;omega) s (by rw[hnm];exact Ab hh hs)
      rw[hnm,zZ _ hh]at i1
      refine ai i1 ?_
      simp only[↓zq,zs,ae]
      have h3:=NN s a.at (mk []) (E.list [x,a,b]).sp ((a6 _).mpr trivial) (mk []) (E.list [.atom [102],w.cL]).sp ((a6 _).mpr trivial) (cq t1 (oj s (names env)).up w) (by omega) _ 0 [] (aY _) (by simp;omega)
      rw[bb,aT]at h3
      refine cJ h3 ?_
      simp only[↓zq,zs,ae,a6,ae,toNat_one,bg,hP.1,hP.2.1,hP.2.2.2,hW.1,hW.2.1,hW.2.2,aL]
      repeat refine⟨by omega,?_⟩
      have i2:=E4 n m w (by omega) b _ t1 A' hv (by simp;omega) a.at (by rw[hnm];right;rw[fq];rfl)
      rw[hnm,v7]at i2
      refine ai i2 ?_
      simp only[↓zq,zs,ae]
      have hl2:=nr t1 (.bd 0) w
      have ih3:∀h,h∈cq t1 (.bd 0) w->Rg (.list [x,a,b]) s (.rc t1) (oj s (names env)) h.2:=fun h hh=>by
       have h3:=(iB hh).1
       have h4:=ij n m w (by omega) b _ t1 A' hv 0 _ rfl h hh
       exact E4 n m h.2 (by omega) (.list [x,a,b]) env (.rc t1) A h4 (by omega) s hs
      have h4:=MW s (.list [x,a,b]) t1 (oj s (names env)) (cq t1 (.bd 0) w) (by omega) ih3 _ 0 (iF (fun c=>.f (.l c)) (cq t1 (oj s (names env)).up w)) (aY _) (by
       simp only[bb,aq,fP]
       have hlen2:(cq t1 (oj s (names env)).up w).length+((cq t1 (.bd 0) w).flatMap (AE t1 (oj s (names env)))).length<=1+w.nodes:=hlen
       omega)
      rw[bb]at h4
      simp only[E.at]at h4
      refine cJ h4 ?_
      simp[↓zq,zs,ae,bJ]
    |_=>simp[eX,hhd,hx]at hv
  ·cases e with
   |atom s0=>exact atomCase _ rfl (by cases v<;>rfl)
   |list l=>exact absurd hq (by rw[show (E.list l).at=[] from rfl,kU A.wf];simp)
end Go.Proofs.Trees
namespace Go.Proofs.Trees
open Go Go.VL Go.RowKit
def kF(s:List UInt8):Option Ty:=match wO s with
 |some (.rc a)=>some a
 |_=>none
def BM:Option Ty->AV
 |some a=>(Ty.rc a).av
 |none=>gp
theorem QM(s:List UInt8):an Tryz.prog 95 [.v (.string (mk s))] [] (bJ (BM (kF s))):=by
 refine Qq _ ?_
 unfold Jb
 refine ai (M6 s) ?_
 cases h:wO s with
 |none=>simp[↓zq,zs,ae,ib,BM,kF,h,bJ]
 |some t=>cases t<;>simp[↓zq,zs,ae,ib,BM,kF,h,bJ,Ty.av]
def qG(s v:List UInt8):Option Vl:=match kF s with
 |some _=>ng s v 100
 |none=>none
def GC(s:List UInt8):AV:=match kF s with
 |some a=>(Ty.rc a).av
 |none=>gp
theorem tQ{s:List UInt8}{a:Ty}(h:kF s=some a):wO s=some (.rc a):=by
 unfold kF at h
 split at h
 ·rename_i e;cases h;exact e
 ·cases h
theorem RU(s v:List UInt8):an Tryz.prog 69 [.v (.string (mk s)),.v (.string (mk v))] [] (bJ (.cD [GC s,jo (qG s v)])):=by
 refine O6 _ _ ?_
 unfold J2
 refine ai (QM s) ?_
 cases h:kF s with
 |none=>simp[↓zq,zs,ae,BM,GC,qG,h,bJ,jo]
 |
  some a =>
  simp only[↓zq,zs,ae,BM,aE,fO]
  refine⟨fun h=>(by cases h),fun _=>?_⟩
  refine ai (Lw s v 100) ?_
  rw[tQ h]
  simp[↓zq,zs,ae,ib,gn,GC,qG,h,bJ,aE]
structure LV(s v:List UInt8)(w:Vl)(a:Ty)(x A B:E):Prop where
 l:kF s=some a
 ce:jH s=some (.list [x,A,B])
 v:sA v=some w
 ask:Ask (.list [x,A,B]) [] (.rc a)
 hx:x.at=[114,101,99]
 Td:dm A.at=true
 body:Ask B [.mk A.at (.list [x,A,B]) []] a
 eX:eX 100 w (.list [x,A,B],[])=true
theorem sO{e:E}{env:List Fr}{a:Ty}(A:Ask e env (.rc a)):∃x y z,e=.list [x,y,z]/\x.at=[114,101,99]/\dm y.at=true/\Ask z (.mk y.at (.list [x,y,z]) env::env) a:=by
 rcases fG A.ty rfl A.cl with⟨_,h⟩|⟨_,h⟩|⟨s,_,h,_⟩|⟨x,y,z,t1,t2,_,_,h,_⟩|⟨x,y,z,t1,t2,_,_,h,_⟩|⟨x,y,z,t1,rfl,hx,h⟩
 ·cases h
 ·cases h
 ·cases h
 ·cases h
 ·cases h
 ·cases h
  obtain⟨t1',he1,h1,f1,hw1⟩:=jm A.wf A.ok hx A.ty A.cl
  cases he1
  obtain⟨_,_,ok3,_⟩:=A.ok
  obtain⟨_,hla,_,_⟩:=dy hx A.ty
  exact⟨x,y,z,rfl,hx,hla,ok3,hw1,h1,f1⟩
theorem pU{s v:List UInt8}{w:Vl}(h:qG s v=some w):∃a x A B,LV s v w a x A B:=by
 unfold qG at h
 split at h
 ·rename_i a hl
  obtain⟨e,t,m,h1,h2,h3,h4,h5,h6,h7⟩:=pg h
  rw[tQ hl]at h3
  cases h3
  obtain⟨x,A,B,rfl,hx,hA,hB⟩:=sO h4
  have:m=100:=by omega
  subst this
  exact⟨a,x,A,B,hl,h1,h2,h4,hx,hA,hB,h7⟩
 ·cases h
theorem LV.gZ{s v:List UInt8}{w:Vl}{a:Ty}{x A B:E}(h:LV s v w a x A B):w.gZ 100:=(lT h.v).2.1
theorem LV.nodes{s v:List UInt8}{w:Vl}{a:Ty}{x A B:E}(h:LV s v w a x A B):w.nodes<=200:=(lT h.v).2.2
theorem uz{n:Nat}{v:Vl}{x A B:E}{env:List Fr}(hw:WF env)(hx:x.at=[114,101,99])(h:eX n v (.list [x,A,B],env)=true):∃w,v=.f w/\eX n w (B,.mk A.at (.list [x,A,B]) env::env)=true:=by
 have hd:=pY (x:=x) (a:=A) (b:=B) hw
 cases v<;>simp[eX,hd,hx]at h |-
 exact h
theorem JH(n:Nat)(v:Vl)(x A B:E)(a:Ty)(hA:Ask B [.mk A.at (.list [x,A,B]) []] a)(hx:x.at=[114,101,99])(hv:eX n v (.list [x,A,B],[])=true)(hl:v.nodes<90000):an Tryz.prog 58 [(Ty.rc a).av,v.cA] [] (bJ (.sl (gH (kids a v)))):=by
 obtain⟨w,rfl,hw⟩:=uz .nil hx hv
 refine QJ _ _ ((aE _).mpr trivial) ((aM _).mpr trivial) ?_
 unfold JI
 refine aP (Dl a gp [] .nil) (Bd.ne a gp []) ?_
 rintro r o ⟨⟨m,hm,rfl⟩,rfl⟩
 have he2:kI (.ptr [.pid m [(Ty.rc a).av,gp],gp]) [m]:=.cons hm .nil
 have hfr:LK.ptr.has (.pid m [(Ty.rc a).av,gp]):=.inr (.inr ⟨_,_,rfl⟩)
 simp only[Ty.av]at he2 hfr
 simp only[↓zq,zs,ae,bF,aE,he2.has,hfr,Vl.cA,aM,Ty.av]
 repeat refine⟨by omega,?_⟩
 simp only[Vl.nodes]at hl
 have i2:=E6 n w.nodes w (au _) B _ a hA hw (by simp;omega) _ _ he2 (by simp) (.bd 0) [] _ (by have:=Az.bd (k:=0) (ids:=[m]) (by simp) [(Ty.rc a).av,gp] [];simpa only[bx,Ty.av]using this)
 unfold H9 at i2
 refine ai i2 ?_
 simp[↓zq,zs,ae,bJ,kids]
def rk(l:List Nat):List (List AV):=l.map fun(k:Nat)=>[.v (.int .i64 (k:Int))]
theorem xB(l:List Nat):(rk l).length=l.length:=by simp[rk]
end Go.Proofs.Trees
namespace Go.Proofs.Trees
open Go Go.VL Go.RowKit
theorem Ig{b:UInt8}(h:ic b=true):fe b=true:=by
 simp only[ic,fe,decide_eq_true_eq]at h |-;omega
theorem Dg{y:Nm}(h:Ja y):y≠[]/\y.all fe=true:=by
 have key:∀lo hi,97<=lo->hi<=122->named lo hi y=true->y≠[]/\y.all fe=true:=fun lo hi h1 h2 h=>by
  cases y with
  |nil=>cases h
  |
   cons c r =>
   simp only[named,aw,decide_eq_true_eq]at h
   refine⟨by simp,?_⟩
   rw[da,aw]
   refine⟨?_,?_⟩
   ·simp only[fe,decide_eq_true_eq];omega
   ·rw[bX]
    intro b hb
    exact Ig (bX.1 h.2 b hb)
 rcases h with h|h
 ·exact key 120 122 (by omega) (by omega) h
 ·exact key 116 116 (by omega) (by omega) h
theorem BK(m:Nat):(tN m).all fe=true:=by
 rw[da,w8 (m+1) m (by omega)];rfl
theorem pR(F:List Nm):∀(t:Ty) (to:List Nm) (k:Nat),(∀y,bn y t=true->y≠[]/\y.all fe=true)->(∀w,w∈to->w≠[]/\w.all fe=true)->jx t to.length->(gU F t to k).1.pr
 | .zero,_,_,_,_,_=>⟨by simp,by decide⟩
 | .one,_,_,_,_,_=>⟨by simp,by decide⟩
 | .name s,_,_,hn,_,_=>hn s (by simp[bn])
 |
  .bound u,to,_,_,ht,hl=>by
  have:to.length-1-u<to.length:=by have:u<to.length:=hl;omega
  show (E.atom (gl to u)).pr
  unfold gl
  rw[aa,bp this]
  exact ht _ (bD this)
 | .plus a b,to,k,hn,ht,hl=>⟨by simp,⟨by simp,by decide⟩,pR F a to k (fun y hy=>hn y (by simp[bn,hy])) ht hl.1,pR F b to _ (fun y hy=>hn y (by simp[bn,hy])) ht hl.2,trivial⟩
 | .times a b,to,k,hn,ht,hl=>⟨by simp,⟨by simp,by decide⟩,pR F a to k (fun y hy=>hn y (by simp[bn,hy])) ht hl.1,pR F b to _ (fun y hy=>hn y (by simp[bn,hy])) ht hl.2,trivial⟩
 |
  .rc a,to,k,hn,ht,hl=>by
  refine⟨by simp,⟨by simp,by decide⟩,⟨by simp,BK _⟩,pR F a (to++[tN (nx F k)]) _ hn (fun w hw=>?_) (by rw[aq];exact hl),trivial⟩
  rcases aN.1 hw with hw|hw
  ·exact ht w hw
  ·simp only[aU]at hw;rw[hw];exact⟨by simp,BK _⟩
theorem zT{D:Ty}{dt:Nm}(g:fV D)(hn:∀y,bn y D=true->Ja y)(h:told D=some dt):qJ dt=some D:=by
 unfold told at h
 split at h
 ·rename_i hh
  cases h
  obtain⟨t,ht⟩:=cb.1 hh.2
  obtain⟨e,he,hw,hte,_,_⟩:=nX ht
  obtain⟨h1,_,_⟩:=pL he
  obtain⟨hx,hpr,_⟩:=ym h1
  obtain⟨w1,w2,_⟩:=kG (bO D []) D [] 0 (.nil _ _) g.1 fun y hy=>⟨(eQ D [] y).2 (.inr hy),g.2 y hy⟩
  have hp:=pR (bO D []) D [] 0 (fun y hy=>Dg (hn y hy)) (fun w hw=>by cases hw) g.1
  have:=Cd hp hpr hx
  rw[ht,<-hte,<-this,w2]
 ·cases h
theorem tt{a d:Ty}{x:Nm}(h:oe a x=some d):∀y,bn y d=true->bn y a=true:=by
 simp only[oe,aX,cR,eN]at h
 obtain⟨d',h1,_,rfl⟩:=h
 intro y hy
 rcases jb _ hy with h|⟨h,h'⟩
 ·exact h
 ·rcases gx a 0 (h1.names y h')with e|e
  ·exact absurd e h
  ·exact e
structure ZT(s d:Nm)(a:Ty)(x A B:E)(D:Ty):Prop where
 l:kF s=some a
 ce:jH s=some (.list [x,A,B])
 ask:Ask (.list [x,A,B]) [] (.rc a)
 hx:x.at=[114,101,99]
 body:Ask B [.mk A.at (.list [x,A,B]) []] a
 dl:cF s=some d
 y:qJ s=some (.rc a)
 lp:oe a l9=some D
 bk:qJ d=some D
theorem uN{s:Nm}{t:Ty}(h:wO s=some t):qJ s=some t:=by
 unfold wO at h
 split at h
 ·cases h
 ·rename_i u hu
  split at h
  ·cases h;exact hu
  ·cases h
theorem ZT.of{s d:Nm}{a:Ty}(hl:kF s=some a)(hd:cF s=some d):∃x A B D,ZT s d a x A B D:=by
 have hc:=tQ hl
 cases hce:jH s with
 |none=>rw[na hce]at hc;cases hc
 |
  some e =>
  obtain⟨t,h1,hA,_⟩:=gX hce
  rw[hc]at h1;cases h1
  obtain⟨x,A,B,rfl,hx,hA',hB⟩:=sO hA
  have hy:=uN hc
  have hd':=hd
  unfold cF at hd'
  rw[hy]at hd'
  obtain⟨D,h2,h3⟩:=aX.1 hd'
  obtain⟨e2,he2,hw2,hte2,_,_⟩:=nX hy
  have hg:=rP hw2 hte2 (x:=l9) ⟨by simp,by simp,by simp⟩ h2
  exact⟨x,A,B,D,hl,hce,hA,hx,hB,hd,hy,h2,zT hg.1 (fun y hy'=>np hy y (tt h2 y hy')) h3⟩
structure Cx(a:Ty)(w:Vl):Prop where
 ok:dL a w=true
 ty:∀v,vT 100 v (.rc a)=true->vT 100 (.f (cX a w v)) (.rc a)=true
 gZ:w.gZ 100
 nd:w.nodes<=200
structure Fo(a:Ty)(v:Vl):Prop where
 ty:vT 100 v (.rc a)=true
 gZ:v.gZ 100
 nd:v.nodes<=200
theorem ZT.ctx{s d:Nm}{a:Ty}{x A B:E}{D:Ty}(z:ZT s d a x A B D){c:Nm}{w:Vl}(h:ng d c 100=some w):Cx a w:=by
 obtain⟨e,t,m,h1,h2,h3,h4,h5,h6,h7⟩:=pg h
 have hm:m=100:=by omega
 subst hm
 have:=uN h3
 rw[z.bk]at this;cases this
 rw[mX h4]at h7
 obtain⟨e2,he2,hw2,hte2,_,_⟩:=nX z.y
 have hlc:jx (.rc a) 0:=hte2 ▸ hw2.qA.1
 obtain⟨q1,q2⟩:=HC (uc z.y) hlc z.lp h7
 exact⟨q1,q2,(lT h2).2.1,(lT h2).2.2⟩
theorem ZT.mj{s d:Nm}{a:Ty}{x A B:E}{D:Ty}(z:ZT s d a x A B D){f:Nm}{v:Vl}(h:qG s f=some v):Fo a v/\f=v.cw:=by
 obtain⟨a',x',A',B',L⟩:=pU h
 have:=L.l
 rw[z.l]at this;cases this
 exact⟨⟨by rw[<-mX L.ask];exact L.eX,L.gZ,L.nodes⟩,qL L.v⟩
theorem Fo.eX{s d:Nm}{a:Ty}{x A B:E}{D:Ty}(z:ZT s d a x A B D){v:Vl}(h:Fo a v):eX 100 v (.list [x,A,B],[])=true:=by rw[mX z.ask];exact h.ty
theorem ZT.cw{s d:Nm}{a:Ty}{x A B:E}{D:Ty}(z:ZT s d a x A B D){w:Vl}(hb:w.gZ 100)(hv:vT 100 w (.rc a)=true):ng s w.cw 100=if w.nodes<=200 then some w else none:=by
 unfold ng
 rw[z.ce]
 by_cases hn:w.nodes<=200
 ·rw[qN hb hn,if_pos hn]
  simp only
  rw[if_pos ⟨by omega,by rw[show (100:Int).toNat=100 from rfl,mX z.ask];exact hv⟩]
 ·rw[if_neg hn]
  cases q:sA w.cw with
  |none=>rfl
  |
   some w' =>
   exfalso
   obtain⟨_,h2,h3⟩:=lT q
   have:=uF hb h2 (qL q)
   rw[this]at hn;exact hn h3
theorem ZT.lv{s d:Nm}{a:Ty}{x A B:E}{D:Ty}(z:ZT s d a x A B D)(f:Nm):qG s f=ng s f 100:=by
 unfold qG;rw[z.l]
def eG(d:Nm):List Nm->Option (List Vl)
 |[]=>some []
 |
  c::r=>match ng d c 100,eG d r with
  |some w,some l=>some (w::l)
  |_,_=>none
theorem sk{s d:Nm}{a:Ty}{x A B:E}{D:Ty}(z:ZT s d a x A B D):∀(p:List Nm) (l:List Vl),eG d p=some l->p=l.map (·.cw)/\∀c,c∈l->Cx a c
 |[],l,h=>by cases h;exact⟨rfl,fun c hc=>by cases hc⟩
 |
  c::r,l,h=>by
  simp only[eG]at h
  split at h
  ·rename_i w l' h1 h2
   cases h
   obtain⟨q1,q2⟩:=sk z r l' h2
   obtain⟨_,_,_,_,hv,_⟩:=pg h1
   refine⟨by rw[bE,<-q1,<-qL hv],fun c' hc'=>?_⟩
   rcases aK.1 hc' with rfl|hc'
   ·exact z.ctx h1
   ·exact q2 c' hc'
  ·cases h
theorem sU(d:Nm):∀(p q:List Nm),eG d (p++q)=(eG d p).bind fun l=>(eG d q).map (l++·)
 |[],q=>by cases h:eG d q<;>simp[eG,h]
 |
  c::p,q=>by
  simp only[bc,eG,sU d p q]
  cases ng d c 100 with
  |none=>rfl
  |
   some w =>
   cases eG d p with
   |none=>rfl
   |some l=>cases eG d q<;>rfl
noncomputable def vF (s:Nm) (p:List Nm) (f:Nm):Option (List Vl×Vl):=match qG s f,cF s with
 |some v,some d=>if p.length<=50 then(eG d p).map fun l=>(l,v)else none
 |_,_=>none
def zA(s:Nm):Ty:=(kF s).getD .zero
def pB(a:Ty)(l:List Vl)(v:Vl):Option (List Vl×Vl):=match l.getLast? with
 |none=>none
 |some c=>if(Vl.f (cX a c v)).nodes<=200 then some (l.dropLast,.f (cX a c v))else none
def jY:Nat->Ty->List Vl->Vl->Option Vl
 |0,_,_,v=>some v
 |n+1,a,l,v=>(pB a l v).bind fun r=>jY n a r.1 r.2
def s8(a:Ty)(l:List Vl)(v:Vl):Option Vl:=jY l.length a l v
noncomputable def fT (s:Nm) (p:List Nm) (f:Nm):Option (List Vl×Vl):=(vF s p f).bind fun r=>if(s8 (zA s) r.1 r.2).isSome=true then some r else none
structure ZI(a:Ty)(l:List Vl)(v:Vl):Prop where
 ctx:∀c,c∈l->Cx a c
 mj:Fo a v
theorem mQ{a:Ty}{l l':List Vl}{v w:Vl}(h:ZI a l v)(hu:pB a l v=some (l',w)):ZI a l' w/\l'.length+1=l.length/\∃c,l=l'++[c]/\w=.f (cX a c v):=by
 unfold pB at hu
 cases q:l.getLast? with
 |none=>rw[q]at hu;cases hu
 |
  some c =>
  rw[q]at hu
  simp only at hu
  split at hu
  ·rename_i hn
   cases hu
   have hne:l≠[]:=by rintro rfl;cases q
   have hl:l.dropLast++[c]=l:=by
    have:=List.dropLast_concat_getLast hne
    rw[List.getLast?_eq_some_getLast hne]at q
    cases q;exact this
   have hc:c∈l:=by rw[<-hl];simp
   have hC:=h.ctx c hc
   refine⟨⟨fun c' hc'=>h.ctx c' (by rw[<-hl];exact aD _ hc'),hC.ty v h.mj.ty,rY 100 a c v hC.gZ h.mj.gZ,hn⟩,?_,c,hl.symm,rfl⟩
   have:=congrArg List.length hl
   simpa using this
  ·cases hu
end Go.Proofs.Trees
namespace Go.Proofs.Trees
open Go Go.VL Go.RowKit
theorem xw(w:World)(k:Nat)(os:Array Obj):Below w.heap.size w (Go.«Sort».grow (w.drewN k) os):=by
 refine⟨rfl,rfl,rfl,?_,fun b hb=>?_⟩
 ·simp[Go.«Sort».grow,World.drewN]
 ·simp only[Go.«Sort».grow,World.drewN]
  rw[Array.getElem?_append_left hb]
theorem HQ(k:Nat)(hk:k<1000000000):an Tryz.prog 152 [.v (.int .i64 (k:Int))] [] (bJ (.v (.string (mk (dd k))))):=by
 refine an.RP (xs:=[.int .i64 (k:Int)]) ⟨qz,by kernel_rfl,by kernel_rfl,by kernel_rfl⟩ fun w ht=>?_
 have:=Any.strconv_Itoa Tryz.Bk (k:Int) (by omega) (by omega) w ht
 refine Calls.mono this fun e w' ⟨h1,n,os,h2⟩=>⟨?_,?_⟩
 ·rw[h1,Lib.itoa_nonneg];rfl
 ·rw[h2];exact xw w n os
abbrev hN(k:Nat):Nm:=35::dd k
theorem tO{j k:Nat}(h:hN j=hN k):j=k:=xD (j+1) j k (by omega) (List.cons.inj h).2
theorem FK(u:Ty):∀(t:Ty) (i:Nat),i+t.atoms<1000000->an Tryz.prog 135 [t.av,u.av,.v (.int .i64 (i:Int))] [] (bJ (dC u t i).av)
 |
  .zero,i,_=>by
  refine xx _ _ _ ((aE _).mpr trivial) ((aE _).mpr trivial) ?_
  simp[E1,Ty.av,dC,↓zq,zs,ae,bJ]
 |
  .one,i,_=>by
  refine xx _ _ _ ((aE _).mpr trivial) ((aE _).mpr trivial) ?_
  simp[E1,Ty.av,dC,↓zq,zs,ae,bJ]
 |
  .name s,i,_=>by
  refine xx _ _ _ ((aE _).mpr trivial) ((aE _).mpr trivial) ?_
  simp[E1,Ty.av,dC,↓zq,zs,ae,bJ]
 |
  .bound k,i,_=>by
  refine xx _ _ _ ((aE _).mpr trivial) ((aE _).mpr trivial) ?_
  simp only[E1,Ty.av,dC,↓zq,zs,ae,bJ]
  refine⟨by omega,fun _=>⟨by omega,fun h=>?_,fun h=>?_⟩,fun h=>absurd rfl h⟩
  ·rw[if_pos (by omega)]
  ·rw[if_neg (by omega)];rfl
 |
  .plus a b,i,hl=>by
  simp only[Ty.atoms]at hl
  refine xx _ _ _ ((aE _).mpr trivial) ((aE _).mpr trivial) ?_
  simp only[E1,Ty.av,dC,↓zq,zs,ae,aE]
  refine⟨by omega,fun h=>by omega,fun _=>⟨fun _=>?_,fun h=>absurd rfl h⟩⟩
  repeat refine⟨by omega,?_⟩
  refine ai (FK u a i (by omega)) ?_
  simp only[↓zq,zs,ae,aE]
  repeat refine⟨by omega,?_⟩
  refine ai (FK u b i (by omega)) ?_
  simp only[↓zq,zs,ae,aE]
  exact⟨rfl,rfl⟩
 |
  .times a b,i,hl=>by
  simp only[Ty.atoms]at hl
  refine xx _ _ _ ((aE _).mpr trivial) ((aE _).mpr trivial) ?_
  simp only[E1,Ty.av,dC,↓zq,zs,ae,aE]
  refine⟨by omega,fun h=>by omega,fun _=>⟨fun h=>by omega,fun _=>⟨fun _=>?_,fun h=>absurd rfl h⟩⟩⟩
  repeat refine⟨by omega,?_⟩
  refine ai (FK u a i (by omega)) ?_
  simp only[↓zq,zs,ae,aE]
  repeat refine⟨by omega,?_⟩
  refine ai (FK u b i (by omega)) ?_
  simp only[↓zq,zs,ae,aE]
  exact⟨rfl,rfl⟩
 |
  .rc a,i,hl=>by
  simp only[Ty.atoms]at hl
  refine xx _ _ _ ((aE _).mpr trivial) ((aE _).mpr trivial) ?_
  simp only[E1,Ty.av,dC,↓zq,zs,ae,aE]
  refine⟨by omega,fun h=>by omega,fun _=>⟨fun h=>by omega,fun _=>⟨fun h=>by omega,fun _=>⟨fun _=>?_,fun h=>absurd rfl h⟩⟩⟩⟩
  repeat refine⟨by omega,?_⟩
  rw[bA i (by omega)]
  refine ai (FK u a (i+1) (by omega)) ?_
  simp only[↓zq,zs,ae,aE]
  exact⟨rfl,rfl⟩
theorem B3(x:Nm)(u:Ty):∀(t:Ty),an Tryz.prog 136 [t.av,.v (.string (mk x)),u.av] [] (bJ (sub x u t).av)
 |
  .zero=>by
  refine wG _ _ _ ((aE _).mpr trivial) ((aE _).mpr trivial) ?_
  simp[E8,Ty.av,sub,↓zq,zs,ae,bJ]
 |
  .one=>by
  refine wG _ _ _ ((aE _).mpr trivial) ((aE _).mpr trivial) ?_
  simp[E8,Ty.av,sub,↓zq,zs,ae,bJ]
 |
  .bound k=>by
  refine wG _ _ _ ((aE _).mpr trivial) ((aE _).mpr trivial) ?_
  simp[E8,Ty.av,sub,↓zq,zs,ae,bJ]
 |
  .name s=>by
  refine wG _ _ _ ((aE _).mpr trivial) ((aE _).mpr trivial) ?_
  simp only[E8,Ty.av,sub,↓zq,zs,ae,zt,bJ]
  refine⟨by omega,fun _=>⟨by omega,fun h=>?_,fun h=>?_⟩,fun h=>absurd rfl h⟩
  ·rw[if_pos h]
  ·rw[if_neg h];rfl
 |
  .plus a b=>by
  refine wG _ _ _ ((aE _).mpr trivial) ((aE _).mpr trivial) ?_
  simp only[E8,Ty.av,sub,↓zq,zs,ae,aE]
  refine⟨by omega,fun h=>by omega,fun _=>⟨fun _=>?_,fun h=>absurd rfl h⟩⟩
  repeat refine⟨by omega,?_⟩
  refine ai (B3 x u a) ?_
  simp only[↓zq,zs,ae,aE]
  repeat refine⟨by omega,?_⟩
  refine ai (B3 x u b) ?_
  simp only[↓zq,zs,ae,aE]
  exact⟨rfl,rfl⟩
 |
  .times a b=>by
  refine wG _ _ _ ((aE _).mpr trivial) ((aE _).mpr trivial) ?_
  simp only[E8,Ty.av,sub,↓zq,zs,ae,aE]
  refine⟨by omega,fun h=>by omega,fun _=>⟨fun h=>by omega,fun _=>⟨fun _=>?_,fun h=>absurd rfl h⟩⟩⟩
  repeat refine⟨by omega,?_⟩
  refine ai (B3 x u a) ?_
  simp only[↓zq,zs,ae,aE]
  repeat refine⟨by omega,?_⟩
  refine ai (B3 x u b) ?_
  simp only[↓zq,zs,ae,aE]
  exact⟨rfl,rfl⟩
 |
  .rc a=>by
  refine wG _ _ _ ((aE _).mpr trivial) ((aE _).mpr trivial) ?_
  simp only[E8,Ty.av,sub,↓zq,zs,ae,aE]
  refine⟨by omega,fun h=>by omega,fun _=>⟨fun h=>by omega,fun _=>⟨fun h=>by omega,fun _=>⟨fun _=>?_,fun h=>absurd rfl h⟩⟩⟩⟩
  repeat refine⟨by omega,?_⟩
  refine ai (B3 x u a) ?_
  simp only[↓zq,zs,ae,aE]
  exact⟨rfl,rfl⟩
theorem zg(c:Int)(a b:Ty):an Tryz.prog 153 [.v (.int .u8 c),a.av,b.av] [] (bJ (.ptr [.v (.int .u8 c),.v (.string (mk [])),.v (.int .i64 0),a.av,b.av])):=by
 refine Qk _ _ _ ((aE _).mpr trivial) ((aE _).mpr trivial) ?_
 simp[KJ,↓zq,zs,ae,bJ]
abbrev CQ(f:Nat)(g:Bool):Ob:=.cells [.v (.int .i64 (f:Int)),.v (.bool g)]
theorem NR(f:Nat)(g:Bool)(hf:f<100000000):an Tryz.prog 132 [.ref 0 0] [CQ f g] (dq (.v (.string (mk (hN (f+1))))) [CQ (f+1) g]):=by
 refine RT _ _ ?_
 simp only[N4,↓zq,zs,ae,zt]
 rw[bA f (by omega)]
 refine ai (HQ (f+1) (by omega)) ?_
 have hd:=oT 8 (f+1) (by omega)
 simp only[↓zq,zs,ae,zt,bc,aT]
 exact⟨by simp[cN];omega,rfl,rfl⟩
def ve(g:Bool)(t:Ty):Ty:=if g=true\/400<t.atoms then .zero else t
def Ay(g:Bool)(t:Ty):Bool:=g||decide (400<t.atoms)
theorem xY(t:Ty):ve true t=.zero:=by simp[ve]
theorem vk(t:Ty):Ay true t=true:=rfl
theorem vV{t:Ty}(h:t.atoms<=400):ve false t=t:=by simp[ve,show ¬400<t.atoms by omega]
theorem vw{t:Ty}(h:t.atoms<=400):Ay false t=false:=by simp[Ay,show ¬400<t.atoms by omega]
theorem EO{t:Ty}(h:¬t.atoms<=400):Ay false t=true:=by simp[Ay,show 400<t.atoms by omega]
theorem EM{t:Ty}(h:¬t.atoms<=400):ve false t=.zero:=by simp[ve,show 400<t.atoms by omega]
theorem wm(f:Nat)(g:Bool)(t:Ty)(hl:t.atoms<1000000):an Tryz.prog 133 [.ref 0 0,t.av] [CQ f g] (dq (ve g t).av [CQ f (Ay g t)]):=by
 refine R2 _ _ _ ((aE _).mpr trivial) ?_
 simp only[KY,↓zq,zs,ae,zt]
 cases g with
 |true=>exact⟨fun _=>⟨rfl,rfl⟩,fun h=>(by cases h)⟩
 |
  false =>
  refine⟨fun h=>(by cases h),fun _=>?_⟩
  refine ai (ES t hl) ?_
  simp only[↓zq,zs,ae,zt]
  refine⟨fun h=>?_,fun h=>?_⟩
  ·have h:400<t.atoms:=by omega
   simp[ve,Ay,h,dq,Ty.av]
  ·have h:¬400<t.atoms:=by omega
   simp[ve,Ay,h,dq]
theorem HH(t:Ty)(s:Nm)(f:Nat):an Tryz.prog 134 [.ref 0 0,t.av,.v (.string (mk s))] [CQ f true] (dq Ty.zero.av [CQ f true]):=by
 refine Ok _ _ _ _ ((aE _).mpr trivial) ?_
 simp only[El,↓zq,zs,ae]
 exact⟨fun _=>⟨rfl,rfl⟩,fun h=>(by cases h)⟩
def CO(f:Nat)(t:Ty):Prop:=∀j,f<j->bn (hN j) t=false
def qe(o:Option Ty)(t:Ty):Nat:=match o with|some d=>d.atoms|none=>1000*t.atoms
def B5(o:Option Ty)(f B:Nat):AV->List Ob->Prop:=fun r ob=>∃f':Nat,f<=f'/\f'<=f+B/\r=(o.getD .zero).av/\ob=[CQ f' o.isNone]
theorem B5.ne(o:Option Ty)(f B:Nat):∃r ob,B5 o f B r ob:=⟨_,_,f,au _,db _ _,rfl,rfl⟩
theorem rH{f f':Nat}{t:Ty}(h:CO f t)(hf:f<=f'):CO f' t:=fun j hj=>h j (by omega)
theorem Ht:∀(n:Nat) (t:Ty),t.atoms<=n->t.atoms<=400->∀(s:Nm) (f:Nat),CO f t->(∀j,f<j->s≠hN j)->f+1000*t.atoms<50000000->an Tryz.prog 134 [.ref 0 0,t.av,.v (.string (mk s))] [CQ f false] (B5 (lV t s) f (qe (lV t s) t))
 |0,t,h=>by have:=er t;omega
 |
  n+1,t,hn=>by
  intro h4 s f hf hs hb
  refine Ok _ _ _ _ ((aE _).mpr trivial) ?_
  have fin0:∀u:Ty,lV t s=some u->B5 (lV t s) f (qe (lV t s) t) u.av [CQ f false]:=fun u hu=>by
   rw[hu];exact⟨f,au _,db _ _,rfl,rfl⟩
  cases t with
  |
   zero =>
   have:=fin0 .zero (we s)
   simpa[El,Ty.av,↓zq,zs,ae]using this
  |
   one =>
   have:=fin0 .zero (yg s)
   simpa[El,Ty.av,↓zq,zs,ae]using this
  |
   bound k =>
   have:=fin0 .zero (zS k s)
   simpa[El,Ty.av,↓zq,zs,ae]using this
  |
   name c =>
   simp only[El,Ty.av,↓zq,zs,ae,zt]
   refine⟨fun h=>(by cases h),fun _=>⟨by omega,fun _=>⟨by omega,fun h=>?_,fun h=>?_⟩,fun h=>absurd rfl h⟩⟩
   ·exact fin0 .one (by rw[ou,if_pos h])
   ·exact fin0 .zero (by rw[ou,if_neg h])
  |
   plus a b =>
   simp only[Ty.atoms]at hn h4 hb
   have pa:=er a
   have pb:=er b
   have fa:CO f a:=fun j hj=>by have:=hf j hj;simp only[bn,ck]at this;exact this.1
   have fb:CO f b:=fun j hj=>by have:=hf j hj;simp only[bn,ck]at this;exact this.2
   simp only[El,Ty.av,↓zq,zs,ae,zt,aE]
   refine⟨fun h=>(by cases h),fun _=>⟨by omega,fun h=>by omega,fun _=>⟨fun _=>?_,fun h=>absurd rfl h⟩⟩⟩
   repeat refine⟨by omega,?_⟩
   rw[vO]
   refine aP (Ht n a (by omega) (by omega) s f fa hs (by omega)) (B5.ne _ _ _) ?_
   rintro r ob ⟨f1,g1,g2,rfl,rfl⟩
   simp only[↓zq,zs,ae,zt,aI,aE]
   repeat refine⟨by omega,?_⟩
   cases q1:lV a s with
   |
    none =>
    rw[q1]at g2
    simp only[qe]at g2
    simp only[Option.isNone_none,Option.getD_none,bI]
    refine aV (HH b s f1) ?_
    simp only[↓zq,zs,ae,zt,aI,aE]
    repeat refine⟨by omega,?_⟩
    refine ai (zg 43 _ _) ?_
    simp only[↓zq,zs,ae,zt,cd]
    refine aV (wm f1 true (.plus .zero .zero) (by simp[Ty.atoms])) ?_
    simp only[↓zq,zs,ae,zt,aI,aE]
    exact⟨f1,g1,by simp only[qe,Ty.atoms];omega,rfl,rfl⟩
   |
    some a' =>
    rw[q1]at g2
    simp only[qe]at g2
    have la:=(cR.1 q1).small
    simp only[Option.isNone_some,cI,aW]
    refine aP (Ht n b (by omega) (by omega) s f1 (rH fb g1) (fun j hj=>hs j (by omega)) (by omega)) (B5.ne _ _ _) ?_
    rintro r ob ⟨f2,k1,k2,rfl,rfl⟩
    simp only[↓zq,zs,ae,zt,aI,aE]
    repeat refine⟨by omega,?_⟩
    refine ai (zg 43 _ _) ?_
    simp only[↓zq,zs,ae,zt,cd]
    cases q2:lV b s with
    |
     none =>
     rw[q2]at k2
     simp only[qe]at k2
     simp only[Option.isNone_none,Option.getD_none,bI]
     refine aV (wm f2 true (.plus a' .zero) (by simp[Ty.atoms];omega)) ?_
     simp only[↓zq,zs,ae,zt,aI,aE]
     exact⟨f2,by omega,by simp only[qe,Ty.atoms];omega,rfl,rfl⟩
    |
     some b' =>
     rw[q2]at k2
     simp only[qe]at k2
     have lb:=(cR.1 q2).small
     simp only[Option.isNone_some,cI,aW]
     refine aV (wm f2 false (.plus a' b') (by simp only[Ty.atoms];omega)) ?_
     simp only[↓zq,zs,ae,zt,aI,aE]
     unfold nE
     by_cases hle:(Ty.plus a' b').atoms<=400
     ·rw[if_pos hle]
      refine⟨f2,by omega,by simp only[qe,Ty.atoms];omega,?_,?_⟩
      ·simp[ve,show ¬400<(Ty.plus a' b').atoms by omega]
      ·simp[Ay,show ¬400<(Ty.plus a' b').atoms by omega]
     ·rw[if_neg hle]
      refine⟨f2,by omega,by simp only[qe,Ty.atoms];omega,?_,?_⟩
      ·simp[ve,show 400<(Ty.plus a' b').atoms by omega]
      ·simp[Ay,show 400<(Ty.plus a' b').atoms by omega]
  |
   times a b =>
   simp only[Ty.atoms]at hn h4 hb
   have pa:=er a
   have pb:=er b
   have fa:CO f a:=fun j hj=>by have:=hf j hj;simp only[bn,ck]at this;exact this.1
   have fb:CO f b:=fun j hj=>by have:=hf j hj;simp only[bn,ck]at this;exact this.2
   simp only[El,Ty.av,↓zq,zs,ae,zt,aE]
   refine⟨fun h=>(by cases h),fun _=>⟨by omega,fun h=>by omega,fun _=>⟨fun h=>by omega,fun _=>⟨fun _=>?_,fun h=>absurd rfl h⟩⟩⟩⟩
   repeat refine⟨by omega,?_⟩
   rw[tA]
   refine aP (Ht n a (by omega) (by omega) s f fa hs (by omega)) (B5.ne _ _ _) ?_
   rintro r ob ⟨f1,g1,g2,rfl,rfl⟩
   simp only[↓zq,zs,ae,zt,aI,aE]
   repeat refine⟨by omega,?_⟩
   refine ai (zg 42 _ _) ?_
   simp only[↓zq,zs,ae,zt,cd]
   repeat refine⟨by omega,?_⟩
   cases q1:lV a s with
   |
    none =>
    rw[q1]at g2
    simp only[qe]at g2
    simp only[Option.isNone_none,Option.getD_none,bI]
    refine aV (HH b s f1) ?_
    simp only[↓zq,zs,ae,zt,aI,aE]
    repeat refine⟨by omega,?_⟩
    refine ai (zg 42 _ _) ?_
    simp only[↓zq,zs,ae,zt,cd]
    refine ai (zg 43 (.times .zero b) (.times a .zero)) ?_
    simp only[↓zq,zs,ae,zt,cd]
    refine aV (wm f1 true (.plus (.times .zero b) (.times a .zero)) (by simp only[Ty.atoms];omega)) ?_
    simp only[↓zq,zs,ae,zt,aI,aE]
    exact⟨f1,g1,by simp only[qe,Ty.atoms];omega,rfl,rfl⟩
   |
    some a' =>
    rw[q1]at g2
    simp only[qe]at g2
    have la:=(cR.1 q1).small
    simp only[Option.isNone_some,cI,aW]
    refine aP (Ht n b (by omega) (by omega) s f1 (rH fb g1) (fun j hj=>hs j (by omega)) (by omega)) (B5.ne _ _ _) ?_
    rintro r ob ⟨f2,k1,k2,rfl,rfl⟩
    simp only[↓zq,zs,ae,zt,aI,aE]
    repeat refine⟨by omega,?_⟩
    refine ai (zg 42 _ _) ?_
    simp only[↓zq,zs,ae,zt,cd]
    cases q2:lV b s with
    |
     none =>
     rw[q2]at k2
     simp only[qe]at k2
     simp only[Option.isNone_none,Option.getD_none,bI]
     refine ai (zg 43 (.times a' b) (.times a .zero)) ?_
     simp only[↓zq,zs,ae,zt,cd]
     refine aV (wm f2 true (.plus (.times a' b) (.times a .zero)) (by simp only[Ty.atoms];omega)) ?_
     simp only[↓zq,zs,ae,zt,aI,aE]
     exact⟨f2,by omega,by simp only[qe,Ty.atoms];omega,rfl,rfl⟩
    |
     some b' =>
     rw[q2]at k2
     simp only[qe]at k2
     have lb:=(cR.1 q2).small
     simp only[Option.isNone_some,cI,aW]
     refine ai (zg 43 (.times a' b) (.times a b')) ?_
     simp only[↓zq,zs,ae,zt,cd]
     refine aV (wm f2 false (.plus (.times a' b) (.times a b')) (by simp only[Ty.atoms];omega)) ?_
     simp only[↓zq,zs,ae,zt,aI,aE]
     unfold nE
     by_cases hle:(Ty.plus (.times a' b) (.times a b')).atoms<=400
     ·rw[if_pos hle]
      refine⟨f2,by omega,by simp only[qe,Ty.atoms];omega,?_,?_⟩
      ·simp[ve,show ¬400<(Ty.plus (.times a' b) (.times a b')).atoms by omega]
      ·simp[Ay,show ¬400<(Ty.plus (.times a' b) (.times a b')).atoms by omega]
     ·rw[if_neg hle]
      refine⟨f2,by omega,by simp only[qe,Ty.atoms];omega,?_,?_⟩
      ·simp[ve,show 400<(Ty.plus (.times a' b) (.times a b')).atoms by omega]
      ·simp[Ay,show 400<(Ty.plus (.times a' b) (.times a b')).atoms by omega]
  |
   rc a =>
   simp only[Ty.atoms]at hn h4 hb
   have pa:=er a
   have fa:CO f a:=fun j hj=>hf j hj
   have hxa:bn (hN (f+1)) a=false:=fa _ (by omega)
   have hxs:hN (f+1)≠s:=fun e=>hs _ (by omega) e.symm
   have fo:CO (f+1) (dC (.name (hN (f+1))) a 0):=fun j hj=>by
    cases q:bn (hN j) (dC (.name (hN (f+1))) a 0)with
    |false=>rfl
    |
     true =>
     rcases gx a 0 q with e|e
     ·have:=tO e;omega
     ·rw[fa j (by omega)]at e;cases e
   have hoa:(dC (.name (hN (f+1))) a 0).atoms=a.atoms:=fK _ _ _
   have hop:=FK (.name (hN (f+1))) a 0 (by omega)
   rw[Cq hxa hxs]
   simp only[El,Ty.av,↓zq,zs,ae,zt,aE]
   refine⟨fun h=>(by cases h),fun _=>⟨by omega,fun h=>by omega,fun _=>⟨fun h=>by omega,fun _=>⟨fun h=>by omega,fun _=>⟨fun _=>?_,fun h=>absurd rfl h⟩⟩⟩⟩⟩
   refine aV (NR f false (by omega)) ?_
   simp only[↓zq,zs,ae,zt,aI,aE]
   repeat refine⟨by omega,?_⟩
   simp only[Ty.av]at hop
   refine ai hop ?_
   simp only[↓zq,zs,ae,zt,aI,aE]
   refine aP (Ht n (dC (.name (hN (f+1))) a 0) (by omega) (by omega) s (f+1) fo (fun j hj=>hs j (by omega)) (by omega)) (B5.ne _ _ _) ?_
   rintro r ob ⟨f1,g1,g2,rfl,rfl⟩
   simp only[↓zq,zs,ae,zt,aI,aE]
   generalize hx:hN (f+1)=x at *
   generalize hin:dC (.name x) a 0=i at *
   have hrc:(Ty.rc a).av=.ptr [.v (.int .u8 114),.v (.string (mk [])),.v (.int .i64 0),a.av,.v (.pointer none)]:=rfl
   cases q1:lV i s with
   |
    none =>
    rw[q1]at g2
    simp only[qe]at g2
    simp only[Option.isNone_none,Option.getD_none,bI]
    refine aV (wm f1 true .zero (by simp[Ty.atoms])) ?_
    simp only[↓zq,zs,ae,zt,aI,aE]
    rw[<-hrc]
    refine ai (B3 x (.rc a) _) ?_
    simp only[↓zq,zs,ae,zt,aE]
    refine aV (HH i x f1) ?_
    simp only[↓zq,zs,ae,zt,aI,aE]
    refine aV (wm f1 true .zero (by simp[Ty.atoms])) ?_
    simp only[↓zq,zs,ae,zt,aI,aE]
    refine ai (B3 x (.rc a) _) ?_
    simp only[↓zq,zs,ae,zt,aE]
    refine ai (zg 42 _ (.bound 0)) ?_
    simp only[↓zq,zs,ae,zt,cd]
    refine ai (zg 43 (sub x (.rc a) (ve true .zero)) (.times (sub x (.rc a) (ve true .zero)) (.bound 0))) ?_
    simp only[↓zq,zs,ae,zt,cd,vk]
    have hz:sub x (.rc a) (ve true .zero)=.zero:=by rw[xY];rfl
    refine aV (wm f1 true (.rc (.plus (sub x (.rc a) (ve true .zero)) (.times (sub x (.rc a) (ve true .zero)) (.bound 0)))) (by rw[hz];simp only[Ty.atoms];omega)) ?_
    simp only[↓zq,zs,ae,zt,aI,aE]
    rw[xY,vk]
    exact⟨f1,by omega,by simp only[qe,Ty.atoms];omega,rfl,rfl⟩
   |
    some c =>
    rw[q1]at g2
    simp only[qe]at g2
    have lc:=(cR.1 q1).small
    simp only[Option.isNone_some,cI,aW]
    refine aV (wm f1 false c (by omega)) ?_
    simp only[↓zq,zs,ae,zt,aI,aE]
    rw[vV lc,vw lc,<-hrc]
    refine ai (B3 x (.rc a) c) ?_
    simp only[↓zq,zs,ae,zt,aE]
    refine aP (Ht n i (by omega) (by omega) x f1 (rH fo g1) (fun j hj=>by rw[<-hx];exact fun e=>by have:=tO e;omega) (by omega)) (B5.ne _ _ _) ?_
    rintro r ob ⟨f2,k1,k2,rfl,rfl⟩
    simp only[↓zq,zs,ae,zt,aI,aE]
    have hsc:(sub x (.rc a) c).atoms+fB x c=c.atoms+fB x c*(Ty.rc a).atoms:=dW x (.rc a) c
    have hcc:∀t:Ty,fB x t<=t.atoms:=fun t=>by
     have h1:=dW x .zero t
     have h2:=hG x .zero t
     simp only[Ty.atoms,dI]at h1
     have h3:∀t:Ty,fB x t<=t.atoms:=by
      intro t
      induction t with
      |name s=>simp only[fB,Ty.atoms];split<;>omega
      |plus a b i1 i2=>simp only[fB,Ty.atoms];omega
      |times a b i1 i2=>simp only[fB,Ty.atoms];omega
      |rc a i=>simp only[fB,Ty.atoms];omega
      |_=>simp[fB,Ty.atoms]
     exact h3 t
    have hbig:∀t:Ty,t.atoms<=400->(sub x (.rc a) t).atoms<=400+400*402:=fun t ht=>by
     have h1:=dW x (.rc a) t
     have h2:=hcc t
     have h3:fB x t*(Ty.rc a).atoms<=400*402:=Nat.mul_le_mul (by omega) (by simp only[Ty.atoms];omega)
     omega
    have b1:=hbig c lc
    cases q2:lV i x with
    |
     none =>
     rw[q2]at k2
     simp only[qe]at k2
     simp only[Option.isNone_none,Option.getD_none,bI]
     refine aV (wm f2 true .zero (by simp[Ty.atoms])) ?_
     simp only[↓zq,zs,ae,zt,aI,aE]
     rw[xY,vk]
     refine ai (B3 x (.rc a) .zero) ?_
     simp only[↓zq,zs,ae,zt,aE]
     refine ai (zg 42 _ (.bound 0)) ?_
     simp only[↓zq,zs,ae,zt,cd]
     refine ai (zg 43 (sub x (.rc a) c) (.times (sub x (.rc a) .zero) (.bound 0))) ?_
     simp only[↓zq,zs,ae,zt,cd]
     refine aV (wm f2 true (.rc (.plus (sub x (.rc a) c) (.times (sub x (.rc a) .zero) (.bound 0)))) (by simp only[sub,Ty.atoms];omega)) ?_
     simp only[↓zq,zs,ae,zt,aI,aE]
     rw[xY,vk]
     exact⟨f2,by omega,by simp only[qe,Ty.atoms];omega,rfl,rfl⟩
    |
     some d =>
     rw[q2]at k2
     simp only[qe]at k2
     have ld:=(cR.1 q2).small
     have b2:=hbig d ld
     simp only[Option.isNone_some,cI,aW]
     refine aV (wm f2 false d (by omega)) ?_
     simp only[↓zq,zs,ae,zt,aI,aE]
     rw[vV ld,vw ld]
     refine ai (B3 x (.rc a) d) ?_
     simp only[↓zq,zs,ae,zt,aE]
     refine ai (zg 42 _ (.bound 0)) ?_
     simp only[↓zq,zs,ae,zt,cd]
     refine ai (zg 43 (sub x (.rc a) c) (.times (sub x (.rc a) d) (.bound 0))) ?_
     simp only[↓zq,zs,ae,zt,cd]
     have hdrc:pV a x c d=.rc (.plus (sub x (.rc a) c) (.times (sub x (.rc a) d) (.bound 0))):=rfl
     refine aV (wm f2 false (pV a x c d) (by rw[hdrc];simp only[Ty.atoms];omega)) ?_
     simp only[↓zq,zs,ae,zt,aI,aE]
     have s1:=hG x (.rc a) c
     have s2:=hG x (.rc a) d
     unfold nE
     by_cases hle:(pV a x c d).atoms<=400
     ·rw[if_pos hle,vV hle,vw hle]
      exact⟨f2,by omega,by simp only[qe,hdrc,Ty.atoms];omega,rfl,rfl⟩
     ·rw[if_neg hle,EM hle,EO hle]
      exact⟨f2,by omega,by simp only[qe,Ty.atoms];omega,rfl,rfl⟩
def OZ(o:Option Ty):AV->List Ob->Prop:=fun r ob=>ob=[]/\∃p,LK.ptr.has p/\r=.cD [p,.v (.bool o.isSome)]/\∀d,o=some d->p=d.av
theorem OZ.ne(o:Option Ty):∃r ob,OZ o r ob:=by
 cases o with
 |none=>exact⟨_,_,rfl,gp,(iC).mpr trivial,rfl,fun d h=>by cases h⟩
 |some d=>exact⟨_,_,rfl,d.av,(aE _).mpr trivial,rfl,fun d' h=>by cases h;rfl⟩
theorem HJ:hN 1=l9:=by show (35::dd 1:Nm)=_;rw[eI (by omega)];rfl
theorem Pf(a:Ty)(h4:a.atoms+2<=400)(hf:∀j,bn (hN j) a=false):an Tryz.prog 97 [(Ty.rc a).av] [] (OZ (oe a l9)):=by
 have hxa:bn (hN 1) a=false:=hf 1
 have fo:CO 1 (dC (.name (hN 1)) a 0):=fun j hj=>by
  cases q:bn (hN j) (dC (.name (hN 1)) a 0)with
  |false=>rfl
  |
   true =>
   rcases gx a 0 q with e|e
   ·have:=tO e;omega
   ·rw[hf j]at e;cases e
 have hoa:(dC (.name (hN 1)) a 0).atoms=a.atoms:=fK _ _ _
 have hop:=FK (.name (hN 1)) a 0 (by omega)
 rw[<-HJ]
 have hrc:(Ty.rc a).av=.ptr [.v (.int .u8 114),.v (.string (mk [])),.v (.int .i64 0),a.av,.v (.pointer none)]:=rfl
 refine Sk _ ((aE _).mpr trivial) ?_
 unfold Jq
 refine aV (NR 0 false (by omega)) ?_
 simp only[Ty.av,↓zq,zs,ae,zt,aI,aE]
 repeat refine⟨by omega,?_⟩
 simp only[Ty.av]at hop
 refine ai hop ?_
 simp only[↓zq,zs,ae,zt,aI,aE]
 refine aP (Ht 400 (dC (.name (hN 1)) a 0) (by omega) (by omega) (hN 1) 1 fo (fun j hj e=>by have:=tO e;omega) (by omega)) (B5.ne _ _ _) ?_
 rintro r ob ⟨f1,g1,g2,rfl,rfl⟩
 simp only[↓zq,zs,ae,zt,aI,aE]
 unfold oe
 cases q1:lV (dC (.name (hN 1)) a 0) (hN 1)with
 |
  none =>
  simp only[Option.isNone_none,Option.getD_none,bI]
  refine aV (wm f1 true .zero (by simp[Ty.atoms])) ?_
  simp only[↓zq,zs,ae,zt,aI,aE,vk]
  exact⟨fun _=>⟨rfl,gp,(iC).mpr trivial,rfl,fun d h=>(by cases h)⟩,fun h=>(by cases h)⟩
 |
  some d =>
  have ld:=(cR.1 q1).small
  simp only[Option.isNone_some,cI,aW]
  refine aV (wm f1 false d (by omega)) ?_
  simp only[↓zq,zs,ae,zt,aI,aE]
  rw[vV ld,vw ld]
  refine⟨fun h=>(by cases h),fun _=>?_⟩
  rw[<-hrc]
  refine ai (B3 (hN 1) (.rc a) d) ?_
  simp only[↓zq,zs,ae,zt,aE]
  have h1:=dW (hN 1) (.rc a) d
  have hcn:fB (hN 1) d<=d.atoms:=by
   have h3:∀t:Ty,fB (hN 1) t<=t.atoms:=by
    intro t
    induction t with
    |name s=>simp only[fB,Ty.atoms];split<;>omega
    |plus a b i1 i2=>simp only[fB,Ty.atoms];omega
    |times a b i1 i2=>simp only[fB,Ty.atoms];omega
    |rc a i=>simp only[fB,Ty.atoms];omega
    |_=>simp[fB,Ty.atoms]
   exact h3 d
  have h3:fB (hN 1) d*(Ty.rc a).atoms<=400*402:=Nat.mul_le_mul (by omega) (by simp only[Ty.atoms];omega)
  refine aV (wm f1 false (sub (hN 1) (.rc a) d) (by omega)) ?_
  simp only[↓zq,zs,ae,zt,aI,aE]
  unfold nE
  by_cases hle:(sub (hN 1) (.rc a) d).atoms<=400
  ·rw[if_pos hle,vV hle,vw hle]
   exact⟨rfl,_,(aE _).mpr trivial,rfl,fun d' h=>by cases h;rfl⟩
  ·rw[if_neg hle,EM hle,EO hle]
   exact⟨rfl,_,(aE _).mpr trivial,rfl,fun d' h=>(by cases h)⟩
end Go.Proofs.Trees
namespace Go.Proofs.Trees
open Go Go.VL Go.RowKit
theorem rD(h:Nm)(a b:E):(e9 (.list [.atom h,a,b])).length=h.length+(e9 a).length+(e9 b).length+4:=by
 simp only[e9,ej,az,aq,aG];omega
theorem jk(F:List Nm)(hF:F.length<=10000):∀(t:Ty) (to:List Nm) (k:Nat),vd t->(∀w,w∈to->w.length<=20)->k+(F.length+1)*t.atoms<90000000->(e9 (gU F t to k).1).length<=50*t.atoms
 | .zero,_,_,_,_,_=>by simp[gU,e9,Ty.atoms]
 | .one,_,_,_,_,_=>by simp[gU,e9,Ty.atoms]
 | .name s,_,_,hn,_,_=>by have:=hn s (by simp[bn]);simp only[gU,e9,Ty.atoms];omega
 |
  .bound u,to,_,_,ht,_=>by
  show (gl to u).length<=50*1
  unfold gl
  by_cases h:to.length-1-u<to.length
  ·rw[aa,bp h];have:=ht _ (bD h);simp only[cI];omega
  ·rw[aa,List.getElem?_eq_none (by omega)];simp
 |
  .plus a b,to,k,hn,ht,hk=>by
  have h1:=ik F a to k
  have:(F.length+1)*(1+a.atoms+b.atoms)=(F.length+1)+(F.length+1)*a.atoms+(F.length+1)*b.atoms:=by simp only[cU,dI]
  simp only[Ty.atoms]at hk
  have i1:=jk F hF a to k (fun y hy=>hn y (by simp[bn,hy])) ht (by omega)
  have i2:=jk F hF b to _ (fun y hy=>hn y (by simp[bn,hy])) ht (show (gU F a to k).2+_<_ by omega)
  simp only[gU,rD,Ty.atoms,az,aG];omega
 |
  .times a b,to,k,hn,ht,hk=>by
  have h1:=ik F a to k
  have:(F.length+1)*(1+a.atoms+b.atoms)=(F.length+1)+(F.length+1)*a.atoms+(F.length+1)*b.atoms:=by simp only[cU,dI]
  simp only[Ty.atoms]at hk
  have i1:=jk F hF a to k (fun y hy=>hn y (by simp[bn,hy])) ht (by omega)
  have i2:=jk F hF b to _ (fun y hy=>hn y (by simp[bn,hy])) ht (show (gU F a to k).2+_<_ by omega)
  simp only[gU,rD,Ty.atoms,az,aG];omega
 |
  .rc a,to,k,hn,ht,hk=>by
  obtain⟨g1,g2,_,_⟩:=gC F k
  have:(F.length+1)*(2+a.atoms)=(F.length+1)*2+(F.length+1)*a.atoms:=by simp only[cU]
  simp only[Ty.atoms]at hk
  have hl:=wE (k:=nx F k) (by omega)
  have i1:=jk F hF a (to++[tN (nx F k)]) (nx F k+1) hn (fun w hw=>by
   rcases aN.1 hw with hw|hw
   ·exact ht w hw
   ·simp only[aU]at hw;rw[hw];exact hl) (by omega)
  simp only[gU,rD,Ty.atoms,az,aG]
  simp only[e9]
  simp only[az]at hl |-
  omega
theorem Ku(x0 a fv:AV)(F:List Nm)(h0:LK.ptr.has x0)(ha:LK.sl.has a)(hfv:cm fv F)(hF:F.length<100000):∀(n j:Nat),qb F n j<j+n->j+n<100000000 ->
 CV [x0,a,.v (.string (mk (tN j)))] [.cells [fv],.cells [.v (.int .i64 ((j+1:Nat):Int))]] (iG 1 [x0,a,.v (.string (mk (tN (qb F n j))))] [.cells [fv],.cells [.v (.int .i64 ((qb F n j+1:Nat):Int))]])
 |0,j,h,_=>by simp only[qb]at h;omega
 |
  n+1,j,h,hj=>by
  refine MM _ _ _ _ _ ?_
  simp only[HG,↓zq,zs,ae,zt,ae,hfv.1,h0,ha]
  refine⟨fun h=>(by simp at h),fun _=>?_⟩
  refine ai (JK F fv hfv (tN j) (by omega)) ?_
  simp only[↓zq,zs,ae,zt]
  rw[qb]at h |-
  refine⟨fun hm=>?_,fun hm=>?_⟩
  ·rw[if_pos hm]at h |-
   refine ai (HQ (j+1) (by omega)) ?_
   have hd:=oT 8 (j+1) (by omega)
   simp only[↓zq,zs,ae,zt,bc,aT]
   rw[bA (j+1) (by omega)]
   exact⟨by simp[cN];omega,Ku x0 a fv F h0 ha hfv hF n (j+1) (by omega) (by omega)⟩
  ·rw[if_neg hm]
   exact⟨rfl,rfl,rfl⟩
theorem Qz(x0 a fv:AV)(F:List Nm)(h0:LK.ptr.has x0)(ha:LK.sl.has a)(hfv:cm fv F)(hF:F.length<10000)(k:Nat)(hk:k<90000000) :
 CV [x0,a,.v (.string (mk []))] [.cells [fv],.cells [.v (.int .i64 (k:Int))]] (iG 1 [x0,a,.v (.string (mk (tN (nx F k))))] [.cells [fv],.cells [.v (.int .i64 ((nx F k+1:Nat):Int))]]):=by
 obtain⟨g1,g2,_,_⟩:=gC F k
 refine MM _ _ _ _ _ ?_
 simp only[HG,↓zq,zs,ae,zt,ae,hfv.1,h0,ha]
 refine⟨fun _=>?_,fun h=>(by simp at h)⟩
 refine ai (HQ k (by omega)) ?_
 have hd:=oT 8 k (by omega)
 simp only[↓zq,zs,ae,zt,bc,aT]
 rw[bA k (by omega)]
 exact⟨by simp[cN];omega,Ku x0 a fv F h0 ha hfv (by omega) (F.length+1) k (by show nx F k<_;omega) (by omega)⟩
theorem zm(F:List Nm)(fv:AV)(hfv:cm fv F)(hF:F.length<=1000):∀(t:Ty) (to:List Nm) (a:AV) (k:Nat),cm a to->to.length+t.atoms<10000->jx t to.length->vd t->(∀w,w∈to->w.length<=20)->k+(F.length+1)*t.atoms<80000000 ->
 an Tryz.prog 155 [t.av,a,.gJ 155 [none,some 0,some 1],.ref 0 0,.ref 1 0] [.cells [fv],.cells [.v (.int .i64 (k:Int))]] (dq (.v (.string (mk (e9 (gU F t to k).1)))) [.cells [fv],.cells [.v (.int .i64 ((gU F t to k).2:Int))]])
 |
  .zero,to,a,k,ha,hl,hlc,hs,ht,hk=>by
  refine wN _ _ _ _ ((aE _).mpr trivial) ha.1 hfv.1 ?_
  simp only[EI,Ty.av,↓zq,zs,ae,zt,aE]
  refine⟨by omega,fun h=>by omega,fun _=>⟨fun h=>by omega,fun _=>⟨fun h=>by omega,fun _=>⟨fun h=>by omega,fun _=>⟨fun h=>by omega,fun _=>?_⟩⟩⟩⟩⟩
  repeat refine⟨by omega,?_⟩
  exact⟨⟨rfl,(l5 _ _).mpr trivial,trivial⟩,rfl,rfl⟩
 |
  .one,to,a,k,ha,hl,hlc,hs,ht,hk=>by
  refine wN _ _ _ _ ((aE _).mpr trivial) ha.1 hfv.1 ?_
  simp only[EI,Ty.av,↓zq,zs,ae,zt,aE]
  refine⟨by omega,fun h=>by omega,fun _=>⟨fun h=>by omega,fun _=>⟨fun h=>by omega,fun _=>⟨fun h=>by omega,fun _=>⟨fun h=>by omega,fun _=>?_⟩⟩⟩⟩⟩
  repeat refine⟨by omega,?_⟩
  exact⟨⟨rfl,(l5 _ _).mpr trivial,trivial⟩,rfl,rfl⟩
 |
  .name s,to,a,k,ha,hl,hlc,hs,ht,hk=>by
  refine wN _ _ _ _ ((aE _).mpr trivial) ha.1 hfv.1 ?_
  simp[EI,Ty.av,↓zq,zs,ae,dq,gU,e9]
 |
  .bound u,to,a,k,ha,hl,hlc,hs,ht,hk=>by
  have hu:u<to.length:=hlc
  refine wN _ _ _ _ ((aE _).mpr trivial) ha.1 hfv.1 ?_
  simp only[EI,Ty.av,↓zq,zs,ae,zt,ha.len]
  rw[wrap64 ((to.length:Int)-1) (by omega) (by omega),wrap64 _ (by omega) (by omega)]
  have e1:(to.length:Int)-1-(u:Int)=((to.length-1-u:Nat):Int):=by omega
  rw[e1]
  simp only[bM,ha.idx (show to.length-1-u<to.length by omega),↓zq,zs,ae,zt]
  refine⟨by omega,fun h=>by omega,fun _=>⟨fun _=>⟨ha.1,by omega,⟨ha.1,by omega,by omega⟩,by omega,rfl,rfl⟩,fun h=>absurd rfl h⟩⟩
 |
  .plus x y,to,a,k,ha,hl,hlc,hs,ht,hk=>by
  simp only[Ty.atoms]at hl hk
  have h1:=ik F x to k
  have hm:(F.length+1)*(1+x.atoms+y.atoms)=(F.length+1)+(F.length+1)*x.atoms+(F.length+1)*y.atoms:=by simp only[cU,dI]
  have sx:vd x:=fun z hz=>hs z (by simp[bn,hz])
  have sy:vd y:=fun z hz=>hs z (by simp[bn,hz])
  have t1:=jk F (by omega) x to k sx ht (by omega)
  have t2:=jk F (by omega) y to (gU F x to k).2 sy ht (by omega)
  have hb:(⟨(bytesOf [[.v (.int .u8 43)]]).toArray⟩:ByteArray)=mk [43]:=rfl
  have h8:jB [[AV.v (.int .u8 43)]]:=⟨rfl,(l5 _ _).mpr trivial,trivial⟩
  refine wN _ _ _ _ ((aE _).mpr trivial) ha.1 hfv.1 ?_
  simp only[EI,Ty.av,↓zq,zs,ae,zt,aE,hb]
  refine⟨by omega,fun h=>by omega,fun _=>⟨fun h=>by omega,fun _=>⟨fun _=>?_,fun h=>absurd rfl h⟩⟩⟩
  repeat refine⟨by omega,?_⟩
  refine aV (zm F fv hfv hF x to a k ha (by omega) hlc.1 sx ht (by omega)) ?_
  simp only[↓zq,zs,ae,zt,aI,hfv.1,hb,bc,aT]
  repeat (first|refine⟨by omega,?_⟩|refine⟨h8,?_⟩|refine⟨by simp[cN];omega,?_⟩)
  refine aV (zm F fv hfv hF y to a _ ha (by omega) hlc.2 sy ht (by omega)) ?_
  simp only[↓zq,zs,ae,zt,aI,hfv.1,hb,bc,aT]
  repeat (first|refine⟨by omega,?_⟩|refine⟨h8,?_⟩|refine⟨by simp[cN];omega,?_⟩)
  refine⟨?_,rfl⟩
  simp[gU,e9,ej]
 |
  .times x y,to,a,k,ha,hl,hlc,hs,ht,hk=>by
  simp only[Ty.atoms]at hl hk
  have h1:=ik F x to k
  have hm:(F.length+1)*(1+x.atoms+y.atoms)=(F.length+1)+(F.length+1)*x.atoms+(F.length+1)*y.atoms:=by simp only[cU,dI]
  have sx:vd x:=fun z hz=>hs z (by simp[bn,hz])
  have sy:vd y:=fun z hz=>hs z (by simp[bn,hz])
  have t1:=jk F (by omega) x to k sx ht (by omega)
  have t2:=jk F (by omega) y to (gU F x to k).2 sy ht (by omega)
  have hb:(⟨(bytesOf [[.v (.int .u8 42)]]).toArray⟩:ByteArray)=mk [42]:=rfl
  have h8:jB [[AV.v (.int .u8 42)]]:=⟨rfl,(l5 _ _).mpr trivial,trivial⟩
  refine wN _ _ _ _ ((aE _).mpr trivial) ha.1 hfv.1 ?_
  simp only[EI,Ty.av,↓zq,zs,ae,zt,aE,hb]
  refine⟨by omega,fun h=>by omega,fun _=>⟨fun h=>by omega,fun _=>⟨fun h=>by omega,fun _=>⟨fun _=>?_,fun h=>absurd rfl h⟩⟩⟩⟩
  repeat refine⟨by omega,?_⟩
  refine aV (zm F fv hfv hF x to a k ha (by omega) hlc.1 sx ht (by omega)) ?_
  simp only[↓zq,zs,ae,zt,aI,hfv.1,hb,bc,aT]
  repeat (first|refine⟨by omega,?_⟩|refine⟨h8,?_⟩|refine⟨by simp[cN];omega,?_⟩)
  refine aV (zm F fv hfv hF y to a _ ha (by omega) hlc.2 sy ht (by omega)) ?_
  simp only[↓zq,zs,ae,zt,aI,hfv.1,hb,bc,aT]
  repeat (first|refine⟨by omega,?_⟩|refine⟨h8,?_⟩|refine⟨by simp[cN];omega,?_⟩)
  refine⟨?_,rfl⟩
  simp[gU,e9,ej]
 |
  .rc x,to,a,k,ha,hl,hlc,hs,ht,hk=>by
  simp only[Ty.atoms]at hl hk
  obtain⟨g1,g2,_,_⟩:=gC F k
  have hm:(F.length+1)*(2+x.atoms)=(F.length+1)*2+(F.length+1)*x.atoms:=by simp only[cU]
  have hln:=wE (k:=nx F k) (by omega)
  have ht':∀w,w∈to++[tN (nx F k)]->w.length<=20:=fun w hw=>by
   rcases aN.1 hw with hw|hw
   ·exact ht w hw
   ·simp only[aU]at hw;rw[hw];exact hln
  have t1:=jk F (by omega) x (to++[tN (nx F k)]) (nx F k+1) hs ht' (by omega)
  have hrc:(Ty.rc x).av=.ptr [.v (.int .u8 114),.v (.string (mk [])),.v (.int .i64 0),x.av,.v (.pointer none)]:=rfl
  refine wN _ _ _ _ ((aE _).mpr trivial) ha.1 hfv.1 ?_
  simp only[EI,Ty.av,↓zq,zs,ae,zt,aE]
  refine⟨by omega,fun h=>by omega,fun _=>⟨fun h=>by omega,fun _=>⟨fun h=>by omega,fun _=>⟨fun h=>by omega,fun _=>⟨fun _=>?_,fun h=>absurd rfl h⟩⟩⟩⟩⟩
  rw[<-hrc]
  repeat refine⟨by omega,?_⟩
  refine cJ (Qz (Ty.rc x).av a fv F ((aE _).mpr trivial) ha.1 hfv (by omega) k (by omega)) ?_
  simp only[Ty.av,↓zq,zs,ae,zt,ae,aI,hfv.1,ha.1,aE,ha.2,E3,aT,kl,ke]
  have hl2:(dd (nx F k)).length+1<=20:=hln
  have hl3:(tN (nx F k)).length=(dd (nx F k)).length+1:=rfl
  refine⟨by omega,by simp only[aq,az,aG,hl3];omega,by omega,by omega,⟨fun c hc=>by simp at hc;rw[hc];rfl,by omega⟩,?_⟩
  refine aV (zm F fv hfv hF x (to++[tN (nx F k)]) _ (nx F k+1) (.of _) (by simp;omega) (by rw[aq];exact hlc) hs ht' (by omega)) ?_
  simp only[↓zq,zs,ae,zt,aI,hfv.1]
  repeat refine⟨by omega,?_⟩
  refine⟨by simp only[aq,az,aG,hl3];omega,by simp only[aq,az,aG,hl3];omega,?_,rfl⟩
  simp[gU,e9,ej]
theorem Qp(t:Ty)(g:fV t)(hs:vd t)(h4:t.atoms<=400):an Tryz.prog 137 [t.av] [] (bJ (.v (.string (mk (E0 t))))):=by
 refine P8 _ ((aE _).mpr trivial) ?_
 unfold KT
 have hn:=eB t []
 simp only[aG,aY]at hn
 have hm:((bO t []).length+1)*t.atoms<=401*400:=Nat.mul_le_mul (by omega) h4
 refine ai (No t (by omega)) ?_
 simp only[↓zq,zs,ae,zt,cc]
 refine aV (zm (bO t []) _ (.of _) (by omega) t [] zi 0 .nil (by simp;omega) g.1 hs (fun w hw=>by cases hw) (by omega)) ?_
 simp only[↓zq,zs,ae,zt,aI,cc]
 exact⟨rfl,rfl⟩
theorem Sd(t:Ty)(g:fV t)(hs:vd t)(hl:t.atoms<1000000):an Tryz.prog 98 [t.av] [] (bJ (uO (told t))):=by
 refine Sq _ ((aE _).mpr trivial) ?_
 unfold Lk
 refine ai (ES t hl) ?_
 simp only[↓zq,zs,ae,zt]
 refine⟨fun h=>?_,fun h=>?_⟩
 ·have:told t=none:=by unfold told;rw[if_neg fun h'=>by have:=h'.1;omega]
  rw[this];exact⟨rfl,rfl⟩
 ·have h4:t.atoms<=400:=by omega
  refine ai (Qp t g hs h4) ?_
  simp only[↓zq,zs,ae,zt]
  refine ai (Ie (E0 t)) ?_
  simp only[↓zq,zs,ae,zt,iv]
  unfold told
  cases q:qJ (E0 t)with
  |
   none =>
   simp only[ib,↓zq,zs,ae]
   rw[if_neg (by simp)]
   exact⟨fun _=>⟨rfl,rfl⟩,fun h=>(by cases h)⟩
  |
   some u =>
   simp only[ib,↓zq,zs,ae,fO]
   rw[if_pos ⟨h4,rfl⟩]
   exact⟨fun h=>(by cases h),fun _=>⟨rfl,rfl⟩⟩
theorem PU(s:Nm):an Tryz.prog 70 [.v (.string (mk s))] [] (bJ (uO (cF s))):=by
 refine R4 _ ?_
 unfold Lm
 refine ai (Ie s) ?_
 simp only[↓zq,zs,ae,zt,iv]
 cases q:qJ s with
 |
  none =>
  have:cF s=none:=by unfold cF;rw[q]
  rw[this]
  simp only[ib,↓zq,zs,ae]
  exact⟨fun _=>⟨rfl,rfl⟩,fun h=>(by cases h)⟩
 |
  some t =>
  simp only[ib,↓zq,zs,ae,fO]
  have notRec:(∀a,t≠.rc a)->cF s=none:=fun hn=>by
   unfold cF;rw[q]
   cases t<;>first|rfl|exact absurd rfl (hn _)
  refine⟨fun h=>(by cases h),fun _=>?_⟩
  cases t with
  |
   rc a =>
   have h4:=sP q
   simp only[Ty.atoms]at h4
   have hq:cF s=(oe a l9).bind told:=by unfold cF;rw[q]
   obtain⟨e,he,hw,hte,hats,hok⟩:=nX q
   have hgood:∀d,oe a l9=some d->fV d/\(vd (.rc a)->vd d):=fun d hd=>rP hw hte ⟨by simp,by simp,by simp⟩ hd
   rw[hq]
   simp only[Ty.av,↓zq,zs,ae]
   refine⟨by omega,fun h=>by omega,fun _=>?_⟩
   have hld:=Pf a (by omega) (fun j=>by
    cases q2:bn (hN j) a with
    |false=>rfl
    |true=>exact absurd rfl ((xE (np q (hN j) q2)).2 (dd j)))
   simp only[Ty.av]at hld
   refine aP hld (OZ.ne _) ?_
   rintro r ob ⟨rfl,p,hp,rfl,hpe⟩
   simp only[↓zq,zs,ae,zt,eq_true hp]
   cases q1:oe a l9 with
   |
    none =>
    simp only[bu,bI]
    exact⟨fun _=>⟨rfl,rfl⟩,fun h=>(by cases h)⟩
   |
    some d =>
    simp only[aZ,aW]
    refine⟨fun h=>(by cases h),fun _=>?_⟩
    rw[hpe d q1]
    have hl:d.atoms<=400:=by
     simp only[oe,aX,eN]at q1
     obtain⟨_,_,h1,h2⟩:=q1
     rw[<-h2];exact h1
    refine ai (Sd d (hgood d q1).1 ((hgood d q1).2 (BU q)) (by omega)) ?_
    cases told d<;>simp only[uO,↓zq,zs,ae,zt]<;>exact⟨rfl,rfl⟩
  |
   _ =>
   rw[notRec fun a h=>by cases h]
   simp only[Ty.av,↓zq,zs,ae]
   exact⟨by omega,fun _=>⟨rfl,rfl⟩,fun h=>by omega⟩
end Go.Proofs.Trees
namespace Go.Proofs.Trees
open Go Go.VL Go.RowKit
theorem EH:∀(m:Nat) (c:Vl),c.nodes<=m->∀(t:Ty) (v:Vl),dL t c=true->∀(ea:AV) (ids:List Nat),kI ea ids->∀(s:List UInt8) (fr:AV),LK.has .ptr fr->an Tryz.prog 79 [.agg [t.av,ea],c.cA,.agg [.v (.string (mk s)),fr],v.cA] [] (bJ (cX t c v).cA)
 |0,c,hm=>by have:=dw c;omega
 |
  m+1,c,hm=>by
  intro t v hc ea ids he s fr hf
  refine O2 _ _ _ _ _ _ ((aE _).mpr trivial) he.has ((aM _).mpr trivial) hf ((aM _).mpr trivial) ?_
  have fin:∀x:AV,LK.has .ptr x->LK.has .ptr x=True:=fun x h=>eq_true h
  cases t with
  |zero=>rw[tn];simp[Cj,Ty.av,↓zq,zs,ae,bJ]
  |one=>rw[vQ];simp[Cj,Ty.av,↓zq,zs,ae,bJ]
  |name n=>rw[lq];simp[Cj,Ty.av,↓zq,zs,ae,bJ]
  |bound u=>rw[rC];simp[Cj,Ty.av,↓zq,zs,ae,bJ]
  |
   plus a b =>
   have hL:=Av a.av b.av ea 43 (mk []) 0 ((aE _).mpr trivial) he.has
   have hR:=zI a.av b.av ea 43 (mk []) 0 ((aE _).mpr trivial) he.has
   rcases vN hc with⟨x,rfl,hx⟩|⟨x,rfl,hx⟩
   ·simp only[Vl.nodes]at hm
    simp only[Cj,Ty.av,↓zq,zs,ae]
    refine⟨by omega,fun _=>?_,fun h=>absurd rfl h⟩
    refine ai hL ?_
    simp only[↓zq,zs,ae,bF,aE,he.has,Vl.cA,aM]
    refine⟨by omega,fun h=>by omega,fun _=>⟨by omega,by omega,?_⟩⟩
    refine ai (EH m x (by omega) a v hx ea ids he s fr hf) ?_
    simp only[↓zq,zs,ae,aM]
    refine ai (zV 108 _ ((aM _).mpr trivial)) ?_
    simp[↓zq,zs,ae,bJ,cX,Vl.cA,cd]
   ·simp only[Vl.nodes]at hm
    simp only[Cj,Ty.av,↓zq,zs,ae]
    refine⟨by omega,fun _=>?_,fun h=>absurd rfl h⟩
    refine ai hL ?_
    simp only[↓zq,zs,ae,bF,aE,he.has,Vl.cA,aM]
    refine⟨by omega,fun _=>?_,fun h=>absurd rfl h⟩
    refine ai hR ?_
    simp only[↓zq,zs,ae,bF,aE,he.has,Vl.cA,aM]
    refine⟨by omega,by omega,?_⟩
    refine ai (EH m x (by omega) b v hx ea ids he s fr hf) ?_
    simp only[↓zq,zs,ae,aM]
    refine ai (zV 114 _ ((aM _).mpr trivial)) ?_
    simp[↓zq,zs,ae,bJ,cX,Vl.cA,cd]
  |
   times a b =>
   have hL:=Av a.av b.av ea 42 (mk []) 0 ((aE _).mpr trivial) he.has
   have hR:=zI a.av b.av ea 42 (mk []) 0 ((aE _).mpr trivial) he.has
   rcases sT hc with⟨x,y,rfl,hx⟩|⟨x,y,rfl,hx⟩
   ·simp only[Vl.nodes]at hm
    simp only[Cj,Ty.av,↓zq,zs,ae,Vl.cA]
    refine⟨by omega,fun h=>by omega,fun _=>⟨fun _=>⟨by omega,fun _=>?_,fun h=>absurd rfl h⟩,fun h=>absurd rfl h⟩⟩
    refine ai hL ?_
    simp only[↓zq,zs,ae,bF,aE,he.has,Vl.cA,aM]
    repeat refine⟨by omega,?_⟩
    refine ai (EH m x (by omega) a v hx ea ids he s fr hf) ?_
    simp only[↓zq,zs,ae,aM]
    repeat refine⟨by omega,?_⟩
    refine ai (zQ _ _ ((aM _).mpr trivial) ((aM _).mpr trivial)) ?_
    simp[↓zq,zs,ae,bJ,cX,Vl.cA,cd]
   ·simp only[Vl.nodes]at hm
    simp only[Cj,Ty.av,↓zq,zs,ae,Vl.cA,aM]
    refine⟨by omega,fun h=>by omega,fun _=>⟨fun _=>⟨by omega,fun h=>by omega,fun _=>?_⟩,fun h=>absurd rfl h⟩⟩
    repeat refine⟨by omega,?_⟩
    refine ai hR ?_
    simp only[↓zq,zs,ae,bF,aE,he.has,Vl.cA,aM]
    repeat refine⟨by omega,?_⟩
    refine ai (EH m y (by omega) b v hx ea ids he s fr hf) ?_
    simp only[↓zq,zs,ae,aM]
    refine ai (zQ _ _ ((aM _).mpr trivial) ((aM _).mpr trivial)) ?_
    simp[↓zq,zs,ae,bJ,cX,Vl.cA,cd]
  |
   rc a =>
   have hin:=Dl a ea ids he
   simp only[Ty.av]at hin
   rcases CC hc with⟨x,rfl,hx⟩|⟨x,y,rfl,hx,hy⟩
   ·simp only[Vl.nodes]at hm
    simp only[Cj,Ty.av,↓zq,zs,ae,Vl.cA,aM]
    refine⟨by omega,fun h=>by omega,fun _=>⟨fun h=>by omega,fun _=>⟨fun _=>?_,fun h=>absurd rfl h⟩⟩⟩
    refine aP hin (by have:=Bd.ne a ea ids;simpa only[Bd,Ty.av]using this) ?_
    intro r o hr
    obtain⟨⟨q,hq,rfl⟩,rfl⟩:=hr
    have he2:kI (.ptr [.pid q [(Ty.rc a).av,ea],ea]) (q::ids):=.cons hq he
    have hfr:LK.ptr.has (.pid q [(Ty.rc a).av,ea]):=.inr (.inr ⟨_,_,rfl⟩)
    simp only[Ty.av]at he2 hfr
    simp only[↓zq,zs,ae,bF,aE,he2.has,hfr,Vl.cA,aM,Ty.av]
    repeat refine⟨by omega,?_⟩
    refine⟨fun _=>?_,fun h=>absurd rfl h⟩
    repeat refine⟨by omega,?_⟩
    refine ai (EH m x (by omega) a v hx _ _ he2 s fr hf) ?_
    simp only[↓zq,zs,ae,aM]
    refine ai (zV 102 _ ((aM _).mpr trivial)) ?_
    simp[↓zq,zs,ae,bJ,cX,Vl.cA,cd]
   ·simp only[Vl.nodes]at hm
    simp only[Cj,Ty.av,↓zq,zs,ae,Vl.cA,aM]
    refine⟨by omega,fun h=>by omega,fun _=>⟨fun h=>by omega,fun _=>⟨fun _=>?_,fun h=>absurd rfl h⟩⟩⟩
    refine aP hin (by have:=Bd.ne a ea ids;simpa only[Bd,Ty.av]using this) ?_
    intro r o hr
    obtain⟨⟨q,hq,rfl⟩,rfl⟩:=hr
    have he2:kI (.ptr [.pid q [(Ty.rc a).av,ea],ea]) (q::ids):=.cons hq he
    have hfr:LK.ptr.has (.pid q [(Ty.rc a).av,ea]):=.inr (.inr ⟨_,_,rfl⟩)
    simp only[Ty.av]at he2 hfr
    simp only[↓zq,zs,ae,bF,aE,he2.has,hfr,Vl.cA,aM,Ty.av]
    repeat refine⟨by omega,?_⟩
    refine fun _=>?_
    repeat refine⟨by omega,?_⟩
    have i1:=EH m y (by omega) (.rc a) v hy ea ids he s fr hf
    simp only[Ty.av]at i1
    refine ai i1 ?_
    simp only[↓zq,zs,ae,aM]
    repeat refine⟨by omega,?_⟩
    refine ai (EH m x (by omega) a (cX (.rc a) y v) hx _ _ he2 [] _ hfr) ?_
    simp only[↓zq,zs,ae,aM]
    refine ai (zV 102 _ ((aM _).mpr trivial)) ?_
    simp[↓zq,zs,ae,bJ,cX,Vl.cA,cd]
theorem PJ(a:Ty)(c v:Vl)(hc:dL a c=true):an Tryz.prog 55 [(Ty.rc a).av,c.cA,v.cA] [] (bJ (Vl.f (cX a c v)).cA):=by
 refine QS _ _ _ ((aE _).mpr trivial) ((aM _).mpr trivial) ((aM _).mpr trivial) ?_
 unfold OD
 refine aP (Dl a gp [] .nil) (Bd.ne a gp []) ?_
 rintro r o ⟨⟨m,hm,rfl⟩,rfl⟩
 have he2:kI (.ptr [.pid m [(Ty.rc a).av,gp],gp]) [m]:=.cons hm .nil
 have hfr:LK.ptr.has (.pid m [(Ty.rc a).av,gp]):=.inr (.inr ⟨_,_,rfl⟩)
 simp only[Ty.av]at he2 hfr
 simp only[↓zq,zs,ae,bF,aE,he2.has,hfr,Ty.av]
 repeat refine⟨by omega,?_⟩
 refine ai (EH c.nodes c (au _) a v hc _ _ he2 [] _ hfr) ?_
 simp only[↓zq,zs,ae,aM]
 refine ai (zV 102 _ ((aM _).mpr trivial)) ?_
 simp[↓zq,zs,ae,bJ,Vl.cA,cd]
end Go.Proofs.Trees
namespace Go.Proofs.Trees
open Go Go.VL Go.RowKit
def vc(l:List Vl):List (List AV):=l.map fun c=>[c.cA]
theorem kf(l:List Vl):(vc l).length=l.length:=by simp[vc]
theorem uk{l:List Vl}{i:Nat}(h:i<l.length):(vc l).getD i []=[(l[i]).cA]:=by simp[vc,aa,h]
theorem xP(l:List Vl)(c:Vl):vc l++[[c.cA]]=vc (l++[c]):=by simp[vc]
def u6(s:Nm)(a:Ty)(l:List Vl)(v:Vl):AV:=.ptr [.v (.string (mk s)),(Ty.rc a).av,.sl (vc l),v.cA]
def oZ(s:Nm)(a:Ty):Option (List Vl×Vl)->AV
 |some r=>u6 s a r.1 r.2
 |none=>gp
theorem mI(s:Nm)(a:Ty)(o:Option (List Vl×Vl)):LK.has .ptr (oZ s a o)=True:=by cases o<;>simp[oZ,u6,iC,cd]
theorem I6:an Tryz.prog 34 [gp] [] (bJ gp):=by
 refine NH _ ((iC).mpr trivial) ?_
 simp only[Gx,↓zq,zs,ae]
 exact⟨fun _=>⟨rfl,rfl⟩,fun h=>(by cases h)⟩
theorem DG(v:Vl):(Vl.f v).nodes=v.nodes+1:=by simp only[Vl.nodes];omega
theorem F9(s:Nm)(a:Ty)(l:List Vl)(v:Vl)(h:ZI a l v)(hl:l.length<=50):an Tryz.prog 34 [u6 s a l v] [] (bJ (oZ s a (pB a l v))):=by
 refine NH _ ((cd _).mpr trivial) ?_
 simp only[Gx,u6,↓zq,zs,ae,kf]
 refine⟨fun h=>(by cases h),fun _=>?_⟩
 repeat refine⟨by omega,?_⟩
 unfold pB
 refine⟨fun h0=>?_,fun h0=>?_⟩
 ·have:l=[]:=ca (by omega)
  subst this
  exact⟨rfl,rfl⟩
 ·have hpos:0<l.length:=by omega
  have hne:l≠[]:=by rintro rfl;simp at hpos
  rw[wrap64 ((l.length:Int)-1) (by omega) (by omega)]
  have e1:((l.length:Int)-1).toNat=l.length-1:=by omega
  have hlt:l.length-1<l.length:=by omega
  have hlast:l.getLast?=some (l[l.length-1]):=by rw[List.getLast?_eq_some_getLast hne,List.getLast_eq_getElem]
  rw[hlast]
  have hC:=h.ctx _ (bD hlt)
  generalize hc:l[l.length-1]=c at *
  simp only[e1,uk hlt,hc,↓zq,zs,ae,aM,aE]
  repeat refine⟨by omega,?_⟩
  refine ai (PJ a c v hC.ok) ?_
  simp only[↓zq,zs,ae,aM]
  have hn:=rr a c v
  have h1:=hC.nd
  have h2:=h.mj.nd
  refine ai (E2 (.f (cX a c v)) (by rw[DG];omega)) ?_
  simp only[↓zq,zs,ae,aM,aE]
  refine⟨fun hb=>?_,fun hb=>?_⟩
  ·rw[if_neg (by omega)];exact⟨rfl,rfl⟩
  ·rw[if_pos (by omega)]
   repeat refine⟨by omega,?_⟩
   refine⟨?_,rfl⟩
   have:(vc l).take (l.length-1)=vc l.dropLast:=by rw[List.dropLast_eq_take];simp[vc]
   simp only[oZ,u6,Int.toNat_zero,bb,this]
theorem MG{s d:Nm}{a:Ty}{x A B:E}{D:Ty}(z:ZT s d a x A B D)(pa:AV)(p:List Nm)(hp:cm pa p)(hl:p.length<=50)(v:Vl):∀(k i:Nat) (l0:List Vl),i+k=p.length->l0.length<=i ->
 Fh [.v (.string (mk d)),pa,.v (.int .i64 (p.length:Int)),.v (.int .i64 (i:Int))] [.cells [.v (.string (mk s)),(Ty.rc a).av,.any,v.cA],.vec 1 (vc l0)]
  (nU (match eG d (p.drop i)with|some l=>(1,[],[.cells [.v (.string (mk s)),(Ty.rc a).av,.any,v.cA],.vec 1 (vc (l0++l))])|none=>(2,[gp],[])))
 |
  0,i,l0,hi,Ho=>by
  refine NU _ _ _ _ _ _ _ _ ?_
  have:i=p.length:=by omega
  subst this
  simp only[HN,↓zq,zs,ae,ae,aE,aM,List.drop_length]
  exact⟨hp.1,fun h=>by omega,fun _=>by simp[nU,eG]⟩
 |
  k+1,i,l0,hi,Ho=>by
  have hlt:i<p.length:=by omega
  have hd:p.drop i=p.getD i []::p.drop (i+1):=by rw[aR hlt];simp[aa,hlt]
  refine NU _ _ _ _ _ _ _ _ ?_
  simp only[HN,↓zq,zs,ae,zt,ae,aE,aM,hp.len,hp.idx hlt,bM]
  refine⟨hp.1,fun _=>⟨⟨hp.1,by omega,by omega⟩,by omega,?_⟩,fun h=>by omega⟩
  refine ai (Lw d (p.getD i []) 100) ?_
  rw[hd,eG]
  simp only[↓zq,zs,ae,zt,iv,gn]
  cases q:ng d (p.getD i []) 100 with
  |
   none =>
   simp only[jo,↓zq,zs,ae]
   exact⟨fun _=>by first|trivial|rfl,fun h=>(by cases h)⟩
  |
   some w =>
   simp only[jo,↓zq,zs,ae,fw,xP]
   refine⟨fun h=>(by cases h),fun _=>?_⟩
   rw[bA i (by omega)]
   have ih:=MG z pa p hp hl v k (i+1) (l0++[w]) (by omega) (by simp;omega)
   refine⟨⟨fun c hc=>by simp at hc;rw[hc];rfl,by rw[kf];omega⟩,?_⟩
   cases q2:eG d (p.drop (i+1))with
   |none=>rw[q2]at ih;exact ih
   |some l=>rw[q2]at ih;simp only[bf,bc,aT]at ih;exact ih
theorem mJ{s:Nm}{p:List Nm}{f:Nm}{l:List Vl}{v:Vl}(h:vF s p f=some (l,v)):∃d a x A B D,ZT s d a x A B D/\ZI a l v/\p=l.map (·.cw)/\f=v.cw/\p.length<=50/\zA s=a/\qG s f=some v/\eG d p=some l:=by
 unfold vF at h
 split at h
 ·rename_i v' d h1 h2
  split at h
  ·rename_i hl
   obtain⟨l',h3,h4⟩:=Option.map_eq_some_iff.1 h
   cases h4
   obtain⟨a,_,_,_,L⟩:=pU h1
   obtain⟨x,A,B,D,z⟩:=ZT.of L.l h2
   obtain⟨q1,q2⟩:=sk z p l h3
   obtain⟨q3,q4⟩:=z.mj h1
   exact⟨d,a,x,A,B,D,z,⟨q2,q3⟩,q1,q4,hl,by unfold zA;rw[L.l];rfl,h1,h3⟩
  ·cases h
 ·cases h
theorem Sm(s:Nm)(pa:AV)(p:List Nm)(hp:cm pa p)(f:Nm):an Tryz.prog 49 [.agg [.v (.string (mk s)),pa,.v (.string (mk f))]] [] (bJ (oZ s (zA s) (vF s p f))):=by
 refine RD _ _ _ hp.1 ?_
 unfold Lv
 refine ai (RU s f) ?_
 have hlt:LK.has .ptr (GC s)=True:=by unfold GC;split<;>simp[aE,iC]
 simp only[↓zq,zs,ae,zt,hlt,gn]
 refine ai (PU s) ?_
 have ho:∀o:Option Nm,uO o=.cD [.v (.string (mk (o.getD []))),.v (.bool o.isSome)]:=fun o=>by cases o<;>rfl
 rw[ho]
 simp only[↓zq,zs,ae,zt]
 unfold vF
 cases h1:qG s f with
 |
  none =>
  simp only[jo,↓zq,zs,ae]
  exact⟨fun _=>⟨rfl,rfl⟩,fun h=>(by cases h)⟩
 |
  some v =>
  simp only[jo,↓zq,zs,ae,fw]
  refine⟨fun h=>(by cases h),fun _=>?_⟩
  cases h2:cF s with
  |
   none =>
   simp only[bu]
   exact⟨fun _=>⟨rfl,rfl⟩,fun h=>(by cases h)⟩
  |
   some d =>
   simp only[aZ,cI,hp.len]
   refine⟨fun h=>(by cases h),fun _=>⟨hp.1,fun h=>?_,fun h=>?_⟩⟩
   ·rw[if_neg (by omega)];exact⟨rfl,rfl⟩
   ·have hl:p.length<=50:=by omega
    rw[if_pos hl]
    obtain⟨a,_,_,_,L⟩:=pU h1
    obtain⟨x,A,B,D,z⟩:=ZT.of L.l h2
    have ht:GC s=(Ty.rc a).av:=by unfold GC;rw[L.l]
    have hza:zA s=a:=by unfold zA;rw[L.l];rfl
    rw[ht,hza]
    refine⟨hp.1,?_⟩
    have hloop:=MG z pa p hp hl v p.length 0 [] (by omega) (by simp)
    rw[bb]at hloop
    refine fm hloop (fun ys o e=>?_) (fun ys o e=>?_)
    ·cases q:eG d p with
     |none=>rw[q]at e;cases e
     |
      some l =>
      rw[q]at e
      cases e
      simp only[↓zq,zs,ae,zt,ae,aI,aE,aM,cB]
      exact⟨rfl,rfl⟩
    ·cases q:eG d p with
     |
      none =>
      rw[q]at e
      cases e
      simp only[↓zq,zs,ae,zt,ae,aI,Option.map_none]
      exact⟨rfl,rfl⟩
     |some l=>rw[q]at e;cases e
theorem M7(s:Nm)(a:Ty)(x3:AV)(h3:LK.ptr.has x3):∀(n:Nat) (l:List Vl) (v:Vl),l.length=n->ZI a l v->n<=50 ->
 ID [x3,u6 s a l v] [] (nU (if(jY n a l v).isSome=true then(1,[x3],[])else(2,[gp],[])))
 |
  0,l,v,hl,h,hn=>by
  refine Lx _ _ ?_
  simp only[IJ,u6,↓zq,zs,ae,h3,kf,hl,jY]
  repeat refine⟨by omega,?_⟩
  exact fun _=>by simp[nU]
 |
  n+1,l,v,hl,h,hn=>by
  refine Lx _ _ ?_
  have hup:=F9 s a l v h (by omega)
  simp only[IJ,↓zq,zs,ae,h3]
  simp only[u6,↓zq,zs,ae,kf,hl]at hup |-
  repeat refine⟨by omega,?_⟩
  refine⟨fun _=>?_,fun h=>by omega⟩
  refine ai hup ?_
  simp only[↓zq,zs,ae,mI]
  rw[jY]
  cases q:pB a l v with
  |
   none =>
   simp only[oZ,↓zq,zs,ae,bI]
   exact⟨fun _=>by simp[nU],fun h=>(by cases h)⟩
  |
   some r =>
   obtain⟨hz,hlen,_⟩:=mQ h q
   have ih:=M7 s a x3 h3 n r.1 r.2 (by omega) hz (by omega)
   simp only[oZ,u6,↓zq,zs,ae,aW]at ih |-
   exact⟨fun h=>(by cases h),fun _=>ih⟩
theorem SG(s:Nm)(pa:AV)(p:List Nm)(hp:cm pa p)(f:Nm):an Tryz.prog 33 [.agg [.v (.string (mk s)),pa,.v (.string (mk f))]] [] (bJ (oZ s (zA s) (fT s p f))):=by
 refine PA _ _ _ hp.1 ?_
 unfold K2
 refine ai (Sm s pa p hp f) ?_
 simp only[↓zq,zs,ae,zt,mI]
 unfold fT
 cases q:vF s p f with
 |
  none =>
  simp only[oZ,↓zq,zs,ae,bI]
  exact⟨fun _=>⟨rfl,rfl⟩,fun h=>(by cases h)⟩
 |
  some r =>
  obtain⟨l,v⟩:=r
  obtain⟨d,a,x,A,B,D,z,hz,hpt,hft,hl,hza,_,_⟩:=mJ q
  rw[hza]
  have hll:l.length<=50:=by rw[hpt]at hl;simpa using hl
  have hloop:=M7 s a (u6 s a l v) ((cd _).mpr trivial) l.length l v rfl hz hll
  simp only[oZ,aW]
  refine⟨fun h=>(by cases h),fun _=>?_⟩
  unfold s8
  refine fm hloop (fun ys o e=>?_) (fun ys o e=>?_)
  ·split at e
   ·rename_i hc
    cases e
    rw[if_pos hc]
    simp only[↓zq,zs,ae,u6,cd]
    exact⟨rfl,rfl⟩
   ·cases e
  ·split at e
   ·cases e
   ·rename_i hc
    cases e
    rw[if_neg hc]
    simp only[↓zq,zs,ae]
    exact⟨rfl,rfl⟩
end Go.Proofs.Trees
namespace Go.Proofs.Trees
open Go Go.VL Go.RowKit
abbrev tZ(s:Nm):Option (List Vl×Vl)->Nm×List Nm×Nm
 |some r=>(s,r.1.map (·.cw),r.2.cw)
 |none=>([],[],[])
def GZ(o:Option (List Vl×Vl)):Prop:=∀r,o=some r->(∀c,c∈r.1->c.cw.length<=900000)/\r.2.cw.length<=900000/\r.1.length<=51
theorem Cx.cw{a:Ty}{c:Vl}(h:Cx a c):c.cw.length<=900000:=by have:=jf c h.gZ;have:=h.nd;omega
theorem Fo.cw{a:Ty}{c:Vl}(h:Fo a c):c.cw.length<=900000:=by have:=jf c h.gZ;have:=h.nd;omega
theorem ZI.gz{a:Ty}{l:List Vl}{v:Vl}(h:ZI a l v)(hl:l.length<=51):GZ (some (l,v)):=fun r hr=>by
 cases hr;exact⟨fun c hc=>(h.ctx c hc).cw,h.mj.cw,hl⟩
theorem GZ.none:GZ none:=fun r hr=>by cases hr
theorem JG(l:List Vl)(hl:l.length<=51)(ht:∀c,c∈l->c.cw.length<=900000)(s f:Nm):∀(k i:Nat) (out:List Nm),i+k=l.length->out.length<=i ->
 Hh [.sl (vc l),.v (.int .i64 (l.length:Int)),.v (.int .i64 (i:Int))] [.cells [.v (.string (mk [])),zi,.v (.string (mk []))],.cells [.v (.string (mk s)),.any,.v (.string (mk f))],.vec 1 (bH out)]
  (iG 1 [] [.cells [.v (.string (mk [])),zi,.v (.string (mk []))],.cells [.v (.string (mk s)),.any,.v (.string (mk f))],.vec 1 (bH (out++(l.drop i).map (·.cw)))])
 |
  0,i,out,hi,ho=>by
  refine Kc _ _ _ _ _ _ _ _ _ ?_
  have:i=l.length:=by omega
  subst this
  simp only[Hi,↓zq,zs,ae,zt,ae,bh,List.drop_length]
  exact⟨fun h=>by omega,fun _=>by simp[iG]⟩
 |
  k+1,i,out,hi,ho=>by
  have hlt:i<l.length:=by omega
  refine Kc _ _ _ _ _ _ _ _ _ ?_
  simp only[Hi,↓zq,zs,ae,zt,ae,bh,kf,uk hlt,aM,bM]
  refine⟨fun _=>?_,fun h=>by omega⟩
  repeat refine⟨by omega,?_⟩
  refine ai (En (l[i]) (ht _ (bD hlt))) ?_
  simp only[↓zq,zs,ae,zt,E3,kl]
  refine⟨⟨fun c hc=>by simp at hc;rw[hc];rfl,by omega⟩,?_⟩
  rw[bA i (by omega),aR hlt,bE]
  have:=JG l hl ht s f k (i+1) (out++[(l[i]).cw]) (by omega) (by simp;omega)
  rw[bf]at this
  exact this
theorem JJ(s:Nm)(a:Ty)(o:Option (List Vl×Vl))(h:GZ o):an Tryz.prog 40 [oZ s a o] [] (dq (.cD [.agg [.v (.string (mk (tZ s o).1)),.vec 0,.v (.string (mk (tZ s o).2.2))],.v (.bool o.isSome)]) [.vec 1 (bH (tZ s o).2.1)]):=by
 refine Pr _ (by rw[mI];trivial) ?_
 unfold Nf
 cases o with
 |
  none =>
  simp only[oZ,↓zq,zs,ae]
  exact⟨fun _=>⟨rfl,rfl⟩,fun h=>(by cases h)⟩
 |
  some r =>
  obtain⟨h1,h2,h3⟩:=h r rfl
  simp only[oZ,u6,↓zq,zs,ae,zt,aE,aM]
  refine⟨fun h=>(by cases h),fun _=>?_⟩
  repeat refine⟨by omega,?_⟩
  refine ai (En r.2 h2) ?_
  simp only[↓zq,zs,ae,zt,aE,aM,kf]
  repeat refine⟨by omega,?_⟩
  have hlp:=JG r.1 h3 h1 s r.2.cw r.1.length 0 [] (by omega) (by simp)
  rw[bb,aT]at hlp
  refine cJ hlp ?_
  simp only[↓zq,zs,ae,zt,ae,aI,bh]
  exact⟨rfl,rfl⟩
theorem fH{s:Nm}{p:List Nm}{f:Nm}{l:List Vl}{v:Vl}(h:fT s p f=some (l,v)):vF s p f=some (l,v)/\(s8 (zA s) l v).isSome=true:=by
 unfold fT at h
 obtain⟨r,h1,h2⟩:=aX.1 h
 split at h2
 ·rename_i hc
  cases h2
  exact⟨h1,hc⟩
 ·cases h2
theorem yi{s:Nm}{p:List Nm}{f:Nm}{l:List Vl}{v:Vl}(h:fT s p f=some (l,v)):ZI (zA s) l v/\l.length<=50/\p=l.map (·.cw)/\f=v.cw:=by
 obtain⟨h1,_⟩:=fH h
 obtain⟨d,a,x,A,B,D,z,hz,hp,hf,hl,hza,_,_⟩:=mJ h1
 rw[hza]
 exact⟨hz,by rw[hp]at hl;simpa using hl,hp,hf⟩
theorem FD(s:Nm)(p:List Nm)(f:Nm):GZ (vF s p f):=fun r hr=>by
 obtain⟨d,a,x,A,B,D,z,hz,hp,hf,hl,hza,_,_⟩:=mJ (l:=r.1) (v:=r.2) hr
 exact hz.gz (by
  rw[hp]at hl;have:r.1.length<=50:=by simpa using hl
  omega) r rfl
noncomputable def Dd (s:Nm) (p:List Nm) (f:Nm):Option (List Vl×Vl):=(fT s p f).bind fun r=>pB (zA s) r.1 r.2
noncomputable def qu (s:Nm) (p:List Nm) (f:Nm):Int:=match fT s p f with
 |some r=>((kids (zA s) r.2).length:Int)
 |none=>-1
theorem Bq(s:Nm)(p:List Nm)(f:Nm):GZ (Dd s p f):=fun r hr=>by
 obtain⟨q,h1,h2⟩:=aX.1 hr
 obtain⟨hz,hl,_⟩:=yi (l:=q.1) (v:=q.2) h1
 obtain⟨hz2,hl2,_⟩:=mQ (l':=r.1) (w:=r.2) hz h2
 exact hz2.gz (by omega) r rfl
abbrev CZ(s:Nm)(o:Option (List Vl×Vl)):AV->List Ob->Prop:=dq (.cD [.agg [.v (.string (mk (tZ s o).1)),.vec 0,.v (.string (mk (tZ s o).2.2))],.v (.bool o.isSome)]) [.vec 1 (bH (tZ s o).2.1)]
theorem JB(s:Nm)(pa:AV)(p:List Nm)(hp:cm pa p)(f:Nm):an Tryz.prog 20 [.agg [.v (.string (mk s)),pa,.v (.string (mk f))]] [] (CZ s (Dd s p f)):=by
 refine Qc _ _ _ hp.1 ?_
 unfold Md
 refine ai (SG s pa p hp f) ?_
 simp only[↓zq,zs,ae,zt,mI]
 have key:an Tryz.prog 34 [oZ s (zA s) (fT s p f)] [] (bJ (oZ s (zA s) (Dd s p f))):=by
  unfold Dd
  cases q:fT s p f with
  |none=>exact I6
  |
   some r =>
   obtain⟨hz,hl,_⟩:=yi (l:=r.1) (v:=r.2) q
   exact F9 s (zA s) r.1 r.2 hz hl
 refine ai key ?_
 simp only[↓zq,zs,ae,zt,mI]
 refine aV (JJ s (zA s) (Dd s p f) (Bq s p f)) ?_
 simp only[↓zq,zs,ae,zt,aI]
 exact⟨dx _,rfl,rfl⟩
end Go.Proofs.Trees
namespace Go.Proofs.Trees
open Go Go.VL Go.RowKit
def lY:E->Option E
 | .list [x,a,b]=>if x.at=[114,101,99]then some (.list [x,a,b])else none
 |_=>none
def oh(s:List UInt8):Option E:=match jH s with
 |some e=>lY e
 |none=>none
theorem HK(s:List UInt8):an Tryz.prog 67 [.v (.string (mk s))] [] (jI (oh s) (oh s).isSome):=by
 refine Qj _ ?_
 unfold MQ
 refine aP (Hu s) (jI.ne _ _ (fun h=>h)) ?_
 rintro r o ⟨c,d,hd,rfl,hh⟩
 have hhas:bF [.str,.sl] [.v (.string (mk c)),d] 0:=by simp[bF,dY,hd]
 simp only[↓zq,zs,ae,zt]
 refine⟨hhas,fun h=>?_,fun h=>?_⟩
 ·obtain⟨e,he,hce⟩:=hh h
  obtain⟨t,h1,hA,h3,h4,h5,_⟩:=gX he
  have hce':=hce
  rw[dj]at hce'
  simp only[AV.agg.injEq,List.cons.injEq,AV.v.injEq,Value.string.injEq,and_true]at hce'
  obtain⟨hc1,rfl⟩:=hce'
  have hc2:=mk_inj hc1
  subst hc2
  have head:∀w:List UInt8,an Tryz.prog 86 [.agg [.v (.string (mk e.at)),e.sp]] [] (bJ (.v (.string (mk w))))->(w=[114,101,99]↔(lY e).isSome=true)->((lY e).isSome=true->lY e=some e) ->
   eZ Tryz.prog 18 (Tree.call 86 [.agg [.v (.string (mk e.at)),e.sp]] [] fun r2 o2=>Tree.aj (LK.str.has r2) (Tree.done 0 [.cD [.agg [.v (.string (mk e.at)),e.sp],.v (.bool (af r2.toStr==[114,101,99]))]] [])) fun _ xs obs=>jI (oh s) (oh s).isSome (xs.headD .any) obs:=by
   intro w hw h1 h2
   refine ai hw ?_
   simp only[↓zq,zs,ae,zt]
   refine⟨e.at,e.sp,hd,?_,fun hs=>⟨e,?_,(dj e).symm⟩⟩
   ·congr 3
    simp only[oh,he,AV.v.injEq,Value.bool.injEq,List.cons.injEq,and_true]
    rw[cy];simpa using h1
   ·simp only[oh,he]at hs |-;exact h2 hs
  have hl:∀x l,e=.list (x::l)->an Tryz.prog 86 [.agg [.v (.string (mk e.at)),e.sp]] [] (bJ (.v (.string (mk x.at)))):=by
   rintro x l rfl;exact u3 x l
  have ha:∀s0,e=.atom s0->an Tryz.prog 86 [.agg [.v (.string (mk e.at)),e.sp]] [] (bJ (.v (.string (mk [])))):=by
   rintro s0 rfl;exact zY s0 _ ((bh).mpr trivial) hA.ok
  rcases gv hA.wf hA.ty with⟨hb,_⟩|⟨u,g,rfl,_,hg⟩
  ·rcases fG hA.ty hb hA.cl with⟨rfl,rfl⟩|⟨rfl,rfl⟩|⟨s0,rfl,rfl,hp,h0,h1⟩|⟨x,a,b,t1,t2,rfl,hx,rfl,ha',hbb⟩|⟨x,a,b,t1,t2,rfl,hx,rfl,ha',hbb⟩|⟨x,a,b,t1,rfl,hx,rfl⟩
   ·exact head _ (ha _ rfl) (by simp[lY]) (by simp[lY])
   ·exact head _ (ha _ rfl) (by simp[lY]) (by simp[lY])
   ·exact head _ (ha _ rfl) (by simp[lY]) (by simp[lY])
   ·exact head _ (hl _ _ rfl) (by simp[lY,hx]) (by simp[lY,hx])
   ·exact head _ (hl _ _ rfl) (by simp[lY,hx]) (by simp[lY,hx])
   ·exact head _ (hl _ _ rfl) (by simp[lY,hx]) (by simp[lY,hx])
  ·simp at hg
 ·have hn:jH s=none:=by cases hq:jH s<;>simp[hq]at h |-
  refine⟨c,d,hd,?_,fun h=>?_⟩
  ·simp[oh,hn]
  ·simp[oh,hn]at h
theorem BS(s:List UInt8):(oh s).isSome=(kF s).isSome:=by
 unfold oh kF
 cases h:jH s with
 |none=>rw[na h];rfl
 |
  some e =>
  obtain⟨t,h1,hA,h3,h4,h5,_⟩:=gX h
  rw[h1]
  simp only
  rcases gv hA.wf hA.ty with⟨hb,_⟩|⟨u,g,rfl,_,hg⟩
  ·rcases fG hA.ty hb hA.cl with⟨rfl,rfl⟩|⟨rfl,rfl⟩|⟨s0,rfl,rfl,hp,h0,h1⟩|⟨x,a,b,t1,t2,rfl,hx,rfl,ha',hbb⟩|⟨x,a,b,t1,t2,rfl,hx,rfl,ha',hbb⟩|⟨x,a,b,t1,rfl,hx,rfl⟩<;>simp_all[lY]
  ·simp at hg
theorem LV.le{s v:List UInt8}{w:Vl}{a:Ty}{x A B:E}(h:LV s v w a x A B):oh s=some (.list [x,A,B]):=by
 unfold oh;rw[h.ce];simp[lY,h.hx]
theorem Pp(n:Nat)(v:Vl)(x A B:E)(a:Ty)(hA:Ask B [.mk A.at (.list [x,A,B]) []] a)(hx:x.at=[114,101,99])(w:Vl)(hw:v=.f w)(hv:eX n v (.list [x,A,B],[])=true)(hl:v.nodes<90000) :
 an Tryz.prog 74 [.agg [.v (.string (mk B.at)),B.sp],.v (.string (mk A.at)),.agg [.v (.string (mk w.cL.at)),w.cL.sp]] [] (bJ (.sl (mf (kids a v)))):=by
 subst hw
 obtain⟨w',e,hw'⟩:=uz .nil hx hv
 cases e
 simp only[Vl.nodes]at hl
 have hnm:names [Fr.mk A.at (.list [x,A,B]) []]=[]++[A.at]:=rfl
 have h:=E4 n w.nodes w (au _) B _ a hA hw' (by simp;omega) A.at (by rw[hnm];right;rw[fq];rfl)
 rw[hnm,v7]at h
 exact h
end Go.Proofs.Trees
namespace Go.Proofs.Trees
open Go Go.VL Go.RowKit
def QO(e:E)(s:List UInt8)(t:Ty)(c v:Vl):Prop:=an Tryz.prog 82 [.agg [.v (.string (mk e.at)),e.sp],.v (.string (mk s)),.agg [.v (.string (mk c.cL.at)),c.cL.sp],.agg [.v (.string (mk v.cL.at)),v.cL.sp]] [] (bJ (.agg [.v (.string (mk (cX t c v).cL.at)),(cX t c v).cL.sp]))
theorem EV:∀(m:Nat) (c:Vl),c.nodes<=m->∀(e:E) (env:List Fr) (t:Ty),Ask e env t->dL t c=true->∀(s:List UInt8) (v:Vl),QO e s t c v
 |0,c,hm=>by have:=dw c;omega
 |
  m+1,c,hm=>by
  intro e env t A hc s v
  unfold QO
  refine Pd _ _ _ _ _ _ _ ((a6 _).mpr trivial) ((a6 _).mpr trivial) ((a6 _).mpr trivial) ?_
  have atomCase:∀s0,e=.atom s0->cX t c v=v->eZ Tryz.prog 244 (C5 (mk e.at) e.sp (mk s) (mk c.cL.at) c.cL.sp (mk v.cL.at) v.cL.sp) fun _ xs obs=>bJ (.agg [.v (.string (mk (cX t c v).cL.at)),(cX t c v).cL.sp]) (xs.headD .any) obs:=by
   rintro s0 rfl hp
   have hne:s0≠[]:=A.ok
   rw[hp]
   simp only[C5,E.at,↓zq,zs,ae,zt,bJ]
   exact⟨fun _=>trivial,fun h=>absurd h hne⟩
  have hvh:=Ce c
  rw[dj]at hvh
  rcases gv A.wf A.ty with⟨hb,hq⟩|⟨u,g,rfl,hq,hu⟩
  ·rcases fG A.ty hb A.cl with⟨rfl,rfl⟩|⟨rfl,rfl⟩|⟨s0,rfl,rfl,hp,h0,h1⟩|⟨x,a,b,t1,t2,rfl,hx,rfl,ha,hbb⟩|⟨x,a,b,t1,t2,rfl,hx,rfl,ha,hbb⟩|⟨x,a,b,t1,rfl,hx,rfl⟩
   ·exact atomCase _ rfl (tn _ _)
   ·exact atomCase _ rfl (vQ _ _)
   ·exact atomCase _ rfl (lq _ _ _)
   ·obtain⟨ok1,ok2,ok3,_⟩:=A.ok
    obtain⟨f1,f2⟩:=fy A.cl
    have hP:=P3.of x a b
    have hH:an Tryz.prog 86 [.agg [.v (.string (mk [])),(E.list [x,a,b]).sp]] [] (bJ (.v (.string (mk [43])))):=by rw[<-hx];exact u3 x [a,b]
    rcases vN hc with⟨y,rfl,hy⟩|⟨y,rfl,hy⟩
    ·simp only[Vl.nodes]at hm
     have hW:=P2.of (.atom [108]) y.cL
     simp only[Vl.cL,bL]at hvh
     simp only[C5,bL,Vl.cL,toNat_one,bg,↓zq,zs,ae,zt,hP.1,hP.2.1,hP.2.2.1,hP.2.2.2,hW.1,hW.2.1,hW.2.2,aL]
     refine⟨fun h=>absurd rfl h,fun _=>?_⟩
     repeat refine⟨by omega,?_⟩
     refine ai hH ?_
     simp only[↓zq,zs,ae,zt]
     refine ai hvh ?_
     simp only[vh,↓zq,zs,ae,zt,bc,aT]
     refine⟨by simp[cN],fun _=>?_,fun h=>absurd rfl h⟩
     repeat refine⟨by omega,?_⟩
     refine ai (EV m y (by omega) a env t1 ⟨ok2,A.wf,ha,f1⟩ hy s v) ?_
     simp only[↓zq,zs,ae,zt,aL]
     repeat refine⟨by omega,?_⟩
     refine ai (xd _ _) ?_
     simp only[↓zq,zs,ae,zt,aL]
     repeat refine⟨by omega,?_⟩
     exact⟨rfl,rfl⟩
    ·simp only[Vl.nodes]at hm
     have hW:=P2.of (.atom [114]) y.cL
     simp only[Vl.cL,bL]at hvh
     simp only[C5,bL,Vl.cL,toNat_one,bg,↓zq,zs,ae,zt,hP.1,hP.2.1,hP.2.2.1,hP.2.2.2,hW.1,hW.2.1,hW.2.2,aL]
     refine⟨fun h=>absurd rfl h,fun _=>?_⟩
     repeat refine⟨by omega,?_⟩
     refine ai hH ?_
     simp only[↓zq,zs,ae,zt]
     refine ai hvh ?_
     simp only[vh,↓zq,zs,ae,zt,bc,aT]
     refine⟨by simp[cN],fun h=>by simp at h,fun _=>⟨fun _=>?_,fun h=>absurd rfl h⟩⟩
     repeat refine⟨by omega,?_⟩
     refine ai (EV m y (by omega) b env t2 ⟨ok3,A.wf,hbb,f2⟩ hy s v) ?_
     simp only[↓zq,zs,ae,zt,aL]
     repeat refine⟨by omega,?_⟩
     refine ai (xd _ _) ?_
     simp only[↓zq,zs,ae,zt,aL]
     repeat refine⟨by omega,?_⟩
     exact⟨rfl,rfl⟩
   ·obtain⟨ok1,ok2,ok3,_⟩:=A.ok
    obtain⟨f1,f2⟩:=eY A.cl
    have hP:=P3.of x a b
    have hH:an Tryz.prog 86 [.agg [.v (.string (mk [])),(E.list [x,a,b]).sp]] [] (bJ (.v (.string (mk [42])))):=by rw[<-hx];exact u3 x [a,b]
    rcases sT hc with⟨y,z,rfl,hy⟩|⟨y,z,rfl,hy⟩
    ·simp only[Vl.nodes]at hm
     have hW:=P2.of (.atom [108]) (E.list [.atom [112],y.cL,z.cL])
     have hQ:=P3.of (.atom [112]) y.cL z.cL
     simp only[Vl.cL,bL]at hvh
     simp only[C5,bL,Vl.cL,toNat_one,bg,↓zq,zs,ae,zt,hP.1,hP.2.1,hP.2.2.1,hP.2.2.2,hW.1,hW.2.1,hW.2.2,hQ.1,hQ.2.1,hQ.2.2.1,hQ.2.2.2,aL]
     refine⟨fun h=>absurd rfl h,fun _=>?_⟩
     repeat refine⟨by omega,?_⟩
     refine ai hH ?_
     simp only[↓zq,zs,ae,zt]
     refine ai hvh ?_
     simp only[vh,↓zq,zs,ae,zt,bc,aT]
     refine⟨by simp[cN],fun h=>by simp at h,fun _=>⟨fun h=>by simp at h,fun _=>⟨fun _=>?_,fun h=>absurd rfl h⟩⟩⟩
     repeat refine⟨by omega,?_⟩
     refine ai (EV m y (by omega) a env t1 ⟨ok2,A.wf,ha,f1⟩ hy s v) ?_
     simp only[↓zq,zs,ae,zt,aL]
     repeat refine⟨by omega,?_⟩
     refine ai (xz _ _ _) ?_
     simp only[↓zq,zs,ae,zt,aL]
     repeat refine⟨by omega,?_⟩
     exact⟨rfl,rfl⟩
    ·simp only[Vl.nodes]at hm
     have hW:=P2.of (.atom [114]) (E.list [.atom [112],y.cL,z.cL])
     have hQ:=P3.of (.atom [112]) y.cL z.cL
     simp only[Vl.cL,bL]at hvh
     simp only[C5,bL,Vl.cL,toNat_one,bg,↓zq,zs,ae,zt,hP.1,hP.2.1,hP.2.2.1,hP.2.2.2,hW.1,hW.2.1,hW.2.2,hQ.1,hQ.2.1,hQ.2.2.1,hQ.2.2.2,aL]
     refine⟨fun h=>absurd rfl h,fun _=>?_⟩
     repeat refine⟨by omega,?_⟩
     refine ai hH ?_
     simp only[↓zq,zs,ae,zt]
     refine ai hvh ?_
     simp only[vh,↓zq,zs,ae,zt,bc,aT]
     refine⟨by simp[cN],fun h=>by simp at h,fun _=>⟨fun h=>by simp at h,fun _=>⟨fun h=>by simp at h,fun _=>⟨fun _=>?_,fun h=>absurd rfl h⟩⟩⟩⟩
     repeat refine⟨by omega,?_⟩
     refine ai (EV m z (by omega) b env t2 ⟨ok3,A.wf,hbb,f2⟩ hy s v) ?_
     simp only[↓zq,zs,ae,zt,aL]
     repeat refine⟨by omega,?_⟩
     refine ai (xz _ _ _) ?_
     simp only[↓zq,zs,ae,zt,aL]
     repeat refine⟨by omega,?_⟩
     exact⟨rfl,rfl⟩
   ·obtain⟨t1',he1,h1,f1,hw1⟩:=jm A.wf A.ok hx A.ty A.cl
    cases he1
    obtain⟨ok1,ok2,ok3,_⟩:=A.ok
    have A':Ask b (.mk a.at (.list [x,a,b]) env::env) t1:=⟨ok3,hw1,h1,f1⟩
    have hP:=P3.of x a b
    have hH:an Tryz.prog 86 [.agg [.v (.string (mk [])),(E.list [x,a,b]).sp]] [] (bJ (.v (.string (mk [114,101,99])))):=by rw[<-hx];exact u3 x [a,b]
    rcases CC hc with⟨y,rfl,hy⟩|⟨y,z,rfl,hy,hz⟩
    ·simp only[Vl.nodes]at hm
     have hW:=P2.of (.atom [102]) (E.list [.atom [108],y.cL])
     have hQ:=P2.of (.atom [108]) y.cL
     have hvi:=Ce (.l y)
     rw[dj]at hvi
     simp only[Vl.cL,bL]at hvh hvi
     simp only[C5,bL,Vl.cL,toNat_one,bg,↓zq,zs,ae,zt,hP.1,hP.2.1,hP.2.2.1,hP.2.2.2,hW.1,hW.2.1,hW.2.2,hQ.1,hQ.2.1,hQ.2.2,aL]
     refine⟨fun h=>absurd rfl h,fun _=>?_⟩
     repeat refine⟨by omega,?_⟩
     refine ai hH ?_
     simp only[↓zq,zs,ae,zt]
     refine ai hvh ?_
     simp only[vh,↓zq,zs,ae,zt,bc,aT]
     refine⟨by simp[cN],fun h=>by simp at h,fun _=>⟨fun h=>by simp at h,fun _=>⟨fun h=>by simp at h,fun _=>⟨fun h=>by simp at h,fun _=>?_⟩⟩⟩⟩
     repeat refine⟨by omega,?_⟩
     refine ai hvi ?_
     simp only[vh,↓zq,zs,ae,zt]
     refine⟨fun _=>?_,fun h=>absurd rfl h⟩
     repeat refine⟨by omega,?_⟩
     refine ai (EV m y (by omega) b _ t1 A' hy s v) ?_
     simp only[↓zq,zs,ae,zt,aL]
     repeat refine⟨by omega,?_⟩
     refine ai (xd _ _) ?_
     simp only[↓zq,zs,ae,zt,aL]
     repeat refine⟨by omega,?_⟩
     exact⟨rfl,rfl⟩
    ·simp only[Vl.nodes]at hm
     have hW:=P2.of (.atom [102]) (E.list [.atom [114],E.list [.atom [112],y.cL,z.cL]])
     have hQ:=P2.of (.atom [114]) (E.list [.atom [112],y.cL,z.cL])
     have hR:=P3.of (.atom [112]) y.cL z.cL
     have hvi:=Ce (.r (.p y z))
     rw[dj]at hvi
     simp only[Vl.cL,bL]at hvh hvi
     simp only[C5,bL,Vl.cL,toNat_one,bg,↓zq,zs,ae,zt,hP.1,hP.2.1,hP.2.2.1,hP.2.2.2,hW.1,hW.2.1,hW.2.2,hQ.1,hQ.2.1,hQ.2.2,hR.1,hR.2.1,hR.2.2.1,hR.2.2.2,aL]
     refine⟨fun h=>absurd rfl h,fun _=>?_⟩
     repeat refine⟨by omega,?_⟩
     refine ai hH ?_
     simp only[↓zq,zs,ae,zt]
     refine ai hvh ?_
     simp only[vh,↓zq,zs,ae,zt,bc,aT]
     refine⟨by simp[cN],fun h=>by simp at h,fun _=>⟨fun h=>by simp at h,fun _=>⟨fun h=>by simp at h,fun _=>⟨fun h=>by simp at h,fun _=>?_⟩⟩⟩⟩
     repeat refine⟨by omega,?_⟩
     refine ai hvi ?_
     simp only[vh,↓zq,zs,ae,zt]
     refine⟨fun h=>by simp at h,fun _=>?_⟩
     repeat refine⟨by omega,?_⟩
     have i1:=EV m z (by omega) (.list [x,a,b]) env (.rc t1) A hz s v
     unfold QO at i1
     simp only[bL]at i1
     refine ai i1 ?_
     simp only[↓zq,zs,ae,zt,aL]
     repeat refine⟨by omega,?_⟩
     refine ai (EV m y (by omega) b _ t1 A' hy a.at (cX (.rc t1) z v)) ?_
     simp only[↓zq,zs,ae,zt,aL]
     repeat refine⟨by omega,?_⟩
     refine ai (xd _ _) ?_
     simp only[↓zq,zs,ae,zt,aL]
     repeat refine⟨by omega,?_⟩
     exact⟨rfl,rfl⟩
  ·cases e with
   |atom s0=>exact atomCase _ rfl (rC _ _ _)
   |list l=>exact absurd hq (by rw[show (E.list l).at=[] from rfl,kU A.wf];simp)
end Go.Proofs.Trees
namespace Go.Proofs.Trees
open Go Go.VL Go.RowKit
abbrev QG:Ob:=.cells [.v (.string (mk [])),.v (.slice none 0 0),.v (.string (mk []))]
theorem ZT.le{s d:Nm}{a:Ty}{x A B:E}{D:Ty}(z:ZT s d a x A B D):oh s=some (.list [x,A,B]):=by
 unfold oh;rw[z.ce];simp[lY,z.hx]
theorem uh(o:Option Nm):uO o=.cD [.v (.string (mk (o.getD []))),.v (.bool o.isSome)]:=by cases o<;>rfl
theorem Ax{a:Ty}{w v:Vl}(hw:Cx a w)(hv:Fo a v):(Vl.f (cX a w v)).cw.length<=900000:=by
 have h1:=jf (Vl.f (cX a w v)) (by exact rY 100 a w v hw.gZ hv.gZ)
 have h2:=rr a w v
 have:=hw.nd
 have:=hv.nd
 simp only[Vl.nodes]at h1
 omega
abbrev Ae(a:Ty)(w v:Vl):Option Nm:=if(Vl.f (cX a w v)).nodes<=200 then some (Vl.f (cX a w v)).cw else none
theorem QC{s d:Nm}{a:Ty}{x A B:E}{D:Ty}(z:ZT s d a x A B D)(w v:Vl)(hw:ng d w.cw 100=some w)(hv:Fo a v):an Tryz.prog 60 [.v (.string (mk s)),.v (.string (mk w.cw)),.v (.string (mk v.cw))] [] (bJ (uO (Ae a w v))):=by
 have hC:=z.ctx hw
 have hv2:ng s v.cw 100=some v:=by rw[z.cw hv.gZ hv.ty,if_pos hv.nd]
 refine Ql _ _ _ ?_
 unfold KA
 refine aP (HK s) (jI.ne _ _ (fun h=>h)) ?_
 rintro r o ⟨c,e,he,rfl,hh⟩
 rw[z.le]at hh
 obtain⟨e',he',hce⟩:=hh rfl
 cases he'
 rw[dj]at hce
 simp only[AV.agg.injEq,List.cons.injEq,AV.v.injEq,Value.string.injEq,and_true]at hce
 obtain⟨hc1,rfl⟩:=hce
 rw[z.le,hc1]
 simp only[↓zq,zs,ae,zt,aL,bL]
 repeat refine⟨by omega,?_⟩
 refine ai (MP s) ?_
 rw[uh,z.dl]
 simp only[↓zq,zs,ae,zt,aZ,cI]
 refine⟨fun h=>by simp at h,fun _=>⟨fun h=>by simp at h,fun _=>?_⟩⟩
 refine ai (zv d w.cw 100) ?_
 rw[hw]
 simp only[↓zq,zs,ae,aZ]
 refine⟨fun h=>by simp at h,fun _=>?_⟩
 refine ai (zv s v.cw 100) ?_
 rw[hv2]
 simp only[↓zq,zs,ae,aZ]
 refine⟨fun h=>by simp at h,fun _=>?_⟩
 have hP:=P3.of x A B
 have rd:∀q:Vl,q.gZ 100->q.nodes<=200->∀{Q:AV->List Ob->Prop},(∀o,Q (.cD [.agg [.v (.string (mk q.cL.at)),q.cL.sp],.v (.bool true)]) o)->∀r o,jI ((sA q.cw).map Vl.cL) (sA q.cw).isSome r o->Q r o:=by
  intro q hu hn Q hQ r o
  rw[qN hu hn]
  rintro⟨c,e,he,rfl,hh⟩
  obtain⟨e',he',hce⟩:=hh rfl
  cases he'
  rw[dj]at hce
  rw[hce]
  exact hQ o
 refine aP (Ez w.cw) (jI.ne _ _ (fun h=>by simpa using h)) (rd w hC.gZ hC.nd fun o=>?_)
 simp only[↓zq,zs,ae,zt,aL]
 repeat refine⟨by omega,?_⟩
 refine aP (Ez v.cw) (jI.ne _ _ (fun h=>by simpa using h)) (rd v hv.gZ hv.nd fun o=>?_)
 simp only[toNat_one,bg,↓zq,zs,ae,zt,hP.1,hP.2.1,hP.2.2.1,hP.2.2.2,aL,a6]
 repeat refine⟨by omega,?_⟩
 refine ai (EV w.nodes w (au _) B _ a z.body hC.ok A.at v) ?_
 simp only[↓zq,zs,ae,zt,aL]
 repeat refine⟨by omega,?_⟩
 refine ai (xd _ _) ?_
 simp only[↓zq,zs,ae,zt,aL]
 repeat refine⟨by omega,?_⟩
 have htx:=CX (Vl.f (cX a w v)).cL (mK _) (Ax hC hv)
 rw[dj]at htx
 simp only[Vl.cL,bL]at htx
 refine ai htx ?_
 simp only[↓zq,zs,ae,zt]
 refine ai (zv s (Vl.f (cX a w v)).cw 100) ?_
 rw[z.cw (w:=Vl.f (cX a w v)) (by exact rY 100 a w v hC.gZ hv.gZ) (hC.ty v hv.ty)]
 unfold Ae
 by_cases hn:(Vl.f (cX a w v)).nodes<=200
 ·rw[if_pos hn,if_pos hn]
  simp only[↓zq,zs,ae,aZ]
  exact⟨fun h=>by simp at h,fun _=>⟨rfl,rfl⟩⟩
 ·rw[if_neg hn,if_neg hn]
  simp only[↓zq,zs,ae,bu]
  exact⟨fun _=>⟨rfl,rfl⟩,fun h=>by simp at h⟩
theorem nR{d:Nm}:∀{p:List Nm} {l:List Vl},eG d p=some l->p=l.map (·.cw)->∀c,c∈l->ng d c.cw 100=some c
 |[],l,h,_,c,hc=>by cases h;cases hc
 |
  q::r,l,h,hp,c,hc=>by
  simp only[eG]at h
  split at h
  ·rename_i w l' h1 h2
   cases h
   simp only[bE,List.cons.injEq]at hp
   rcases aK.1 hc with rfl|hc
   ·rw[<-hp.1];exact h1
   ·exact nR h2 hp.2 c hc
  ·cases h
structure St(s d:Nm)(a:Ty)(l:List Vl)(v:Vl):Prop where
 z:∃x A B D,ZT s d a x A B D
 i:ZI a l v
 each:∀c,c∈l->ng d c.cw 100=some c
 len:l.length<=50
def Ag(s:Nm)(pa:AV)(a:Ty)(l:List Vl)(v:Vl):AV:=match l.getLast? with
 |none=>.cD [.agg [.v (.string (mk s)),pa,.v (.string (mk v.cw))],.v (.bool false)]
 |some c=>.cD [.agg [.v (.string (mk s)),.sl (bH (l.dropLast.map (·.cw))),.v (.string (mk ((Ae a c v).getD [])))],.v (.bool (Ae a c v).isSome)]
theorem Hm{s d:Nm}{a:Ty}{l:List Vl}{v:Vl}(h:St s d a l v)(pa:AV)(hp:cm pa (l.map (·.cw))):an Tryz.prog 38 [.agg [.v (.string (mk s)),pa,.v (.string (mk v.cw))]] [] (bJ (Ag s pa a l v)):=by
 refine SB _ _ _ hp.1 ?_
 unfold Of
 have hlen:=h.len
 simp only[↓zq,zs,ae,zt,hp.len,cj,kl]
 unfold Ag
 refine⟨hp.1,fun h0=>?_,fun h0=>?_⟩
 ·have:l=[]:=ca (by omega)
  subst this
  exact⟨rfl,rfl⟩
 ·have hpos:0<l.length:=by omega
  have hne:l≠[]:=by rintro rfl;simp at hpos
  rw[wrap64 ((l.length:Int)-1) (by omega) (by omega)]
  have e1:((l.length:Int)-1).toNat=l.length-1:=by omega
  have hlt:l.length-1<(l.map (·.cw)).length:=by rw[cj];omega
  have hlt':l.length-1<l.length:=by omega
  have hlast:l.getLast?=some (l[l.length-1]):=by rw[List.getLast?_eq_some_getLast hne,List.getLast_eq_getElem]
  rw[hlast]
  have hm:=bD hlt'
  have hg:(l.map (·.cw)).getD (l.length-1) []=(l[l.length-1]).cw:=by rw[aa,bp hlt,List.getElem_map];rfl
  obtain⟨x,A,B,D,z⟩:=h.z
  rw[e1,hp.idx hlt,hg]
  generalize l[l.length-1]=c at *
  simp only[↓zq,zs,ae,zt]
  refine⟨⟨hp.1,by omega⟩,by omega,?_⟩
  refine ai (QC z c v (h.each c hm) h.i.mj) ?_
  rw[uh]
  simp only[↓zq,zs,ae,zt]
  refine⟨⟨hp.1,by omega⟩,⟨fun y hy=>?_,?_⟩,?_,rfl⟩
  ·rw[hp.2]at hy
   have:=List.mem_of_mem_take hy
   obtain⟨t,_,rfl⟩:=bQ.1 this
   rfl
  ·rw[hp.2];simp[bH];omega
  ·have:pa.elems.take (l.length-1)=bH (l.dropLast.map (·.cw)):=by
    rw[hp.2,List.dropLast_eq_take,List.map_take];simp[bH,List.map_take]
   rw[this];rfl
theorem St.up{s d:Nm}{a:Ty}{l l':List Vl}{v w:Vl}(h:St s d a l v)(hu:pB a l v=some (l',w)):St s d a l' w:=by
 obtain⟨h1,h2,c,h3,_⟩:=mQ h.i hu
 have hl:=h.len
 exact⟨h.z,h1,fun c' hc'=>h.each c' (by rw[h3];exact aD _ hc'),by omega⟩
theorem p7{s:Nm}{pa:AV}{a:Ty}{l l':List Vl}{v w:Vl}(hu:pB a l v=some (l',w)):Ag s pa a l v=.cD [.agg [.v (.string (mk s)),.sl (bH (l'.map (·.cw))),.v (.string (mk w.cw))],.v (.bool true)]:=by
 unfold pB at hu
 unfold Ag
 cases q:l.getLast? with
 |none=>rw[q]at hu;cases hu
 |
  some c =>
  rw[q]at hu
  simp only at hu |-
  unfold Ae
  split at hu
  ·rename_i hn
   cases hu
   rw[if_pos hn];rfl
  ·cases hu
theorem z6{s:Nm}{pa:AV}{a:Ty}{l:List Vl}{v:Vl}(hpa:LK.sl.has pa)(hu:pB a l v=none):∃p f,LK.sl.has p/\Ag s pa a l v=.cD [.agg [.v (.string (mk s)),p,.v (.string (mk f))],.v (.bool false)]:=by
 unfold pB at hu
 unfold Ag
 cases q:l.getLast? with
 |none=>exact⟨_,_,hpa,rfl⟩
 |
  some c =>
  rw[q]at hu
  simp only at hu |-
  unfold Ae
  split at hu
  ·cases hu
  ·rename_i hn
   rw[if_neg hn];exact⟨_,_,(cc _).mpr trivial,rfl⟩
def Ge(s:Nm)(o:Option Vl):Nat->List AV->List Ob->Prop:=fun k ys ob=>match o with
 |some w=>k=1/\ys=[]/\∃pa,LK.sl.has pa/\ob=[.cells [.v (.string (mk s)),pa,.v (.string (mk w.cw))],QG]
 |none=>k=2/\ys=[.v (.bool false)]/\∃pa f,LK.sl.has pa/\ob=[.cells [.v (.string (mk s)),pa,.v (.string (mk f))]]
theorem Mv(s d:Nm)(a:Ty):∀(n:Nat) (l:List Vl) (v:Vl) (pa:AV),l.length=n->St s d a l v->cm pa (l.map (·.cw))->Gq [] [.cells [.v (.string (mk s)),pa,.v (.string (mk v.cw))],QG] (Ge s (jY n a l v))
 |
  0,l,v,pa,hl,h,hp=>by
  refine Ld _ _ _ _ _ _ ?_
  simp only[FO,↓zq,zs,ae,zt,ae,bh,hp.len,cj,hl,jY]
  refine⟨hp.1,hp.1,fun h=>by omega,fun _=>?_⟩
  exact⟨rfl,rfl,pa,hp.1,rfl⟩
 |
  n+1,l,v,pa,hl,h,hp=>by
  refine Ld _ _ _ _ _ _ ?_
  simp only[FO,↓zq,zs,ae,zt,ae,bh,hp.len,cj,hl]
  refine⟨hp.1,hp.1,fun _=>?_,fun h=>by omega⟩
  refine ai (Hm h pa hp) ?_
  rw[jY]
  cases q:pB a l v with
  |
   none =>
   obtain⟨p',f',h1,h2⟩:=z6 (s:=s) hp.1 q
   rw[h2]
   simp only[↓zq,zs,ae,zt,bF,bI]
   exact⟨h1,fun _=>⟨rfl,rfl,pa,v.cw,hp.1,rfl⟩,fun h=>by simp at h⟩
  |
   some r =>
   obtain⟨l',w⟩:=r
   obtain⟨_,hlen,_⟩:=mQ h.i q
   rw[p7 q]
   simp only[↓zq,zs,ae,zt,bF,aW,cc]
   refine⟨fun h=>by simp at h,fun _=>?_⟩
   exact Mv s d a n l' w _ (by omega) (h.up q) (cm.of _)
def DY(o:Option Vl):AV->List Ob->Prop:=fun r ob=>ob=[]/\∃c0 pa c2,LK.sl.has pa/\r=.cD [.agg [.v (.string c0),pa,.v (.string c2)],.v (.bool o.isSome)]/\∀w,o=some w->c2=mk w.cw
theorem DY.ne(o:Option Vl):∃r ob,DY o r ob:=⟨_,[],rfl,mk [],.sl [],mk ((o.map (·.cw)).getD []),(cc _).mpr trivial,rfl,fun w h=>by rw[h];rfl⟩
theorem PW{s d:Nm}{a:Ty}{l:List Vl}{v:Vl}(h:St s d a l v)(pa:AV)(hp:cm pa (l.map (·.cw))):an Tryz.prog 47 [.agg [.v (.string (mk s)),pa,.v (.string (mk v.cw))]] [] (DY (s8 a l v)):=by
 refine Sc _ _ _ hp.1 ?_
 unfold LQ
 have hloop:=Mv s d a l.length l v pa rfl h hp
 refine kW hloop (fun ys o e=>?_) (fun ys o e=>?_)
 ·unfold Ge at e
  unfold s8
  cases q:jY l.length a l v with
  |none=>rw[q]at e;exact absurd e.1 (by decide)
  |
   some w =>
   rw[q]at e
   obtain⟨_,rfl,p',h1,rfl⟩:=e
   simp only[↓zq,zs,ae,zt,ae,bh]
   exact⟨h1,rfl,_,_,_,h1,rfl,fun w' h=>by cases h;rfl⟩
 ·unfold Ge at e
  unfold s8
  cases q:jY l.length a l v with
  |some w=>rw[q]at e;exact absurd e.1 (by decide)
  |
   none =>
   rw[q]at e
   obtain⟨_,rfl,p',f',h1,rfl⟩:=e
   simp only[↓zq,zs,ae,zt,ae]
   exact⟨h1,rfl,_,_,_,h1,rfl,fun w' h=>by cases h⟩
theorem Ki(s d f:Nm)(pa:AV)(p:List Nm)(hp:cm pa p)(hl:p.length<=50):∀(k i:Nat),i+k=p.length->IB [.v (.string (mk d)),.v (.int .i64 (i:Int))] [.cells [.v (.string (mk s)),pa,.v (.string (mk f))]] (nU (if(eG d (p.drop i)).isSome=true then(1,[],[])else(2,[.v (.bool false)],[])))
 |
  0,i,hi=>by
  refine Ni _ _ _ _ _ ?_
  have:i=p.length:=by omega
  subst this
  simp only[Ik,↓zq,zs,ae,zt,ae,hp.len,List.drop_length]
  exact⟨hp.1,hp.1,fun h=>by omega,fun _=>rfl⟩
 |
  k+1,i,hi=>by
  have hlt:i<p.length:=by omega
  have hd:p.drop i=p.getD i []::p.drop (i+1):=by rw[aR hlt];simp[aa,hlt]
  refine Ni _ _ _ _ _ ?_
  simp only[Ik,↓zq,zs,ae,zt,ae,hp.len,hp.idx hlt,bM]
  refine⟨hp.1,hp.1,fun _=>⟨⟨hp.1,by omega,by omega⟩,by omega,?_⟩,fun h=>by omega⟩
  refine ai (zv d (p.getD i []) 100) ?_
  rw[hd,eG]
  simp only[↓zq,zs,ae]
  cases q:ng d (p.getD i []) 100 with
  |
   none =>
   simp only[bu]
   exact⟨fun _=>rfl,fun h=>by simp at h⟩
  |
   some w =>
   simp only[aZ]
   refine⟨fun h=>by simp at h,fun _=>?_⟩
   rw[bA i (by omega)]
   have ih:=Ki s d f pa p hp hl k (i+1) (by omega)
   cases q2:eG d (p.drop (i+1))with
   |none=>rw[q2]at ih;exact ih
   |some l=>rw[q2]at ih;exact ih
theorem uo(s:Nm)(p:List Nm)(f:Nm):vF s p f=(cF s).bind fun d=>(kF s).bind fun _=>(ng s f 100).bind fun v=>if p.length<=50 then(eG d p).map fun l=>(l,v)else none:=by
 unfold vF qG
 cases kF s with
 |none=>cases cF s<;>rfl
 |some a=>cases ng s f 100<;>cases cF s<;>rfl
theorem Sw(s:Nm)(pa:AV)(p:List Nm)(hp:cm pa p)(f:Nm):an Tryz.prog 46 [.agg [.v (.string (mk s)),pa,.v (.string (mk f))]] [] (bJ (.v (.bool (vF s p f).isSome))):=by
 refine P6 _ _ _ hp.1 ?_
 unfold Lr
 refine ai (MP s) ?_
 rw[uh]
 simp only[↓zq,zs,ae,zt]
 refine aP (HK s) (jI.ne _ _ (fun h=>h)) ?_
 rintro r o ⟨c,e,he,rfl,_⟩
 rw[BS]
 simp only[↓zq,zs,ae,zt,bF,hp.len]
 rw[uo]
 refine⟨he,fun h=>?_,fun h=>⟨fun h'=>?_,fun h'=>⟨hp.1,fun h''=>?_,fun h''=>?_⟩⟩⟩
 ·have:cF s=none:=by cases q:cF s with|none=>rfl|some d=>simp[q]at h
  rw[this]
  exact⟨rfl,rfl⟩
 ·have:kF s=none:=by cases q:kF s with|none=>rfl|some d=>simp[q]at h'
  rw[this]
  cases cF s<;>exact⟨rfl,rfl⟩
 ·simp only[if_neg (show ¬p.length<=50 by omega)]
  exact⟨by cases cF s<;>cases kF s<;>cases ng s f 100<;>rfl,rfl⟩
 ·obtain⟨d,hd⟩:∃d,cF s=some d:=by cases q:cF s with|none=>simp[q]at h|some d=>exact⟨d,rfl⟩
  obtain⟨a,ha⟩:∃a,kF s=some a:=by cases q:kF s with|none=>simp[q]at h'|some d=>exact⟨d,rfl⟩
  rw[hd,ha]
  refine ai (zv s f 100) ?_
  simp only[↓zq,zs,ae]
  cases q:ng s f 100 with
  |none=>simp only[bu];exact⟨fun _=>⟨rfl,rfl⟩,fun h=>by simp at h⟩
  |
   some v =>
   simp only[aZ,cI,aW]
   refine⟨fun h=>by simp at h,fun _=>?_⟩
   have hl:p.length<=50:=by omega
   have hloop:=Ki s d f pa p hp hl p.length 0 (by omega)
   rw[bb]at hloop
   rw[if_pos hl]
   refine fm hloop (fun ys o e=>?_) (fun ys o e=>?_)
   ·cases q2:eG d p with
    |none=>rw[q2]at e;cases e
    |some l=>exact⟨rfl,rfl⟩
   ·cases q2:eG d p with
    |none=>rw[q2]at e;cases e;simp only[↓zq,zs,ae];exact⟨rfl,rfl⟩
    |some l=>rw[q2]at e;cases e
theorem xn{s:Nm}{p:List Nm}{f:Nm}{l:List Vl}{v:Vl}(h:vF s p f=some (l,v)):∃d,St s d (zA s) l v/\p=l.map (·.cw)/\f=v.cw:=by
 obtain⟨d,a,x,A,B,D,z,hz,hp,hf,hl,hza,_,hr⟩:=mJ h
 rw[hza]
 exact⟨d,⟨⟨x,A,B,D,z⟩,hz,nR hr hp,by rw[hp]at hl;simpa using hl⟩,hp,hf⟩
theorem Ej(s:Nm)(pa:AV)(p:List Nm)(hp:cm pa p)(f:Nm):an Tryz.prog 23 [.agg [.v (.string (mk s)),pa,.v (.string (mk f))]] [] (bJ (.v (.bool (fT s p f).isSome))):=by
 refine PR _ _ _ hp.1 ?_
 unfold KB
 refine ai (Sw s pa p hp f) ?_
 simp only[↓zq,zs,ae]
 unfold fT
 cases q:vF s p f with
 |none=>simp only[bu];exact⟨fun _=>⟨rfl,rfl⟩,fun h=>by simp at h⟩
 |
  some r =>
  obtain⟨l,v⟩:=r
  obtain⟨d,hs,rfl,rfl⟩:=xn q
  simp only[aZ,aW]
  refine⟨fun h=>by simp at h,fun _=>?_⟩
  refine aP (PW hs pa hp) (DY.ne _) ?_
  rintro r o ⟨rfl,c0,p',c2,h1,rfl,_⟩
  simp only[↓zq,zs,ae,zt,bF]
  refine⟨h1,?_,rfl⟩
  congr 2
  cases s8 (zA s) l v<;>rfl
end Go.Proofs.Trees
namespace Go.Proofs.Trees
open Go Go.VL Go.RowKit
inductive Rl(x:Nm):Nat->Tg->Tg->Prop
 |nm (i):Rl x i (.nm x) (.bd i)
 |kE (i s) (h:s≠x):Rl x i (.nm s) (.nm s)
 |bd (i j) (h:j≠i):Rl x i (.bd j) (.bd j)
theorem Rl.up{x:Nm}{i:Nat}{a b:Tg}(h:Rl x i a b):Rl x (i+1) a.up b.up:=by
 cases h with
 |nm=>exact .nm _
 |kE s h=>exact .kE _ _ h
 |bd j h=>exact .bd _ _ (by omega)
theorem Rl.at{x:Nm}{i:Nat}{a b:Tg}(h:Rl x i a b):∀t:Ty,bn x t=false->eF (dC (.name x) t i) a=eF t b
 |
  .bound k,_=>by
  simp only[dC]
  cases h with
  |
   nm =>
   by_cases e:k=i
   ·simp[e,eF]
   ·simp[e,eF]
  |
   kE s h =>
   by_cases e:k=i
   ·simp[e,eF,Ne.symm h]
   ·simp[e,eF]
  |
   bd j h =>
   by_cases e:k=i
   ·simp[e,eF,Ne.symm h]
   ·simp[e,eF]
 |
  .name s,hn=>by
  have hs:s≠x:=by simpa[bn]using hn
  cases h with
  |nm=>simp[dC,eF,hs]
  |kE=>rfl
  |bd=>rfl
 | .plus _ _,_=>by cases h<;>rfl
 | .times _ _,_=>by cases h<;>rfl
 | .rc _,_=>by cases h<;>rfl
 | .zero,_=>by cases h<;>rfl
 | .one,_=>by cases h<;>rfl
theorem gN(x:Nm):∀(n:Nat) (t:Ty) (i:Nat) (a b:Tg) (v:Vl),bn x t=false->Rl x i a b->dE n (dC (.name x) t i) a v=dE n t b v
 |0,_,_,_,_,_,_,_=>rfl
 |
  n+1,t,i,a,b,v,hn,h=>by
  rw[dE,dE,h.at t hn]
  by_cases ht:eF t b=true
  ·rw[if_pos ht,if_pos ht]
  ·rw[if_neg ht,if_neg ht]
   cases t with
   |
    plus p q =>
    simp only[bn,ck]at hn
    cases v<;>simp only[dC,i7,gN x n p i a b _ hn.1 h,gN x n q i a b _ hn.2 h]
   |
    times p q =>
    simp only[bn,ck]at hn
    cases v<;>simp only[dC,i7,gN x n p i a b _ hn.1 h,gN x n q i a b _ hn.2 h]
   |
    rc p =>
    have h0:Rl x (i+1) (.bd 0) (.bd 0):=.bd _ _ (by omega)
    cases v<;>simp only[dC,i7]
    rename_i w
    rw[gN x n p (i+1) a.up b.up w hn h.up,gN x n p (i+1) (.bd 0) (.bd 0) w hn h0]
    congr 1
    apply iQ
    intro k _
    have:=gN x n (.rc p) i a b k.2 hn h
    simp only[dC]at this
    rw[this]
   |
    bound k =>
    simp only[dC]
    by_cases e:k=i
    ·rw[if_pos e];cases v<;>rfl
    ·rw[if_neg e];cases v<;>rfl
   |name s=>rfl
   |zero=>rfl
   |one=>rfl
theorem n6(x:Nm){t:Ty}{i:Nat}{a b:Tg}(v:Vl)(hn:bn x t=false)(h:Rl x i a b):cq (dC (.name x) t i) a v=cq t b v:=gN x _ t i a b v hn h
theorem mq(n:Nat):∀(m:Nat) (v:Vl),v.nodes<=m->∀(t:Ty) (s:Nm) (d:Ty) (σ:Nm->Option Ty),Dv t s d->CM σ->jx t 0->vT n v (eU σ t)=true->∀h,h∈cq t (.nm s) v ->
 vT n h.1 (eU σ d)=true/\vT n h.2 (eU σ (.name s))=true/\cX t h.1 h.2=v
 |0,v,hm=>by have:=dw v;omega
 |
  m+1,v,hm=>by
  intro t s d σ hd hσ hl hv h hh
  cases hd with
  |zero=>rw[dS rfl (by cases v<;>rfl)]at hh;cases hh
  |one=>rw[dS rfl (by cases v<;>rfl)]at hh;cases hh
  |bound=>rw[dS rfl (by cases v<;>rfl)]at hh;cases hh
  |qx hne=>rw[dS (by simp[eF,hne]) (by cases v<;>rfl)]at hh;cases hh
  |
   hit =>
   rw[mD v (by simp[eF])]at hh
   simp only[aU]at hh
   subst hh
   exact⟨rfl,hv,lq _ _ _⟩
  |
   @plus a b _ a' b' h1 h2 _ =>
   rcases ji hv with⟨w,rfl,hw⟩|⟨w,rfl,hw⟩
   ·simp only[Vl.nodes]at hm
    rw[nh]at hh
    obtain⟨k,hk,rfl⟩:=cZ hh
    obtain⟨q1,q2,q3⟩:=mq n m w (by omega) _ s _ σ h1 hσ hl.1 hw k hk
    exact⟨q1,q2,congrArg Vl.l q3⟩
   ·simp only[Vl.nodes]at hm
    rw[mW]at hh
    obtain⟨k,hk,rfl⟩:=cZ hh
    obtain⟨q1,q2,q3⟩:=mq n m w (by omega) _ s _ σ h2 hσ hl.2 hw k hk
    exact⟨q1,q2,congrArg Vl.r q3⟩
  |
   @times a b _ a' b' h1 h2 _ =>
   obtain⟨x,y,rfl,hx,hy⟩:=gr hv
   simp only[Vl.nodes]at hm
   rw[m9]at hh
   rcases aN.1 hh with hh|hh
   ·obtain⟨k,hk,rfl⟩:=cZ hh
    obtain⟨q1,q2,q3⟩:=mq n m x (by omega) _ s _ σ h1 hσ hl.1 hx k hk
    refine⟨?_,q2,congrArg (fun q=>Vl.p q y) q3⟩
    show (vT n k.1 (eU σ a')&&vT n y (eU σ b))=true
    rw[q1,hy];rfl
   ·obtain⟨k,hk,rfl⟩:=cZ hh
    obtain⟨q1,q2,q3⟩:=mq n m y (by omega) _ s _ σ h2 hσ hl.2 hy k hk
    refine⟨?_,q2,congrArg (Vl.p x) q3⟩
    show (vT n x (eU σ a)&&vT n k.1 (eU σ b'))=true
    rw[q1,hx];rfl
  |
   @rc a _ c0 d0 x hx hs h1 h2 hsz =>
   have lo:jx (dC (.name x) a 0) 0:=gF x a hl
   obtain⟨X,e1,e2⟩:=oH (x:=x) hσ hl (h1.lc lo) (h2.lc lo)
   obtain⟨w,rfl,hw⟩:=BV hv
   simp only[Vl.nodes]at hm
   have hcl:=lK hσ x (j2 hσ (.rc a) hl)
   have hop:eU (iW σ x (eU σ (.rc a))) (dC (.name x) a 0)=dC (eU σ (.rc a)) (eU σ a) 0:=jD hσ x _ a 0 hx
   have hns:eU (iW σ x (eU σ (.rc a))) (.name s)=eU σ (.name s):=by simp only[eU,iW,if_neg (Ne.symm hs)]
   have hnx:eU (iW σ x (eU σ (.rc a))) (.name x)=eU σ (.rc a):=by simp[eU,iW]
   have hw':vT n w (eU (iW σ x (eU σ (.rc a))) (dC (.name x) a 0))=true:=by rw[hop];exact hw
   have ty:∀y,vT n y (dC (.rc X) X 0)=true->vT n (.f y) (eU σ (pV a x c0 d0))=true:=fun y hy=>by rw[e1];exact hy
   rw[nn]at hh
   rcases aN.1 hh with hh|hh
   ·obtain⟨k,hk,rfl⟩:=cZ hh
    have hk':k∈cq (dC (.name x) a 0) (.nm s) w:=by rw[n6 x w hx (.kE 0 s (Ne.symm hs))];exact hk
    obtain⟨q1,q2,q3⟩:=mq n m w (by omega) _ s _ _ h1 hcl lo hw' k hk'
    rw[dM x k.1.nodes k.1 a 0 k.2 (au _)]at q3
    refine⟨ty _ ?_,by rw[<-hns];exact q2,congrArg Vl.f q3⟩
    rw[e2];exact q1
   ·obtain⟨k,hk,hh⟩:=List.mem_flatMap.1 hh
    obtain⟨k2,hk2,rfl⟩:=cZ hh
    have hk':k∈cq (dC (.name x) a 0) (.nm x) w:=by rw[n6 x w hx (.nm 0)];exact hk
    obtain⟨q1,q2,q3⟩:=mq n m w (by omega) _ x _ _ h2 hcl lo hw' k hk'
    rw[dM x k.1.nodes k.1 a 0 k.2 (au _)]at q3
    rw[hnx]at q2
    have hsz2:=(iB hk).1
    obtain⟨r1,r2,r3⟩:=mq n m k.2 (by omega) (.rc a) s _ σ (.rc x hx hs h1 h2 hsz) hσ hl q2 k2 hk2
    refine⟨ty _ ?_,r2,?_⟩
    ·rw[e2]
     show (vT n k.1 _&&vT n k2.1 _)=true
     rw[q1,r1];rfl
    ·show Vl.f (cX a k.1 (cX (.rc a) k2.1 k2.2))=.f w
     rw[r3,q3]
theorem DA{n:Nat}{a D:Ty}{x:Nm}(hx:bn x a=false)(hl:jx (.rc a) 0)(h:oe a x=some D){v:Vl}(hv:vT n v (.rc a)=true){k:Hl}(hk:k∈kids a v) :
 vT n k.1 D=true/\vT n k.2 (.rc a)=true/\.f (cX a k.1 k.2)=v:=by
 simp only[oe,aX,cR,eN]at h
 obtain⟨d,hd,_,rfl⟩:=h
 have lo:jx (dC (.name x) a 0) 0:=gF x a hl
 have hcl:=lK rZ x hl
 have e1:sub x (.rc a) d=eU (iW Dc x (.rc a)) d:=by
  have:=il Dc x (.rc a) d
  rw[iZ,iZ]at this;exact this
 obtain⟨w,rfl,hw⟩:=BV hv
 have hk':k∈cq (dC (.name x) a 0) (.nm x) w:=by rw[n6 x w hx (.nm 0)];exact hk
 have hop:eU (iW Dc x (.rc a)) (dC (.name x) a 0)=dC (.rc a) a 0:=by rw[jD rZ x _ a 0 hx,iZ]
 obtain⟨q1,q2,q3⟩:=mq n w.nodes w (au _) _ x _ _ hd hcl lo (by rw[hop];exact hw) k hk'
 rw[dM x k.1.nodes k.1 a 0 k.2 (au _)]at q3
 refine⟨by rw[e1];exact q1,?_,congrArg Vl.f q3⟩
 simpa[eU,iW]using q2
theorem hZ:∀{t:Ty},cf t=true->∃y,bn y t=true/\dm y=true
 | .name s,h=>⟨s,by simp[bn],h⟩
 |
  .plus a b,h=>by
  simp only[cf,bC]at h
  rcases h with h|h
  ·obtain⟨y,h1,h2⟩:=hZ h;exact⟨y,by simp[bn,h1],h2⟩
  ·obtain⟨y,h1,h2⟩:=hZ h;exact⟨y,by simp[bn,h1],h2⟩
 |
  .times a b,h=>by
  simp only[cf,bC]at h
  rcases h with h|h
  ·obtain⟨y,h1,h2⟩:=hZ h;exact⟨y,by simp[bn,h1],h2⟩
  ·obtain⟨y,h1,h2⟩:=hZ h;exact⟨y,by simp[bn,h1],h2⟩
 |
  .rc a,h=>by
  obtain⟨y,h1,h2⟩:=hZ (t:=a) h;exact⟨y,by simp[bn,h1],h2⟩
theorem ia:∀{t:Ty} {y:Nm},bn y t=true->dm y=true->cf t=true
 |
  .name s,y,h,hl=>by
  have:s=y:=by simpa[bn]using h
  rw[this];exact hl
 |
  .plus a b,y,h,hl=>by
  simp only[bn,bC]at h
  simp only[cf,bC]
  exact h.imp (ia · hl) (ia · hl)
 |
  .times a b,y,h,hl=>by
  simp only[bn,bC]at h
  simp only[cf,bC]
  exact h.imp (ia · hl) (ia · hl)
 | .rc a,y,h,hl=>ia (t:=a) h hl
 | .zero,y,h,_=>by simp[bn]at h
 | .one,y,h,_=>by simp[bn]at h
 | .bound k,y,h,_=>by simp[bn]at h
theorem ZT.S8{s d:Nm}{a:Ty}{x A B:E}{D:Ty}(z:ZT s d a x A B D):∃e,jH d=some e/\Ask e [] D:=by
 have hcl:cf D=false:=by
  cases q:cf D with
  |false=>rfl
  |
   true =>
   obtain⟨y,h1,h2⟩:=hZ q
   have:=ia (t:=.rc a) (tt z.lp y h1) h2
   rw[z.ask.cl]at this;cases this
 have hc:wO d=some D:=by unfold wO;rw[z.bk];simp only;rw[if_pos (by rw[s5,hcl];rfl)]
 cases q:jH d with
 |none=>rw[na q]at hc;cases hc
 |
  some e =>
  obtain⟨t,h1,hA,_⟩:=gX q
  rw[hc]at h1;cases h1
  exact⟨e,rfl,hA⟩
theorem ZT.P4{s d:Nm}{a:Ty}{x A B:E}{D:Ty}(z:ZT s d a x A B D){w:Vl}(hb:w.gZ 100)(hv:vT 100 w D=true):ng d w.cw 100=if w.nodes<=200 then some w else none:=by
 obtain⟨e,he,hA⟩:=z.S8
 unfold ng
 rw[he]
 by_cases hn:w.nodes<=200
 ·rw[qN hb hn,if_pos hn]
  simp only
  rw[if_pos ⟨by omega,by rw[show (100:Int).toNat=100 from rfl,mX hA];exact hv⟩]
 ·rw[if_neg hn]
  cases q:sA w.cw with
  |none=>rfl
  |
   some w' =>
   exfalso
   obtain⟨_,h2,h3⟩:=lT q
   have:=uF hb h2 (qL q)
   rw[this]at hn;exact hn h3
theorem ZT.QB{s d:Nm}{a:Ty}{x A B:E}{D:Ty}(z:ZT s d a x A B D){v:Vl}(hv:Fo a v){k:Hl}(hk:k∈kids a v):vT 100 k.1 D=true/\Fo a k.2/\.f (cX a k.1 k.2)=v:=by
 obtain⟨e2,he2,hw2,hte2,_,_⟩:=nX z.y
 have hlc:jx (.rc a) 0:=hte2 ▸ hw2.qA.1
 obtain⟨q1,q2,q3⟩:=DA (uc z.y) hlc z.lp hv.ty hk
 have:=yb hk
 have:=hv.nd
 exact⟨q1,⟨q2,(j6 hv.gZ hk).2,by omega⟩,q3⟩
def qP(a:Ty)(l:List Vl)(v:Vl)(k:Int):Option (List Vl×Vl) :=
 if l.length=50 then none else if 0<=k/\k.toNat<(kids a v).length then
  (if((kids a v).getD k.toNat (.u,.u)).1.nodes<=200 then some (l++[((kids a v).getD k.toNat (.u,.u)).1],((kids a v).getD k.toNat (.u,.u)).2)else none)else none
theorem wi{a:Ty}{l:List Vl}{c e v:Vl}(h:.f (cX a c e)=v)(hn:v.nodes<=200):pB a (l++[c]) e=some (l,v)/\s8 a (l++[c]) e=s8 a l v:=by
 have hu:pB a (l++[c]) e=some (l,v):=by
  unfold pB
  rw[List.getLast?_concat]
  simp only
  rw[h,if_pos hn,List.dropLast_concat]
 refine⟨hu,?_⟩
 unfold s8
 rw[aq,List.length_singleton,jY,hu]
 rfl
theorem Ad{s d:Nm}{l:List Vl}{v:Vl}(hs:St s d (zA s) l v)(hd:cF s=some d)(hv:fT s (l.map (·.cw)) v.cw=some (l,v)){k:Hl}(hk:k∈kids (zA s) v) :
 fT s (l.map (·.cw)++[k.1.cw]) k.2.cw=if l.length=50 then none else if k.1.nodes<=200 then some (l++[k.1],k.2)else none:=by
 obtain⟨x,A,B,D,z⟩:=hs.z
 obtain⟨t1,t2,t3⟩:=z.QB hs.i.mj hk
 have hb:=(j6 hs.i.mj.gZ hk).1
 have hz:=(fH hv).1
 have hclo:=(fH hv).2
 have hlen:=hs.len
 have hlp:eG d (l.map (·.cw))=some l:=by
  rw[uo,hd]at hz
  simp only[aW,z.l]at hz
  obtain⟨_,h1,h2⟩:=aX.1 hz
  split at h2
  ·obtain⟨l',h3,h4⟩:=Option.map_eq_some_iff.1 h2
   cases h4;exact h3
  ·cases h2
 have e1:ng s k.2.cw 100=some k.2:=by rw[z.cw t2.gZ t2.ty,if_pos t2.nd]
 unfold fT
 rw[uo,hd]
 simp only[aW,z.l,e1,sU,hlp,eG,z.P4 hb t1,aq,cj,List.length_singleton]
 by_cases h50:l.length=50
 ·rw[if_neg (by omega),if_pos h50];rfl
 ·rw[if_pos (by omega),if_neg h50]
  by_cases hn:k.1.nodes<=200
  ·rw[if_pos hn,if_pos hn]
   simp only[cB,aW,(wi (l:=l) t3 hs.i.mj.nd).2]
   rw[if_pos hclo]
  ·rw[if_neg hn,if_neg hn];rfl
end Go.Proofs.Trees
namespace Go.Proofs.Trees
open Go Go.VL Go.RowKit
def DM(s:Nm)(o:Option (List Vl×Vl)):AV->List Ob->Prop:=fun r obs=>obs=[]/\∃pa,cm pa (tZ s o).2.1/\r=.cD [.agg [.v (.string (mk (tZ s o).1)),pa,.v (.string (mk (tZ s o).2.2))],.v (.bool o.isSome)]
theorem ub(s:Nm){o:Option (List Vl×Vl)}(h:GZ o):(tZ s o).2.1.length<=51:=by
 cases o with
 |none=>simp
 |some r=>obtain⟨_,_,h3⟩:=h r rfl;simpa using h3
theorem DM.ne(s:Nm)(o:Option (List Vl×Vl)):∃r ob,DM s o r ob:=⟨_,[],rfl,_,cm.of _,rfl⟩
theorem DM.none(s:Nm):DM s none (.cD [.agg [.v (.string (mk [])),.v (.slice none 0 0),.v (.string (mk []))],.v (.bool false)]) []:=⟨rfl,_,cm.nil,rfl⟩
theorem nf{s:Nm}{p:List Nm}{f:Nm}{l:List Vl}{v:Vl}(h:fT s p f=some (l,v)):∃d,St s d (zA s) l v/\p=l.map (·.cw)/\f=v.cw:=xn (fH h).1
abbrev PL(s:Nm)(o:Option (List Vl×Vl)):AV->List Ob->Prop:=dq (.cD [.agg [.v (.string (mk (tZ s o).1)),.vec 1,.v (.string (mk (tZ s o).2.2))],.v (.bool o.isSome)]) [.dead,.vec 1 (bH (tZ s o).2.1)]
theorem KM(s:Nm)(p:List Nm)(f:Nm):an Tryz.prog 41 [.agg [.v (.string (mk s)),.vec 0,.v (.string (mk f))]] [.vec 1 (bH p)] (PL s (fT s p f)):=by
 refine Rn _ _ _ ?_
 unfold KQ
 refine ai (Ej s _ p (cm.of p) f) ?_
 simp only[↓zq,zs,ae]
 cases q:fT s p f with
 |none=>simp only[bu];exact⟨fun _=>⟨rfl,rfl⟩,fun h=>by simp at h⟩
 |
  some r =>
  obtain⟨_,_,rfl,rfl⟩:=nf (l:=r.1) (v:=r.2) q
  simp only[aZ]
  exact⟨fun h=>by simp at h,fun _=>⟨rfl,rfl⟩⟩
theorem Cb(s f:Nm):fT s [] f=vF s [] f:=by
 unfold fT
 cases q:vF s [] f with
 |none=>rfl
 |
  some r =>
  obtain⟨l,v⟩:=r
  obtain⟨_,_,h,_⟩:=xn q
  have:l=[]:=List.map_eq_nil_iff.1 h.symm
  subst this
  rfl
theorem R6(s f:Nm):an Tryz.prog 54 [.v (.string (mk s)),.v (.string (mk f))] [] (CZ s (vF s [] f)):=by
 refine Re _ _ ?_
 unfold Jr
 rw[<-Cb]
 refine aV (KM s [] f) ?_
 simp only[↓zq,zs,ae,zt,aI,Ob.es,aO,bq]
 exact⟨rfl,rfl⟩
def kA(l:List Hl):List (List AV):=l.map fun h=>[.v (.string (mk h.1.cw)),.v (.string (mk h.2.cw))]
theorem iL(l:List Hl):(kA l).length=l.length:=by simp[kA]
theorem KZ(l:List Hl)(hl:l.length<=1000)(h1:∀h,h∈l->h.1.cw.length<=900000)(h2:∀h,h∈l->h.2.cw.length<=900000):∀(k i:Nat) (out:List Hl),i+k=l.length->out.length<=i ->
 Fi [.sl (mf l),.v (.int .i64 (i:Int))] [.vec 2 (kA out)] (iG 1 [] [.vec 2 (kA (out++l.drop i))])
 |
  0,i,out,hi,ho=>by
  refine J5 _ _ _ ?_
  have:i=l.length:=by omega
  subst this
  simp only[Ia,↓zq,zs,ae,fA,List.drop_length]
  exact⟨fun h=>by omega,fun _=>by simp[iG]⟩
 |
  k+1,i,out,hi,ho=>by
  have hlt:i<l.length:=by omega
  have hm:=bD hlt
  have t1:=CX (l[i]).1.cL (mK _) (h1 _ hm)
  have t2:=CX (l[i]).2.cL (mK _) (h2 _ hm)
  rw[dj]at t1 t2
  refine J5 _ _ _ ?_
  simp only[Ia,↓zq,zs,ae,zt,fA,gB hlt,bF,a6]
  refine⟨fun _=>?_,fun h=>by omega⟩
  repeat refine⟨by omega,?_⟩
  refine ai t1 ?_
  simp only[↓zq,zs,ae,zt]
  repeat refine⟨by omega,?_⟩
  refine ai t2 ?_
  simp only[↓zq,zs,ae,zt,iL]
  refine⟨⟨fun c hc=>by simp at hc;rw[hc];rfl,by omega⟩,?_⟩
  rw[bA i (by omega),aR hlt]
  have:=KZ l hl h1 h2 k (i+1) (out++[l[i]]) (by omega) (by simp;omega)
  rw[bf]at this
  simpa[kA]using this
theorem QZ(l:List Hl)(hl:l.length<=1000)(h1:∀h,h∈l->h.1.cw.length<=900000)(h2:∀h,h∈l->h.2.cw.length<=900000):an Tryz.prog 73 [.sl (mf l)] [] (bJ (.sl (kA l))):=by
 refine Rm _ ((cc _).mpr trivial) ?_
 unfold ND
 refine cJ (KZ l hl h1 h2 l.length 0 [] (by omega) (by simp)) ?_
 simp only[↓zq,zs,ae]
 exact⟨rfl,rfl⟩
theorem rm{a:Ty}{v:Vl}(h:Fo a v){k:Hl}(hk:k∈kids a v):k.1.cw.length<=900000/\k.2.cw.length<=900000:=by
 obtain⟨b1,b2⟩:=j6 h.gZ hk
 have h1:=jf _ b1
 have h2:=jf _ b2
 have h3:=yb hk
 have h4:=h.nd
 have h5:k.1.nodes<=4*v.nodes:=by
  cases v with
  |f w=>have:=(iB hk).2;simp only[Vl.nodes];omega
  |_=>cases hk
 omega
theorem F5{s d:Nm}{a:Ty}{x A B:E}{D:Ty}(z:ZT s d a x A B D)(v:Vl)(hv:Fo a v):an Tryz.prog 51 [.v (.string (mk s)),.v (.string (mk v.cw))] [] (bJ (.cD [.sl (kA (kids a v)),.v (.bool true)])):=by
 have hv2:ng s v.cw 100=some v:=by rw[z.cw hv.gZ hv.ty,if_pos hv.nd]
 have hP:=P3.of x A B
 have hn:=hv.nd
 obtain⟨v0,hv0,_⟩:=uz .nil z.hx (hv.eX z)
 have hkids:=Pp 100 v x A B a z.body z.hx v0 hv0 (hv.eX z) (by omega)
 have hV:=P2.of (.atom [102]) v0.cL
 refine QF _ _ ?_
 unfold IU
 refine aP (HK s) (jI.ne _ _ (fun h=>h)) ?_
 rintro r o ⟨c,e,he,rfl,hh⟩
 rw[z.le]at hh
 obtain⟨e',he',hce⟩:=hh rfl
 cases he'
 rw[dj]at hce
 rw[hce,z.le]
 simp only[↓zq,zs,ae,zt,aL,bL]
 repeat refine⟨by omega,?_⟩
 refine aP (Ez v.cw) (jI.ne _ _ (fun h=>by simpa using h)) ?_
 rw[qN hv.gZ hn]
 rintro r o ⟨c,e,he,rfl,hh⟩
 obtain⟨e',he',hce⟩:=hh rfl
 cases he'
 rw[dj]at hce
 rw[hce]
 simp only[↓zq,zs,ae,zt,aL,aZ]
 repeat refine⟨by omega,?_⟩
 refine⟨fun h=>by simp at h,fun _=>?_⟩
 refine ai (zv s v.cw 100) ?_
 rw[hv2,hv0]
 simp only[toNat_one,bg,Vl.cL,bL,↓zq,zs,ae,zt,hP.1,hP.2.1,hP.2.2.1,hP.2.2.2,hV.1,hV.2.1,hV.2.2,aL,a6,aZ]
 refine⟨fun h=>by simp at h,fun _=>?_⟩
 repeat refine⟨by omega,?_⟩
 refine ai hkids ?_
 simp only[↓zq,zs,ae]
 repeat refine⟨by omega,?_⟩
 have hlen:=nj a v
 have:=kQ (kids a v)
 refine ai (QZ (kids a v) (by omega) (fun h hh=>(rm hv hh).1) (fun h hh=>(rm hv hh).2)) ?_
 rw[<-hv0]
 simp only[↓zq,zs,ae]
 exact⟨rfl,rfl⟩
theorem Ru(s:Nm)(pa:AV)(p:List Nm)(hp:cm pa p)(f:Nm):an Tryz.prog 50 [.agg [.v (.string (mk s)),pa,.v (.string (mk f))]] [] (bJ (.v (.int .i64 (qu s p f)))):=by
 refine Se _ _ _ hp.1 ?_
 unfold JR
 refine ai (Ej s pa p hp f) ?_
 simp only[↓zq,zs,ae]
 unfold qu
 cases q:fT s p f with
 |none=>simp only[bu];exact⟨fun _=>⟨rfl,rfl⟩,fun h=>by simp at h⟩
 |
  some r =>
  obtain⟨l,v⟩:=r
  obtain⟨d,hs,rfl,rfl⟩:=nf q
  obtain⟨x,A,B,D,z⟩:=hs.z
  simp only[aZ]
  refine⟨fun h=>by simp at h,fun _=>?_⟩
  refine ai (F5 z v hs.i.mj) ?_
  simp only[↓zq,zs,ae,iL]
  exact⟨rfl,rfl⟩
end Go.Proofs.Trees
namespace Go.Proofs.Trees
open Go Go.VL Go.RowKit
theorem rR{a:Ty}{l l':List Vl}{v w:Vl}{k:Int}(h:qP a l v k=some (l',w)):∃q,q∈kids a v/\l'=l++[q.1]/\w=q.2/\q.1.nodes<=200/\l.length≠50/\0<=k/\(kids a v)[k.toNat]?=some q:=by
 unfold qP at h
 split at h
 ·cases h
 ·rename_i h0
  split at h
  ·rename_i h1
   split at h
   ·rename_i h2
    cases h
    have e:(kids a v).getD k.toNat (.u,.u)=(kids a v)[k.toNat]'h1.2:=by simp[aa,h1.2]
    rw[e]at h2 |-
    exact⟨_,bD _,rfl,rfl,h2,h0,h1.1,by simp[h1.2]⟩
   ·cases h
  ·cases h
theorem St.dn{s d:Nm}{a:Ty}{l l':List Vl}{v w:Vl}{k:Int}(h:St s d a l v)(hu:qP a l v k=some (l',w)):St s d a l' w/\pB a l' w=some (l,v)/\l'.length=l.length+1:=by
 obtain⟨q,hq,rfl,rfl,hn,h50,_,_⟩:=rR hu
 obtain⟨x,A,B,D,z⟩:=h.z
 obtain⟨t1,t2,t3⟩:=z.QB h.i.mj hq
 have hv:ng d q.1.cw 100=some q.1:=by rw[z.P4 (j6 h.i.mj.gZ hq).1 t1,if_pos hn]
 have hlen:=h.len
 refine⟨⟨⟨x,A,B,D,z⟩,⟨fun c hc=>?_,t2⟩,fun c hc=>?_,by simp;omega⟩,(wi t3 h.i.mj.nd).1,by simp⟩
 ·rcases aN.1 hc with hc|hc
  ·exact h.i.ctx c hc
  ·simp only[aU]at hc;subst hc;exact z.ctx hv
 ·rcases aN.1 hc with hc|hc
  ·exact h.each c hc
  ·simp only[aU]at hc;subst hc;exact hv
end Go.Proofs.Trees
