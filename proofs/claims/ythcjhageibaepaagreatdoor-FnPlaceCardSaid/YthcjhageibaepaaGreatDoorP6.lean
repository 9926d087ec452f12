/-
  Part of a proof: Go functions read by values, trees of functions, their contracts.
-/
import Derived.Test.YthcjhageibaepaaGreatDoorP5
set_option linter.unusedVariables false
set_option linter.unusedSimpArgs false
open And renaming intro→aH
open Bool renaming and_eq_true→aw,eq_iff_iff→cx,or_eq_false_iff→ck,or_eq_true→bB,true_and→bX
open ByteArray renaming toList→af
open Int renaming tmod→dG,toNat_natCast→bF
open List renaming all_cons→cZ,all_eq_true→bY,append_assoc→a6,append_nil→cP,cons_append→bb,drop_eq_getElem_cons→aT,drop_zero→bc,eq_nil_of_length_eq_zero→bQ,getD_cons_zero→bq,getD_eq_getElem?_getD→aa,getElem?_eq_getElem→bo,getElem_mem→bH,headD_cons→aO,length_append→aq,length_cons→az,length_map→bU,length_nil→aG,map_cons→bG,mem_append→aM,mem_append_left→aD,mem_append_right→aB,mem_cons→aJ,mem_cons_of_mem→al,mem_cons_self→ak,mem_map→bM,mem_singleton→aQ,nil_append→aU,tail_cons→bz
open Nat renaming le_add_right→da,le_refl→au,mul_add→cU,mul_le_mul_right→aZ,mul_one→dH,zero_add→aV,zero_le→dP
open Option renaming bind_eq_some_iff→bm,bind_none→bT,bind_some→ba,getD_some→cA,isSome_iff_exists→ca,isSome_none→bu,isSome_some→a8,map_some→cj
open UInt8 renaming ofNat→bg
namespace Go.Proofs.Trees
open Go Go.VL Go.RowKit
theorem Oj(w:List UInt8)(g:Vl->Vl)(hg:∀c,(g c).cL=.list [.atom w,c.cL])(l:List Hl)(hl:l.length<=1000000):∀(k i:Nat) (out:List Hl),i+k=l.length->out.length+k<=1000000 ->
 FF [.sl (mh l),.v (.string (mk w)),.v (.int .i64 (i:Int))] [.vec 4 (mh out)] (ib 1 [] [.vec 4 (mh (out++iF g (l.drop i)))])
 |
  0,i,out,hi,ho=>by
  refine OB _ _ _ _ ?_
  have:i=l.length:=by omega
  subst this
  simp only[H0,↓zq,zs,ae,fA]
  exact⟨fun h=>by omega,fun _=>by simp[ib,iF]⟩
 |
  k+1,i,out,hi,ho=>by
  have hlt:i<l.length:=by omega
  refine OB _ _ _ _ ?_
  simp only[H0,↓zq,zs,ae,zt,fA,gA hlt,kU,aK]
  refine⟨fun _=>?_,fun h=>by omega⟩
  repeat refine⟨by omega,?_⟩
  refine aj (xF _ _) ?_
  simp only[↓zq,zs,ae,aK]
  repeat refine⟨by omega,?_⟩
  refine⟨⟨zG _ _ _ _,by omega⟩,?_⟩
  rw[bA i (by omega)]
  have:=Oj w g hg l hl k (i+1) (out++[(g (l[i]).1,(l[i]).2)]) (by omega) (by simp;omega)
  rw[a6,<-oI,hg]at this
  rw[gr g l hlt]
  exact this
theorem OS(w:List UInt8)(g:Vl->Vl)(hg:∀c,(g c).cL=.list [.atom w,c.cL])(l out:List Hl)(hl:out.length+l.length<=1000000) :
 an Tryz.prog 105 [.sl (mh l),.v (.string (mk w)),.vec 0] [.vec 4 (mh out)] (dh (.vec 1) [.dead,.vec 4 (mh (out++iF g l))]):=by
 refine PZ _ _ _ ((cc _).mpr trivial) ?_
 simp only[Mh,↓zq,zs,ae]
 have h:=Oj w g hg l (by omega) l.length 0 out (by omega) (by omega)
 rw[bc]at h
 refine cD h ?_
 simp[↓zq,zs,ae,dh]
theorem LB(s:List UInt8)(ta:ByteArray)(tp:AV)(ht:LK.sl.has tp)(va:ByteArray)(vp:AV)(x y:Vl)(hp:P3 vp x.cL y.cL)(l:List Hl)(hl:l.length<=1000000):∀(k i:Nat) (out:List Hl),i+k=l.length->out.length+k<=1000000 ->
 FN [.v (.string (mk s)),.sl (mh l),.v (.int .i64 (i:Int))] [.cells [.v (.string ta),tp],.cells [.v (.string va),vp],.vec 4 (mh out)] (ib 1 [.v (.string (mk s))] [.cells [.v (.string ta),tp],.cells [.v (.string va),vp],.vec 4 (mh (out++iF (fun c=>Vl.l (.p c y)) (l.drop i)))])
 |
  0,i,out,hi,ho=>by
  refine N8 _ _ _ _ _ _ _ _ ?_
  have:i=l.length:=by omega
  subst this
  simp only[Fj,↓zq,zs,ae,fA,ht,aX,ae,hp.1]
  exact⟨fun h=>by omega,fun _=>by simp[ib,iF]⟩
 |
  k+1,i,out,hi,ho=>by
  have hlt:i<l.length:=by omega
  refine N8 _ _ _ _ _ _ _ _ ?_
  simp only[Fj,↓zq,zs,ae,zt,fA,gA hlt,kU,aK,gA,ht,aX,ae,hp.1,toNat_one,bf,hp.1,hp.2.1,hp.2.2.1,hp.2.2.2]
  refine⟨fun _=>?_,fun h=>by omega⟩
  repeat refine⟨by omega,?_⟩
  refine aj (wJ _ _ _) ?_
  simp only[↓zq,zs,ae,aK]
  repeat refine⟨by omega,?_⟩
  refine aj (xF [108] (E.list [.atom [112],(l[i]).1.cL,y.cL])) ?_
  simp only[↓zq,zs,ae,aK]
  repeat refine⟨by omega,?_⟩
  refine⟨⟨zG _ _ _ _,by omega⟩,?_⟩
  rw[bA i (by omega)]
  have:=LB s ta tp ht va vp x y hp l hl k (i+1) (out++[((fun c=>Vl.l (.p c y)) (l[i]).1,(l[i]).2)]) (by omega) (by simp;omega)
  rw[a6,<-oI]at this
  rw[gr (fun c=>Vl.l (.p c y)) l hlt]
  exact this
theorem M3(va:ByteArray)(vp:AV)(x y:Vl)(hp:P3 vp x.cL y.cL)(l:List Hl)(hl:l.length<=1000000):∀(k i:Nat) (out:List Hl),i+k=l.length->out.length+k<=1000000 ->
 Is [.sl (mh l),.v (.int .i64 (i:Int))] [.cells [.v (.string va),vp],.vec 4 (mh out)] (ib 1 [] [.vec 4 (mh (out++iF (fun c=>Vl.r (.p x c)) (l.drop i)))])
 |
  0,i,out,hi,ho=>by
  refine KM _ _ _ _ _ ?_
  have:i=l.length:=by omega
  subst this
  simp only[IF,↓zq,zs,ae,fA,aX,ae,hp.1]
  exact⟨fun h=>by omega,fun _=>by simp[ib,iF]⟩
 |
  k+1,i,out,hi,ho=>by
  have hlt:i<l.length:=by omega
  refine KM _ _ _ _ _ ?_
  simp only[IF,↓zq,zs,ae,zt,fA,gA hlt,kU,aK,gA,aX,ae,hp.1,toNat_one,bf,hp.1,hp.2.1,hp.2.2.1,hp.2.2.2]
  refine⟨fun _=>?_,fun h=>by omega⟩
  repeat refine⟨by omega,?_⟩
  refine aj (wJ _ _ _) ?_
  simp only[↓zq,zs,ae,aK]
  repeat refine⟨by omega,?_⟩
  refine aj (xF [114] (E.list [.atom [112],x.cL,(l[i]).1.cL])) ?_
  simp only[↓zq,zs,ae,aK]
  repeat refine⟨by omega,?_⟩
  refine⟨⟨zG _ _ _ _,by omega⟩,?_⟩
  rw[bA i (by omega)]
  have:=M3 va vp x y hp l hl k (i+1) (out++[((fun c=>Vl.r (.p x c)) (l[i]).1,(l[i]).2)]) (by omega) (by simp;omega)
  rw[a6,<-oI]at this
  rw[gr (fun c=>Vl.r (.p x c)) l hlt]
  exact this
theorem J9(s s2:List UInt8)(ta:ByteArray)(tp:AV)(ht:LK.sl.has tp)(va:ByteArray)(vp:AV)(hp:LK.sl.has vp)(l:List Hl)(hl:l.length<=1000000):∀(k i:Nat) (out:List Hl),i+k=l.length->out.length+k<=1000000 ->
 HV [.v (.string (mk s)),.v (.string (mk s2)),.sl (mh l),.v (.int .i64 (i:Int))] [.cells [.v (.string ta),tp],.cells [.v (.string va),vp],.vec 4 (mh out)] (ib 1 [.v (.string (mk s)),.v (.string (mk s2))] [.cells [.v (.string ta),tp],.cells [.v (.string va),vp],.vec 4 (mh (out++iF (fun c=>Vl.f (.l c)) (l.drop i)))])
 |
  0,i,out,hi,ho=>by
  refine MJ _ _ _ _ _ _ _ _ _ ?_
  have:i=l.length:=by omega
  subst this
  simp only[Iw,↓zq,zs,ae,fA,ht,aX,ae,hp]
  exact⟨fun h=>by omega,fun _=>by simp[ib,iF]⟩
 |
  k+1,i,out,hi,ho=>by
  have hlt:i<l.length:=by omega
  refine MJ _ _ _ _ _ _ _ _ _ ?_
  simp only[Iw,↓zq,zs,ae,zt,fA,gA hlt,kU,aK,gA,ht,aX,ae,hp]
  refine⟨fun _=>?_,fun h=>by omega⟩
  repeat refine⟨by omega,?_⟩
  refine aj (xF _ _) ?_
  simp only[↓zq,zs,ae,aK]
  repeat refine⟨by omega,?_⟩
  refine aj (xF [102] (E.list [.atom [108],(l[i]).1.cL])) ?_
  simp only[↓zq,zs,ae,aK]
  repeat refine⟨by omega,?_⟩
  refine⟨⟨zG _ _ _ _,by omega⟩,?_⟩
  rw[bA i (by omega)]
  have:=J9 s s2 ta tp ht va vp hp l hl k (i+1) (out++[((fun c=>Vl.f (.l c)) (l[i]).1,(l[i]).2)]) (by omega) (by simp;omega)
  rw[a6,<-oI]at this
  rw[gr (fun c=>Vl.f (.l c)) l hlt]
  exact this
theorem Om(s:List UInt8)(L:AV)(q:Nat)(kc:Vl)(kv:Vl)(hL:LK.sl.has L)(hq:q<L.elems.length)(hg:L.elems.getD q []=[.v (.string (mk kc.cL.at)),kc.cL.sp,.v (.string (mk kv.cL.at)),kv.cL.sp])(ta:ByteArray)(tp:AV)(ht:LK.sl.has tp)(l:List Hl)(hl:l.length<=1000000):∀(k i:Nat) (out:List Hl),i+k=l.length->out.length+k<=1000000 ->
 GQ [.v (.string (mk s)),L,.v (.int .i64 (q:Int)),.sl (mh l),.v (.int .i64 (i:Int))] [.cells [.v (.string ta),tp],.vec 4 (mh out)] (ib 1 [.v (.string (mk s)),L,.v (.int .i64 (q:Int))] [.cells [.v (.string ta),tp],.vec 4 (mh (out++iF (fun c=>Vl.f (.r (.p kc c))) (l.drop i)))])
 |
  0,i,out,hi,ho=>by
  refine JB _ _ _ _ _ _ _ _ ?_
  have:i=l.length:=by omega
  subst this
  simp only[Ia,↓zq,zs,ae,fA,ht,aX,ae,hL]
  exact⟨fun h=>by omega,fun _=>by simp[ib,iF]⟩
 |
  k+1,i,out,hi,ho=>by
  have hlt:i<l.length:=by omega
  refine JB _ _ _ _ _ _ _ _ ?_
  simp only[Ia,↓zq,zs,ae,zt,fA,gA hlt,kU,aK,gA,ht,aX,ae,hL,hg]
  refine⟨fun _=>?_,fun h=>by omega⟩
  repeat refine⟨by omega,?_⟩
  refine aj (wJ _ _ _) ?_
  simp only[↓zq,zs,ae,aK]
  repeat refine⟨by omega,?_⟩
  refine aj (xF [114] (E.list [.atom [112],kc.cL,(l[i]).1.cL])) ?_
  simp only[↓zq,zs,ae,aK]
  repeat refine⟨by omega,?_⟩
  refine aj (xF [102] (E.list [.atom [114],E.list [.atom [112],kc.cL,(l[i]).1.cL]])) ?_
  simp only[↓zq,zs,ae,aK]
  repeat refine⟨by omega,?_⟩
  refine⟨⟨zG _ _ _ _,by omega⟩,?_⟩
  rw[bA i (by omega)]
  have:=Om s L q kc kv hL hq hg ta tp ht l hl k (i+1) (out++[((fun c=>Vl.f (.r (.p kc c))) (l[i]).1,(l[i]).2)]) (by omega) (by simp;omega)
  rw[a6,<-oI]at this
  rw[gr (fun c=>Vl.f (.r (.p kc c))) l hlt]
  exact this
theorem JE(s:List UInt8)(te:E)(a:Ty)(tg:Tg)(l:List Hl)(hl:l.length<=1000000)(ih:∀h,h∈l->an Tryz.prog 74 [.agg [.v (.string (mk te.at)),te.sp],.v (.string (mk s)),.agg [.v (.string (mk h.2.cL.at)),h.2.cL.sp]] [] (bJ (.sl (mh (cn (.rc a) tg h.2))))) :
 ∀(k i:Nat) (out:List Hl),i+k=l.length->(out++(l.drop i).flatMap (Ay a tg)).length<=1000000 ->
 Hu [.v (.string (mk s)),.sl (mh l),.v (.int .i64 (i:Int))] [.cells [.v (.string (mk te.at)),te.sp],.vec 4 (mh out)] (ib 1 [] [.vec 4 (mh (out++(l.drop i).flatMap (Ay a tg)))])
 |
  0,i,out,hi,ho=>by
  refine Ov _ _ _ _ _ _ ?_
  have:i=l.length:=by omega
  subst this
  simp only[GU,↓zq,zs,ae,fA,aX,ae]
  exact⟨fun h=>by omega,fun _=>by simp[ib]⟩
 |
  k+1,i,out,hi,ho=>by
  have hlt:i<l.length:=by omega
  have hd:(l.drop i).flatMap (Ay a tg)=Ay a tg (l[i])++(l.drop (i+1)).flatMap (Ay a tg):=by rw[aT hlt,List.flatMap_cons]
  rw[hd]at ho |-
  refine Ov _ _ _ _ _ _ ?_
  simp only[GU,↓zq,zs,ae,zt,fA,gA hlt,kU,aK,aX,ae]
  refine⟨fun _=>?_,fun h=>by omega⟩
  repeat refine⟨by omega,?_⟩
  refine aj (ih _ (BL l hlt)) ?_
  simp only[↓zq,zs,ae]
  have hb:out.length+(cn (.rc a) tg (l[i]).2).length<=1000000:=by
   simp only[aq,fS]at ho;omega
  have h5:=Om s (.sl (mh l)) i (l[i]).1 (l[i]).2 ((cc _).mpr trivial) (by rw[fD,fA];omega) (by rw[fD,gA hlt]) (mk te.at) te.sp ((aX _).mpr trivial) (cn (.rc a) tg (l[i]).2) (by omega) (cn (.rc a) tg (l[i]).2).length 0 out (by omega) (by omega)
  rw[bc]at h5
  refine cD h5 ?_
  simp only[↓zq,zs,ae,aX,ae]
  repeat refine⟨by omega,?_⟩
  rw[bA i (by omega),<-a6]
  exact JE s te a tg l hl ih k (i+1) _ (by omega) (by rw[a6];exact ho)
end Go.Proofs.Trees
namespace Go.Proofs.Trees
open Go Go.VL Go.RowKit
def kids(a:Ty):Vl->List Hl
 | .f w=>cn a (.bd 0) w
 |_=>[]
theorem mX(a:Ty)(v:Vl):lz (kids a v)+1<=v.nodes:=by
 cases v with
 |f w=>have:=sf a (.bd 0) w;simp only[kids,Vl.nodes];omega
 |_=>simp only[kids,lz,Vl.nodes,List.map_nil,List.sum_nil];omega
theorem xP{a:Ty}{v:Vl}{h:Hl}(hh:h∈kids a v):h.2.nodes<v.nodes:=by
 cases v with
 |f w=>have:=(jr hh).1;simp only[Vl.nodes];omega
 |_=>cases hh
theorem lf{n:Nat}{a:Ty}{v:Vl}{h:Hl}(hv:v.gR n)(hh:h∈kids a v):h.1.gR n/\h.2.gR n:=by
 cases v with
 |f w=>exact gO n _ _ _ w h hv hh
 |_=>cases hh
end Go.Proofs.Trees
namespace Go.Proofs.Trees
open Go Go.VL
mutual
def E.pr:E->Prop
 | .atom s=>s≠[]/\s.all fe=true
 | .list l=>l≠[]/\E.Bo l
def E.Bo:List E->Prop
 |[]=>True
 |e::l=>e.pr/\E.Bo l
end
mutual
def E.dp:E->Nat
 | .atom _=>0
 | .list l=>1+E.u4 l
def E.u4:List E->Nat
 |[]=>0
 |e::l=>max e.dp (E.u4 l)
end
def N7(r:List UInt8):Prop:=∀c t,r=c::t->fe c=false
theorem uP:N7 []:=by intro c t h;cases h
theorem CG{s r:List UInt8}(hs:s.all fe=true)(hr:N7 r):(s++r).takeWhile fe=s/\(s++r).dropWhile fe=r:=by
 induction s with
 |
  nil =>
  cases r with
  |nil=>exact⟨rfl,rfl⟩
  |cons c t=>have:=hr c t rfl;simp[List.takeWhile,List.dropWhile,this]
 |
  cons c s ih =>
  simp only[cZ,aw]at hs
  have:=ih hs.2
  simp[List.takeWhile,List.dropWhile,hs.1,this.1,this.2]
theorem vG(l:List E)(r:List UInt8):N7 (ei l++41::r):=by
 intro c t h
 cases l with
 |nil=>simp only[ei,aU,List.cons.injEq]at h;rw[<-h.1];decide
 |cons e l=>simp only[ei,bb,List.cons.injEq]at h;rw[<-h.1];decide
theorem Bu{f:List UInt8->Option (E×List UInt8)}(r:List UInt8):∀(l:List E) (e:E) (acc:List E) (n:Nat),l.length<n->(∀x,x=e\/x∈l->∀r,N7 r->f (e9 x++r)=some (x,r)) ->
 ss f n (e9 e++(ei l++41::r)) acc=some (.list (acc++e::l),r)
 |l,e,acc,0,hn,hf=>by omega
 |
  [],e,acc,n+1,hn,hf=>by
  simp only[ss]
  rw[hf e (.inl rfl) _ (vG [] r)]
  simp[ei]
 |
  x::l,e,acc,n+1,hn,hf=>by
  simp only[ss]
  rw[hf e (.inl rfl) _ (vG (x::l) r)]
  simp only[az]at hn
  have ih:=Bu r l x (acc++[e]) n (by omega) (fun y hy=>hf y (.inr (by cases hy with|inl h=>rw[h];exact ak|inr h=>exact al _ h)))
  simp only[a6,bb,aU]at ih
  simp only[ei,bb,a6]
  simp[ih]
theorem Ea{l:List E}{k:Nat}:E.Bo l->E.u4 l<=k->∀x,x∈l->x.pr/\x.dp<=k:=by
 induction l with
 |nil=>intro _ _ x h;cases h
 |
  cons e l ih =>
  intro h hd x hx
  simp only[E.Bo,E.u4]at h hd
  cases hx with
  |head=>exact⟨h.1,by omega⟩
  |tail _ hx=>exact ih h.2 (by omega) x hx
theorem zk:∀(k:Nat) (e:E) (r:List UInt8),e.pr->e.dp<=k->N7 r->rd k (e9 e++r)=some (e,r)
 |
  0,.atom s,r,hp,hd,hr=>by
  have h:=CG hp.2 hr
  simp only[e9,rd,h.1,h.2,hp.1,if_false]
 |
  k+1,.atom s,r,hp,hd,hr=>by
  have h:=CG hp.2 hr
  simp only[e9,rd,h.1,h.2,hp.1,if_false]
 |0,.list l,r,hp,hd,hr=>by simp only[E.dp]at hd;omega
 |k+1,.list [],r,hp,hd,hr=>by exact absurd rfl hp.1
 |
  k+1,.list (e::l),r,hp,hd,hr=>by
  have hs:fe 40=false:=by decide
  simp only[E.dp,E.pr]at hd hp
  have hm:=Ea (k:=k) hp.2 (by omega)
  have:=Bu (f:=rd k) r l e [] ((e9 e++(ei l++41::r)).length+1) (by have:=rR l;simp only[aq,az];omega)
   (fun x hx r hr=>zk k x r (hm x (by cases hx with|inl h=>rw[h];exact ak|inr h=>exact al _ h)).1 (hm x (by cases hx with|inl h=>rw[h];exact ak|inr h=>exact al _ h)).2 hr)
  simp only[e9,bb,a6,aU]at *
  simp only[rd,List.takeWhile,hs,if_true]
  simpa using this
theorem BP{e e':E}(h:e.pr)(h':e'.pr)(ht:e9 e=e9 e'):e=e':=by
 have a:=zk (max e.dp e'.dp) e [] h (by omega) uP
 have b:=zk (max e.dp e'.dp) e' [] h' (by omega) uP
 rw[ht,b]at a;cases a;rfl
theorem FZ{e:E}(h:e.pr)(hd:e.dp<=300)(hl:(e9 e).length<=8000):qJ (e9 e)=some e:=by
 have:=zk 300 e [] h hd uP
 rw[cP]at this
 rw[qJ,this];simp;omega
theorem BV(s:List UInt8):(s.takeWhile fe).all fe=true:=by
 induction s with
 |nil=>rfl
 |cons c s ih =>
  cases h:fe c
  ·simp[List.takeWhile,h]
  ·simp only[List.takeWhile,h,cZ,ih];rfl
theorem DY(l r:List E):E.Bo (l++r)↔E.Bo l/\E.Bo r:=by
 induction l with
 |nil=>simp[E.Bo]
 |cons e l ih=>simp[E.Bo,ih,and_assoc]
theorem D4(l r:List E):E.u4 (l++r)=max (E.u4 l) (E.u4 r):=by
 induction l with
 |nil=>simp[E.u4]
 |cons e l ih=>simp[E.u4,ih,Nat.max_assoc]
theorem zi{k:Nat}{f:List UInt8->Option (E×List UInt8)}(hf:∀s e r,f s=some (e,r)->s=e9 e++r/\e.pr/\e.dp<=k):∀(n:Nat) (s:List UInt8) (acc:List E) (e:E) (r:List UInt8),ss f n s acc=some (e,r)->E.Bo acc->E.u4 acc<=k ->
 ∃l,e=.list (acc++l)/\l≠[]/\32::s=ei l++41::r/\E.Bo l/\E.u4 l<=k
 |0,s,acc,e,r,h,hp,hd=>by cases h
 |
  n+1,s,acc,e,r,h,hp,hd=>by
  simp only[ss]at h
  split at h
  ·rename_i p c r' hs
   obtain⟨h1,h2,h3⟩:=hf _ _ _ hs
   split at h
   ·rename_i hc
    have hc:c=41:=UInt8.toNat_inj.mp hc
    cases h
    exact⟨[p],rfl,by simp,by simp[ei,h1,hc],⟨h2,trivial⟩,by simp[E.u4];omega⟩
   ·split at h
    ·rename_i hc
     have hc:c=32:=UInt8.toNat_inj.mp hc
     obtain⟨l,g1,g2,g3,g4,g5⟩:=zi hf n _ _ _ _ h ((DY _ _).mpr ⟨hp,h2,trivial⟩) (by rw[D4];simp[E.u4];omega)
     refine⟨p::l,by simpa using g1,by simp,?_,⟨h2,g4⟩,by simp only[E.u4];omega⟩
     rw[h1,hc,g3];simp[ei]
    ·cases h
  ·cases h
theorem B8:∀(k:Nat) (s:List UInt8) (e:E) (r:List UInt8),rd k s=some (e,r)->s=e9 e++r/\e.pr/\e.dp<=k
 |
  0,s,e,r,h=>by
  simp only[rd]at h
  split at h
  ·cases h
  ·rename_i hs;cases h
   exact⟨(List.takeWhile_append_dropWhile).symm,⟨hs,BV s⟩,au _⟩
 |
  k+1,s,e,r,h=>by
  simp only[rd]at h
  split at h
  ·split at h
   ·rename_i c r' _
    split at h
    ·rename_i hc
     have hc:c=40:=UInt8.toNat_inj.mp hc
     obtain⟨l,g1,g2,g3,g4,g5⟩:=zi (k:=k) (fun s e r h=>B8 k s e r h) _ _ _ _ _ h trivial (dP _)
     simp only[aU]at g1
     subst g1;subst hc
     refine⟨?_,⟨g2,g4⟩,by simp only[E.dp];omega⟩
     cases l with
     |nil=>exact absurd rfl g2
     |
      cons x l =>
      simp only[ei,bb,a6,List.cons.injEq,true_and]at g3
      rw[g3];simp[e9]
    ·cases h
   ·cases h
  ·rename_i hs;cases h
   exact⟨(List.takeWhile_append_dropWhile).symm,⟨hs,BV s⟩,by simp[E.dp]⟩
theorem xS{s:List UInt8}{e:E}(h:qJ s=some e):s=e9 e/\e.pr/\e.dp<=300/\s.length<=8000:=by
 unfold qJ at h
 split at h
 ·cases h
 ·rename_i hl
  split at h
  ·rename_i e' hr
   cases h
   have:=B8 _ _ _ _ hr
   exact⟨by simpa using this.1,this.2.1,this.2.2,by omega⟩
  ·cases h
theorem AF{k:Nat}(h:k<10):fe (bg (48+k))=true:=by
 have:∀k:Fin 10,fe (bg (48+k.val))=true:=by decide
 exact this ⟨k,h⟩
theorem w9:∀(n k:Nat),k<n->(dd k).all fe=true
 |0,k,h=>by omega
 |
  n+1,k,h=>by
  by_cases hk:k<10
  ·rw[eH hk,cZ,AF hk];rfl
  ·rw[fP hk]
   have:=w9 n (k/10) (by omega)
   rw[List.all_append,this,cZ,AF (Nat.mod_lt k (by omega:0<10))];rfl
theorem H6(k:Nat):(E.atom (wT k)).pr:=⟨by simp,by have:=w9 (k+1) k (by omega);simp only[wT,cZ,this];decide⟩
theorem mV:∀v:Vl,v.cL.pr
 | .u=>⟨by simp,by decide⟩
 | .el k=>H6 k
 | .l v=>⟨by simp,⟨by simp,by decide⟩,mV v,trivial⟩
 | .r v=>⟨by simp,⟨by simp,by decide⟩,mV v,trivial⟩
 | .f v=>⟨by simp,⟨by simp,by decide⟩,mV v,trivial⟩
 | .p a b=>⟨by simp,⟨by simp,by decide⟩,mV a,mV b,trivial⟩
theorem pZ:∀v:Vl,v.cL.dp<v.nodes+1
 | .u=>by simp[Vl.cL,E.dp,Vl.nodes]
 | .el k=>by simp[Vl.cL,E.dp,Vl.nodes]
 | .l v=>by have:=pZ v;simp only[Vl.cL,E.dp,E.u4,Vl.nodes]at *;omega
 | .r v=>by have:=pZ v;simp only[Vl.cL,E.dp,E.u4,Vl.nodes]at *;omega
 | .f v=>by have:=pZ v;simp only[Vl.cL,E.dp,E.u4,Vl.nodes]at *;omega
 | .p a b=>by have:=pZ a;have:=pZ b;simp only[Vl.cL,E.dp,E.u4,Vl.nodes]at *;omega
theorem C4(k:Nat)(h:k<100):(dd k).length<=2:=by
 by_cases hk:k<10
 ·rw[eH hk];simp
 ·rw[fP hk,eH (by omega:k/10<10)];simp
theorem k9:∀v:Vl,v.gR 100->v.cC.length<=5*v.nodes
 | .u,_=>by simp[Vl.cC,Vl.cL,e9,Vl.nodes]
 |
  .el k,h=>by
  have:=C4 k h
  simp only[Vl.cC,Vl.cL,e9,Vl.nodes,az];omega
 | .l v,h=>by have:=k9 v h;simp only[Vl.cC,Vl.cL,e9,ei,Vl.nodes,az,aq,aG]at this |-;omega
 | .r v,h=>by have:=k9 v h;simp only[Vl.cC,Vl.cL,e9,ei,Vl.nodes,az,aq,aG]at this |-;omega
 | .f v,h=>by have:=k9 v h;simp only[Vl.cC,Vl.cL,e9,ei,Vl.nodes,az,aq,aG]at this |-;omega
 | .p a b,h=>by have:=k9 a h.1;have:=k9 b h.2;simp only[Vl.cC,Vl.cL,e9,ei,Vl.nodes,az,aq,aG]at *;omega
theorem GN(k:Nat):wT k≠[117]:=by simp[wT]
theorem ki:∀v:Vl,v.gR 100->fM v.cL=some v
 | .u,_=>by simp[Vl.cL,fM]
 | .el k,h=>by simp only[Vl.cL,fM,GN,if_false,wj k h]
 | .l v,h=>by simp only[Vl.cL,fM,ki v h,E.at];simp
 | .r v,h=>by simp only[Vl.cL,fM,ki v h,E.at];simp
 | .f v,h=>by simp only[Vl.cL,fM,ki v h,E.at];simp
 | .p a b,h=>by simp only[Vl.cL,fM,ki a h.1,ki b h.2,E.at];simp
theorem qI{v:Vl}(h:v.gR 100)(hn:v.nodes<=200):sw v.cC=some v:=by
 have hd:=pZ v
 have hl:=k9 v h
 rw[sw,FZ (mV v) (by omega) (by show v.cC.length<=8000;omega)]
 simp only[ki v h]
 rw[if_neg (by omega)]
theorem tP{v w:Vl}(h:v.gR 100)(h':w.gR 100)(ht:v.cC=w.cC):v=w:=by
 have:=BP (mV v) (mV w) ht
 have a:=ki v h
 rw[this,ki w h']at a;cases a;rfl
theorem qO{s:List UInt8}{v:Vl}(h:sw s=some v):s=v.cC:=(xS (lI h).1).1
end Go.Proofs.Trees
namespace Go.Proofs.Trees
open Go Go.VL Go.RowKit
theorem bK(l:List E):(E.list l).at=[]:=rfl
def cX:Ty->Vl->Vl->Vl
 | .plus a _,.l c,v=>.l (cX a c v)
 | .plus _ b,.r c,v=>.r (cX b c v)
 | .times a _,.l (.p x y),v=>.p (cX a x v) y
 | .times _ b,.r (.p x y),v=>.p x (cX b y v)
 | .rc a,.f (.l x),v=>.f (cX a x v)
 | .rc a,.f (.r (.p x y)),v=>.f (cX a x (cX (.rc a) y v))
 |_,_,v=>v
def dL:Ty->Vl->Bool
 | .plus a _,.l c=>dL a c
 | .plus _ b,.r c=>dL b c
 | .times a _,.l (.p x _)=>dL a x
 | .times _ b,.r (.p _ y)=>dL b y
 | .rc a,.f (.l x)=>dL a x
 | .rc a,.f (.r (.p x y))=>dL a x&&dL (.rc a) y
 | .plus _ _,_=>false
 | .times _ _,_=>false
 | .rc _,_=>false
 |_,_=>true
theorem sO(c v:Vl):cX .zero c v=v:=by cases c<;>rfl
theorem vm(c v:Vl):cX .one c v=v:=by cases c<;>rfl
theorem kZ(s:List UInt8)(c v:Vl):cX (.name s) c v=v:=by cases c<;>rfl
theorem rH(u:Nat)(c v:Vl):cX (.bound u) c v=v:=by cases c<;>rfl
theorem vN{a b:Ty}{c:Vl}(h:dL (.plus a b) c=true):(∃x,c=.l x/\dL a x=true)\/∃x,c=.r x/\dL b x=true:=by
 cases c<;>simp[dL]at h<;>simp[h]
theorem tz{a b:Ty}{c:Vl}(h:dL (.times a b) c=true):(∃x y,c=.l (.p x y)/\dL a x=true)\/∃x y,c=.r (.p x y)/\dL b y=true:=by
 cases c with
 |l c=>cases c<;>simp[dL]at h<;>simp[h]
 |r c=>cases c<;>simp[dL]at h<;>exact .inr ⟨_,_,rfl,h⟩
 |_=>simp[dL]at h
theorem AG{a:Ty}{c:Vl}(h:dL (.rc a) c=true):(∃x,c=.f (.l x)/\dL a x=true)\/∃x y,c=.f (.r (.p x y))/\dL a x=true/\dL (.rc a) y=true:=by
 cases c with
 |
  f c =>
  cases c with
  |l c=>simp[dL]at h;simp[h]
  |r c=>cases c<;>simp[dL]at h<;>exact .inr ⟨_,_,rfl,h⟩
  |_=>simp[dL]at h
 |_=>simp[dL]at h
theorem rr(t:Ty)(c v:Vl):(cX t c v).nodes<=c.nodes+v.nodes:=by
 induction t,c,v using cX.induct<;>simp only[cX,Vl.nodes]at*<;> omega
theorem rI(m:Nat)(t:Ty)(c v:Vl):c.gR m->v.gR m->(cX t c v).gR m:=by
 induction t,c,v using cX.induct with
 |case1 a b c v ih=>exact fun h h'=>ih h h'
 |case2 a b c v ih=>exact fun h h'=>ih h h'
 |case3 a b x y v ih=>exact fun h h'=>⟨ih h.1 h',h.2⟩
 |case4 a b x y v ih=>exact fun h h'=>⟨h.1,ih h.2 h'⟩
 |case5 a x v ih=>exact fun h h'=>ih h h'
 |case6 a x y v ih1 ih2=>exact fun h h'=>ih2 h.1 (ih1 h.2 h')
 |case7=>intro h h';simpa only[cX]using h'
def IP:Hl:=(.u,.u)
end Go.Proofs.Trees
namespace Go.Proofs.Trees
open Go Go.VL Go.RowKit
theorem n8(s:Nm)(a b:E):an Tryz.prog 86 [.agg [.v (.string (mk [])),(E.list [.atom s,a,b]).sp]] [] (bJ (.v (.string (mk s)))):=u6 (.atom s) [a,b]
theorem DV{e:E}(h:Wf e):∀(bd l:List Nm) (a:AV),cG a bd->bd.length+l.length+e.sz<100000->an Tryz.prog 84 [.agg [.v (.string (mk e.at)),e.sp],a,.vec 0] [.vec 1 (bL l)] (dh (.vec 1) [.dead,.vec 1 (bL (kp e bd l))]):=by
 induction h with
 |
  @atom s hs =>
  intro bd l a ha hl
  simp only[E.sz]at hl
  refine Aq _ _ _ _ ((aX _).mpr trivial) ha.1 ?_
  have hll:(bL l).length=l.length:=by simp[bL]
  simp only[Iv,dS,↓zq,zs,ae,zt,dh,kp]
  refine⟨fun _=>⟨fun h=>?_,fun h=>⟨fun h1=>?_,fun h1=>?_⟩⟩,fun h=>absurd h hs⟩
  ·rw[if_pos (.inl h)]
  ·rw[if_pos (.inr (.inl h1))]
  ·refine aj (wY bd a ha s (by omega)) ?_
   simp only[↓zq,zs,ae]
   refine⟨fun h2=>?_,fun h2=>aj (wY l _ (.of l) s (by omega)) ?_⟩
   ·rw[if_pos (.inr (.inr (.inl h2)))]
   ·simp only[↓zq,zs,ae]
    refine⟨fun h3=>?_,fun h3=>⟨⟨fun c hc=>(by simp at hc;rw[hc];rfl),by omega⟩,?_⟩⟩
    ·rw[if_pos (.inr (.inr (.inr h3)))]
    ·rw[Ht,if_neg]
     rintro(q|q|q|q)
     ·exact h q
     ·exact h1 q
     ·exact h2 q
     ·exact h3 q
 |
  @plus x y hx hy i1 i2 =>
  intro bd l a ha hl
  simp only[E.sz,E.jo]at hl
  have hfl:=fX x bd l
  refine Aq _ _ _ _ ((aX _).mpr trivial) ha.1 ?_
  have hP:=P3.of (.atom [43]) x y
  simp only[Iv,bK,toNat_one,bf,↓zq,zs,ae,zt,hP.1,hP.2.1,hP.2.2.1,hP.2.2.2,aK,dh]
  refine⟨fun h=>absurd rfl h,fun _=>?_⟩
  refine aj (n8 [43] x y) ?_
  simp only[↓zq,zs,ae,zt]
  refine⟨fun h=>by simp at h,fun _=>?_⟩
  repeat refine⟨by omega,?_⟩
  refine aW (i1 bd l a ha (by omega)) ?_
  simp only[↓zq,zs,ae,zt,aO,bz,Ob.es]
  repeat refine⟨by omega,?_⟩
  refine aW (i2 bd (kp x bd l) a ha (by omega)) ?_
  simp only[↓zq,zs,ae,zt,aO,bz,Ob.es]
  rw[kp,if_neg (by decide)]
 |
  @times x y hx hy i1 i2 =>
  intro bd l a ha hl
  simp only[E.sz,E.jo]at hl
  have hfl:=fX x bd l
  refine Aq _ _ _ _ ((aX _).mpr trivial) ha.1 ?_
  have hP:=P3.of (.atom [42]) x y
  simp only[Iv,bK,toNat_one,bf,↓zq,zs,ae,zt,hP.1,hP.2.1,hP.2.2.1,hP.2.2.2,aK,dh]
  refine⟨fun h=>absurd rfl h,fun _=>?_⟩
  refine aj (n8 [42] x y) ?_
  simp only[↓zq,zs,ae,zt]
  refine⟨fun h=>by simp at h,fun _=>?_⟩
  repeat refine⟨by omega,?_⟩
  refine aW (i1 bd l a ha (by omega)) ?_
  simp only[↓zq,zs,ae,zt,aO,bz,Ob.es]
  repeat refine⟨by omega,?_⟩
  refine aW (i2 bd (kp x bd l) a ha (by omega)) ?_
  simp only[↓zq,zs,ae,zt,aO,bz,Ob.es]
  rw[kp,if_neg (by decide)]
 |
  @rc n y hn hy i =>
  intro bd l a ha hl
  simp only[E.sz,E.jo]at hl
  refine Aq _ _ _ _ ((aX _).mpr trivial) ha.1 ?_
  have hP:=P3.of (.atom dF) (.atom n) y
  simp only[Iv,bK,toNat_one,bf,↓zq,zs,ae,zt,hP.1,hP.2.1,hP.2.2.1,hP.2.2.2,aK,dh]
  refine⟨fun h=>absurd rfl h,fun _=>?_⟩
  refine aj (n8 dF (.atom n) y) ?_
  simp only[↓zq,zs,ae,zt]
  refine⟨fun _=>?_,fun h=>absurd rfl h⟩
  repeat refine⟨by omega,?_⟩
  refine aW (w6 bd a ha n (by omega)) ?_
  simp only[↓zq,zs,ae,Ob.es,aO]
  refine⟨fy _,?_⟩
  refine aW (i (bd++[n]) l _ (.of _) (by simp;omega)) ?_
  simp only[↓zq,zs,ae,aO,bz,Ob.es]
  rw[kp,if_pos (dS _)];rfl
theorem Pt(x:Nm)(u:E){e:E}(h:Wf e):an Tryz.prog 146 [.agg [.v (.string (mk e.at)),e.sp],.v (.string (mk x)),.agg [.v (.string (mk u.at)),u.sp]] [] (bJ (.agg [.v (.string (mk (rb x u e).at)),(rb x u e).sp])):=by
 induction h with
 |
  @atom s hs =>
  refine DE _ _ _ _ _ ((aX _).mpr trivial) ((aX _).mpr trivial) ?_
  simp only[BM,dS,↓zq,zs,ae,zt,bJ,rb]
  refine⟨fun _=>⟨fun h=>?_,fun h=>?_⟩,fun h=>absurd h hs⟩
  ·rw[if_pos h]
  ·rw[if_neg h];rfl
 |
  @plus a b ha hb i1 i2 =>
  refine DE _ _ _ _ _ ((aX _).mpr trivial) ((aX _).mpr trivial) ?_
  have hP:=P3.of (.atom [43]) a b
  simp only[BM,bK,toNat_one,bf,↓zq,zs,ae,zt,hP.1,hP.2.1,hP.2.2.1,hP.2.2.2,aK]
  refine⟨fun h=>absurd rfl h,fun _=>?_⟩
  refine aj (n8 [43] a b) ?_
  simp only[↓zq,zs,ae,zt]
  refine⟨fun h=>by simp at h,fun _=>?_⟩
  refine aj (n8 [43] a b) ?_
  simp only[↓zq,zs,ae,zt]
  repeat refine⟨by omega,?_⟩
  refine aj i1 ?_
  simp only[↓zq,zs,ae,zt,aK]
  repeat refine⟨by omega,?_⟩
  refine aj i2 ?_
  simp only[↓zq,zs,ae,zt,aK]
  repeat refine⟨by omega,?_⟩
  refine aj (wJ _ _ _) ?_
  simp only[↓zq,zs,ae,zt,aK,vS,bK]
  repeat refine⟨by omega,?_⟩
  exact⟨rfl,rfl⟩
 |
  @times a b ha hb i1 i2 =>
  refine DE _ _ _ _ _ ((aX _).mpr trivial) ((aX _).mpr trivial) ?_
  have hP:=P3.of (.atom [42]) a b
  simp only[BM,bK,toNat_one,bf,↓zq,zs,ae,zt,hP.1,hP.2.1,hP.2.2.1,hP.2.2.2,aK]
  refine⟨fun h=>absurd rfl h,fun _=>?_⟩
  refine aj (n8 [42] a b) ?_
  simp only[↓zq,zs,ae,zt]
  refine⟨fun h=>by simp at h,fun _=>?_⟩
  refine aj (n8 [42] a b) ?_
  simp only[↓zq,zs,ae,zt]
  repeat refine⟨by omega,?_⟩
  refine aj i1 ?_
  simp only[↓zq,zs,ae,zt,aK]
  repeat refine⟨by omega,?_⟩
  refine aj i2 ?_
  simp only[↓zq,zs,ae,zt,aK]
  repeat refine⟨by omega,?_⟩
  refine aj (wJ _ _ _) ?_
  simp only[↓zq,zs,ae,zt,aK,sI,bK]
  repeat refine⟨by omega,?_⟩
  exact⟨rfl,rfl⟩
 |
  @rc n b hn hb i =>
  refine DE _ _ _ _ _ ((aX _).mpr trivial) ((aX _).mpr trivial) ?_
  have hP:=P3.of (.atom dF) (.atom n) b
  simp only[BM,bK,toNat_one,bf,↓zq,zs,ae,zt,hP.1,hP.2.1,hP.2.2.1,hP.2.2.2,aK]
  refine⟨fun h=>absurd rfl h,fun _=>?_⟩
  refine aj (n8 dF (.atom n) b) ?_
  simp only[↓zq,zs,ae,zt]
  refine⟨fun _=>?_,fun h=>absurd rfl h⟩
  repeat refine⟨by omega,?_⟩
  rw[Ce]
  refine⟨fun h=>?_,fun h=>?_⟩
  ·have hh:n=x:=h
   rw[if_pos hh];exact⟨rfl,rfl⟩
  ·have hh:¬n=x:=h
   rw[if_neg hh]
   repeat refine⟨by omega,?_⟩
   refine aj i ?_
   simp only[↓zq,zs,ae,zt,aK]
   repeat refine⟨by omega,?_⟩
   refine aj (wJ dF (.atom n) (rb x u b)) ?_
   simp only[↓zq,zs,ae,zt,aK,bK]
   repeat refine⟨by omega,?_⟩
   exact⟨rfl,rfl⟩
theorem se(x:Nm){e:E}(h:Wf e):nu x e<=e.db:=by
 induction h with
 |atom hs=>simp only[nu,E.db];split<;>omega
 |plus ha hb i1 i2=>rw[sr];simp only[E.db,E.eV];omega
 |times ha hb i1 i2=>rw[pR];simp only[E.db,E.eV];omega
 |rc hn hb i=>rw[xq];simp only[E.db,E.eV];split<;>omega
theorem PA(x:Nm){e:E}(h:Wf e):e.db<1000000->an Tryz.prog 145 [.agg [.v (.string (mk e.at)),e.sp],.v (.string (mk x))] [] (bJ (.v (.int .i64 (nu x e:Int)))):=by
 induction h with
 |
  @atom s hs =>
  intro hl
  refine DC _ _ _ ((aX _).mpr trivial) ?_
  simp only[A1,dS,↓zq,zs,ae,zt,bJ,nu]
  refine⟨fun _=>⟨fun h=>?_,fun h=>?_⟩,fun h=>absurd h hs⟩
  ·rw[if_pos h];rfl
  ·rw[if_neg h];rfl
 |
  @plus a b ha hb i1 i2 =>
  intro hl
  simp only[E.db,E.eV]at hl
  have u1:=se x ha
  have u2:=se x hb
  refine DC _ _ _ ((aX _).mpr trivial) ?_
  have hP:=P3.of (.atom [43]) a b
  simp only[A1,bK,toNat_one,bf,↓zq,zs,ae,zt,hP.1,hP.2.1,hP.2.2.1,hP.2.2.2,aK]
  refine⟨fun h=>absurd rfl h,fun _=>?_⟩
  refine aj (n8 [43] a b) ?_
  simp only[↓zq,zs,ae,zt]
  refine⟨fun h=>by simp at h,fun _=>?_⟩
  repeat refine⟨by omega,?_⟩
  refine aj (i1 (by omega)) ?_
  simp only[↓zq,zs,ae,zt]
  repeat refine⟨by omega,?_⟩
  refine aj (i2 (by omega)) ?_
  simp only[↓zq,zs,ae,zt]
  rw[sr,wrap64 _ (by omega) (by omega)]
  exact⟨by simp,rfl⟩
 |
  @times a b ha hb i1 i2 =>
  intro hl
  simp only[E.db,E.eV]at hl
  have u1:=se x ha
  have u2:=se x hb
  refine DC _ _ _ ((aX _).mpr trivial) ?_
  have hP:=P3.of (.atom [42]) a b
  simp only[A1,bK,toNat_one,bf,↓zq,zs,ae,zt,hP.1,hP.2.1,hP.2.2.1,hP.2.2.2,aK]
  refine⟨fun h=>absurd rfl h,fun _=>?_⟩
  refine aj (n8 [42] a b) ?_
  simp only[↓zq,zs,ae,zt]
  refine⟨fun h=>by simp at h,fun _=>?_⟩
  repeat refine⟨by omega,?_⟩
  refine aj (i1 (by omega)) ?_
  simp only[↓zq,zs,ae,zt]
  repeat refine⟨by omega,?_⟩
  refine aj (i2 (by omega)) ?_
  simp only[↓zq,zs,ae,zt]
  rw[pR,wrap64 _ (by omega) (by omega)]
  exact⟨by simp,rfl⟩
 |
  @rc n b hn hb i =>
  intro hl
  simp only[E.db,E.eV]at hl
  refine DC _ _ _ ((aX _).mpr trivial) ?_
  have hP:=P3.of (.atom dF) (.atom n) b
  simp only[A1,bK,toNat_one,bf,↓zq,zs,ae,zt,hP.1,hP.2.1,hP.2.2.1,hP.2.2.2,aK]
  refine⟨fun h=>absurd rfl h,fun _=>?_⟩
  refine aj (n8 dF (.atom n) b) ?_
  simp only[↓zq,zs,ae,zt]
  refine⟨fun _=>?_,fun h=>absurd rfl h⟩
  repeat refine⟨by omega,?_⟩
  rw[xq]
  refine⟨fun h=>?_,fun h=>?_⟩
  ·have hh:n=x:=h
   rw[if_pos hh];exact⟨rfl,rfl⟩
  ·have hh:¬n=x:=h
   rw[if_neg hh]
   repeat refine⟨by omega,?_⟩
   refine aj (i (by omega)) ?_
   simp only[↓zq,zs,ae,zt]
   exact⟨rfl,rfl⟩
theorem Oz{x:Nm}(hx:qU x){e u:E}(h:Wf e)(hu:Wf u)(hl:e.db<=1000)(hlu:u.db<=1000):an Tryz.prog 120 [.agg [.v (.string (mk e.at)),e.sp],.v (.string (mk x)),.agg [.v (.string (mk u.at)),u.sp]] [] (bJ (.v (.bool (decide ((sub x (cS u []) (cS e [])).atoms<=400))))):=by
 refine R9 _ _ _ _ _ ((aX _).mpr trivial) ((aX _).mpr trivial) ?_
 unfold IU
 have a1:=CS e h.ok (by have:=h.sz;omega)
 have a2:=CS u hu.ok (by have:=hu.sz;omega)
 rw[dk]at a1 a2
 have hle:=se x h
 have hpos:1<=u.db:=by rw[hu.db []];exact ej _
 refine aj a1 ?_
 simp only[↓zq,zs,ae,zt]
 refine aj (PA x h (by omega)) ?_
 simp only[↓zq,zs,ae,zt]
 refine aj a2 ?_
 simp only[↓zq,zs,ae,zt]
 have e1:=dU x (cS u []) (cS e [])
 have e2:=DX hx h []
 rw[if_neg (by simp)]at e2
 rw[e2,<-h.db [],<-hu.db []]at e1
 have hm:nu x e*(u.db-1)<=1000*1000:=Nat.mul_le_mul (by omega) (by omega)
 have e3:(nu x e:Int)*((u.db:Int)-1)=((nu x e*(u.db-1):Nat):Int):=by
  rw[Int.natCast_mul];congr 1;omega
 have e4:nu x e*(u.db-1)+nu x e=nu x e*u.db:=by
  rw[Nat.mul_sub,dH]
  have:=Nat.le_mul_of_pos_right (nu x e) hpos
  omega
 rw[wrap64 ((u.db:Int)-1) (by omega) (by omega),e3,wrap64 ((nu x e*(u.db-1):Nat):Int) (by omega) (by omega),wrap64 _ (by omega) (by omega)]
 refine⟨?_,rfl⟩
 congr 2
 rw[cx,decide_eq_true_eq,decide_eq_true_eq]
 omega
end Go.Proofs.Trees
namespace Go.Proofs.Trees
open Go Go.VL Go.RowKit
abbrev Au:AV:=.v (.slice none 0 0)
abbrev zE:Ob:=.cells [.v (.string (mk [])),Au]
theorem L7(s:Nm)(p a b:AV)(hp:LK.sl.has p)(F fr to:List Nm)(k:Int)(ha:cG a fr)(hb:cG b to)(hft:fr.length=to.length)(hl:fr.length<1000000):∀(i:Nat),i<=fr.length ->
 GF [a,b,.v (.int .i64 ((i:Int)-1))] [.cells [.v (.string (mk s)),p],zE,.cells [.any,.v (.int .i64 k)],.vec 1 (bL F)]
  (ng (match bO s fr i with|some u=>(2,[],[.cells [.v (.string (mk (gj to u))),Au],.cells [.any,.v (.int .i64 k)],.vec 1 (bL F)])|none=>(1,[],[.cells [.v (.string (mk s)),p],zE,.cells [.any,.v (.int .i64 k)],.vec 1 (bL F)])))
 |
  0,hi=>by
  refine JR _ _ _ _ _ _ _ _ _ ?_
  simp only[Ie,↓zq,zs,ae,ae,hp,bp]
  exact⟨ha.1,hb.1,fun h=>by omega,fun _=>rfl⟩
 |
  i+1,hi=>by
  have hlt:i<fr.length:=by omega
  have hlt':i<to.length:=by omega
  have e1:((i+1:Nat):Int)-1=(i:Int):=by omega
  rw[e1]
  refine JR _ _ _ _ _ _ _ _ _ ?_
  simp only[Ie,↓zq,zs,ae,zt,ae,hp,bp,ha.len,hb.len,ha.idx hlt,hb.idx hlt',bF]
  refine⟨ha.1,hb.1,fun _=>⟨⟨ha.1,by omega,by omega⟩,by omega,fun h=>?_,fun h=>?_⟩,fun h=>by omega⟩
  ·refine⟨⟨hb.1,by omega,by omega⟩,by omega,?_⟩
   have hh:fr.getD i []=s:=h
   simp only[bO,hh,if_true,ng]
   have:gj to (fr.length-1-i)=to.getD i []:=by unfold gj;congr 1;omega
   rw[this]
  ·have hh:¬fr.getD i []=s:=h
   simp only[bO,hh,if_false]
   rw[wrap64 _ (by omega) (by omega)]
   exact L7 s p a b hp F fr to k ha hb hft hl i (by omega)
theorem Ot(a b:AV)(ha:LK.sl.has a)(hb:LK.sl.has b)(F:List Nm)(hF:F.length<100000)(t:ByteArray)(p:AV)(hp:LK.sl.has p):∀(n j:Nat),qi F n j<j+n->j+n<100000000 ->
 Hi [a,b,.v (.string (mk (tN j)))] [.cells [.any,.v (.int .i64 (j:Int))],.vec 1 (bL F),.cells [.v (.string t),p],zE] (ib 1 [a,b,.v (.string (mk (tN (qi F n j))))] [.cells [.any,.v (.int .i64 (qi F n j:Int))],.vec 1 (bL F),.cells [.v (.string t),p],zE])
 |0,j,h,_=>by simp only[qi]at h;omega
 |
  n+1,j,h,hj=>by
  refine Rd _ _ _ _ _ _ _ _ _ ?_
  simp only[Lu,↓zq,zs,ae,zt,ae,hp,bp]
  refine⟨ha,hb,?_⟩
  refine aj (wY F _ (.of F) (tN j) (by omega)) ?_
  simp only[↓zq,zs,ae,zt]
  rw[qi]at h |-
  refine⟨fun hm=>?_,fun hm=>?_⟩
  ·rw[if_pos hm]at h |-
   rw[bA j (by omega)]
   refine aj (Ao (j+2) (j+1) (by omega) (by omega)) ?_
   have hd:=mR (j+2) (j+1) (by omega)
   simp only[↓zq,zs,ae,zt,bb,aU]
   refine⟨by simp[cM];omega,?_⟩
   exact Ot a b ha hb F hF t p hp n (j+1) (by omega) (by omega)
  ·rw[if_neg hm]
   exact⟨rfl,rfl,rfl⟩
theorem im(F:List Nm):∀(t:Ty) (to:List Nm) (k:Nat),k<=(gZ F t to k).2/\(gZ F t to k).2<=k+(F.length+1)*t.atoms
 | .zero,_,k=>⟨au _,da _ _⟩
 | .one,_,k=>⟨au _,da _ _⟩
 | .name _,_,k=>⟨au _,da _ _⟩
 | .bound _,_,k=>⟨au _,da _ _⟩
 |
  .plus a b,to,k=>by
  have h1:=im F a to k
  have h2:=im F b to (gZ F a to k).2
  simp only[gZ,Ty.atoms]
  have:(F.length+1)*(1+a.atoms+b.atoms)=(F.length+1)+(F.length+1)*a.atoms+(F.length+1)*b.atoms:=by simp only[cU,dH]
  omega
 |
  .times a b,to,k=>by
  have h1:=im F a to k
  have h2:=im F b to (gZ F a to k).2
  simp only[gZ,Ty.atoms]
  have:(F.length+1)*(1+a.atoms+b.atoms)=(F.length+1)+(F.length+1)*a.atoms+(F.length+1)*b.atoms:=by simp only[cU,dH]
  omega
 |
  .rc a,to,k=>by
  obtain⟨g1,g2,_,_⟩:=gB F k
  have h1:=im F a (to++[tN (nx F k)]) (nx F k+1)
  simp only[gZ,Ty.atoms]
  have:(F.length+1)*(2+a.atoms)=(F.length+1)*2+(F.length+1)*a.atoms:=by simp only[cU]
  omega
theorem mJ(l:List Nm):(bL l).length=l.length:=by simp[bL]
theorem Rp(F:List Nm)(hF:F.length<10000){e:E}(h:Wf e):∀(fr to:List Nm) (a b:AV) (k:Nat),cG a fr->cG b to->fr.length=to.length->(∀w,w∈fr->qU w)->fr.length+e.sz<10000->k+(F.length+1)*(cS e fr).atoms<99000000 ->
 an Tryz.prog 91 [.agg [.v (.string (mk e.at)),e.sp],a,b,.ref 0 0] [.cells [.vec 1,.v (.int .i64 (k:Int))],.vec 1 (bL F)] (dh (.agg [.v (.string (mk (gZ F (cS e fr) to k).1.at)),(gZ F (cS e fr) to k).1.sp]) [.cells [.vec 1,.v (.int .i64 ((gZ F (cS e fr) to k).2:Int))],.vec 1 (bL F)]):=by
 induction h with
 |
  @atom s hs =>
  intro fr to a b k ha hb hft hfr hl hk
  simp only[E.sz]at hl
  refine Dt _ _ _ _ _ _ ((aX _).mpr trivial) ha.1 hb.1 ?_
  have hz:∀c,(c=[48]\/c=[49])->bO c fr fr.length=none:=fun c hc=>(fC c fr).2 fun hm=>by
   obtain⟨h1,h2,h3⟩:=hfr c hm
   rcases hc with rfl|rfl
   ·exact h2 rfl
   ·exact h3 rfl
  have hq:gZ F (cS (.atom s) fr) to k=(match bO s fr fr.length with|some u=>.atom (gj to u)|none=>.atom s,k):=by
   simp only[cS]
   by_cases h0:s=[48]
   ·rw[if_pos h0,hz s (.inl h0),h0];rfl
   ·rw[if_neg h0]
    by_cases h1:s=[49]
    ·rw[if_pos h1,hz s (.inr h1),h1];rfl
    ·rw[if_neg h1]
     cases bO s fr fr.length<;>rfl
  simp only[Bh,dS,↓zq,zs,ae,zt]
  refine⟨fun _=>⟨ha.1,?_⟩,fun h=>absurd h hs⟩
  rw[ha.len,wrap64 _ (by omega) (by omega)]
  refine eN (L7 s _ a b ((aX _).mpr trivial) F fr to (k:Int) ha hb hft (by omega) fr.length (au _)) (fun ys o e=>?_) (fun ys o e=>?_)
  ·rw[hq]
   cases q:bO s fr fr.length<;>rw[q]at e<;>cases e
   simp only[↓zq,zs,ae,zt,ae,aL,bp,aX]
   exact⟨rfl,rfl⟩
  ·rw[hq]
   cases q:bO s fr fr.length<;>rw[q]at e<;>cases e
   simp only[↓zq,zs,ae,zt,ae,aL,bp]
   exact⟨rfl,rfl⟩
 |
  @plus x y hx hy i1 i2 =>
  intro fr to a b k ha hb hft hfr hl hk
  simp only[E.sz,E.jo]at hl
  rw[dM]at hk |-
  simp only[Ty.atoms]at hk
  have hm:(F.length+1)*(1+(cS x fr).atoms+(cS y fr).atoms)=(F.length+1)+(F.length+1)*(cS x fr).atoms+(F.length+1)*(cS y fr).atoms:=by simp only[cU,dH]
  have hc:=im F (cS x fr) to k
  refine Dt _ _ _ _ _ _ ((aX _).mpr trivial) ha.1 hb.1 ?_
  have hP:=P3.of (.atom [43]) x y
  simp only[Bh,bK,toNat_one,bf,↓zq,zs,ae,zt,hP.1,hP.2.1,hP.2.2.1,hP.2.2.2,aK]
  refine⟨fun h=>absurd rfl h,fun _=>?_⟩
  refine aj (n8 [43] x y) ?_
  simp only[↓zq,zs,ae,zt]
  refine⟨fun h=>by simp at h,fun _=>?_⟩
  repeat refine⟨by omega,?_⟩
  refine aW (i1 fr to a b k ha hb hft hfr (by omega) (by omega)) ?_
  simp only[↓zq,zs,ae,zt,aL,aK,aO,bz,Ob.es]
  repeat refine⟨by omega,?_⟩
  refine aj (n8 [43] x y) ?_
  simp only[↓zq,zs,ae,zt]
  repeat refine⟨by omega,?_⟩
  refine aW (i2 fr to a b _ ha hb hft hfr (by omega) (by omega)) ?_
  simp only[↓zq,zs,ae,zt,aL,aK,aO,bz,Ob.es]
  repeat refine⟨by omega,?_⟩
  refine aj (wJ _ _ _) ?_
  simp only[↓zq,zs,ae,zt,aK,bK]
  repeat refine⟨by omega,?_⟩
  exact⟨rfl,rfl⟩
 |
  @times x y hx hy i1 i2 =>
  intro fr to a b k ha hb hft hfr hl hk
  simp only[E.sz,E.jo]at hl
  rw[dw]at hk |-
  simp only[Ty.atoms]at hk
  have hm:(F.length+1)*(1+(cS x fr).atoms+(cS y fr).atoms)=(F.length+1)+(F.length+1)*(cS x fr).atoms+(F.length+1)*(cS y fr).atoms:=by simp only[cU,dH]
  have hc:=im F (cS x fr) to k
  refine Dt _ _ _ _ _ _ ((aX _).mpr trivial) ha.1 hb.1 ?_
  have hP:=P3.of (.atom [42]) x y
  simp only[Bh,bK,toNat_one,bf,↓zq,zs,ae,zt,hP.1,hP.2.1,hP.2.2.1,hP.2.2.2,aK]
  refine⟨fun h=>absurd rfl h,fun _=>?_⟩
  refine aj (n8 [42] x y) ?_
  simp only[↓zq,zs,ae,zt]
  refine⟨fun h=>by simp at h,fun _=>?_⟩
  repeat refine⟨by omega,?_⟩
  refine aW (i1 fr to a b k ha hb hft hfr (by omega) (by omega)) ?_
  simp only[↓zq,zs,ae,zt,aL,aK,aO,bz,Ob.es]
  repeat refine⟨by omega,?_⟩
  refine aj (n8 [42] x y) ?_
  simp only[↓zq,zs,ae,zt]
  repeat refine⟨by omega,?_⟩
  refine aW (i2 fr to a b _ ha hb hft hfr (by omega) (by omega)) ?_
  simp only[↓zq,zs,ae,zt,aL,aK,aO,bz,Ob.es]
  repeat refine⟨by omega,?_⟩
  refine aj (wJ _ _ _) ?_
  simp only[↓zq,zs,ae,zt,aK,bK]
  repeat refine⟨by omega,?_⟩
  exact⟨rfl,rfl⟩
 |
  @rc n y hn hy i =>
  intro fr to a b k ha hb hft hfr hl hk
  simp only[E.sz,E.jo]at hl
  rw[fk]at hk |-
  simp only[Ty.atoms,dS]at hk
  have hm:(F.length+1)*(2+(cS y (fr++[n])).atoms)=(F.length+1)*2+(F.length+1)*(cS y (fr++[n])).atoms:=by simp only[cU]
  have hc:=im F (cS y (fr++[n])) (to++[tN (nx F k)]) (nx F k+1)
  obtain⟨g1,g2,_,_⟩:=gB F k
  refine Dt _ _ _ _ _ _ ((aX _).mpr trivial) ha.1 hb.1 ?_
  have hP:=P3.of (.atom dF) (.atom n) y
  simp only[Bh,bK,toNat_one,bf,↓zq,zs,ae,zt,hP.1,hP.2.1,hP.2.2.1,hP.2.2.2,aK]
  refine⟨fun h=>absurd rfl h,fun _=>?_⟩
  refine aj (n8 dF (.atom n) y) ?_
  simp only[↓zq,zs,ae,zt]
  refine⟨fun _=>?_,fun h=>absurd rfl h⟩
  refine aj (Ao (k+1) k (by omega) (by omega)) ?_
  have hd:=mR (k+1) k (by omega)
  simp only[↓zq,zs,ae,zt,bb,aU]
  refine⟨by simp[cM];omega,?_⟩
  refine cD (Ot a b ha.1 hb.1 F (by omega) (mk []) _ ((aX _).mpr trivial) (F.length+1) k (by show nx F k<_;omega) (by omega)) ?_
  simp only[↓zq,zs,ae,zt,ae,aL,bp,aX,ha.1,hb.1,hP.1,hP.2.1,hP.2.2.1,hP.2.2.2,toNat_one,bf,aK]
  repeat refine⟨by omega,?_⟩
  have hnx:qi F (F.length+1) k=nx F k:=rfl
  rw[hnx]
  refine aW (w6 fr a ha n (by omega)) ?_
  simp only[↓zq,zs,ae,zt,Ob.es,aO]
  refine⟨fy _,?_⟩
  refine aW (w6 to b hb (tN (nx F k)) (by omega)) ?_
  simp only[↓zq,zs,ae,zt,Ob.es,aO]
  refine⟨fy _,?_⟩
  rw[bA (nx F k) (by omega)]
  have hmk:=wJ dF (.atom (tN (nx F k))) (gZ F (cS y (fr++[n])) (to++[tN (nx F k)]) (nx F k+1)).1
  simp only[dS]at hmk
  refine aW (i (fr++[n]) (to++[tN (nx F k)]) _ _ (nx F k+1) (.of _) (.of _) (by simp[hft]) (fun w hw=>by
   rcases aM.1 hw with hw|hw
   ·exact hfr w hw
   ·simp only[aQ]at hw;rw[hw];exact hn) (by simp;omega) (by omega)) ?_
  simp only[↓zq,zs,ae,zt,aL,aK,aO,bz,Ob.es]
  repeat refine⟨by omega,?_⟩
  refine aj hmk ?_
  simp only[↓zq,zs,ae,zt,aK,bK]
  repeat refine⟨by omega,?_⟩
  exact⟨rfl,rfl⟩
theorem wU(l r:List Nm):bL (l++r)=bL l++bL r:=by simp[bL]
def rU(os:List E):List Nm:=os.flatMap fun o=>kp o [] []
theorem vI{os:List E}{i:Nat}(h:i<os.length):(E.bw os).getD i []=[.v (.string (mk (os[i]).at)),(os[i]).sp]:=by
 have:∀(os:List E) (i:Nat) (h:i<os.length),(E.bw os).getD i []=(os[i]).ik:=by
  intro os
  induction os with
  |nil=>intro i h;simp at h
  |
   cons o os ih =>
   intro i h
   cases i with
   |zero=>simp[E.bw]
   |succ i=>simpa[E.bw]using ih i (by simpa using h)
 rw[this os i h,fJ]
theorem Ab(os:List E){i:Nat}(h:i<os.length):rU (os.drop i)=kp (os[i]) [] []++rU (os.drop (i+1)):=by
 unfold rU;rw[aT h,List.flatMap_cons]
theorem Oq(a:AV)(os:List E)(ha:LK.sl.has a/\a.elems=E.bw os)(ho:∀o,o∈os->Wf o/\o.sz<5000)(hl:os.length<100)(t:ByteArray)(p:AV)(hp:LK.sl.has p):∀(k i:Nat) (F:List Nm),i+k=os.length->F.length<=5000+5000*i ->
 HT [a,.v (.int .i64 (i:Int))] [.cells [.v (.string t),p],zE,.vec 1 (bL F)] (ib 1 [] [.cells [.v (.string t),p],zE,.vec 1 (bL (F++rU (os.drop i)))])
 |
  0,i,F,hi,hF=>by
  refine OA _ _ _ _ _ _ _ ?_
  have:i=os.length:=by omega
  subst this
  simp only[FM,↓zq,zs,ae,zt,ae,hp,bp,ha.1,ha.2,ef,List.drop_length]
  exact⟨fun h=>by omega,fun _=>by simp[ib,rU]⟩
 |
  k+1,i,F,hi,hF=>by
  have hlt:i<os.length:=by omega
  obtain⟨hw,hsz⟩:=ho _ (bH hlt)
  have hfl:=fX (os[i]) [] []
  refine OA _ _ _ _ _ _ _ ?_
  simp only[FM,↓zq,zs,ae,zt,ae,hp,bp,ha.1,ha.2,ef,vI hlt,aK,bF]
  refine⟨fun _=>?_,fun h=>by omega⟩
  repeat refine⟨by omega,?_⟩
  have hfre:=DV hw [] [] (.sl []) (.of []) (by simp;omega)
  refine aW hfre ?_
  simp only[↓zq,zs,ae,zt,aO,bz,Ob.es,mJ,<-wU]
  rw[bA i (by omega),Ab os hlt,<-a6]
  simp only[aG,aV]at hfl
  refine⟨⟨kh _,by omega⟩,?_⟩
  exact Oq a os ha ho hl t p hp k (i+1) _ (by omega) (by simp;omega)
def AA(e:E)(os:List E):List Nm:=kp e [] []++rU os
def Aa(e:E)(os:List E):E:=(gZ (AA e os) (cS e []) [] 0).1
theorem CO{e:E}{os:List E}(h:e.sz<=2000)(ho:∀o,o∈os->Wf o/\o.sz<=2000)(hl:os.length<=2):(AA e os).length<=6000:=by
 have h1:=fX e [] []
 have h2:∀(l:List E),(∀o,o∈l->o.sz<=2000)->(rU l).length<=2000*l.length:=by
  intro l
  induction l with
  |nil=>intro _;simp[rU]
  |
   cons o l ih =>
   intro hl
   have:=ih fun q hq=>hl q (al _ hq)
   have:=hl o ak
   have:=fX o [] []
   simp only[rU,List.flatMap_cons,aq,az,aG]at *
   omega
 have:=h2 os fun o ho'=>(ho o ho').2
 simp only[AA,aq,aG]at *
 omega
theorem Dn{e:E}(h:Wf e)(a:AV)(os:List E)(ha:LK.sl.has a/\a.elems=E.bw os)(he:e.sz<=2000)(ho:∀o,o∈os->Wf o/\o.sz<=2000)(hl:os.length<=2) :
 an Tryz.prog 65 [.agg [.v (.string (mk e.at)),e.sp],a] [] (bJ (.agg [.v (.string (mk (Aa e os).at)),(Aa e os).sp])):=by
 refine QT _ _ _ ((aX _).mpr trivial) ha.1 ?_
 unfold Ja
 have hfl:=fX e [] []
 simp only[aG,aV]at hfl
 have hap:=CO he ho hl
 have hats:(cS e []).atoms<=2000:=by
  rw[<-h.db []]
  have:e.db<=e.sz:=by
   clear hap hfl ha he ho hl
   induction h with
   |atom _=>simp[E.db,E.sz]
   |plus _ _ i1 i2=>simp only[E.db,E.eV,E.sz,E.jo];omega
   |times _ _ i1 i2=>simp only[E.db,E.eV,E.sz,E.jo];omega
   |rc _ _ i=>simp only[E.db,E.eV,E.sz,E.jo];omega
  omega
 have hfre:=DV h [] [] (.sl []) (.of []) (by simp;omega)
 simp only[↓zq,zs,ae,zt]
 refine aW hfre ?_
 simp only[↓zq,zs,ae,zt,aO,bz,Ob.es]
 have hlp:=Oq a os ha (fun o hq=>⟨(ho o hq).1,by have:=(ho o hq).2;omega⟩) (by omega) (mk e.at) e.sp ((aX _).mpr trivial) os.length 0 (kp e [] []) (by omega) (by omega)
 rw[bc]at hlp
 refine cD hlp ?_
 simp only[↓zq,zs,ae,zt,ae,aL,bp,aX,aO,bz,Ob.es]
 have hmul:((AA e os).length+1)*(cS e []).atoms<=6001*2000:=Nat.mul_le_mul (by omega) hats
 have hren:=Rp (AA e os) (by omega) h [] [] (.sl []) (.sl []) 0 (.of []) (.of []) rfl (fun w hw=>by cases hw) (by simp;omega) (by omega)
 refine aW hren ?_
 simp only[↓zq,zs,ae,zt,aL,aK]
 repeat refine⟨by omega,?_⟩
 exact⟨rfl,rfl⟩
end Go.Proofs.Trees
namespace Go.Proofs.Trees
open Go Go.VL Go.RowKit
def fW(t:Ty):Prop:=jy t 0/\∀y,bj y t=true->qU y
theorem gv:∀(t:Ty) {i j:Nat},jy t i->i<=j->jy t j
 | .bound u,i,j,h,hj=>Nat.lt_of_lt_of_le h hj
 | .plus a b,i,j,h,hj=>⟨gv a h.1 hj,gv b h.2 hj⟩
 | .times a b,i,j,h,hj=>⟨gv a h.1 hj,gv b h.2 hj⟩
 | .rc a,i,j,h,hj=>gv (i:=i+1) (j:=j+1) a h (by omega)
 | .zero,_,_,_,_=>trivial
 | .one,_,_,_,_=>trivial
 | .name _,_,_,_,_=>trivial
theorem gI(x:Nm):∀(t:Ty) {i:Nat},jy t (i+1)->jy (dB (.name x) t i) i
 |
  .bound u,i,h=>by
  simp only[dB]
  split
  ·trivial
  ·have:u<i+1:=h
   show u<i;omega
 | .plus a b,i,h=>⟨gI x a h.1,gI x b h.2⟩
 | .times a b,i,h=>⟨gI x a h.1,gI x b h.2⟩
 | .rc a,i,h=>gI x (i:=i+1) a h
 | .zero,_,_=>trivial
 | .one,_,_=>trivial
 | .name _,_,_=>trivial
theorem kB{x:Nm}{u:Ty}(hu:jy u 0):∀(t:Ty) {i:Nat},jy t i->jy (sub x u t) i
 | .name s,i,_=>by simp only[sub];split;exact gv u hu (dP _);trivial
 | .plus a b,i,h=>⟨kB hu a h.1,kB hu b h.2⟩
 | .times a b,i,h=>⟨kB hu a h.1,kB hu b h.2⟩
 | .rc a,i,h=>kB hu (i:=i+1) a h
 | .zero,_,_=>trivial
 | .one,_,_=>trivial
 | .bound _,_,h=>h
theorem Dv.lc{t d:Ty}{s:Nm}(h:Dv t s d):jy t 0->jy d 0:=by
 induction h with
 |zero s=>exact fun _=>trivial
 |one s=>exact fun _=>trivial
 |bound k s=>exact fun _=>trivial
 |hit s=>exact fun _=>trivial
 |qx h=>exact fun _=>trivial
 |plus h1 h2 hl i1 i2=>exact fun h=>⟨i1 h.1,i2 h.2⟩
 |times h1 h2 hl i1 i2=>exact fun h=>⟨⟨i1 h.1,h.2⟩,h.1,i2 h.2⟩
 |
  rc x hx hs h1 h2 hl i1 i2 =>
  intro h
  have g1:=kB (x:=x) h _ (i1 (gI x _ h))
  have g2:=kB (x:=x) h _ (i2 (gI x _ h))
  exact⟨gv _ g1 (by omega),gv _ g2 (by omega),Nat.zero_lt_one⟩
theorem Wf.qw{e:E}(h:Wf e):fW (cS e []):=⟨uD h [],fun y hy=>(ns h [] y hy).1⟩
theorem fW.dv{t d:Ty}{s:Nm}(g:fW t)(h:Dv t s d):fW d:=⟨h.lc g.1,fun y hy=>g.2 y (h.names y hy)⟩
theorem fW.tree{t:Ty}(g:fW t):∃e,Wf e/\cS e []=t:=by
 obtain⟨h1,h2,_⟩:=kE (bN t []) t [] 0 (.nil _ _) g.1 fun y hy=>⟨(eU t [] y).2 (.inr hy),g.2 y hy⟩
 exact⟨_,h1,h2⟩
theorem fW.sub{x:Nm}{u t:Ty}(hu:fW u)(ht:fW t):fW (sub x u t):=⟨kB hu.1 t ht.1,fun y hy=>by
 rcases ja t hy with h|h
 ·exact hu.2 y h
 ·exact ht.2 y h.2⟩
def lh(o:Option Ty):AV->List Ob->Prop:=fun r ob=>ob=[]/\∃(c:Nm) (d:AV),LK.sl.has d/\r=.cI [.agg [.v (.string (mk c)),d],.v (.bool o.isSome)]/\∀t,o=some t->∃e,Wf e/\cS e []=t/\c=e.at/\d=e.sp
theorem lh.ne{o:Option Ty}(h:∀t,o=some t->fW t):∃r ob,lh o r ob:=by
 cases o with
 |none=>exact⟨_,_,rfl,[],Au,(bp).mpr trivial,rfl,fun t h=>by cases h⟩
 |
  some t =>
  obtain⟨e,h1,h2⟩:=(h t rfl).tree
  exact⟨_,_,rfl,e.at,e.sp,(aX _).mpr trivial,rfl,fun t' h'=>by cases h';exact⟨e,h1,h2,rfl,rfl⟩⟩
theorem lh.of{e:E}(h:Wf e):lh (some (cS e [])) (.cI [.agg [.v (.string (mk e.at)),e.sp],.v (.bool true)]) [] :=
 ⟨rfl,e.at,e.sp,(aX _).mpr trivial,rfl,fun t h'=>by cases h';exact⟨e,h,rfl,rfl,rfl⟩⟩
theorem lh.no(c:Nm)(d:AV)(hd:LK.sl.has d):lh none (.cI [.agg [.v (.string (mk c)),d],.v (.bool false)]) [] :=
 ⟨rfl,c,d,hd,rfl,fun t h'=>by cases h'⟩
theorem gu{c:ByteArray}{d:AV}(h:LK.sl.has d):bD [.str,.sl] [.v (.string c),d] 0=True:=by simp[bD,dW,h]
theorem xi{e:E}{os:List E}(h:Wf e):Wf (Aa e os)/\cS (Aa e os) []=cS e []/\tV (·∉AA e os) (Aa e os):=by
 obtain⟨h1,h2,_,_,h5⟩:=kE (AA e os) (cS e []) [] 0 (.nil _ _) (uD h []) fun y hy=>⟨aD _ ((l4 h [] [] y).2 (.inr hy)),(ns h [] y hy).1⟩
 exact⟨h1,h2,h5⟩
theorem rW{os:List E}{o:E}(ho:o∈os)(hw:Wf o){y:Nm}(hy:bj y (cS o [])=true):y∈rU os :=
 List.mem_flatMap.2 ⟨o,ho,(l4 hw [] [] y).2 (.inr hy)⟩
theorem qZ{s:Nm}(hs:qU s):cS (.atom s) []=.name s:=jb hs (by simp)
theorem MR{x:Nm}(hx:qU x){e u:E}(h:Wf e)(hu:Wf u)(hl:e.db<=400)(hlu:u.db<=400):∃g,Wf g/\cS g []=sub x (cS u []) (cS e [])/\an Tryz.prog 121 [.agg [.v (.string (mk e.at)),e.sp],.v (.string (mk x)),.agg [.v (.string (mk u.at)),u.sp]] [] (bJ (.agg [.v (.string (mk g.at)),g.sp])):=by
 obtain⟨w1,w2,w3⟩:=xi (os:=[u,.atom x]) h
 have hap:tV (fun n=>n≠x/\bj n (cS u [])=false) (Aa e [u,.atom x]):=Bq (fun n hn=>⟨fun e1=>hn (by
  subst e1
  exact aB _ (rW (o:=.atom n) (by simp) (.atom hx.1) (by rw[qZ hx];simp[bj]))),by
  cases q:bj n (cS u [])with
  |false=>rfl
  |true=>exact absurd (aB _ (rW (o:=u) (by simp) hu q)) hn⟩) w1 w3
 obtain⟨p1,p2⟩:=Er hx hu w1 hap [] (by simp) (fun y hy=>by cases hy)
 refine⟨_,p1,by rw[p2,w2],?_⟩
 refine Qu _ _ _ _ _ ((aX _).mpr trivial) ((aX _).mpr trivial) ?_
 unfold LO
 have s1:=h.sz
 have s2:=hu.sz
 have hA:=Dn h (.sl [[.v (.string (mk u.at)),u.sp],[.v (.string (mk x)),Au]]) [u,.atom x] ⟨(cc _).mpr trivial,by simp only[fD,E.bw,fJ];rfl⟩ (by omega) (fun o ho=>by
  simp only[aJ,List.not_mem_nil,or_false]at ho
  rcases ho with rfl|rfl
  ·exact⟨hu,by omega⟩
  ·exact⟨.atom hx.1,by simp[E.sz]⟩) (by simp)
 refine aj hA ?_
 simp only[↓zq,zs,ae,zt,aK]
 repeat refine⟨by omega,?_⟩
 refine aj (Pt x u w1) ?_
 simp only[↓zq,zs,ae,zt,aK]
 repeat refine⟨by omega,?_⟩
 exact⟨rfl,rfl⟩
theorem Gx{x:Nm}(hx:qU x){e u:E}(h:Wf e)(hu:Wf u)(hl:e.db<=400)(hlu:u.db<=400):an Tryz.prog 123 [.agg [.v (.string (mk e.at)),e.sp],.v (.string (mk x)),.agg [.v (.string (mk u.at)),u.sp]] [] (lh (nH (sub x (cS u []) (cS e [])))):=by
 refine PI _ _ _ _ _ ((aX _).mpr trivial) ((aX _).mpr trivial) ?_
 unfold Mk
 refine aj (Oz hx h hu (by omega) (by omega)) ?_
 simp only[↓zq,zs,ae,zt]
 refine⟨fun hn=>?_,fun hy=>?_⟩
 ·rw[show nH (sub x (cS u []) (cS e []))=none by unfold nH;rw[if_neg hn]]
  exact lh.no _ _ ((aX _).mpr trivial)
 ·rw[show nH (sub x (cS u []) (cS e []))=some (sub x (cS u []) (cS e [])) by unfold nH;rw[if_pos hy]]
  obtain⟨g,g1,g2,g3⟩:=MR hx h hu hl hlu
  refine aj g3 ?_
  simp only[↓zq,zs,ae,zt,aK]
  repeat refine⟨by omega,?_⟩
  rw[<-g2]
  exact lh.of g1
end Go.Proofs.Trees
namespace Go.Proofs.Trees
open Go Go.VL Go.RowKit
def qk(l:List UInt8):List (List AV):=l.map fun(x:UInt8)=>[.v (.int .u8 (x.toNat:Int))]
structure su(b:AV)(l:List UInt8):Prop where
 has:LK.sl.has b
 el:b.elems=qk l
 len:l.length<=2000
theorem su.ln{b:AV}{l:List UInt8}(h:su b l):b.elems.length=l.length:=by rw[h.el];simp[qk]
theorem su.get{b:AV}{l:List UInt8}(h:su b l){i:Nat}(hi:i<l.length):b.elems.getD i []=[.v (.int .u8 ((l[i]).toNat:Int))]:=by rw[h.el];simp[qk,aa,hi]
def eX(b:AV)(p c:Nat)(X:AV->Prop):AV->List Ob->Prop:=fun r o=>∃q:Nat,p<=q/\q<=p+c/\X r/\o=[.cells [b,.v (.int .i64 (q:Int))]]
theorem eX.ne{b:AV}{p c:Nat}{X:AV->Prop}{r:AV}(h:X r):∃r o,eX b p c X r o:=⟨r,_,p,au _,da _ _,h,rfl⟩
theorem El{a b:Int}(ha:0<=a)(hb:0<=b)(ha':a<9223372036854775808)(hb':b<9223372036854775808):∃W:Nat,AI .i64 a b=(W:Int):=by
 obtain⟨x,rfl⟩:∃x:Nat,a=(x:Int):=⟨a.toNat,by omega⟩
 obtain⟨y,rfl⟩:∃y:Nat,b=(y:Int):=⟨b.toNat,by omega⟩
 have e1:(BitVec.ofInt 64 (x:Int)).toNat=x:=by simp;omega
 have e2:(BitVec.ofInt 64 (y:Int)).toNat=y:=by simp;omega
 have hlt:x ^^^ y<2 ^ 63:=Nat.xor_lt_two_pow (by omega) (by omega)
 refine⟨x ^^^ y,?_⟩
 unfold AI
 have e3:(BitVec.ofInt (IntKind.bits .i64) (x:Int) ^^^ BitVec.ofInt (IntKind.bits .i64) (y:Int)).toNat=x ^^^ y:=by
  show (BitVec.ofInt 64 (x:Int) ^^^ BitVec.ofInt 64 (y:Int)).toNat=_
  rw[BitVec.toNat_xor,e1,e2]
 rw[e3,VL.wrap64]<;>omega
theorem yZ(a b:Nat):Int.tdiv (a:Int) (b:Int)=((a/b:Nat):Int):=(Int.ofNat_tdiv a b).symm
theorem qH(a b:Nat):dG (a:Int) (b:Int)=((a%b:Nat):Int):=(Int.ofNat_tmod a b).symm
theorem vR(n:Nat)(h:n<9223372036854775808):IntKind.wrap .i64 (n:Int)=(n:Int):=VL.wrap64 _ (by omega) (by omega)
def isNum(n:Nat):AV->Prop:=fun r=>∃k:Nat,r=.v (.int .i64 (k:Int))/\(1<=n->k<n)/\k<=n
abbrev qe:Nat:=1000000000000000
theorem vO(b:AV)(l:List UInt8)(hb:su b l)(p n:Nat)(hp:p<2*qe)(hn:n<qe):an Tryz.prog 43 [.ref 0 0,.v (.int .i64 (n:Int))] [.cells [b,.v (.int .i64 (p:Int))]] (eX b p 1 (isNum n)):=by
 refine QV _ _ _ hb.has ?_
 have e1:IntKind.wrap .i64 ((p:Int)+1)=((p+1:Nat):Int):=by rw[VL.wrap64]<;>simp[qe]at hp<;>omega
 have e2:IntKind.wrap .i64 (((p+1:Nat):Int)-1)=(p:Int):=by rw[VL.wrap64]<;>simp[qe]at hp<;>omega
 have fin:∀k:Nat,(1<=n->k<n)->k<=n->eX b p 1 (isNum n) (.v (.int .i64 (k:Int))) [.cells [b,.v (.int .i64 ((p+1:Nat):Int))]]:=fun k h h'=>⟨p+1,by omega,au _,⟨k,rfl,h,h'⟩,rfl⟩
 simp only[OH,↓zq,zs,ae,e1,e2,hb.ln,yZ,qH]
 refine⟨fun h=>fin 0 (fun h'=>by omega) (dP _),fun h=>⟨hb.has,fun h0=>fin 0 (fun h'=>by omega) (dP _),fun h0=>?_⟩⟩
 have hl:0<l.length:=by omega
 have hll:=hb.len
 refine⟨hb.has,fun hlt=>?_,fun hge=>?_⟩
 ·have hlt:p<l.length:=by omega
  have hx:=(l[p]).toNat_lt
  simp only[bF,hb.get hlt,hb.has,↓zq,zs,ae]
  rw[vR _ (by omega),qH]
  have:=fin ((l[p]).toNat%n) (fun h'=>Nat.mod_lt _ (by omega)) (Nat.le_of_lt (Nat.mod_lt _ (by omega)))
  repeat (first|exact this|refine⟨by omega,?_⟩)
 ·have h1:p%l.length<l.length:=Nat.mod_lt _ hl
  have e3:IntKind.wrap .i64 ((p:Int)*7)=((p*7:Nat):Int):=by rw[VL.wrap64]<;>simp[qe]at hp<;>omega
  have e4:IntKind.wrap .i64 (((p*7:Nat):Int)+3)=((p*7+3:Nat):Int):=by rw[VL.wrap64]<;>simp[qe]at hp<;>omega
  have h2:(p*7+3)%l.length<l.length:=Nat.mod_lt _ hl
  have hx:=(l[p%l.length]).toNat_lt
  have hy:=(l[(p*7+3)%l.length]).toNat_lt
  have hq:p/l.length<=p:=Nat.div_le_self _ _
  simp only[e3,e4,qH,bF,hb.get h1,hb.get h2,hb.has,↓zq,zs,ae]
  generalize hxx:(l[p%l.length]).toNat=x at hx |-
  generalize hyy:(l[(p*7+3)%l.length]).toNat=y at hy |-
  generalize hqq:p/l.length=q at hq |-
  have f1:IntKind.wrap .i64 ((x:Int))=(x:Int):=vR _ (by omega)
  have f2:IntKind.wrap .i64 ((y:Int))=(y:Int):=vR _ (by omega)
  have f3:IntKind.wrap .i64 ((x:Int)*131)=((x*131:Nat):Int):=by rw[VL.wrap64]<;>omega
  have f4:IntKind.wrap .i64 ((y:Int)*1117)=((y*1117:Nat):Int):=by rw[VL.wrap64]<;>omega
  have f5:IntKind.wrap .i64 (((x*131:Nat):Int)+((y*1117:Nat):Int))=((x*131+y*1117:Nat):Int):=by rw[VL.wrap64]<;>omega
  have f6:IntKind.wrap .i64 ((p:Int)*29)=((p*29:Nat):Int):=by rw[VL.wrap64]<;>simp[qe]at hp<;>omega
  have f7:IntKind.wrap .i64 (((x*131+y*1117:Nat):Int)+((p*29:Nat):Int))=((x*131+y*1117+p*29:Nat):Int):=by rw[VL.wrap64]<;>simp[qe]at hp<;>omega
  have f8:IntKind.wrap .i64 ((q:Int))=(q:Int):=vR _ (by simp[qe]at hp;omega)
  have f9:IntKind.wrap .i64 ((q:Int)*53)=((q*53:Nat):Int):=by rw[VL.wrap64]<;>simp[qe]at hp<;>omega
  have f10:IntKind.wrap .i64 (((x*131+y*1117+p*29:Nat):Int)+((q*53:Nat):Int))=((x*131+y*1117+p*29+q*53:Nat):Int):=by rw[VL.wrap64]<;>simp[qe]at hp<;>omega
  simp only[f1,f2,f3,f4,f5,f6,f7,f8,f9,f10]
  generalize hV:x*131+y*1117+p*29+q*53=V
  have hVl:V<1000000000000000000:=by simp[qe]at hp;omega
  have f11:IntKind.wrap .i64 (Int.tdiv (V:Int) 64)=((V/64:Nat):Int):=by
   have:Int.tdiv (V:Int) 64=((V/64:Nat):Int):=yZ V 64
   rw[this,vR _ (by omega)]
  rw[f11]
  obtain⟨W,hW⟩:=El (a:=(V:Int)) (b:=((V/64:Nat):Int)) (by omega) (by omega) (by omega) (by omega)
  rw[hW,qH]
  have:=fin (W%n) (fun h'=>Nat.mod_lt _ (by omega)) (Nat.le_of_lt (Nat.mod_lt _ (by omega)))
  repeat (first|exact this|refine⟨by omega,?_⟩)
def kN(L:List (List UInt8)):AV->Prop:=fun r=>∃s,s∈L/\r=.v (.string (mk s))
theorem DH(b:AV)(l:List UInt8)(hb:su b l)(p:Nat)(hp:p<2*qe)(L:List (List UInt8))(a:AV)(ha:cG a L)(hL:0<L.length)(hLl:L.length<1000000):an Tryz.prog 62 [.ref 0 0,a] [.cells [b,.v (.int .i64 (p:Int))]] (eX b p 1 (kN L)):=by
 refine Qc _ _ _ ha.1 hb.has ?_
 unfold Jb
 simp only[↓zq,zs,ae,ha.len]
 refine⟨ha.1,?_⟩
 have hpk:=vO b l hb p L.length hp (by simp[qe];omega)
 refine aP hpk (eX.ne ⟨0,rfl,fun h=>h,dP _⟩) ?_
 rintro r o ⟨q,h1,h2,⟨k,rfl,h3,h4⟩,rfl⟩
 have hk:=h3 hL
 simp only[↓zq,zs,ae,zt,aL,hb.has,ha.idx hk,bF]
 refine⟨⟨ha.1,by omega⟩,?_⟩
 have:eX b p 1 (kN L) (.v (.string (mk (L.getD k [])))) [.cells [b,.v (.int .i64 (q:Int))]]:=⟨q,h1,h2,⟨_,by simp[aa,hk],rfl⟩,rfl⟩
 repeat (first|exact this|refine⟨by omega,?_⟩)
def gm(n:Nat):AV->Prop:=fun r=>∃s:List UInt8,r=.v (.string (mk s))/\s.length<=n
theorem kN.cC{L:List (List UInt8)}{n:Nat}(h:∀s,s∈L->s.length<=n){r:AV}(hr:kN L r):gm n r:=by
 obtain⟨s,h1,h2⟩:=hr;exact⟨s,h2,h s h1⟩
end Go.Proofs.Trees
namespace Go.Proofs.Trees
open Go Go.VL Go.RowKit
def j0:AV->List Ob->Prop:=fun r o=>o=[]/\∃b:Bool,r=.v (.bool b)
theorem j0.ne:∃r o,j0 r o:=⟨_,_,rfl,true,rfl⟩
theorem j0.mk(b:Bool):j0 (.v (.bool b)) []:=⟨rfl,b,rfl⟩
theorem j0.call{n:Nat}{f:Nat}{xs:List AV}{k:AV->List Ob->Tree}{Q:Nat->List AV->List Ob->Prop}(h:an Tryz.prog f xs [] j0)(hk:∀b:Bool,eZ Tryz.prog n (k (.v (.bool b)) []) Q):eZ Tryz.prog n (.call f xs [] k) Q :=
 aP h j0.ne (by rintro r o ⟨rfl,b,rfl⟩;exact hk b)
theorem Jq{e:E}(h:Wf e):∀(l:List Nm) (a:AV),cG a l->l.length+e.sz<100000->an Tryz.prog 87 [.agg [.v (.string (mk e.at)),e.sp],a] [] j0:=by
 induction h with
 |
  @atom s hs =>
  intro l a ha hl
  simp only[E.sz]at hl
  refine Ds _ _ _ ((aX _).mpr trivial) ha.1 ?_
  simp only[BJ,dS,↓zq,zs,ae]
  refine aj (z7 s _ ((aX (.atom s)).mpr trivial) hs) ?_
  simp only[↓zq,zs,ae,zt,ha.1]
  refine⟨fun h=>(by cases h),fun _=>⟨fun h=>(by cases h),fun _=>⟨fun h=>(by cases h),fun _=>⟨fun _=>.mk true,fun _=>?_⟩⟩⟩⟩
  refine aj (wY l a ha s (by omega)) ?_
  simp only[↓zq,zs,ae]
  exact .mk _
 |
  @plus x y hx hy i1 i2 =>
  intro l a ha hl
  simp only[E.sz,E.jo]at hl
  refine Ds _ _ _ ((aX _).mpr trivial) ha.1 ?_
  have hP:=P3.of (.atom [43]) x y
  simp only[BJ,bK,toNat_one,bf,↓zq,zs,ae,zt,hP.1,hP.2.1,hP.2.2.1,hP.2.2.2,aK]
  refine aj (n8 [43] x y) ?_
  simp only[↓zq,zs,ae,zt,ha.1,aK]
  refine⟨fun _=>⟨by omega,by omega,j0.call (i1 l a ha (by omega)) fun b=>?_⟩,fun h=>absurd rfl h⟩
  simp only[↓zq,zs,ae]
  refine⟨fun _=>⟨by omega,by omega,j0.call (i2 l a ha (by omega)) fun b=>?_⟩,fun _=>.mk _⟩
  simp only[↓zq,zs,ae]
  exact .mk _
 |
  @times x y hx hy i1 i2 =>
  intro l a ha hl
  simp only[E.sz,E.jo]at hl
  refine Ds _ _ _ ((aX _).mpr trivial) ha.1 ?_
  have hP:=P3.of (.atom [42]) x y
  simp only[BJ,bK,toNat_one,bf,↓zq,zs,ae,zt,hP.1,hP.2.1,hP.2.2.1,hP.2.2.2,aK]
  refine aj (n8 [42] x y) ?_
  simp only[↓zq,zs,ae,zt,ha.1,aK]
  refine⟨fun h=>(by cases h),fun _=>⟨fun _=>⟨by omega,by omega,j0.call (i1 l a ha (by omega)) fun b=>?_⟩,fun h=>absurd rfl h⟩⟩
  simp only[↓zq,zs,ae]
  refine⟨fun _=>.mk _,fun _=>⟨by omega,by omega,j0.call (i2 l a ha (by omega)) fun b=>?_⟩⟩
  simp only[↓zq,zs,ae]
  exact .mk _
 |
  @rc n b hn hb i =>
  intro l a ha hl
  simp only[E.sz,E.jo]at hl
  refine Ds _ _ _ ((aX _).mpr trivial) ha.1 ?_
  have hP:=P3.of (.atom dF) (.atom n) b
  simp only[BJ,bK,toNat_one,bf,↓zq,zs,ae,zt,hP.1,hP.2.1,hP.2.2.1,hP.2.2.2,aK]
  refine aj (n8 dF (.atom n) b) ?_
  simp only[↓zq,zs,ae,zt,ha.1,aK]
  refine⟨fun h=>(by cases h),fun _=>⟨fun h=>(by cases h),fun _=>⟨fun _=>⟨by omega,by omega,by omega,by omega,?_⟩,fun h=>absurd rfl h⟩⟩⟩
  refine aW (w6 l a ha n (by omega)) ?_
  simp only[↓zq,zs,ae,zt,Ob.es,aO]
  refine⟨fy _,?_⟩
  refine j0.call (i (l++[n]) _ (.of _) (by simp;omega)) fun b=>?_
  simp only[↓zq,zs,ae]
  exact .mk _
def Qk:AV->List Ob->Prop:=fun r o=>o=[]/\∃(g:E) (b:Bool),r=.cI [.agg [.v (.string (mk g.at)),g.sp],.v (.bool b)]/\Wf g/\g.db<=400
theorem Qn{n:Nm}{b:E}(hn:qU n)(hb:Wf b)(hl:(E.list [.atom dF,.atom n,b]).db<=400):an Tryz.prog 89 [.agg [.v (.string (mk [])),(E.list [.atom dF,.atom n,b]).sp]] [] Qk:=by
 have hw:Wf (.list [.atom dF,.atom n,b]):=.rc hn hb
 refine Sy _ _ ((aX _).mpr trivial) ?_
 have hP:=P3.of (.atom dF) (.atom n) b
 have hbl:b.db<=400:=by simp only[E.db,E.eV]at hl;omega
 simp only[JH,toNat_one,bf,↓zq,zs,ae,zt,hP.1,hP.2.1,hP.2.2.1,hP.2.2.2,aK]
 refine⟨by omega,by omega,by omega,by omega,?_⟩
 have hf:=Oz hn hb hw (by omega) (by omega)
 obtain⟨g,g1,g2,g3⟩:=MR hn hb hw hbl hl
 simp only[bK]at hf g3
 refine aj hf ?_
 simp only[↓zq,zs,ae,zt,aK]
 refine⟨fun h=>⟨rfl,_,false,rfl,hw,hl⟩,fun h=>?_⟩
 repeat refine⟨by omega,?_⟩
 refine aj g3 ?_
 simp only[↓zq,zs,ae,zt,aK]
 refine⟨rfl,g,true,rfl,g1,?_⟩
 rw[g1.db [],g2]
 simpa using h
end Go.Proofs.Trees
namespace Go.Proofs.Trees
open Go Go.VL Go.RowKit
def j1(n:Nat):AV->Prop:=fun r=>∃e:E,r=.agg [.v (.string (mk e.at)),e.sp]/\e.ok/\(e9 e).length<=n
theorem j1.u(n:Nat)(h:1<=n):j1 n (.agg [.v (.string (mk [117])),.v (.slice none 0 0)]):=⟨.atom [117],rfl,by simp[E.ok],by simpa[e9]using h⟩
def jU(b:AV)(d:Int)(e:E)(B C:Nat):Prop:=∀p:Nat,p+C<qe->an Tryz.prog 64 [.ref 0 0,.agg [.v (.string (mk e.at)),e.sp],.v (.int .i64 d)] [.cells [b,.v (.int .i64 (p:Int))]] (eX b p C (j1 B))
theorem jU.mono{b:AV}{d:Int}{e:E}{B C B' C':Nat}(h:jU b d e B C)(hB:B<=B')(hC:C<=C'):jU b d e B' C':=fun p hp=>an.mono (h p (by omega)) fun r o ⟨q,h1,h2,⟨g,h3,h4,h5⟩,h6⟩=>⟨q,h1,by omega,⟨g,h3,h4,by omega⟩,h6⟩
theorem oC(b:AV)(p C B:Nat)(h:1<=B):∃r o,eX b p C (j1 B) r o:=eX.ne (j1.u B h)
theorem Tb(w:Nm)(e:E)(h:w.length=1):(e9 (.list [.atom w,e])).length=(e9 e).length+4:=by
 simp[e9,ei];omega
theorem S3(w:Nm)(e f:E)(h:w.length=1):(e9 (.list [.atom w,e,f])).length=(e9 e).length+(e9 f).length+5:=by
 simp[e9,ei];omega
theorem OD{b:AV}{p q q' C B:Nat}{w:Nm}{e:E}(hw:w.length=1)(h1:p<=q)(h2:q<=p+1)(h3:q<=q')(h4:q'<=q+C)(ho:e.ok)(hl:(e9 e).length<=B) :
 eX b p (C+1) (j1 (B+5)) (.agg [.v (.string (mk [])),(E.list [.atom w,e]).sp]) [.cells [b,.v (.int .i64 (q':Int))]] :=
 ⟨q',by omega,by omega,⟨.list [.atom w,e],rfl,⟨by intro h;rw[h]at hw;simp at hw,ho,trivial⟩,by rw[Tb w e hw];omega⟩,rfl⟩
theorem MP(b:AV)(l:List UInt8)(hb:su b l)(d:Int){s:Nm}(hs:s≠[]):jU b d (.atom s) 5 1:=by
 intro p hp
 refine DU _ _ _ _ _ ((aX (.atom s)).mpr trivial) hb.has ?_
 simp only[Bn,dS,↓zq,zs,ae]
 refine aj (z7 s _ ((aX (.atom s)).mpr trivial) hs) ?_
 simp only[↓zq,zs,ae,zt]
 refine⟨fun h=>(by cases h),fun _=>⟨fun h=>(by cases h),fun _=>⟨fun h=>(by cases h),fun _=>⟨fun _=>?_,fun _=>?_⟩⟩⟩⟩
 ·exact⟨p,au _,by omega,j1.u 5 (by omega),rfl⟩
 ·refine aP (vO b l hb p 3 (by omega) (by decide)) (eX.ne ⟨0,rfl,fun h=>by omega,by omega⟩) ?_
  rintro r o ⟨q,h1,h2,⟨k,rfl,h3,h4⟩,rfl⟩
  have hk:k<3:=h3 (by omega)
  simp only[↓zq,zs,ae,aL,hb.has]
  refine aj (Ao (k+1) k (by omega) (by omega)) ?_
  have hd:dd k=[bg (48+k)]:=eH (by omega)
  simp only[↓zq,zs,ae,zt,hd]
  refine⟨by simp,q,h1,h2,⟨.atom ([101]++[bg (48+k)]),rfl,by simp[E.ok],by simp[e9]⟩,rfl⟩
theorem OL(b:AV)(l:List UInt8)(hb:su b l)(d:Int)(hd:-100000<=d/\d<=100000){n:Nm}{e:E}(hn:qU n)(he:Wf e)(hl:(E.list [.atom dF,.atom n,e]).db<=400)(B C:Nat)(ih:-12<=d->∀g,Wf g->g.db<=400->jU b (d-1) g B C)(hB:1<=B):jU b d (.list [.atom dF,.atom n,e]) (B+5) (C+1):=by
 intro p hp
 refine DU _ _ _ _ _ ((aX _).mpr trivial) hb.has ?_
 have ed:IntKind.wrap .i64 (d-1)=d-1:=VL.wrap64 _ (by omega) (by omega)
 simp only[Bn,bK,↓zq,zs,ae,ed]
 refine aj (n8 dF (.atom n) e) ?_
 simp only[↓zq,zs,ae,zt]
 have hu:=Qn hn he hl
 refine⟨fun h=>(by cases h),fun _=>⟨fun h=>(by cases h),fun _=>⟨fun _=>?_,fun h=>absurd rfl h⟩⟩⟩
 refine aP hu ⟨_,_,rfl,.atom [117],true,rfl,.atom (by simp),by simp[E.db]⟩ ?_
 rintro r o ⟨rfl,g,c,rfl,g1,g2⟩
 have u:eX b p (C+1) (j1 (B+5)) (.agg [.v (.string (mk [117])),.v (.slice none 0 0)]) [.cells [b,.v (.int .i64 (p:Int))]]:=⟨p,au _,by omega,j1.u _ (by omega),rfl⟩
 simp only[↓zq,zs,ae,zt,aK]
 refine⟨fun _=>u,fun _=>⟨fun _=>u,fun hd2=>?_⟩⟩
 refine aP (ih (by omega) g g1 g2 p (by omega)) (oC b p C B hB) ?_
 rintro r o ⟨q,h1,h2,⟨f,rfl,h4,h5⟩,rfl⟩
 simp only[↓zq,zs,ae,zt,aL,hb.has,aK]
 repeat refine⟨by omega,?_⟩
 refine aj (xF [102] f) ?_
 simp only[↓zq,zs,ae,zt,aL,hb.has,aK]
 have fin:=OD (b:=b) (w:=[102]) rfl (au p) (by omega) h1 h2 h4 h5
 first|exact fin|exact⟨by omega,fin⟩
theorem Kp(b:AV)(l:List UInt8)(hb:su b l)(d:Int)(hd:-100000<=d/\d<=100000){x y:E}(hx:Wf x)(hy:Wf y)(B1 C1 B2 C2:Nat)(ix:jU b (d-1) x B1 C1)(iy:jU b (d-1) y B2 C2)(hB:1<=B1)(hB2:1<=B2):jU b d (.list [.atom [42],x,y]) (B1+B2+5) (C1+C2+1):=by
 intro p hp
 refine DU _ _ _ _ _ ((aX _).mpr trivial) hb.has ?_
 have ed:IntKind.wrap .i64 (d-1)=d-1:=VL.wrap64 _ (by omega) (by omega)
 have hP:=P3.of (.atom [42]) x y
 simp only[Bn,bK,toNat_one,bf,↓zq,zs,ae,zt,hP.1,hP.2.1,hP.2.2.1,hP.2.2.2,aK,ed]
 refine aj (n8 [42] x y) ?_
 simp only[↓zq,zs,ae,zt]
 refine⟨fun h=>(by cases h),fun _=>⟨fun _=>?_,fun h=>absurd rfl h⟩⟩
 refine⟨by omega,by omega,aP (ix p (by omega)) (oC b p C1 B1 hB) ?_⟩
 rintro r o ⟨q,h1,h2,⟨f,rfl,h4,h5⟩,rfl⟩
 simp only[↓zq,zs,ae,zt,aL,hb.has,aK]
 repeat refine⟨by omega,?_⟩
 refine aP (iy q (by omega)) (oC b q C2 B2 hB2) ?_
 rintro r o ⟨q',g1,g2,⟨g,rfl,g4,g5⟩,rfl⟩
 simp only[↓zq,zs,ae,zt,aL,hb.has,aK]
 repeat refine⟨by omega,?_⟩
 refine aj (wJ [112] f g) ?_
 simp only[↓zq,zs,ae,zt,aL,hb.has,aK]
 have fin:eX b p (C1+C2+1) (j1 (B1+B2+5)) (.agg [.v (.string (mk [])),(E.list [.atom [112],f,g]).sp]) [.cells [b,.v (.int .i64 (q':Int))]]:=⟨q',by omega,by omega,⟨.list [.atom [112],f,g],rfl,⟨by simp[E.ok],h4,g4,trivial⟩,by rw[S3 [112] f g rfl];omega⟩,rfl⟩
 first|exact fin|exact⟨by omega,fin⟩
theorem Od(b:AV)(l:List UInt8)(hb:su b l)(d:Int)(hd:-100000<=d/\d<=100000){x y:E}(hx:Wf x)(hy:Wf y)(hl:(E.list [.atom [43],x,y]).db<=400)(B C:Nat)(ix:jU b (d-1) x B C)(iy:jU b (d-1) y B C)(hB:1<=B):jU b d (.list [.atom [43],x,y]) (B+5) (C+1):=by
 intro p hp
 refine DU _ _ _ _ _ ((aX _).mpr trivial) hb.has ?_
 have ed:IntKind.wrap .i64 (d-1)=d-1:=VL.wrap64 _ (by omega) (by omega)
 have hP:=P3.of (.atom [43]) x y
 simp only[E.db,E.eV]at hl
 have s1:=hx.sz
 have s2:=hy.sz
 simp only[Bn,bK,toNat_one,bf,↓zq,zs,ae,zt,hP.1,hP.2.1,hP.2.2.1,hP.2.2.2,aK,ed]
 refine aj (n8 [43] x y) ?_
 simp only[↓zq,zs,ae,zt]
 refine⟨fun _=>?_,fun h=>absurd rfl h⟩
 refine aP (vO b l hb p 2 (by omega) (by decide)) (eX.ne ⟨0,rfl,fun h=>by omega,by omega⟩) ?_
 rintro r o ⟨q,h1,h2,⟨k,rfl,_,_⟩,rfl⟩
 simp only[↓zq,zs,ae,zt,aL,hb.has,aK]
 have ex:=Jq hx [] (.sl []) (.of []) (by simp;omega)
 have ey:=Jq hy [] (.sl []) (.of []) (by simp;omega)
 have ax:=CS x hx.ok (by omega)
 have ay:=CS y hy.ok (by omega)
 rw[dk]at ax ay
 have lx:=ix q (by omega)
 have ly:=iy q (by omega)
 have t:=oC b q C B hB
 have leaf:∀(w:Nm) (q':Nat) (f:E),w.length=1->q<=q'->q'<=q+C->f.ok->(e9 f).length<=B->eX b p (C+1) (j1 (B+5)) (.agg [.v (.string (mk [])),(E.list [.atom w,f]).sp]) [.cells [b,.v (.int .i64 (q':Int))]]:=fun w q' f hw g1 g2 h4 h5=>OD hw h1 h2 g1 g2 h4 h5
 repeat' first
  |intro _
  |refine⟨by omega,?_⟩
  |(
   with_reducible refine aP lx t ?_
   rintro r o ⟨q',g1,g2,⟨f,rfl,h4,h5⟩,rfl⟩
   simp only[↓zq,zs,ae,zt,aL,hb.has,aK]
   repeat refine⟨by omega,?_⟩
   refine aj (xF _ f) ?_
   simp only[↓zq,zs,ae,zt,aL,hb.has,aK]
   have fin:=leaf [108] q' f rfl g1 g2 h4 h5
   first|exact fin|exact⟨by omega,fin⟩)
  |(
   with_reducible refine aP ly t ?_
   rintro r o ⟨q',g1,g2,⟨f,rfl,h4,h5⟩,rfl⟩
   simp only[↓zq,zs,ae,zt,aL,hb.has,aK]
   repeat refine⟨by omega,?_⟩
   refine aj (xF _ f) ?_
   simp only[↓zq,zs,ae,zt,aL,hb.has,aK]
   have fin:=leaf [114] q' f rfl g1 g2 h4 h5
   first|exact fin|exact⟨by omega,fin⟩)
  |(with_reducible refine j0.call ex fun _=>?_;simp only[↓zq,zs,ae,zt,aK])
  |(with_reducible refine j0.call ey fun _=>?_;simp only[↓zq,zs,ae,zt,aK])
  |(with_reducible refine aj ax ?_;simp only[↓zq,zs,ae,zt,aK])
  |(with_reducible refine aj ay ?_;simp only[↓zq,zs,ae,zt,aK])
  |with_reducible refine aH ?_ ?_
  |(exfalso;omega)
end Go.Proofs.Trees
namespace Go.Proofs.Trees
open Go Go.VL Go.RowKit
def nv:Nat->Nat
 |0=>2
 |d+1=>2*nv d+15
def nB:Nat->Nat
 |0=>3
 |d+1=>2*nB d+8
theorem Rq(d:Nat):2<=nv d:=by cases d<;>simp only[nv]<;>omega
theorem P6(d:Nat):3<=nB d:=by cases d<;>simp only[nB]<;>omega
theorem Gf:∀d:Nat,d<=10->nv d<=100000000
 |0,_=>by decide
 |1,_=>by decide
 |2,_=>by decide
 |3,_=>by decide
 |4,_=>by decide
 |5,_=>by decide
 |6,_=>by decide
 |7,_=>by decide
 |8,_=>by decide
 |9,_=>by decide
 |10,_=>by decide
 |d+11,h=>by omega
theorem B7(b:AV)(l:List UInt8)(hb:su b l)(p:Nat)(hp:p<2*qe):an Tryz.prog 75 [.ref 0 0] [.cells [b,.v (.int .i64 (p:Int))]] (eX b p 1 (gm 60)):=by
 refine R3 _ _ hb.has ?_
 unfold La
 refine aP (DH b l hb p hp _ _ (.of [_,_,_,_,_,_,_]) (by simp) (by simp)) (eX.ne ⟨_,ak,rfl⟩) ?_
 rintro r o ⟨q,h1,h2,hr,rfl⟩
 obtain⟨s,rfl,hs⟩:=kN.cC (n:=60) (by decide) hr
 simp only[↓zq,zs,ae,aL,hb.has]
 exact⟨q,h1,h2,⟨s,rfl,hs⟩,rfl⟩
theorem HS(b:AV)(l:List UInt8)(hb:su b l):∀(d:Nat),d<=10->∀(p:Nat) (ls:List (List UInt8)) (a:AV),cG a ls->(∀s,s∈ls->s.length<=2)->ls.length+d<=100->p+nB d<2*qe ->
 an Tryz.prog 144 [.ref 0 0,a,.v (.int .i64 (d:Int))] [.cells [b,.v (.int .i64 (p:Int))]] (eX b p (nB d) (gm (nv d))):=by
 intro d
 induction d with
 |
  zero =>
  intro hd p ls a ha hls hll hp
  simp only[nB]at hp
  refine KN _ _ _ _ ha.1 hb.has ?_
  simp only[Ic,↓zq,zs,ae,ha.len]
  refine⟨fun _=>⟨ha.1,fun hpos=>?_,fun _=>?_⟩,fun h=>by omega⟩
  ·refine aP (vO b l hb p 3 (by omega) (by decide)) (eX.ne ⟨0,rfl,fun h=>by omega,by omega⟩) ?_
   rintro r o ⟨q1,h1,h2,⟨k,rfl,h3,h4⟩,rfl⟩
   simp only[↓zq,zs,ae,aL,hb.has]
   refine⟨fun _=>⟨ha.1,?_⟩,fun _=>?_⟩
   ·refine aP (vO b l hb q1 ls.length (by omega) (by simp[qe];omega)) (eX.ne ⟨0,rfl,fun h=>by omega,by omega⟩) ?_
    rintro r o ⟨q2,g1,g2,⟨k2,rfl,g3,g4⟩,rfl⟩
    have hk:=g3 (by omega)
    simp only[↓zq,zs,ae,aL,hb.has,bF,ha.idx hk]
    have:eX b p (nB 0) (gm (nv 0)) (.v (.string (mk (ls.getD k2 [])))) [.cells [b,.v (.int .i64 (q2:Int))]]:=⟨q2,by omega,by simp only[nB];omega,⟨_,rfl,by
     have:=hls (ls.getD k2 []) (by simp[aa,hk]);simp only[nv];omega⟩,rfl⟩
    refine⟨⟨ha.1,by omega⟩,?_⟩
    repeat (first|exact this|refine⟨by omega,?_⟩)
   ·refine aP (DH b l hb q1 (by omega) _ _ (.of [_,_,_,_,_,_]) (by simp) (by simp)) (eX.ne ⟨_,ak,rfl⟩) ?_
    rintro r o ⟨q2,g1,g2,hr,rfl⟩
    obtain⟨s,rfl,hs⟩:=kN.cC (n:=2) (by decide) hr
    simp only[↓zq,zs,ae,aL,hb.has]
    exact⟨q2,by omega,by simp only[nB];omega,⟨s,rfl,by simp only[nv];omega⟩,rfl⟩
  ·refine aP (DH b l hb p (by omega) _ _ (.of [_,_,_,_,_,_]) (by simp) (by simp)) (eX.ne ⟨_,ak,rfl⟩) ?_
   rintro r o ⟨q2,g1,g2,hr,rfl⟩
   obtain⟨s,rfl,hs⟩:=kN.cC (n:=2) (by decide) hr
   simp only[↓zq,zs,ae,aL,hb.has]
   exact⟨q2,by omega,by simp only[nB];omega,⟨s,rfl,by simp only[nv];omega⟩,rfl⟩
 |
  succ d ih =>
  intro hd p ls a ha hls hll hp
  simp only[nB]at hp
  have hL:=Rq d
  have hC:=P6 d
  have ih:=ih (by omega)
  have hL8:=Gf d (by omega)
  have ed:IntKind.wrap .i64 (((d+1:Nat):Int)-1)=(d:Int):=by rw[VL.wrap64]<;>omega
  refine KN _ _ _ _ ha.1 hb.has ?_
  simp only[Ic,↓zq,zs,ae,ha.len,ed]
  refine⟨fun h=>by omega,fun _=>?_⟩
  refine aP (vO b l hb p 4 (by omega) (by decide)) (eX.ne ⟨0,rfl,fun h=>by omega,by omega⟩) ?_
  rintro r o ⟨q0,a1,a2,⟨k0,rfl,_,_⟩,rfl⟩
  simp only[↓zq,zs,ae,aL,hb.has]
  refine⟨fun _=>⟨ha.1,fun hpos=>?_,fun _=>?_⟩,fun _=>?_⟩
  ·refine aP (vO b l hb q0 3 (by omega) (by decide)) (eX.ne ⟨0,rfl,fun h=>by omega,by omega⟩) ?_
   rintro r o ⟨q1,h1,h2,⟨k,rfl,h3,h4⟩,rfl⟩
   simp only[↓zq,zs,ae,aL,hb.has]
   refine⟨fun _=>⟨ha.1,?_⟩,fun _=>?_⟩
   ·refine aP (vO b l hb q1 ls.length (by omega) (by simp[qe];omega)) (eX.ne ⟨0,rfl,fun h=>by omega,by omega⟩) ?_
    rintro r o ⟨q2,g1,g2,⟨k2,rfl,g3,g4⟩,rfl⟩
    have hk:=g3 (by omega)
    simp only[↓zq,zs,ae,aL,hb.has,bF,ha.idx hk]
    have:eX b p (nB (d+1)) (gm (nv (d+1))) (.v (.string (mk (ls.getD k2 [])))) [.cells [b,.v (.int .i64 (q2:Int))]]:=⟨q2,by omega,by simp only[nB];omega,⟨_,rfl,by
     have:=hls (ls.getD k2 []) (by simp[aa,hk]);simp only[nv];omega⟩,rfl⟩
    refine⟨⟨ha.1,by omega⟩,?_⟩
    repeat (first|exact this|refine⟨by omega,?_⟩)
   ·refine aP (DH b l hb q1 (by omega) _ _ (.of [_,_,_,_,_,_]) (by simp) (by simp)) (eX.ne ⟨_,ak,rfl⟩) ?_
    rintro r o ⟨q2,g1,g2,hr,rfl⟩
    obtain⟨s,rfl,hs⟩:=kN.cC (n:=2) (by decide) hr
    simp only[↓zq,zs,ae,aL,hb.has]
    exact⟨q2,by omega,by simp only[nB];omega,⟨s,rfl,by simp only[nv];omega⟩,rfl⟩
  ·refine aP (DH b l hb q0 (by omega) _ _ (.of [_,_,_,_,_,_]) (by simp) (by simp)) (eX.ne ⟨_,ak,rfl⟩) ?_
   rintro r o ⟨q2,g1,g2,hr,rfl⟩
   obtain⟨s,rfl,hs⟩:=kN.cC (n:=2) (by decide) hr
   simp only[↓zq,zs,ae,aL,hb.has]
   exact⟨q2,by omega,by simp only[nB];omega,⟨s,rfl,by simp only[nv];omega⟩,rfl⟩
  ·refine aP (vO b l hb q0 5 (by omega) (by decide)) (eX.ne ⟨0,rfl,fun h=>by omega,by omega⟩) ?_
   rintro r o ⟨q1,b1,b2,⟨k1,rfl,c3,_⟩,rfl⟩
   have hk1:=c3 (by omega)
   obtain rfl|rfl|rfl|rfl|rfl:k1=0\/k1=1\/k1=2\/k1=3\/k1=4:=by omega
   ·simp only[↓zq,zs,ae,aL,hb.has]
    refine⟨fun _=>?_,fun h=>absurd rfl h⟩
    refine aP (ih q1 ls a ha hls (by omega) (by omega)) (eX.ne ⟨[],rfl,by simp⟩) ?_
    rintro r o ⟨q2,d1,d2,⟨s1,rfl,d3⟩,rfl⟩
    simp only[↓zq,zs,ae,zt,aL,hb.has,aq]
    repeat refine⟨by first|omega|(simp only[aq,az,aG];omega),?_⟩
    refine aP (ih q2 ls a ha hls (by omega) (by omega)) (eX.ne ⟨[],rfl,by simp⟩) ?_
    rintro r o ⟨q3,e1,e2,⟨s2,rfl,e3⟩,rfl⟩
    simp only[↓zq,zs,ae,zt,aL,hb.has,aq]
    have fin:∀s:List UInt8,s.length<=nv (d+1)->eX b p (nB (d+1)) (gm (nv (d+1))) (.v (.string (mk s))) [.cells [b,.v (.int .i64 (q3:Int))]]:=fun s hs=>⟨q3,by omega,by simp only[nB];omega,⟨s,rfl,hs⟩,rfl⟩
    repeat (first|exact fin _ (by simp only[aq,az,aG,nv];omega)|refine⟨by first|omega|(simp only[aq,az,aG];omega),?_⟩)
   ·simp only[↓zq,zs,ae,aL,hb.has]
    refine⟨fun h=>by omega,fun _=>⟨fun _=>?_,fun h=>absurd rfl h⟩⟩
    refine aP (ih q1 ls a ha hls (by omega) (by omega)) (eX.ne ⟨[],rfl,by simp⟩) ?_
    rintro r o ⟨q2,d1,d2,⟨s1,rfl,d3⟩,rfl⟩
    simp only[↓zq,zs,ae,zt,aL,hb.has,aq]
    repeat refine⟨by first|omega|(simp only[aq,az,aG];omega),?_⟩
    refine aP (ih q2 ls a ha hls (by omega) (by omega)) (eX.ne ⟨[],rfl,by simp⟩) ?_
    rintro r o ⟨q3,e1,e2,⟨s2,rfl,e3⟩,rfl⟩
    simp only[↓zq,zs,ae,zt,aL,hb.has,aq]
    have fin:∀s:List UInt8,s.length<=nv (d+1)->eX b p (nB (d+1)) (gm (nv (d+1))) (.v (.string (mk s))) [.cells [b,.v (.int .i64 (q3:Int))]]:=fun s hs=>⟨q3,by omega,by simp only[nB];omega,⟨s,rfl,hs⟩,rfl⟩
    repeat (first|exact fin _ (by simp only[aq,az,aG,nv];omega)|refine⟨by first|omega|(simp only[aq,az,aG];omega),?_⟩)
   ·simp only[↓zq,zs,ae,aL,hb.has]
    refine⟨fun h=>by omega,fun _=>⟨fun h=>by omega,fun _=>⟨fun _=>?_,fun h=>absurd rfl h⟩⟩⟩
    refine aP (ih q1 ls a ha hls (by omega) (by omega)) (eX.ne ⟨[],rfl,by simp⟩) ?_
    rintro r o ⟨q2,d1,d2,⟨s1,rfl,d3⟩,rfl⟩
    simp only[↓zq,zs,ae,zt,aL,hb.has,aq]
    repeat refine⟨by first|omega|(simp only[aq,az,aG];omega),?_⟩
    refine aP (ih q2 ls a ha hls (by omega) (by omega)) (eX.ne ⟨[],rfl,by simp⟩) ?_
    rintro r o ⟨q3,e1,e2,⟨s2,rfl,e3⟩,rfl⟩
    simp only[↓zq,zs,ae,zt,aL,hb.has,aq]
    have fin:∀s:List UInt8,s.length<=nv (d+1)->eX b p (nB (d+1)) (gm (nv (d+1))) (.v (.string (mk s))) [.cells [b,.v (.int .i64 (q3:Int))]]:=fun s hs=>⟨q3,by omega,by simp only[nB];omega,⟨s,rfl,hs⟩,rfl⟩
    repeat (first|exact fin _ (by simp only[aq,az,aG,nv];omega)|refine⟨by first|omega|(simp only[aq,az,aG];omega),?_⟩)
   ·simp only[↓zq,zs,ae,aL,hb.has]
    refine⟨fun h=>by omega,fun _=>⟨fun h=>by omega,fun _=>⟨fun h=>by omega,fun _=>⟨fun _=>?_,fun h=>absurd rfl h⟩⟩⟩⟩
    refine aP (ih q1 ls a ha hls (by omega) (by omega)) (eX.ne ⟨[],rfl,by simp⟩) ?_
    rintro r o ⟨q2,d1,d2,⟨s1,rfl,d3⟩,rfl⟩
    simp only[↓zq,zs,ae,zt,aL,hb.has,aq]
    repeat refine⟨by first|omega|(simp only[aq,az,aG];omega),?_⟩
    refine aP (ih q2 ls a ha hls (by omega) (by omega)) (eX.ne ⟨[],rfl,by simp⟩) ?_
    rintro r o ⟨q3,e1,e2,⟨s2,rfl,e3⟩,rfl⟩
    simp only[↓zq,zs,ae,zt,aL,hb.has,aq]
    have fin:∀s:List UInt8,s.length<=nv (d+1)->eX b p (nB (d+1)) (gm (nv (d+1))) (.v (.string (mk s))) [.cells [b,.v (.int .i64 (q3:Int))]]:=fun s hs=>⟨q3,by omega,by simp only[nB];omega,⟨s,rfl,hs⟩,rfl⟩
    repeat (first|exact fin _ (by simp only[aq,az,aG,nv];omega)|refine⟨by first|omega|(simp only[aq,az,aG];omega),?_⟩)
   ·simp only[↓zq,zs,ae,aL,hb.has]
    refine⟨fun h=>by omega,fun _=>⟨fun h=>by omega,fun _=>⟨fun h=>by omega,fun _=>⟨fun h=>by omega,fun _=>?_⟩⟩⟩⟩
    refine aP (DH b l hb q1 (by omega) _ _ (.of [_,_,_]) (by simp) (by simp)) (eX.ne ⟨_,ak,rfl⟩) ?_
    rintro r o ⟨q2,g1,g2,hr,rfl⟩
    obtain⟨s,rfl,hs⟩:=kN.cC (n:=2) (by decide) hr
    simp only[↓zq,zs,ae,zt,aL,hb.has]
    repeat refine⟨by first|omega|(simp only[aq,az,aG];omega),?_⟩
    refine aW (w6 ls a ha s (by omega)) ?_
    simp only[↓zq,zs,ae,Ob.es,aO]
    refine⟨fy _,?_⟩
    refine aP (ih q2 (ls++[s]) _ (.of _) (fun w hw=>by
     rcases aM.1 hw with hw|hw
     ·exact hls w hw
     ·simp at hw;rw[hw];exact hs) (by simp;omega) (by omega)) (eX.ne ⟨[],rfl,by simp⟩) ?_
    rintro r o ⟨q3,e1,e2,⟨s2,rfl,e3⟩,rfl⟩
    simp only[↓zq,zs,ae,zt,aL,hb.has,aq]
    have fin:∀s:List UInt8,s.length<=nv (d+1)->eX b p (nB (d+1)) (gm (nv (d+1))) (.v (.string (mk s))) [.cells [b,.v (.int .i64 (q3:Int))]]:=fun s hs=>⟨q3,by omega,by simp only[nB];omega,⟨s,rfl,hs⟩,rfl⟩
    repeat (first|exact fin _ (by simp only[aq,az,aG,nv];omega)|refine⟨by first|omega|(simp only[aq,az,aG];omega),?_⟩)
end Go.Proofs.Trees
namespace Go.Proofs.Trees
open Go Go.VL Go.RowKit
theorem eX.mono{b:AV}{p c c':Nat}{X Y:AV->Prop}(hc:c<=c')(h:∀r,X r->Y r){r:AV}{o:List Ob}(hr:eX b p c X r o):eX b p c' Y r o:=by
 obtain⟨q,h1,h2,h3,h4⟩:=hr;exact⟨q,h1,by omega,h r h3,h4⟩
theorem gm.le{n m:Nat}(h:n<=m){r:AV}(hr:gm n r):gm m r:=by obtain⟨s,h1,h2⟩:=hr;exact⟨s,h1,by omega⟩
theorem Po(b:AV)(l:List UInt8)(hb:su b l)(p:Nat)(hp:p<qe):an Tryz.prog 143 [.ref 0 0] [.cells [b,.v (.int .i64 (p:Int))]] (eX b p 100 (gm 200)):=by
 refine R5 _ _ hb.has ?_
 unfold KC
 have hfar:qe=1000000000000000:=rfl
 refine aP (vO b l hb p 12 (by omega) (by decide)) (eX.ne ⟨0,rfl,fun h=>by omega,by omega⟩) ?_
 rintro r o ⟨q,h1,h2,⟨k,rfl,_,_⟩,rfl⟩
 have kn:∀(c m:Nat) (r:AV) (o:List Ob),c<=90->m<=200->eX b q c (gm m) r o->∃q':Nat,∃s:List UInt8,r=.v (.string (mk s))/\o=[.cells [b,.v (.int .i64 (q':Int))]]/\eX b p 100 (gm 200) (.v (.string (mk s))) [.cells [b,.v (.int .i64 (q':Int))]]:=by
  rintro c m r o hc hm ⟨q',g1,g2,⟨s,rfl,hs⟩,rfl⟩
  exact⟨q',s,rfl,rfl,q',by omega,by omega,⟨s,rfl,by omega⟩,rfl⟩
 simp only[↓zq,zs,ae,aL,hb.has]
 refine⟨fun _=>?_,fun _=>⟨fun _=>?_,fun _=>⟨fun _=>?_,fun _=>⟨fun _=>?_,fun _=>⟨fun _=>?_,fun _=>?_⟩⟩⟩⟩⟩
 ·refine aP (DH b l hb q (by omega) _ _ (.of [_,_,_,_,_,_,_,_,_]) (by simp) (by simp)) (eX.ne ⟨_,ak,rfl⟩) ?_
  intro r o hr
  obtain⟨q',s,rfl,rfl,hd⟩:=kn 1 20 r o (by omega) (by omega) (hr.mono (au _) fun r h=>kN.cC (n:=20) (by decide) h)
  simp only[↓zq,zs,ae,aL,hb.has];exact hd
 ·refine aP (B7 b l hb q (by omega)) (eX.ne ⟨[],rfl,by simp⟩) ?_
  intro r o hr
  obtain⟨q',s,rfl,rfl,hd⟩:=kn _ _ r o (by omega) (by omega) hr
  simp only[↓zq,zs,ae,aL,hb.has];exact hd
 ·refine aP (B7 b l hb q (by omega)) (eX.ne ⟨[],rfl,by simp⟩) ?_
  intro r o hr
  obtain⟨q',s,rfl,rfl,hd⟩:=kn _ _ r o (by omega) (by omega) hr
  simp only[↓zq,zs,ae,aL,hb.has];exact hd
 ·refine aP (B7 b l hb q (by omega)) (eX.ne ⟨[],rfl,by simp⟩) ?_
  intro r o hr
  obtain⟨q',s,rfl,rfl,hd⟩:=kn _ _ r o (by omega) (by omega) hr
  simp only[↓zq,zs,ae,aL,hb.has];exact hd
 ·refine aP (HS b l hb 2 (by omega) q [[116],[116,49]] _ (cG.of [[116],[116,49]]) (by decide) (by simp) (by simp[nB];omega)) (eX.ne ⟨[],rfl,by simp⟩) ?_
  intro r o hr
  obtain⟨q',s,rfl,rfl,hd⟩:=kn _ _ r o (by simp[nB]) (by simp[nv]) hr
  simp only[↓zq,zs,ae,aL,hb.has];exact hd
 ·refine aP (HS b l hb 3 (by omega) q [] _ (cG.of []) (by simp) (by simp) (by simp[nB];omega)) (eX.ne ⟨[],rfl,by simp⟩) ?_
  intro r o hr
  obtain⟨q',s,rfl,rfl,hd⟩:=kn _ _ r o (by simp[nB]) (by simp[nv]) hr
  simp only[↓zq,zs,ae,aL,hb.has];exact hd
def yT(a:AV):Prop:=LK.sl.has a/\∃l:List UInt8,a.elems=qk l
def OZ(r:AV)(o:List Ob):Prop:=∃(b:AV) (l:List UInt8),su b l/\r=.ref 0 0/\o=[.cells [b,.v (.int .i64 0)]]
theorem OZ.ne:∃r o,OZ r o:=⟨_,_,.v (.slice none 0 0),[],⟨(bp).mpr trivial,rfl,by simp⟩,rfl,rfl⟩
theorem Sk(a:AV)(ha:yT a):an Tryz.prog 32 [a] [] OZ:=by
 obtain⟨hs,l,hl⟩:=ha
 have hln:a.elems.length=l.length:=by rw[hl];simp[qk]
 refine SF _ hs ?_
 simp only[Nj,↓zq,zs,ae,hln]
 refine⟨hs,fun h=>⟨⟨hs,by omega⟩,?_⟩,fun h=>?_⟩
 ·refine⟨_,l.take 2000,⟨(cc _).mpr trivial,?_,?_⟩,rfl,rfl⟩
  ·rw[fD,hl];simp[qk]
  ·simp;omega
 ·exact⟨a,l,⟨hs,hl,by omega⟩,rfl,rfl⟩
end Go.Proofs.Trees
namespace Go.Proofs.Trees
open Go Go.VL Go.RowKit
theorem BO(b:AV)(l:List UInt8)(hb:su b l){e:E}(h:Wf e):∀d:Int,d<=-13->-50000+(e.sz:Int)<=d->e.db<=400->jU b d e (5*e.sz) e.sz:=by
 induction h with
 |
  @atom s hs =>
  intro d h1 h2 h3
  exact(MP b l hb d hs).mono (by simp[E.sz]) (by simp[E.sz])
 |
  @plus x y hx hy i1 i2 =>
  intro d h1 h2 h3
  have h4:=h3
  simp only[E.sz,E.jo,E.db,E.eV]at h2 h4 |-
  exact(Od b l hb d (by omega) hx hy h3 (5*(x.sz+y.sz)+1) (x.sz+y.sz) ((i1 (d-1) (by omega) (by omega) (by omega)).mono (by omega) (by omega)) ((i2 (d-1) (by omega) (by omega) (by omega)).mono (by omega) (by omega)) (by omega)).mono (by omega) (by omega)
 |
  @times x y hx hy i1 i2 =>
  intro d h1 h2 h3
  have h4:=h3
  simp only[E.sz,E.jo,E.db,E.eV]at h2 h4 |-
  exact(Kp b l hb d (by omega) hx hy (5*x.sz+1) x.sz (5*y.sz+1) y.sz ((i1 (d-1) (by omega) (by omega) (by omega)).mono (by omega) (by omega)) ((i2 (d-1) (by omega) (by omega) (by omega)).mono (by omega) (by omega)) (by omega) (by omega)).mono (by omega) (by omega)
 |
  @rc n x hn hx i =>
  intro d h1 h2 h3
  simp only[E.sz,E.jo]at h2 |-
  exact(OL b l hb d (by omega) hn hx h3 1 0 (fun h=>absurd h (by omega)) (by omega)).mono (by omega) (by omega)
def pA:Nat->Nat
 |0=>6100
 |n+1=>2*pA n+5
theorem FQ:∀n,6100<=pA n
 |0=>au _
 |n+1=>by have:=FQ n;simp only[pA];omega
theorem xn:∀n k:Nat,pA (n+k)+5=2 ^ k*(pA n+5)
 |n,0=>by simp
 |
  n,k+1=>by
  have:=xn n k
  rw[show n+(k+1)=n+k+1 from rfl,pA,Nat.pow_succ,Nat.mul_comm (2 ^ k) 2,Nat.mul_assoc,<-this];omega
theorem Ch{n m:Nat}(h:n<=m):pA n<=pA m:=by
 obtain⟨k,rfl⟩:=Nat.exists_eq_add_of_le h
 have:=xn n k
 have h2:1*(pA n+5)<=2 ^ k*(pA n+5):=aZ _ Nat.one_le_two_pow
 omega
theorem JG:pA 22<=30000000000:=by
 have:=xn 0 22
 simp only[aV]at this
 have h0:pA 0=6100:=rfl
 rw[h0]at this
 omega
theorem yh(b:AV)(l:List UInt8)(hb:su b l):∀n:Nat,n<=40->∀e,Wf e->e.db<=400->jU b ((n:Int)-13) e (pA n) (pA n)
 |
  0,hn,e,h,hl=>by
  have:=h.sz
  exact(BO b l hb h _ (by simp) (by simp;omega) hl).mono (by simp only[pA];omega) (by simp only[pA];omega)
 |
  n+1,hn,e,h,hl=>by
  have hb1:=FQ n
  have ih:∀g,Wf g->g.db<=400->jU b (((n+1:Nat):Int)-13-1) g (pA n) (pA n):=by
   rw[show ((n+1:Nat):Int)-13-1=(n:Int)-13 by omega];exact yh b l hb n (by omega)
  cases h with
  |@atom s hs=>exact(MP b l hb _ hs).mono (by simp only[pA];omega) (by simp only[pA];omega)
  |
   @plus x y hx hy =>
   have h4:=hl
   simp only[E.db,E.eV]at h4
   exact(Od b l hb _ (by omega) hx hy hl _ _ (ih x hx (by omega)) (ih y hy (by omega)) (by omega)).mono (by simp only[pA];omega) (by simp only[pA];omega)
  |
   @times x y hx hy =>
   simp only[E.db,E.eV]at hl
   exact(Kp b l hb _ (by omega) hx hy _ _ _ _ (ih x hx (by omega)) (ih y hy (by omega)) (by omega) (by omega)).mono (by simp only[pA];omega) (by simp only[pA];omega)
  |@rc m x hm hx=>exact(OL b l hb _ (by omega) hm hx hl _ _ (fun _=>ih) (by omega)).mono (by simp only[pA];omega) (by simp only[pA];omega)
theorem Lz(b:AV)(l:List UInt8)(hb:su b l)(p:Nat)(hp:p<100000000000000)(s:Nm):an Tryz.prog 39 [.ref 0 0,.v (.string (mk s))] [.cells [b,.v (.int .i64 (p:Int))]] (eX b p 40000000000 (gm 40000000000)):=by
 refine QF _ _ _ hb.has ?_
 have hfar:qe=1000000000000000:=rfl
 have oneL:∀(q:Nat) (r:AV) (o:List Ob),p<=q->q<=p+1->eX b q 1 (kN [[],[117],[101,48],[101,48,48],[101,49,48,48],[40,108,32,117,41],[40,112,32,117,41],[40,102,32,40,108,32,117,41,41],[40,120,32,117,41],[40,108,32,32,117,41]]) r o->∃q':Nat,∃t:List UInt8,r=.v (.string (mk t))/\o=[.cells [b,.v (.int .i64 (q':Int))]]/\eX b p 40000000000 (gm 40000000000) (.v (.string (mk t))) [.cells [b,.v (.int .i64 (q':Int))]]:=by
  rintro q r o h1 h2 ⟨q',g1,g2,hr,rfl⟩
  obtain⟨t,rfl,ht⟩:=kN.cC (n:=20) (by decide) hr
  exact⟨q',t,rfl,rfl,q',by omega,by omega,⟨t,rfl,by omega⟩,rfl⟩
 unfold Nz
 refine aP (HZ s) (jI.ne _ _ (fun h=>h)) ?_
 rintro r o ⟨c,d,hd,rfl,hh⟩
 have hhas:bD [.str,.sl] [.v (.string (mk c)),d] 0:=by simp[bD,dW,hd]
 simp only[↓zq,zs,ae,zt]
 refine⟨hhas,fun h=>?_,fun h=>?_⟩
 ·refine aP (DH b l hb p (by omega) _ _ (.of [_,_,_,_,_,_,_,_,_,_]) (by simp) (by simp)) (eX.ne ⟨_,ak,rfl⟩) ?_
  intro r o hr
  obtain⟨q',t,rfl,rfl,hd⟩:=oneL p r o (au _) (by omega) hr
  simp only[↓zq,zs,ae,aL,hb.has];exact hd
 ·obtain⟨e,he,hce⟩:=hh (by simpa using h)
  obtain⟨t,h1,hA,h3,h4,h5,_⟩:=gU he
  rw[dk]at hce
  simp only[AV.agg.injEq,List.cons.injEq,AV.v.injEq,Value.string.injEq,and_true]at hce
  obtain⟨hc1,rfl⟩:=hce
  have hc2:=mk_inj hc1
  subst hc2
  obtain⟨hw,hwt⟩:=kg e [] t hA.ok (by simp) hA.ty
  have hats:e.db<=400:=by rw[hw.db [],hwt];exact h5
  have hsz:=hw.sz
  refine aP (vO b l hb p 16 (by omega) (by decide)) (eX.ne ⟨0,rfl,fun h=>by omega,by omega⟩) ?_
  rintro r o ⟨q,h1,h2,⟨k,rfl,_,_⟩,rfl⟩
  simp only[↓zq,zs,ae,aL,hb.has]
  refine⟨fun _=>?_,fun _=>?_⟩
  ·refine aP (DH b l hb q (by omega) _ _ (.of [_,_,_,_,_,_,_,_,_,_]) (by simp) (by simp)) (eX.ne ⟨_,ak,rfl⟩) ?_
   intro r o hr
   obtain⟨q',t,rfl,rfl,hd⟩:=oneL q r o h1 h2 hr
   simp only[↓zq,zs,ae,aL,hb.has];exact hd
  ·obtain⟨w1,w2,_⟩:=xi (os:=[]) hw
   have hap:=Dn hw (.v (.slice none 0 0)) [] ⟨(bp).mpr trivial,rfl⟩ (by omega) (by simp) (by simp)
   refine aj hap ?_
   simp only[↓zq,zs,ae,zt,aK]
   repeat refine⟨by omega,?_⟩
   have hats2:(Aa e []).db<=400:=by rw[w1.db [],w2,<-hw.db []];exact hats
   refine aP (vO b l hb q 5 (by omega) (by decide)) (eX.ne ⟨0,rfl,fun h=>by omega,by omega⟩) ?_
   rintro r o ⟨q1,g1,g2,⟨k1,rfl,c3,_⟩,rfl⟩
   have hk1:=c3 (by omega)
   simp only[↓zq,zs,ae,zt,aL,hb.has,aK]
   have ed:IntKind.wrap .i64 (5+(k1:Int))=((18+k1:Nat):Int)-13:=by rw[VL.wrap64 _ (by omega) (by omega)];omega
   have hB:=JG
   have hB2:pA (18+k1)<=pA 22:=Ch (by omega)
   have hB3:=FQ (18+k1)
   rw[ed]
   refine aP (yh b l hb (18+k1) (by omega) (Aa e []) w1 hats2 q1 (by omega)) (oC b q1 _ _ (by omega)) ?_
   rintro r o ⟨q2,d1,d2,⟨f,rfl,f1,f2⟩,rfl⟩
   simp only[↓zq,zs,ae,zt,aL,hb.has,aK]
   repeat refine⟨by omega,?_⟩
   have ht:=Eg (f.sz+1) f (by omega) f1 (by omega)
   rw[dk]at ht
   refine aj ht ?_
   simp only[↓zq,zs,ae,zt,aL,hb.has,aK]
   exact⟨q2,by omega,by omega,⟨e9 f,rfl,by omega⟩,rfl⟩
theorem Ph(b:AV)(l:List UInt8)(hb:su b l)(p:Nat)(hp:p<100000000000000):an Tryz.prog 106 [.ref 0 0] [.cells [b,.v (.int .i64 (p:Int))]] (eX b p 200 (gm 200)):=by
 refine PJ _ _ hb.has ?_
 unfold LL
 have hfar:qe=1000000000000000:=rfl
 refine aP (vO b l hb p 8 (by omega) (by decide)) (eX.ne ⟨0,rfl,fun h=>by omega,by omega⟩) ?_
 rintro r o ⟨q,h1,h2,⟨k,rfl,_,_⟩,rfl⟩
 have kn:∀(c m:Nat) (r:AV) (o:List Ob),c<=190->m<=200->eX b q c (gm m) r o->∃q':Nat,∃s:List UInt8,r=.v (.string (mk s))/\o=[.cells [b,.v (.int .i64 (q':Int))]]/\eX b p 200 (gm 200) (.v (.string (mk s))) [.cells [b,.v (.int .i64 (q':Int))]]:=by
  rintro c m r o hc hm ⟨q',g1,g2,⟨s,rfl,hs⟩,rfl⟩
  exact⟨q',s,rfl,rfl,q',by omega,by omega,⟨s,rfl,by omega⟩,rfl⟩
 have sh:=HS b l hb 3 (by omega) q [] _ (cG.of []) (by simp) (by simp) (by simp[nB];omega)
 have ty:=Po b l hb q (by omega)
 have kw:=B7 b l hb q (by omega)
 simp only[↓zq,zs,ae,aL,hb.has]
 refine⟨fun _=>?_,fun _=>⟨fun _=>?_,fun _=>⟨fun _=>?_,fun _=>⟨fun _=>?_,fun _=>?_⟩⟩⟩⟩
 ·refine aP ty (eX.ne ⟨[],rfl,by simp⟩) ?_
  intro r o hr
  obtain⟨q',s,rfl,rfl,hd⟩:=kn _ _ r o (by omega) (by omega) hr
  simp only[↓zq,zs,ae,aL,hb.has];exact hd
 ·refine aP sh (eX.ne ⟨[],rfl,by simp⟩) ?_
  intro r o hr
  obtain⟨q',s,rfl,rfl,hd⟩:=kn _ _ r o (by simp[nB]) (by simp[nv]) hr
  simp only[↓zq,zs,ae,aL,hb.has];exact hd
 ·refine aP sh (eX.ne ⟨[],rfl,by simp⟩) ?_
  intro r o hr
  obtain⟨q',s,rfl,rfl,hd⟩:=kn _ _ r o (by simp[nB]) (by simp[nv]) hr
  simp only[↓zq,zs,ae,aL,hb.has];exact hd
 ·refine aP sh (eX.ne ⟨[],rfl,by simp⟩) ?_
  intro r o hr
  obtain⟨q',s,rfl,rfl,hd⟩:=kn _ _ r o (by simp[nB]) (by simp[nv]) hr
  simp only[↓zq,zs,ae,aL,hb.has];exact hd
 ·refine aP kw (eX.ne ⟨[],rfl,by simp⟩) ?_
  intro r o hr
  obtain⟨q',s,rfl,rfl,hd⟩:=kn _ _ r o (by omega) (by omega) hr
  simp only[↓zq,zs,ae,aL,hb.has];exact hd
def LF:AV->Prop:=fun r=>∃s t:Nm,r=.cI [.v (.string (mk s)),.v (.string (mk t))]
theorem QA(b:AV)(l:List UInt8)(hb:su b l)(p:Nat)(hp:p<10000000000000):an Tryz.prog 76 [.ref 0 0] [.cells [b,.v (.int .i64 (p:Int))]] (eX b p 50000000000 LF):=by
 refine PL _ _ hb.has ?_
 unfold Nt
 refine aP (Ph b l hb p (by omega)) (eX.ne ⟨[],rfl,by simp⟩) ?_
 rintro r o ⟨q,h1,h2,⟨s,rfl,_⟩,rfl⟩
 simp only[↓zq,zs,ae,aL,hb.has]
 refine aP (Lz b l hb q (by omega) s) (eX.ne ⟨[],rfl,by simp⟩) ?_
 rintro r o ⟨q1,g1,g2,⟨t,rfl,_⟩,rfl⟩
 simp only[↓zq,zs,ae,aL,hb.has]
 exact⟨q1,by omega,by omega,⟨s,t,rfl⟩,rfl⟩
theorem SC(b:AV)(l:List UInt8)(hb:su b l)(p:Nat)(hp:p<1000000000000):an Tryz.prog 53 [.ref 0 0] [.cells [b,.v (.int .i64 (p:Int))]] (eX b p 60000000000 LF):=by
 refine Pu _ _ hb.has ?_
 unfold OF
 have hfar:qe=1000000000000000:=rfl
 refine aP (B7 b l hb p (by omega)) (eX.ne ⟨[],rfl,by simp⟩) ?_
 rintro r o ⟨q,h1,h2,⟨s,rfl,_⟩,rfl⟩
 simp only[↓zq,zs,ae,aL,hb.has]
 refine aP (vO b l hb q 12 (by omega) (by decide)) (eX.ne ⟨0,rfl,fun h=>by omega,by omega⟩) ?_
 rintro r o ⟨q1,g1,g2,⟨k,rfl,_,_⟩,rfl⟩
 simp only[↓zq,zs,ae,aL,hb.has]
 refine⟨fun _=>?_,fun _=>?_⟩
 ·refine aP (QA b l hb q1 (by omega)) (eX.ne ⟨[],[],rfl⟩) ?_
  rintro r o ⟨q2,e1,e2,⟨x,y,rfl⟩,rfl⟩
  simp only[↓zq,zs,ae,zt,aL,hb.has]
  exact⟨q2,by omega,by omega,⟨x,y,rfl⟩,rfl⟩
 ·refine aP (Lz b l hb q1 (by omega) s) (eX.ne ⟨[],rfl,by simp⟩) ?_
  rintro r o ⟨q2,e1,e2,⟨t,rfl,_⟩,rfl⟩
  simp only[↓zq,zs,ae,aL,hb.has]
  exact⟨q2,by omega,by omega,⟨s,t,rfl⟩,rfl⟩
end Go.Proofs.Trees
namespace Go.Proofs.Trees
open Go Go.VL Go.RowKit
theorem Ci(w:Nm)(c1 c2:Nm)(d1 d2:AV):an Tryz.prog 81 [.v (.string (mk w)),.sl [[.v (.string (mk c1)),d1],[.v (.string (mk c2)),d2]]] [] (bJ (.agg [.v (.string (mk [])),.sl [[.v (.string (mk w)),Au],[.v (.string (mk c1)),d1],[.v (.string (mk c2)),d2]]])):=by
 refine Lc _ _ ((cc _).mpr trivial) ?_
 simp only[Gy,↓zq,zs,ae,bJ]
 exact⟨⟨fun c hc=>by
  simp only[aJ,List.not_mem_nil,or_false]at hc
  rcases hc with rfl|rfl<;>rfl,by omega⟩,rfl⟩
theorem Mt(F:List Nm)(hF:F.length<100000)(c1 c2:Nm)(d1 d2:AV)(h1:LK.sl.has d1)(h2:LK.sl.has d2):∀(n j:Nat),qi F n j<j+n->j+n<100000000 ->
 HY [.v (.int .i64 (j:Int))] [zE,.cells [.v (.string (mk c1)),d1],.cells [.v (.string (mk c2)),d2],.vec 1 (bL F)] (ib 1 [.v (.int .i64 (qi F n j:Int))] [zE,.cells [.v (.string (mk c1)),d1],.cells [.v (.string (mk c2)),d2]])
 |0,j,h,_=>by simp only[qi]at h;omega
 |
  n+1,j,h,hj=>by
  refine R7 _ _ _ _ _ _ _ _ ?_
  simp only[JX,↓zq,zs,ae,zt,ae,bp,h1,h2]
  refine aj (Ao (j+1) j (by omega) (by omega)) ?_
  have hd:=mR (j+1) j (by omega)
  simp only[↓zq,zs,ae,zt,bb,aU]
  refine⟨by simp[cM];omega,?_⟩
  refine aj (wY F _ (.of F) (tN j) (by omega)) ?_
  simp only[↓zq,zs,ae,zt]
  rw[qi]at h |-
  refine⟨fun hm=>?_,fun hm=>?_⟩
  ·rw[if_pos hm]at h |-
   rw[bA j (by omega)]
   exact Mt F hF c1 c2 d1 d2 h1 h2 n (j+1) (by omega) (by omega)
  ·rw[if_neg hm]
   exact⟨rfl,rfl,rfl⟩
theorem uW{x:Nm}{a c d:Ty}(h:(pO a x c d).atoms<=400):(sub x (.rc a) c).atoms<=400/\(sub x (.rc a) d).atoms<=400:=by
 simp only[pO,Ty.atoms]at h;omega
theorem Wf.iS{e:E}(h:Wf e){t:Ty}(ht:cS e []=t)(hl:t.atoms<=400):e.db<=400:=by rw[h.db [],ht];exact hl
def SQ(n:Nat):Prop:=∀(e:E) (s:Nm),Wf e->e.db<=n->e.db<=400->qU s->an Tryz.prog 122 [.agg [.v (.string (mk e.at)),e.sp],.v (.string (mk s))] [] (lh (lW (cS e []) s))
theorem ke{e:E}{s:Nm}(h:Wf e):∀t,lW (cS e []) s=some t->fW t:=fun t ht=>h.qw.dv (cR.1 ht)
theorem rC{t:Ty}(h:fW t):∀d,nH t=some d->fW d:=fun d hd=>by obtain⟨_,rfl⟩:=eS.1 hd;exact h
theorem PE(n:Nat)(ih:SQ n)(m:Nm)(B:E)(hm:qU m)(hB:Wf B)(hl:(E.list [.atom dF,.atom m,B]).db<=n+1)(hl4:(E.list [.atom dF,.atom m,B]).db<=400)(s:Nm)(hs:qU s) :
 an Tryz.prog 147 [.agg [.v (.string (mk [])),(E.list [.atom dF,.atom m,B]).sp],.v (.string (mk s))] [] (lh (lW (cS (.list [.atom dF,.atom m,B]) []) s)):=by
 have hw:Wf (.list [.atom dF,.atom m,B]):=.rc hm hB
 have hsz:=hw.sz
 have hA:=Dn hw (.sl [[.v (.string (mk s)),Au]]) [.atom s] ⟨(cc _).mpr trivial,by simp only[fD,E.bw,fJ];rfl⟩ (by omega) (fun o ho=>by
  simp only[aJ,List.not_mem_nil,or_false]at ho
  subst ho
  exact⟨.atom hs.1,by simp[E.sz]⟩) (by simp)
 have hatsB:B.db+2=(E.list [.atom dF,.atom m,B]).db:=by simp only[E.db,E.eV];omega
 have hT:cS (.list [.atom dF,.atom m,B]) []=.rc (cS B [m]):=fk _ _ _
 obtain⟨w1,w2,_,_,w5⟩:=kE (AA (.list [.atom dF,.atom m,B]) [.atom s]) (cS (.list [.atom dF,.atom m,B]) []) [] 0 (.nil _ _) (uD hw []) fun y hy=>⟨aD _ ((l4 hw [] [] y).2 (.inr hy)),(ns hw [] y hy).1⟩
 have hsF:s∈AA (.list [.atom dF,.atom m,B]) [.atom s]:=aB _ (rW (o:=.atom s) (by simp) (.atom hs.1) (by rw[qZ hs];simp[bj]))
 have haF:∀y,bj y (cS B [m])=true->y∈AA (.list [.atom dF,.atom m,B]) [.atom s]:=fun y hy=>aD _ ((l4 hw [] [] y).2 (.inr (by rw[hT];exact hy)))
 unfold Aa at hA
 rw[hT]at hA w1 w2 w5
 rw[hT]
 generalize AA (.list [.atom dF,.atom m,B]) [.atom s]=F at *
 obtain⟨_,_,_,hxF⟩:=gB F 0
 simp only[gZ,aU]at hA w1 w2 w5
 generalize hxd:tN (nx F 0)=x at *
 have hx:qU x:=by rw[<-hxd];exact yQ _
 generalize (gZ F (cS B [m]) [x] (nx F 0+1)).1=b at *
 have hb:Wf b:=by cases w1;assumption
 rw[fk]at w2
 have hbt:cS b [x]=cS B [m]:=by injection w2
 have hxa:bj x (cS B [m])=false:=by
  cases q:bj x (cS B [m])with
  |false=>rfl
  |true=>exact absurd (haF x q) hxF
 have hxs:x≠s:=fun e=>hxF (by rw[e];exact hsF)
 generalize cS B [m]=a at *
 have hbo:cS b []=dB (.name x) a 0:=by
  have:=yg x hb []
  rw[cP,hbt]at this;exact this
 have hba:b.db+2=(E.list [.atom dF,.atom m,B]).db:=by
  rw[hw.db [],hT,hb.db [],hbo,fH];simp only[Ty.atoms];omega
 have i1:=ih b s hb (by omega) (by omega) hs
 have i2:=ih b x hb (by omega) (by omega) hx
 have n1:=ke (s:=s) hb
 have n2:=ke (s:=x) hb
 rw[hbo]at i1 i2 n1 n2
 have hP:=P3.of (.atom dF) (.atom x) b
 rw[Bx hxa hxs]
 have hE1:Wf (.list [.atom dF,.atom x,b]):=w1
 have hE1t:cS (.list [.atom dF,.atom x,b]) []=.rc a:=by rw[fk];exact w2
 have hE1l:(E.list [.atom dF,.atom x,b]).db<=400:=by
  have:(E.list [.atom dF,.atom x,b]).db=b.db+2:=by simp only[E.db,E.eV];omega
  omega
 refine P9 _ _ _ ((aX _).mpr trivial) ?_
 unfold Ld
 refine aj hA ?_
 simp only[↓zq,zs,ae,zt,aK,bK,toNat_one,bf,hP.1,hP.2.1,hP.2.2.1,hP.2.2.2,dS]
 repeat refine⟨by omega,?_⟩
 refine aP i1 (lh.ne n1) ?_
 rintro r o ⟨rfl,c1,d1,hd1,rfl,hc1⟩
 simp only[↓zq,zs,ae,zt,gu hd1]
 repeat refine⟨by omega,?_⟩
 refine aP i2 (lh.ne n2) ?_
 rintro r o ⟨rfl,c2,d2,hd2,rfl,hc2⟩
 simp only[↓zq,zs,ae,zt,gu hd2]
 cases q1:lW (dB (.name x) a 0) s with
 |
  none =>
  simp only[bu,bT]
  exact⟨fun _=>lh.no _ _ ((aX _).mpr trivial),fun h=>(by cases h)⟩
 |some c =>
 cases q2:lW (dB (.name x) a 0) x with
 |
  none =>
  simp only[bu,a8,bT,ba]
  exact⟨fun h=>(by cases h),fun _=>⟨fun _=>lh.no _ _ ((aX _).mpr trivial),fun h=>(by cases h)⟩⟩
 |some d =>
 simp only[a8,ba]
 refine⟨fun h=>(by cases h),fun _=>⟨fun h=>(by cases h),fun _=>?_⟩⟩
 obtain⟨ec,wc,tc,rfl,rfl⟩:=hc1 c q1
 obtain⟨ed,wd,td,rfl,rfl⟩:=hc2 d q2
 have lc:=(cR.1 q1).small
 have ld:=(cR.1 q2).small
 have p1:=Gx hx wc hE1 (wc.iS tc lc) hE1l
 have p2:=Gx hx wd hE1 (wd.iS td ld) hE1l
 have g1:=rC (hE1.qw.sub (x:=x) wc.qw)
 have g2:=rC (hE1.qw.sub (x:=x) wd.qw)
 rw[hE1t,tc]at p1 g1
 rw[hE1t,td]at p2 g2
 simp only[bK]at p1 p2
 repeat refine⟨by omega,?_⟩
 refine aP p1 (lh.ne g1) ?_
 rintro r o ⟨rfl,c3,d3,hd3,rfl,hc3⟩
 simp only[↓zq,zs,ae,zt,gu hd3]
 repeat refine⟨by omega,?_⟩
 refine aP p2 (lh.ne g2) ?_
 rintro r o ⟨rfl,c4,d4,hd4,rfl,hc4⟩
 simp only[↓zq,zs,ae,zt,gu hd4]
 have big:∀t:Ty,nH t=none->¬t.atoms<=400:=fun t ht hle=>by unfold nH at ht;rw[if_pos hle]at ht;cases ht
 have out0:(nH (sub x (.rc a) c)=none\/nH (sub x (.rc a) d)=none)->nH (pO a x c d)=none:=fun h=>by
  unfold nH
  rw[if_neg fun hle=>?_]
  have:=uW hle
  rcases h with h|h
  ·exact big _ h this.1
  ·exact big _ h this.2
 cases q3:nH (sub x (.rc a) c)with
 |
  none =>
  rw[out0 (.inl q3)]
  simp only[bu]
  exact⟨fun _=>lh.no _ _ ((aX _).mpr trivial),fun h=>(by cases h)⟩
 |some c' =>
 cases q4:nH (sub x (.rc a) d)with
 |
  none =>
  rw[out0 (.inr q4)]
  simp only[bu,a8]
  exact⟨fun h=>(by cases h),fun _=>⟨fun _=>lh.no _ _ ((aX _).mpr trivial),fun h=>(by cases h)⟩⟩
 |some d' =>
 simp only[a8]
 refine⟨fun h=>(by cases h),fun _=>⟨fun h=>(by cases h),fun _=>?_⟩⟩
 obtain⟨ec',wc',tc',rfl,rfl⟩:=hc3 c' q3
 obtain⟨ed',wd',td',rfl,rfl⟩:=hc4 d' q4
 obtain⟨lc',e3⟩:=eS.1 q3
 obtain⟨ld',e4⟩:=eS.1 q4
 rw[e3]at lc';rw[e4]at ld'
 have z1:=wc'.sz
 have z2:=wd'.sz
 have k1:=wc'.iS tc' lc'
 have k2:=wd'.iS td' ld'
 have f1:=DV wd' [] [] (.sl []) (.of []) (by simp;omega)
 have fl1:=fX ed' [] []
 have fl2:=fX ec' [] (kp ed' [] [])
 simp only[aG,aV]at fl1
 have f2:=DV wc' [] (kp ed' [] []) (.sl []) (.of []) (by simp;omega)
 refine aW f1 ?_
 simp only[↓zq,zs,ae,zt,aO,bz,Ob.es]
 refine aW f2 ?_
 simp only[↓zq,zs,ae,zt,aO,bz,Ob.es]
 have hF3:∀y,(bj y c'=true\/bj y d'=true)->y∈kp ec' [] (kp ed' [] []):=fun y hy=>by
  rw[l4 wc',l4 wd']
  rcases hy with hy|hy
  ·exact .inr (by rw[tc'];exact hy)
  ·exact .inl (.inr (by rw[td'];exact hy))
 generalize kp ec' [] (kp ed' [] [])=F3 at *
 obtain⟨_,y2,_,hyF⟩:=gB F3 0
 refine cD (Mt F3 (by omega) _ _ _ _ ((aX _).mpr trivial) ((aX _).mpr trivial) (F3.length+1) 0 (by show nx F3 0<_;omega) (by omega)) ?_
 have hnx:qi F3 (F3.length+1) 0=nx F3 0:=rfl
 rw[hnx]
 simp only[↓zq,zs,ae,zt,ae,aL,bp,aX]
 refine aj (Ao (nx F3 0+1) (nx F3 0) (by omega) (by omega)) ?_
 have hdl:=mR (nx F3 0+1) (nx F3 0) (by omega)
 simp only[↓zq,zs,ae,zt,bb,aU]
 refine⟨by omega,?_⟩
 obtain⟨y,hyd⟩:∃y:Nm,(116::dd (nx F3 0):Nm)=y:=⟨_,rfl⟩
 rw[hyd]
 rw[show tN (nx F3 0)=y from hyd]at hyF
 have hy:qU y:=by rw[<-hyd];exact yQ _
 have hcy:cS ec' [y]=c':=by
  have:=uG [y] wc' [] (fun z hz hm=>hyF (by
   simp only[aQ]at hm
   rw[<-hm];exact hF3 z (.inl (by rw[<-tc'];exact hz))))
  rw[cP,tc']at this;exact this
 have hdy:cS ed' [y]=d':=by
  have:=uG [y] wd' [] (fun z hz hm=>hyF (by
   simp only[aQ]at hm
   rw[<-hm];exact hF3 z (.inr (by rw[<-td'];exact hz))))
  rw[cP,td']at this;exact this
 have hyb:cS (.atom y) [y]=.bound 0:=by
  simp only[cS];rw[if_neg hy.2.1,if_neg hy.2.2,show bO y [y] [y].length=some 0 from fm y []]
 let o1:E:=.list [.atom [42],ed',.atom y]
 let o2:E:=.list [.atom [43],ec',o1]
 let o3:E:=.list [.atom dF,.atom y,o2]
 have hw3:Wf o3:=.rc hy (.plus wc' (.times wd' (.atom hy.1)))
 have ht3:cS o3 []=pO a x c d:=by
  show cS (.list [.atom dF,.atom y,o2]) []=_
  rw[fk]
  show Ty.rc (cS (.list [.atom [43],ec',o1]) [y])=_
  rw[dM]
  show Ty.rc (.plus (cS ec' [y]) (cS (.list [.atom [42],ed',.atom y]) [y]))=_
  rw[dw,hcy,hdy,hyb,pO,e3,e4]
 have m1:=wJ [42] ed' (.atom y)
 have m2:=wJ [43] ec' o1
 have m3:=wJ dF (.atom y) o2
 simp only[o1,bK,dS]at m1 m2 m3
 refine aj m1 ?_
 simp only[↓zq,zs,ae,zt,aK]
 repeat refine⟨by omega,?_⟩
 refine aj m2 ?_
 simp only[↓zq,zs,ae,zt,aK]
 repeat refine⟨by omega,?_⟩
 refine aj m3 ?_
 simp only[↓zq,zs,ae,zt,aK]
 repeat refine⟨by omega,?_⟩
 have z3:=hw3.sz
 have hats3:o3.db=ec'.db+ed'.db+5:=by simp only[o3,o2,o1,E.db,E.eV];omega
 have ma:=CS o3 hw3.ok (by omega)
 rw[dk]at ma
 simp only[o3,o2,o1,bK]at ma
 refine aj ma ?_
 simp only[↓zq,zs,ae,zt]
 have hd3:(pO a x c d).atoms=o3.db:=by rw[<-ht3,<-hw3.db []]
 unfold nH
 by_cases hle:(pO a x c d).atoms<=400
 ·rw[if_pos hle]
  have:=lh.of hw3
  rw[ht3]at this
  rw[show decide ((((E.list [.atom dF,.atom y,.list [.atom [43],ec',.list [.atom [42],ed',.atom y]]]).db:Nat):Int)<=400)=true from decide_eq_true (by show ((o3.db:Nat):Int)<=400;omega)]
  exact this
 ·rw[if_neg hle]
  rw[show decide ((((E.list [.atom dF,.atom y,.list [.atom [43],ec',.list [.atom [42],ed',.atom y]]]).db:Nat):Int)<=400)=false from decide_eq_false (by show ¬((o3.db:Nat):Int)<=400;omega)]
  exact lh.no _ _ ((aX o3).mpr trivial)
theorem zW:∀n,SQ n
 |0=>fun e s h hl=>by have:=ej (cS e []);rw[<-h.db []]at this;omega
 |
  n+1=>by
  intro e s h hl h4 hs
  cases h with
  |
   @atom c hc =>
   refine D7 _ _ _ ((aX _).mpr trivial) ?_
   simp only[Cs,dS,↓zq,zs,ae,zt]
   refine⟨fun _=>⟨fun he=>?_,fun hne=>?_⟩,fun h=>absurd h hc⟩
   ·have he:c=s:=he
    subst he
    rw[qZ hs,oB,if_pos rfl]
    exact lh.of (e:=.atom [49]) (.atom (by simp))
   ·have hne:¬c=s:=hne
    have:lW (cS (.atom c) []) s=some .zero:=by
     simp only[cS]
     split
     ·exact vj _
     ·split
      ·exact yz _
      ·rw[show bO c [] ([]:List Nm).length=none from rfl,oB,if_neg hne]
    rw[this]
    exact lh.of (e:=.atom [48]) (.atom (by simp))
  |
   @plus x y hx hy =>
   have hxy:(E.list [.atom [43],x,y]).db=x.db+y.db+1:=by simp only[E.db,E.eV];omega
   have p1:1<=x.db:=by rw[hx.db []];exact ej _
   have p2:1<=y.db:=by rw[hy.db []];exact ej _
   refine D7 _ _ _ ((aX _).mpr trivial) ?_
   have hP:=P3.of (.atom [43]) x y
   simp only[Cs,bK,toNat_one,bf,↓zq,zs,ae,zt,hP.1,hP.2.1,hP.2.2.1,hP.2.2.2,aK]
   refine⟨fun h=>absurd rfl h,fun _=>?_⟩
   refine aj (n8 [43] x y) ?_
   simp only[↓zq,zs,ae,zt]
   refine⟨fun h=>by simp at h,fun _=>?_⟩
   repeat refine⟨by omega,?_⟩
   rw[dM,vo]
   refine aP (zW n x s hx (by omega) (by omega) hs) (lh.ne (ke hx)) ?_
   rintro r o ⟨rfl,c1,d1,hd1,rfl,hc1⟩
   simp only[↓zq,zs,ae,zt,gu hd1]
   repeat refine⟨by omega,?_⟩
   refine aP (zW n y s hy (by omega) (by omega) hs) (lh.ne (ke hy)) ?_
   rintro r o ⟨rfl,c2,d2,hd2,rfl,hc2⟩
   simp only[↓zq,zs,ae,zt,gu hd2]
   refine aj (Ci [43] c1 c2 d1 d2) ?_
   simp only[↓zq,zs,ae,zt,bD,dW,cc]
   repeat refine⟨by omega,?_⟩
   refine aj (n8 [43] x y) ?_
   simp only[↓zq,zs,ae,zt]
   refine⟨fun h=>by simp at h,fun _=>?_⟩
   cases q1:lW (cS x []) s with
   |
    none =>
    simp only[bu,bT]
    exact⟨fun h=>(by cases h),fun _=>lh.no _ _ ((cc _).mpr trivial)⟩
   |some tx =>
   cases q2:lW (cS y []) s with
   |
    none =>
    simp only[bu,a8,bT,ba]
    exact⟨fun _=>⟨fun h=>(by cases h),fun _=>lh.no _ _ ((cc _).mpr trivial)⟩,fun h=>(by cases h)⟩
   |some t2 =>
   simp only[a8,ba]
   refine⟨fun _=>⟨fun _=>?_,fun h=>(by cases h)⟩,fun h=>(by cases h)⟩
   obtain⟨e1,w1,te1,rfl,rfl⟩:=hc1 tx q1
   obtain⟨e2,w2,te2,rfl,rfl⟩:=hc2 t2 q2
   have l1:=w1.iS te1 (cR.1 q1).small
   have l2:=w2.iS te2 (cR.1 q2).small
   have z1:=w1.sz
   have z2:=w2.sz
   have hw3:Wf (.list [.atom [43],e1,e2]):=.plus w1 w2
   have ht3:cS (.list [.atom [43],e1,e2]) []=.plus tx t2:=by rw[dM,te1,te2]
   have ma:=CS _ hw3.ok (by simp only[E.sz,E.jo];omega)
   rw[dk]at ma
   simp only[bK]at ma
   have e3:AV.sl [[.v (.string (mk [43])),Au],[.v (.string (mk e1.at)),e1.sp],[.v (.string (mk e2.at)),e2.sp]]=(E.list [.atom [43],e1,e2]).sp:=by simp only[E.sp,E.bw,fJ];rfl
   rw[e3]
   refine aj ma ?_
   simp only[↓zq,zs,ae,zt]
   have hd3:(Ty.plus tx t2).atoms=(E.list [.atom [43],e1,e2]).db:=by rw[<-ht3,<-hw3.db []]
   unfold nH
   by_cases hle:(Ty.plus tx t2).atoms<=400
   ·rw[if_pos hle,show decide ((((E.list [.atom [43],e1,e2]).db:Nat):Int)<=400)=true from decide_eq_true (by omega)]
    have:=lh.of hw3
    rw[ht3]at this
    exact this
   ·rw[if_neg hle,show decide ((((E.list [.atom [43],e1,e2]).db:Nat):Int)<=400)=false from decide_eq_false (by omega)]
    exact lh.no _ _ ((aX _).mpr trivial)
  |
   @times x y hx hy =>
   have hxy:(E.list [.atom [42],x,y]).db=x.db+y.db+1:=by simp only[E.db,E.eV];omega
   have p1:1<=x.db:=by rw[hx.db []];exact ej _
   have p2:1<=y.db:=by rw[hy.db []];exact ej _
   refine D7 _ _ _ ((aX _).mpr trivial) ?_
   have hP:=P3.of (.atom [42]) x y
   simp only[Cs,bK,toNat_one,bf,↓zq,zs,ae,zt,hP.1,hP.2.1,hP.2.2.1,hP.2.2.2,aK]
   refine⟨fun h=>absurd rfl h,fun _=>?_⟩
   refine aj (n8 [42] x y) ?_
   simp only[↓zq,zs,ae,zt]
   refine⟨fun h=>by simp at h,fun _=>?_⟩
   repeat refine⟨by omega,?_⟩
   rw[dw,s4]
   refine aP (zW n x s hx (by omega) (by omega) hs) (lh.ne (ke hx)) ?_
   rintro r o ⟨rfl,c1,d1,hd1,rfl,hc1⟩
   simp only[↓zq,zs,ae,zt,gu hd1]
   repeat refine⟨by omega,?_⟩
   refine aP (zW n y s hy (by omega) (by omega) hs) (lh.ne (ke hy)) ?_
   rintro r o ⟨rfl,c2,d2,hd2,rfl,hc2⟩
   simp only[↓zq,zs,ae,zt,gu hd2]
   refine aj (Ci [43] c1 c2 d1 d2) ?_
   simp only[↓zq,zs,ae,zt,bD,dW,cc]
   repeat refine⟨by omega,?_⟩
   refine aj (n8 [42] x y) ?_
   simp only[↓zq,zs,ae,zt]
   refine⟨fun _=>?_,fun h=>by simp at h⟩
   repeat refine⟨by omega,?_⟩
   refine aj (Ci [42] c1 y.at d1 y.sp) ?_
   simp only[↓zq,zs,ae,zt,bD,dW,cc,aX]
   repeat refine⟨by omega,?_⟩
   refine aj (Ci [42] x.at c2 x.sp d2) ?_
   simp only[↓zq,zs,ae,zt,bD,dW,cc,aX]
   repeat refine⟨by omega,?_⟩
   refine aj (Ci [43] [] [] _ _) ?_
   simp only[↓zq,zs,ae,zt,bD,dW,cc]
   repeat refine⟨by omega,?_⟩
   cases q1:lW (cS x []) s with
   |
    none =>
    simp only[bu,bT]
    exact⟨fun h=>(by cases h),fun _=>lh.no _ _ ((cc _).mpr trivial)⟩
   |some tx =>
   cases q2:lW (cS y []) s with
   |
    none =>
    simp only[bu,a8,bT,ba]
    exact⟨fun _=>⟨fun h=>(by cases h),fun _=>lh.no _ _ ((cc _).mpr trivial)⟩,fun h=>(by cases h)⟩
   |some t2 =>
   simp only[a8,ba]
   refine⟨fun _=>⟨fun _=>?_,fun h=>(by cases h)⟩,fun h=>(by cases h)⟩
   obtain⟨e1,w1,te1,rfl,rfl⟩:=hc1 tx q1
   obtain⟨e2,w2,te2,rfl,rfl⟩:=hc2 t2 q2
   have l1:=w1.iS te1 (cR.1 q1).small
   have l2:=w2.iS te2 (cR.1 q2).small
   have z1:=w1.sz
   have z2:=w2.sz
   have z3:=hx.sz
   have z4:=hy.sz
   have hw3:Wf (.list [.atom [43],.list [.atom [42],e1,y],.list [.atom [42],x,e2]]):=.plus (.times w1 hy) (.times hx w2)
   have ht3:cS (.list [.atom [43],.list [.atom [42],e1,y],.list [.atom [42],x,e2]]) []=.plus (.times tx (cS y [])) (.times (cS x []) t2):=by rw[dM,dw,dw,te1,te2]
   have ma:=CS _ hw3.ok (by simp only[E.sz,E.jo];omega)
   rw[dk]at ma
   simp only[bK]at ma
   have e3:AV.sl [[.v (.string (mk [43])),Au],[.v (.string (mk [])),.sl [[.v (.string (mk [42])),Au],[.v (.string (mk e1.at)),e1.sp],[.v (.string (mk y.at)),y.sp]]],[.v (.string (mk [])),.sl [[.v (.string (mk [42])),Au],[.v (.string (mk x.at)),x.sp],[.v (.string (mk e2.at)),e2.sp]]]]=(E.list [.atom [43],.list [.atom [42],e1,y],.list [.atom [42],x,e2]]).sp:=by simp only[E.sp,E.bw,fJ];rfl
   rw[e3]
   refine aj ma ?_
   simp only[↓zq,zs,ae,zt]
   have hd3:(Ty.plus (.times tx (cS y [])) (.times (cS x []) t2)).atoms=(E.list [.atom [43],.list [.atom [42],e1,y],.list [.atom [42],x,e2]]).db:=by rw[<-ht3,<-hw3.db []]
   unfold nH
   by_cases hle:(Ty.plus (.times tx (cS y [])) (.times (cS x []) t2)).atoms<=400
   ·rw[if_pos hle,show decide ((((E.list [.atom [43],.list [.atom [42],e1,y],.list [.atom [42],x,e2]]).db:Nat):Int)<=400)=true from decide_eq_true (by omega)]
    have:=lh.of hw3
    rw[ht3]at this
    exact this
   ·rw[if_neg hle,show decide ((((E.list [.atom [43],.list [.atom [42],e1,y],.list [.atom [42],x,e2]]).db:Nat):Int)<=400)=false from decide_eq_false (by omega)]
    exact lh.no _ _ ((aX _).mpr trivial)
  |
   @rc m B hm hB =>
   have hlp:=PE n (zW n) m B hm hB hl h4 s hs
   have hg:=ke (s:=s) (Wf.rc hm hB)
   refine D7 _ _ _ ((aX _).mpr trivial) ?_
   have hP:=P3.of (.atom dF) (.atom m) B
   simp only[Cs,bK,toNat_one,bf,↓zq,zs,ae,zt,hP.1,hP.2.1,hP.2.2.1,hP.2.2.2,aK]
   refine⟨fun h=>absurd rfl h,fun _=>?_⟩
   refine aj (n8 dF (.atom m) B) ?_
   simp only[↓zq,zs,ae,zt]
   refine⟨fun _=>?_,fun h=>absurd rfl h⟩
   refine aP hlp (lh.ne hg) ?_
   rintro r o ⟨rfl,c1,d1,hd1,rfl,hc1⟩
   simp only[↓zq,zs,ae,zt,gu hd1]
   exact⟨rfl,c1,d1,hd1,rfl,hc1⟩
end Go.Proofs.Trees
namespace Go.Proofs.Trees
open Go Go.VL Go.RowKit
theorem oi:∀(n k:Nat),k<10 ^ (n+1)->(dd k).length<=n+1
 |0,k,h=>by rw[eH (by omega)];simp
 |
  n+1,k,h=>by
  by_cases h1:k<10
  ·rw[eH h1];simp
  ·rw[fP h1]
   have:=oi n (k/10) (by
    have:10 ^ (n+1+1)=10*10 ^ (n+1):=by rw[Nat.pow_succ,Nat.mul_comm]
    omega)
   simp;omega
inductive Sh:E->Prop
 |atom {s:Nm} (h:s.length<=20):Sh (.atom s)
 |l3 {h:Nm} {a b:E} (hh:h.length<=20) (ha:Sh a) (hb:Sh b):Sh (.list [.atom h,a,b])
theorem Sh.cC{e:E}(hw:Wf e)(h:Sh e):(e9 e).length<=50*e.db:=by
 induction hw with
 |atom _=>cases h with|atom h=>simp only[e9,E.db];omega
 |
  plus _ _ i1 i2 =>
  cases h with|l3 hh ha hb =>
  have:=i1 ha
  have:=i2 hb
  simp only[e9,ei,az,aq,aG,E.db,E.eV];omega
 |
  times _ _ i1 i2 =>
  cases h with|l3 hh ha hb =>
  have:=i1 ha
  have:=i2 hb
  simp only[e9,ei,az,aq,aG,E.db,E.eV];omega
 |
  rc _ _ i =>
  cases h with|l3 hh ha hb =>
  cases ha with|atom ha =>
  have:=i hb
  simp only[e9,ei,az,aq,aG,E.db,E.eV];omega
def u7(t:Ty):Prop:=∀y,bj y t=true->y.length<=20
theorem wW{k:Nat}(h:k<100000000):(tN k).length<=20:=by
 have:=oi 7 k (by omega)
 simp;omega
theorem pQ(F:List Nm)(hF:F.length<=10000):∀(t:Ty) (to:List Nm) (k:Nat),u7 t->(∀w,w∈to->w.length<=20)->k+(F.length+1)*t.atoms<90000000->Sh (gZ F t to k).1
 | .zero,_,_,_,_,_=>.atom (by simp)
 | .one,_,_,_,_,_=>.atom (by simp)
 | .name s,_,_,hn,_,_=>.atom (hn s (by simp[bj]))
 |
  .bound u,to,_,_,ht,_=>by
  refine .atom ?_
  show (gj to u).length<=20
  unfold gj
  by_cases h:to.length-1-u<to.length
  ·rw[aa,bo h];exact ht _ (bH h)
  ·rw[aa,List.getElem?_eq_none (by omega)];simp
 |
  .plus a b,to,k,hn,ht,hk=>by
  have h1:=im F a to k
  have:(F.length+1)*(1+a.atoms+b.atoms)=(F.length+1)+(F.length+1)*a.atoms+(F.length+1)*b.atoms:=by simp only[cU,dH]
  simp only[Ty.atoms]at hk
  exact .l3 (by simp) (pQ F hF a to k (fun y hy=>hn y (by simp[bj,hy])) ht (by omega)) (pQ F hF b to _ (fun y hy=>hn y (by simp[bj,hy])) ht (by omega))
 |
  .times a b,to,k,hn,ht,hk=>by
  have h1:=im F a to k
  have:(F.length+1)*(1+a.atoms+b.atoms)=(F.length+1)+(F.length+1)*a.atoms+(F.length+1)*b.atoms:=by simp only[cU,dH]
  simp only[Ty.atoms]at hk
  exact .l3 (by simp) (pQ F hF a to k (fun y hy=>hn y (by simp[bj,hy])) ht (by omega)) (pQ F hF b to _ (fun y hy=>hn y (by simp[bj,hy])) ht (by omega))
 |
  .rc a,to,k,hn,ht,hk=>by
  obtain⟨g1,g2,_,_⟩:=gB F k
  have:(F.length+1)*(2+a.atoms)=(F.length+1)*2+(F.length+1)*a.atoms:=by simp only[cU]
  simp only[Ty.atoms]at hk
  have hl:=wW (k:=nx F k) (by omega)
  exact .l3 (by simp) (.atom hl) (pQ F hF a _ _ hn (fun w hw=>by
   rcases aM.1 hw with hw|hw
   ·exact ht w hw
   ·simp only[aQ]at hw;rw[hw];exact hl) (by omega))
def EX(t:Ty):Nm:=e9 (gZ (bN t []) t [] 0).1
def told(t:Ty):Option Nm:=if t.atoms<=400/\(qM (EX t)).isSome=true then some (EX t)else none
theorem Ep{t:Ty}(g:fW t)(hs:u7 t)(ha:t.atoms<=400):(EX t).length<=20000:=by
 obtain⟨h1,h2,_⟩:=kE (bN t []) t [] 0 (.nil _ _) g.1 fun y hy=>⟨(eU t [] y).2 (.inr hy),g.2 y hy⟩
 have hn:=ez t []
 simp only[aG,aV]at hn
 have hm:((bN t []).length+1)*t.atoms<=401*400:=Nat.mul_le_mul (by omega) ha
 have:=(pQ (bN t []) (by omega) t [] 0 hs (fun w hw=>by cases hw) (by omega)).cC h1
 have:=h1.iS h2 ha
 unfold EX;omega
theorem ui(s:Nm):(wD s).isSome=(qM s).isSome:=by
 rw[uS]
 cases he:wD s with
 |none=>rfl
 |
  some e =>
  obtain⟨h1,h2,h3⟩:=pS he
  simp only[iZ e [],h2];rfl
theorem Sa(s:Nm):an Tryz.prog 124 [.v (.string (mk s))] [] (bJ (.v (.bool (qM s).isSome))):=by
 refine P8 _ ?_
 unfold Lp
 refine aP (Im s) (jI.ne _ _ (fun h=>h)) ?_
 rintro r o ⟨c,d,hd,rfl,hh⟩
 have hhas:bD [.str,.sl] [.v (.string (mk c)),d] 0:=by simp[bD,dW,hd]
 simp only[↓zq,zs,ae,zt,ui]
 exact⟨hhas,rfl,rfl⟩
theorem Pk{e:E}(h:Wf e)(hl:e.db<=400)(hs:u7 (cS e [])):an Tryz.prog 93 [.agg [.v (.string (mk e.at)),e.sp]] [] (bJ (uj (told (cS e [])))):=by
 refine Qt _ _ ((aX _).mpr trivial) ?_
 unfold OR
 have z:=h.sz
 have ma:=CS e h.ok (by omega)
 rw[dk]at ma
 have hA:=Dn h Au [] ⟨(bp).mpr trivial,rfl⟩ (by omega) (fun o ho=>by cases ho) (by simp)
 have ha:(cS e []).atoms<=400:=by rw[<-h.db []];exact hl
 have hc:Aa e []=(gZ (bN (cS e []) []) (cS e []) [] 0).1:=by
  unfold Aa AA rU
  rw[List.flatMap_nil,cP,jK (F':=bN (cS e []) []) fun y=>by rw[l4 h,eU]]
 have hx:e9 (Aa e [])=EX (cS e []):=by rw[hc];rfl
 have hlen:=Ep h.qw hs ha
 have hT:=Em (Aa e []) (xi h).1.ok (by rw[hx];omega)
 rw[dk,hx]at hT
 refine aj ma ?_
 simp only[↓zq,zs,ae,zt]
 refine⟨fun h=>by omega,fun _=>?_⟩
 refine aj hA ?_
 simp only[↓zq,zs,ae,zt,aK]
 refine aj hT ?_
 simp only[↓zq,zs,ae,zt]
 refine aj (Sa _) ?_
 simp only[↓zq,zs,ae,zt]
 unfold told
 refine⟨fun hn=>?_,fun hy=>?_⟩
 ·rw[if_neg (by rw[hn];simp)];exact⟨rfl,rfl⟩
 ·rw[if_pos ⟨ha,hy⟩];exact⟨rfl,rfl⟩
abbrev mc:Nm:=[35,49]
noncomputable def cJ (s:Nm):Option Nm:=match qM s with
 |some (.rc a)=>(n9 a mc).bind told
 |_=>none
theorem n0{s:Nm}{t:Ty}(h:qM s=some t):∃e,wD s=some e/\Wf e/\cS e []=t/\e.db<=400/\e.ok:=by
 rw[uS]at h
 cases he:wD s with
 |none=>rw[he]at h;cases h
 |
  some e =>
  rw[he]at h
  obtain⟨h1,h2,h3⟩:=pS he
  obtain⟨hok,_⟩:=nI h1
  obtain⟨w1,w2⟩:=kg e [] t hok (fun w hw=>by cases hw) h
  exact⟨e,rfl,w1,w2,h3,hok⟩
theorem rF{e:E}{x:Nm}{a d:Ty}(hw:Wf e)(ht:cS e []=.rc a)(hx:qU x)(hd:n9 a x=some d):fW d/\(u7 (.rc a)->u7 d):=by
 simp only[n9,bm,cR,eS]at hd
 obtain⟨d',h1,_,rfl⟩:=hd
 have g:fW (.rc a):=ht ▸ hw.qw
 have go:fW (dB (.name x) a 0):=⟨gI x a g.1,fun y hy=>by
  rcases gy a 0 hy with rfl|h
  ·exact hx
  ·exact g.2 y h⟩
 refine⟨g.sub (go.dv h1),fun hs y hy=>?_⟩
 rcases ja _ hy with h|⟨h,h'⟩
 ·exact hs y h
 ·rcases gy a 0 (h1.names y h')with e|e
  ·exact absurd e h
  ·exact hs y e
def L6(y:Nm):Prop:=gX y=true\/di y=true
theorem iN:∀(e:E) (ar:List Nm) (t:Ty),cT e ar=some t->∀y,bj y t=true->L6 y
 |
  .atom s,ar,t,ht,y,hy=>by
  simp only[cT]at ht
  split at ht
  ·cases ht;cases hy
  ·split at ht
   ·cases ht;cases hy
   ·split at ht
    ·rename_i hp
     cases ht
     simp only[bj,decide_eq_true_eq]at hy
     subst hy;exact .inl hp
    ·split at ht
     ·rename_i hq
      split at ht
      ·cases ht;cases hy
      ·cases ht
       simp only[bj,decide_eq_true_eq]at hy
       subst hy;exact .inr hq
     ·cases ht
 |
  .list [x,a,b],ar,t,ht,y,hy=>by
  by_cases h0:x.at=[43]
  ·obtain⟨t1,t2,h1,h2,rfl⟩:=fL h0 ht
   simp only[bj,bB]at hy
   rcases hy with hy|hy
   ·exact iN a ar t1 h1 y hy
   ·exact iN b ar t2 h2 y hy
  ·by_cases h1:x.at=[42]
   ·obtain⟨t1,t2,h2,h3,rfl⟩:=fj h1 ht
    simp only[bj,bB]at hy
    rcases hy with hy|hy
    ·exact iN a ar t1 h2 y hy
    ·exact iN b ar t2 h3 y hy
   ·by_cases h2:x.at=[114,101,99]
    ·obtain⟨t1,hla,h3,rfl⟩:=dz h2 ht
     exact iN b _ t1 h3 y hy
    ·rw[jh _ h0 h1 h2]at ht;cases ht
 | .list [],ar,t,ht,_,_=>by cases ht
 | .list [_],ar,t,ht,_,_=>by cases ht
 | .list [_,_],ar,t,ht,_,_=>by cases ht
 | .list (_::_::_::_::_),ar,t,ht,_,_=>by cases ht
theorem wN{y:Nm}(h:L6 y):y.length<=3/\∀r,y≠35::r:=by
 have key:∀lo hi,116<=lo->named lo hi y=true->y.length<=3/\∀r,y≠35::r:=fun lo hi hlo h=>by
  cases y with
  |nil=>cases h
  |
   cons c r =>
   simp only[named,aw,decide_eq_true_eq]at h
   refine⟨by simp;omega,fun r' e=>?_⟩
   have:c=35:=by injection e
   subst this
   have:=h.1.2.1
   have e35:(35:UInt8).toNat=35:=rfl
   omega
 rcases h with h|h
 ·exact key 120 122 (by omega) h
 ·exact key 116 116 (by omega) h
theorem nq{s:Nm}{t:Ty}(h:qM s=some t):∀y,bj y t=true->L6 y:=by
 rw[uS]at h
 cases he:wD s with
 |none=>rw[he]at h;cases h
 |some e=>rw[he]at h;exact iN e [] t h
theorem uJ{s:Nm}{a:Ty}(h:qM s=some (.rc a)):bj mc a=false:=by
 cases q:bj mc a with
 |false=>rfl
 |true=>exact absurd rfl ((wN (nq h mc q)).2 [49])
theorem B4{s:Nm}{t:Ty}(h:qM s=some t):u7 t:=fun y hy=>by have:=(wN (nq h y hy)).1;omega
theorem Qy{m:Nm}{B:E}(hm:qU m)(hB:Wf B)(hl:(E.list [.atom dF,.atom m,B]).db<=400):an Tryz.prog 92 [.agg [.v (.string (mk [])),(E.list [.atom dF,.atom m,B]).sp]] [] (lh (n9 (cS B [m]) m)):=by
 have hw:Wf (.list [.atom dF,.atom m,B]):=.rc hm hB
 have hT:cS (.list [.atom dF,.atom m,B]) []=.rc (cS B [m]):=fk _ _ _
 have hP:=P3.of (.atom dF) (.atom m) B
 have hbo:cS B []=dB (.name m) (cS B [m]) 0:=by
  have:=yg m hB []
  rw[cP]at this;exact this
 have hba:B.db+2=(E.list [.atom dF,.atom m,B]).db:=by simp only[E.db,E.eV];omega
 have i1:=zW 400 B m hB (by omega) (by omega) hm
 have n1:=ke (s:=m) hB
 rw[hbo]at i1 n1
 refine Rj _ _ ((aX _).mpr trivial) ?_
 simp only[Jv,bK,toNat_one,bf,↓zq,zs,ae,zt,hP.1,hP.2.1,hP.2.2.1,hP.2.2.2,aK,dS]
 repeat refine⟨by omega,?_⟩
 refine aP i1 (lh.ne n1) ?_
 rintro r o ⟨rfl,c1,d1,hd1,rfl,hc1⟩
 simp only[↓zq,zs,ae,zt,gu hd1,n9]
 cases q1:lW (dB (.name m) (cS B [m]) 0) m with
 |
  none =>
  simp only[bu,bT]
  exact⟨fun _=>lh.no _ _ ((aX _).mpr trivial),fun h=>(by cases h)⟩
 |
  some d =>
  simp only[a8,ba]
  refine⟨fun h=>(by cases h),fun _=>?_⟩
  obtain⟨ed,wd,td,rfl,rfl⟩:=hc1 d q1
  have p1:=Gx hm wd hw (wd.iS td (cR.1 q1).small) hl
  have g1:=rC (hw.qw.sub (x:=m) wd.qw)
  rw[hT,td]at p1 g1
  simp only[bK]at p1
  repeat refine⟨by omega,?_⟩
  refine aP p1 (lh.ne g1) ?_
  rintro r o ⟨rfl,c2,d2,hd2,rfl,hc2⟩
  simp only[↓zq,zs,ae,zt,gu hd2]
  exact⟨rfl,c2,d2,hd2,rfl,hc2⟩
theorem LP(s:Nm):an Tryz.prog 66 [.v (.string (mk s))] [] (bJ (uj (cJ s))):=by
 refine RY _ ?_
 unfold L3
 refine aP (Im s) (jI.ne _ _ (fun h=>h)) ?_
 rintro r o ⟨c,d,hd,rfl,hh⟩
 have hhas:bD [.str,.sl] [.v (.string (mk c)),d] 0:=by simp[bD,dW,hd]
 simp only[↓zq,zs,ae,zt]
 refine⟨hhas,fun h=>?_,fun h=>?_⟩
 ·rw[ui]at h
  have:qM s=none:=by cases hq:qM s<;>simp[hq]at h |-
  unfold cJ;rw[this];exact⟨rfl,rfl⟩
 ·rw[ui]at h
  obtain⟨t,ht⟩:=ca.1 h
  obtain⟨e,he,hw,hte,hats,hok⟩:=n0 ht
  obtain⟨e',he',hce⟩:=hh (by rw[he];rfl)
  rw[he]at he';cases he'
  have notRec:(∀a,t≠.rc a)->cJ s=none:=fun hn=>by
   unfold cJ;rw[ht]
   cases t<;>first|rfl|exact absurd rfl (hn _)
  rw[hce,dk]
  cases hw with
  |
   @atom c hc =>
   have hn:cJ s=none:=notRec fun a q=>by
    rw[<-hte]at q
    simp only[cS]at q
    split at q
    ·cases q
    ·split at q
     ·cases q
     ·split at q<;>cases q
   rw[hn]
   refine aj (z7 c _ ((aX _).mpr trivial) hc) ?_
   simp only[↓zq,zs,ae,zt]
   exact⟨fun _=>⟨rfl,rfl⟩,fun h=>by simp at h⟩
  |
   @plus x y hx hy =>
   have hn:cJ s=none:=notRec fun a q=>by rw[<-hte,dM]at q;cases q
   rw[hn]
   simp only[bK]
   refine aj (n8 [43] x y) ?_
   simp only[↓zq,zs,ae,zt]
   exact⟨fun _=>⟨rfl,rfl⟩,fun h=>by simp at h⟩
  |
   @times x y hx hy =>
   have hn:cJ s=none:=notRec fun a q=>by rw[<-hte,dw]at q;cases q
   rw[hn]
   simp only[bK]
   refine aj (n8 [42] x y) ?_
   simp only[↓zq,zs,ae,zt]
   exact⟨fun _=>⟨rfl,rfl⟩,fun h=>by simp at h⟩
  |
   @rc m B hm hB =>
   have hrt:cS (.list [.atom dF,.atom m,B]) []=.rc (cS B [m]):=fk _ _ _
   rw[hrt]at hte
   have hq:cJ s=(n9 (cS B [m]) m).bind told:=by
    unfold cJ;rw[ht,<-hte]
    show (n9 (cS B [m]) mc).bind told=_
    rw[HL (uJ (by rw[ht,<-hte])) (by
     cases q:bj m (cS B [m])with
     |false=>rfl
     |true=>exact absurd (by simp) (ns hB [m] m q).2)]
   rw[hq]
   simp only[bK]
   refine aj (n8 dF (.atom m) B) ?_
   simp only[↓zq,zs,ae,zt]
   refine⟨fun h=>by simp at h,fun _=>?_⟩
   have hgood:∀d,n9 (cS B [m]) m=some d->fW d/\(u7 (.rc (cS B [m]))->u7 d):=fun d hd=>rF (Wf.rc hm hB) hrt hm hd
   refine aP (Qy hm hB hats) (lh.ne fun t h=>(hgood t h).1) ?_
   rintro r o ⟨rfl,c1,d1,hd1,rfl,hc1⟩
   simp only[↓zq,zs,ae,zt,gu hd1]
   cases q1:n9 (cS B [m]) m with
   |
    none =>
    simp only[bu,bT]
    exact⟨fun _=>⟨rfl,rfl⟩,fun h=>(by cases h)⟩
   |
    some d =>
    simp only[a8,ba]
    refine⟨fun h=>(by cases h),fun _=>?_⟩
    obtain⟨ed,wd,td,rfl,rfl⟩:=hc1 d q1
    have hl:d.atoms<=400:=by
     simp only[n9,bm,eS]at q1
     obtain⟨_,_,h1,h2⟩:=q1
     rw[<-h2];exact h1
    have hcn:=Pk wd (wd.iS td hl) (by rw[td];exact(hgood d q1).2 (hte ▸ B4 ht))
    rw[td]at hcn
    refine aj hcn ?_
    cases told d<;>simp only[uj,↓zq,zs,ae,zt]<;>exact⟨rfl,rfl⟩
end Go.Proofs.Trees
namespace Go.Proofs.Trees
open Go Go.VL Go.RowKit
def vT(n:Nat):Vl->Ty->Bool
 | .u,.one=>true
 | .el k,.name _=>decide (k<n)
 | .l w,.plus a _=>vT n w a
 | .r w,.plus _ b=>vT n w b
 | .p x y,.times a b=>vT n x a&&vT n y b
 | .f w,.rc a=>vT n w (dB (.rc a) a 0)
 |_,_=>false
def cls(us:List Ty):Ty->Nat->Ty
 | .bound k,i=>if k<i then .bound k else us.getD (k-i) .zero
 | .plus a b,i=>.plus (cls us a i) (cls us b i)
 | .times a b,i=>.times (cls us a i) (cls us b i)
 | .rc a,i=>.rc (cls us a (i+1))
 |t,_=>t
def xY:List Fr->List Ty
 |[]=>[]
 |f::r=>cls (xY r) (yn f.ex r) 0::xY r
theorem lK(u:Ty):∀(t:Ty) {i:Nat},jy t i->dB u t i=t
 | .bound k,i,h=>by simp only[dB];rw[if_neg (by have:k<i:=h;omega)]
 | .plus a b,i,h=>by simp only[dB];rw[lK u a h.1,lK u b h.2]
 | .times a b,i,h=>by simp only[dB];rw[lK u a h.1,lK u b h.2]
 | .rc a,i,h=>by simp only[dB];rw[lK u a (i:=i+1) h]
 | .zero,_,_=>rfl
 | .one,_,_=>rfl
 | .name _,_,_=>rfl
theorem pM(us:List Ty):∀(t:Ty) {i:Nat},jy t i->cls us t i=t
 | .bound k,i,h=>by simp only[cls];rw[if_pos (by have:k<i:=h;omega)]
 | .plus a b,i,h=>by simp only[cls];rw[pM us a h.1,pM us b h.2]
 | .times a b,i,h=>by simp only[cls];rw[pM us a h.1,pM us b h.2]
 | .rc a,i,h=>by simp only[cls];rw[pM us a (i:=i+1) h]
 | .zero,_,_=>rfl
 | .one,_,_=>rfl
 | .name _,_,_=>rfl
theorem yF{us:List Ty}(hu:∀u,u∈us->jy u 0)(k:Nat):jy (us.getD k .zero) 0:=by
 by_cases h:k<us.length
 ·rw[aa,bo h];exact hu _ (bH h)
 ·rw[aa,List.getElem?_eq_none (by omega)];trivial
theorem pJ{us:List Ty}(hu:∀u,u∈us->jy u 0):∀(t:Ty) (i:Nat),jy (cls us t i) i
 |
  .bound k,i=>by
  simp only[cls]
  split
  ·rename_i h;exact h
  ·exact gv _ (yF hu _) (dP _)
 | .plus a b,i=>⟨pJ hu a i,pJ hu b i⟩
 | .times a b,i=>⟨pJ hu a i,pJ hu b i⟩
 | .rc a,i=>pJ hu a (i+1)
 | .zero,_=>trivial
 | .one,_=>trivial
 | .name _,_=>trivial
theorem mY{us:List Ty}(hu:∀u,u∈us->jy u 0)(U:Ty):∀(t:Ty) (i:Nat),dB U (cls us t (i+1)) i=cls (U::us) t i
 |
  .bound k,i=>by
  simp only[cls]
  by_cases h1:k<i
  ·rw[if_pos (by omega),if_pos h1];simp only[dB];rw[if_neg (by omega)]
  ·rw[if_neg h1]
   by_cases h2:k=i
   ·subst h2;rw[if_pos (by omega)];simp[dB]
   ·rw[if_neg (by omega),lK U _ (gv _ (yF hu _) (dP _)),show k-i=(k-(i+1))+1 by omega,List.getD_cons_succ]
 | .plus a b,i=>by simp only[cls,dB];rw[mY hu U a i,mY hu U b i]
 | .times a b,i=>by simp only[cls,dB];rw[mY hu U a i,mY hu U b i]
 | .rc a,i=>by simp only[cls,dB];rw[mY hu U a (i+1)]
 | .zero,_=>rfl
 | .one,_=>rfl
 | .name _,_=>rfl
theorem wQ:∀env:List Fr,∀u,u∈xY env->jy u 0
 |[],u,h=>by cases h
 |
  f::r,u,h=>by
  rcases aJ.1 h with rfl|h
  ·exact pJ (wQ r) _ 0
  ·exact wQ r u h
theorem Ej{env:List Fr}(h:WF env):∀{u:Nat} {g:Fr},env[u]?=some g->(xY env).getD u .zero=cls (xY g.out) (yn g.ex g.out) 0:=by
 induction h with
 |nil=>intro u g hg;simp at hg
 |
  cons hs hok hx ht hf hr ih =>
  intro u g hg
  cases u with
  |zero=>simp at hg;subst hg;rfl
  |
   succ u =>
   have:=ih (u:=u) (g:=g) (by simpa using hg)
   simpa[xY]using this
theorem pF(n:Nat):∀(m:Nat) (v:Vl),v.nodes<=m->∀(e:E) (env:List Fr) (t:Ty),Ask e env t->eY n v (e,env)=vT n v (cls (xY env) t 0)
 |0,v,hm=>by have:=du v;omega
 |
  m+1,v,hm=>by
  intro e env t A
  have recCase:∀(x a b:E) (env:List Fr) (t1:Ty),Ask (.list [x,a,b]) env (.rc t1)->x.at=[114,101,99]->eY n v (.list [x,a,b],env)=vT n v (cls (xY env) (.rc t1) 0):=by
   intro x a b env t1 A hx
   have hhd:hd (.list [x,a,b]) env=(.list [x,a,b],env):=pW A.wf
   obtain⟨t1',he1,h1,f1,hw1⟩:=jq A.wf A.ok hx A.ty A.cl
   cases he1
   obtain⟨ok1,ok2,ok3,_⟩:=A.ok
   have A':Ask b (.mk a.at (.list [x,a,b]) env::env) t1:=⟨ok3,hw1,h1,f1⟩
   cases v with
   |
    f w =>
    simp only[Vl.nodes]at hm
    simp only[eY,hhd,hx,beq_self_eq_true,bX]
    rw[pF n m w (by omega) b _ t1 A']
    have hty:yn (.list [x,a,b]) env=.rc t1:=by unfold yn;rw[A.ty];rfl
    show vT n w (cls (cls (xY env) (yn (.list [x,a,b]) env) 0::xY env) t1 0)=vT n w (dB (.rc (cls (xY env) t1 1)) (cls (xY env) t1 1) 0)
    rw[hty,mY (wQ env)]
    rfl
   |_=>simp[eY,hhd,hx,cls,vT]
  rcases gn A.wf A.ty with⟨hb,hq⟩|⟨u,g,rfl,hq,hu⟩
  ·have hhd:hd e env=(e,env):=ko hq
   rcases fG A.ty hb A.cl with⟨rfl,rfl⟩|⟨rfl,rfl⟩|⟨s,rfl,rfl,hp,h0,h1⟩|⟨x,a,b,t1,t2,rfl,hx,rfl,ha,hbb⟩|⟨x,a,b,t1,t2,rfl,hx,rfl,ha,hbb⟩|⟨x,a,b,t1,rfl,hx,rfl⟩
   ·have hp0:gX [48]=false:=rfl
    cases v<;>simp[eY,hhd,cls,vT,hp0]
   ·cases v<;>simp[eY,hhd,cls,vT]
   ·cases v<;>simp[eY,hhd,cls,vT,hp,h1]
   ·obtain⟨ok1,ok2,ok3,_⟩:=A.ok
    obtain⟨f1,f2⟩:=fw A.cl
    cases v with
    |
     l w =>
     simp only[Vl.nodes]at hm
     simp only[eY,hhd,hx,beq_self_eq_true,bX,cls,vT]
     exact pF n m w (by omega) a env t1 ⟨ok2,A.wf,ha,f1⟩
    |
     r w =>
     simp only[Vl.nodes]at hm
     simp only[eY,hhd,hx,beq_self_eq_true,bX,cls,vT]
     exact pF n m w (by omega) b env t2 ⟨ok3,A.wf,hbb,f2⟩
    |_=>simp[eY,hhd,hx,cls,vT]
   ·obtain⟨ok1,ok2,ok3,_⟩:=A.ok
    obtain⟨f1,f2⟩:=eW A.cl
    cases v with
    |
     p w w' =>
     simp only[Vl.nodes]at hm
     simp only[eY,hhd,hx,beq_self_eq_true,bX,cls,vT]
     rw[pF n m w (by omega) a env t1 ⟨ok2,A.wf,ha,f1⟩,pF n m w' (by omega) b env t2 ⟨ok3,A.wf,hbb,f2⟩]
    |_=>simp[eY,hhd,hx,cls,vT]
   ·exact recCase x a b env t1 A hx
  ·obtain⟨x,a,b,t',hfe,hok,hx,ht',hf',hwf,hlt⟩:=oV A.wf hq
   have hrec:hd g.ex g.out=(g.ex,g.out):=by rw[hfe];exact pW hwf
   rw[tL n v (qV hq) hrec]
   have hcl:cls (xY env) (.bound u) 0=cls (xY g.out) (yn g.ex g.out) 0:=by
    simp only[cls];rw[if_neg (by omega),Nat.sub_zero];exact Ej A.wf hu
   rw[hcl]
   have hty:yn g.ex g.out=t':=by unfold yn;rw[ht'];rfl
   rw[hty,hfe]
   rw[hfe]at ht'
   obtain⟨t1,_,_,rfl⟩:=dz hx ht'
   exact recCase x a b g.out t1 ⟨hok,hwf,ht',hf'⟩ hx
theorem mW{n:Nat}{v:Vl}{e:E}{t:Ty}(A:Ask e [] t):eY n v (e,[])=vT n v t:=by
 have:=pF n v.nodes v (au _) e [] t A
 rw[this]
 obtain⟨w,ht⟩:=kg e [] t A.ok (fun w hw=>by cases hw) A.ty
 have hl:=uD w []
 rw[ht]at hl
 exact congrArg (vT n v) (pM _ t hl)
def eT(σ:Nm->Option Ty):Ty->Ty
 | .name s=>(σ s).getD (.name s)
 | .plus a b=>.plus (eT σ a) (eT σ b)
 | .times a b=>.times (eT σ a) (eT σ b)
 | .rc a=>.rc (eT σ a)
 |t=>t
def iR(σ:Nm->Option Ty)(x:Nm)(u:Ty):Nm->Option Ty:=fun s=>if s=x then some u else σ s
theorem iB(σ:Nm->Option Ty)(x:Nm)(u:Ty):∀t:Ty,eT σ (sub x u t)=eT (iR σ x (eT σ u)) t
 |
  .name s=>by
  by_cases h:s=x
  ·simp[sub,eT,iR,h]
  ·simp[sub,eT,iR,h]
 | .plus a b=>by simp only[sub,eT,iB σ x u a,iB σ x u b]
 | .times a b=>by simp only[sub,eT,iB σ x u a,iB σ x u b]
 | .rc a=>by simp only[sub,eT,iB σ x u a]
 | .zero=>rfl
 | .one=>rfl
 | .bound k=>rfl
def CJ(σ:Nm->Option Ty):Prop:=∀s u,σ s=some u->jy u 0
theorem jW{σ:Nm->Option Ty}(hσ:CJ σ):∀(t:Ty) {i:Nat},jy t i->jy (eT σ t) i
 |
  .name s,i,_=>by
  simp only[eT]
  cases q:σ s with
  |none=>trivial
  |some u=>exact gv u (hσ s u q) (dP _)
 | .plus a b,i,h=>⟨jW hσ a h.1,jW hσ b h.2⟩
 | .times a b,i,h=>⟨jW hσ a h.1,jW hσ b h.2⟩
 | .rc a,i,h=>jW hσ a (i:=i+1) h
 | .zero,_,_=>trivial
 | .one,_,_=>trivial
 | .bound k,_,h=>h
theorem jJ{σ:Nm->Option Ty}(hσ:CJ σ)(x:Nm)(U:Ty):∀(t:Ty) (i:Nat),bj x t=false->eT (iR σ x U) (dB (.name x) t i)=dB U (eT σ t) i
 |
  .name s,i,h=>by
  have hs:s≠x:=by simpa[bj]using h
  simp only[dB,eT,iR,if_neg hs]
  cases q:σ s with
  |none=>rfl
  |some u=>exact(lK U u (gv u (hσ s u q) (dP _))).symm
 |
  .bound k,i,h=>by
  simp only[dB,eT]
  split
  ·simp[eT,iR]
  ·rfl
 |
  .plus a b,i,h=>by
  simp only[bj,ck]at h
  simp only[dB,eT,jJ hσ x U a i h.1,jJ hσ x U b i h.2]
 |
  .times a b,i,h=>by
  simp only[bj,ck]at h
  simp only[dB,eT,jJ hσ x U a i h.1,jJ hσ x U b i h.2]
 | .rc a,i,h=>by simp only[dB,eT,jJ hσ x U a (i+1) h]
 | .zero,_,_=>rfl
 | .one,_,_=>rfl
theorem lX{σ:Nm->Option Ty}(hσ:CJ σ)(x:Nm){u:Ty}(hu:jy u 0):CJ (iR σ x u):=fun s v h=>by
 unfold iR at h
 split at h
 ·cases h;exact hu
 ·exact hσ s v h
theorem je(x:Nm):∀(n:Nat) (c:Vl) (t:Ty) (i:Nat),c.nodes<=n->dL (dB (.name x) t i) c=dL t c
 |0,c,_,_,h=>by have:=du c;omega
 |
  n+1,c,t,i,hn=>by
  cases t with
  |bound k=>simp only[dB];split<;>(cases c<;>rfl)
  |
   plus a b =>
   cases c with
   |l c=>simp only[Vl.nodes]at hn;exact je x n c a i (by omega)
   |r c=>simp only[Vl.nodes]at hn;exact je x n c b i (by omega)
   |_=>rfl
  |
   times a b =>
   cases c with
   |
    l c =>
    cases c with
    |p y z=>simp only[Vl.nodes]at hn;exact je x n y a i (by omega)
    |_=>rfl
   |
    r c =>
    cases c with
    |p y z=>simp only[Vl.nodes]at hn;exact je x n z b i (by omega)
    |_=>rfl
   |_=>rfl
  |
   rc a =>
   cases c with
   |
    f c =>
    cases c with
    |l y=>simp only[Vl.nodes]at hn;exact je x n y a (i+1) (by omega)
    |
     r c =>
     cases c with
     |
      p y z =>
      simp only[Vl.nodes]at hn
      have h1:=je x n y a (i+1) (by omega)
      have h2:=je x n z (.rc a) i (by omega)
      show (dL (dB (.name x) a (i+1)) y&&dL (.rc (dB (.name x) a (i+1))) z)=(dL a y&&dL (.rc a) z)
      rw[h1]
      exact congrArg _ h2
     |_=>rfl
    |_=>rfl
   |_=>rfl
  |_=>rfl
end Go.Proofs.Trees
namespace Go.Proofs.Trees
open Go Go.VL Go.RowKit
theorem dK(x:Nm):∀(n:Nat) (c:Vl) (t:Ty) (i:Nat) (v:Vl),c.nodes<=n->cX (dB (.name x) t i) c v=cX t c v
 |0,c,_,_,_,h=>by have:=du c;omega
 |
  n+1,c,t,i,v,hn=>by
  cases t with
  |bound k=>simp only[dB];split<;>(cases c<;>rfl)
  |
   plus a b =>
   cases c with
   |l c=>simp only[Vl.nodes]at hn;exact congrArg Vl.l (dK x n c a i v (by omega))
   |r c=>simp only[Vl.nodes]at hn;exact congrArg Vl.r (dK x n c b i v (by omega))
   |_=>rfl
  |
   times a b =>
   cases c with
   |
    l c =>
    cases c with
    |p y z=>simp only[Vl.nodes]at hn;exact congrArg (fun q=>Vl.p q z) (dK x n y a i v (by omega))
    |_=>rfl
   |
    r c =>
    cases c with
    |p y z=>simp only[Vl.nodes]at hn;exact congrArg (Vl.p y) (dK x n z b i v (by omega))
    |_=>rfl
   |_=>rfl
  |
   rc a =>
   cases c with
   |
    f c =>
    cases c with
    |l y=>simp only[Vl.nodes]at hn;exact congrArg Vl.f (dK x n y a (i+1) v (by omega))
    |
     r c =>
     cases c with
     |
      p y z =>
      simp only[Vl.nodes]at hn
      have h2:=dK x n z (.rc a) i v (by omega)
      have h1:=dK x n y a (i+1) (cX (.rc a) z v) (by omega)
      show Vl.f (cX (dB (.name x) a (i+1)) y (cX (.rc (dB (.name x) a (i+1))) z v))=Vl.f (cX a y (cX (.rc a) z v))
      have h3:cX (.rc (dB (.name x) a (i+1))) z v=cX (.rc a) z v:=h2
      rw[h3,h1]
     |_=>rfl
    |_=>rfl
   |_=>rfl
  |_=>rfl
theorem A0{n:Nat}{c:Vl}{a:Ty}(h:vT n c (.rc a)=true):∃w,c=.f w/\vT n w (dB (.rc a) a 0)=true:=by
 cases c with
 |f w=>exact⟨w,rfl,h⟩
 |_=>simp[vT]at h
theorem ji{n:Nat}{c:Vl}{a b:Ty}(h:vT n c (.plus a b)=true):(∃w,c=.l w/\vT n w a=true)\/∃w,c=.r w/\vT n w b=true:=by
 cases c with
 |l w=>exact .inl ⟨w,rfl,h⟩
 |r w=>exact .inr ⟨w,rfl,h⟩
 |_=>simp[vT]at h
theorem gq{n:Nat}{c:Vl}{a b:Ty}(h:vT n c (.times a b)=true):∃x y,c=.p x y/\vT n x a=true/\vT n y b=true:=by
 cases c with
 |p x y=>simp only[vT,aw]at h;exact⟨x,y,rfl,h.1,h.2⟩
 |_=>simp[vT]at h
theorem oe{σ:Nm->Option Ty}(hσ:CJ σ){a c d:Ty}{x:Nm}(ha:jy (.rc a) 0)(hc:jy c 0)(hd:jy d 0):∃X,eT σ (pO a x c d)=.rc X/\dB (.rc X) X 0=.plus (eT (iR σ x (eT σ (.rc a))) c) (.times (eT (iR σ x (eT σ (.rc a))) d) (eT σ (pO a x c d))):=by
 refine⟨.plus (eT σ (sub x (.rc a) c)) (.times (eT σ (sub x (.rc a) d)) (.bound 0)),rfl,?_⟩
 have h1:=jW hσ (sub x (.rc a) c) (kB ha c hc)
 have h2:=jW hσ (sub x (.rc a) d) (kB ha d hd)
 simp only[dB,lK _ _ h1,lK _ _ h2,if_true]
 rw[iB,iB]
 simp only[pO,eT,iB]
theorem wb(n:Nat):∀(m:Nat) (c:Vl),c.nodes<=m->∀(t:Ty) (s:Nm) (d:Ty) (σ:Nm->Option Ty),Dv t s d->CJ σ->jy t 0->vT n c (eT σ d)=true->dL t c=true
 |0,c,h=>by have:=du c;omega
 |
  m+1,c,hm=>by
  intro t s d σ hd hσ hl hv
  cases hd with
  |zero=>cases c<;>rfl
  |one=>cases c<;>rfl
  |bound=>cases c<;>rfl
  |hit=>cases c<;>rfl
  |qx=>cases c<;>rfl
  |
   plus h1 h2 _ =>
   rcases ji hv with⟨w,rfl,hw⟩|⟨w,rfl,hw⟩
   ·simp only[Vl.nodes]at hm;exact wb n m w (by omega) _ s _ σ h1 hσ hl.1 hw
   ·simp only[Vl.nodes]at hm;exact wb n m w (by omega) _ s _ σ h2 hσ hl.2 hw
  |
   times h1 h2 _ =>
   rcases ji hv with⟨w,rfl,hw⟩|⟨w,rfl,hw⟩
   ·obtain⟨x,y,rfl,hx,hy⟩:=gq hw
    simp only[Vl.nodes]at hm;exact wb n m x (by omega) _ s _ σ h1 hσ hl.1 hx
   ·obtain⟨x,y,rfl,hx,hy⟩:=gq hw
    simp only[Vl.nodes]at hm;exact wb n m y (by omega) _ s _ σ h2 hσ hl.2 hy
  |
   @rc a _ c0 d0 x hx hs h1 h2 hsz =>
   have lo:jy (dB (.name x) a 0) 0:=gI x a hl
   obtain⟨X,e1,e2⟩:=oe (x:=x) hσ hl (h1.lc lo) (h2.lc lo)
   have hv':=hv
   rw[e1]at hv'
   obtain⟨w,rfl,hw⟩:=A0 hv'
   rw[e2]at hw
   have hcl:=lX hσ x (jW hσ (.rc a) hl)
   rcases ji hw with⟨y,rfl,hy⟩|⟨y,rfl,hy⟩
   ·simp only[Vl.nodes]at hm
    have:=wb n m y (by omega) _ s _ _ h1 hcl lo hy
    rw[je x y.nodes y a 0 (au _)]at this
    exact this
   ·obtain⟨y,z,rfl,hy,hz⟩:=gq hy
    simp only[Vl.nodes]at hm
    have q1:=wb n m y (by omega) _ x _ _ h2 hcl lo hy
    rw[je x y.nodes y a 0 (au _)]at q1
    have q2:=wb n m z (by omega) (.rc a) s _ σ (.rc x hx hs h1 h2 hsz) hσ hl hz
    show (dL a y&&dL (.rc a) z)=true
    rw[q1,q2];rfl
theorem qc(n:Nat):∀(m:Nat) (c:Vl),c.nodes<=m->∀(t:Ty) (s:Nm) (d:Ty) (σ:Nm->Option Ty),Dv t s d->CJ σ->jy t 0->vT n c (eT σ d)=true->∀v,vT n v (eT σ (.name s))=true->vT n (cX t c v) (eT σ t)=true
 |0,c,h=>by have:=du c;omega
 |
  m+1,c,hm=>by
  intro t s d σ hd hσ hl hv v hvv
  have no:∀c,vT n c .zero=false:=fun c=>by cases c<;>rfl
  cases hd with
  |zero=>rw[show eT σ .zero=.zero from rfl,no]at hv;cases hv
  |one=>rw[show eT σ .zero=.zero from rfl,no]at hv;cases hv
  |bound=>rw[show eT σ .zero=.zero from rfl,no]at hv;cases hv
  |qx=>rw[show eT σ .zero=.zero from rfl,no]at hv;cases hv
  |hit=>rw[kZ];exact hvv
  |
   plus h1 h2 _ =>
   rcases ji hv with⟨w,rfl,hw⟩|⟨w,rfl,hw⟩
   ·simp only[Vl.nodes]at hm;exact qc n m w (by omega) _ s _ σ h1 hσ hl.1 hw v hvv
   ·simp only[Vl.nodes]at hm;exact qc n m w (by omega) _ s _ σ h2 hσ hl.2 hw v hvv
  |
   times h1 h2 _ =>
   rcases ji hv with⟨w,rfl,hw⟩|⟨w,rfl,hw⟩
   ·obtain⟨x,y,rfl,hx,hy⟩:=gq hw
    simp only[Vl.nodes]at hm
    have:=qc n m x (by omega) _ s _ σ h1 hσ hl.1 hx v hvv
    show (vT n _ _&&vT n _ _)=true
    rw[this,hy];rfl
   ·obtain⟨x,y,rfl,hx,hy⟩:=gq hw
    simp only[Vl.nodes]at hm
    have:=qc n m y (by omega) _ s _ σ h2 hσ hl.2 hy v hvv
    show (vT n _ _&&vT n _ _)=true
    rw[this,hx];rfl
  |
   @rc a _ c0 d0 x hx hs h1 h2 hsz =>
   have lo:jy (dB (.name x) a 0) 0:=gI x a hl
   obtain⟨X,e1,e2⟩:=oe (x:=x) hσ hl (h1.lc lo) (h2.lc lo)
   have hv':=hv
   rw[e1]at hv'
   obtain⟨w,rfl,hw⟩:=A0 hv'
   rw[e2]at hw
   have hcl:=lX hσ x (jW hσ (.rc a) hl)
   have hop:eT (iR σ x (eT σ (.rc a))) (dB (.name x) a 0)=dB (eT σ (.rc a)) (eT σ a) 0:=jJ hσ x _ a 0 hx
   have hns:eT (iR σ x (eT σ (.rc a))) (.name s)=eT σ (.name s):=by simp only[eT,iR,if_neg (Ne.symm hs)]
   have hnx:eT (iR σ x (eT σ (.rc a))) (.name x)=eT σ (.rc a):=by simp[eT,iR]
   rcases ji hw with⟨y,rfl,hy⟩|⟨y,rfl,hy⟩
   ·simp only[Vl.nodes]at hm
    have:=qc n m y (by omega) _ s _ _ h1 hcl lo hy v (by rw[hns];exact hvv)
    rw[hop,dK x y.nodes y a 0 v (au _)]at this
    exact this
   ·obtain⟨y,z,rfl,hy,hz⟩:=gq hy
    simp only[Vl.nodes]at hm
    have q2:=qc n m z (by omega) (.rc a) s _ σ (.rc x hx hs h1 h2 hsz) hσ hl hz v hvv
    have q1:=qc n m y (by omega) _ x _ _ h2 hcl lo hy (cX (.rc a) z v) (by rw[hnx];exact q2)
    rw[hop,dK x y.nodes y a 0 _ (au _)]at q1
    exact q1
def Dc:Nm->Option Ty:=fun _=>none
theorem ru:CJ Dc:=fun _ _ h=>by cases h
theorem iM:∀t:Ty,eT Dc t=t
 | .name s=>rfl
 | .plus a b=>by simp only[eT,iM a,iM b]
 | .times a b=>by simp only[eT,iM a,iM b]
 | .rc a=>by simp only[eT,iM a]
 | .zero=>rfl
 | .one=>rfl
 | .bound k=>rfl
theorem Gv{n:Nat}{a D:Ty}{x:Nm}(hx:bj x a=false)(hl:jy (.rc a) 0)(h:n9 a x=some D){c:Vl}(hc:vT n c D=true) :
 dL a c=true/\∀v,vT n v (.rc a)=true->vT n (.f (cX a c v)) (.rc a)=true:=by
 simp only[n9,bm,cR,eS]at h
 obtain⟨d,hd,_,rfl⟩:=h
 have lo:jy (dB (.name x) a 0) 0:=gI x a hl
 have hcl:=lX ru x hl
 have e1:sub x (.rc a) d=eT (iR Dc x (.rc a)) d:=by
  have:=iB Dc x (.rc a) d
  rw[iM,iM]at this;exact this
 rw[e1]at hc
 have h1:=wb n c.nodes c (au _) _ x _ _ hd hcl lo hc
 rw[je x c.nodes c a 0 (au _)]at h1
 refine⟨h1,fun v hv=>?_⟩
 have h2:=qc n c.nodes c (au _) _ x _ _ hd hcl lo hc v (by simpa[eT,iR]using hv)
 rw[dK x c.nodes c a 0 v (au _),jJ ru x _ a 0 hx,iM]at h2
 exact h2
end Go.Proofs.Trees
namespace Go.Proofs.Trees
open Go Go.VL Go.RowKit
theorem Ah{env:List Fr}(h:WF env):∀w,w∈names env->di w=true:=by
 induction h with
 |nil=>intro w hw;cases hw
 |
  cons hs _ _ _ _ _ ih =>
  intro w hw
  simp only[names,aM,aQ]at hw
  rcases hw with hw|rfl
  ·exact ih w hw
  ·exact hs
theorem B3{ar:List (List UInt8)}{k:Nat}(h:k<ar.length):gj ar k∈ar:=by
 unfold gj
 have:ar.length-1-k<ar.length:=by omega
 simp[aa,this]
def AO(s:List UInt8)(ar:List (List UInt8)):Prop:=gX s=true\/(bO s ar ar.length).isSome=true
theorem v7{s:List UInt8}{ar:List (List UInt8)}{u:Nat}(hl:∀w,w∈ar->di w=true)(h:bO s ar ar.length=some u):di s=true:=by
 obtain⟨h1,h2⟩:=fK _ _ (au _) h
 rw[<-h2];exact hl _ (B3 h1)
theorem Ii{s0 s:List UInt8}{ar:List (List UInt8)}{t:Ty}(ht:cT (.atom s0) ar=some t)(hl:∀w,w∈ar->di w=true)(hs:AO s ar):eD t (pw s ar)=decide (s0=s):=by
 have h48:∀b:UInt8,gX [b]=false->di [b]=false->s≠[b]:=fun b h1 h2 e=>by
  subst e
  rcases hs with h|h
  ·rw[h1]at h;cases h
  ·obtain⟨u,hu⟩:=ca.1 h
   rw[v7 hl hu]at h2;cases h2
 simp only[cT]at ht
 split at ht
 ·rename_i e;cases ht;subst e
  have:=h48 48 rfl rfl
  rw[decide_eq_false (fun h=>this h.symm)];cases pw s ar<;>rfl
 ·split at ht
  ·rename_i e;cases ht;subst e
   have:=h48 49 rfl rfl
   rw[decide_eq_false (fun h=>this h.symm)];cases pw s ar<;>rfl
  ·split at ht
   ·rename_i hp
    cases ht
    unfold pw
    cases e:bO s ar ar.length with
    |none=>rfl
    |
     some u =>
     have hloo:=v7 hl e
     show false=_
     rw[decide_eq_false]
     rintro rfl
     rw[kl hp]at hloo;cases hloo
   ·rename_i hnp
    split at ht
    ·split at ht
     ·rename_i u hu
      cases ht
      unfold pw
      cases e:bO s ar ar.length with
      |
       none =>
       show false=_
       rw[decide_eq_false]
       rintro rfl
       rw[hu]at e;cases e
      |
       some u' =>
       show decide (u=u')=_
       rw[cx,decide_eq_true_eq,decide_eq_true_eq]
       constructor
       ·rintro rfl
        rw[<-(fK _ _ (au _) hu).2,<-(fK _ _ (au _) e).2]
       ·rintro rfl
        rw[hu]at e;cases e;rfl
     ·rename_i hn
      cases ht
      unfold pw
      cases e:bO s ar ar.length with
      |none=>rfl
      |
       some u =>
       show false=_
       rw[decide_eq_false]
       rintro rfl
       rw[hn]at e;cases e
    ·cases ht
theorem C7{b:E}{ar:List (List UInt8)}{w:List UInt8}{t:Ty}(hb:cT b (ar++[w])=some t)(hw:di w=true)(hs:AO w ar):vd t (pw w ar).up=false:=by
 rcases hs with h|h
 ·rw[kl h]at hw;cases hw
 ·obtain⟨u,hu⟩:=ca.1 h
  rw[pw,hu];exact Gz hb hu
theorem zM{s w:List UInt8}{ar:List (List UInt8)}(h:w≠s)(hs:AO s ar):AO s (ar++[w]):=by
 rcases hs with h1|h1
 ·exact .inl h1
 ·right;rw[jG ar h];obtain⟨u,hu⟩:=ca.1 h1;rw[hu];rfl
def Sq(e:E)(s:List UInt8)(t:Ty)(tg:Tg)(v:Vl):Prop:=an Tryz.prog 74 [.agg [.v (.string (mk e.at)),e.sp],.v (.string (mk s)),.agg [.v (.string (mk v.cL.at)),v.cL.sp]] [] (bJ (.sl (mh (cn t tg v))))
theorem EZ(n:Nat):∀(m:Nat) (v:Vl),v.nodes<=m->∀(e:E) (env:List Fr) (t:Ty),Ask e env t->eY n v (e,env)=true->env.length+v.nodes<100000->∀(s:List UInt8),AO s (names env)->Sq e s t (pw s (names env)) v
 |0,v,hm=>by have:=du v;omega
 |
  m+1,v,hm=>by
  intro e env t A hv hl s hs
  have hloo:=Ah A.wf
  unfold Sq
  refine Sp _ _ _ _ _ ((aX _).mpr trivial) ((aX _).mpr trivial) ?_
  have hlen:=nn t (pw s (names env)) v
  have atomCase:∀s0,e=.atom s0->stuck t v=true->eZ Tryz.prog 244 (xJ (mk e.at) e.sp (mk s) (mk v.cL.at) v.cL.sp) fun _ xs obs=>bJ (.sl (mh (cn t (pw s (names env)) v))) (xs.headD .any) obs:=by
   rintro s0 rfl hst
   have hat:=Ii A.ty hloo hs
   have hne:s0≠[]:=A.ok
   simp only[xJ,E.at,↓zq,zs,ae,zt]
   refine⟨fun _=>⟨fun h=>?_,fun h=>?_⟩,fun h=>absurd h hne⟩
   ·rw[decide_eq_true h]at hat
    rw[mU v hat]
    refine⟨⟨zG _ _ _ _,by omega⟩,?_⟩
    simp[bJ,mh,Vl.cL,E.at,E.sp]
   ·rw[decide_eq_false h]at hat
    rw[dR hat hst]
    simp[bJ,mh]
  have hvh:=Cp v
  rw[dk]at hvh
  rcases gn A.wf A.ty with⟨hb,hq⟩|⟨u,g,rfl,hq,hu⟩
  ·have hhd:hd e env=(e,env):=ko hq
   rcases fG A.ty hb A.cl with⟨rfl,rfl⟩|⟨rfl,rfl⟩|⟨s0,rfl,rfl,hp,h0,h1⟩|⟨x,a,b,t1,t2,rfl,hx,rfl,ha,hbb⟩|⟨x,a,b,t1,t2,rfl,hx,rfl,ha,hbb⟩|⟨x,a,b,t1,rfl,hx,rfl⟩
   ·exact atomCase _ rfl (by cases v<;>rfl)
   ·exact atomCase _ rfl (by cases v<;>rfl)
   ·exact atomCase _ rfl (by cases v<;>rfl)
   ·obtain⟨ok1,ok2,ok3,_⟩:=A.ok
    obtain⟨f1,f2⟩:=fw A.cl
    have hP:=P3.of x a b
    cases v with
    |
     l w =>
     simp only[eY,hhd,hx,beq_self_eq_true,bX]at hv
     simp only[Vl.nodes]at hm hl hlen
     rw[m9]at hlen |-
     rw[fS]at hlen
     have hW:=P2.of (.atom [108]) w.cL
     simp only[xJ,E.at,↓zq,zs,ae,zt]
     refine⟨fun h=>absurd rfl h,fun _=>aj hvh ?_⟩
     simp only[vh,Vl.cL,toNat_one,bf,↓zq,zs,ae,zt,hP.1,hP.2.1,hP.2.2.1,hP.2.2.2,hW.1,hW.2.1,hW.2.2,aK]
     refine⟨fun _=>?_,fun h=>absurd rfl h⟩
     repeat refine⟨by omega,?_⟩
     refine aj (EZ n m w (by omega) a env t1 ⟨ok2,A.wf,ha,f1⟩ hv (by omega) s hs) ?_
     simp only[↓zq,zs,ae]
     refine aW (OS [108] Vl.l (fun c=>rfl) (cn t1 (pw s (names env)) w) [] (by simp;omega)) ?_
     simp[↓zq,zs,ae,bJ,aO,bz]
    |
     r w =>
     simp only[eY,hhd,hx,beq_self_eq_true,bX]at hv
     simp only[Vl.nodes]at hm hl hlen
     rw[nr]at hlen |-
     rw[fS]at hlen
     have hW:=P2.of (.atom [114]) w.cL
     simp only[xJ,E.at,↓zq,zs,ae,zt]
     refine⟨fun h=>absurd rfl h,fun _=>aj hvh ?_⟩
     simp only[vh,Vl.cL,toNat_one,bf,↓zq,zs,ae,zt,hP.1,hP.2.1,hP.2.2.1,hP.2.2.2,hW.1,hW.2.1,hW.2.2,aK]
     refine⟨fun h=>by simp at h,fun _=>⟨fun _=>?_,fun h=>absurd rfl h⟩⟩
     repeat refine⟨by omega,?_⟩
     refine aj (EZ n m w (by omega) b env t2 ⟨ok3,A.wf,hbb,f2⟩ hv (by omega) s hs) ?_
     simp only[↓zq,zs,ae]
     refine aW (OS [114] Vl.r (fun c=>rfl) (cn t2 (pw s (names env)) w) [] (by simp;omega)) ?_
     simp[↓zq,zs,ae,bJ,aO,bz]
    |_=>simp[eY,hhd,hx]at hv
   ·obtain⟨ok1,ok2,ok3,_⟩:=A.ok
    obtain⟨f1,f2⟩:=eW A.cl
    have hP:=P3.of x a b
    cases v with
    |
     p w w' =>
     simp only[eY,hhd,hx,beq_self_eq_true,bX,aw]at hv
     simp only[Vl.nodes]at hm hl hlen
     rw[nj]at hlen |-
     simp only[aq,fS]at hlen
     have hW:=P3.of (.atom [112]) w.cL w'.cL
     simp only[xJ,E.at,↓zq,zs,ae,zt]
     refine⟨fun h=>absurd rfl h,fun _=>aj hvh ?_⟩
     simp only[vh,Vl.cL,toNat_one,bf,↓zq,zs,ae,zt,hP.1,hP.2.1,hP.2.2.1,hP.2.2.2,hW.1,hW.2.1,hW.2.2.1,hW.2.2.2,aK]
     refine⟨fun h=>by simp at h,fun _=>⟨fun h=>by simp at h,fun _=>⟨fun _=>?_,fun h=>absurd rfl h⟩⟩⟩
     repeat refine⟨by omega,?_⟩
     refine aj (EZ n m w (by omega) a env t1 ⟨ok2,A.wf,ha,f1⟩ hv.1 (by omega) s hs) ?_
     simp only[↓zq,zs,ae]
     have h1:=LB s (mk []) (E.list [x,a,b]).sp ((aX _).mpr trivial) (mk []) (E.list [.atom [112],w.cL,w'.cL]).sp w w' (P3.of _ _ _) (cn t1 (pw s (names env)) w) (by omega) _ 0 [] (aV _) (by simp;omega)
     rw[bc,aU]at h1
     refine cD h1 ?_
     simp only[↓zq,zs,ae,aX,ae,bf,hP.1,hP.2.1,hP.2.2.2,hW.1,hW.2.1,hW.2.2.2,aK]
     repeat refine⟨by omega,?_⟩
     refine aj (EZ n m w' (by omega) b env t2 ⟨ok3,A.wf,hbb,f2⟩ hv.2 (by omega) s hs) ?_
     simp only[↓zq,zs,ae]
     have h2:=M3 (mk []) (E.list [.atom [112],w.cL,w'.cL]).sp w w' (P3.of _ _ _) (cn t2 (pw s (names env)) w') (by omega) _ 0 (iF (fun c=>Vl.l (.p c w')) (cn t1 (pw s (names env)) w)) (aV _) (by rw[fS];omega)
     rw[bc]at h2
     refine cD h2 ?_
     simp[↓zq,zs,ae,bJ]
    |_=>simp[eY,hhd,hx]at hv
   ·obtain⟨t1',he1,h1,f1,hw1⟩:=jq A.wf A.ok hx A.ty A.cl
    cases he1
    obtain⟨ok1,ok2,ok3,_⟩:=A.ok
    obtain⟨_,hla,_,_⟩:=dz hx A.ty
    have A':Ask b (.mk a.at (.list [x,a,b]) env::env) t1:=⟨ok3,hw1,h1,f1⟩
    have hnm:names (.mk a.at (.list [x,a,b]) env::env)=names env++[a.at]:=rfl
    have hP:=P3.of x a b
    cases v with
    |
     f w =>
     simp only[eY,hhd,hx,beq_self_eq_true,bX]at hv
     simp only[Vl.nodes]at hm hl hlen
     have hW:=P2.of (.atom [102]) w.cL
     simp only[xJ,E.at,↓zq,zs,ae,zt]
     refine⟨fun h=>absurd rfl h,fun _=>aj hvh ?_⟩
     simp only[vh,Vl.cL,toNat_one,bf,↓zq,zs,ae,zt,hP.1,hP.2.1,hP.2.2.1,hP.2.2.2,hW.1,hW.2.1,hW.2.2,aK]
     refine⟨fun h=>by simp at h,fun _=>⟨fun h=>by simp at h,fun _=>⟨fun h=>by simp at h,fun _=>?_⟩⟩⟩
     repeat refine⟨by omega,?_⟩
     refine⟨fun h=>?_,fun h=>?_⟩
     ·
      have hh:a.at=s:=h
      subst hh
      have:vd (.rc t1) (pw a.at (names env))=false:=C7 h1 hla hs
      rw[iT _ _ (au _) _ _ this]
      simp[bJ,mh]
     ·have hh:a.at≠s:=h
      rw[mZ]at hlen |-
      simp only[aq,fS]at hlen
      repeat refine⟨by omega,?_⟩
      have i1:=EZ n m w (by omega) b _ t1 A' hv (by simp;omega) s (by rw[hnm];exact zM hh hs)
      rw[hnm,An _ hh]at i1
      refine aj i1 ?_
      simp only[↓zq,zs,ae]
      have h3:=J9 s a.at (mk []) (E.list [x,a,b]).sp ((aX _).mpr trivial) (mk []) (E.list [.atom [102],w.cL]).sp ((aX _).mpr trivial) (cn t1 (pw s (names env)).up w) (by omega) _ 0 [] (aV _) (by simp;omega)
      rw[bc,aU]at h3
      refine cD h3 ?_
      simp only[↓zq,zs,ae,aX,ae,toNat_one,bf,hP.1,hP.2.1,hP.2.2.2,hW.1,hW.2.1,hW.2.2,aK]
      repeat refine⟨by omega,?_⟩
      have i2:=EZ n m w (by omega) b _ t1 A' hv (by simp;omega) a.at (by rw[hnm];right;rw[fm];rfl)
      rw[hnm,we]at i2
      refine aj i2 ?_
      simp only[↓zq,zs,ae]
      have hl2:=nn t1 (.bd 0) w
      have ih3:∀h,h∈cn t1 (.bd 0) w->Sq (.list [x,a,b]) s (.rc t1) (pw s (names env)) h.2:=fun h hh=>by
       have h3:=(jr hh).1
       have h4:=iA n m w (by omega) b _ t1 A' hv 0 _ rfl h hh
       exact EZ n m h.2 (by omega) (.list [x,a,b]) env (.rc t1) A h4 (by omega) s hs
      have h4:=JE s (.list [x,a,b]) t1 (pw s (names env)) (cn t1 (.bd 0) w) (by omega) ih3 _ 0 (iF (fun c=>.f (.l c)) (cn t1 (pw s (names env)).up w)) (aV _) (by
       simp only[bc,aq,fS]
       have hlen2:(cn t1 (pw s (names env)).up w).length+((cn t1 (.bd 0) w).flatMap (Ay t1 (pw s (names env)))).length<=1+w.nodes:=hlen
       omega)
      rw[bc]at h4
      simp only[E.at]at h4
      refine cD h4 ?_
      simp[↓zq,zs,ae,bJ]
    |_=>simp[eY,hhd,hx]at hv
  ·cases e with
   |atom s0=>exact atomCase _ rfl (by cases v<;>rfl)
   |list l=>exact absurd hq (by rw[show (E.list l).at=[] from rfl,lq A.wf];simp)
end Go.Proofs.Trees
namespace Go.Proofs.Trees
open Go Go.VL Go.RowKit
def kF(s:List UInt8):Option Ty:=match xj s with
 |some (.rc a)=>some a
 |_=>none
def AP:Option Ty->AV
 |some a=>(Ty.rc a).av
 |none=>iq
theorem SM(s:List UInt8):an Tryz.prog 95 [.v (.string (mk s))] [] (bJ (AP (kF s))):=by
 refine Qr _ ?_
 unfold LA
 refine aj (JP s) ?_
 cases h:xj s with
 |none=>simp[↓zq,zs,ae,ia,AP,kF,h,bJ]
 |some t=>cases t<;>simp[↓zq,zs,ae,ia,AP,kF,h,bJ,Ty.av]
def qB(s v:List UInt8):Option Vl:=match kF s with
 |some _=>mo s v 100
 |none=>none
def Fw(s:List UInt8):AV:=match kF s with
 |some a=>(Ty.rc a).av
 |none=>iq
theorem tW{s:List UInt8}{a:Ty}(h:kF s=some a):xj s=some (.rc a):=by
 unfold kF at h
 split at h
 ·rename_i e;cases h;exact e
 ·cases h
theorem Q4(s v:List UInt8):an Tryz.prog 69 [.v (.string (mk s)),.v (.string (mk v))] [] (bJ (.cI [Fw s,jt (qB s v)])):=by
 refine Rc _ _ ?_
 unfold Ks
 refine aj (SM s) ?_
 cases h:kF s with
 |none=>simp[↓zq,zs,ae,AP,Fw,qB,h,bJ,jt]
 |
  some a =>
  simp only[↓zq,zs,ae,AP,aF,fN]
  refine⟨fun h=>(by cases h),fun _=>?_⟩
  refine aj (LM s v 100) ?_
  rw[tW h]
  simp[↓zq,zs,ae,ia,gp,Fw,qB,h,bJ,aF]
structure LV(s v:List UInt8)(w:Vl)(a:Ty)(x A B:E):Prop where
 l:kF s=some a
 ce:jE s=some (.list [x,A,B])
 v:sw v=some w
 ask:Ask (.list [x,A,B]) [] (.rc a)
 hx:x.at=[114,101,99]
 To:di A.at=true
 body:Ask B [.mk A.at (.list [x,A,B]) []] a
 eY:eY 100 w (.list [x,A,B],[])=true
theorem s6{e:E}{env:List Fr}{a:Ty}(A:Ask e env (.rc a)):∃x y z,e=.list [x,y,z]/\x.at=[114,101,99]/\di y.at=true/\Ask z (.mk y.at (.list [x,y,z]) env::env) a:=by
 rcases fG A.ty rfl A.cl with⟨_,h⟩|⟨_,h⟩|⟨s,_,h,_⟩|⟨x,y,z,t1,t2,_,_,h,_⟩|⟨x,y,z,t1,t2,_,_,h,_⟩|⟨x,y,z,t1,rfl,hx,h⟩
 ·cases h
 ·cases h
 ·cases h
 ·cases h
 ·cases h
 ·cases h
  obtain⟨t1',he1,h1,f1,hw1⟩:=jq A.wf A.ok hx A.ty A.cl
  cases he1
  obtain⟨_,_,ok3,_⟩:=A.ok
  obtain⟨_,hla,_,_⟩:=dz hx A.ty
  exact⟨x,y,z,rfl,hx,hla,ok3,hw1,h1,f1⟩
theorem pP{s v:List UInt8}{w:Vl}(h:qB s v=some w):∃a x A B,LV s v w a x A B:=by
 unfold qB at h
 split at h
 ·rename_i a hl
  obtain⟨e,t,m,h1,h2,h3,h4,h5,h6,h7⟩:=om h
  rw[tW hl]at h3
  cases h3
  obtain⟨x,A,B,rfl,hx,hA,hB⟩:=s6 h4
  have:m=100:=by omega
  subst this
  exact⟨a,x,A,B,hl,h1,h2,h4,hx,hA,hB,h7⟩
 ·cases h
theorem LV.gR{s v:List UInt8}{w:Vl}{a:Ty}{x A B:E}(h:LV s v w a x A B):w.gR 100:=(lI h.v).2.1
theorem LV.nodes{s v:List UInt8}{w:Vl}{a:Ty}{x A B:E}(h:LV s v w a x A B):w.nodes<=200:=(lI h.v).2.2
theorem uV{n:Nat}{v:Vl}{x A B:E}{env:List Fr}(hw:WF env)(hx:x.at=[114,101,99])(h:eY n v (.list [x,A,B],env)=true):∃w,v=.f w/\eY n w (B,.mk A.at (.list [x,A,B]) env::env)=true:=by
 have hd:=pW (x:=x) (a:=A) (b:=B) hw
 cases v<;>simp[eY,hd,hx]at h |-
 exact h
theorem Q8(n:Nat)(v:Vl)(x A B:E)(a:Ty)(hA:Ask B [.mk A.at (.list [x,A,B]) []] a)(hx:x.at=[114,101,99])(hv:eY n v (.list [x,A,B],[])=true)(hl:v.nodes<90000):an Tryz.prog 58 [(Ty.rc a).av,v.cB] [] (bJ (.sl (ij (kids a v)))):=by
 obtain⟨w,rfl,hw⟩:=uV .nil hx hv
 refine Pd _ _ ((aF _).mpr trivial) ((aN _).mpr trivial) ?_
 unfold Kx
 refine aP (DF a iq [] .nil) (Cf.ne a iq []) ?_
 rintro r o ⟨⟨m,hm,rfl⟩,rfl⟩
 have he2:kD (.ptr [.pid m [(Ty.rc a).av,iq],iq]) [m]:=.cons hm .nil
 have hfr:LK.ptr.has (.pid m [(Ty.rc a).av,iq]):=.inr (.inr ⟨_,_,rfl⟩)
 simp only[Ty.av]at he2 hfr
 simp only[↓zq,zs,ae,bD,aF,he2.has,hfr,Vl.cB,aN,Ty.av]
 repeat refine⟨by omega,?_⟩
 simp only[Vl.nodes]at hl
 have i2:=E0 n w.nodes w (au _) B _ a hA hw (by simp;omega) _ _ he2 (by simp) (.bd 0) [] _ (by have:=Av.bd (k:=0) (ids:=[m]) (by simp) [(Ty.rc a).av,iq] [];simpa only[bq,Ty.av]using this)
 unfold Hp at i2
 refine aj i2 ?_
 simp[↓zq,zs,ae,bJ,kids]
def sg(l:List Nat):List (List AV):=l.map fun(k:Nat)=>[.v (.int .i64 (k:Int))]
theorem xE(l:List Nat):(sg l).length=l.length:=by simp[sg]
end Go.Proofs.Trees
namespace Go.Proofs.Trees
open Go Go.VL Go.RowKit
theorem GI{b:UInt8}(h:hZ b=true):fe b=true:=by
 simp only[hZ,fe,decide_eq_true_eq]at h |-;omega
theorem CN{y:Nm}(h:L6 y):y≠[]/\y.all fe=true:=by
 have key:∀lo hi,97<=lo->hi<=122->named lo hi y=true->y≠[]/\y.all fe=true:=fun lo hi h1 h2 h=>by
  cases y with
  |nil=>cases h
  |
   cons c r =>
   simp only[named,aw,decide_eq_true_eq]at h
   refine⟨by simp,?_⟩
   rw[cZ,aw]
   refine⟨?_,?_⟩
   ·simp only[fe,decide_eq_true_eq];omega
   ·rw[bY]
    intro b hb
    exact GI (bY.1 h.2 b hb)
 rcases h with h|h
 ·exact key 120 122 (by omega) (by omega) h
 ·exact key 116 116 (by omega) (by omega) h
theorem BX(m:Nat):(tN m).all fe=true:=by
 rw[cZ,w9 (m+1) m (by omega)];rfl
theorem pU(F:List Nm):∀(t:Ty) (to:List Nm) (k:Nat),(∀y,bj y t=true->y≠[]/\y.all fe=true)->(∀w,w∈to->w≠[]/\w.all fe=true)->jy t to.length->(gZ F t to k).1.pr
 | .zero,_,_,_,_,_=>⟨by simp,by decide⟩
 | .one,_,_,_,_,_=>⟨by simp,by decide⟩
 | .name s,_,_,hn,_,_=>hn s (by simp[bj])
 |
  .bound u,to,_,_,ht,hl=>by
  have:to.length-1-u<to.length:=by have:u<to.length:=hl;omega
  show (E.atom (gj to u)).pr
  unfold gj
  rw[aa,bo this]
  exact ht _ (bH this)
 | .plus a b,to,k,hn,ht,hl=>⟨by simp,⟨by simp,by decide⟩,pU F a to k (fun y hy=>hn y (by simp[bj,hy])) ht hl.1,pU F b to _ (fun y hy=>hn y (by simp[bj,hy])) ht hl.2,trivial⟩
 | .times a b,to,k,hn,ht,hl=>⟨by simp,⟨by simp,by decide⟩,pU F a to k (fun y hy=>hn y (by simp[bj,hy])) ht hl.1,pU F b to _ (fun y hy=>hn y (by simp[bj,hy])) ht hl.2,trivial⟩
 |
  .rc a,to,k,hn,ht,hl=>by
  refine⟨by simp,⟨by simp,by decide⟩,⟨by simp,BX _⟩,pU F a (to++[tN (nx F k)]) _ hn (fun w hw=>?_) (by rw[aq];exact hl),trivial⟩
  rcases aM.1 hw with hw|hw
  ·exact ht w hw
  ·simp only[aQ]at hw;rw[hw];exact⟨by simp,BX _⟩
theorem zu{D:Ty}{dt:Nm}(g:fW D)(hn:∀y,bj y D=true->L6 y)(h:told D=some dt):qM dt=some D:=by
 unfold told at h
 split at h
 ·rename_i hh
  cases h
  obtain⟨t,ht⟩:=ca.1 hh.2
  obtain⟨e,he,hw,hte,_,_⟩:=n0 ht
  obtain⟨h1,_,_⟩:=pS he
  obtain⟨hx,hpr,_⟩:=xS h1
  obtain⟨w1,w2,_⟩:=kE (bN D []) D [] 0 (.nil _ _) g.1 fun y hy=>⟨(eU D [] y).2 (.inr hy),g.2 y hy⟩
  have hp:=pU (bN D []) D [] 0 (fun y hy=>CN (hn y hy)) (fun w hw=>by cases hw) g.1
  have:=BP hp hpr hx
  rw[ht,<-hte,<-this,w2]
 ·cases h
theorem tj{a d:Ty}{x:Nm}(h:n9 a x=some d):∀y,bj y d=true->bj y a=true:=by
 simp only[n9,bm,cR,eS]at h
 obtain⟨d',h1,_,rfl⟩:=h
 intro y hy
 rcases ja _ hy with h|⟨h,h'⟩
 ·exact h
 ·rcases gy a 0 (h1.names y h')with e|e
  ·exact absurd e h
  ·exact e
structure ZT(s d:Nm)(a:Ty)(x A B:E)(D:Ty):Prop where
 l:kF s=some a
 ce:jE s=some (.list [x,A,B])
 ask:Ask (.list [x,A,B]) [] (.rc a)
 hx:x.at=[114,101,99]
 body:Ask B [.mk A.at (.list [x,A,B]) []] a
 dl:cJ s=some d
 y:qM s=some (.rc a)
 lp:n9 a mc=some D
 bk:qM d=some D
theorem uw{s:Nm}{t:Ty}(h:xj s=some t):qM s=some t:=by
 unfold xj at h
 split at h
 ·cases h
 ·rename_i u hu
  split at h
  ·cases h;exact hu
  ·cases h
theorem ZT.of{s d:Nm}{a:Ty}(hl:kF s=some a)(hd:cJ s=some d):∃x A B D,ZT s d a x A B D:=by
 have hc:=tW hl
 cases hce:jE s with
 |none=>rw[np hce]at hc;cases hc
 |
  some e =>
  obtain⟨t,h1,hA,_⟩:=gU hce
  rw[hc]at h1;cases h1
  obtain⟨x,A,B,rfl,hx,hA',hB⟩:=s6 hA
  have hy:=uw hc
  have hd':=hd
  unfold cJ at hd'
  rw[hy]at hd'
  obtain⟨D,h2,h3⟩:=bm.1 hd'
  obtain⟨e2,he2,hw2,hte2,_,_⟩:=n0 hy
  have hg:=rF hw2 hte2 (x:=mc) ⟨by simp,by simp,by simp⟩ h2
  exact⟨x,A,B,D,hl,hce,hA,hx,hB,hd,hy,h2,zu hg.1 (fun y hy'=>nq hy y (tj h2 y hy')) h3⟩
structure Cx(a:Ty)(w:Vl):Prop where
 ok:dL a w=true
 ty:∀v,vT 100 v (.rc a)=true->vT 100 (.f (cX a w v)) (.rc a)=true
 gR:w.gR 100
 nd:w.nodes<=200
structure Fo(a:Ty)(v:Vl):Prop where
 ty:vT 100 v (.rc a)=true
 gR:v.gR 100
 nd:v.nodes<=200
theorem ZT.ctx{s d:Nm}{a:Ty}{x A B:E}{D:Ty}(z:ZT s d a x A B D){c:Nm}{w:Vl}(h:mo d c 100=some w):Cx a w:=by
 obtain⟨e,t,m,h1,h2,h3,h4,h5,h6,h7⟩:=om h
 have hm:m=100:=by omega
 subst hm
 have:=uw h3
 rw[z.bk]at this;cases this
 rw[mW h4]at h7
 obtain⟨e2,he2,hw2,hte2,_,_⟩:=n0 z.y
 have hlc:jy (.rc a) 0:=hte2 ▸ hw2.qw.1
 obtain⟨q1,q2⟩:=Gv (uJ z.y) hlc z.lp h7
 exact⟨q1,q2,(lI h2).2.1,(lI h2).2.2⟩
theorem ZT.nJ{s d:Nm}{a:Ty}{x A B:E}{D:Ty}(z:ZT s d a x A B D){f:Nm}{v:Vl}(h:qB s f=some v):Fo a v/\f=v.cC:=by
 obtain⟨a',x',A',B',L⟩:=pP h
 have:=L.l
 rw[z.l]at this;cases this
 exact⟨⟨by rw[<-mW L.ask];exact L.eY,L.gR,L.nodes⟩,qO L.v⟩
theorem Fo.eY{s d:Nm}{a:Ty}{x A B:E}{D:Ty}(z:ZT s d a x A B D){v:Vl}(h:Fo a v):eY 100 v (.list [x,A,B],[])=true:=by rw[mW z.ask];exact h.ty
theorem ZT.cC{s d:Nm}{a:Ty}{x A B:E}{D:Ty}(z:ZT s d a x A B D){w:Vl}(hb:w.gR 100)(hv:vT 100 w (.rc a)=true):mo s w.cC 100=if w.nodes<=200 then some w else none:=by
 unfold mo
 rw[z.ce]
 by_cases hn:w.nodes<=200
 ·rw[qI hb hn,if_pos hn]
  simp only
  rw[if_pos ⟨by omega,by rw[show (100:Int).toNat=100 from rfl,mW z.ask];exact hv⟩]
 ·rw[if_neg hn]
  cases q:sw w.cC with
  |none=>rfl
  |
   some w' =>
   exfalso
   obtain⟨_,h2,h3⟩:=lI q
   have:=tP hb h2 (qO q)
   rw[this]at hn;exact hn h3
theorem ZT.lv{s d:Nm}{a:Ty}{x A B:E}{D:Ty}(z:ZT s d a x A B D)(f:Nm):qB s f=mo s f 100:=by
 unfold qB;rw[z.l]
def eE(d:Nm):List Nm->Option (List Vl)
 |[]=>some []
 |
  c::r=>match mo d c 100,eE d r with
  |some w,some l=>some (w::l)
  |_,_=>none
theorem rE{s d:Nm}{a:Ty}{x A B:E}{D:Ty}(z:ZT s d a x A B D):∀(p:List Nm) (l:List Vl),eE d p=some l->p=l.map (·.cC)/\∀c,c∈l->Cx a c
 |[],l,h=>by cases h;exact⟨rfl,fun c hc=>by cases hc⟩
 |
  c::r,l,h=>by
  simp only[eE]at h
  split at h
  ·rename_i w l' h1 h2
   cases h
   obtain⟨q1,q2⟩:=rE z r l' h2
   obtain⟨_,_,_,_,hv,_⟩:=om h1
   refine⟨by rw[bG,<-q1,<-qO hv],fun c' hc'=>?_⟩
   rcases aJ.1 hc' with rfl|hc'
   ·exact z.ctx h1
   ·exact q2 c' hc'
  ·cases h
theorem s7(d:Nm):∀(p q:List Nm),eE d (p++q)=(eE d p).bind fun l=>(eE d q).map (l++·)
 |[],q=>by cases h:eE d q<;>simp[eE,h]
 |
  c::p,q=>by
  simp only[bb,eE,s7 d p q]
  cases mo d c 100 with
  |none=>rfl
  |
   some w =>
   cases eE d p with
   |none=>rfl
   |some l=>cases eE d q<;>rfl
noncomputable def tX (s:Nm) (p:List Nm) (f:Nm):Option (List Vl×Vl):=match qB s f,cJ s with
 |some v,some d=>if p.length<=50 then(eE d p).map fun l=>(l,v)else none
 |_,_=>none
def zA(s:Nm):Ty:=(kF s).getD .zero
def qd(a:Ty)(l:List Vl)(v:Vl):Option (List Vl×Vl):=match l.getLast? with
 |none=>none
 |some c=>if(Vl.f (cX a c v)).nodes<=200 then some (l.dropLast,.f (cX a c v))else none
def iV:Nat->Ty->List Vl->Vl->Option Vl
 |0,_,_,v=>some v
 |n+1,a,l,v=>(qd a l v).bind fun r=>iV n a r.1 r.2
def sB(a:Ty)(l:List Vl)(v:Vl):Option Vl:=iV l.length a l v
noncomputable def gh (s:Nm) (p:List Nm) (f:Nm):Option (List Vl×Vl):=(tX s p f).bind fun r=>if(sB (zA s) r.1 r.2).isSome=true then some r else none
structure ZI(a:Ty)(l:List Vl)(v:Vl):Prop where
 ctx:∀c,c∈l->Cx a c
 nJ:Fo a v
theorem ua{a:Ty}{l l':List Vl}{v w:Vl}(h:ZI a l v)(hu:qd a l v=some (l',w)):ZI a l' w/\l'.length+1=l.length/\∃c,l=l'++[c]/\w=.f (cX a c v):=by
 unfold qd at hu
 cases q:l.getLast? with
 |none=>rw[q]at hu;cases hu
 |
  some c =>
  rw[q]at hu
  simp only at hu
  split at hu
  ·rename_i hn
   cases hu
   have hne:l≠[]:=by rintro rfl;cases q
   have hl:l.dropLast++[c]=l:=by
    have:=List.dropLast_concat_getLast hne
    rw[List.getLast?_eq_some_getLast hne]at q
    cases q;exact this
   have hc:c∈l:=by rw[<-hl];simp
   have hC:=h.ctx c hc
   refine⟨⟨fun c' hc'=>h.ctx c' (by rw[<-hl];exact aD _ hc'),hC.ty v h.nJ.ty,rI 100 a c v hC.gR h.nJ.gR,hn⟩,?_,c,hl.symm,rfl⟩
   have:=congrArg List.length hl
   simpa using this
  ·cases hu
end Go.Proofs.Trees
namespace Go.Proofs.Trees
open Go Go.VL Go.RowKit
theorem wF(w:World)(k:Nat)(os:Array Obj):Below w.heap.size w (Go.«Sort».grow (w.drewN k) os):=by
 refine⟨rfl,rfl,rfl,?_,fun b hb=>?_⟩
 ·simp[Go.«Sort».grow,World.drewN]
 ·simp only[Go.«Sort».grow,World.drewN]
  rw[Array.getElem?_append_left hb]
theorem FK(k:Nat)(hk:k<1000000000):an Tryz.prog 152 [.v (.int .i64 (k:Int))] [] (bJ (.v (.string (mk (dd k))))):=by
 refine an.PW (xs:=[.int .i64 (k:Int)]) ⟨qD,by kernel_rfl,by kernel_rfl,by kernel_rfl⟩ fun w ht=>?_
 have:=Any.strconv_Itoa Tryz.CD (k:Int) (by omega) (by omega) w ht
 refine Calls.mono this fun e w' ⟨h1,n,os,h2⟩=>⟨?_,?_⟩
 ·rw[h1,Lib.itoa_nonneg];rfl
 ·rw[h2];exact wF w n os
abbrev hN(k:Nat):Nm:=35::dd k
theorem uT{j k:Nat}(h:hN j=hN k):j=k:=w4 (j+1) j k (by omega) (List.cons.inj h).2
theorem wM(u:Ty):∀(t:Ty) (i:Nat),i+t.atoms<1000000->an Tryz.prog 135 [t.av,u.av,.v (.int .i64 (i:Int))] [] (bJ (dB u t i).av)
 |
  .zero,i,_=>by
  refine xk _ _ _ ((aF _).mpr trivial) ((aF _).mpr trivial) ?_
  simp[EG,Ty.av,dB,↓zq,zs,ae,bJ]
 |
  .one,i,_=>by
  refine xk _ _ _ ((aF _).mpr trivial) ((aF _).mpr trivial) ?_
  simp[EG,Ty.av,dB,↓zq,zs,ae,bJ]
 |
  .name s,i,_=>by
  refine xk _ _ _ ((aF _).mpr trivial) ((aF _).mpr trivial) ?_
  simp[EG,Ty.av,dB,↓zq,zs,ae,bJ]
 |
  .bound k,i,_=>by
  refine xk _ _ _ ((aF _).mpr trivial) ((aF _).mpr trivial) ?_
  simp only[EG,Ty.av,dB,↓zq,zs,ae,bJ]
  refine⟨by omega,fun _=>⟨by omega,fun h=>?_,fun h=>?_⟩,fun h=>absurd rfl h⟩
  ·rw[if_pos (by omega)]
  ·rw[if_neg (by omega)];rfl
 |
  .plus a b,i,hl=>by
  simp only[Ty.atoms]at hl
  refine xk _ _ _ ((aF _).mpr trivial) ((aF _).mpr trivial) ?_
  simp only[EG,Ty.av,dB,↓zq,zs,ae,aF]
  refine⟨by omega,fun h=>by omega,fun _=>⟨fun _=>?_,fun h=>absurd rfl h⟩⟩
  repeat refine⟨by omega,?_⟩
  refine aj (wM u a i (by omega)) ?_
  simp only[↓zq,zs,ae,aF]
  repeat refine⟨by omega,?_⟩
  refine aj (wM u b i (by omega)) ?_
  simp only[↓zq,zs,ae,aF]
  exact⟨rfl,rfl⟩
 |
  .times a b,i,hl=>by
  simp only[Ty.atoms]at hl
  refine xk _ _ _ ((aF _).mpr trivial) ((aF _).mpr trivial) ?_
  simp only[EG,Ty.av,dB,↓zq,zs,ae,aF]
  refine⟨by omega,fun h=>by omega,fun _=>⟨fun h=>by omega,fun _=>⟨fun _=>?_,fun h=>absurd rfl h⟩⟩⟩
  repeat refine⟨by omega,?_⟩
  refine aj (wM u a i (by omega)) ?_
  simp only[↓zq,zs,ae,aF]
  repeat refine⟨by omega,?_⟩
  refine aj (wM u b i (by omega)) ?_
  simp only[↓zq,zs,ae,aF]
  exact⟨rfl,rfl⟩
 |
  .rc a,i,hl=>by
  simp only[Ty.atoms]at hl
  refine xk _ _ _ ((aF _).mpr trivial) ((aF _).mpr trivial) ?_
  simp only[EG,Ty.av,dB,↓zq,zs,ae,aF]
  refine⟨by omega,fun h=>by omega,fun _=>⟨fun h=>by omega,fun _=>⟨fun h=>by omega,fun _=>⟨fun _=>?_,fun h=>absurd rfl h⟩⟩⟩⟩
  repeat refine⟨by omega,?_⟩
  rw[bA i (by omega)]
  refine aj (wM u a (i+1) (by omega)) ?_
  simp only[↓zq,zs,ae,aF]
  exact⟨rfl,rfl⟩
theorem BW(x:Nm)(u:Ty):∀(t:Ty),an Tryz.prog 136 [t.av,.v (.string (mk x)),u.av] [] (bJ (sub x u t).av)
 |
  .zero=>by
  refine wP _ _ _ ((aF _).mpr trivial) ((aF _).mpr trivial) ?_
  simp[E1,Ty.av,sub,↓zq,zs,ae,bJ]
 |
  .one=>by
  refine wP _ _ _ ((aF _).mpr trivial) ((aF _).mpr trivial) ?_
  simp[E1,Ty.av,sub,↓zq,zs,ae,bJ]
 |
  .bound k=>by
  refine wP _ _ _ ((aF _).mpr trivial) ((aF _).mpr trivial) ?_
  simp[E1,Ty.av,sub,↓zq,zs,ae,bJ]
 |
  .name s=>by
  refine wP _ _ _ ((aF _).mpr trivial) ((aF _).mpr trivial) ?_
  simp only[E1,Ty.av,sub,↓zq,zs,ae,zt,bJ]
  refine⟨by omega,fun _=>⟨by omega,fun h=>?_,fun h=>?_⟩,fun h=>absurd rfl h⟩
  ·rw[if_pos h]
  ·rw[if_neg h];rfl
 |
  .plus a b=>by
  refine wP _ _ _ ((aF _).mpr trivial) ((aF _).mpr trivial) ?_
  simp only[E1,Ty.av,sub,↓zq,zs,ae,aF]
  refine⟨by omega,fun h=>by omega,fun _=>⟨fun _=>?_,fun h=>absurd rfl h⟩⟩
  repeat refine⟨by omega,?_⟩
  refine aj (BW x u a) ?_
  simp only[↓zq,zs,ae,aF]
  repeat refine⟨by omega,?_⟩
  refine aj (BW x u b) ?_
  simp only[↓zq,zs,ae,aF]
  exact⟨rfl,rfl⟩
 |
  .times a b=>by
  refine wP _ _ _ ((aF _).mpr trivial) ((aF _).mpr trivial) ?_
  simp only[E1,Ty.av,sub,↓zq,zs,ae,aF]
  refine⟨by omega,fun h=>by omega,fun _=>⟨fun h=>by omega,fun _=>⟨fun _=>?_,fun h=>absurd rfl h⟩⟩⟩
  repeat refine⟨by omega,?_⟩
  refine aj (BW x u a) ?_
  simp only[↓zq,zs,ae,aF]
  repeat refine⟨by omega,?_⟩
  refine aj (BW x u b) ?_
  simp only[↓zq,zs,ae,aF]
  exact⟨rfl,rfl⟩
 |
  .rc a=>by
  refine wP _ _ _ ((aF _).mpr trivial) ((aF _).mpr trivial) ?_
  simp only[E1,Ty.av,sub,↓zq,zs,ae,aF]
  refine⟨by omega,fun h=>by omega,fun _=>⟨fun h=>by omega,fun _=>⟨fun h=>by omega,fun _=>⟨fun _=>?_,fun h=>absurd rfl h⟩⟩⟩⟩
  repeat refine⟨by omega,?_⟩
  refine aj (BW x u a) ?_
  simp only[↓zq,zs,ae,aF]
  exact⟨rfl,rfl⟩
theorem za(c:Int)(a b:Ty):an Tryz.prog 153 [.v (.int .u8 c),a.av,b.av] [] (bJ (.ptr [.v (.int .u8 c),.v (.string (mk [])),.v (.int .i64 0),a.av,b.av])):=by
 refine R0 _ _ _ ((aF _).mpr trivial) ((aF _).mpr trivial) ?_
 simp[LR,↓zq,zs,ae,bJ]
abbrev Ev(f:Nat)(g:Bool):Ob:=.cells [.v (.int .i64 (f:Int)),.v (.bool g)]
theorem Jh(f:Nat)(g:Bool)(hf:f<100000000):an Tryz.prog 132 [.ref 0 0] [Ev f g] (dh (.v (.string (mk (hN (f+1))))) [Ev (f+1) g]):=by
 refine Pn _ _ ?_
 simp only[Nq,↓zq,zs,ae,zt]
 rw[bA f (by omega)]
 refine aj (FK (f+1) (by omega)) ?_
 have hd:=oi 8 (f+1) (by omega)
 simp only[↓zq,zs,ae,zt,bb,aU]
 exact⟨by simp[cM];omega,rfl,rfl⟩
def ve(g:Bool)(t:Ty):Ty:=if g=true\/400<t.atoms then .zero else t
def Ax(g:Bool)(t:Ty):Bool:=g||decide (400<t.atoms)
theorem yB(t:Ty):ve true t=.zero:=by simp[ve]
theorem vM(t:Ty):Ax true t=true:=rfl
theorem vk{t:Ty}(h:t.atoms<=400):ve false t=t:=by simp[ve,show ¬400<t.atoms by omega]
theorem wk{t:Ty}(h:t.atoms<=400):Ax false t=false:=by simp[Ax,show ¬400<t.atoms by omega]
theorem EH{t:Ty}(h:¬t.atoms<=400):Ax false t=true:=by simp[Ax,show 400<t.atoms by omega]
theorem E4{t:Ty}(h:¬t.atoms<=400):ve false t=.zero:=by simp[ve,show 400<t.atoms by omega]
theorem wx(f:Nat)(g:Bool)(t:Ty)(hl:t.atoms<1000000):an Tryz.prog 133 [.ref 0 0,t.av] [Ev f g] (dh (ve g t).av [Ev f (Ax g t)]):=by
 refine Pv _ _ _ ((aF _).mpr trivial) ?_
 simp only[NO,↓zq,zs,ae,zt]
 cases g with
 |true=>exact⟨fun _=>⟨rfl,rfl⟩,fun h=>(by cases h)⟩
 |
  false =>
  refine⟨fun h=>(by cases h),fun _=>?_⟩
  refine aj (EK t hl) ?_
  simp only[↓zq,zs,ae,zt]
  refine⟨fun h=>?_,fun h=>?_⟩
  ·have h:400<t.atoms:=by omega
   simp[ve,Ax,h,dh,Ty.av]
  ·have h:¬400<t.atoms:=by omega
   simp[ve,Ax,h,dh]
theorem Gp(t:Ty)(s:Nm)(f:Nat):an Tryz.prog 134 [.ref 0 0,t.av,.v (.string (mk s))] [Ev f true] (dh Ty.zero.av [Ev f true]):=by
 refine NR _ _ _ _ ((aF _).mpr trivial) ?_
 simp only[DQ,↓zq,zs,ae]
 exact⟨fun _=>⟨rfl,rfl⟩,fun h=>(by cases h)⟩
def CM(f:Nat)(t:Ty):Prop:=∀j,f<j->bj (hN j) t=false
def qa(o:Option Ty)(t:Ty):Nat:=match o with|some d=>d.atoms|none=>1000*t.atoms
def B9(o:Option Ty)(f B:Nat):AV->List Ob->Prop:=fun r ob=>∃f':Nat,f<=f'/\f'<=f+B/\r=(o.getD .zero).av/\ob=[Ev f' o.isNone]
theorem B9.ne(o:Option Ty)(f B:Nat):∃r ob,B9 o f B r ob:=⟨_,_,f,au _,da _ _,rfl,rfl⟩
theorem rl{f f':Nat}{t:Ty}(h:CM f t)(hf:f<=f'):CM f' t:=fun j hj=>h j (by omega)
theorem Gw:∀(n:Nat) (t:Ty),t.atoms<=n->t.atoms<=400->∀(s:Nm) (f:Nat),CM f t->(∀j,f<j->s≠hN j)->f+1000*t.atoms<50000000->an Tryz.prog 134 [.ref 0 0,t.av,.v (.string (mk s))] [Ev f false] (B9 (lW t s) f (qa (lW t s) t))
 |0,t,h=>by have:=ej t;omega
 |
  n+1,t,hn=>by
  intro h4 s f hf hs hb
  refine NR _ _ _ _ ((aF _).mpr trivial) ?_
  have fin0:∀u:Ty,lW t s=some u->B9 (lW t s) f (qa (lW t s) t) u.av [Ev f false]:=fun u hu=>by
   rw[hu];exact⟨f,au _,da _ _,rfl,rfl⟩
  cases t with
  |
   zero =>
   have:=fin0 .zero (vj s)
   simpa[DQ,Ty.av,↓zq,zs,ae]using this
  |
   one =>
   have:=fin0 .zero (yz s)
   simpa[DQ,Ty.av,↓zq,zs,ae]using this
  |
   bound k =>
   have:=fin0 .zero (Ag k s)
   simpa[DQ,Ty.av,↓zq,zs,ae]using this
  |
   name c =>
   simp only[DQ,Ty.av,↓zq,zs,ae,zt]
   refine⟨fun h=>(by cases h),fun _=>⟨by omega,fun _=>⟨by omega,fun h=>?_,fun h=>?_⟩,fun h=>absurd rfl h⟩⟩
   ·exact fin0 .one (by rw[oB,if_pos h])
   ·exact fin0 .zero (by rw[oB,if_neg h])
  |
   plus a b =>
   simp only[Ty.atoms]at hn h4 hb
   have pa:=ej a
   have pb:=ej b
   have fa:CM f a:=fun j hj=>by have:=hf j hj;simp only[bj,ck]at this;exact this.1
   have fb:CM f b:=fun j hj=>by have:=hf j hj;simp only[bj,ck]at this;exact this.2
   simp only[DQ,Ty.av,↓zq,zs,ae,zt,aF]
   refine⟨fun h=>(by cases h),fun _=>⟨by omega,fun h=>by omega,fun _=>⟨fun _=>?_,fun h=>absurd rfl h⟩⟩⟩
   repeat refine⟨by omega,?_⟩
   rw[vo]
   refine aP (Gw n a (by omega) (by omega) s f fa hs (by omega)) (B9.ne _ _ _) ?_
   rintro r ob ⟨f1,g1,g2,rfl,rfl⟩
   simp only[↓zq,zs,ae,zt,aL,aF]
   repeat refine⟨by omega,?_⟩
   cases q1:lW a s with
   |
    none =>
    rw[q1]at g2
    simp only[qa]at g2
    simp only[Option.isNone_none,Option.getD_none,bT]
    refine aW (Gp b s f1) ?_
    simp only[↓zq,zs,ae,zt,aL,aF]
    repeat refine⟨by omega,?_⟩
    refine aj (za 43 _ _) ?_
    simp only[↓zq,zs,ae,zt,cg]
    refine aW (wx f1 true (.plus .zero .zero) (by simp[Ty.atoms])) ?_
    simp only[↓zq,zs,ae,zt,aL,aF]
    exact⟨f1,g1,by simp only[qa,Ty.atoms];omega,rfl,rfl⟩
   |
    some a' =>
    rw[q1]at g2
    simp only[qa]at g2
    have la:=(cR.1 q1).small
    simp only[Option.isNone_some,cA,ba]
    refine aP (Gw n b (by omega) (by omega) s f1 (rl fb g1) (fun j hj=>hs j (by omega)) (by omega)) (B9.ne _ _ _) ?_
    rintro r ob ⟨f2,k1,k2,rfl,rfl⟩
    simp only[↓zq,zs,ae,zt,aL,aF]
    repeat refine⟨by omega,?_⟩
    refine aj (za 43 _ _) ?_
    simp only[↓zq,zs,ae,zt,cg]
    cases q2:lW b s with
    |
     none =>
     rw[q2]at k2
     simp only[qa]at k2
     simp only[Option.isNone_none,Option.getD_none,bT]
     refine aW (wx f2 true (.plus a' .zero) (by simp[Ty.atoms];omega)) ?_
     simp only[↓zq,zs,ae,zt,aL,aF]
     exact⟨f2,by omega,by simp only[qa,Ty.atoms];omega,rfl,rfl⟩
    |
     some b' =>
     rw[q2]at k2
     simp only[qa]at k2
     have lb:=(cR.1 q2).small
     simp only[Option.isNone_some,cA,ba]
     refine aW (wx f2 false (.plus a' b') (by simp only[Ty.atoms];omega)) ?_
     simp only[↓zq,zs,ae,zt,aL,aF]
     unfold nH
     by_cases hle:(Ty.plus a' b').atoms<=400
     ·rw[if_pos hle]
      refine⟨f2,by omega,by simp only[qa,Ty.atoms];omega,?_,?_⟩
      ·simp[ve,show ¬400<(Ty.plus a' b').atoms by omega]
      ·simp[Ax,show ¬400<(Ty.plus a' b').atoms by omega]
     ·rw[if_neg hle]
      refine⟨f2,by omega,by simp only[qa,Ty.atoms];omega,?_,?_⟩
      ·simp[ve,show 400<(Ty.plus a' b').atoms by omega]
      ·simp[Ax,show 400<(Ty.plus a' b').atoms by omega]
  |
   times a b =>
   simp only[Ty.atoms]at hn h4 hb
   have pa:=ej a
   have pb:=ej b
   have fa:CM f a:=fun j hj=>by have:=hf j hj;simp only[bj,ck]at this;exact this.1
   have fb:CM f b:=fun j hj=>by have:=hf j hj;simp only[bj,ck]at this;exact this.2
   simp only[DQ,Ty.av,↓zq,zs,ae,zt,aF]
   refine⟨fun h=>(by cases h),fun _=>⟨by omega,fun h=>by omega,fun _=>⟨fun h=>by omega,fun _=>⟨fun _=>?_,fun h=>absurd rfl h⟩⟩⟩⟩
   repeat refine⟨by omega,?_⟩
   rw[s4]
   refine aP (Gw n a (by omega) (by omega) s f fa hs (by omega)) (B9.ne _ _ _) ?_
   rintro r ob ⟨f1,g1,g2,rfl,rfl⟩
   simp only[↓zq,zs,ae,zt,aL,aF]
   repeat refine⟨by omega,?_⟩
   refine aj (za 42 _ _) ?_
   simp only[↓zq,zs,ae,zt,cg]
   repeat refine⟨by omega,?_⟩
   cases q1:lW a s with
   |
    none =>
    rw[q1]at g2
    simp only[qa]at g2
    simp only[Option.isNone_none,Option.getD_none,bT]
    refine aW (Gp b s f1) ?_
    simp only[↓zq,zs,ae,zt,aL,aF]
    repeat refine⟨by omega,?_⟩
    refine aj (za 42 _ _) ?_
    simp only[↓zq,zs,ae,zt,cg]
    refine aj (za 43 (.times .zero b) (.times a .zero)) ?_
    simp only[↓zq,zs,ae,zt,cg]
    refine aW (wx f1 true (.plus (.times .zero b) (.times a .zero)) (by simp only[Ty.atoms];omega)) ?_
    simp only[↓zq,zs,ae,zt,aL,aF]
    exact⟨f1,g1,by simp only[qa,Ty.atoms];omega,rfl,rfl⟩
   |
    some a' =>
    rw[q1]at g2
    simp only[qa]at g2
    have la:=(cR.1 q1).small
    simp only[Option.isNone_some,cA,ba]
    refine aP (Gw n b (by omega) (by omega) s f1 (rl fb g1) (fun j hj=>hs j (by omega)) (by omega)) (B9.ne _ _ _) ?_
    rintro r ob ⟨f2,k1,k2,rfl,rfl⟩
    simp only[↓zq,zs,ae,zt,aL,aF]
    repeat refine⟨by omega,?_⟩
    refine aj (za 42 _ _) ?_
    simp only[↓zq,zs,ae,zt,cg]
    cases q2:lW b s with
    |
     none =>
     rw[q2]at k2
     simp only[qa]at k2
     simp only[Option.isNone_none,Option.getD_none,bT]
     refine aj (za 43 (.times a' b) (.times a .zero)) ?_
     simp only[↓zq,zs,ae,zt,cg]
     refine aW (wx f2 true (.plus (.times a' b) (.times a .zero)) (by simp only[Ty.atoms];omega)) ?_
     simp only[↓zq,zs,ae,zt,aL,aF]
     exact⟨f2,by omega,by simp only[qa,Ty.atoms];omega,rfl,rfl⟩
    |
     some b' =>
     rw[q2]at k2
     simp only[qa]at k2
     have lb:=(cR.1 q2).small
     simp only[Option.isNone_some,cA,ba]
     refine aj (za 43 (.times a' b) (.times a b')) ?_
     simp only[↓zq,zs,ae,zt,cg]
     refine aW (wx f2 false (.plus (.times a' b) (.times a b')) (by simp only[Ty.atoms];omega)) ?_
     simp only[↓zq,zs,ae,zt,aL,aF]
     unfold nH
     by_cases hle:(Ty.plus (.times a' b) (.times a b')).atoms<=400
     ·rw[if_pos hle]
      refine⟨f2,by omega,by simp only[qa,Ty.atoms];omega,?_,?_⟩
      ·simp[ve,show ¬400<(Ty.plus (.times a' b) (.times a b')).atoms by omega]
      ·simp[Ax,show ¬400<(Ty.plus (.times a' b) (.times a b')).atoms by omega]
     ·rw[if_neg hle]
      refine⟨f2,by omega,by simp only[qa,Ty.atoms];omega,?_,?_⟩
      ·simp[ve,show 400<(Ty.plus (.times a' b) (.times a b')).atoms by omega]
      ·simp[Ax,show 400<(Ty.plus (.times a' b) (.times a b')).atoms by omega]
  |
   rc a =>
   simp only[Ty.atoms]at hn h4 hb
   have pa:=ej a
   have fa:CM f a:=fun j hj=>hf j hj
   have hxa:bj (hN (f+1)) a=false:=fa _ (by omega)
   have hxs:hN (f+1)≠s:=fun e=>hs _ (by omega) e.symm
   have fo:CM (f+1) (dB (.name (hN (f+1))) a 0):=fun j hj=>by
    cases q:bj (hN j) (dB (.name (hN (f+1))) a 0)with
    |false=>rfl
    |
     true =>
     rcases gy a 0 q with e|e
     ·have:=uT e;omega
     ·rw[fa j (by omega)]at e;cases e
   have hoa:(dB (.name (hN (f+1))) a 0).atoms=a.atoms:=fH _ _ _
   have hop:=wM (.name (hN (f+1))) a 0 (by omega)
   rw[Bx hxa hxs]
   simp only[DQ,Ty.av,↓zq,zs,ae,zt,aF]
   refine⟨fun h=>(by cases h),fun _=>⟨by omega,fun h=>by omega,fun _=>⟨fun h=>by omega,fun _=>⟨fun h=>by omega,fun _=>⟨fun _=>?_,fun h=>absurd rfl h⟩⟩⟩⟩⟩
   refine aW (Jh f false (by omega)) ?_
   simp only[↓zq,zs,ae,zt,aL,aF]
   repeat refine⟨by omega,?_⟩
   simp only[Ty.av]at hop
   refine aj hop ?_
   simp only[↓zq,zs,ae,zt,aL,aF]
   refine aP (Gw n (dB (.name (hN (f+1))) a 0) (by omega) (by omega) s (f+1) fo (fun j hj=>hs j (by omega)) (by omega)) (B9.ne _ _ _) ?_
   rintro r ob ⟨f1,g1,g2,rfl,rfl⟩
   simp only[↓zq,zs,ae,zt,aL,aF]
   generalize hx:hN (f+1)=x at *
   generalize hin:dB (.name x) a 0=i at *
   have hrc:(Ty.rc a).av=.ptr [.v (.int .u8 114),.v (.string (mk [])),.v (.int .i64 0),a.av,.v (.pointer none)]:=rfl
   cases q1:lW i s with
   |
    none =>
    rw[q1]at g2
    simp only[qa]at g2
    simp only[Option.isNone_none,Option.getD_none,bT]
    refine aW (wx f1 true .zero (by simp[Ty.atoms])) ?_
    simp only[↓zq,zs,ae,zt,aL,aF]
    rw[<-hrc]
    refine aj (BW x (.rc a) _) ?_
    simp only[↓zq,zs,ae,zt,aF]
    refine aW (Gp i x f1) ?_
    simp only[↓zq,zs,ae,zt,aL,aF]
    refine aW (wx f1 true .zero (by simp[Ty.atoms])) ?_
    simp only[↓zq,zs,ae,zt,aL,aF]
    refine aj (BW x (.rc a) _) ?_
    simp only[↓zq,zs,ae,zt,aF]
    refine aj (za 42 _ (.bound 0)) ?_
    simp only[↓zq,zs,ae,zt,cg]
    refine aj (za 43 (sub x (.rc a) (ve true .zero)) (.times (sub x (.rc a) (ve true .zero)) (.bound 0))) ?_
    simp only[↓zq,zs,ae,zt,cg,vM]
    have hz:sub x (.rc a) (ve true .zero)=.zero:=by rw[yB];rfl
    refine aW (wx f1 true (.rc (.plus (sub x (.rc a) (ve true .zero)) (.times (sub x (.rc a) (ve true .zero)) (.bound 0)))) (by rw[hz];simp only[Ty.atoms];omega)) ?_
    simp only[↓zq,zs,ae,zt,aL,aF]
    rw[yB,vM]
    exact⟨f1,by omega,by simp only[qa,Ty.atoms];omega,rfl,rfl⟩
   |
    some c =>
    rw[q1]at g2
    simp only[qa]at g2
    have lc:=(cR.1 q1).small
    simp only[Option.isNone_some,cA,ba]
    refine aW (wx f1 false c (by omega)) ?_
    simp only[↓zq,zs,ae,zt,aL,aF]
    rw[vk lc,wk lc,<-hrc]
    refine aj (BW x (.rc a) c) ?_
    simp only[↓zq,zs,ae,zt,aF]
    refine aP (Gw n i (by omega) (by omega) x f1 (rl fo g1) (fun j hj=>by rw[<-hx];exact fun e=>by have:=uT e;omega) (by omega)) (B9.ne _ _ _) ?_
    rintro r ob ⟨f2,k1,k2,rfl,rfl⟩
    simp only[↓zq,zs,ae,zt,aL,aF]
    have hsc:(sub x (.rc a) c).atoms+fB x c=c.atoms+fB x c*(Ty.rc a).atoms:=dU x (.rc a) c
    have hcc:∀t:Ty,fB x t<=t.atoms:=fun t=>by
     have h1:=dU x .zero t
     have h2:=gJ x .zero t
     simp only[Ty.atoms,dH]at h1
     have h3:∀t:Ty,fB x t<=t.atoms:=by
      intro t
      induction t with
      |name s=>simp only[fB,Ty.atoms];split<;>omega
      |plus a b i1 i2=>simp only[fB,Ty.atoms];omega
      |times a b i1 i2=>simp only[fB,Ty.atoms];omega
      |rc a i=>simp only[fB,Ty.atoms];omega
      |_=>simp[fB,Ty.atoms]
     exact h3 t
    have hbig:∀t:Ty,t.atoms<=400->(sub x (.rc a) t).atoms<=400+400*402:=fun t ht=>by
     have h1:=dU x (.rc a) t
     have h2:=hcc t
     have h3:fB x t*(Ty.rc a).atoms<=400*402:=Nat.mul_le_mul (by omega) (by simp only[Ty.atoms];omega)
     omega
    have b1:=hbig c lc
    cases q2:lW i x with
    |
     none =>
     rw[q2]at k2
     simp only[qa]at k2
     simp only[Option.isNone_none,Option.getD_none,bT]
     refine aW (wx f2 true .zero (by simp[Ty.atoms])) ?_
     simp only[↓zq,zs,ae,zt,aL,aF]
     rw[yB,vM]
     refine aj (BW x (.rc a) .zero) ?_
     simp only[↓zq,zs,ae,zt,aF]
     refine aj (za 42 _ (.bound 0)) ?_
     simp only[↓zq,zs,ae,zt,cg]
     refine aj (za 43 (sub x (.rc a) c) (.times (sub x (.rc a) .zero) (.bound 0))) ?_
     simp only[↓zq,zs,ae,zt,cg]
     refine aW (wx f2 true (.rc (.plus (sub x (.rc a) c) (.times (sub x (.rc a) .zero) (.bound 0)))) (by simp only[sub,Ty.atoms];omega)) ?_
     simp only[↓zq,zs,ae,zt,aL,aF]
     rw[yB,vM]
     exact⟨f2,by omega,by simp only[qa,Ty.atoms];omega,rfl,rfl⟩
    |
     some d =>
     rw[q2]at k2
     simp only[qa]at k2
     have ld:=(cR.1 q2).small
     have b2:=hbig d ld
     simp only[Option.isNone_some,cA,ba]
     refine aW (wx f2 false d (by omega)) ?_
     simp only[↓zq,zs,ae,zt,aL,aF]
     rw[vk ld,wk ld]
     refine aj (BW x (.rc a) d) ?_
     simp only[↓zq,zs,ae,zt,aF]
     refine aj (za 42 _ (.bound 0)) ?_
     simp only[↓zq,zs,ae,zt,cg]
     refine aj (za 43 (sub x (.rc a) c) (.times (sub x (.rc a) d) (.bound 0))) ?_
     simp only[↓zq,zs,ae,zt,cg]
     have hdrc:pO a x c d=.rc (.plus (sub x (.rc a) c) (.times (sub x (.rc a) d) (.bound 0))):=rfl
     refine aW (wx f2 false (pO a x c d) (by rw[hdrc];simp only[Ty.atoms];omega)) ?_
     simp only[↓zq,zs,ae,zt,aL,aF]
     have s1:=gJ x (.rc a) c
     have s2:=gJ x (.rc a) d
     unfold nH
     by_cases hle:(pO a x c d).atoms<=400
     ·rw[if_pos hle,vk hle,wk hle]
      exact⟨f2,by omega,by simp only[qa,hdrc,Ty.atoms];omega,rfl,rfl⟩
     ·rw[if_neg hle,E4 hle,EH hle]
      exact⟨f2,by omega,by simp only[qa,Ty.atoms];omega,rfl,rfl⟩
def O7(o:Option Ty):AV->List Ob->Prop:=fun r ob=>ob=[]/\∃p,LK.ptr.has p/\r=.cI [p,.v (.bool o.isSome)]/\∀d,o=some d->p=d.av
theorem O7.ne(o:Option Ty):∃r ob,O7 o r ob:=by
 cases o with
 |none=>exact⟨_,_,rfl,iq,(jg).mpr trivial,rfl,fun d h=>by cases h⟩
 |some d=>exact⟨_,_,rfl,d.av,(aF _).mpr trivial,rfl,fun d' h=>by cases h;rfl⟩
theorem Gu:hN 1=mc:=by show (35::dd 1:Nm)=_;rw[eH (by omega)];rfl
theorem PO(a:Ty)(h4:a.atoms+2<=400)(hf:∀j,bj (hN j) a=false):an Tryz.prog 97 [(Ty.rc a).av] [] (O7 (n9 a mc)):=by
 have hxa:bj (hN 1) a=false:=hf 1
 have fo:CM 1 (dB (.name (hN 1)) a 0):=fun j hj=>by
  cases q:bj (hN j) (dB (.name (hN 1)) a 0)with
  |false=>rfl
  |
   true =>
   rcases gy a 0 q with e|e
   ·have:=uT e;omega
   ·rw[hf j]at e;cases e
 have hoa:(dB (.name (hN 1)) a 0).atoms=a.atoms:=fH _ _ _
 have hop:=wM (.name (hN 1)) a 0 (by omega)
 rw[<-Gu]
 have hrc:(Ty.rc a).av=.ptr [.v (.int .u8 114),.v (.string (mk [])),.v (.int .i64 0),a.av,.v (.pointer none)]:=rfl
 refine Rr _ ((aF _).mpr trivial) ?_
 unfold NC
 refine aW (Jh 0 false (by omega)) ?_
 simp only[Ty.av,↓zq,zs,ae,zt,aL,aF]
 repeat refine⟨by omega,?_⟩
 simp only[Ty.av]at hop
 refine aj hop ?_
 simp only[↓zq,zs,ae,zt,aL,aF]
 refine aP (Gw 400 (dB (.name (hN 1)) a 0) (by omega) (by omega) (hN 1) 1 fo (fun j hj e=>by have:=uT e;omega) (by omega)) (B9.ne _ _ _) ?_
 rintro r ob ⟨f1,g1,g2,rfl,rfl⟩
 simp only[↓zq,zs,ae,zt,aL,aF]
 unfold n9
 cases q1:lW (dB (.name (hN 1)) a 0) (hN 1)with
 |
  none =>
  simp only[Option.isNone_none,Option.getD_none,bT]
  refine aW (wx f1 true .zero (by simp[Ty.atoms])) ?_
  simp only[↓zq,zs,ae,zt,aL,aF,vM]
  exact⟨fun _=>⟨rfl,iq,(jg).mpr trivial,rfl,fun d h=>(by cases h)⟩,fun h=>(by cases h)⟩
 |
  some d =>
  have ld:=(cR.1 q1).small
  simp only[Option.isNone_some,cA,ba]
  refine aW (wx f1 false d (by omega)) ?_
  simp only[↓zq,zs,ae,zt,aL,aF]
  rw[vk ld,wk ld]
  refine⟨fun h=>(by cases h),fun _=>?_⟩
  rw[<-hrc]
  refine aj (BW (hN 1) (.rc a) d) ?_
  simp only[↓zq,zs,ae,zt,aF]
  have h1:=dU (hN 1) (.rc a) d
  have hcn:fB (hN 1) d<=d.atoms:=by
   have h3:∀t:Ty,fB (hN 1) t<=t.atoms:=by
    intro t
    induction t with
    |name s=>simp only[fB,Ty.atoms];split<;>omega
    |plus a b i1 i2=>simp only[fB,Ty.atoms];omega
    |times a b i1 i2=>simp only[fB,Ty.atoms];omega
    |rc a i=>simp only[fB,Ty.atoms];omega
    |_=>simp[fB,Ty.atoms]
   exact h3 d
  have h3:fB (hN 1) d*(Ty.rc a).atoms<=400*402:=Nat.mul_le_mul (by omega) (by simp only[Ty.atoms];omega)
  refine aW (wx f1 false (sub (hN 1) (.rc a) d) (by omega)) ?_
  simp only[↓zq,zs,ae,zt,aL,aF]
  unfold nH
  by_cases hle:(sub (hN 1) (.rc a) d).atoms<=400
  ·rw[if_pos hle,vk hle,wk hle]
   exact⟨rfl,_,(aF _).mpr trivial,rfl,fun d' h=>by cases h;rfl⟩
  ·rw[if_neg hle,E4 hle,EH hle]
   exact⟨rfl,_,(aF _).mpr trivial,rfl,fun d' h=>(by cases h)⟩
end Go.Proofs.Trees
namespace Go.Proofs.Trees
open Go Go.VL Go.RowKit
theorem rA(h:Nm)(a b:E):(e9 (.list [.atom h,a,b])).length=h.length+(e9 a).length+(e9 b).length+4:=by
 simp only[e9,ei,az,aq,aG];omega
theorem jd(F:List Nm)(hF:F.length<=10000):∀(t:Ty) (to:List Nm) (k:Nat),u7 t->(∀w,w∈to->w.length<=20)->k+(F.length+1)*t.atoms<90000000->(e9 (gZ F t to k).1).length<=50*t.atoms
 | .zero,_,_,_,_,_=>by simp[gZ,e9,Ty.atoms]
 | .one,_,_,_,_,_=>by simp[gZ,e9,Ty.atoms]
 | .name s,_,_,hn,_,_=>by have:=hn s (by simp[bj]);simp only[gZ,e9,Ty.atoms];omega
 |
  .bound u,to,_,_,ht,_=>by
  show (gj to u).length<=50*1
  unfold gj
  by_cases h:to.length-1-u<to.length
  ·rw[aa,bo h];have:=ht _ (bH h);simp only[cA];omega
  ·rw[aa,List.getElem?_eq_none (by omega)];simp
 |
  .plus a b,to,k,hn,ht,hk=>by
  have h1:=im F a to k
  have:(F.length+1)*(1+a.atoms+b.atoms)=(F.length+1)+(F.length+1)*a.atoms+(F.length+1)*b.atoms:=by simp only[cU,dH]
  simp only[Ty.atoms]at hk
  have i1:=jd F hF a to k (fun y hy=>hn y (by simp[bj,hy])) ht (by omega)
  have i2:=jd F hF b to _ (fun y hy=>hn y (by simp[bj,hy])) ht (show (gZ F a to k).2+_<_ by omega)
  simp only[gZ,rA,Ty.atoms,az,aG];omega
 |
  .times a b,to,k,hn,ht,hk=>by
  have h1:=im F a to k
  have:(F.length+1)*(1+a.atoms+b.atoms)=(F.length+1)+(F.length+1)*a.atoms+(F.length+1)*b.atoms:=by simp only[cU,dH]
  simp only[Ty.atoms]at hk
  have i1:=jd F hF a to k (fun y hy=>hn y (by simp[bj,hy])) ht (by omega)
  have i2:=jd F hF b to _ (fun y hy=>hn y (by simp[bj,hy])) ht (show (gZ F a to k).2+_<_ by omega)
  simp only[gZ,rA,Ty.atoms,az,aG];omega
 |
  .rc a,to,k,hn,ht,hk=>by
  obtain⟨g1,g2,_,_⟩:=gB F k
  have:(F.length+1)*(2+a.atoms)=(F.length+1)*2+(F.length+1)*a.atoms:=by simp only[cU]
  simp only[Ty.atoms]at hk
  have hl:=wW (k:=nx F k) (by omega)
  have i1:=jd F hF a (to++[tN (nx F k)]) (nx F k+1) hn (fun w hw=>by
   rcases aM.1 hw with hw|hw
   ·exact ht w hw
   ·simp only[aQ]at hw;rw[hw];exact hl) (by omega)
  simp only[gZ,rA,Ty.atoms,az,aG]
  simp only[e9]
  simp only[az]at hl |-
  omega
theorem KH(x0 a fv:AV)(F:List Nm)(h0:LK.ptr.has x0)(ha:LK.sl.has a)(hfv:cG fv F)(hF:F.length<100000):∀(n j:Nat),qi F n j<j+n->j+n<100000000 ->
 Dd [x0,a,.v (.string (mk (tN j)))] [.cells [fv],.cells [.v (.int .i64 ((j+1:Nat):Int))]] (ib 1 [x0,a,.v (.string (mk (tN (qi F n j))))] [.cells [fv],.cells [.v (.int .i64 ((qi F n j+1:Nat):Int))]])
 |0,j,h,_=>by simp only[qi]at h;omega
 |
  n+1,j,h,hj=>by
  refine KV _ _ _ _ _ ?_
  simp only[Iq,↓zq,zs,ae,zt,ae,hfv.1,h0,ha]
  refine⟨fun h=>(by simp at h),fun _=>?_⟩
  refine aj (Ky F fv hfv (tN j) (by omega)) ?_
  simp only[↓zq,zs,ae,zt]
  rw[qi]at h |-
  refine⟨fun hm=>?_,fun hm=>?_⟩
  ·rw[if_pos hm]at h |-
   refine aj (FK (j+1) (by omega)) ?_
   have hd:=oi 8 (j+1) (by omega)
   simp only[↓zq,zs,ae,zt,bb,aU]
   rw[bA (j+1) (by omega)]
   exact⟨by simp[cM];omega,KH x0 a fv F h0 ha hfv hF n (j+1) (by omega) (by omega)⟩
  ·rw[if_neg hm]
   exact⟨rfl,rfl,rfl⟩
theorem Pf(x0 a fv:AV)(F:List Nm)(h0:LK.ptr.has x0)(ha:LK.sl.has a)(hfv:cG fv F)(hF:F.length<10000)(k:Nat)(hk:k<90000000) :
 Dd [x0,a,.v (.string (mk []))] [.cells [fv],.cells [.v (.int .i64 (k:Int))]] (ib 1 [x0,a,.v (.string (mk (tN (nx F k))))] [.cells [fv],.cells [.v (.int .i64 ((nx F k+1:Nat):Int))]]):=by
 obtain⟨g1,g2,_,_⟩:=gB F k
 refine KV _ _ _ _ _ ?_
 simp only[Iq,↓zq,zs,ae,zt,ae,hfv.1,h0,ha]
 refine⟨fun _=>?_,fun h=>(by simp at h)⟩
 refine aj (FK k (by omega)) ?_
 have hd:=oi 8 k (by omega)
 simp only[↓zq,zs,ae,zt,bb,aU]
 rw[bA k (by omega)]
 exact⟨by simp[cM];omega,KH x0 a fv F h0 ha hfv (by omega) (F.length+1) k (by show nx F k<_;omega) (by omega)⟩
theorem zD(F:List Nm)(fv:AV)(hfv:cG fv F)(hF:F.length<=1000):∀(t:Ty) (to:List Nm) (a:AV) (k:Nat),cG a to->to.length+t.atoms<10000->jy t to.length->u7 t->(∀w,w∈to->w.length<=20)->k+(F.length+1)*t.atoms<80000000 ->
 an Tryz.prog 155 [t.av,a,.gC 155 [none,some 0,some 1],.ref 0 0,.ref 1 0] [.cells [fv],.cells [.v (.int .i64 (k:Int))]] (dh (.v (.string (mk (e9 (gZ F t to k).1)))) [.cells [fv],.cells [.v (.int .i64 ((gZ F t to k).2:Int))]])
 |
  .zero,to,a,k,ha,hl,hlc,hs,ht,hk=>by
  refine Io _ _ _ _ ((aF _).mpr trivial) ha.1 hfv.1 ?_
  simp only[E5,Ty.av,↓zq,zs,ae,zt,aF]
  refine⟨by omega,fun h=>by omega,fun _=>⟨fun h=>by omega,fun _=>⟨fun h=>by omega,fun _=>⟨fun h=>by omega,fun _=>⟨fun h=>by omega,fun _=>?_⟩⟩⟩⟩⟩
  repeat refine⟨by omega,?_⟩
  exact⟨⟨rfl,(l6 _ _).mpr trivial,trivial⟩,rfl,rfl⟩
 |
  .one,to,a,k,ha,hl,hlc,hs,ht,hk=>by
  refine Io _ _ _ _ ((aF _).mpr trivial) ha.1 hfv.1 ?_
  simp only[E5,Ty.av,↓zq,zs,ae,zt,aF]
  refine⟨by omega,fun h=>by omega,fun _=>⟨fun h=>by omega,fun _=>⟨fun h=>by omega,fun _=>⟨fun h=>by omega,fun _=>⟨fun h=>by omega,fun _=>?_⟩⟩⟩⟩⟩
  repeat refine⟨by omega,?_⟩
  exact⟨⟨rfl,(l6 _ _).mpr trivial,trivial⟩,rfl,rfl⟩
 |
  .name s,to,a,k,ha,hl,hlc,hs,ht,hk=>by
  refine Io _ _ _ _ ((aF _).mpr trivial) ha.1 hfv.1 ?_
  simp[E5,Ty.av,↓zq,zs,ae,dh,gZ,e9]
 |
  .bound u,to,a,k,ha,hl,hlc,hs,ht,hk=>by
  have hu:u<to.length:=hlc
  refine Io _ _ _ _ ((aF _).mpr trivial) ha.1 hfv.1 ?_
  simp only[E5,Ty.av,↓zq,zs,ae,zt,ha.len]
  rw[wrap64 ((to.length:Int)-1) (by omega) (by omega),wrap64 _ (by omega) (by omega)]
  have e1:(to.length:Int)-1-(u:Int)=((to.length-1-u:Nat):Int):=by omega
  rw[e1]
  simp only[bF,ha.idx (show to.length-1-u<to.length by omega),↓zq,zs,ae,zt]
  refine⟨by omega,fun h=>by omega,fun _=>⟨fun _=>⟨ha.1,by omega,⟨ha.1,by omega,by omega⟩,by omega,rfl,rfl⟩,fun h=>absurd rfl h⟩⟩
 |
  .plus x y,to,a,k,ha,hl,hlc,hs,ht,hk=>by
  simp only[Ty.atoms]at hl hk
  have h1:=im F x to k
  have hm:(F.length+1)*(1+x.atoms+y.atoms)=(F.length+1)+(F.length+1)*x.atoms+(F.length+1)*y.atoms:=by simp only[cU,dH]
  have sx:u7 x:=fun z hz=>hs z (by simp[bj,hz])
  have sy:u7 y:=fun z hz=>hs z (by simp[bj,hz])
  have t1:=jd F (by omega) x to k sx ht (by omega)
  have t2:=jd F (by omega) y to (gZ F x to k).2 sy ht (by omega)
  have hb:(⟨(bytesOf [[.v (.int .u8 43)]]).toArray⟩:ByteArray)=mk [43]:=rfl
  have h8:jC [[AV.v (.int .u8 43)]]:=⟨rfl,(l6 _ _).mpr trivial,trivial⟩
  refine Io _ _ _ _ ((aF _).mpr trivial) ha.1 hfv.1 ?_
  simp only[E5,Ty.av,↓zq,zs,ae,zt,aF,hb]
  refine⟨by omega,fun h=>by omega,fun _=>⟨fun h=>by omega,fun _=>⟨fun _=>?_,fun h=>absurd rfl h⟩⟩⟩
  repeat refine⟨by omega,?_⟩
  refine aW (zD F fv hfv hF x to a k ha (by omega) hlc.1 sx ht (by omega)) ?_
  simp only[↓zq,zs,ae,zt,aL,hfv.1,hb,bb,aU]
  repeat (first|refine⟨by omega,?_⟩|refine⟨h8,?_⟩|refine⟨by simp[cM];omega,?_⟩)
  refine aW (zD F fv hfv hF y to a _ ha (by omega) hlc.2 sy ht (by omega)) ?_
  simp only[↓zq,zs,ae,zt,aL,hfv.1,hb,bb,aU]
  repeat (first|refine⟨by omega,?_⟩|refine⟨h8,?_⟩|refine⟨by simp[cM];omega,?_⟩)
  refine⟨?_,rfl⟩
  simp[gZ,e9,ei]
 |
  .times x y,to,a,k,ha,hl,hlc,hs,ht,hk=>by
  simp only[Ty.atoms]at hl hk
  have h1:=im F x to k
  have hm:(F.length+1)*(1+x.atoms+y.atoms)=(F.length+1)+(F.length+1)*x.atoms+(F.length+1)*y.atoms:=by simp only[cU,dH]
  have sx:u7 x:=fun z hz=>hs z (by simp[bj,hz])
  have sy:u7 y:=fun z hz=>hs z (by simp[bj,hz])
  have t1:=jd F (by omega) x to k sx ht (by omega)
  have t2:=jd F (by omega) y to (gZ F x to k).2 sy ht (by omega)
  have hb:(⟨(bytesOf [[.v (.int .u8 42)]]).toArray⟩:ByteArray)=mk [42]:=rfl
  have h8:jC [[AV.v (.int .u8 42)]]:=⟨rfl,(l6 _ _).mpr trivial,trivial⟩
  refine Io _ _ _ _ ((aF _).mpr trivial) ha.1 hfv.1 ?_
  simp only[E5,Ty.av,↓zq,zs,ae,zt,aF,hb]
  refine⟨by omega,fun h=>by omega,fun _=>⟨fun h=>by omega,fun _=>⟨fun h=>by omega,fun _=>⟨fun _=>?_,fun h=>absurd rfl h⟩⟩⟩⟩
  repeat refine⟨by omega,?_⟩
  refine aW (zD F fv hfv hF x to a k ha (by omega) hlc.1 sx ht (by omega)) ?_
  simp only[↓zq,zs,ae,zt,aL,hfv.1,hb,bb,aU]
  repeat (first|refine⟨by omega,?_⟩|refine⟨h8,?_⟩|refine⟨by simp[cM];omega,?_⟩)
  refine aW (zD F fv hfv hF y to a _ ha (by omega) hlc.2 sy ht (by omega)) ?_
  simp only[↓zq,zs,ae,zt,aL,hfv.1,hb,bb,aU]
  repeat (first|refine⟨by omega,?_⟩|refine⟨h8,?_⟩|refine⟨by simp[cM];omega,?_⟩)
  refine⟨?_,rfl⟩
  simp[gZ,e9,ei]
 |
  .rc x,to,a,k,ha,hl,hlc,hs,ht,hk=>by
  simp only[Ty.atoms]at hl hk
  obtain⟨g1,g2,_,_⟩:=gB F k
  have hm:(F.length+1)*(2+x.atoms)=(F.length+1)*2+(F.length+1)*x.atoms:=by simp only[cU]
  have hln:=wW (k:=nx F k) (by omega)
  have ht':∀w,w∈to++[tN (nx F k)]->w.length<=20:=fun w hw=>by
   rcases aM.1 hw with hw|hw
   ·exact ht w hw
   ·simp only[aQ]at hw;rw[hw];exact hln
  have t1:=jd F (by omega) x (to++[tN (nx F k)]) (nx F k+1) hs ht' (by omega)
  have hrc:(Ty.rc x).av=.ptr [.v (.int .u8 114),.v (.string (mk [])),.v (.int .i64 0),x.av,.v (.pointer none)]:=rfl
  refine Io _ _ _ _ ((aF _).mpr trivial) ha.1 hfv.1 ?_
  simp only[E5,Ty.av,↓zq,zs,ae,zt,aF]
  refine⟨by omega,fun h=>by omega,fun _=>⟨fun h=>by omega,fun _=>⟨fun h=>by omega,fun _=>⟨fun h=>by omega,fun _=>⟨fun _=>?_,fun h=>absurd rfl h⟩⟩⟩⟩⟩
  rw[<-hrc]
  repeat refine⟨by omega,?_⟩
  refine cD (Pf (Ty.rc x).av a fv F ((aF _).mpr trivial) ha.1 hfv (by omega) k (by omega)) ?_
  simp only[Ty.av,↓zq,zs,ae,zt,ae,aL,hfv.1,ha.1,aF,ha.2,Ht,aU,mJ,kh]
  have hl2:(dd (nx F k)).length+1<=20:=hln
  have hl3:(tN (nx F k)).length=(dd (nx F k)).length+1:=rfl
  refine⟨by omega,by simp only[aq,az,aG,hl3];omega,by omega,by omega,⟨fun c hc=>by simp at hc;rw[hc];rfl,by omega⟩,?_⟩
  refine aW (zD F fv hfv hF x (to++[tN (nx F k)]) _ (nx F k+1) (.of _) (by simp;omega) (by rw[aq];exact hlc) hs ht' (by omega)) ?_
  simp only[↓zq,zs,ae,zt,aL,hfv.1]
  repeat refine⟨by omega,?_⟩
  refine⟨by simp only[aq,az,aG,hl3];omega,by simp only[aq,az,aG,hl3];omega,?_,rfl⟩
  simp[gZ,e9,ei]
theorem R1(t:Ty)(g:fW t)(hs:u7 t)(h4:t.atoms<=400):an Tryz.prog 137 [t.av] [] (bJ (.v (.string (mk (EX t))))):=by
 refine QE _ ((aF _).mpr trivial) ?_
 unfold Kv
 have hn:=ez t []
 simp only[aG,aV]at hn
 have hm:((bN t []).length+1)*t.atoms<=401*400:=Nat.mul_le_mul (by omega) h4
 refine aj (Jw t (by omega)) ?_
 simp only[↓zq,zs,ae,zt,cc]
 refine aW (zD (bN t []) _ (.of _) (by omega) t [] Au 0 .nil (by simp;omega) g.1 hs (fun w hw=>by cases hw) (by omega)) ?_
 simp only[↓zq,zs,ae,zt,aL,cc]
 exact⟨rfl,rfl⟩
theorem Qv(t:Ty)(g:fW t)(hs:u7 t)(hl:t.atoms<1000000):an Tryz.prog 98 [t.av] [] (bJ (uj (told t))):=by
 refine QP _ ((aF _).mpr trivial) ?_
 unfold JV
 refine aj (EK t hl) ?_
 simp only[↓zq,zs,ae,zt]
 refine⟨fun h=>?_,fun h=>?_⟩
 ·have:told t=none:=by unfold told;rw[if_neg fun h'=>by have:=h'.1;omega]
  rw[this];exact⟨rfl,rfl⟩
 ·have h4:t.atoms<=400:=by omega
  refine aj (R1 t g hs h4) ?_
  simp only[↓zq,zs,ae,zt]
  refine aj (HX (EX t)) ?_
  simp only[↓zq,zs,ae,zt,il]
  unfold told
  cases q:qM (EX t)with
  |
   none =>
   simp only[ia,↓zq,zs,ae]
   rw[if_neg (by simp)]
   exact⟨fun _=>⟨rfl,rfl⟩,fun h=>(by cases h)⟩
  |
   some u =>
   simp only[ia,↓zq,zs,ae,fN]
   rw[if_pos ⟨h4,rfl⟩]
   exact⟨fun h=>(by cases h),fun _=>⟨rfl,rfl⟩⟩
theorem Sn(s:Nm):an Tryz.prog 70 [.v (.string (mk s))] [] (bJ (uj (cJ s))):=by
 refine P0 _ ?_
 unfold JD
 refine aj (HX s) ?_
 simp only[↓zq,zs,ae,zt,il]
 cases q:qM s with
 |
  none =>
  have:cJ s=none:=by unfold cJ;rw[q]
  rw[this]
  simp only[ia,↓zq,zs,ae]
  exact⟨fun _=>⟨rfl,rfl⟩,fun h=>(by cases h)⟩
 |
  some t =>
  simp only[ia,↓zq,zs,ae,fN]
  have notRec:(∀a,t≠.rc a)->cJ s=none:=fun hn=>by
   unfold cJ;rw[q]
   cases t<;>first|rfl|exact absurd rfl (hn _)
  refine⟨fun h=>(by cases h),fun _=>?_⟩
  cases t with
  |
   rc a =>
   have h4:=sR q
   simp only[Ty.atoms]at h4
   have hq:cJ s=(n9 a mc).bind told:=by unfold cJ;rw[q]
   obtain⟨e,he,hw,hte,hats,hok⟩:=n0 q
   have hgood:∀d,n9 a mc=some d->fW d/\(u7 (.rc a)->u7 d):=fun d hd=>rF hw hte ⟨by simp,by simp,by simp⟩ hd
   rw[hq]
   simp only[Ty.av,↓zq,zs,ae]
   refine⟨by omega,fun h=>by omega,fun _=>?_⟩
   have hld:=PO a (by omega) (fun j=>by
    cases q2:bj (hN j) a with
    |false=>rfl
    |true=>exact absurd rfl ((wN (nq q (hN j) q2)).2 (dd j)))
   simp only[Ty.av]at hld
   refine aP hld (O7.ne _) ?_
   rintro r ob ⟨rfl,p,hp,rfl,hpe⟩
   simp only[↓zq,zs,ae,zt,eq_true hp]
   cases q1:n9 a mc with
   |
    none =>
    simp only[bu,bT]
    exact⟨fun _=>⟨rfl,rfl⟩,fun h=>(by cases h)⟩
   |
    some d =>
    simp only[a8,ba]
    refine⟨fun h=>(by cases h),fun _=>?_⟩
    rw[hpe d q1]
    have hl:d.atoms<=400:=by
     simp only[n9,bm,eS]at q1
     obtain⟨_,_,h1,h2⟩:=q1
     rw[<-h2];exact h1
    refine aj (Qv d (hgood d q1).1 ((hgood d q1).2 (B4 q)) (by omega)) ?_
    cases told d<;>simp only[uj,↓zq,zs,ae,zt]<;>exact⟨rfl,rfl⟩
  |
   _ =>
   rw[notRec fun a h=>by cases h]
   simp only[Ty.av,↓zq,zs,ae]
   exact⟨by omega,fun _=>⟨rfl,rfl⟩,fun h=>by omega⟩
end Go.Proofs.Trees
namespace Go.Proofs.Trees
open Go Go.VL Go.RowKit
theorem ED:∀(m:Nat) (c:Vl),c.nodes<=m->∀(t:Ty) (v:Vl),dL t c=true->∀(ea:AV) (ids:List Nat),kD ea ids->∀(s:List UInt8) (fr:AV),LK.has .ptr fr->an Tryz.prog 79 [.agg [t.av,ea],c.cB,.agg [.v (.string (mk s)),fr],v.cB] [] (bJ (cX t c v).cB)
 |0,c,hm=>by have:=du c;omega
 |
  m+1,c,hm=>by
  intro t v hc ea ids he s fr hf
  refine Q6 _ _ _ _ _ _ ((aF _).mpr trivial) he.has ((aN _).mpr trivial) hf ((aN _).mpr trivial) ?_
  have fin:∀x:AV,LK.has .ptr x->LK.has .ptr x=True:=fun x h=>eq_true h
  cases t with
  |zero=>rw[sO];simp[B6,Ty.av,↓zq,zs,ae,bJ]
  |one=>rw[vm];simp[B6,Ty.av,↓zq,zs,ae,bJ]
  |name n=>rw[kZ];simp[B6,Ty.av,↓zq,zs,ae,bJ]
  |bound u=>rw[rH];simp[B6,Ty.av,↓zq,zs,ae,bJ]
  |
   plus a b =>
   have hL:=zJ a.av b.av ea 43 (mk []) 0 ((aF _).mpr trivial) he.has
   have hR:=zz a.av b.av ea 43 (mk []) 0 ((aF _).mpr trivial) he.has
   rcases vN hc with⟨x,rfl,hx⟩|⟨x,rfl,hx⟩
   ·simp only[Vl.nodes]at hm
    simp only[B6,Ty.av,↓zq,zs,ae]
    refine⟨by omega,fun _=>?_,fun h=>absurd rfl h⟩
    refine aj hL ?_
    simp only[↓zq,zs,ae,bD,aF,he.has,Vl.cB,aN]
    refine⟨by omega,fun h=>by omega,fun _=>⟨by omega,by omega,?_⟩⟩
    refine aj (ED m x (by omega) a v hx ea ids he s fr hf) ?_
    simp only[↓zq,zs,ae,aN]
    refine aj (zF 108 _ ((aN _).mpr trivial)) ?_
    simp[↓zq,zs,ae,bJ,cX,Vl.cB,cg]
   ·simp only[Vl.nodes]at hm
    simp only[B6,Ty.av,↓zq,zs,ae]
    refine⟨by omega,fun _=>?_,fun h=>absurd rfl h⟩
    refine aj hL ?_
    simp only[↓zq,zs,ae,bD,aF,he.has,Vl.cB,aN]
    refine⟨by omega,fun _=>?_,fun h=>absurd rfl h⟩
    refine aj hR ?_
    simp only[↓zq,zs,ae,bD,aF,he.has,Vl.cB,aN]
    refine⟨by omega,by omega,?_⟩
    refine aj (ED m x (by omega) b v hx ea ids he s fr hf) ?_
    simp only[↓zq,zs,ae,aN]
    refine aj (zF 114 _ ((aN _).mpr trivial)) ?_
    simp[↓zq,zs,ae,bJ,cX,Vl.cB,cg]
  |
   times a b =>
   have hL:=zJ a.av b.av ea 42 (mk []) 0 ((aF _).mpr trivial) he.has
   have hR:=zz a.av b.av ea 42 (mk []) 0 ((aF _).mpr trivial) he.has
   rcases tz hc with⟨x,y,rfl,hx⟩|⟨x,y,rfl,hx⟩
   ·simp only[Vl.nodes]at hm
    simp only[B6,Ty.av,↓zq,zs,ae,Vl.cB]
    refine⟨by omega,fun h=>by omega,fun _=>⟨fun _=>⟨by omega,fun _=>?_,fun h=>absurd rfl h⟩,fun h=>absurd rfl h⟩⟩
    refine aj hL ?_
    simp only[↓zq,zs,ae,bD,aF,he.has,Vl.cB,aN]
    repeat refine⟨by omega,?_⟩
    refine aj (ED m x (by omega) a v hx ea ids he s fr hf) ?_
    simp only[↓zq,zs,ae,aN]
    repeat refine⟨by omega,?_⟩
    refine aj (zx _ _ ((aN _).mpr trivial) ((aN _).mpr trivial)) ?_
    simp[↓zq,zs,ae,bJ,cX,Vl.cB,cg]
   ·simp only[Vl.nodes]at hm
    simp only[B6,Ty.av,↓zq,zs,ae,Vl.cB,aN]
    refine⟨by omega,fun h=>by omega,fun _=>⟨fun _=>⟨by omega,fun h=>by omega,fun _=>?_⟩,fun h=>absurd rfl h⟩⟩
    repeat refine⟨by omega,?_⟩
    refine aj hR ?_
    simp only[↓zq,zs,ae,bD,aF,he.has,Vl.cB,aN]
    repeat refine⟨by omega,?_⟩
    refine aj (ED m y (by omega) b v hx ea ids he s fr hf) ?_
    simp only[↓zq,zs,ae,aN]
    refine aj (zx _ _ ((aN _).mpr trivial) ((aN _).mpr trivial)) ?_
    simp[↓zq,zs,ae,bJ,cX,Vl.cB,cg]
  |
   rc a =>
   have hin:=DF a ea ids he
   simp only[Ty.av]at hin
   rcases AG hc with⟨x,rfl,hx⟩|⟨x,y,rfl,hx,hy⟩
   ·simp only[Vl.nodes]at hm
    simp only[B6,Ty.av,↓zq,zs,ae,Vl.cB,aN]
    refine⟨by omega,fun h=>by omega,fun _=>⟨fun h=>by omega,fun _=>⟨fun _=>?_,fun h=>absurd rfl h⟩⟩⟩
    refine aP hin (by have:=Cf.ne a ea ids;simpa only[Cf,Ty.av]using this) ?_
    intro r o hr
    obtain⟨⟨q,hq,rfl⟩,rfl⟩:=hr
    have he2:kD (.ptr [.pid q [(Ty.rc a).av,ea],ea]) (q::ids):=.cons hq he
    have hfr:LK.ptr.has (.pid q [(Ty.rc a).av,ea]):=.inr (.inr ⟨_,_,rfl⟩)
    simp only[Ty.av]at he2 hfr
    simp only[↓zq,zs,ae,bD,aF,he2.has,hfr,Vl.cB,aN,Ty.av]
    repeat refine⟨by omega,?_⟩
    refine⟨fun _=>?_,fun h=>absurd rfl h⟩
    repeat refine⟨by omega,?_⟩
    refine aj (ED m x (by omega) a v hx _ _ he2 s fr hf) ?_
    simp only[↓zq,zs,ae,aN]
    refine aj (zF 102 _ ((aN _).mpr trivial)) ?_
    simp[↓zq,zs,ae,bJ,cX,Vl.cB,cg]
   ·simp only[Vl.nodes]at hm
    simp only[B6,Ty.av,↓zq,zs,ae,Vl.cB,aN]
    refine⟨by omega,fun h=>by omega,fun _=>⟨fun h=>by omega,fun _=>⟨fun _=>?_,fun h=>absurd rfl h⟩⟩⟩
    refine aP hin (by have:=Cf.ne a ea ids;simpa only[Cf,Ty.av]using this) ?_
    intro r o hr
    obtain⟨⟨q,hq,rfl⟩,rfl⟩:=hr
    have he2:kD (.ptr [.pid q [(Ty.rc a).av,ea],ea]) (q::ids):=.cons hq he
    have hfr:LK.ptr.has (.pid q [(Ty.rc a).av,ea]):=.inr (.inr ⟨_,_,rfl⟩)
    simp only[Ty.av]at he2 hfr
    simp only[↓zq,zs,ae,bD,aF,he2.has,hfr,Vl.cB,aN,Ty.av]
    repeat refine⟨by omega,?_⟩
    refine fun _=>?_
    repeat refine⟨by omega,?_⟩
    have i1:=ED m y (by omega) (.rc a) v hy ea ids he s fr hf
    simp only[Ty.av]at i1
    refine aj i1 ?_
    simp only[↓zq,zs,ae,aN]
    repeat refine⟨by omega,?_⟩
    refine aj (ED m x (by omega) a (cX (.rc a) y v) hx _ _ he2 [] _ hfr) ?_
    simp only[↓zq,zs,ae,aN]
    refine aj (zF 102 _ ((aN _).mpr trivial)) ?_
    simp[↓zq,zs,ae,bJ,cX,Vl.cB,cg]
theorem SP(a:Ty)(c v:Vl)(hc:dL a c=true):an Tryz.prog 55 [(Ty.rc a).av,c.cB,v.cB] [] (bJ (Vl.f (cX a c v)).cB):=by
 refine Rb _ _ _ ((aF _).mpr trivial) ((aN _).mpr trivial) ((aN _).mpr trivial) ?_
 unfold JQ
 refine aP (DF a iq [] .nil) (Cf.ne a iq []) ?_
 rintro r o ⟨⟨m,hm,rfl⟩,rfl⟩
 have he2:kD (.ptr [.pid m [(Ty.rc a).av,iq],iq]) [m]:=.cons hm .nil
 have hfr:LK.ptr.has (.pid m [(Ty.rc a).av,iq]):=.inr (.inr ⟨_,_,rfl⟩)
 simp only[Ty.av]at he2 hfr
 simp only[↓zq,zs,ae,bD,aF,he2.has,hfr,Ty.av]
 repeat refine⟨by omega,?_⟩
 refine aj (ED c.nodes c (au _) a v hc _ _ he2 [] _ hfr) ?_
 simp only[↓zq,zs,ae,aN]
 refine aj (zF 102 _ ((aN _).mpr trivial)) ?_
 simp[↓zq,zs,ae,bJ,Vl.cB,cg]
end Go.Proofs.Trees
namespace Go.Proofs.Trees
open Go Go.VL Go.RowKit
def xZ(l:List Vl):List (List AV):=l.map fun c=>[c.cB]
theorem lA(l:List Vl):(xZ l).length=l.length:=by simp[xZ]
theorem xO{l:List Vl}{i:Nat}(h:i<l.length):(xZ l).getD i []=[(l[i]).cB]:=by simp[xZ,aa,h]
theorem CZ(l:List Vl)(c:Vl):xZ l++[[c.cB]]=xZ (l++[c]):=by simp[xZ]
def u3(s:Nm)(a:Ty)(l:List Vl)(v:Vl):AV:=.ptr [.v (.string (mk s)),(Ty.rc a).av,.sl (xZ l),v.cB]
def oZ(s:Nm)(a:Ty):Option (List Vl×Vl)->AV
 |some r=>u3 s a r.1 r.2
 |none=>iq
theorem xt(s:Nm)(a:Ty)(o:Option (List Vl×Vl)):LK.has .ptr (oZ s a o)=True:=by cases o<;>simp[oZ,u3,jg,cg]
theorem Dq(v:Vl):(Vl.f v).nodes=v.nodes+1:=by simp only[Vl.nodes];omega
theorem Jz(s:Nm)(a:Ty)(l:List Vl)(v:Vl)(h:ZI a l v)(hl:l.length<=50):an Tryz.prog 34 [u3 s a l v] [] (bJ (oZ s a (qd a l v))):=by
 refine QJ _ ((cg _).mpr trivial) ?_
 simp only[NU,u3,↓zq,zs,ae,lA]
 refine⟨fun h=>(by cases h),fun _=>?_⟩
 repeat refine⟨by omega,?_⟩
 unfold qd
 refine⟨fun h0=>?_,fun h0=>?_⟩
 ·have:l=[]:=bQ (by omega)
  subst this
  exact⟨rfl,rfl⟩
 ·have hpos:0<l.length:=by omega
  have hne:l≠[]:=by rintro rfl;simp at hpos
  rw[wrap64 ((l.length:Int)-1) (by omega) (by omega)]
  have e1:((l.length:Int)-1).toNat=l.length-1:=by omega
  have hlt:l.length-1<l.length:=by omega
  have hlast:l.getLast?=some (l[l.length-1]):=by rw[List.getLast?_eq_some_getLast hne,List.getLast_eq_getElem]
  rw[hlast]
  have hC:=h.ctx _ (bH hlt)
  generalize hc:l[l.length-1]=c at *
  simp only[e1,xO hlt,hc,↓zq,zs,ae,aN,aF]
  repeat refine⟨by omega,?_⟩
  refine aj (SP a c v hC.ok) ?_
  simp only[↓zq,zs,ae,aN]
  have hn:=rr a c v
  have h1:=hC.nd
  have h2:=h.nJ.nd
  refine aj (Ip (.f (cX a c v)) (by rw[Dq];omega)) ?_
  simp only[↓zq,zs,ae,aN,aF]
  refine⟨fun hb=>?_,fun hb=>?_⟩
  ·rw[if_neg (by omega)];exact⟨rfl,rfl⟩
  ·rw[if_pos (by omega)]
   repeat refine⟨by omega,?_⟩
   refine⟨?_,rfl⟩
   have:(xZ l).take (l.length-1)=xZ l.dropLast:=by rw[List.dropLast_eq_take];simp[xZ]
   simp only[oZ,u3,Int.toNat_zero,bc,this]
theorem OW{s d:Nm}{a:Ty}{x A B:E}{D:Ty}(z:ZT s d a x A B D)(pa:AV)(p:List Nm)(hp:cG pa p)(hl:p.length<=50)(v:Vl):∀(k i:Nat) (l0:List Vl),i+k=p.length->l0.length<=i ->
 Fh [.v (.string (mk d)),pa,.v (.int .i64 (p.length:Int)),.v (.int .i64 (i:Int))] [.cells [.v (.string (mk s)),(Ty.rc a).av,.any,v.cB],.vec 1 (xZ l0)]
  (ng (match eE d (p.drop i)with|some l=>(1,[],[.cells [.v (.string (mk s)),(Ty.rc a).av,.any,v.cB],.vec 1 (xZ (l0++l))])|none=>(2,[iq],[])))
 |
  0,i,l0,hi,IP=>by
  refine Of _ _ _ _ _ _ _ _ ?_
  have:i=p.length:=by omega
  subst this
  simp only[Hm,↓zq,zs,ae,ae,aF,aN,List.drop_length]
  exact⟨hp.1,fun h=>by omega,fun _=>by simp[ng,eE]⟩
 |
  k+1,i,l0,hi,IP=>by
  have hlt:i<p.length:=by omega
  have hd:p.drop i=p.getD i []::p.drop (i+1):=by rw[aT hlt];simp[aa,hlt]
  refine Of _ _ _ _ _ _ _ _ ?_
  simp only[Hm,↓zq,zs,ae,zt,ae,aF,aN,hp.len,hp.idx hlt,bF]
  refine⟨hp.1,fun _=>⟨⟨hp.1,by omega,by omega⟩,by omega,?_⟩,fun h=>by omega⟩
  refine aj (LM d (p.getD i []) 100) ?_
  rw[hd,eE]
  simp only[↓zq,zs,ae,zt,il,gp]
  cases q:mo d (p.getD i []) 100 with
  |
   none =>
   simp only[jt,↓zq,zs,ae]
   exact⟨fun _=>by first|trivial|rfl,fun h=>(by cases h)⟩
  |
   some w =>
   simp only[jt,↓zq,zs,ae,fu,CZ]
   refine⟨fun h=>(by cases h),fun _=>?_⟩
   rw[bA i (by omega)]
   have ih:=OW z pa p hp hl v k (i+1) (l0++[w]) (by omega) (by simp;omega)
   refine⟨⟨fun c hc=>by simp at hc;rw[hc];rfl,by rw[lA];omega⟩,?_⟩
   cases q2:eE d (p.drop (i+1))with
   |none=>rw[q2]at ih;exact ih
   |some l=>rw[q2]at ih;simp only[a6,bb,aU]at ih;exact ih
theorem ph{s:Nm}{p:List Nm}{f:Nm}{l:List Vl}{v:Vl}(h:tX s p f=some (l,v)):∃d a x A B D,ZT s d a x A B D/\ZI a l v/\p=l.map (·.cC)/\f=v.cC/\p.length<=50/\zA s=a/\qB s f=some v/\eE d p=some l:=by
 unfold tX at h
 split at h
 ·rename_i v' d h1 h2
  split at h
  ·rename_i hl
   obtain⟨l',h3,h4⟩:=Option.map_eq_some_iff.1 h
   cases h4
   obtain⟨a,_,_,_,L⟩:=pP h1
   obtain⟨x,A,B,D,z⟩:=ZT.of L.l h2
   obtain⟨q1,q2⟩:=rE z p l h3
   obtain⟨q3,q4⟩:=z.nJ h1
   exact⟨d,a,x,A,B,D,z,⟨q2,q3⟩,q1,q4,hl,by unfold zA;rw[L.l];rfl,h1,h3⟩
  ·cases h
 ·cases h
theorem Q0(s:Nm)(pa:AV)(p:List Nm)(hp:cG pa p)(f:Nm):an Tryz.prog 49 [.agg [.v (.string (mk s)),pa,.v (.string (mk f))]] [] (bJ (oZ s (zA s) (tX s p f))):=by
 refine PT _ _ _ hp.1 ?_
 unfold JL
 refine aj (Q4 s f) ?_
 have hlt:LK.has .ptr (Fw s)=True:=by unfold Fw;split<;>simp[aF,jg]
 simp only[↓zq,zs,ae,zt,hlt,gp]
 refine aj (Sn s) ?_
 have ho:∀o:Option Nm,uj o=.cI [.v (.string (mk (o.getD []))),.v (.bool o.isSome)]:=fun o=>by cases o<;>rfl
 rw[ho]
 simp only[↓zq,zs,ae,zt]
 unfold tX
 cases h1:qB s f with
 |
  none =>
  simp only[jt,↓zq,zs,ae]
  exact⟨fun _=>⟨rfl,rfl⟩,fun h=>(by cases h)⟩
 |
  some v =>
  simp only[jt,↓zq,zs,ae,fu]
  refine⟨fun h=>(by cases h),fun _=>?_⟩
  cases h2:cJ s with
  |
   none =>
   simp only[bu]
   exact⟨fun _=>⟨rfl,rfl⟩,fun h=>(by cases h)⟩
  |
   some d =>
   simp only[a8,cA,hp.len]
   refine⟨fun h=>(by cases h),fun _=>⟨hp.1,fun h=>?_,fun h=>?_⟩⟩
   ·rw[if_neg (by omega)];exact⟨rfl,rfl⟩
   ·have hl:p.length<=50:=by omega
    rw[if_pos hl]
    obtain⟨a,_,_,_,L⟩:=pP h1
    obtain⟨x,A,B,D,z⟩:=ZT.of L.l h2
    have ht:Fw s=(Ty.rc a).av:=by unfold Fw;rw[L.l]
    have hza:zA s=a:=by unfold zA;rw[L.l];rfl
    rw[ht,hza]
    refine⟨hp.1,?_⟩
    have hloop:=OW z pa p hp hl v p.length 0 [] (by omega) (by simp)
    rw[bc]at hloop
    refine eN hloop (fun ys o e=>?_) (fun ys o e=>?_)
    ·cases q:eE d p with
     |none=>rw[q]at e;cases e
     |
      some l =>
      rw[q]at e
      cases e
      simp only[↓zq,zs,ae,zt,ae,aL,aF,aN,cj]
      exact⟨rfl,rfl⟩
    ·cases q:eE d p with
     |
      none =>
      rw[q]at e
      cases e
      simp only[↓zq,zs,ae,zt,ae,aL,Option.map_none]
      exact⟨rfl,rfl⟩
     |some l=>rw[q]at e;cases e
theorem Ko(s:Nm)(a:Ty)(x3:AV)(h3:LK.ptr.has x3):∀(n:Nat) (l:List Vl) (v:Vl),l.length=n->ZI a l v->n<=50 ->
 HU [x3,u3 s a l v] [] (ng (if(iV n a l v).isSome=true then(1,[x3],[])else(2,[iq],[])))
 |
  0,l,v,hl,h,hn=>by
  refine Kh _ _ ?_
  simp only[IL,u3,↓zq,zs,ae,h3,lA,hl,iV]
  repeat refine⟨by omega,?_⟩
  exact fun _=>by simp[ng]
 |
  n+1,l,v,hl,h,hn=>by
  refine Kh _ _ ?_
  have hup:=Jz s a l v h (by omega)
  simp only[IL,↓zq,zs,ae,h3]
  simp only[u3,↓zq,zs,ae,lA,hl]at hup |-
  repeat refine⟨by omega,?_⟩
  refine⟨fun _=>?_,fun h=>by omega⟩
  refine aj hup ?_
  simp only[↓zq,zs,ae,xt]
  rw[iV]
  cases q:qd a l v with
  |
   none =>
   simp only[oZ,↓zq,zs,ae,bT]
   exact⟨fun _=>by simp[ng],fun h=>(by cases h)⟩
  |
   some r =>
   obtain⟨hz,hlen,_⟩:=ua h q
   have ih:=Ko s a x3 h3 n r.1 r.2 (by omega) hz (by omega)
   simp only[oZ,u3,↓zq,zs,ae,ba]at ih |-
   exact⟨fun h=>(by cases h),fun _=>ih⟩
theorem SW(s:Nm)(pa:AV)(p:List Nm)(hp:cG pa p)(f:Nm):an Tryz.prog 33 [.agg [.v (.string (mk s)),pa,.v (.string (mk f))]] [] (bJ (oZ s (zA s) (gh s p f))):=by
 refine Ps _ _ _ hp.1 ?_
 unfold Lw
 refine aj (Q0 s pa p hp f) ?_
 simp only[↓zq,zs,ae,zt,xt]
 unfold gh
 cases q:tX s p f with
 |
  none =>
  simp only[oZ,↓zq,zs,ae,bT]
  exact⟨fun _=>⟨rfl,rfl⟩,fun h=>(by cases h)⟩
 |
  some r =>
  obtain⟨l,v⟩:=r
  obtain⟨d,a,x,A,B,D,z,hz,hpt,hft,hl,hza,_,_⟩:=ph q
  rw[hza]
  have hll:l.length<=50:=by rw[hpt]at hl;simpa using hl
  have hloop:=Ko s a (u3 s a l v) ((cg _).mpr trivial) l.length l v rfl hz hll
  simp only[oZ,ba]
  refine⟨fun h=>(by cases h),fun _=>?_⟩
  unfold sB
  refine eN hloop (fun ys o e=>?_) (fun ys o e=>?_)
  ·split at e
   ·rename_i hc
    cases e
    rw[if_pos hc]
    simp only[↓zq,zs,ae,u3,cg]
    exact⟨rfl,rfl⟩
   ·cases e
  ·split at e
   ·cases e
   ·rename_i hc
    cases e
    rw[if_neg hc]
    simp only[↓zq,zs,ae]
    exact⟨rfl,rfl⟩
end Go.Proofs.Trees
namespace Go.Proofs.Trees
open Go Go.VL Go.RowKit
abbrev tZ(s:Nm):Option (List Vl×Vl)->Nm×List Nm×Nm
 |some r=>(s,r.1.map (·.cC),r.2.cC)
 |none=>([],[],[])
def GZ(o:Option (List Vl×Vl)):Prop:=∀r,o=some r->(∀c,c∈r.1->c.cC.length<=900000)/\r.2.cC.length<=900000/\r.1.length<=51
theorem Cx.cC{a:Ty}{c:Vl}(h:Cx a c):c.cC.length<=900000:=by have:=i7 c h.gR;have:=h.nd;omega
theorem Fo.cC{a:Ty}{c:Vl}(h:Fo a c):c.cC.length<=900000:=by have:=i7 c h.gR;have:=h.nd;omega
theorem ZI.gz{a:Ty}{l:List Vl}{v:Vl}(h:ZI a l v)(hl:l.length<=51):GZ (some (l,v)):=fun r hr=>by
 cases hr;exact⟨fun c hc=>(h.ctx c hc).cC,h.nJ.cC,hl⟩
theorem GZ.none:GZ none:=fun r hr=>by cases hr
theorem gP{s:Nm}{p:List Nm}{f:Nm}{l:List Vl}{v:Vl}(h:gh s p f=some (l,v)):tX s p f=some (l,v)/\(sB (zA s) l v).isSome=true:=by
 unfold gh at h
 obtain⟨r,h1,h2⟩:=bm.1 h
 split at h2
 ·rename_i hc
  cases h2
  exact⟨h1,hc⟩
 ·cases h2
theorem G4(s:Nm)(p:List Nm)(f:Nm):GZ (tX s p f):=fun r hr=>by
 obtain⟨d,a,x,A,B,D,z,hz,hp,hf,hl,hza,_,_⟩:=ph (l:=r.1) (v:=r.2) hr
 exact hz.gz (by
  rw[hp]at hl;have:r.1.length<=50:=by simpa using hl
  omega) r rfl
noncomputable def Be (s:Nm) (p:List Nm) (f:Nm):Option Nm:=(gh s p f).bind fun r=>(sB (zA s) r.1 r.2).map (·.cC)
noncomputable def qs (s:Nm) (p:List Nm) (f:Nm):Int:=match gh s p f with
 |some r=>((kids (zA s) r.2).length:Int)
 |none=>-1
abbrev KB(s:Nm)(o:Option (List Vl×Vl)):AV->List Ob->Prop:=dh (.cI [.agg [.v (.string (mk (tZ s o).1)),.vec 0,.v (.string (mk (tZ s o).2.2))],.v (.bool o.isSome)]) [.vec 1 (bL (tZ s o).2.1)]
end Go.Proofs.Trees
namespace Go.Proofs.Trees
open Go Go.VL Go.RowKit
def lL:E->Option E
 | .list [x,a,b]=>if x.at=[114,101,99]then some (.list [x,a,b])else none
 |_=>none
def pe(s:List UInt8):Option E:=match jE s with
 |some e=>lL e
 |none=>none
theorem Ir(s:List UInt8):an Tryz.prog 67 [.v (.string (mk s))] [] (jI (pe s) (pe s).isSome):=by
 refine SI _ ?_
 unfold KP
 refine aP (HZ s) (jI.ne _ _ (fun h=>h)) ?_
 rintro r o ⟨c,d,hd,rfl,hh⟩
 have hhas:bD [.str,.sl] [.v (.string (mk c)),d] 0:=by simp[bD,dW,hd]
 simp only[↓zq,zs,ae,zt]
 refine⟨hhas,fun h=>?_,fun h=>?_⟩
 ·obtain⟨e,he,hce⟩:=hh h
  obtain⟨t,h1,hA,h3,h4,h5,_⟩:=gU he
  have hce':=hce
  rw[dk]at hce'
  simp only[AV.agg.injEq,List.cons.injEq,AV.v.injEq,Value.string.injEq,and_true]at hce'
  obtain⟨hc1,rfl⟩:=hce'
  have hc2:=mk_inj hc1
  subst hc2
  have head:∀w:List UInt8,an Tryz.prog 86 [.agg [.v (.string (mk e.at)),e.sp]] [] (bJ (.v (.string (mk w))))->(w=[114,101,99]↔(lL e).isSome=true)->((lL e).isSome=true->lL e=some e) ->
   eZ Tryz.prog 18 (Tree.call 86 [.agg [.v (.string (mk e.at)),e.sp]] [] fun r2 o2=>Tree.ai (LK.str.has r2) (Tree.done 0 [.cI [.agg [.v (.string (mk e.at)),e.sp],.v (.bool (af r2.toStr==[114,101,99]))]] [])) fun _ xs obs=>jI (pe s) (pe s).isSome (xs.headD .any) obs:=by
   intro w hw h1 h2
   refine aj hw ?_
   simp only[↓zq,zs,ae,zt]
   refine⟨e.at,e.sp,hd,?_,fun hs=>⟨e,?_,(dk e).symm⟩⟩
   ·congr 3
    simp only[pe,he,AV.v.injEq,Value.bool.injEq,List.cons.injEq,and_true]
    rw[cx];simpa using h1
   ·simp only[pe,he]at hs |-;exact h2 hs
  have hl:∀x l,e=.list (x::l)->an Tryz.prog 86 [.agg [.v (.string (mk e.at)),e.sp]] [] (bJ (.v (.string (mk x.at)))):=by
   rintro x l rfl;exact u6 x l
  have ha:∀s0,e=.atom s0->an Tryz.prog 86 [.agg [.v (.string (mk e.at)),e.sp]] [] (bJ (.v (.string (mk [])))):=by
   rintro s0 rfl;exact z7 s0 _ ((bp).mpr trivial) hA.ok
  rcases gn hA.wf hA.ty with⟨hb,_⟩|⟨u,g,rfl,_,hg⟩
  ·rcases fG hA.ty hb hA.cl with⟨rfl,rfl⟩|⟨rfl,rfl⟩|⟨s0,rfl,rfl,hp,h0,h1⟩|⟨x,a,b,t1,t2,rfl,hx,rfl,ha',hbb⟩|⟨x,a,b,t1,t2,rfl,hx,rfl,ha',hbb⟩|⟨x,a,b,t1,rfl,hx,rfl⟩
   ·exact head _ (ha _ rfl) (by simp[lL]) (by simp[lL])
   ·exact head _ (ha _ rfl) (by simp[lL]) (by simp[lL])
   ·exact head _ (ha _ rfl) (by simp[lL]) (by simp[lL])
   ·exact head _ (hl _ _ rfl) (by simp[lL,hx]) (by simp[lL,hx])
   ·exact head _ (hl _ _ rfl) (by simp[lL,hx]) (by simp[lL,hx])
   ·exact head _ (hl _ _ rfl) (by simp[lL,hx]) (by simp[lL,hx])
  ·simp at hg
 ·have hn:jE s=none:=by cases hq:jE s<;>simp[hq]at h |-
  refine⟨c,d,hd,?_,fun h=>?_⟩
  ·simp[pe,hn]
  ·simp[pe,hn]at h
theorem A8(s:List UInt8):(pe s).isSome=(kF s).isSome:=by
 unfold pe kF
 cases h:jE s with
 |none=>rw[np h];rfl
 |
  some e =>
  obtain⟨t,h1,hA,h3,h4,h5,_⟩:=gU h
  rw[h1]
  simp only
  rcases gn hA.wf hA.ty with⟨hb,_⟩|⟨u,g,rfl,_,hg⟩
  ·rcases fG hA.ty hb hA.cl with⟨rfl,rfl⟩|⟨rfl,rfl⟩|⟨s0,rfl,rfl,hp,h0,h1⟩|⟨x,a,b,t1,t2,rfl,hx,rfl,ha',hbb⟩|⟨x,a,b,t1,t2,rfl,hx,rfl,ha',hbb⟩|⟨x,a,b,t1,rfl,hx,rfl⟩<;>simp_all[lL]
  ·simp at hg
theorem LV.le{s v:List UInt8}{w:Vl}{a:Ty}{x A B:E}(h:LV s v w a x A B):pe s=some (.list [x,A,B]):=by
 unfold pe;rw[h.ce];simp[lL,h.hx]
theorem Qj(n:Nat)(v:Vl)(x A B:E)(a:Ty)(hA:Ask B [.mk A.at (.list [x,A,B]) []] a)(hx:x.at=[114,101,99])(w:Vl)(hw:v=.f w)(hv:eY n v (.list [x,A,B],[])=true)(hl:v.nodes<90000) :
 an Tryz.prog 74 [.agg [.v (.string (mk B.at)),B.sp],.v (.string (mk A.at)),.agg [.v (.string (mk w.cL.at)),w.cL.sp]] [] (bJ (.sl (mh (kids a v)))):=by
 subst hw
 obtain⟨w',e,hw'⟩:=uV .nil hx hv
 cases e
 simp only[Vl.nodes]at hl
 have hnm:names [Fr.mk A.at (.list [x,A,B]) []]=[]++[A.at]:=rfl
 have h:=EZ n w.nodes w (au _) B _ a hA hw' (by simp;omega) A.at (by rw[hnm];right;rw[fm];rfl)
 rw[hnm,we]at h
 exact h
end Go.Proofs.Trees
namespace Go.Proofs.Trees
open Go Go.VL Go.RowKit
def RR(e:E)(s:List UInt8)(t:Ty)(c v:Vl):Prop:=an Tryz.prog 82 [.agg [.v (.string (mk e.at)),e.sp],.v (.string (mk s)),.agg [.v (.string (mk c.cL.at)),c.cL.sp],.agg [.v (.string (mk v.cL.at)),v.cL.sp]] [] (bJ (.agg [.v (.string (mk (cX t c v).cL.at)),(cX t c v).cL.sp]))
theorem EE:∀(m:Nat) (c:Vl),c.nodes<=m->∀(e:E) (env:List Fr) (t:Ty),Ask e env t->dL t c=true->∀(s:List UInt8) (v:Vl),RR e s t c v
 |0,c,hm=>by have:=du c;omega
 |
  m+1,c,hm=>by
  intro e env t A hc s v
  unfold RR
  refine Pq _ _ _ _ _ _ _ ((aX _).mpr trivial) ((aX _).mpr trivial) ((aX _).mpr trivial) ?_
  have atomCase:∀s0,e=.atom s0->cX t c v=v->eZ Tryz.prog 244 (DZ (mk e.at) e.sp (mk s) (mk c.cL.at) c.cL.sp (mk v.cL.at) v.cL.sp) fun _ xs obs=>bJ (.agg [.v (.string (mk (cX t c v).cL.at)),(cX t c v).cL.sp]) (xs.headD .any) obs:=by
   rintro s0 rfl hp
   have hne:s0≠[]:=A.ok
   rw[hp]
   simp only[DZ,E.at,↓zq,zs,ae,zt,bJ]
   exact⟨fun _=>trivial,fun h=>absurd h hne⟩
  have hvh:=Cp c
  rw[dk]at hvh
  rcases gn A.wf A.ty with⟨hb,hq⟩|⟨u,g,rfl,hq,hu⟩
  ·rcases fG A.ty hb A.cl with⟨rfl,rfl⟩|⟨rfl,rfl⟩|⟨s0,rfl,rfl,hp,h0,h1⟩|⟨x,a,b,t1,t2,rfl,hx,rfl,ha,hbb⟩|⟨x,a,b,t1,t2,rfl,hx,rfl,ha,hbb⟩|⟨x,a,b,t1,rfl,hx,rfl⟩
   ·exact atomCase _ rfl (sO _ _)
   ·exact atomCase _ rfl (vm _ _)
   ·exact atomCase _ rfl (kZ _ _ _)
   ·obtain⟨ok1,ok2,ok3,_⟩:=A.ok
    obtain⟨f1,f2⟩:=fw A.cl
    have hP:=P3.of x a b
    have hH:an Tryz.prog 86 [.agg [.v (.string (mk [])),(E.list [x,a,b]).sp]] [] (bJ (.v (.string (mk [43])))):=by rw[<-hx];exact u6 x [a,b]
    rcases vN hc with⟨y,rfl,hy⟩|⟨y,rfl,hy⟩
    ·simp only[Vl.nodes]at hm
     have hW:=P2.of (.atom [108]) y.cL
     simp only[Vl.cL,bK]at hvh
     simp only[DZ,bK,Vl.cL,toNat_one,bf,↓zq,zs,ae,zt,hP.1,hP.2.1,hP.2.2.1,hP.2.2.2,hW.1,hW.2.1,hW.2.2,aK]
     refine⟨fun h=>absurd rfl h,fun _=>?_⟩
     repeat refine⟨by omega,?_⟩
     refine aj hH ?_
     simp only[↓zq,zs,ae,zt]
     refine aj hvh ?_
     simp only[vh,↓zq,zs,ae,zt,bb,aU]
     refine⟨by simp[cM],fun _=>?_,fun h=>absurd rfl h⟩
     repeat refine⟨by omega,?_⟩
     refine aj (EE m y (by omega) a env t1 ⟨ok2,A.wf,ha,f1⟩ hy s v) ?_
     simp only[↓zq,zs,ae,zt,aK]
     repeat refine⟨by omega,?_⟩
     refine aj (xF _ _) ?_
     simp only[↓zq,zs,ae,zt,aK]
     repeat refine⟨by omega,?_⟩
     exact⟨rfl,rfl⟩
    ·simp only[Vl.nodes]at hm
     have hW:=P2.of (.atom [114]) y.cL
     simp only[Vl.cL,bK]at hvh
     simp only[DZ,bK,Vl.cL,toNat_one,bf,↓zq,zs,ae,zt,hP.1,hP.2.1,hP.2.2.1,hP.2.2.2,hW.1,hW.2.1,hW.2.2,aK]
     refine⟨fun h=>absurd rfl h,fun _=>?_⟩
     repeat refine⟨by omega,?_⟩
     refine aj hH ?_
     simp only[↓zq,zs,ae,zt]
     refine aj hvh ?_
     simp only[vh,↓zq,zs,ae,zt,bb,aU]
     refine⟨by simp[cM],fun h=>by simp at h,fun _=>⟨fun _=>?_,fun h=>absurd rfl h⟩⟩
     repeat refine⟨by omega,?_⟩
     refine aj (EE m y (by omega) b env t2 ⟨ok3,A.wf,hbb,f2⟩ hy s v) ?_
     simp only[↓zq,zs,ae,zt,aK]
     repeat refine⟨by omega,?_⟩
     refine aj (xF _ _) ?_
     simp only[↓zq,zs,ae,zt,aK]
     repeat refine⟨by omega,?_⟩
     exact⟨rfl,rfl⟩
   ·obtain⟨ok1,ok2,ok3,_⟩:=A.ok
    obtain⟨f1,f2⟩:=eW A.cl
    have hP:=P3.of x a b
    have hH:an Tryz.prog 86 [.agg [.v (.string (mk [])),(E.list [x,a,b]).sp]] [] (bJ (.v (.string (mk [42])))):=by rw[<-hx];exact u6 x [a,b]
    rcases tz hc with⟨y,z,rfl,hy⟩|⟨y,z,rfl,hy⟩
    ·simp only[Vl.nodes]at hm
     have hW:=P2.of (.atom [108]) (E.list [.atom [112],y.cL,z.cL])
     have hQ:=P3.of (.atom [112]) y.cL z.cL
     simp only[Vl.cL,bK]at hvh
     simp only[DZ,bK,Vl.cL,toNat_one,bf,↓zq,zs,ae,zt,hP.1,hP.2.1,hP.2.2.1,hP.2.2.2,hW.1,hW.2.1,hW.2.2,hQ.1,hQ.2.1,hQ.2.2.1,hQ.2.2.2,aK]
     refine⟨fun h=>absurd rfl h,fun _=>?_⟩
     repeat refine⟨by omega,?_⟩
     refine aj hH ?_
     simp only[↓zq,zs,ae,zt]
     refine aj hvh ?_
     simp only[vh,↓zq,zs,ae,zt,bb,aU]
     refine⟨by simp[cM],fun h=>by simp at h,fun _=>⟨fun h=>by simp at h,fun _=>⟨fun _=>?_,fun h=>absurd rfl h⟩⟩⟩
     repeat refine⟨by omega,?_⟩
     refine aj (EE m y (by omega) a env t1 ⟨ok2,A.wf,ha,f1⟩ hy s v) ?_
     simp only[↓zq,zs,ae,zt,aK]
     repeat refine⟨by omega,?_⟩
     refine aj (wJ _ _ _) ?_
     simp only[↓zq,zs,ae,zt,aK]
     repeat refine⟨by omega,?_⟩
     exact⟨rfl,rfl⟩
    ·simp only[Vl.nodes]at hm
     have hW:=P2.of (.atom [114]) (E.list [.atom [112],y.cL,z.cL])
     have hQ:=P3.of (.atom [112]) y.cL z.cL
     simp only[Vl.cL,bK]at hvh
     simp only[DZ,bK,Vl.cL,toNat_one,bf,↓zq,zs,ae,zt,hP.1,hP.2.1,hP.2.2.1,hP.2.2.2,hW.1,hW.2.1,hW.2.2,hQ.1,hQ.2.1,hQ.2.2.1,hQ.2.2.2,aK]
     refine⟨fun h=>absurd rfl h,fun _=>?_⟩
     repeat refine⟨by omega,?_⟩
     refine aj hH ?_
     simp only[↓zq,zs,ae,zt]
     refine aj hvh ?_
     simp only[vh,↓zq,zs,ae,zt,bb,aU]
     refine⟨by simp[cM],fun h=>by simp at h,fun _=>⟨fun h=>by simp at h,fun _=>⟨fun h=>by simp at h,fun _=>⟨fun _=>?_,fun h=>absurd rfl h⟩⟩⟩⟩
     repeat refine⟨by omega,?_⟩
     refine aj (EE m z (by omega) b env t2 ⟨ok3,A.wf,hbb,f2⟩ hy s v) ?_
     simp only[↓zq,zs,ae,zt,aK]
     repeat refine⟨by omega,?_⟩
     refine aj (wJ _ _ _) ?_
     simp only[↓zq,zs,ae,zt,aK]
     repeat refine⟨by omega,?_⟩
     exact⟨rfl,rfl⟩
   ·obtain⟨t1',he1,h1,f1,hw1⟩:=jq A.wf A.ok hx A.ty A.cl
    cases he1
    obtain⟨ok1,ok2,ok3,_⟩:=A.ok
    have A':Ask b (.mk a.at (.list [x,a,b]) env::env) t1:=⟨ok3,hw1,h1,f1⟩
    have hP:=P3.of x a b
    have hH:an Tryz.prog 86 [.agg [.v (.string (mk [])),(E.list [x,a,b]).sp]] [] (bJ (.v (.string (mk [114,101,99])))):=by rw[<-hx];exact u6 x [a,b]
    rcases AG hc with⟨y,rfl,hy⟩|⟨y,z,rfl,hy,hz⟩
    ·simp only[Vl.nodes]at hm
     have hW:=P2.of (.atom [102]) (E.list [.atom [108],y.cL])
     have hQ:=P2.of (.atom [108]) y.cL
     have hvi:=Cp (.l y)
     rw[dk]at hvi
     simp only[Vl.cL,bK]at hvh hvi
     simp only[DZ,bK,Vl.cL,toNat_one,bf,↓zq,zs,ae,zt,hP.1,hP.2.1,hP.2.2.1,hP.2.2.2,hW.1,hW.2.1,hW.2.2,hQ.1,hQ.2.1,hQ.2.2,aK]
     refine⟨fun h=>absurd rfl h,fun _=>?_⟩
     repeat refine⟨by omega,?_⟩
     refine aj hH ?_
     simp only[↓zq,zs,ae,zt]
     refine aj hvh ?_
     simp only[vh,↓zq,zs,ae,zt,bb,aU]
     refine⟨by simp[cM],fun h=>by simp at h,fun _=>⟨fun h=>by simp at h,fun _=>⟨fun h=>by simp at h,fun _=>⟨fun h=>by simp at h,fun _=>?_⟩⟩⟩⟩
     repeat refine⟨by omega,?_⟩
     refine aj hvi ?_
     simp only[vh,↓zq,zs,ae,zt]
     refine⟨fun _=>?_,fun h=>absurd rfl h⟩
     repeat refine⟨by omega,?_⟩
     refine aj (EE m y (by omega) b _ t1 A' hy s v) ?_
     simp only[↓zq,zs,ae,zt,aK]
     repeat refine⟨by omega,?_⟩
     refine aj (xF _ _) ?_
     simp only[↓zq,zs,ae,zt,aK]
     repeat refine⟨by omega,?_⟩
     exact⟨rfl,rfl⟩
    ·simp only[Vl.nodes]at hm
     have hW:=P2.of (.atom [102]) (E.list [.atom [114],E.list [.atom [112],y.cL,z.cL]])
     have hQ:=P2.of (.atom [114]) (E.list [.atom [112],y.cL,z.cL])
     have hR:=P3.of (.atom [112]) y.cL z.cL
     have hvi:=Cp (.r (.p y z))
     rw[dk]at hvi
     simp only[Vl.cL,bK]at hvh hvi
     simp only[DZ,bK,Vl.cL,toNat_one,bf,↓zq,zs,ae,zt,hP.1,hP.2.1,hP.2.2.1,hP.2.2.2,hW.1,hW.2.1,hW.2.2,hQ.1,hQ.2.1,hQ.2.2,hR.1,hR.2.1,hR.2.2.1,hR.2.2.2,aK]
     refine⟨fun h=>absurd rfl h,fun _=>?_⟩
     repeat refine⟨by omega,?_⟩
     refine aj hH ?_
     simp only[↓zq,zs,ae,zt]
     refine aj hvh ?_
     simp only[vh,↓zq,zs,ae,zt,bb,aU]
     refine⟨by simp[cM],fun h=>by simp at h,fun _=>⟨fun h=>by simp at h,fun _=>⟨fun h=>by simp at h,fun _=>⟨fun h=>by simp at h,fun _=>?_⟩⟩⟩⟩
     repeat refine⟨by omega,?_⟩
     refine aj hvi ?_
     simp only[vh,↓zq,zs,ae,zt]
     refine⟨fun h=>by simp at h,fun _=>?_⟩
     repeat refine⟨by omega,?_⟩
     have i1:=EE m z (by omega) (.list [x,a,b]) env (.rc t1) A hz s v
     unfold RR at i1
     simp only[bK]at i1
     refine aj i1 ?_
     simp only[↓zq,zs,ae,zt,aK]
     repeat refine⟨by omega,?_⟩
     refine aj (EE m y (by omega) b _ t1 A' hy a.at (cX (.rc t1) z v)) ?_
     simp only[↓zq,zs,ae,zt,aK]
     repeat refine⟨by omega,?_⟩
     refine aj (xF _ _) ?_
     simp only[↓zq,zs,ae,zt,aK]
     repeat refine⟨by omega,?_⟩
     exact⟨rfl,rfl⟩
  ·cases e with
   |atom s0=>exact atomCase _ rfl (rH _ _ _)
   |list l=>exact absurd hq (by rw[show (E.list l).at=[] from rfl,lq A.wf];simp)
end Go.Proofs.Trees
namespace Go.Proofs.Trees
open Go Go.VL Go.RowKit
abbrev Se:Ob:=.cells [.v (.string (mk [])),.v (.slice none 0 0),.v (.string (mk []))]
theorem ZT.le{s d:Nm}{a:Ty}{x A B:E}{D:Ty}(z:ZT s d a x A B D):pe s=some (.list [x,A,B]):=by
 unfold pe;rw[z.ce];simp[lL,z.hx]
theorem tS(o:Option Nm):uj o=.cI [.v (.string (mk (o.getD []))),.v (.bool o.isSome)]:=by cases o<;>rfl
theorem Am{a:Ty}{w v:Vl}(hw:Cx a w)(hv:Fo a v):(Vl.f (cX a w v)).cC.length<=900000:=by
 have h1:=i7 (Vl.f (cX a w v)) (by exact rI 100 a w v hw.gR hv.gR)
 have h2:=rr a w v
 have:=hw.nd
 have:=hv.nd
 simp only[Vl.nodes]at h1
 omega
abbrev zO(a:Ty)(w v:Vl):Option Nm:=if(Vl.f (cX a w v)).nodes<=200 then some (Vl.f (cX a w v)).cC else none
theorem RW{s d:Nm}{a:Ty}{x A B:E}{D:Ty}(z:ZT s d a x A B D)(w v:Vl)(hw:mo d w.cC 100=some w)(hv:Fo a v):an Tryz.prog 60 [.v (.string (mk s)),.v (.string (mk w.cC)),.v (.string (mk v.cC))] [] (bJ (uj (zO a w v))):=by
 have hC:=z.ctx hw
 have hv2:mo s v.cC 100=some v:=by rw[z.cC hv.gR hv.ty,if_pos hv.nd]
 refine Qf _ _ _ ?_
 unfold Ok
 refine aP (Ir s) (jI.ne _ _ (fun h=>h)) ?_
 rintro r o ⟨c,e,he,rfl,hh⟩
 rw[z.le]at hh
 obtain⟨e',he',hce⟩:=hh rfl
 cases he'
 rw[dk]at hce
 simp only[AV.agg.injEq,List.cons.injEq,AV.v.injEq,Value.string.injEq,and_true]at hce
 obtain⟨hc1,rfl⟩:=hce
 rw[z.le,hc1]
 simp only[↓zq,zs,ae,zt,aK,bK]
 repeat refine⟨by omega,?_⟩
 refine aj (LP s) ?_
 rw[tS,z.dl]
 simp only[↓zq,zs,ae,zt,a8,cA]
 refine⟨fun h=>by simp at h,fun _=>⟨fun h=>by simp at h,fun _=>?_⟩⟩
 refine aj (Af d w.cC 100) ?_
 rw[hw]
 simp only[↓zq,zs,ae,a8]
 refine⟨fun h=>by simp at h,fun _=>?_⟩
 refine aj (Af s v.cC 100) ?_
 rw[hv2]
 simp only[↓zq,zs,ae,a8]
 refine⟨fun h=>by simp at h,fun _=>?_⟩
 have hP:=P3.of x A B
 have rd:∀q:Vl,q.gR 100->q.nodes<=200->∀{Q:AV->List Ob->Prop},(∀o,Q (.cI [.agg [.v (.string (mk q.cL.at)),q.cL.sp],.v (.bool true)]) o)->∀r o,jI ((sw q.cC).map Vl.cL) (sw q.cC).isSome r o->Q r o:=by
  intro q hu hn Q hQ r o
  rw[qI hu hn]
  rintro⟨c,e,he,rfl,hh⟩
  obtain⟨e',he',hce⟩:=hh rfl
  cases he'
  rw[dk]at hce
  rw[hce]
  exact hQ o
 refine aP (D2 w.cC) (jI.ne _ _ (fun h=>by simpa using h)) (rd w hC.gR hC.nd fun o=>?_)
 simp only[↓zq,zs,ae,zt,aK]
 repeat refine⟨by omega,?_⟩
 refine aP (D2 v.cC) (jI.ne _ _ (fun h=>by simpa using h)) (rd v hv.gR hv.nd fun o=>?_)
 simp only[toNat_one,bf,↓zq,zs,ae,zt,hP.1,hP.2.1,hP.2.2.1,hP.2.2.2,aK,aX]
 repeat refine⟨by omega,?_⟩
 refine aj (EE w.nodes w (au _) B _ a z.body hC.ok A.at v) ?_
 simp only[↓zq,zs,ae,zt,aK]
 repeat refine⟨by omega,?_⟩
 refine aj (xF _ _) ?_
 simp only[↓zq,zs,ae,zt,aK]
 repeat refine⟨by omega,?_⟩
 have htx:=Em (Vl.f (cX a w v)).cL (mG _) (Am hC hv)
 rw[dk]at htx
 simp only[Vl.cL,bK]at htx
 refine aj htx ?_
 simp only[↓zq,zs,ae,zt]
 refine aj (Af s (Vl.f (cX a w v)).cC 100) ?_
 rw[z.cC (w:=Vl.f (cX a w v)) (by exact rI 100 a w v hC.gR hv.gR) (hC.ty v hv.ty)]
 unfold zO
 by_cases hn:(Vl.f (cX a w v)).nodes<=200
 ·rw[if_pos hn,if_pos hn]
  simp only[↓zq,zs,ae,a8]
  exact⟨fun h=>by simp at h,fun _=>⟨rfl,rfl⟩⟩
 ·rw[if_neg hn,if_neg hn]
  simp only[↓zq,zs,ae,bu]
  exact⟨fun _=>⟨rfl,rfl⟩,fun h=>by simp at h⟩
theorem nW{d:Nm}:∀{p:List Nm} {l:List Vl},eE d p=some l->p=l.map (·.cC)->∀c,c∈l->mo d c.cC 100=some c
 |[],l,h,_,c,hc=>by cases h;cases hc
 |
  q::r,l,h,hp,c,hc=>by
  simp only[eE]at h
  split at h
  ·rename_i w l' h1 h2
   cases h
   simp only[bG,List.cons.injEq]at hp
   rcases aJ.1 hc with rfl|hc
   ·rw[<-hp.1];exact h1
   ·exact nW h2 hp.2 c hc
  ·cases h
structure St(s d:Nm)(a:Ty)(l:List Vl)(v:Vl):Prop where
 z:∃x A B D,ZT s d a x A B D
 i:ZI a l v
 each:∀c,c∈l->mo d c.cC 100=some c
 len:l.length<=50
def zS(s:Nm)(pa:AV)(a:Ty)(l:List Vl)(v:Vl):AV:=match l.getLast? with
 |none=>.cI [.agg [.v (.string (mk s)),pa,.v (.string (mk v.cC))],.v (.bool false)]
 |some c=>.cI [.agg [.v (.string (mk s)),.sl (bL (l.dropLast.map (·.cC))),.v (.string (mk ((zO a c v).getD [])))],.v (.bool (zO a c v).isSome)]
theorem Hs{s d:Nm}{a:Ty}{l:List Vl}{v:Vl}(h:St s d a l v)(pa:AV)(hp:cG pa (l.map (·.cC))):an Tryz.prog 38 [.agg [.v (.string (mk s)),pa,.v (.string (mk v.cC))]] [] (bJ (zS s pa a l v)):=by
 refine PH _ _ _ hp.1 ?_
 unfold Ms
 have hlen:=h.len
 simp only[↓zq,zs,ae,zt,hp.len,bU,mJ]
 unfold zS
 refine⟨hp.1,fun h0=>?_,fun h0=>?_⟩
 ·have:l=[]:=bQ (by omega)
  subst this
  exact⟨rfl,rfl⟩
 ·have hpos:0<l.length:=by omega
  have hne:l≠[]:=by rintro rfl;simp at hpos
  rw[wrap64 ((l.length:Int)-1) (by omega) (by omega)]
  have e1:((l.length:Int)-1).toNat=l.length-1:=by omega
  have hlt:l.length-1<(l.map (·.cC)).length:=by rw[bU];omega
  have hlt':l.length-1<l.length:=by omega
  have hlast:l.getLast?=some (l[l.length-1]):=by rw[List.getLast?_eq_some_getLast hne,List.getLast_eq_getElem]
  rw[hlast]
  have hm:=bH hlt'
  have hg:(l.map (·.cC)).getD (l.length-1) []=(l[l.length-1]).cC:=by rw[aa,bo hlt,List.getElem_map];rfl
  obtain⟨x,A,B,D,z⟩:=h.z
  rw[e1,hp.idx hlt,hg]
  generalize l[l.length-1]=c at *
  simp only[↓zq,zs,ae,zt]
  refine⟨⟨hp.1,by omega⟩,by omega,?_⟩
  refine aj (RW z c v (h.each c hm) h.i.nJ) ?_
  rw[tS]
  simp only[↓zq,zs,ae,zt]
  refine⟨⟨hp.1,by omega⟩,⟨fun y hy=>?_,?_⟩,?_,rfl⟩
  ·rw[hp.2]at hy
   have:=List.mem_of_mem_take hy
   obtain⟨t,_,rfl⟩:=bM.1 this
   rfl
  ·rw[hp.2];simp[bL];omega
  ·have:pa.elems.take (l.length-1)=bL (l.dropLast.map (·.cC)):=by
    rw[hp.2,List.dropLast_eq_take,List.map_take];simp[bL,List.map_take]
   rw[this];rfl
theorem St.up{s d:Nm}{a:Ty}{l l':List Vl}{v w:Vl}(h:St s d a l v)(hu:qd a l v=some (l',w)):St s d a l' w:=by
 obtain⟨h1,h2,c,h3,_⟩:=ua h.i hu
 have hl:=h.len
 exact⟨h.z,h1,fun c' hc'=>h.each c' (by rw[h3];exact aD _ hc'),by omega⟩
theorem pL{s:Nm}{pa:AV}{a:Ty}{l l':List Vl}{v w:Vl}(hu:qd a l v=some (l',w)):zS s pa a l v=.cI [.agg [.v (.string (mk s)),.sl (bL (l'.map (·.cC))),.v (.string (mk w.cC))],.v (.bool true)]:=by
 unfold qd at hu
 unfold zS
 cases q:l.getLast? with
 |none=>rw[q]at hu;cases hu
 |
  some c =>
  rw[q]at hu
  simp only at hu |-
  unfold zO
  split at hu
  ·rename_i hn
   cases hu
   rw[if_pos hn];rfl
  ·cases hu
theorem Aj{s:Nm}{pa:AV}{a:Ty}{l:List Vl}{v:Vl}(hpa:LK.sl.has pa)(hu:qd a l v=none):∃p f,LK.sl.has p/\zS s pa a l v=.cI [.agg [.v (.string (mk s)),p,.v (.string (mk f))],.v (.bool false)]:=by
 unfold qd at hu
 unfold zS
 cases q:l.getLast? with
 |none=>exact⟨_,_,hpa,rfl⟩
 |
  some c =>
  rw[q]at hu
  simp only at hu |-
  unfold zO
  split at hu
  ·cases hu
  ·rename_i hn
   rw[if_neg hn];exact⟨_,_,(cc _).mpr trivial,rfl⟩
def F9(s:Nm)(o:Option Vl):Nat->List AV->List Ob->Prop:=fun k ys ob=>match o with
 |some w=>k=1/\ys=[]/\∃pa,LK.sl.has pa/\ob=[.cells [.v (.string (mk s)),pa,.v (.string (mk w.cC))],Se]
 |none=>k=2/\ys=[.v (.bool false)]/\∃pa f,LK.sl.has pa/\ob=[.cells [.v (.string (mk s)),pa,.v (.string (mk f))]]
theorem MT(s d:Nm)(a:Ty):∀(n:Nat) (l:List Vl) (v:Vl) (pa:AV),l.length=n->St s d a l v->cG pa (l.map (·.cC))->Ga [] [.cells [.v (.string (mk s)),pa,.v (.string (mk v.cC))],Se] (F9 s (iV n a l v))
 |
  0,l,v,pa,hl,h,hp=>by
  refine M6 _ _ _ _ _ _ ?_
  simp only[H9,↓zq,zs,ae,zt,ae,bp,hp.len,bU,hl,iV]
  refine⟨hp.1,hp.1,fun h=>by omega,fun _=>?_⟩
  exact⟨rfl,rfl,pa,hp.1,rfl⟩
 |
  n+1,l,v,pa,hl,h,hp=>by
  refine M6 _ _ _ _ _ _ ?_
  simp only[H9,↓zq,zs,ae,zt,ae,bp,hp.len,bU,hl]
  refine⟨hp.1,hp.1,fun _=>?_,fun h=>by omega⟩
  refine aj (Hs h pa hp) ?_
  rw[iV]
  cases q:qd a l v with
  |
   none =>
   obtain⟨p',f',h1,h2⟩:=Aj (s:=s) hp.1 q
   rw[h2]
   simp only[↓zq,zs,ae,zt,bD,bT]
   exact⟨h1,fun _=>⟨rfl,rfl,pa,v.cC,hp.1,rfl⟩,fun h=>by simp at h⟩
  |
   some r =>
   obtain⟨l',w⟩:=r
   obtain⟨_,hlen,_⟩:=ua h.i q
   rw[pL q]
   simp only[↓zq,zs,ae,zt,bD,ba,cc]
   refine⟨fun h=>by simp at h,fun _=>?_⟩
   exact MT s d a n l' w _ (by omega) (h.up q) (cG.of _)
def D3(o:Option Vl):AV->List Ob->Prop:=fun r ob=>ob=[]/\∃c0 pa c2,LK.sl.has pa/\r=.cI [.agg [.v (.string c0),pa,.v (.string c2)],.v (.bool o.isSome)]/\∀w,o=some w->c2=mk w.cC
theorem D3.ne(o:Option Vl):∃r ob,D3 o r ob:=⟨_,[],rfl,mk [],.sl [],mk ((o.map (·.cC)).getD []),(cc _).mpr trivial,rfl,fun w h=>by rw[h];rfl⟩
theorem QB{s d:Nm}{a:Ty}{l:List Vl}{v:Vl}(h:St s d a l v)(pa:AV)(hp:cG pa (l.map (·.cC))):an Tryz.prog 47 [.agg [.v (.string (mk s)),pa,.v (.string (mk v.cC))]] [] (D3 (sB a l v)):=by
 refine Pb _ _ _ hp.1 ?_
 unfold Je
 have hloop:=MT s d a l.length l v pa rfl h hp
 refine kX hloop (fun ys o e=>?_) (fun ys o e=>?_)
 ·unfold F9 at e
  unfold sB
  cases q:iV l.length a l v with
  |none=>rw[q]at e;exact absurd e.1 (by decide)
  |
   some w =>
   rw[q]at e
   obtain⟨_,rfl,p',h1,rfl⟩:=e
   simp only[↓zq,zs,ae,zt,ae,bp]
   exact⟨h1,rfl,_,_,_,h1,rfl,fun w' h=>by cases h;rfl⟩
 ·unfold F9 at e
  unfold sB
  cases q:iV l.length a l v with
  |some w=>rw[q]at e;exact absurd e.1 (by decide)
  |
   none =>
   rw[q]at e
   obtain⟨_,rfl,p',f',h1,rfl⟩:=e
   simp only[↓zq,zs,ae,zt,ae]
   exact⟨h1,rfl,_,_,_,h1,rfl,fun w' h=>by cases h⟩
theorem Kl(s d f:Nm)(pa:AV)(p:List Nm)(hp:cG pa p)(hl:p.length<=50):∀(k i:Nat),i+k=p.length->GC [.v (.string (mk d)),.v (.int .i64 (i:Int))] [.cells [.v (.string (mk s)),pa,.v (.string (mk f))]] (ng (if(eE d (p.drop i)).isSome=true then(1,[],[])else(2,[.v (.bool false)],[])))
 |
  0,i,hi=>by
  refine NH _ _ _ _ _ ?_
  have:i=p.length:=by omega
  subst this
  simp only[F6,↓zq,zs,ae,zt,ae,hp.len,List.drop_length]
  exact⟨hp.1,hp.1,fun h=>by omega,fun _=>rfl⟩
 |
  k+1,i,hi=>by
  have hlt:i<p.length:=by omega
  have hd:p.drop i=p.getD i []::p.drop (i+1):=by rw[aT hlt];simp[aa,hlt]
  refine NH _ _ _ _ _ ?_
  simp only[F6,↓zq,zs,ae,zt,ae,hp.len,hp.idx hlt,bF]
  refine⟨hp.1,hp.1,fun _=>⟨⟨hp.1,by omega,by omega⟩,by omega,?_⟩,fun h=>by omega⟩
  refine aj (Af d (p.getD i []) 100) ?_
  rw[hd,eE]
  simp only[↓zq,zs,ae]
  cases q:mo d (p.getD i []) 100 with
  |
   none =>
   simp only[bu]
   exact⟨fun _=>rfl,fun h=>by simp at h⟩
  |
   some w =>
   simp only[a8]
   refine⟨fun h=>by simp at h,fun _=>?_⟩
   rw[bA i (by omega)]
   have ih:=Kl s d f pa p hp hl k (i+1) (by omega)
   cases q2:eE d (p.drop (i+1))with
   |none=>rw[q2]at ih;exact ih
   |some l=>rw[q2]at ih;exact ih
theorem ur(s:Nm)(p:List Nm)(f:Nm):tX s p f=(cJ s).bind fun d=>(kF s).bind fun _=>(mo s f 100).bind fun v=>if p.length<=50 then(eE d p).map fun l=>(l,v)else none:=by
 unfold tX qB
 cases kF s with
 |none=>cases cJ s<;>rfl
 |some a=>cases mo s f 100<;>cases cJ s<;>rfl
theorem RI(s:Nm)(pa:AV)(p:List Nm)(hp:cG pa p)(f:Nm):an Tryz.prog 46 [.agg [.v (.string (mk s)),pa,.v (.string (mk f))]] [] (bJ (.v (.bool (tX s p f).isSome))):=by
 refine PQ _ _ _ hp.1 ?_
 unfold Ln
 refine aj (LP s) ?_
 rw[tS]
 simp only[↓zq,zs,ae,zt]
 refine aP (Ir s) (jI.ne _ _ (fun h=>h)) ?_
 rintro r o ⟨c,e,he,rfl,_⟩
 rw[A8]
 simp only[↓zq,zs,ae,zt,bD,hp.len]
 rw[ur]
 refine⟨he,fun h=>?_,fun h=>⟨fun h'=>?_,fun h'=>⟨hp.1,fun h''=>?_,fun h''=>?_⟩⟩⟩
 ·have:cJ s=none:=by cases q:cJ s with|none=>rfl|some d=>simp[q]at h
  rw[this]
  exact⟨rfl,rfl⟩
 ·have:kF s=none:=by cases q:kF s with|none=>rfl|some d=>simp[q]at h'
  rw[this]
  cases cJ s<;>exact⟨rfl,rfl⟩
 ·simp only[if_neg (show ¬p.length<=50 by omega)]
  exact⟨by cases cJ s<;>cases kF s<;>cases mo s f 100<;>rfl,rfl⟩
 ·obtain⟨d,hd⟩:∃d,cJ s=some d:=by cases q:cJ s with|none=>simp[q]at h|some d=>exact⟨d,rfl⟩
  obtain⟨a,ha⟩:∃a,kF s=some a:=by cases q:kF s with|none=>simp[q]at h'|some d=>exact⟨d,rfl⟩
  rw[hd,ha]
  refine aj (Af s f 100) ?_
  simp only[↓zq,zs,ae]
  cases q:mo s f 100 with
  |none=>simp only[bu];exact⟨fun _=>⟨rfl,rfl⟩,fun h=>by simp at h⟩
  |
   some v =>
   simp only[a8,cA,ba]
   refine⟨fun h=>by simp at h,fun _=>?_⟩
   have hl:p.length<=50:=by omega
   have hloop:=Kl s d f pa p hp hl p.length 0 (by omega)
   rw[bc]at hloop
   rw[if_pos hl]
   refine eN hloop (fun ys o e=>?_) (fun ys o e=>?_)
   ·cases q2:eE d p with
    |none=>rw[q2]at e;cases e
    |some l=>exact⟨rfl,rfl⟩
   ·cases q2:eE d p with
    |none=>rw[q2]at e;cases e;simp only[↓zq,zs,ae];exact⟨rfl,rfl⟩
    |some l=>rw[q2]at e;cases e
theorem xg{s:Nm}{p:List Nm}{f:Nm}{l:List Vl}{v:Vl}(h:tX s p f=some (l,v)):∃d,St s d (zA s) l v/\p=l.map (·.cC)/\f=v.cC:=by
 obtain⟨d,a,x,A,B,D,z,hz,hp,hf,hl,hza,_,hr⟩:=ph h
 rw[hza]
 exact⟨d,⟨⟨x,A,B,D,z⟩,hz,nW hr hp,by rw[hp]at hl;simpa using hl⟩,hp,hf⟩
theorem O6(s:Nm)(pa:AV)(p:List Nm)(hp:cG pa p)(f:Nm):an Tryz.prog 23 [.agg [.v (.string (mk s)),pa,.v (.string (mk f))]] [] (bJ (.v (.bool (gh s p f).isSome))):=by
 refine RG _ _ _ hp.1 ?_
 unfold Nb
 refine aj (RI s pa p hp f) ?_
 simp only[↓zq,zs,ae]
 unfold gh
 cases q:tX s p f with
 |none=>simp only[bu];exact⟨fun _=>⟨rfl,rfl⟩,fun h=>by simp at h⟩
 |
  some r =>
  obtain⟨l,v⟩:=r
  obtain⟨d,hs,rfl,rfl⟩:=xg q
  simp only[a8,ba]
  refine⟨fun h=>by simp at h,fun _=>?_⟩
  refine aP (QB hs pa hp) (D3.ne _) ?_
  rintro r o ⟨rfl,c0,p',c2,h1,rfl,_⟩
  simp only[↓zq,zs,ae,zt,bD]
  refine⟨h1,?_,rfl⟩
  congr 2
  cases sB (zA s) l v<;>rfl
end Go.Proofs.Trees
namespace Go.Proofs.Trees
open Go Go.VL Go.RowKit
inductive Rl(x:Nm):Nat->Tg->Tg->Prop
 |nm (i):Rl x i (.nm x) (.bd i)
 |ky (i s) (h:s≠x):Rl x i (.nm s) (.nm s)
 |bd (i j) (h:j≠i):Rl x i (.bd j) (.bd j)
theorem Rl.up{x:Nm}{i:Nat}{a b:Tg}(h:Rl x i a b):Rl x (i+1) a.up b.up:=by
 cases h with
 |nm=>exact .nm _
 |ky s h=>exact .ky _ _ h
 |bd j h=>exact .bd _ _ (by omega)
theorem Rl.at{x:Nm}{i:Nat}{a b:Tg}(h:Rl x i a b):∀t:Ty,bj x t=false->eD (dB (.name x) t i) a=eD t b
 |
  .bound k,_=>by
  simp only[dB]
  cases h with
  |
   nm =>
   by_cases e:k=i
   ·simp[e,eD]
   ·simp[e,eD]
  |
   ky s h =>
   by_cases e:k=i
   ·simp[e,eD,Ne.symm h]
   ·simp[e,eD]
  |
   bd j h =>
   by_cases e:k=i
   ·simp[e,eD,Ne.symm h]
   ·simp[e,eD]
 |
  .name s,hn=>by
  have hs:s≠x:=by simpa[bj]using hn
  cases h with
  |nm=>simp[dB,eD,hs]
  |ky=>rfl
  |bd=>rfl
 | .plus _ _,_=>by cases h<;>rfl
 | .times _ _,_=>by cases h<;>rfl
 | .rc _,_=>by cases h<;>rfl
 | .zero,_=>by cases h<;>rfl
 | .one,_=>by cases h<;>rfl
theorem gY(x:Nm):∀(n:Nat) (t:Ty) (i:Nat) (a b:Tg) (v:Vl),bj x t=false->Rl x i a b->dD n (dB (.name x) t i) a v=dD n t b v
 |0,_,_,_,_,_,_,_=>rfl
 |
  n+1,t,i,a,b,v,hn,h=>by
  rw[dD,dD,h.at t hn]
  by_cases ht:eD t b=true
  ·rw[if_pos ht,if_pos ht]
  ·rw[if_neg ht,if_neg ht]
   cases t with
   |
    plus p q =>
    simp only[bj,ck]at hn
    cases v<;>simp only[dB,iW,gY x n p i a b _ hn.1 h,gY x n q i a b _ hn.2 h]
   |
    times p q =>
    simp only[bj,ck]at hn
    cases v<;>simp only[dB,iW,gY x n p i a b _ hn.1 h,gY x n q i a b _ hn.2 h]
   |
    rc p =>
    have h0:Rl x (i+1) (.bd 0) (.bd 0):=.bd _ _ (by omega)
    cases v<;>simp only[dB,iW]
    rename_i w
    rw[gY x n p (i+1) a.up b.up w hn h.up,gY x n p (i+1) (.bd 0) (.bd 0) w hn h0]
    congr 1
    apply i6
    intro k _
    have:=gY x n (.rc p) i a b k.2 hn h
    simp only[dB]at this
    rw[this]
   |
    bound k =>
    simp only[dB]
    by_cases e:k=i
    ·rw[if_pos e];cases v<;>rfl
    ·rw[if_neg e];cases v<;>rfl
   |name s=>rfl
   |zero=>rfl
   |one=>rfl
theorem nX(x:Nm){t:Ty}{i:Nat}{a b:Tg}(v:Vl)(hn:bj x t=false)(h:Rl x i a b):cn (dB (.name x) t i) a v=cn t b v:=gY x _ t i a b v hn h
theorem mL(n:Nat):∀(m:Nat) (v:Vl),v.nodes<=m->∀(t:Ty) (s:Nm) (d:Ty) (σ:Nm->Option Ty),Dv t s d->CJ σ->jy t 0->vT n v (eT σ t)=true->∀h,h∈cn t (.nm s) v ->
 vT n h.1 (eT σ d)=true/\vT n h.2 (eT σ (.name s))=true/\cX t h.1 h.2=v
 |0,v,hm=>by have:=du v;omega
 |
  m+1,v,hm=>by
  intro t s d σ hd hσ hl hv h hh
  cases hd with
  |zero=>rw[dR rfl (by cases v<;>rfl)]at hh;cases hh
  |one=>rw[dR rfl (by cases v<;>rfl)]at hh;cases hh
  |bound=>rw[dR rfl (by cases v<;>rfl)]at hh;cases hh
  |qx hne=>rw[dR (by simp[eD,hne]) (by cases v<;>rfl)]at hh;cases hh
  |
   hit =>
   rw[mU v (by simp[eD])]at hh
   simp only[aQ]at hh
   subst hh
   exact⟨rfl,hv,kZ _ _ _⟩
  |
   @plus a b _ a' b' h1 h2 _ =>
   rcases ji hv with⟨w,rfl,hw⟩|⟨w,rfl,hw⟩
   ·simp only[Vl.nodes]at hm
    rw[m9]at hh
    obtain⟨k,hk,rfl⟩:=cY hh
    obtain⟨q1,q2,q3⟩:=mL n m w (by omega) _ s _ σ h1 hσ hl.1 hw k hk
    exact⟨q1,q2,congrArg Vl.l q3⟩
   ·simp only[Vl.nodes]at hm
    rw[nr]at hh
    obtain⟨k,hk,rfl⟩:=cY hh
    obtain⟨q1,q2,q3⟩:=mL n m w (by omega) _ s _ σ h2 hσ hl.2 hw k hk
    exact⟨q1,q2,congrArg Vl.r q3⟩
  |
   @times a b _ a' b' h1 h2 _ =>
   obtain⟨x,y,rfl,hx,hy⟩:=gq hv
   simp only[Vl.nodes]at hm
   rw[nj]at hh
   rcases aM.1 hh with hh|hh
   ·obtain⟨k,hk,rfl⟩:=cY hh
    obtain⟨q1,q2,q3⟩:=mL n m x (by omega) _ s _ σ h1 hσ hl.1 hx k hk
    refine⟨?_,q2,congrArg (fun q=>Vl.p q y) q3⟩
    show (vT n k.1 (eT σ a')&&vT n y (eT σ b))=true
    rw[q1,hy];rfl
   ·obtain⟨k,hk,rfl⟩:=cY hh
    obtain⟨q1,q2,q3⟩:=mL n m y (by omega) _ s _ σ h2 hσ hl.2 hy k hk
    refine⟨?_,q2,congrArg (Vl.p x) q3⟩
    show (vT n x (eT σ a)&&vT n k.1 (eT σ b'))=true
    rw[q1,hx];rfl
  |
   @rc a _ c0 d0 x hx hs h1 h2 hsz =>
   have lo:jy (dB (.name x) a 0) 0:=gI x a hl
   obtain⟨X,e1,e2⟩:=oe (x:=x) hσ hl (h1.lc lo) (h2.lc lo)
   obtain⟨w,rfl,hw⟩:=A0 hv
   simp only[Vl.nodes]at hm
   have hcl:=lX hσ x (jW hσ (.rc a) hl)
   have hop:eT (iR σ x (eT σ (.rc a))) (dB (.name x) a 0)=dB (eT σ (.rc a)) (eT σ a) 0:=jJ hσ x _ a 0 hx
   have hns:eT (iR σ x (eT σ (.rc a))) (.name s)=eT σ (.name s):=by simp only[eT,iR,if_neg (Ne.symm hs)]
   have hnx:eT (iR σ x (eT σ (.rc a))) (.name x)=eT σ (.rc a):=by simp[eT,iR]
   have hw':vT n w (eT (iR σ x (eT σ (.rc a))) (dB (.name x) a 0))=true:=by rw[hop];exact hw
   have ty:∀y,vT n y (dB (.rc X) X 0)=true->vT n (.f y) (eT σ (pO a x c0 d0))=true:=fun y hy=>by rw[e1];exact hy
   rw[mZ]at hh
   rcases aM.1 hh with hh|hh
   ·obtain⟨k,hk,rfl⟩:=cY hh
    have hk':k∈cn (dB (.name x) a 0) (.nm s) w:=by rw[nX x w hx (.ky 0 s (Ne.symm hs))];exact hk
    obtain⟨q1,q2,q3⟩:=mL n m w (by omega) _ s _ _ h1 hcl lo hw' k hk'
    rw[dK x k.1.nodes k.1 a 0 k.2 (au _)]at q3
    refine⟨ty _ ?_,by rw[<-hns];exact q2,congrArg Vl.f q3⟩
    rw[e2];exact q1
   ·obtain⟨k,hk,hh⟩:=List.mem_flatMap.1 hh
    obtain⟨k2,hk2,rfl⟩:=cY hh
    have hk':k∈cn (dB (.name x) a 0) (.nm x) w:=by rw[nX x w hx (.nm 0)];exact hk
    obtain⟨q1,q2,q3⟩:=mL n m w (by omega) _ x _ _ h2 hcl lo hw' k hk'
    rw[dK x k.1.nodes k.1 a 0 k.2 (au _)]at q3
    rw[hnx]at q2
    have hsz2:=(jr hk).1
    obtain⟨r1,r2,r3⟩:=mL n m k.2 (by omega) (.rc a) s _ σ (.rc x hx hs h1 h2 hsz) hσ hl q2 k2 hk2
    refine⟨ty _ ?_,r2,?_⟩
    ·rw[e2]
     show (vT n k.1 _&&vT n k2.1 _)=true
     rw[q1,r1];rfl
    ·show Vl.f (cX a k.1 (cX (.rc a) k2.1 k2.2))=.f w
     rw[r3,q3]
theorem Dw{n:Nat}{a D:Ty}{x:Nm}(hx:bj x a=false)(hl:jy (.rc a) 0)(h:n9 a x=some D){v:Vl}(hv:vT n v (.rc a)=true){k:Hl}(hk:k∈kids a v) :
 vT n k.1 D=true/\vT n k.2 (.rc a)=true/\.f (cX a k.1 k.2)=v:=by
 simp only[n9,bm,cR,eS]at h
 obtain⟨d,hd,_,rfl⟩:=h
 have lo:jy (dB (.name x) a 0) 0:=gI x a hl
 have hcl:=lX ru x hl
 have e1:sub x (.rc a) d=eT (iR Dc x (.rc a)) d:=by
  have:=iB Dc x (.rc a) d
  rw[iM,iM]at this;exact this
 obtain⟨w,rfl,hw⟩:=A0 hv
 have hk':k∈cn (dB (.name x) a 0) (.nm x) w:=by rw[nX x w hx (.nm 0)];exact hk
 have hop:eT (iR Dc x (.rc a)) (dB (.name x) a 0)=dB (.rc a) a 0:=by rw[jJ ru x _ a 0 hx,iM]
 obtain⟨q1,q2,q3⟩:=mL n w.nodes w (au _) _ x _ _ hd hcl lo (by rw[hop];exact hw) k hk'
 rw[dK x k.1.nodes k.1 a 0 k.2 (au _)]at q3
 refine⟨by rw[e1];exact q1,?_,congrArg Vl.f q3⟩
 simpa[eT,iR]using q2
theorem gM:∀{t:Ty},cb t=true->∃y,bj y t=true/\di y=true
 | .name s,h=>⟨s,by simp[bj],h⟩
 |
  .plus a b,h=>by
  simp only[cb,bB]at h
  rcases h with h|h
  ·obtain⟨y,h1,h2⟩:=gM h;exact⟨y,by simp[bj,h1],h2⟩
  ·obtain⟨y,h1,h2⟩:=gM h;exact⟨y,by simp[bj,h1],h2⟩
 |
  .times a b,h=>by
  simp only[cb,bB]at h
  rcases h with h|h
  ·obtain⟨y,h1,h2⟩:=gM h;exact⟨y,by simp[bj,h1],h2⟩
  ·obtain⟨y,h1,h2⟩:=gM h;exact⟨y,by simp[bj,h1],h2⟩
 |
  .rc a,h=>by
  obtain⟨y,h1,h2⟩:=gM (t:=a) h;exact⟨y,by simp[bj,h1],h2⟩
theorem gK:∀{t:Ty} {y:Nm},bj y t=true->di y=true->cb t=true
 |
  .name s,y,h,hl=>by
  have:s=y:=by simpa[bj]using h
  rw[this];exact hl
 |
  .plus a b,y,h,hl=>by
  simp only[bj,bB]at h
  simp only[cb,bB]
  exact h.imp (gK · hl) (gK · hl)
 |
  .times a b,y,h,hl=>by
  simp only[bj,bB]at h
  simp only[cb,bB]
  exact h.imp (gK · hl) (gK · hl)
 | .rc a,y,h,hl=>gK (t:=a) h hl
 | .zero,y,h,_=>by simp[bj]at h
 | .one,y,h,_=>by simp[bj]at h
 | .bound k,y,h,_=>by simp[bj]at h
theorem ZT.Tm{s d:Nm}{a:Ty}{x A B:E}{D:Ty}(z:ZT s d a x A B D):∃e,jE d=some e/\Ask e [] D:=by
 have hcl:cb D=false:=by
  cases q:cb D with
  |false=>rfl
  |
   true =>
   obtain⟨y,h1,h2⟩:=gM q
   have:=gK (t:=.rc a) (tj z.lp y h1) h2
   rw[z.ask.cl]at this;cases this
 have hc:xj d=some D:=by unfold xj;rw[z.bk];simp only;rw[if_pos (by rw[sP,hcl];rfl)]
 cases q:jE d with
 |none=>rw[np q]at hc;cases hc
 |
  some e =>
  obtain⟨t,h1,hA,_⟩:=gU q
  rw[hc]at h1;cases h1
  exact⟨e,rfl,hA⟩
theorem ZT.QM{s d:Nm}{a:Ty}{x A B:E}{D:Ty}(z:ZT s d a x A B D){w:Vl}(hb:w.gR 100)(hv:vT 100 w D=true):mo d w.cC 100=if w.nodes<=200 then some w else none:=by
 obtain⟨e,he,hA⟩:=z.Tm
 unfold mo
 rw[he]
 by_cases hn:w.nodes<=200
 ·rw[qI hb hn,if_pos hn]
  simp only
  rw[if_pos ⟨by omega,by rw[show (100:Int).toNat=100 from rfl,mW hA];exact hv⟩]
 ·rw[if_neg hn]
  cases q:sw w.cC with
  |none=>rfl
  |
   some w' =>
   exfalso
   obtain⟨_,h2,h3⟩:=lI q
   have:=tP hb h2 (qO q)
   rw[this]at hn;exact hn h3
theorem ZT.Pc{s d:Nm}{a:Ty}{x A B:E}{D:Ty}(z:ZT s d a x A B D){v:Vl}(hv:Fo a v){k:Hl}(hk:k∈kids a v):vT 100 k.1 D=true/\Fo a k.2/\.f (cX a k.1 k.2)=v:=by
 obtain⟨e2,he2,hw2,hte2,_,_⟩:=n0 z.y
 have hlc:jy (.rc a) 0:=hte2 ▸ hw2.qw.1
 obtain⟨q1,q2,q3⟩:=Dw (uJ z.y) hlc z.lp hv.ty hk
 have:=xP hk
 have:=hv.nd
 exact⟨q1,⟨q2,(lf hv.gR hk).2,by omega⟩,q3⟩
def yE(a:Ty)(l:List Vl)(v:Vl)(k:Int):Option (List Vl×Vl) :=
 if l.length=50 then none else if 0<=k/\k.toNat<(kids a v).length then
  (if((kids a v).getD k.toNat (.u,.u)).1.nodes<=200 then some (l++[((kids a v).getD k.toNat (.u,.u)).1],((kids a v).getD k.toNat (.u,.u)).2)else none)else none
theorem wt{a:Ty}{l:List Vl}{c e v:Vl}(h:.f (cX a c e)=v)(hn:v.nodes<=200):qd a (l++[c]) e=some (l,v)/\sB a (l++[c]) e=sB a l v:=by
 have hu:qd a (l++[c]) e=some (l,v):=by
  unfold qd
  rw[List.getLast?_concat]
  simp only
  rw[h,if_pos hn,List.dropLast_concat]
 refine⟨hu,?_⟩
 unfold sB
 rw[aq,List.length_singleton,iV,hu]
 rfl
theorem zK{s d:Nm}{l:List Vl}{v:Vl}(hs:St s d (zA s) l v)(hd:cJ s=some d)(hv:gh s (l.map (·.cC)) v.cC=some (l,v)){k:Hl}(hk:k∈kids (zA s) v) :
 gh s (l.map (·.cC)++[k.1.cC]) k.2.cC=if l.length=50 then none else if k.1.nodes<=200 then some (l++[k.1],k.2)else none:=by
 obtain⟨x,A,B,D,z⟩:=hs.z
 obtain⟨t1,t2,t3⟩:=z.Pc hs.i.nJ hk
 have hb:=(lf hs.i.nJ.gR hk).1
 have hz:=(gP hv).1
 have hclo:=(gP hv).2
 have hlen:=hs.len
 have hlp:eE d (l.map (·.cC))=some l:=by
  rw[ur,hd]at hz
  simp only[ba,z.l]at hz
  obtain⟨_,h1,h2⟩:=bm.1 hz
  split at h2
  ·obtain⟨l',h3,h4⟩:=Option.map_eq_some_iff.1 h2
   cases h4;exact h3
  ·cases h2
 have e1:mo s k.2.cC 100=some k.2:=by rw[z.cC t2.gR t2.ty,if_pos t2.nd]
 unfold gh
 rw[ur,hd]
 simp only[ba,z.l,e1,s7,hlp,eE,z.QM hb t1,aq,bU,List.length_singleton]
 by_cases h50:l.length=50
 ·rw[if_neg (by omega),if_pos h50];rfl
 ·rw[if_pos (by omega),if_neg h50]
  by_cases hn:k.1.nodes<=200
  ·rw[if_pos hn,if_pos hn]
   simp only[cj,ba,(wt (l:=l) t3 hs.i.nJ.nd).2]
   rw[if_pos hclo]
  ·rw[if_neg hn,if_neg hn];rfl
end Go.Proofs.Trees
namespace Go.Proofs.Trees
open Go Go.VL Go.RowKit
def O0(s:Nm)(o:Option (List Vl×Vl)):AV->List Ob->Prop:=fun r obs=>obs=[]/\∃pa,cG pa (tZ s o).2.1/\r=.cI [.agg [.v (.string (mk (tZ s o).1)),pa,.v (.string (mk (tZ s o).2.2))],.v (.bool o.isSome)]
theorem AB(s:Nm){o:Option (List Vl×Vl)}(h:GZ o):(tZ s o).2.1.length<=51:=by
 cases o with
 |none=>simp
 |some r=>obtain⟨_,_,h3⟩:=h r rfl;simpa using h3
theorem O0.ne(s:Nm)(o:Option (List Vl×Vl)):∃r ob,O0 s o r ob:=⟨_,[],rfl,_,cG.of _,rfl⟩
theorem O0.none(s:Nm):O0 s none (.cI [.agg [.v (.string (mk [])),.v (.slice none 0 0),.v (.string (mk []))],.v (.bool false)]) []:=⟨rfl,_,cG.nil,rfl⟩
theorem lH{s:Nm}{p:List Nm}{f:Nm}{l:List Vl}{v:Vl}(h:gh s p f=some (l,v)):∃d,St s d (zA s) l v/\p=l.map (·.cC)/\f=v.cC:=xg (gP h).1
abbrev Sz(s:Nm)(o:Option (List Vl×Vl)):AV->List Ob->Prop:=dh (.cI [.agg [.v (.string (mk (tZ s o).1)),.vec 1,.v (.string (mk (tZ s o).2.2))],.v (.bool o.isSome)]) [.dead,.vec 1 (bL (tZ s o).2.1)]
theorem MZ(s:Nm)(p:List Nm)(f:Nm):an Tryz.prog 41 [.agg [.v (.string (mk s)),.vec 0,.v (.string (mk f))]] [.vec 1 (bL p)] (Sz s (gh s p f)):=by
 refine Q2 _ _ _ ?_
 unfold Ki
 refine aj (O6 s _ p (cG.of p) f) ?_
 simp only[↓zq,zs,ae]
 cases q:gh s p f with
 |none=>simp only[bu];exact⟨fun _=>⟨rfl,rfl⟩,fun h=>by simp at h⟩
 |
  some r =>
  obtain⟨_,_,rfl,rfl⟩:=lH (l:=r.1) (v:=r.2) q
  simp only[a8]
  exact⟨fun h=>by simp at h,fun _=>⟨rfl,rfl⟩⟩
theorem wA(s f:Nm):gh s [] f=tX s [] f:=by
 unfold gh
 cases q:tX s [] f with
 |none=>rfl
 |
  some r =>
  obtain⟨l,v⟩:=r
  obtain⟨_,_,h,_⟩:=xg q
  have:l=[]:=List.map_eq_nil_iff.1 h.symm
  subst this
  rfl
theorem Sv(s f:Nm):an Tryz.prog 54 [.v (.string (mk s)),.v (.string (mk f))] [] (KB s (tX s [] f)):=by
 refine Qb _ _ ?_
 unfold Ly
 rw[<-wA]
 refine aW (MZ s [] f) ?_
 simp only[↓zq,zs,ae,zt,aL,Ob.es,aO,bz]
 exact⟨rfl,rfl⟩
def kC(l:List Hl):List (List AV):=l.map fun h=>[.v (.string (mk h.1.cC)),.v (.string (mk h.2.cC))]
theorem iO(l:List Hl):(kC l).length=l.length:=by simp[kC]
theorem N2(l:List Hl)(hl:l.length<=1000)(h1:∀h,h∈l->h.1.cC.length<=900000)(h2:∀h,h∈l->h.2.cC.length<=900000):∀(k i:Nat) (out:List Hl),i+k=l.length->out.length<=i ->
 Fi [.sl (mh l),.v (.int .i64 (i:Int))] [.vec 2 (kC out)] (ib 1 [] [.vec 2 (kC (out++l.drop i))])
 |
  0,i,out,hi,ho=>by
  refine Lb _ _ _ ?_
  have:i=l.length:=by omega
  subst this
  simp only[H8,↓zq,zs,ae,fA,List.drop_length]
  exact⟨fun h=>by omega,fun _=>by simp[ib]⟩
 |
  k+1,i,out,hi,ho=>by
  have hlt:i<l.length:=by omega
  have hm:=bH hlt
  have t1:=Em (l[i]).1.cL (mG _) (h1 _ hm)
  have t2:=Em (l[i]).2.cL (mG _) (h2 _ hm)
  rw[dk]at t1 t2
  refine Lb _ _ _ ?_
  simp only[H8,↓zq,zs,ae,zt,fA,gA hlt,bD,aX]
  refine⟨fun _=>?_,fun h=>by omega⟩
  repeat refine⟨by omega,?_⟩
  refine aj t1 ?_
  simp only[↓zq,zs,ae,zt]
  repeat refine⟨by omega,?_⟩
  refine aj t2 ?_
  simp only[↓zq,zs,ae,zt,iO]
  refine⟨⟨fun c hc=>by simp at hc;rw[hc];rfl,by omega⟩,?_⟩
  rw[bA i (by omega),aT hlt]
  have:=N2 l hl h1 h2 k (i+1) (out++[l[i]]) (by omega) (by simp;omega)
  rw[a6]at this
  simpa[kC]using this
theorem Pg(l:List Hl)(hl:l.length<=1000)(h1:∀h,h∈l->h.1.cC.length<=900000)(h2:∀h,h∈l->h.2.cC.length<=900000):an Tryz.prog 73 [.sl (mh l)] [] (bJ (.sl (kC l))):=by
 refine Rn _ ((cc _).mpr trivial) ?_
 unfold Kn
 refine cD (N2 l hl h1 h2 l.length 0 [] (by omega) (by simp)) ?_
 simp only[↓zq,zs,ae]
 exact⟨rfl,rfl⟩
theorem rS{a:Ty}{v:Vl}(h:Fo a v){k:Hl}(hk:k∈kids a v):k.1.cC.length<=900000/\k.2.cC.length<=900000:=by
 obtain⟨b1,b2⟩:=lf h.gR hk
 have h1:=i7 _ b1
 have h2:=i7 _ b2
 have h3:=xP hk
 have h4:=h.nd
 have h5:k.1.nodes<=4*v.nodes:=by
  cases v with
  |f w=>have:=(jr hk).2;simp only[Vl.nodes];omega
  |_=>cases hk
 omega
theorem GB{s d:Nm}{a:Ty}{x A B:E}{D:Ty}(z:ZT s d a x A B D)(v:Vl)(hv:Fo a v):an Tryz.prog 51 [.v (.string (mk s)),.v (.string (mk v.cC))] [] (bJ (.cI [.sl (kC (kids a v)),.v (.bool true)])):=by
 have hv2:mo s v.cC 100=some v:=by rw[z.cC hv.gR hv.ty,if_pos hv.nd]
 have hP:=P3.of x A B
 have hn:=hv.nd
 obtain⟨v0,hv0,_⟩:=uV .nil z.hx (hv.eY z)
 have hkids:=Qj 100 v x A B a z.body z.hx v0 hv0 (hv.eY z) (by omega)
 have hV:=P2.of (.atom [102]) v0.cL
 refine PR _ _ ?_
 unfold Oy
 refine aP (Ir s) (jI.ne _ _ (fun h=>h)) ?_
 rintro r o ⟨c,e,he,rfl,hh⟩
 rw[z.le]at hh
 obtain⟨e',he',hce⟩:=hh rfl
 cases he'
 rw[dk]at hce
 rw[hce,z.le]
 simp only[↓zq,zs,ae,zt,aK,bK]
 repeat refine⟨by omega,?_⟩
 refine aP (D2 v.cC) (jI.ne _ _ (fun h=>by simpa using h)) ?_
 rw[qI hv.gR hn]
 rintro r o ⟨c,e,he,rfl,hh⟩
 obtain⟨e',he',hce⟩:=hh rfl
 cases he'
 rw[dk]at hce
 rw[hce]
 simp only[↓zq,zs,ae,zt,aK,a8]
 repeat refine⟨by omega,?_⟩
 refine⟨fun h=>by simp at h,fun _=>?_⟩
 refine aj (Af s v.cC 100) ?_
 rw[hv2,hv0]
 simp only[toNat_one,bf,Vl.cL,bK,↓zq,zs,ae,zt,hP.1,hP.2.1,hP.2.2.1,hP.2.2.2,hV.1,hV.2.1,hV.2.2,aK,aX,a8]
 refine⟨fun h=>by simp at h,fun _=>?_⟩
 repeat refine⟨by omega,?_⟩
 refine aj hkids ?_
 simp only[↓zq,zs,ae]
 repeat refine⟨by omega,?_⟩
 have hlen:=mX a v
 have:=kO (kids a v)
 refine aj (Pg (kids a v) (by omega) (fun h hh=>(rS hv hh).1) (fun h hh=>(rS hv hh).2)) ?_
 rw[<-hv0]
 simp only[↓zq,zs,ae]
 exact⟨rfl,rfl⟩
theorem Ro(s:Nm)(pa:AV)(p:List Nm)(hp:cG pa p)(f:Nm):an Tryz.prog 50 [.agg [.v (.string (mk s)),pa,.v (.string (mk f))]] [] (bJ (.v (.int .i64 (qs s p f)))):=by
 refine RU _ _ _ hp.1 ?_
 unfold Mr
 refine aj (O6 s pa p hp f) ?_
 simp only[↓zq,zs,ae]
 unfold qs
 cases q:gh s p f with
 |none=>simp only[bu];exact⟨fun _=>⟨rfl,rfl⟩,fun h=>by simp at h⟩
 |
  some r =>
  obtain⟨l,v⟩:=r
  obtain⟨d,hs,rfl,rfl⟩:=lH q
  obtain⟨x,A,B,D,z⟩:=hs.z
  simp only[a8]
  refine⟨fun h=>by simp at h,fun _=>?_⟩
  refine aj (GB z v hs.i.nJ) ?_
  simp only[↓zq,zs,ae,iO]
  exact⟨rfl,rfl⟩
end Go.Proofs.Trees
namespace Go.Proofs.Trees
open Go Go.VL Go.RowKit
theorem v8{a:Ty}{l l':List Vl}{v w:Vl}{k:Int}(h:yE a l v k=some (l',w)):∃q,q∈kids a v/\l'=l++[q.1]/\w=q.2/\q.1.nodes<=200/\l.length≠50/\0<=k/\(kids a v)[k.toNat]?=some q:=by
 unfold yE at h
 split at h
 ·cases h
 ·rename_i h0
  split at h
  ·rename_i h1
   split at h
   ·rename_i h2
    cases h
    have e:(kids a v).getD k.toNat (.u,.u)=(kids a v)[k.toNat]'h1.2:=by simp[aa,h1.2]
    rw[e]at h2 |-
    exact⟨_,bH _,rfl,rfl,h2,h0,h1.1,by simp[h1.2]⟩
   ·cases h
  ·cases h
theorem St.dn{s d:Nm}{a:Ty}{l l':List Vl}{v w:Vl}{k:Int}(h:St s d a l v)(hu:yE a l v k=some (l',w)):St s d a l' w/\qd a l' w=some (l,v)/\l'.length=l.length+1:=by
 obtain⟨q,hq,rfl,rfl,hn,h50,_,_⟩:=v8 hu
 obtain⟨x,A,B,D,z⟩:=h.z
 obtain⟨t1,t2,t3⟩:=z.Pc h.i.nJ hq
 have hv:mo d q.1.cC 100=some q.1:=by rw[z.QM (lf h.i.nJ.gR hq).1 t1,if_pos hn]
 have hlen:=h.len
 refine⟨⟨⟨x,A,B,D,z⟩,⟨fun c hc=>?_,t2⟩,fun c hc=>?_,by simp;omega⟩,(wt t3 h.i.nJ.nd).1,by simp⟩
 ·rcases aM.1 hc with hc|hc
  ·exact h.i.ctx c hc
  ·simp only[aQ]at hc;subst hc;exact z.ctx hv
 ·rcases aM.1 hc with hc|hc
  ·exact h.each c hc
  ·simp only[aQ]at hc;subst hc;exact hv
noncomputable def Cq (s:Nm) (p:List Nm) (f:Nm) (k:Int):Option (List Vl×Vl):=(gh s p f).bind fun r=>yE (zA s) r.1 r.2 k
theorem St.gz{s d:Nm}{a:Ty}{l:List Vl}{v:Vl}(h:St s d a l v):GZ (some (l,v)):=h.i.gz (by have:=h.len;omega)
theorem Cz(s:Nm)(p:List Nm)(f:Nm)(k:Int):GZ (Cq s p f k):=fun r hr=>by
 obtain⟨q,h1,h2⟩:=bm.1 hr
 obtain⟨d,hs,_⟩:=lH (l:=q.1) (v:=q.2) h1
 exact(hs.dn (l':=r.1) (w:=r.2) h2).1.gz r rfl
theorem rT{l:List Hl}{i:Nat}(h:i<l.length):(kC l).getD i []=[.v (.string (mk (l[i]).1.cC)),.v (.string (mk (l[i]).2.cC))]:=by simp[kC,aa,h]
theorem xh{s:Nm}{p:List Nm}{f:Nm}{r:List Vl×Vl}(h:tX s p f=some r):∃d,cJ s=some d/\St s d (zA s) r.1 r.2/\p=r.1.map (·.cC)/\f=r.2.cC:=by
 obtain⟨d,a,x,A,B,D,z,hz,hp,hf,hl,hza,_,hr⟩:=ph (l:=r.1) (v:=r.2) h
 rw[hza]
 exact⟨d,z.dl,⟨⟨x,A,B,D,z⟩,hz,nW hr hp,by rw[hp]at hl;simpa using hl⟩,hp,hf⟩
theorem ET{s d:Nm}{l:List Vl}{v:Vl}(hs:St s d (zA s) l v)(hd:cJ s=some d)(hv:gh s (l.map (·.cC)) v.cC=some (l,v)){k:Int}(h0:0<=k)(hk:k.toNat<(kids (zA s) v).length) :
 gh s (l.map (·.cC)++[((kids (zA s) v)[k.toNat]).1.cC]) ((kids (zA s) v)[k.toNat]).2.cC=yE (zA s) l v k:=by
 rw[zK hs hd hv (bH hk)]
 unfold yE
 by_cases h5:l.length=50
 ·rw[if_pos h5,if_pos h5]
 ·rw[if_neg h5,if_neg h5,if_pos (show 0<=k/\k.toNat<(kids (zA s) v).length from ⟨h0,hk⟩)]
  have hg2:(kids (zA s) v).getD k.toNat (.u,.u)=(kids (zA s) v)[k.toNat]:=by simp[aa,hk]
  rw[hg2]
theorem P1(s:Nm)(pa:AV)(p:List Nm)(hp:cG pa p)(f:Nm)(k:Int):an Tryz.prog 30 [.agg [.v (.string (mk s)),pa,.v (.string (mk f))],.v (.int .i64 k)] [] (KB s (Cq s p f k)):=by
 refine Rk _ _ _ _ hp.1 ?_
 unfold Kd
 refine aj (O6 s pa p hp f) ?_
 simp only[↓zq,zs,ae]
 unfold Cq
 cases q:gh s p f with
 |none=>simp only[bu];exact⟨fun _=>⟨rfl,rfl⟩,fun h=>by simp at h⟩
 |
  some r =>
  obtain⟨l,v⟩:=r
  obtain⟨d,hd,hs,rfl,rfl⟩:=xh (gP q).1
  obtain⟨x,A,B,D,z⟩:=hs.z
  have hlen:l.length<=50:=hs.len
  have hnd:v.nodes<=200:=hs.i.nJ.nd
  have hks:=mX (zA s) v
  have hks2:=kO (kids (zA s) v)
  simp only[a8,ba]
  refine⟨fun h=>by simp at h,fun _=>?_⟩
  refine aj (GB z v hs.i.nJ) ?_
  simp only[↓zq,zs,ae,iO]
  rw[wrap64 (((kids (zA s) v).length:Int)-1) (by omega) (by omega)]
  refine aj (AN k 0 _) ?_
  rw[show CL k 0 (((kids (zA s) v).length:Int)-1)=decide (0<=k/\k<=((kids (zA s) v).length:Int)-1) by rw[cx];simp[CL]]
  simp only[↓zq,zs,ae,iO]
  by_cases hin:0<=k/\k<=((kids (zA s) v).length:Int)-1
  ·have hlt:k.toNat<(kids (zA s) v).length:=by omega
   refine⟨fun h=>(by exfalso;first|omega|(simp at h;omega)),fun _=>?_⟩
   simp only[rT hlt,↓zq,zs,ae,zt]
   repeat refine⟨by first|trivial|omega,?_⟩
   refine aW (w6 _ pa hp _ (by simp;omega)) ?_
   simp only[↓zq,zs,ae,zt,Ob.es,aO]
   refine⟨fy _,?_⟩
   repeat refine⟨by first|trivial|omega,?_⟩
   have hdn:=MZ s (l.map (·.cC)++[((kids (zA s) v)[k.toNat]).1.cC]) ((kids (zA s) v)[k.toNat]).2.cC
   rw[ET hs hd q hin.1 hlt]at hdn
   refine aW hdn ?_
   simp only[↓zq,zs,ae,zt,aL,Ob.es,aO,bz]
   exact⟨rfl,rfl⟩
  ·refine⟨fun _=>?_,fun h=>(by exfalso;first|omega|(simp at h;omega))⟩
   have:yE (zA s) l v k=none:=by
    unfold yE
    by_cases h5:l.length=50
    ·rw[if_pos h5]
    ·rw[if_neg h5,if_neg (by omega)]
   rw[this]
   exact⟨rfl,rfl⟩
end Go.Proofs.Trees
namespace Go.Proofs.Trees
open Go Go.VL Go.RowKit
def dZ(b:AV)(q:Nat)(s:Nm)(p:List Nm)(f:Nm):List Ob:=[.cells [b,.v (.int .i64 (q:Int))],Se,.cells [.v (.string (mk s)),.any,.v (.string (mk f))],.vec 1 (bL p)]
def Th(b:AV)(q c:Nat):Nat->List AV->List Ob->Prop:=fun k ys ob=>k=1/\ys=[]/\∃(q':Nat) (s:Nm) (p:List Nm) (f:Nm),q<=q'/\q'<=q+c/\p.length<=51/\ob=dZ b q' s p f
theorem AR(s:Nm)(p:List Nm)(f:Nm):-1<=qs s p f/\qs s p f<=1000:=by
 unfold qs
 cases q:gh s p f with
 |none=>simp
 |
  some r =>
  obtain⟨d,hs,_⟩:=lH (l:=r.1) (v:=r.2) q
  have h1:=mX (zA s) r.2
  have h2:=kO (kids (zA s) r.2)
  have h3:=hs.i.nJ.nd
  simp only
  omega
end Go.Proofs.Trees
