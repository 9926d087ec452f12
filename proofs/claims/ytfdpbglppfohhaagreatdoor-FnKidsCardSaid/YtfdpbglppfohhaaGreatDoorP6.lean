/-
  Part of a proof: Go functions read by values, trees of functions, their contracts.
-/
import Derived.Test.YtfdpbglppfohhaaGreatDoorP5
set_option linter.unusedVariables false
set_option linter.unusedSimpArgs false
open And renaming intro→aI
open Bool renaming and_eq_true→aw,eq_iff_iff→ct,or_eq_false_iff→cb,or_eq_true→bz,true_and→bV
open ByteArray renaming toList→af
open Int renaming tmod→dG,toNat_natCast→bZ
open List renaming all_cons→cZ,all_eq_true→bW,append_assoc→bc,append_nil→cX,cons_append→bb,drop_eq_getElem_cons→aW,drop_zero→bh,getD_cons_zero→bx,getD_eq_getElem?_getD→aa,getElem?_eq_getElem→bp,getElem_mem→bF,headD_cons→aS,length_append→an,length_cons→az,length_map→cn,length_nil→aH,map_cons→bC,mem_append→aN,mem_append_left→aC,mem_append_right→aB,mem_cons→aJ,mem_cons_of_mem→al,mem_cons_self→ak,mem_map→bO,mem_singleton→aV,nil_append→aU,tail_cons→bw
open Nat renaming le_add_right→da,le_refl→au,mul_add→cT,mul_le_mul_right→a7,mul_one→dH,zero_add→aZ,zero_le→dP
open Option renaming bind_eq_some_iff→bg,bind_none→bL,bind_some→ba,getD_some→cA,isSome_iff_exists→bR,isSome_none→bq,isSome_some→be,map_some→cz
open UInt8 renaming ofNat→bj
namespace Go.Proofs.Trees
open Go Go.VL Go.RowKit
theorem Kv(s:List UInt8)(L:AV)(q:Nat)(kc:Vl)(kv:Vl)(hL:LK.sl.has L)(hq:q<L.aP.length)(hg:L.aP.getD q []=[.v (.string (mk kc.cG.at)),kc.cG.sp,.v (.string (mk kv.cG.at)),kv.cG.sp])(ta:ByteArray)(tp:AV)(ht:LK.sl.has tp)(l:List Hl)(hl:l.length<=1000000):∀(k i:Nat) (out:List Hl),i+k=l.length->out.length+k<=1000000 ->
 Ge [.v (.string (mk s)),L,.v (.int .i64 (q:Int)),.sl (lZ l),.v (.int .i64 (i:Int))] [.cells [.v (.string ta),tp],.vec 4 (lZ out)] (iF 1 [.v (.string (mk s)),L,.v (.int .i64 (q:Int))] [.cells [.v (.string ta),tp],.vec 4 (lZ (out++iH (fun c=>Vl.f (.r (.p kc c))) (l.drop i)))])
 |
  0,i,out,hi,ho=>by
  refine Kb _ _ _ _ _ _ _ _ ?_
  have:i=l.length:=by omega
  subst this
  simp only[Hd,↓zq,zs,ac,fu,ht,aX,ac,hL]
  exact⟨fun h=>by omega,fun _=>by simp[iF,iH]⟩
 |
  k+1,i,out,hi,ho=>by
  have hlt:i<l.length:=by omega
  refine Kb _ _ _ _ _ _ _ _ ?_
  simp only[Hd,↓zq,zs,ac,zt,fu,gy hlt,kM,aL,gy,ht,aX,ac,hL,hg]
  refine⟨fun _=>?_,fun h=>by omega⟩
  repeat refine⟨by omega,?_⟩
  refine ai (xr _ _ _) ?_
  simp only[↓zq,zs,ac,aL]
  repeat refine⟨by omega,?_⟩
  refine ai (xy [114] (E.list [.atom [112],kc.cG,(l[i]).1.cG])) ?_
  simp only[↓zq,zs,ac,aL]
  repeat refine⟨by omega,?_⟩
  refine ai (xy [102] (E.list [.atom [114],E.list [.atom [112],kc.cG,(l[i]).1.cG]])) ?_
  simp only[↓zq,zs,ac,aL]
  repeat refine⟨by omega,?_⟩
  refine⟨⟨zh _ _ _ _,by omega⟩,?_⟩
  rw[bA i (by omega)]
  have:=Kv s L q kc kv hL hq hg ta tp ht l hl k (i+1) (out++[((fun c=>Vl.f (.r (.p kc c))) (l[i]).1,(l[i]).2)]) (by omega) (by simp;omega)
  rw[bc,<-pi]at this
  rw[gm (fun c=>Vl.f (.r (.p kc c))) l hlt]
  exact this
theorem Nh(s:List UInt8)(te:E)(a:Ty)(tg:Tg)(l:List Hl)(hl:l.length<=1000000)(ih:∀h,h∈l->aq Tryz.prog 92 [.agg [.v (.string (mk te.at)),te.sp],.v (.string (mk s)),.agg [.v (.string (mk h.2.cG.at)),h.2.cG.sp]] [] (bK (.sl (lZ (cj (.rc a) tg h.2))))) :
 ∀(k i:Nat) (out:List Hl),i+k=l.length->(out++(l.drop i).flatMap (Ao a tg)).length<=1000000 ->
 GO [.v (.string (mk s)),.sl (lZ l),.v (.int .i64 (i:Int))] [.cells [.v (.string (mk te.at)),te.sp],.vec 4 (lZ out)] (iF 1 [] [.vec 4 (lZ (out++(l.drop i).flatMap (Ao a tg)))])
 |
  0,i,out,hi,ho=>by
  refine JS _ _ _ _ _ _ ?_
  have:i=l.length:=by omega
  subst this
  simp only[Gh,↓zq,zs,ac,fu,aX,ac]
  exact⟨fun h=>by omega,fun _=>by simp[iF]⟩
 |
  k+1,i,out,hi,ho=>by
  have hlt:i<l.length:=by omega
  have hd:(l.drop i).flatMap (Ao a tg)=Ao a tg (l[i])++(l.drop (i+1)).flatMap (Ao a tg):=by rw[aW hlt,List.flatMap_cons]
  rw[hd]at ho |-
  refine JS _ _ _ _ _ _ ?_
  simp only[Gh,↓zq,zs,ac,zt,fu,gy hlt,kM,aL,aX,ac]
  refine⟨fun _=>?_,fun h=>by omega⟩
  repeat refine⟨by omega,?_⟩
  refine ai (ih _ (Cl l hlt)) ?_
  simp only[↓zq,zs,ac]
  have hb:out.length+(cj (.rc a) tg (l[i]).2).length<=1000000:=by
   simp only[an,fO]at ho;omega
  have h5:=Kv s (.sl (lZ l)) i (l[i]).1 (l[i]).2 ((cg _).mpr trivial) (by rw[fE,fu];omega) (by rw[fE,gy hlt]) (mk te.at) te.sp ((aX _).mpr trivial) (cj (.rc a) tg (l[i]).2) (by omega) (cj (.rc a) tg (l[i]).2).length 0 out (by omega) (by omega)
  rw[bh]at h5
  refine cB h5 ?_
  simp only[↓zq,zs,ac,aX,ac]
  repeat refine⟨by omega,?_⟩
  rw[bA i (by omega),<-bc]
  exact Nh s te a tg l hl ih k (i+1) _ (by omega) (by rw[bc];exact ho)
end Go.Proofs.Trees
namespace Go.Proofs.Trees
open Go Go.VL Go.RowKit
def kids(a:Ty):Vl->List Hl
 | .f w=>cj a (.bd 0) w
 |_=>[]
theorem pF(a:Ty)(v:Vl):kR (kids a v)+1<=v.nodes:=by
 cases v with
 |f w=>have:=rP a (.bd 0) w;simp only[kids,Vl.nodes];omega
 |_=>simp only[kids,kR,Vl.nodes,List.map_nil,List.sum_nil];omega
theorem xT{a:Ty}{v:Vl}{h:Hl}(hh:h∈kids a v):h.2.nodes<v.nodes:=by
 cases v with
 |f w=>have:=(il hh).1;simp only[Vl.nodes];omega
 |_=>cases hh
theorem j4{n:Nat}{a:Ty}{v:Vl}{h:Hl}(hv:v.ic n)(hh:h∈kids a v):h.1.ic n/\h.2.ic n:=by
 cases v with
 |f w=>exact hG n _ _ _ w h hv hh
 |_=>cases hh
end Go.Proofs.Trees
namespace Go.Proofs.Trees
open Go Go.VL
mutual
def E.pr:E->Prop
 | .atom s=>s≠[]/\s.all e9=true
 | .list l=>l≠[]/\E.Ca l
def E.Ca:List E->Prop
 |[]=>True
 |e::l=>e.pr/\E.Ca l
end
mutual
def E.dp:E->Nat
 | .atom _=>0
 | .list l=>1+E.uM l
def E.uM:List E->Nat
 |[]=>0
 |e::l=>max e.dp (E.uM l)
end
def Nc(r:List UInt8):Prop:=∀c t,r=c::t->e9 c=false
theorem ui:Nc []:=by intro c t h;cases h
theorem BX{s r:List UInt8}(hs:s.all e9=true)(hr:Nc r):(s++r).takeWhile e9=s/\(s++r).dropWhile e9=r:=by
 induction s with
 |
  nil =>
  cases r with
  |nil=>exact⟨rfl,rfl⟩
  |cons c t=>have:=hr c t rfl;simp[List.takeWhile,List.dropWhile,this]
 |
  cons c s ih =>
  simp only[cZ,aw]at hs
  have:=ih hs.2
  simp[List.takeWhile,List.dropWhile,hs.1,this.1,this.2]
theorem vQ(l:List E)(r:List UInt8):Nc (ei l++41::r):=by
 intro c t h
 cases l with
 |nil=>simp only[ei,aU,List.cons.injEq]at h;rw[<-h.1];decide
 |cons e l=>simp only[ei,bb,List.cons.injEq]at h;rw[<-h.1];decide
theorem By{f:List UInt8->Option (E×List UInt8)}(r:List UInt8):∀(l:List E) (e:E) (acc:List E) (n:Nat),l.length<n->(∀x,x=e\/x∈l->∀r,Nc r->f (eY x++r)=some (x,r)) ->
 sg f n (eY e++(ei l++41::r)) acc=some (.list (acc++e::l),r)
 |l,e,acc,0,hn,hf=>by omega
 |
  [],e,acc,n+1,hn,hf=>by
  simp only[sg]
  rw[hf e (.inl rfl) _ (vQ [] r)]
  simp[ei]
 |
  x::l,e,acc,n+1,hn,hf=>by
  simp only[sg]
  rw[hf e (.inl rfl) _ (vQ (x::l) r)]
  simp only[az]at hn
  have ih:=By r l x (acc++[e]) n (by omega) (fun y hy=>hf y (.inr (by cases hy with|inl h=>rw[h];exact ak|inr h=>exact al _ h)))
  simp only[bc,bb,aU]at ih
  simp only[ei,bb,bc]
  simp[ih]
theorem Dz{l:List E}{k:Nat}:E.Ca l->E.uM l<=k->∀x,x∈l->x.pr/\x.dp<=k:=by
 induction l with
 |nil=>intro _ _ x h;cases h
 |
  cons e l ih =>
  intro h hd x hx
  simp only[E.Ca,E.uM]at h hd
  cases hx with
  |head=>exact⟨h.1,by omega⟩
  |tail _ hx=>exact ih h.2 (by omega) x hx
theorem yP:∀(k:Nat) (e:E) (r:List UInt8),e.pr->e.dp<=k->Nc r->rd k (eY e++r)=some (e,r)
 |
  0,.atom s,r,hp,hd,hr=>by
  have h:=BX hp.2 hr
  simp only[eY,rd,h.1,h.2,hp.1,if_false]
 |
  k+1,.atom s,r,hp,hd,hr=>by
  have h:=BX hp.2 hr
  simp only[eY,rd,h.1,h.2,hp.1,if_false]
 |0,.list l,r,hp,hd,hr=>by simp only[E.dp]at hd;omega
 |k+1,.list [],r,hp,hd,hr=>by exact absurd rfl hp.1
 |
  k+1,.list (e::l),r,hp,hd,hr=>by
  have hs:e9 40=false:=by decide
  simp only[E.dp,E.pr]at hd hp
  have hm:=Dz (k:=k) hp.2 (by omega)
  have:=By (f:=rd k) r l e [] ((eY e++(ei l++41::r)).length+1) (by have:=rz l;simp only[an,az];omega)
   (fun x hx r hr=>yP k x r (hm x (by cases hx with|inl h=>rw[h];exact ak|inr h=>exact al _ h)).1 (hm x (by cases hx with|inl h=>rw[h];exact ak|inr h=>exact al _ h)).2 hr)
  simp only[eY,bb,bc,aU]at *
  simp only[rd,List.takeWhile,hs,if_true]
  simpa using this
theorem Bb{e e':E}(h:e.pr)(h':e'.pr)(ht:eY e=eY e'):e=e':=by
 have a:=yP (max e.dp e'.dp) e [] h (by omega) ui
 have b:=yP (max e.dp e'.dp) e' [] h' (by omega) ui
 rw[ht,b]at a;cases a;rfl
theorem Fl{e:E}(h:e.pr)(hd:e.dp<=300)(hl:(eY e).length<=8000):qM (eY e)=some e:=by
 have:=yP 300 e [] h hd ui
 rw[cX]at this
 rw[qM,this];simp;omega
theorem Ch(s:List UInt8):(s.takeWhile e9).all e9=true:=by
 induction s with
 |nil=>rfl
 |cons c s ih =>
  cases h:e9 c
  ·simp[List.takeWhile,h]
  ·simp only[List.takeWhile,h,cZ,ih];rfl
theorem Eg(l r:List E):E.Ca (l++r)↔E.Ca l/\E.Ca r:=by
 induction l with
 |nil=>simp[E.Ca]
 |cons e l ih=>simp[E.Ca,ih,and_assoc]
theorem DB(l r:List E):E.uM (l++r)=max (E.uM l) (E.uM r):=by
 induction l with
 |nil=>simp[E.uM]
 |cons e l ih=>simp[E.uM,ih,Nat.max_assoc]
theorem yH{k:Nat}{f:List UInt8->Option (E×List UInt8)}(hf:∀s e r,f s=some (e,r)->s=eY e++r/\e.pr/\e.dp<=k):∀(n:Nat) (s:List UInt8) (acc:List E) (e:E) (r:List UInt8),sg f n s acc=some (e,r)->E.Ca acc->E.uM acc<=k ->
 ∃l,e=.list (acc++l)/\l≠[]/\32::s=ei l++41::r/\E.Ca l/\E.uM l<=k
 |0,s,acc,e,r,h,hp,hd=>by cases h
 |
  n+1,s,acc,e,r,h,hp,hd=>by
  simp only[sg]at h
  split at h
  ·rename_i p c r' hs
   obtain⟨h1,h2,h3⟩:=hf _ _ _ hs
   split at h
   ·rename_i hc
    have hc:c=41:=UInt8.toNat_inj.mp hc
    cases h
    exact⟨[p],rfl,by simp,by simp[ei,h1,hc],⟨h2,trivial⟩,by simp[E.uM];omega⟩
   ·split at h
    ·rename_i hc
     have hc:c=32:=UInt8.toNat_inj.mp hc
     obtain⟨l,g1,g2,g3,g4,g5⟩:=yH hf n _ _ _ _ h ((Eg _ _).mpr ⟨hp,h2,trivial⟩) (by rw[DB];simp[E.uM];omega)
     refine⟨p::l,by simpa using g1,by simp,?_,⟨h2,g4⟩,by simp only[E.uM];omega⟩
     rw[h1,hc,g3];simp[ei]
    ·cases h
  ·cases h
theorem BL:∀(k:Nat) (s:List UInt8) (e:E) (r:List UInt8),rd k s=some (e,r)->s=eY e++r/\e.pr/\e.dp<=k
 |
  0,s,e,r,h=>by
  simp only[rd]at h
  split at h
  ·cases h
  ·rename_i hs;cases h
   exact⟨(List.takeWhile_append_dropWhile).symm,⟨hs,Ch s⟩,au _⟩
 |
  k+1,s,e,r,h=>by
  simp only[rd]at h
  split at h
  ·split at h
   ·rename_i c r' _
    split at h
    ·rename_i hc
     have hc:c=40:=UInt8.toNat_inj.mp hc
     obtain⟨l,g1,g2,g3,g4,g5⟩:=yH (k:=k) (fun s e r h=>BL k s e r h) _ _ _ _ _ h trivial (dP _)
     simp only[aU]at g1
     subst g1;subst hc
     refine⟨?_,⟨g2,g4⟩,by simp only[E.dp];omega⟩
     cases l with
     |nil=>exact absurd rfl g2
     |
      cons x l =>
      simp only[ei,bb,bc,List.cons.injEq,true_and]at g3
      rw[g3];simp[eY]
    ·cases h
   ·cases h
  ·rename_i hs;cases h
   exact⟨(List.takeWhile_append_dropWhile).symm,⟨hs,Ch s⟩,by simp[E.dp]⟩
theorem yp{s:List UInt8}{e:E}(h:qM s=some e):s=eY e/\e.pr/\e.dp<=300/\s.length<=8000:=by
 unfold qM at h
 split at h
 ·cases h
 ·rename_i hl
  split at h
  ·rename_i e' hr
   cases h
   have:=BL _ _ _ _ hr
   exact⟨by simpa using this.1,this.2.1,this.2.2,by omega⟩
  ·cases h
theorem AM{k:Nat}(h:k<10):e9 (bj (48+k))=true:=by
 have:∀k:Fin 10,e9 (bj (48+k.val))=true:=by decide
 exact this ⟨k,h⟩
theorem xe:∀(n k:Nat),k<n->(dd k).all e9=true
 |0,k,h=>by omega
 |
  n+1,k,h=>by
  by_cases hk:k<10
  ·rw[eF hk,cZ,AM hk];rfl
  ·rw[fP hk]
   have:=xe n (k/10) (by omega)
   rw[List.all_append,this,cZ,AM (Nat.mod_lt k (by omega:0<10))];rfl
theorem FT(k:Nat):(E.atom (wI k)).pr:=⟨by simp,by have:=xe (k+1) k (by omega);simp only[wI,cZ,this];decide⟩
theorem mq:∀v:Vl,v.cG.pr
 | .u=>⟨by simp,by decide⟩
 | .el k=>FT k
 | .l v=>⟨by simp,⟨by simp,by decide⟩,mq v,trivial⟩
 | .r v=>⟨by simp,⟨by simp,by decide⟩,mq v,trivial⟩
 | .f v=>⟨by simp,⟨by simp,by decide⟩,mq v,trivial⟩
 | .p a b=>⟨by simp,⟨by simp,by decide⟩,mq a,mq b,trivial⟩
theorem pT:∀v:Vl,v.cG.dp<v.nodes+1
 | .u=>by simp[Vl.cG,E.dp,Vl.nodes]
 | .el k=>by simp[Vl.cG,E.dp,Vl.nodes]
 | .l v=>by have:=pT v;simp only[Vl.cG,E.dp,E.uM,Vl.nodes]at *;omega
 | .r v=>by have:=pT v;simp only[Vl.cG,E.dp,E.uM,Vl.nodes]at *;omega
 | .f v=>by have:=pT v;simp only[Vl.cG,E.dp,E.uM,Vl.nodes]at *;omega
 | .p a b=>by have:=pT a;have:=pT b;simp only[Vl.cG,E.dp,E.uM,Vl.nodes]at *;omega
theorem Eb(k:Nat)(h:k<100):(dd k).length<=2:=by
 by_cases hk:k<10
 ·rw[eF hk];simp
 ·rw[fP hk,eF (by omega:k/10<10)];simp
theorem kF:∀v:Vl,v.ic 100->v.cM.length<=5*v.nodes
 | .u,_=>by simp[Vl.cM,Vl.cG,eY,Vl.nodes]
 |
  .el k,h=>by
  have:=Eb k h
  simp only[Vl.cM,Vl.cG,eY,Vl.nodes,az];omega
 | .l v,h=>by have:=kF v h;simp only[Vl.cM,Vl.cG,eY,ei,Vl.nodes,az,an,aH]at this |-;omega
 | .r v,h=>by have:=kF v h;simp only[Vl.cM,Vl.cG,eY,ei,Vl.nodes,az,an,aH]at this |-;omega
 | .f v,h=>by have:=kF v h;simp only[Vl.cM,Vl.cG,eY,ei,Vl.nodes,az,an,aH]at this |-;omega
 | .p a b,h=>by have:=kF a h.1;have:=kF b h.2;simp only[Vl.cM,Vl.cG,eY,ei,Vl.nodes,az,an,aH]at *;omega
theorem H4(k:Nat):wI k≠[117]:=by simp[wI]
theorem ki:∀v:Vl,v.ic 100->fL v.cG=some v
 | .u,_=>by simp[Vl.cG,fL]
 | .el k,h=>by simp only[Vl.cG,fL,H4,if_false,vY k h]
 | .l v,h=>by simp only[Vl.cG,fL,ki v h,E.at];simp
 | .r v,h=>by simp only[Vl.cG,fL,ki v h,E.at];simp
 | .f v,h=>by simp only[Vl.cG,fL,ki v h,E.at];simp
 | .p a b,h=>by simp only[Vl.cG,fL,ki a h.1,ki b h.2,E.at];simp
theorem qF{v:Vl}(h:v.ic 100)(hn:v.nodes<=200):se v.cM=some v:=by
 have hd:=pT v
 have hl:=kF v h
 rw[se,Fl (mq v) (by omega) (by show v.cM.length<=8000;omega)]
 simp only[ki v h]
 rw[if_neg (by omega)]
theorem tV{v w:Vl}(h:v.ic 100)(h':w.ic 100)(ht:v.cM=w.cM):v=w:=by
 have:=Bb (mq v) (mq w) ht
 have a:=ki v h
 rw[this,ki w h']at a;cases a;rfl
theorem qL{s:List UInt8}{v:Vl}(h:se s=some v):s=v.cM:=(yp (lq h).1).1
end Go.Proofs.Trees
namespace Go.Proofs.Trees
open Go Go.VL Go.RowKit
theorem bJ(l:List E):(E.list l).at=[]:=rfl
def cW:Ty->Vl->Vl->Vl
 | .plus a _,.l c,v=>.l (cW a c v)
 | .plus _ b,.r c,v=>.r (cW b c v)
 | .times a _,.l (.p x y),v=>.p (cW a x v) y
 | .times _ b,.r (.p x y),v=>.p x (cW b y v)
 | .rc a,.f (.l x),v=>.f (cW a x v)
 | .rc a,.f (.r (.p x y)),v=>.f (cW a x (cW (.rc a) y v))
 |_,_,v=>v
def dK:Ty->Vl->Bool
 | .plus a _,.l c=>dK a c
 | .plus _ b,.r c=>dK b c
 | .times a _,.l (.p x _)=>dK a x
 | .times _ b,.r (.p _ y)=>dK b y
 | .rc a,.f (.l x)=>dK a x
 | .rc a,.f (.r (.p x y))=>dK a x&&dK (.rc a) y
 | .plus _ _,_=>false
 | .times _ _,_=>false
 | .rc _,_=>false
 |_,_=>true
theorem ss(c v:Vl):cW .zero c v=v:=by cases c<;>rfl
theorem vm(c v:Vl):cW .one c v=v:=by cases c<;>rfl
theorem kT(s:List UInt8)(c v:Vl):cW (.name s) c v=v:=by cases c<;>rfl
theorem rJ(u:Nat)(c v:Vl):cW (.bQ u) c v=v:=by cases c<;>rfl
theorem vW{a b:Ty}{c:Vl}(h:dK (.plus a b) c=true):(∃x,c=.l x/\dK a x=true)\/∃x,c=.r x/\dK b x=true:=by
 cases c<;>simp[dK]at h<;>simp[h]
theorem tq{a b:Ty}{c:Vl}(h:dK (.times a b) c=true):(∃x y,c=.l (.p x y)/\dK a x=true)\/∃x y,c=.r (.p x y)/\dK b y=true:=by
 cases c with
 |l c=>cases c<;>simp[dK]at h<;>simp[h]
 |r c=>cases c<;>simp[dK]at h<;>exact .inr ⟨_,_,rfl,h⟩
 |_=>simp[dK]at h
theorem BG{a:Ty}{c:Vl}(h:dK (.rc a) c=true):(∃x,c=.f (.l x)/\dK a x=true)\/∃x y,c=.f (.r (.p x y))/\dK a x=true/\dK (.rc a) y=true:=by
 cases c with
 |
  f c =>
  cases c with
  |l c=>simp[dK]at h;simp[h]
  |r c=>cases c<;>simp[dK]at h<;>exact .inr ⟨_,_,rfl,h⟩
  |_=>simp[dK]at h
 |_=>simp[dK]at h
theorem rI(t:Ty)(c v:Vl):(cW t c v).nodes<=c.nodes+v.nodes:=by
 induction t,c,v using cW.induct<;>simp only[cW,Vl.nodes]at*<;> omega
theorem rn(m:Nat)(t:Ty)(c v:Vl):c.ic m->v.ic m->(cW t c v).ic m:=by
 induction t,c,v using cW.induct with
 |case1 a b c v ih=>exact fun h h'=>ih h h'
 |case2 a b c v ih=>exact fun h h'=>ih h h'
 |case3 a b x y v ih=>exact fun h h'=>⟨ih h.1 h',h.2⟩
 |case4 a b x y v ih=>exact fun h h'=>⟨h.1,ih h.2 h'⟩
 |case5 a x v ih=>exact fun h h'=>ih h h'
 |case6 a x y v ih1 ih2=>exact fun h h'=>ih2 h.1 (ih1 h.2 h')
 |case7=>intro h h';simpa only[cW]using h'
def If:Hl:=(.u,.u)
end Go.Proofs.Trees
namespace Go.Proofs.Trees
open Go Go.VL Go.RowKit
theorem nY(s:Nm)(a b:E):aq Tryz.prog 121 [.agg [.v (.string (mk [])),(E.list [.atom s,a,b]).sp]] [] (bK (.v (.string (mk s)))):=uL (.atom s) [a,b]
theorem CT{e:E}(h:Wf e):∀(bd l:List Nm) (a:AV),cF a bd->bd.length+l.length+e.sz<100000->aq Tryz.prog 137 [.agg [.v (.string (mk e.at)),e.sp],a,.vec 0] [.vec 1 (bD l)] (dq (.vec 1) [.dead,.vec 1 (bD (kb e bd l))]):=by
 induction h with
 |
  @atom s hs =>
  intro bd l a ha hl
  simp only[E.sz]at hl
  refine zT _ _ _ _ ((aX _).mpr trivial) ha.1 ?_
  have hll:(bD l).length=l.length:=by simp[bD]
  simp only[Hs,dS,↓zq,zs,ac,zt,dq,kb]
  refine⟨fun _=>⟨fun h=>?_,fun h=>⟨fun h1=>?_,fun h1=>?_⟩⟩,fun h=>absurd h hs⟩
  ·rw[if_pos (.inl h)]
  ·rw[if_pos (.inr (.inl h1))]
  ·refine ai (xl bd a ha s (by omega)) ?_
   simp only[↓zq,zs,ac]
   refine⟨fun h2=>?_,fun h2=>ai (xl l _ (.of l) s (by omega)) ?_⟩
   ·rw[if_pos (.inr (.inr (.inl h2)))]
   ·simp only[↓zq,zs,ac]
    refine⟨fun h3=>?_,fun h3=>⟨⟨fun c hc=>(by simp at hc;rw[hc];rfl),by omega⟩,?_⟩⟩
    ·rw[if_pos (.inr (.inr (.inr h3)))]
    ·rw[EO,if_neg]
     rintro(q|q|q|q)
     ·exact h q
     ·exact h1 q
     ·exact h2 q
     ·exact h3 q
 |
  @plus x y hx hy i1 i2 =>
  intro bd l a ha hl
  simp only[E.sz,E.jr]at hl
  have hfl:=fY x bd l
  refine zT _ _ _ _ ((aX _).mpr trivial) ha.1 ?_
  have hP:=P3.of (.atom [43]) x y
  simp only[Hs,bJ,toNat_one,bf,↓zq,zs,ac,zt,hP.1,hP.2.1,hP.2.2.1,hP.2.2.2,aL,dq]
  refine⟨fun h=>absurd rfl h,fun _=>?_⟩
  refine ai (nY [43] x y) ?_
  simp only[↓zq,zs,ac,zt]
  refine⟨fun h=>by simp at h,fun _=>?_⟩
  repeat refine⟨by omega,?_⟩
  refine aY (i1 bd l a ha (by omega)) ?_
  simp only[↓zq,zs,ac,zt,aS,bw,Ob.es]
  repeat refine⟨by omega,?_⟩
  refine aY (i2 bd (kb x bd l) a ha (by omega)) ?_
  simp only[↓zq,zs,ac,zt,aS,bw,Ob.es]
  rw[kb,if_neg (by decide)]
 |
  @times x y hx hy i1 i2 =>
  intro bd l a ha hl
  simp only[E.sz,E.jr]at hl
  have hfl:=fY x bd l
  refine zT _ _ _ _ ((aX _).mpr trivial) ha.1 ?_
  have hP:=P3.of (.atom [42]) x y
  simp only[Hs,bJ,toNat_one,bf,↓zq,zs,ac,zt,hP.1,hP.2.1,hP.2.2.1,hP.2.2.2,aL,dq]
  refine⟨fun h=>absurd rfl h,fun _=>?_⟩
  refine ai (nY [42] x y) ?_
  simp only[↓zq,zs,ac,zt]
  refine⟨fun h=>by simp at h,fun _=>?_⟩
  repeat refine⟨by omega,?_⟩
  refine aY (i1 bd l a ha (by omega)) ?_
  simp only[↓zq,zs,ac,zt,aS,bw,Ob.es]
  repeat refine⟨by omega,?_⟩
  refine aY (i2 bd (kb x bd l) a ha (by omega)) ?_
  simp only[↓zq,zs,ac,zt,aS,bw,Ob.es]
  rw[kb,if_neg (by decide)]
 |
  @rc n y hn hy i =>
  intro bd l a ha hl
  simp only[E.sz,E.jr]at hl
  refine zT _ _ _ _ ((aX _).mpr trivial) ha.1 ?_
  have hP:=P3.of (.atom dE) (.atom n) y
  simp only[Hs,bJ,toNat_one,bf,↓zq,zs,ac,zt,hP.1,hP.2.1,hP.2.2.1,hP.2.2.2,aL,dq]
  refine⟨fun h=>absurd rfl h,fun _=>?_⟩
  refine ai (nY dE (.atom n) y) ?_
  simp only[↓zq,zs,ac,zt]
  refine⟨fun _=>?_,fun h=>absurd rfl h⟩
  repeat refine⟨by omega,?_⟩
  refine aY (wl bd a ha n (by omega)) ?_
  simp only[↓zq,zs,ac,Ob.es,aS]
  refine⟨ep _,?_⟩
  refine aY (i (bd++[n]) l _ (.of _) (by simp;omega)) ?_
  simp only[↓zq,zs,ac,aS,bw,Ob.es]
  rw[kb,if_pos (dS _)];rfl
theorem Ru(x:Nm)(u:E){e:E}(h:Wf e):aq Tryz.prog 192 [.agg [.v (.string (mk e.at)),e.sp],.v (.string (mk x)),.agg [.v (.string (mk u.at)),u.sp]] [] (bK (.agg [.v (.string (mk (rX x u e).at)),(rX x u e).sp])):=by
 induction h with
 |
  @atom s hs =>
  refine Dr _ _ _ _ _ ((aX _).mpr trivial) ((aX _).mpr trivial) ?_
  simp only[BN,dS,↓zq,zs,ac,zt,bK,rX]
  refine⟨fun _=>⟨fun h=>?_,fun h=>?_⟩,fun h=>absurd h hs⟩
  ·rw[if_pos h]
  ·rw[if_neg h];rfl
 |
  @plus a b ha hb i1 i2 =>
  refine Dr _ _ _ _ _ ((aX _).mpr trivial) ((aX _).mpr trivial) ?_
  have hP:=P3.of (.atom [43]) a b
  simp only[BN,bJ,toNat_one,bf,↓zq,zs,ac,zt,hP.1,hP.2.1,hP.2.2.1,hP.2.2.2,aL]
  refine⟨fun h=>absurd rfl h,fun _=>?_⟩
  refine ai (nY [43] a b) ?_
  simp only[↓zq,zs,ac,zt]
  refine⟨fun h=>by simp at h,fun _=>?_⟩
  refine ai (nY [43] a b) ?_
  simp only[↓zq,zs,ac,zt]
  repeat refine⟨by omega,?_⟩
  refine ai i1 ?_
  simp only[↓zq,zs,ac,zt,aL]
  repeat refine⟨by omega,?_⟩
  refine ai i2 ?_
  simp only[↓zq,zs,ac,zt,aL]
  repeat refine⟨by omega,?_⟩
  refine ai (xr _ _ _) ?_
  simp only[↓zq,zs,ac,zt,aL,vr,bJ]
  repeat refine⟨by omega,?_⟩
  exact⟨rfl,rfl⟩
 |
  @times a b ha hb i1 i2 =>
  refine Dr _ _ _ _ _ ((aX _).mpr trivial) ((aX _).mpr trivial) ?_
  have hP:=P3.of (.atom [42]) a b
  simp only[BN,bJ,toNat_one,bf,↓zq,zs,ac,zt,hP.1,hP.2.1,hP.2.2.1,hP.2.2.2,aL]
  refine⟨fun h=>absurd rfl h,fun _=>?_⟩
  refine ai (nY [42] a b) ?_
  simp only[↓zq,zs,ac,zt]
  refine⟨fun h=>by simp at h,fun _=>?_⟩
  refine ai (nY [42] a b) ?_
  simp only[↓zq,zs,ac,zt]
  repeat refine⟨by omega,?_⟩
  refine ai i1 ?_
  simp only[↓zq,zs,ac,zt,aL]
  repeat refine⟨by omega,?_⟩
  refine ai i2 ?_
  simp only[↓zq,zs,ac,zt,aL]
  repeat refine⟨by omega,?_⟩
  refine ai (xr _ _ _) ?_
  simp only[↓zq,zs,ac,zt,aL,sX,bJ]
  repeat refine⟨by omega,?_⟩
  exact⟨rfl,rfl⟩
 |
  @rc n b hn hb i =>
  refine Dr _ _ _ _ _ ((aX _).mpr trivial) ((aX _).mpr trivial) ?_
  have hP:=P3.of (.atom dE) (.atom n) b
  simp only[BN,bJ,toNat_one,bf,↓zq,zs,ac,zt,hP.1,hP.2.1,hP.2.2.1,hP.2.2.2,aL]
  refine⟨fun h=>absurd rfl h,fun _=>?_⟩
  refine ai (nY dE (.atom n) b) ?_
  simp only[↓zq,zs,ac,zt]
  refine⟨fun _=>?_,fun h=>absurd rfl h⟩
  repeat refine⟨by omega,?_⟩
  rw[Bw]
  refine⟨fun h=>?_,fun h=>?_⟩
  ·have hh:n=x:=h
   rw[if_pos hh];exact⟨rfl,rfl⟩
  ·have hh:¬n=x:=h
   rw[if_neg hh]
   repeat refine⟨by omega,?_⟩
   refine ai i ?_
   simp only[↓zq,zs,ac,zt,aL]
   repeat refine⟨by omega,?_⟩
   refine ai (xr dE (.atom n) (rX x u b)) ?_
   simp only[↓zq,zs,ac,zt,aL,bJ]
   repeat refine⟨by omega,?_⟩
   exact⟨rfl,rfl⟩
theorem re(x:Nm){e:E}(h:Wf e):nn x e<=e.db:=by
 induction h with
 |atom hs=>simp only[nn,E.db];split<;>omega
 |plus ha hb i1 i2=>rw[rO];simp only[E.db,E.eU];omega
 |times ha hb i1 i2=>rw[pJ];simp only[E.db,E.eU];omega
 |rc hn hb i=>rw[wX];simp only[E.db,E.eU];split<;>omega
theorem OP(x:Nm){e:E}(h:Wf e):e.db<1000000->aq Tryz.prog 191 [.agg [.v (.string (mk e.at)),e.sp],.v (.string (mk x))] [] (bK (.v (.int .i64 (nn x e:Int)))):=by
 induction h with
 |
  @atom s hs =>
  intro hl
  refine DL _ _ _ ((aX _).mpr trivial) ?_
  simp only[Ce,dS,↓zq,zs,ac,zt,bK,nn]
  refine⟨fun _=>⟨fun h=>?_,fun h=>?_⟩,fun h=>absurd h hs⟩
  ·rw[if_pos h];rfl
  ·rw[if_neg h];rfl
 |
  @plus a b ha hb i1 i2 =>
  intro hl
  simp only[E.db,E.eU]at hl
  have u1:=re x ha
  have u2:=re x hb
  refine DL _ _ _ ((aX _).mpr trivial) ?_
  have hP:=P3.of (.atom [43]) a b
  simp only[Ce,bJ,toNat_one,bf,↓zq,zs,ac,zt,hP.1,hP.2.1,hP.2.2.1,hP.2.2.2,aL]
  refine⟨fun h=>absurd rfl h,fun _=>?_⟩
  refine ai (nY [43] a b) ?_
  simp only[↓zq,zs,ac,zt]
  refine⟨fun h=>by simp at h,fun _=>?_⟩
  repeat refine⟨by omega,?_⟩
  refine ai (i1 (by omega)) ?_
  simp only[↓zq,zs,ac,zt]
  repeat refine⟨by omega,?_⟩
  refine ai (i2 (by omega)) ?_
  simp only[↓zq,zs,ac,zt]
  rw[rO,wrap64 _ (by omega) (by omega)]
  exact⟨by simp,rfl⟩
 |
  @times a b ha hb i1 i2 =>
  intro hl
  simp only[E.db,E.eU]at hl
  have u1:=re x ha
  have u2:=re x hb
  refine DL _ _ _ ((aX _).mpr trivial) ?_
  have hP:=P3.of (.atom [42]) a b
  simp only[Ce,bJ,toNat_one,bf,↓zq,zs,ac,zt,hP.1,hP.2.1,hP.2.2.1,hP.2.2.2,aL]
  refine⟨fun h=>absurd rfl h,fun _=>?_⟩
  refine ai (nY [42] a b) ?_
  simp only[↓zq,zs,ac,zt]
  refine⟨fun h=>by simp at h,fun _=>?_⟩
  repeat refine⟨by omega,?_⟩
  refine ai (i1 (by omega)) ?_
  simp only[↓zq,zs,ac,zt]
  repeat refine⟨by omega,?_⟩
  refine ai (i2 (by omega)) ?_
  simp only[↓zq,zs,ac,zt]
  rw[pJ,wrap64 _ (by omega) (by omega)]
  exact⟨by simp,rfl⟩
 |
  @rc n b hn hb i =>
  intro hl
  simp only[E.db,E.eU]at hl
  refine DL _ _ _ ((aX _).mpr trivial) ?_
  have hP:=P3.of (.atom dE) (.atom n) b
  simp only[Ce,bJ,toNat_one,bf,↓zq,zs,ac,zt,hP.1,hP.2.1,hP.2.2.1,hP.2.2.2,aL]
  refine⟨fun h=>absurd rfl h,fun _=>?_⟩
  refine ai (nY dE (.atom n) b) ?_
  simp only[↓zq,zs,ac,zt]
  refine⟨fun _=>?_,fun h=>absurd rfl h⟩
  repeat refine⟨by omega,?_⟩
  rw[wX]
  refine⟨fun h=>?_,fun h=>?_⟩
  ·have hh:n=x:=h
   rw[if_pos hh];exact⟨rfl,rfl⟩
  ·have hh:¬n=x:=h
   rw[if_neg hh]
   repeat refine⟨by omega,?_⟩
   refine ai (i (by omega)) ?_
   simp only[↓zq,zs,ac,zt]
   exact⟨rfl,rfl⟩
theorem J1{x:Nm}(hx:qP x){e u:E}(h:Wf e)(hu:Wf u)(hl:e.db<=1000)(hlu:u.db<=1000):aq Tryz.prog 171 [.agg [.v (.string (mk e.at)),e.sp],.v (.string (mk x)),.agg [.v (.string (mk u.at)),u.sp]] [] (bK (.v (.bool (decide ((sub x (cR u []) (cR e [])).aE<=400))))):=by
 refine Pn _ _ _ _ _ ((aX _).mpr trivial) ((aX _).mpr trivial) ?_
 unfold Ny
 have a1:=DC e h.ok (by have:=h.sz;omega)
 have a2:=DC u hu.ok (by have:=hu.sz;omega)
 rw[di]at a1 a2
 have hle:=re x h
 have hpos:1<=u.db:=by rw[hu.db []];exact ej _
 refine ai a1 ?_
 simp only[↓zq,zs,ac,zt]
 refine ai (OP x h (by omega)) ?_
 simp only[↓zq,zs,ac,zt]
 refine ai a2 ?_
 simp only[↓zq,zs,ac,zt]
 have e1:=dX x (cR u []) (cR e [])
 have e2:=CW hx h []
 rw[if_neg (by simp)]at e2
 rw[e2,<-h.db [],<-hu.db []]at e1
 have hm:nn x e*(u.db-1)<=1000*1000:=Nat.mul_le_mul (by omega) (by omega)
 have e3:(nn x e:Int)*((u.db:Int)-1)=((nn x e*(u.db-1):Nat):Int):=by
  rw[Int.natCast_mul];congr 1;omega
 have e4:nn x e*(u.db-1)+nn x e=nn x e*u.db:=by
  rw[Nat.mul_sub,dH]
  have:=Nat.le_mul_of_pos_right (nn x e) hpos
  omega
 rw[wrap64 ((u.db:Int)-1) (by omega) (by omega),e3,wrap64 ((nn x e*(u.db-1):Nat):Int) (by omega) (by omega),wrap64 _ (by omega) (by omega)]
 refine⟨?_,rfl⟩
 congr 2
 rw[ct,decide_eq_true_eq,decide_eq_true_eq]
 omega
end Go.Proofs.Trees
namespace Go.Proofs.Trees
open Go Go.VL Go.RowKit
abbrev yO:AV:=.v (.slice none 0 0)
abbrev zE:Ob:=.cells [.v (.string (mk [])),yO]
theorem JY(s:Nm)(p a b:AV)(hp:LK.sl.has p)(F fr to:List Nm)(k:Int)(ha:cF a fr)(hb:cF b to)(hft:fr.length=to.length)(hl:fr.length<1000000):∀(i:Nat),i<=fr.length ->
 GF [a,b,.v (.int .i64 ((i:Int)-1))] [.cells [.v (.string (mk s)),p],zE,.cells [.any,.v (.int .i64 k)],.vec 1 (bD F)]
  (pN (match bN s fr i with|some u=>(2,[],[.cells [.v (.string (mk (gk to u))),yO],.cells [.any,.v (.int .i64 k)],.vec 1 (bD F)])|none=>(1,[],[.cells [.v (.string (mk s)),p],zE,.cells [.any,.v (.int .i64 k)],.vec 1 (bD F)])))
 |
  0,hi=>by
  refine M4 _ _ _ _ _ _ _ _ _ ?_
  simp only[F1,↓zq,zs,ac,ac,hp,bi]
  exact⟨ha.1,hb.1,fun h=>by omega,fun _=>rfl⟩
 |
  i+1,hi=>by
  have hlt:i<fr.length:=by omega
  have hlt':i<to.length:=by omega
  have e1:((i+1:Nat):Int)-1=(i:Int):=by omega
  rw[e1]
  refine M4 _ _ _ _ _ _ _ _ _ ?_
  simp only[F1,↓zq,zs,ac,zt,ac,hp,bi,ha.len,hb.len,ha.idx hlt,hb.idx hlt',bZ]
  refine⟨ha.1,hb.1,fun _=>⟨⟨ha.1,by omega,by omega⟩,by omega,fun h=>?_,fun h=>?_⟩,fun h=>by omega⟩
  ·refine⟨⟨hb.1,by omega,by omega⟩,by omega,?_⟩
   have hh:fr.getD i []=s:=h
   simp only[bN,hh,if_true,pN]
   have:gk to (fr.length-1-i)=to.getD i []:=by unfold gk;congr 1;omega
   rw[this]
  ·have hh:¬fr.getD i []=s:=h
   simp only[bN,hh,if_false]
   rw[wrap64 _ (by omega) (by omega)]
   exact JY s p a b hp F fr to k ha hb hft hl i (by omega)
theorem ID(a b:AV)(ha:LK.sl.has a)(hb:LK.sl.has b)(F:List Nm)(hF:F.length<100000)(t:ByteArray)(p:AV)(hp:LK.sl.has p):∀(n j:Nat),qd F n j<j+n->j+n<100000000 ->
 Hq [a,b,.v (.string (mk (tN j)))] [.cells [.any,.v (.int .i64 (j:Int))],.vec 1 (bD F),.cells [.v (.string t),p],zE] (iF 1 [a,b,.v (.string (mk (tN (qd F n j))))] [.cells [.any,.v (.int .i64 (qd F n j:Int))],.vec 1 (bD F),.cells [.v (.string t),p],zE])
 |0,j,h,_=>by simp only[qd]at h;omega
 |
  n+1,j,h,hj=>by
  refine Ra _ _ _ _ _ _ _ _ _ ?_
  simp only[KP,↓zq,zs,ac,zt,ac,hp,bi]
  refine⟨ha,hb,?_⟩
  refine ai (xl F _ (.of F) (tN j) (by omega)) ?_
  simp only[↓zq,zs,ac,zt]
  rw[qd]at h |-
  refine⟨fun hm=>?_,fun hm=>?_⟩
  ·rw[if_pos hm]at h |-
   rw[bA j (by omega)]
   refine ai (y0 (j+2) (j+1) (by omega) (by omega)) ?_
   have hd:=mI (j+2) (j+1) (by omega)
   simp only[↓zq,zs,ac,zt,bb,aU]
   refine⟨by simp[cK];omega,?_⟩
   exact ID a b ha hb F hF t p hp n (j+1) (by omega) (by omega)
  ·rw[if_neg hm]
   exact⟨rfl,rfl,rfl⟩
theorem ig(F:List Nm):∀(t:Ty) (to:List Nm) (k:Nat),k<=(gX F t to k).2/\(gX F t to k).2<=k+(F.length+1)*t.aE
 | .zero,_,k=>⟨au _,da _ _⟩
 | .one,_,k=>⟨au _,da _ _⟩
 | .name _,_,k=>⟨au _,da _ _⟩
 | .bQ _,_,k=>⟨au _,da _ _⟩
 |
  .plus a b,to,k=>by
  have h1:=ig F a to k
  have h2:=ig F b to (gX F a to k).2
  simp only[gX,Ty.aE]
  have:(F.length+1)*(1+a.aE+b.aE)=(F.length+1)+(F.length+1)*a.aE+(F.length+1)*b.aE:=by simp only[cT,dH]
  omega
 |
  .times a b,to,k=>by
  have h1:=ig F a to k
  have h2:=ig F b to (gX F a to k).2
  simp only[gX,Ty.aE]
  have:(F.length+1)*(1+a.aE+b.aE)=(F.length+1)+(F.length+1)*a.aE+(F.length+1)*b.aE:=by simp only[cT,dH]
  omega
 |
  .rc a,to,k=>by
  obtain⟨g1,g2,_,_⟩:=gx F k
  have h1:=ig F a (to++[tN (nx F k)]) (nx F k+1)
  simp only[gX,Ty.aE]
  have:(F.length+1)*(2+a.aE)=(F.length+1)*2+(F.length+1)*a.aE:=by simp only[cT]
  omega
theorem j9(l:List Nm):(bD l).length=l.length:=by simp[bD]
theorem Pz(F:List Nm)(hF:F.length<10000){e:E}(h:Wf e):∀(fr to:List Nm) (a b:AV) (k:Nat),cF a fr->cF b to->fr.length=to.length->(∀w,w∈fr->qP w)->fr.length+e.sz<10000->k+(F.length+1)*(cR e fr).aE<99000000 ->
 aq Tryz.prog 143 [.agg [.v (.string (mk e.at)),e.sp],a,b,.ref 0 0] [.cells [.vec 1,.v (.int .i64 (k:Int))],.vec 1 (bD F)] (dq (.agg [.v (.string (mk (gX F (cR e fr) to k).1.at)),(gX F (cR e fr) to k).1.sp]) [.cells [.vec 1,.v (.int .i64 ((gX F (cR e fr) to k).2:Int))],.vec 1 (bD F)]):=by
 induction h with
 |
  @atom s hs =>
  intro fr to a b k ha hb hft hfr hl hk
  simp only[E.sz]at hl
  refine DW _ _ _ _ _ _ ((aX _).mpr trivial) ha.1 hb.1 ?_
  have hz:∀c,(c=[48]\/c=[49])->bN c fr fr.length=none:=fun c hc=>(fw c fr).2 fun hm=>by
   obtain⟨h1,h2,h3⟩:=hfr c hm
   rcases hc with rfl|rfl
   ·exact h2 rfl
   ·exact h3 rfl
  have hq:gX F (cR (.atom s) fr) to k=(match bN s fr fr.length with|some u=>.atom (gk to u)|none=>.atom s,k):=by
   simp only[cR]
   by_cases h0:s=[48]
   ·rw[if_pos h0,hz s (.inl h0),h0];rfl
   ·rw[if_neg h0]
    by_cases h1:s=[49]
    ·rw[if_pos h1,hz s (.inr h1),h1];rfl
    ·rw[if_neg h1]
     cases bN s fr fr.length<;>rfl
  simp only[Cc,dS,↓zq,zs,ac,zt]
  refine⟨fun _=>⟨ha.1,?_⟩,fun h=>absurd h hs⟩
  rw[ha.len,wrap64 _ (by omega) (by omega)]
  refine fX (JY s _ a b ((aX _).mpr trivial) F fr to (k:Int) ha hb hft (by omega) fr.length (au _)) (fun ys o e=>?_) (fun ys o e=>?_)
  ·rw[hq]
   cases q:bN s fr fr.length<;>rw[q]at e<;>cases e
   simp only[↓zq,zs,ac,zt,ac,aM,bi,aX]
   exact⟨rfl,rfl⟩
  ·rw[hq]
   cases q:bN s fr fr.length<;>rw[q]at e<;>cases e
   simp only[↓zq,zs,ac,zt,ac,aM,bi]
   exact⟨rfl,rfl⟩
 |
  @plus x y hx hy i1 i2 =>
  intro fr to a b k ha hb hft hfr hl hk
  simp only[E.sz,E.jr]at hl
  rw[dJ]at hk |-
  simp only[Ty.aE]at hk
  have hm:(F.length+1)*(1+(cR x fr).aE+(cR y fr).aE)=(F.length+1)+(F.length+1)*(cR x fr).aE+(F.length+1)*(cR y fr).aE:=by simp only[cT,dH]
  have hc:=ig F (cR x fr) to k
  refine DW _ _ _ _ _ _ ((aX _).mpr trivial) ha.1 hb.1 ?_
  have hP:=P3.of (.atom [43]) x y
  simp only[Cc,bJ,toNat_one,bf,↓zq,zs,ac,zt,hP.1,hP.2.1,hP.2.2.1,hP.2.2.2,aL]
  refine⟨fun h=>absurd rfl h,fun _=>?_⟩
  refine ai (nY [43] x y) ?_
  simp only[↓zq,zs,ac,zt]
  refine⟨fun h=>by simp at h,fun _=>?_⟩
  repeat refine⟨by omega,?_⟩
  refine aY (i1 fr to a b k ha hb hft hfr (by omega) (by omega)) ?_
  simp only[↓zq,zs,ac,zt,aM,aL,aS,bw,Ob.es]
  repeat refine⟨by omega,?_⟩
  refine ai (nY [43] x y) ?_
  simp only[↓zq,zs,ac,zt]
  repeat refine⟨by omega,?_⟩
  refine aY (i2 fr to a b _ ha hb hft hfr (by omega) (by omega)) ?_
  simp only[↓zq,zs,ac,zt,aM,aL,aS,bw,Ob.es]
  repeat refine⟨by omega,?_⟩
  refine ai (xr _ _ _) ?_
  simp only[↓zq,zs,ac,zt,aL,bJ]
  repeat refine⟨by omega,?_⟩
  exact⟨rfl,rfl⟩
 |
  @times x y hx hy i1 i2 =>
  intro fr to a b k ha hb hft hfr hl hk
  simp only[E.sz,E.jr]at hl
  rw[dr]at hk |-
  simp only[Ty.aE]at hk
  have hm:(F.length+1)*(1+(cR x fr).aE+(cR y fr).aE)=(F.length+1)+(F.length+1)*(cR x fr).aE+(F.length+1)*(cR y fr).aE:=by simp only[cT,dH]
  have hc:=ig F (cR x fr) to k
  refine DW _ _ _ _ _ _ ((aX _).mpr trivial) ha.1 hb.1 ?_
  have hP:=P3.of (.atom [42]) x y
  simp only[Cc,bJ,toNat_one,bf,↓zq,zs,ac,zt,hP.1,hP.2.1,hP.2.2.1,hP.2.2.2,aL]
  refine⟨fun h=>absurd rfl h,fun _=>?_⟩
  refine ai (nY [42] x y) ?_
  simp only[↓zq,zs,ac,zt]
  refine⟨fun h=>by simp at h,fun _=>?_⟩
  repeat refine⟨by omega,?_⟩
  refine aY (i1 fr to a b k ha hb hft hfr (by omega) (by omega)) ?_
  simp only[↓zq,zs,ac,zt,aM,aL,aS,bw,Ob.es]
  repeat refine⟨by omega,?_⟩
  refine ai (nY [42] x y) ?_
  simp only[↓zq,zs,ac,zt]
  repeat refine⟨by omega,?_⟩
  refine aY (i2 fr to a b _ ha hb hft hfr (by omega) (by omega)) ?_
  simp only[↓zq,zs,ac,zt,aM,aL,aS,bw,Ob.es]
  repeat refine⟨by omega,?_⟩
  refine ai (xr _ _ _) ?_
  simp only[↓zq,zs,ac,zt,aL,bJ]
  repeat refine⟨by omega,?_⟩
  exact⟨rfl,rfl⟩
 |
  @rc n y hn hy i =>
  intro fr to a b k ha hb hft hfr hl hk
  simp only[E.sz,E.jr]at hl
  rw[ff]at hk |-
  simp only[Ty.aE,dS]at hk
  have hm:(F.length+1)*(2+(cR y (fr++[n])).aE)=(F.length+1)*2+(F.length+1)*(cR y (fr++[n])).aE:=by simp only[cT]
  have hc:=ig F (cR y (fr++[n])) (to++[tN (nx F k)]) (nx F k+1)
  obtain⟨g1,g2,_,_⟩:=gx F k
  refine DW _ _ _ _ _ _ ((aX _).mpr trivial) ha.1 hb.1 ?_
  have hP:=P3.of (.atom dE) (.atom n) y
  simp only[Cc,bJ,toNat_one,bf,↓zq,zs,ac,zt,hP.1,hP.2.1,hP.2.2.1,hP.2.2.2,aL]
  refine⟨fun h=>absurd rfl h,fun _=>?_⟩
  refine ai (nY dE (.atom n) y) ?_
  simp only[↓zq,zs,ac,zt]
  refine⟨fun _=>?_,fun h=>absurd rfl h⟩
  refine ai (y0 (k+1) k (by omega) (by omega)) ?_
  have hd:=mI (k+1) k (by omega)
  simp only[↓zq,zs,ac,zt,bb,aU]
  refine⟨by simp[cK];omega,?_⟩
  refine cB (ID a b ha.1 hb.1 F (by omega) (mk []) _ ((aX _).mpr trivial) (F.length+1) k (by show nx F k<_;omega) (by omega)) ?_
  simp only[↓zq,zs,ac,zt,ac,aM,bi,aX,ha.1,hb.1,hP.1,hP.2.1,hP.2.2.1,hP.2.2.2,toNat_one,bf,aL]
  repeat refine⟨by omega,?_⟩
  have hnx:qd F (F.length+1) k=nx F k:=rfl
  rw[hnx]
  refine aY (wl fr a ha n (by omega)) ?_
  simp only[↓zq,zs,ac,zt,Ob.es,aS]
  refine⟨ep _,?_⟩
  refine aY (wl to b hb (tN (nx F k)) (by omega)) ?_
  simp only[↓zq,zs,ac,zt,Ob.es,aS]
  refine⟨ep _,?_⟩
  rw[bA (nx F k) (by omega)]
  have hmk:=xr dE (.atom (tN (nx F k))) (gX F (cR y (fr++[n])) (to++[tN (nx F k)]) (nx F k+1)).1
  simp only[dS]at hmk
  refine aY (i (fr++[n]) (to++[tN (nx F k)]) _ _ (nx F k+1) (.of _) (.of _) (by simp[hft]) (fun w hw=>by
   rcases aN.1 hw with hw|hw
   ·exact hfr w hw
   ·simp only[aV]at hw;rw[hw];exact hn) (by simp;omega) (by omega)) ?_
  simp only[↓zq,zs,ac,zt,aM,aL,aS,bw,Ob.es]
  repeat refine⟨by omega,?_⟩
  refine ai hmk ?_
  simp only[↓zq,zs,ac,zt,aL,bJ]
  repeat refine⟨by omega,?_⟩
  exact⟨rfl,rfl⟩
theorem xj(l r:List Nm):bD (l++r)=bD l++bD r:=by simp[bD]
def rj(os:List E):List Nm:=os.flatMap fun o=>kb o [] []
theorem uV{os:List E}{i:Nat}(h:i<os.length):(E.bu os).getD i []=[.v (.string (mk (os[i]).at)),(os[i]).sp]:=by
 have:∀(os:List E) (i:Nat) (h:i<os.length),(E.bu os).getD i []=(os[i]).ik:=by
  intro os
  induction os with
  |nil=>intro i h;simp at h
  |
   cons o os ih =>
   intro i h
   cases i with
   |zero=>simp[E.bu]
   |succ i=>simpa[E.bu]using ih i (by simpa using h)
 rw[this os i h,fI]
theorem zQ(os:List E){i:Nat}(h:i<os.length):rj (os.drop i)=kb (os[i]) [] []++rj (os.drop (i+1)):=by
 unfold rj;rw[aW h,List.flatMap_cons]
theorem J7(a:AV)(os:List E)(ha:LK.sl.has a/\a.aP=E.bu os)(ho:∀o,o∈os->Wf o/\o.sz<5000)(hl:os.length<100)(t:ByteArray)(p:AV)(hp:LK.sl.has p):∀(k i:Nat) (F:List Nm),i+k=os.length->F.length<=5000+5000*i ->
 GN [a,.v (.int .i64 (i:Int))] [.cells [.v (.string t),p],zE,.vec 1 (bD F)] (iF 1 [] [.cells [.v (.string t),p],zE,.vec 1 (bD (F++rj (os.drop i)))])
 |
  0,i,F,hi,hF=>by
  refine Nf _ _ _ _ _ _ _ ?_
  have:i=os.length:=by omega
  subst this
  simp only[Hu,↓zq,zs,ac,zt,ac,hp,bi,ha.1,ha.2,dY,List.drop_length]
  exact⟨fun h=>by omega,fun _=>by simp[iF,rj]⟩
 |
  k+1,i,F,hi,hF=>by
  have hlt:i<os.length:=by omega
  obtain⟨hw,hsz⟩:=ho _ (bF hlt)
  have hfl:=fY (os[i]) [] []
  refine Nf _ _ _ _ _ _ _ ?_
  simp only[Hu,↓zq,zs,ac,zt,ac,hp,bi,ha.1,ha.2,dY,uV hlt,aL,bZ]
  refine⟨fun _=>?_,fun h=>by omega⟩
  repeat refine⟨by omega,?_⟩
  have hfre:=CT hw [] [] (.sl []) (.of []) (by simp;omega)
  refine aY hfre ?_
  simp only[↓zq,zs,ac,zt,aS,bw,Ob.es,j9,<-xj]
  rw[bA i (by omega),zQ os hlt,<-bc]
  simp only[aH,aZ]at hfl
  refine⟨⟨kk _,by omega⟩,?_⟩
  exact J7 a os ha ho hl t p hp k (i+1) _ (by omega) (by simp;omega)
def Ap(e:E)(os:List E):List Nm:=kb e [] []++rj os
def zM(e:E)(os:List E):E:=(gX (Ap e os) (cR e []) [] 0).1
theorem DH{e:E}{os:List E}(h:e.sz<=2000)(ho:∀o,o∈os->Wf o/\o.sz<=2000)(hl:os.length<=2):(Ap e os).length<=6000:=by
 have h1:=fY e [] []
 have h2:∀(l:List E),(∀o,o∈l->o.sz<=2000)->(rj l).length<=2000*l.length:=by
  intro l
  induction l with
  |nil=>intro _;simp[rj]
  |
   cons o l ih =>
   intro hl
   have:=ih fun q hq=>hl q (al _ hq)
   have:=hl o ak
   have:=fY o [] []
   simp only[rj,List.flatMap_cons,an,az,aH]at *
   omega
 have:=h2 os fun o ho'=>(ho o ho').2
 simp only[Ap,an,aH]at *
 omega
theorem CU{e:E}(h:Wf e)(a:AV)(os:List E)(ha:LK.sl.has a/\a.aP=E.bu os)(he:e.sz<=2000)(ho:∀o,o∈os->Wf o/\o.sz<=2000)(hl:os.length<=2) :
 aq Tryz.prog 106 [.agg [.v (.string (mk e.at)),e.sp],a] [] (bK (.agg [.v (.string (mk (zM e os).at)),(zM e os).sp])):=by
 refine OQ _ _ _ ((aX _).mpr trivial) ha.1 ?_
 unfold Jk
 have hfl:=fY e [] []
 simp only[aH,aZ]at hfl
 have hap:=DH he ho hl
 have hats:(cR e []).aE<=2000:=by
  rw[<-h.db []]
  have:e.db<=e.sz:=by
   clear hap hfl ha he ho hl
   induction h with
   |atom _=>simp[E.db,E.sz]
   |plus _ _ i1 i2=>simp only[E.db,E.eU,E.sz,E.jr];omega
   |times _ _ i1 i2=>simp only[E.db,E.eU,E.sz,E.jr];omega
   |rc _ _ i=>simp only[E.db,E.eU,E.sz,E.jr];omega
  omega
 have hfre:=CT h [] [] (.sl []) (.of []) (by simp;omega)
 simp only[↓zq,zs,ac,zt]
 refine aY hfre ?_
 simp only[↓zq,zs,ac,zt,aS,bw,Ob.es]
 have hlp:=J7 a os ha (fun o hq=>⟨(ho o hq).1,by have:=(ho o hq).2;omega⟩) (by omega) (mk e.at) e.sp ((aX _).mpr trivial) os.length 0 (kb e [] []) (by omega) (by omega)
 rw[bh]at hlp
 refine cB hlp ?_
 simp only[↓zq,zs,ac,zt,ac,aM,bi,aX,aS,bw,Ob.es]
 have hmul:((Ap e os).length+1)*(cR e []).aE<=6001*2000:=Nat.mul_le_mul (by omega) hats
 have hren:=Pz (Ap e os) (by omega) h [] [] (.sl []) (.sl []) 0 (.of []) (.of []) rfl (fun w hw=>by cases hw) (by simp;omega) (by omega)
 refine aY hren ?_
 simp only[↓zq,zs,ac,zt,aM,aL]
 repeat refine⟨by omega,?_⟩
 exact⟨rfl,rfl⟩
end Go.Proofs.Trees
namespace Go.Proofs.Trees
open Go Go.VL Go.RowKit
def fU(t:Ty):Prop:=jv t 0/\∀y,bn y t=true->qP y
theorem gA:∀(t:Ty) {i j:Nat},jv t i->i<=j->jv t j
 | .bQ u,i,j,h,hj=>Nat.lt_of_lt_of_le h hj
 | .plus a b,i,j,h,hj=>⟨gA a h.1 hj,gA b h.2 hj⟩
 | .times a b,i,j,h,hj=>⟨gA a h.1 hj,gA b h.2 hj⟩
 | .rc a,i,j,h,hj=>gA (i:=i+1) (j:=j+1) a h (by omega)
 | .zero,_,_,_,_=>trivial
 | .one,_,_,_,_=>trivial
 | .name _,_,_,_,_=>trivial
theorem gG(x:Nm):∀(t:Ty) {i:Nat},jv t (i+1)->jv (dB (.name x) t i) i
 |
  .bQ u,i,h=>by
  simp only[dB]
  split
  ·trivial
  ·have:u<i+1:=h
   show u<i;omega
 | .plus a b,i,h=>⟨gG x a h.1,gG x b h.2⟩
 | .times a b,i,h=>⟨gG x a h.1,gG x b h.2⟩
 | .rc a,i,h=>gG x (i:=i+1) a h
 | .zero,_,_=>trivial
 | .one,_,_=>trivial
 | .name _,_,_=>trivial
theorem kA{x:Nm}{u:Ty}(hu:jv u 0):∀(t:Ty) {i:Nat},jv t i->jv (sub x u t) i
 | .name s,i,_=>by simp only[sub];split;exact gA u hu (dP _);trivial
 | .plus a b,i,h=>⟨kA hu a h.1,kA hu b h.2⟩
 | .times a b,i,h=>⟨kA hu a h.1,kA hu b h.2⟩
 | .rc a,i,h=>kA hu (i:=i+1) a h
 | .zero,_,_=>trivial
 | .one,_,_=>trivial
 | .bQ _,_,h=>h
theorem Dv.lc{t d:Ty}{s:Nm}(h:Dv t s d):jv t 0->jv d 0:=by
 induction h with
 |zero s=>exact fun _=>trivial
 |one s=>exact fun _=>trivial
 |bQ k s=>exact fun _=>trivial
 |hit s=>exact fun _=>trivial
 |qn h=>exact fun _=>trivial
 |plus h1 h2 hl i1 i2=>exact fun h=>⟨i1 h.1,i2 h.2⟩
 |times h1 h2 hl i1 i2=>exact fun h=>⟨⟨i1 h.1,h.2⟩,h.1,i2 h.2⟩
 |
  rc x hx hs h1 h2 hl i1 i2 =>
  intro h
  have g1:=kA (x:=x) h _ (i1 (gG x _ h))
  have g2:=kA (x:=x) h _ (i2 (gG x _ h))
  exact⟨gA _ g1 (by omega),gA _ g2 (by omega),Nat.zero_lt_one⟩
theorem Wf.qt{e:E}(h:Wf e):fU (cR e []):=⟨tF h [],fun y hy=>(na h [] y hy).1⟩
theorem fU.dv{t d:Ty}{s:Nm}(g:fU t)(h:Dv t s d):fU d:=⟨h.lc g.1,fun y hy=>g.2 y (h.names y hy)⟩
theorem fU.tree{t:Ty}(g:fU t):∃e,Wf e/\cR e []=t:=by
 obtain⟨h1,h2,_⟩:=kC (bM t []) t [] 0 (.nil _ _) g.1 fun y hy=>⟨(eQ t [] y).2 (.inr hy),g.2 y hy⟩
 exact⟨_,h1,h2⟩
theorem fU.sub{x:Nm}{u t:Ty}(hu:fU u)(ht:fU t):fU (sub x u t):=⟨kA hu.1 t ht.1,fun y hy=>by
 rcases jf t hy with h|h
 ·exact hu.2 y h
 ·exact ht.2 y h.2⟩
def kX(o:Option Ty):AV->List Ob->Prop:=fun r ob=>ob=[]/\∃(c:Nm) (d:AV),LK.sl.has d/\r=.cD [.agg [.v (.string (mk c)),d],.v (.bool o.isSome)]/\∀t,o=some t->∃e,Wf e/\cR e []=t/\c=e.at/\d=e.sp
theorem kX.ne{o:Option Ty}(h:∀t,o=some t->fU t):∃r ob,kX o r ob:=by
 cases o with
 |none=>exact⟨_,_,rfl,[],yO,(bi).mpr trivial,rfl,fun t h=>by cases h⟩
 |
  some t =>
  obtain⟨e,h1,h2⟩:=(h t rfl).tree
  exact⟨_,_,rfl,e.at,e.sp,(aX _).mpr trivial,rfl,fun t' h'=>by cases h';exact⟨e,h1,h2,rfl,rfl⟩⟩
theorem kX.of{e:E}(h:Wf e):kX (some (cR e [])) (.cD [.agg [.v (.string (mk e.at)),e.sp],.v (.bool true)]) [] :=
 ⟨rfl,e.at,e.sp,(aX _).mpr trivial,rfl,fun t h'=>by cases h';exact⟨e,h,rfl,rfl,rfl⟩⟩
theorem kX.no(c:Nm)(d:AV)(hd:LK.sl.has d):kX none (.cD [.agg [.v (.string (mk c)),d],.v (.bool false)]) [] :=
 ⟨rfl,c,d,hd,rfl,fun t h'=>by cases h'⟩
theorem gC{c:ByteArray}{d:AV}(h:LK.sl.has d):bH [.str,.sl] [.v (.string c),d] 0=True:=by simp[bH,dW,h]
theorem w7{e:E}{os:List E}(h:Wf e):Wf (zM e os)/\cR (zM e os) []=cR e []/\tG (·∉Ap e os) (zM e os):=by
 obtain⟨h1,h2,_,_,h5⟩:=kC (Ap e os) (cR e []) [] 0 (.nil _ _) (tF h []) fun y hy=>⟨aC _ ((lS h [] [] y).2 (.inr hy)),(na h [] y hy).1⟩
 exact⟨h1,h2,h5⟩
theorem sc{os:List E}{o:E}(ho:o∈os)(hw:Wf o){y:Nm}(hy:bn y (cR o [])=true):y∈rj os :=
 List.mem_flatMap.2 ⟨o,ho,(lS hw [] [] y).2 (.inr hy)⟩
theorem rb{s:Nm}(hs:qP s):cR (.atom s) []=.name s:=jb hs (by simp)
theorem L7{x:Nm}(hx:qP x){e u:E}(h:Wf e)(hu:Wf u)(hl:e.db<=400)(hlu:u.db<=400):∃g,Wf g/\cR g []=sub x (cR u []) (cR e [])/\aq Tryz.prog 172 [.agg [.v (.string (mk e.at)),e.sp],.v (.string (mk x)),.agg [.v (.string (mk u.at)),u.sp]] [] (bK (.agg [.v (.string (mk g.at)),g.sp])):=by
 obtain⟨w1,w2,w3⟩:=w7 (os:=[u,.atom x]) h
 have hap:tG (fun n=>n≠x/\bn n (cR u [])=false) (zM e [u,.atom x]):=BD (fun n hn=>⟨fun e1=>hn (by
  subst e1
  exact aB _ (sc (o:=.atom n) (by simp) (.atom hx.1) (by rw[rb hx];simp[bn]))),by
  cases q:bn n (cR u [])with
  |false=>rfl
  |true=>exact absurd (aB _ (sc (o:=u) (by simp) hu q)) hn⟩) w1 w3
 obtain⟨p1,p2⟩:=DI hx hu w1 hap [] (by simp) (fun y hy=>by cases hy)
 refine⟨_,p1,by rw[p2,w2],?_⟩
 refine P7 _ _ _ _ _ ((aX _).mpr trivial) ((aX _).mpr trivial) ?_
 unfold I1
 have s1:=h.sz
 have s2:=hu.sz
 have hA:=CU h (.sl [[.v (.string (mk u.at)),u.sp],[.v (.string (mk x)),yO]]) [u,.atom x] ⟨(cg _).mpr trivial,by simp only[fE,E.bu,fI];rfl⟩ (by omega) (fun o ho=>by
  simp only[aJ,List.not_mem_nil,or_false]at ho
  rcases ho with rfl|rfl
  ·exact⟨hu,by omega⟩
  ·exact⟨.atom hx.1,by simp[E.sz]⟩) (by simp)
 refine ai hA ?_
 simp only[↓zq,zs,ac,zt,aL]
 repeat refine⟨by omega,?_⟩
 refine ai (Ru x u w1) ?_
 simp only[↓zq,zs,ac,zt,aL]
 repeat refine⟨by omega,?_⟩
 exact⟨rfl,rfl⟩
theorem Gd{x:Nm}(hx:qP x){e u:E}(h:Wf e)(hu:Wf u)(hl:e.db<=400)(hlu:u.db<=400):aq Tryz.prog 167 [.agg [.v (.string (mk e.at)),e.sp],.v (.string (mk x)),.agg [.v (.string (mk u.at)),u.sp]] [] (kX (nv (sub x (cR u []) (cR e [])))):=by
 refine Pw _ _ _ _ _ ((aX _).mpr trivial) ((aX _).mpr trivial) ?_
 unfold Jg
 refine ai (J1 hx h hu (by omega) (by omega)) ?_
 simp only[↓zq,zs,ac,zt]
 refine⟨fun hn=>?_,fun hy=>?_⟩
 ·rw[show nv (sub x (cR u []) (cR e []))=none by unfold nv;rw[if_neg hn]]
  exact kX.no _ _ ((aX _).mpr trivial)
 ·rw[show nv (sub x (cR u []) (cR e []))=some (sub x (cR u []) (cR e [])) by unfold nv;rw[if_pos hy]]
  obtain⟨g,g1,g2,g3⟩:=L7 hx h hu hl hlu
  refine ai g3 ?_
  simp only[↓zq,zs,ac,zt,aL]
  repeat refine⟨by omega,?_⟩
  rw[<-g2]
  exact kX.of g1
end Go.Proofs.Trees
namespace Go.Proofs.Trees
open Go Go.VL Go.RowKit
def qa(l:List UInt8):List (List AV):=l.map fun(x:UInt8)=>[.v (.int .u8 (x.toNat:Int))]
structure sf(b:AV)(l:List UInt8):Prop where
 has:LK.sl.has b
 el:b.aP=qa l
 len:l.length<=2000
theorem sf.ln{b:AV}{l:List UInt8}(h:sf b l):b.aP.length=l.length:=by rw[h.el];simp[qa]
theorem sf.get{b:AV}{l:List UInt8}(h:sf b l){i:Nat}(hi:i<l.length):b.aP.getD i []=[.v (.int .u8 ((l[i]).toNat:Int))]:=by rw[h.el];simp[qa,aa,hi]
def eX(b:AV)(p c:Nat)(X:AV->Prop):AV->List Ob->Prop:=fun r o=>∃q:Nat,p<=q/\q<=p+c/\X r/\o=[.cells [b,.v (.int .i64 (q:Int))]]
theorem eX.ne{b:AV}{p c:Nat}{X:AV->Prop}{r:AV}(h:X r):∃r o,eX b p c X r o:=⟨r,_,p,au _,da _ _,h,rfl⟩
theorem D3{a b:Int}(ha:0<=a)(hb:0<=b)(ha':a<9223372036854775808)(hb':b<9223372036854775808):∃W:Nat,Av .i64 a b=(W:Int):=by
 obtain⟨x,rfl⟩:∃x:Nat,a=(x:Int):=⟨a.toNat,by omega⟩
 obtain⟨y,rfl⟩:∃y:Nat,b=(y:Int):=⟨b.toNat,by omega⟩
 have e1:(BitVec.ofInt 64 (x:Int)).toNat=x:=by simp;omega
 have e2:(BitVec.ofInt 64 (y:Int)).toNat=y:=by simp;omega
 have hlt:x ^^^ y<2 ^ 63:=Nat.xor_lt_two_pow (by omega) (by omega)
 refine⟨x ^^^ y,?_⟩
 unfold Av
 have e3:(BitVec.ofInt (IntKind.bits .i64) (x:Int) ^^^ BitVec.ofInt (IntKind.bits .i64) (y:Int)).toNat=x ^^^ y:=by
  show (BitVec.ofInt 64 (x:Int) ^^^ BitVec.ofInt 64 (y:Int)).toNat=_
  rw[BitVec.toNat_xor,e1,e2]
 rw[e3,VL.wrap64]<;>omega
theorem ym(a b:Nat):Int.tdiv (a:Int) (b:Int)=((a/b:Nat):Int):=(Int.ofNat_tdiv a b).symm
theorem qG(a b:Nat):dG (a:Int) (b:Int)=((a%b:Nat):Int):=(Int.ofNat_tmod a b).symm
theorem vM(n:Nat)(h:n<9223372036854775808):IntKind.wrap .i64 (n:Int)=(n:Int):=VL.wrap64 _ (by omega) (by omega)
def Ej(n:Nat):AV->Prop:=fun r=>∃k:Nat,r=.v (.int .i64 (k:Int))/\(1<=n->k<n)/\k<=n
abbrev qi:Nat:=1000000000000000
theorem vI(b:AV)(l:List UInt8)(hb:sf b l)(p n:Nat)(hp:p<2*qi)(hn:n<qi):aq Tryz.prog 81 [.ref 0 0,.v (.int .i64 (n:Int))] [.cells [b,.v (.int .i64 (p:Int))]] (eX b p 1 (Ej n)):=by
 refine QW _ _ _ hb.has ?_
 have e1:IntKind.wrap .i64 ((p:Int)+1)=((p+1:Nat):Int):=by rw[VL.wrap64]<;>simp[qi]at hp<;>omega
 have e2:IntKind.wrap .i64 (((p+1:Nat):Int)-1)=(p:Int):=by rw[VL.wrap64]<;>simp[qi]at hp<;>omega
 have fin:∀k:Nat,(1<=n->k<n)->k<=n->eX b p 1 (Ej n) (.v (.int .i64 (k:Int))) [.cells [b,.v (.int .i64 ((p+1:Nat):Int))]]:=fun k h h'=>⟨p+1,by omega,au _,⟨k,rfl,h,h'⟩,rfl⟩
 simp only[Mq,↓zq,zs,ac,e1,e2,hb.ln,ym,qG]
 refine⟨fun h=>fin 0 (fun h'=>by omega) (dP _),fun h=>⟨hb.has,fun h0=>fin 0 (fun h'=>by omega) (dP _),fun h0=>?_⟩⟩
 have hl:0<l.length:=by omega
 have hll:=hb.len
 refine⟨hb.has,fun hlt=>?_,fun hge=>?_⟩
 ·have hlt:p<l.length:=by omega
  have hx:=(l[p]).toNat_lt
  simp only[bZ,hb.get hlt,hb.has,↓zq,zs,ac]
  rw[vM _ (by omega),qG]
  have:=fin ((l[p]).toNat%n) (fun h'=>Nat.mod_lt _ (by omega)) (Nat.le_of_lt (Nat.mod_lt _ (by omega)))
  repeat (first|exact this|refine⟨by omega,?_⟩)
 ·have h1:p%l.length<l.length:=Nat.mod_lt _ hl
  have e3:IntKind.wrap .i64 ((p:Int)*7)=((p*7:Nat):Int):=by rw[VL.wrap64]<;>simp[qi]at hp<;>omega
  have e4:IntKind.wrap .i64 (((p*7:Nat):Int)+3)=((p*7+3:Nat):Int):=by rw[VL.wrap64]<;>simp[qi]at hp<;>omega
  have h2:(p*7+3)%l.length<l.length:=Nat.mod_lt _ hl
  have hx:=(l[p%l.length]).toNat_lt
  have hy:=(l[(p*7+3)%l.length]).toNat_lt
  have hq:p/l.length<=p:=Nat.div_le_self _ _
  simp only[e3,e4,qG,bZ,hb.get h1,hb.get h2,hb.has,↓zq,zs,ac]
  generalize hxx:(l[p%l.length]).toNat=x at hx |-
  generalize hyy:(l[(p*7+3)%l.length]).toNat=y at hy |-
  generalize hqq:p/l.length=q at hq |-
  have f1:IntKind.wrap .i64 ((x:Int))=(x:Int):=vM _ (by omega)
  have f2:IntKind.wrap .i64 ((y:Int))=(y:Int):=vM _ (by omega)
  have f3:IntKind.wrap .i64 ((x:Int)*131)=((x*131:Nat):Int):=by rw[VL.wrap64]<;>omega
  have f4:IntKind.wrap .i64 ((y:Int)*1117)=((y*1117:Nat):Int):=by rw[VL.wrap64]<;>omega
  have f5:IntKind.wrap .i64 (((x*131:Nat):Int)+((y*1117:Nat):Int))=((x*131+y*1117:Nat):Int):=by rw[VL.wrap64]<;>omega
  have f6:IntKind.wrap .i64 ((p:Int)*29)=((p*29:Nat):Int):=by rw[VL.wrap64]<;>simp[qi]at hp<;>omega
  have f7:IntKind.wrap .i64 (((x*131+y*1117:Nat):Int)+((p*29:Nat):Int))=((x*131+y*1117+p*29:Nat):Int):=by rw[VL.wrap64]<;>simp[qi]at hp<;>omega
  have f8:IntKind.wrap .i64 ((q:Int))=(q:Int):=vM _ (by simp[qi]at hp;omega)
  have f9:IntKind.wrap .i64 ((q:Int)*53)=((q*53:Nat):Int):=by rw[VL.wrap64]<;>simp[qi]at hp<;>omega
  have f10:IntKind.wrap .i64 (((x*131+y*1117+p*29:Nat):Int)+((q*53:Nat):Int))=((x*131+y*1117+p*29+q*53:Nat):Int):=by rw[VL.wrap64]<;>simp[qi]at hp<;>omega
  simp only[f1,f2,f3,f4,f5,f6,f7,f8,f9,f10]
  generalize hV:x*131+y*1117+p*29+q*53=V
  have hVl:V<1000000000000000000:=by simp[qi]at hp;omega
  have f11:IntKind.wrap .i64 (Int.tdiv (V:Int) 64)=((V/64:Nat):Int):=by
   have:Int.tdiv (V:Int) 64=((V/64:Nat):Int):=ym V 64
   rw[this,vM _ (by omega)]
  rw[f11]
  obtain⟨W,hW⟩:=D3 (a:=(V:Int)) (b:=((V/64:Nat):Int)) (by omega) (by omega) (by omega) (by omega)
  rw[hW,qG]
  have:=fin (W%n) (fun h'=>Nat.mod_lt _ (by omega)) (Nat.le_of_lt (Nat.mod_lt _ (by omega)))
  repeat (first|exact this|refine⟨by omega,?_⟩)
def kO(L:List (List UInt8)):AV->Prop:=fun r=>∃s,s∈L/\r=.v (.string (mk s))
theorem DO(b:AV)(l:List UInt8)(hb:sf b l)(p:Nat)(hp:p<2*qi)(L:List (List UInt8))(a:AV)(ha:cF a L)(hL:0<L.length)(hLl:L.length<1000000):aq Tryz.prog 102 [.ref 0 0,a] [.cells [b,.v (.int .i64 (p:Int))]] (eX b p 1 (kO L)):=by
 refine O0 _ _ _ ha.1 hb.has ?_
 unfold Lj
 simp only[↓zq,zs,ac,ha.len]
 refine⟨ha.1,?_⟩
 have hpk:=vI b l hb p L.length hp (by simp[qi];omega)
 refine aQ hpk (eX.ne ⟨0,rfl,fun h=>h,dP _⟩) ?_
 rintro r o ⟨q,h1,h2,⟨k,rfl,h3,h4⟩,rfl⟩
 have hk:=h3 hL
 simp only[↓zq,zs,ac,zt,aM,hb.has,ha.idx hk,bZ]
 refine⟨⟨ha.1,by omega⟩,?_⟩
 have:eX b p 1 (kO L) (.v (.string (mk (L.getD k [])))) [.cells [b,.v (.int .i64 (q:Int))]]:=⟨q,h1,h2,⟨_,by simp[aa,hk],rfl⟩,rfl⟩
 repeat (first|exact this|refine⟨by omega,?_⟩)
def gn(n:Nat):AV->Prop:=fun r=>∃s:List UInt8,r=.v (.string (mk s))/\s.length<=n
theorem kO.cM{L:List (List UInt8)}{n:Nat}(h:∀s,s∈L->s.length<=n){r:AV}(hr:kO L r):gn n r:=by
 obtain⟨s,h1,h2⟩:=hr;exact⟨s,h2,h s h1⟩
end Go.Proofs.Trees
namespace Go.Proofs.Trees
open Go Go.VL Go.RowKit
def j1:AV->List Ob->Prop:=fun r o=>o=[]/\∃b:Bool,r=.v (.bool b)
theorem j1.ne:∃r o,j1 r o:=⟨_,_,rfl,true,rfl⟩
theorem j1.mk(b:Bool):j1 (.v (.bool b)) []:=⟨rfl,b,rfl⟩
theorem j1.call{n:Nat}{f:Nat}{xs:List AV}{k:AV->List Ob->Tree}{Q:Nat->List AV->List Ob->Prop}(h:aq Tryz.prog f xs [] j1)(hk:∀b:Bool,eT Tryz.prog n (k (.v (.bool b)) []) Q):eT Tryz.prog n (.call f xs [] k) Q :=
 aQ h j1.ne (by rintro r o ⟨rfl,b,rfl⟩;exact hk b)
theorem L6{e:E}(h:Wf e):∀(l:List Nm) (a:AV),cF a l->l.length+e.sz<100000->aq Tryz.prog 139 [.agg [.v (.string (mk e.at)),e.sp],a] [] j1:=by
 induction h with
 |
  @atom s hs =>
  intro l a ha hl
  simp only[E.sz]at hl
  refine Ee _ _ _ ((aX _).mpr trivial) ha.1 ?_
  simp only[Cn,dS,↓zq,zs,ac]
  refine ai (Ae s _ ((aX (.atom s)).mpr trivial) hs) ?_
  simp only[↓zq,zs,ac,zt,ha.1]
  refine⟨fun h=>(by cases h),fun _=>⟨fun h=>(by cases h),fun _=>⟨fun h=>(by cases h),fun _=>⟨fun _=>.mk true,fun _=>?_⟩⟩⟩⟩
  refine ai (xl l a ha s (by omega)) ?_
  simp only[↓zq,zs,ac]
  exact .mk _
 |
  @plus x y hx hy i1 i2 =>
  intro l a ha hl
  simp only[E.sz,E.jr]at hl
  refine Ee _ _ _ ((aX _).mpr trivial) ha.1 ?_
  have hP:=P3.of (.atom [43]) x y
  simp only[Cn,bJ,toNat_one,bf,↓zq,zs,ac,zt,hP.1,hP.2.1,hP.2.2.1,hP.2.2.2,aL]
  refine ai (nY [43] x y) ?_
  simp only[↓zq,zs,ac,zt,ha.1,aL]
  refine⟨fun _=>⟨by omega,by omega,j1.call (i1 l a ha (by omega)) fun b=>?_⟩,fun h=>absurd rfl h⟩
  simp only[↓zq,zs,ac]
  refine⟨fun _=>⟨by omega,by omega,j1.call (i2 l a ha (by omega)) fun b=>?_⟩,fun _=>.mk _⟩
  simp only[↓zq,zs,ac]
  exact .mk _
 |
  @times x y hx hy i1 i2 =>
  intro l a ha hl
  simp only[E.sz,E.jr]at hl
  refine Ee _ _ _ ((aX _).mpr trivial) ha.1 ?_
  have hP:=P3.of (.atom [42]) x y
  simp only[Cn,bJ,toNat_one,bf,↓zq,zs,ac,zt,hP.1,hP.2.1,hP.2.2.1,hP.2.2.2,aL]
  refine ai (nY [42] x y) ?_
  simp only[↓zq,zs,ac,zt,ha.1,aL]
  refine⟨fun h=>(by cases h),fun _=>⟨fun _=>⟨by omega,by omega,j1.call (i1 l a ha (by omega)) fun b=>?_⟩,fun h=>absurd rfl h⟩⟩
  simp only[↓zq,zs,ac]
  refine⟨fun _=>.mk _,fun _=>⟨by omega,by omega,j1.call (i2 l a ha (by omega)) fun b=>?_⟩⟩
  simp only[↓zq,zs,ac]
  exact .mk _
 |
  @rc n b hn hb i =>
  intro l a ha hl
  simp only[E.sz,E.jr]at hl
  refine Ee _ _ _ ((aX _).mpr trivial) ha.1 ?_
  have hP:=P3.of (.atom dE) (.atom n) b
  simp only[Cn,bJ,toNat_one,bf,↓zq,zs,ac,zt,hP.1,hP.2.1,hP.2.2.1,hP.2.2.2,aL]
  refine ai (nY dE (.atom n) b) ?_
  simp only[↓zq,zs,ac,zt,ha.1,aL]
  refine⟨fun h=>(by cases h),fun _=>⟨fun h=>(by cases h),fun _=>⟨fun _=>⟨by omega,by omega,by omega,by omega,?_⟩,fun h=>absurd rfl h⟩⟩⟩
  refine aY (wl l a ha n (by omega)) ?_
  simp only[↓zq,zs,ac,zt,Ob.es,aS]
  refine⟨ep _,?_⟩
  refine j1.call (i (l++[n]) _ (.of _) (by simp;omega)) fun b=>?_
  simp only[↓zq,zs,ac]
  exact .mk _
def Q7:AV->List Ob->Prop:=fun r o=>o=[]/\∃(g:E) (b:Bool),r=.cD [.agg [.v (.string (mk g.at)),g.sp],.v (.bool b)]/\Wf g/\g.db<=400
theorem OW{n:Nm}{b:E}(hn:qP n)(hb:Wf b)(hl:(E.list [.atom dE,.atom n,b]).db<=400):aq Tryz.prog 141 [.agg [.v (.string (mk [])),(E.list [.atom dE,.atom n,b]).sp]] [] Q7:=by
 have hw:Wf (.list [.atom dE,.atom n,b]):=.rc hn hb
 refine OU _ _ ((aX _).mpr trivial) ?_
 have hP:=P3.of (.atom dE) (.atom n) b
 have hbl:b.db<=400:=by simp only[E.db,E.eU]at hl;omega
 simp only[ML,toNat_one,bf,↓zq,zs,ac,zt,hP.1,hP.2.1,hP.2.2.1,hP.2.2.2,aL]
 refine⟨by omega,by omega,by omega,by omega,?_⟩
 have hf:=J1 hn hb hw (by omega) (by omega)
 obtain⟨g,g1,g2,g3⟩:=L7 hn hb hw hbl hl
 simp only[bJ]at hf g3
 refine ai hf ?_
 simp only[↓zq,zs,ac,zt,aL]
 refine⟨fun h=>⟨rfl,_,false,rfl,hw,hl⟩,fun h=>?_⟩
 repeat refine⟨by omega,?_⟩
 refine ai g3 ?_
 simp only[↓zq,zs,ac,zt,aL]
 refine⟨rfl,g,true,rfl,g1,?_⟩
 rw[g1.db [],g2]
 simpa using h
end Go.Proofs.Trees
namespace Go.Proofs.Trees
open Go Go.VL Go.RowKit
def jX(n:Nat):AV->Prop:=fun r=>∃e:E,r=.agg [.v (.string (mk e.at)),e.sp]/\e.ok/\(eY e).length<=n
theorem jX.u(n:Nat)(h:1<=n):jX n (.agg [.v (.string (mk [117])),.v (.slice none 0 0)]):=⟨.atom [117],rfl,by simp[E.ok],by simpa[eY]using h⟩
def jT(b:AV)(d:Int)(e:E)(B C:Nat):Prop:=∀p:Nat,p+C<qi->aq Tryz.prog 105 [.ref 0 0,.agg [.v (.string (mk e.at)),e.sp],.v (.int .i64 d)] [.cells [b,.v (.int .i64 (p:Int))]] (eX b p C (jX B))
theorem jT.mono{b:AV}{d:Int}{e:E}{B C B' C':Nat}(h:jT b d e B C)(hB:B<=B')(hC:C<=C'):jT b d e B' C':=fun p hp=>aq.mono (h p (by omega)) fun r o ⟨q,h1,h2,⟨g,h3,h4,h5⟩,h6⟩=>⟨q,h1,by omega,⟨g,h3,h4,by omega⟩,h6⟩
theorem oW(b:AV)(p C B:Nat)(h:1<=B):∃r o,eX b p C (jX B) r o:=eX.ne (jX.u B h)
theorem Se(w:Nm)(e:E)(h:w.length=1):(eY (.list [.atom w,e])).length=(eY e).length+4:=by
 simp[eY,ei];omega
theorem Sg(w:Nm)(e f:E)(h:w.length=1):(eY (.list [.atom w,e,f])).length=(eY e).length+(eY f).length+5:=by
 simp[eY,ei];omega
theorem Ms{b:AV}{p q q' C B:Nat}{w:Nm}{e:E}(hw:w.length=1)(h1:p<=q)(h2:q<=p+1)(h3:q<=q')(h4:q'<=q+C)(ho:e.ok)(hl:(eY e).length<=B) :
 eX b p (C+1) (jX (B+5)) (.agg [.v (.string (mk [])),(E.list [.atom w,e]).sp]) [.cells [b,.v (.int .i64 (q':Int))]] :=
 ⟨q',by omega,by omega,⟨.list [.atom w,e],rfl,⟨by intro h;rw[h]at hw;simp at hw,ho,trivial⟩,by rw[Se w e hw];omega⟩,rfl⟩
theorem J0(b:AV)(l:List UInt8)(hb:sf b l)(d:Int){s:Nm}(hs:s≠[]):jT b d (.atom s) 5 1:=by
 intro p hp
 refine Dj _ _ _ _ _ ((aX (.atom s)).mpr trivial) hb.has ?_
 simp only[Bu,dS,↓zq,zs,ac]
 refine ai (Ae s _ ((aX (.atom s)).mpr trivial) hs) ?_
 simp only[↓zq,zs,ac,zt]
 refine⟨fun h=>(by cases h),fun _=>⟨fun h=>(by cases h),fun _=>⟨fun h=>(by cases h),fun _=>⟨fun _=>?_,fun _=>?_⟩⟩⟩⟩
 ·exact⟨p,au _,by omega,jX.u 5 (by omega),rfl⟩
 ·refine aQ (vI b l hb p 3 (by omega) (by decide)) (eX.ne ⟨0,rfl,fun h=>by omega,by omega⟩) ?_
  rintro r o ⟨q,h1,h2,⟨k,rfl,h3,h4⟩,rfl⟩
  have hk:k<3:=h3 (by omega)
  simp only[↓zq,zs,ac,aM,hb.has]
  refine ai (y0 (k+1) k (by omega) (by omega)) ?_
  have hd:dd k=[bj (48+k)]:=eF (by omega)
  simp only[↓zq,zs,ac,zt,hd]
  refine⟨by simp,q,h1,h2,⟨.atom ([101]++[bj (48+k)]),rfl,by simp[E.ok],by simp[eY]⟩,rfl⟩
theorem MD(b:AV)(l:List UInt8)(hb:sf b l)(d:Int)(hd:-100000<=d/\d<=100000){n:Nm}{e:E}(hn:qP n)(he:Wf e)(hl:(E.list [.atom dE,.atom n,e]).db<=400)(B C:Nat)(ih:-12<=d->∀g,Wf g->g.db<=400->jT b (d-1) g B C)(hB:1<=B):jT b d (.list [.atom dE,.atom n,e]) (B+5) (C+1):=by
 intro p hp
 refine Dj _ _ _ _ _ ((aX _).mpr trivial) hb.has ?_
 have ed:IntKind.wrap .i64 (d-1)=d-1:=VL.wrap64 _ (by omega) (by omega)
 simp only[Bu,bJ,↓zq,zs,ac,ed]
 refine ai (nY dE (.atom n) e) ?_
 simp only[↓zq,zs,ac,zt]
 have hu:=OW hn he hl
 refine⟨fun h=>(by cases h),fun _=>⟨fun h=>(by cases h),fun _=>⟨fun _=>?_,fun h=>absurd rfl h⟩⟩⟩
 refine aQ hu ⟨_,_,rfl,.atom [117],true,rfl,.atom (by simp),by simp[E.db]⟩ ?_
 rintro r o ⟨rfl,g,c,rfl,g1,g2⟩
 have u:eX b p (C+1) (jX (B+5)) (.agg [.v (.string (mk [117])),.v (.slice none 0 0)]) [.cells [b,.v (.int .i64 (p:Int))]]:=⟨p,au _,by omega,jX.u _ (by omega),rfl⟩
 simp only[↓zq,zs,ac,zt,aL]
 refine⟨fun _=>u,fun _=>⟨fun _=>u,fun hd2=>?_⟩⟩
 refine aQ (ih (by omega) g g1 g2 p (by omega)) (oW b p C B hB) ?_
 rintro r o ⟨q,h1,h2,⟨f,rfl,h4,h5⟩,rfl⟩
 simp only[↓zq,zs,ac,zt,aM,hb.has,aL]
 repeat refine⟨by omega,?_⟩
 refine ai (xy [102] f) ?_
 simp only[↓zq,zs,ac,zt,aM,hb.has,aL]
 have fin:=Ms (b:=b) (w:=[102]) rfl (au p) (by omega) h1 h2 h4 h5
 first|exact fin|exact⟨by omega,fin⟩
theorem Nz(b:AV)(l:List UInt8)(hb:sf b l)(d:Int)(hd:-100000<=d/\d<=100000){x y:E}(hx:Wf x)(hy:Wf y)(B1 C1 B2 C2:Nat)(ix:jT b (d-1) x B1 C1)(iy:jT b (d-1) y B2 C2)(hB:1<=B1)(hB2:1<=B2):jT b d (.list [.atom [42],x,y]) (B1+B2+5) (C1+C2+1):=by
 intro p hp
 refine Dj _ _ _ _ _ ((aX _).mpr trivial) hb.has ?_
 have ed:IntKind.wrap .i64 (d-1)=d-1:=VL.wrap64 _ (by omega) (by omega)
 have hP:=P3.of (.atom [42]) x y
 simp only[Bu,bJ,toNat_one,bf,↓zq,zs,ac,zt,hP.1,hP.2.1,hP.2.2.1,hP.2.2.2,aL,ed]
 refine ai (nY [42] x y) ?_
 simp only[↓zq,zs,ac,zt]
 refine⟨fun h=>(by cases h),fun _=>⟨fun _=>?_,fun h=>absurd rfl h⟩⟩
 refine⟨by omega,by omega,aQ (ix p (by omega)) (oW b p C1 B1 hB) ?_⟩
 rintro r o ⟨q,h1,h2,⟨f,rfl,h4,h5⟩,rfl⟩
 simp only[↓zq,zs,ac,zt,aM,hb.has,aL]
 repeat refine⟨by omega,?_⟩
 refine aQ (iy q (by omega)) (oW b q C2 B2 hB2) ?_
 rintro r o ⟨q',g1,g2,⟨g,rfl,g4,g5⟩,rfl⟩
 simp only[↓zq,zs,ac,zt,aM,hb.has,aL]
 repeat refine⟨by omega,?_⟩
 refine ai (xr [112] f g) ?_
 simp only[↓zq,zs,ac,zt,aM,hb.has,aL]
 have fin:eX b p (C1+C2+1) (jX (B1+B2+5)) (.agg [.v (.string (mk [])),(E.list [.atom [112],f,g]).sp]) [.cells [b,.v (.int .i64 (q':Int))]]:=⟨q',by omega,by omega,⟨.list [.atom [112],f,g],rfl,⟨by simp[E.ok],h4,g4,trivial⟩,by rw[Sg [112] f g rfl];omega⟩,rfl⟩
 first|exact fin|exact⟨by omega,fin⟩
theorem Kf(b:AV)(l:List UInt8)(hb:sf b l)(d:Int)(hd:-100000<=d/\d<=100000){x y:E}(hx:Wf x)(hy:Wf y)(hl:(E.list [.atom [43],x,y]).db<=400)(B C:Nat)(ix:jT b (d-1) x B C)(iy:jT b (d-1) y B C)(hB:1<=B):jT b d (.list [.atom [43],x,y]) (B+5) (C+1):=by
 intro p hp
 refine Dj _ _ _ _ _ ((aX _).mpr trivial) hb.has ?_
 have ed:IntKind.wrap .i64 (d-1)=d-1:=VL.wrap64 _ (by omega) (by omega)
 have hP:=P3.of (.atom [43]) x y
 simp only[E.db,E.eU]at hl
 have s1:=hx.sz
 have s2:=hy.sz
 simp only[Bu,bJ,toNat_one,bf,↓zq,zs,ac,zt,hP.1,hP.2.1,hP.2.2.1,hP.2.2.2,aL,ed]
 refine ai (nY [43] x y) ?_
 simp only[↓zq,zs,ac,zt]
 refine⟨fun _=>?_,fun h=>absurd rfl h⟩
 refine aQ (vI b l hb p 2 (by omega) (by decide)) (eX.ne ⟨0,rfl,fun h=>by omega,by omega⟩) ?_
 rintro r o ⟨q,h1,h2,⟨k,rfl,_,_⟩,rfl⟩
 simp only[↓zq,zs,ac,zt,aM,hb.has,aL]
 have ex:=L6 hx [] (.sl []) (.of []) (by simp;omega)
 have ey:=L6 hy [] (.sl []) (.of []) (by simp;omega)
 have ax:=DC x hx.ok (by omega)
 have ay:=DC y hy.ok (by omega)
 rw[di]at ax ay
 have lx:=ix q (by omega)
 have ly:=iy q (by omega)
 have t:=oW b q C B hB
 have leaf:∀(w:Nm) (q':Nat) (f:E),w.length=1->q<=q'->q'<=q+C->f.ok->(eY f).length<=B->eX b p (C+1) (jX (B+5)) (.agg [.v (.string (mk [])),(E.list [.atom w,f]).sp]) [.cells [b,.v (.int .i64 (q':Int))]]:=fun w q' f hw g1 g2 h4 h5=>Ms hw h1 h2 g1 g2 h4 h5
 repeat' first
  |intro _
  |refine⟨by omega,?_⟩
  |(
   with_reducible refine aQ lx t ?_
   rintro r o ⟨q',g1,g2,⟨f,rfl,h4,h5⟩,rfl⟩
   simp only[↓zq,zs,ac,zt,aM,hb.has,aL]
   repeat refine⟨by omega,?_⟩
   refine ai (xy _ f) ?_
   simp only[↓zq,zs,ac,zt,aM,hb.has,aL]
   have fin:=leaf [108] q' f rfl g1 g2 h4 h5
   first|exact fin|exact⟨by omega,fin⟩)
  |(
   with_reducible refine aQ ly t ?_
   rintro r o ⟨q',g1,g2,⟨f,rfl,h4,h5⟩,rfl⟩
   simp only[↓zq,zs,ac,zt,aM,hb.has,aL]
   repeat refine⟨by omega,?_⟩
   refine ai (xy _ f) ?_
   simp only[↓zq,zs,ac,zt,aM,hb.has,aL]
   have fin:=leaf [114] q' f rfl g1 g2 h4 h5
   first|exact fin|exact⟨by omega,fin⟩)
  |(with_reducible refine j1.call ex fun _=>?_;simp only[↓zq,zs,ac,zt,aL])
  |(with_reducible refine j1.call ey fun _=>?_;simp only[↓zq,zs,ac,zt,aL])
  |(with_reducible refine ai ax ?_;simp only[↓zq,zs,ac,zt,aL])
  |(with_reducible refine ai ay ?_;simp only[↓zq,zs,ac,zt,aL])
  |with_reducible refine aI ?_ ?_
  |(exfalso;omega)
end Go.Proofs.Trees
namespace Go.Proofs.Trees
open Go Go.VL Go.RowKit
def nr:Nat->Nat
 |0=>2
 |d+1=>2*nr d+15
def nt:Nat->Nat
 |0=>3
 |d+1=>2*nt d+8
theorem P8(d:Nat):2<=nr d:=by cases d<;>simp only[nr]<;>omega
theorem Qo(d:Nat):3<=nt d:=by cases d<;>simp only[nt]<;>omega
theorem Hb:∀d:Nat,d<=10->nr d<=100000000
 |0,_=>by decide
 |1,_=>by decide
 |2,_=>by decide
 |3,_=>by decide
 |4,_=>by decide
 |5,_=>by decide
 |6,_=>by decide
 |7,_=>by decide
 |8,_=>by decide
 |9,_=>by decide
 |10,_=>by decide
 |d+11,h=>by omega
theorem BM(b:AV)(l:List UInt8)(hb:sf b l)(p:Nat)(hp:p<2*qi):aq Tryz.prog 80 [.ref 0 0] [.cells [b,.v (.int .i64 (p:Int))]] (eX b p 1 (gn 60)):=by
 refine O9 _ _ hb.has ?_
 unfold Nq
 refine aQ (DO b l hb p hp _ _ (.of [_,_,_,_,_,_,_]) (by simp) (by simp)) (eX.ne ⟨_,ak,rfl⟩) ?_
 rintro r o ⟨q,h1,h2,hr,rfl⟩
 obtain⟨s,rfl,hs⟩:=kO.cM (n:=60) (by decide) hr
 simp only[↓zq,zs,ac,aM,hb.has]
 exact⟨q,h1,h2,⟨s,rfl,hs⟩,rfl⟩
theorem FB(b:AV)(l:List UInt8)(hb:sf b l):∀(d:Nat),d<=10->∀(p:Nat) (ls:List (List UInt8)) (a:AV),cF a ls->(∀s,s∈ls->s.length<=2)->ls.length+d<=100->p+nt d<2*qi ->
 aq Tryz.prog 136 [.ref 0 0,a,.v (.int .i64 (d:Int))] [.cells [b,.v (.int .i64 (p:Int))]] (eX b p (nt d) (gn (nr d))):=by
 intro d
 induction d with
 |
  zero =>
  intro hd p ls a ha hls hll hp
  simp only[nt]at hp
  refine Kk _ _ _ _ ha.1 hb.has ?_
  simp only[Gt,↓zq,zs,ac,ha.len]
  refine⟨fun _=>⟨ha.1,fun hpos=>?_,fun _=>?_⟩,fun h=>by omega⟩
  ·refine aQ (vI b l hb p 3 (by omega) (by decide)) (eX.ne ⟨0,rfl,fun h=>by omega,by omega⟩) ?_
   rintro r o ⟨q1,h1,h2,⟨k,rfl,h3,h4⟩,rfl⟩
   simp only[↓zq,zs,ac,aM,hb.has]
   refine⟨fun _=>⟨ha.1,?_⟩,fun _=>?_⟩
   ·refine aQ (vI b l hb q1 ls.length (by omega) (by simp[qi];omega)) (eX.ne ⟨0,rfl,fun h=>by omega,by omega⟩) ?_
    rintro r o ⟨q2,g1,g2,⟨k2,rfl,g3,g4⟩,rfl⟩
    have hk:=g3 (by omega)
    simp only[↓zq,zs,ac,aM,hb.has,bZ,ha.idx hk]
    have:eX b p (nt 0) (gn (nr 0)) (.v (.string (mk (ls.getD k2 [])))) [.cells [b,.v (.int .i64 (q2:Int))]]:=⟨q2,by omega,by simp only[nt];omega,⟨_,rfl,by
     have:=hls (ls.getD k2 []) (by simp[aa,hk]);simp only[nr];omega⟩,rfl⟩
    refine⟨⟨ha.1,by omega⟩,?_⟩
    repeat (first|exact this|refine⟨by omega,?_⟩)
   ·refine aQ (DO b l hb q1 (by omega) _ _ (.of [_,_,_,_,_,_]) (by simp) (by simp)) (eX.ne ⟨_,ak,rfl⟩) ?_
    rintro r o ⟨q2,g1,g2,hr,rfl⟩
    obtain⟨s,rfl,hs⟩:=kO.cM (n:=2) (by decide) hr
    simp only[↓zq,zs,ac,aM,hb.has]
    exact⟨q2,by omega,by simp only[nt];omega,⟨s,rfl,by simp only[nr];omega⟩,rfl⟩
  ·refine aQ (DO b l hb p (by omega) _ _ (.of [_,_,_,_,_,_]) (by simp) (by simp)) (eX.ne ⟨_,ak,rfl⟩) ?_
   rintro r o ⟨q2,g1,g2,hr,rfl⟩
   obtain⟨s,rfl,hs⟩:=kO.cM (n:=2) (by decide) hr
   simp only[↓zq,zs,ac,aM,hb.has]
   exact⟨q2,by omega,by simp only[nt];omega,⟨s,rfl,by simp only[nr];omega⟩,rfl⟩
 |
  succ d ih =>
  intro hd p ls a ha hls hll hp
  simp only[nt]at hp
  have hL:=P8 d
  have hC:=Qo d
  have ih:=ih (by omega)
  have hL8:=Hb d (by omega)
  have ed:IntKind.wrap .i64 (((d+1:Nat):Int)-1)=(d:Int):=by rw[VL.wrap64]<;>omega
  refine Kk _ _ _ _ ha.1 hb.has ?_
  simp only[Gt,↓zq,zs,ac,ha.len,ed]
  refine⟨fun h=>by omega,fun _=>?_⟩
  refine aQ (vI b l hb p 4 (by omega) (by decide)) (eX.ne ⟨0,rfl,fun h=>by omega,by omega⟩) ?_
  rintro r o ⟨q0,a1,a2,⟨k0,rfl,_,_⟩,rfl⟩
  simp only[↓zq,zs,ac,aM,hb.has]
  refine⟨fun _=>⟨ha.1,fun hpos=>?_,fun _=>?_⟩,fun _=>?_⟩
  ·refine aQ (vI b l hb q0 3 (by omega) (by decide)) (eX.ne ⟨0,rfl,fun h=>by omega,by omega⟩) ?_
   rintro r o ⟨q1,h1,h2,⟨k,rfl,h3,h4⟩,rfl⟩
   simp only[↓zq,zs,ac,aM,hb.has]
   refine⟨fun _=>⟨ha.1,?_⟩,fun _=>?_⟩
   ·refine aQ (vI b l hb q1 ls.length (by omega) (by simp[qi];omega)) (eX.ne ⟨0,rfl,fun h=>by omega,by omega⟩) ?_
    rintro r o ⟨q2,g1,g2,⟨k2,rfl,g3,g4⟩,rfl⟩
    have hk:=g3 (by omega)
    simp only[↓zq,zs,ac,aM,hb.has,bZ,ha.idx hk]
    have:eX b p (nt (d+1)) (gn (nr (d+1))) (.v (.string (mk (ls.getD k2 [])))) [.cells [b,.v (.int .i64 (q2:Int))]]:=⟨q2,by omega,by simp only[nt];omega,⟨_,rfl,by
     have:=hls (ls.getD k2 []) (by simp[aa,hk]);simp only[nr];omega⟩,rfl⟩
    refine⟨⟨ha.1,by omega⟩,?_⟩
    repeat (first|exact this|refine⟨by omega,?_⟩)
   ·refine aQ (DO b l hb q1 (by omega) _ _ (.of [_,_,_,_,_,_]) (by simp) (by simp)) (eX.ne ⟨_,ak,rfl⟩) ?_
    rintro r o ⟨q2,g1,g2,hr,rfl⟩
    obtain⟨s,rfl,hs⟩:=kO.cM (n:=2) (by decide) hr
    simp only[↓zq,zs,ac,aM,hb.has]
    exact⟨q2,by omega,by simp only[nt];omega,⟨s,rfl,by simp only[nr];omega⟩,rfl⟩
  ·refine aQ (DO b l hb q0 (by omega) _ _ (.of [_,_,_,_,_,_]) (by simp) (by simp)) (eX.ne ⟨_,ak,rfl⟩) ?_
   rintro r o ⟨q2,g1,g2,hr,rfl⟩
   obtain⟨s,rfl,hs⟩:=kO.cM (n:=2) (by decide) hr
   simp only[↓zq,zs,ac,aM,hb.has]
   exact⟨q2,by omega,by simp only[nt];omega,⟨s,rfl,by simp only[nr];omega⟩,rfl⟩
  ·refine aQ (vI b l hb q0 5 (by omega) (by decide)) (eX.ne ⟨0,rfl,fun h=>by omega,by omega⟩) ?_
   rintro r o ⟨q1,b1,b2,⟨k1,rfl,c3,_⟩,rfl⟩
   have hk1:=c3 (by omega)
   obtain rfl|rfl|rfl|rfl|rfl:k1=0\/k1=1\/k1=2\/k1=3\/k1=4:=by omega
   ·simp only[↓zq,zs,ac,aM,hb.has]
    refine⟨fun _=>?_,fun h=>absurd rfl h⟩
    refine aQ (ih q1 ls a ha hls (by omega) (by omega)) (eX.ne ⟨[],rfl,by simp⟩) ?_
    rintro r o ⟨q2,d1,d2,⟨s1,rfl,d3⟩,rfl⟩
    simp only[↓zq,zs,ac,zt,aM,hb.has,an]
    repeat refine⟨by first|omega|(simp only[an,az,aH];omega),?_⟩
    refine aQ (ih q2 ls a ha hls (by omega) (by omega)) (eX.ne ⟨[],rfl,by simp⟩) ?_
    rintro r o ⟨q3,e1,e2,⟨s2,rfl,e3⟩,rfl⟩
    simp only[↓zq,zs,ac,zt,aM,hb.has,an]
    have fin:∀s:List UInt8,s.length<=nr (d+1)->eX b p (nt (d+1)) (gn (nr (d+1))) (.v (.string (mk s))) [.cells [b,.v (.int .i64 (q3:Int))]]:=fun s hs=>⟨q3,by omega,by simp only[nt];omega,⟨s,rfl,hs⟩,rfl⟩
    repeat (first|exact fin _ (by simp only[an,az,aH,nr];omega)|refine⟨by first|omega|(simp only[an,az,aH];omega),?_⟩)
   ·simp only[↓zq,zs,ac,aM,hb.has]
    refine⟨fun h=>by omega,fun _=>⟨fun _=>?_,fun h=>absurd rfl h⟩⟩
    refine aQ (ih q1 ls a ha hls (by omega) (by omega)) (eX.ne ⟨[],rfl,by simp⟩) ?_
    rintro r o ⟨q2,d1,d2,⟨s1,rfl,d3⟩,rfl⟩
    simp only[↓zq,zs,ac,zt,aM,hb.has,an]
    repeat refine⟨by first|omega|(simp only[an,az,aH];omega),?_⟩
    refine aQ (ih q2 ls a ha hls (by omega) (by omega)) (eX.ne ⟨[],rfl,by simp⟩) ?_
    rintro r o ⟨q3,e1,e2,⟨s2,rfl,e3⟩,rfl⟩
    simp only[↓zq,zs,ac,zt,aM,hb.has,an]
    have fin:∀s:List UInt8,s.length<=nr (d+1)->eX b p (nt (d+1)) (gn (nr (d+1))) (.v (.string (mk s))) [.cells [b,.v (.int .i64 (q3:Int))]]:=fun s hs=>⟨q3,by omega,by simp only[nt];omega,⟨s,rfl,hs⟩,rfl⟩
    repeat (first|exact fin _ (by simp only[an,az,aH,nr];omega)|refine⟨by first|omega|(simp only[an,az,aH];omega),?_⟩)
   ·simp only[↓zq,zs,ac,aM,hb.has]
    refine⟨fun h=>by omega,fun _=>⟨fun h=>by omega,fun _=>⟨fun _=>?_,fun h=>absurd rfl h⟩⟩⟩
    refine aQ (ih q1 ls a ha hls (by omega) (by omega)) (eX.ne ⟨[],rfl,by simp⟩) ?_
    rintro r o ⟨q2,d1,d2,⟨s1,rfl,d3⟩,rfl⟩
    simp only[↓zq,zs,ac,zt,aM,hb.has,an]
    repeat refine⟨by first|omega|(simp only[an,az,aH];omega),?_⟩
    refine aQ (ih q2 ls a ha hls (by omega) (by omega)) (eX.ne ⟨[],rfl,by simp⟩) ?_
    rintro r o ⟨q3,e1,e2,⟨s2,rfl,e3⟩,rfl⟩
    simp only[↓zq,zs,ac,zt,aM,hb.has,an]
    have fin:∀s:List UInt8,s.length<=nr (d+1)->eX b p (nt (d+1)) (gn (nr (d+1))) (.v (.string (mk s))) [.cells [b,.v (.int .i64 (q3:Int))]]:=fun s hs=>⟨q3,by omega,by simp only[nt];omega,⟨s,rfl,hs⟩,rfl⟩
    repeat (first|exact fin _ (by simp only[an,az,aH,nr];omega)|refine⟨by first|omega|(simp only[an,az,aH];omega),?_⟩)
   ·simp only[↓zq,zs,ac,aM,hb.has]
    refine⟨fun h=>by omega,fun _=>⟨fun h=>by omega,fun _=>⟨fun h=>by omega,fun _=>⟨fun _=>?_,fun h=>absurd rfl h⟩⟩⟩⟩
    refine aQ (ih q1 ls a ha hls (by omega) (by omega)) (eX.ne ⟨[],rfl,by simp⟩) ?_
    rintro r o ⟨q2,d1,d2,⟨s1,rfl,d3⟩,rfl⟩
    simp only[↓zq,zs,ac,zt,aM,hb.has,an]
    repeat refine⟨by first|omega|(simp only[an,az,aH];omega),?_⟩
    refine aQ (ih q2 ls a ha hls (by omega) (by omega)) (eX.ne ⟨[],rfl,by simp⟩) ?_
    rintro r o ⟨q3,e1,e2,⟨s2,rfl,e3⟩,rfl⟩
    simp only[↓zq,zs,ac,zt,aM,hb.has,an]
    have fin:∀s:List UInt8,s.length<=nr (d+1)->eX b p (nt (d+1)) (gn (nr (d+1))) (.v (.string (mk s))) [.cells [b,.v (.int .i64 (q3:Int))]]:=fun s hs=>⟨q3,by omega,by simp only[nt];omega,⟨s,rfl,hs⟩,rfl⟩
    repeat (first|exact fin _ (by simp only[an,az,aH,nr];omega)|refine⟨by first|omega|(simp only[an,az,aH];omega),?_⟩)
   ·simp only[↓zq,zs,ac,aM,hb.has]
    refine⟨fun h=>by omega,fun _=>⟨fun h=>by omega,fun _=>⟨fun h=>by omega,fun _=>⟨fun h=>by omega,fun _=>?_⟩⟩⟩⟩
    refine aQ (DO b l hb q1 (by omega) _ _ (.of [_,_,_]) (by simp) (by simp)) (eX.ne ⟨_,ak,rfl⟩) ?_
    rintro r o ⟨q2,g1,g2,hr,rfl⟩
    obtain⟨s,rfl,hs⟩:=kO.cM (n:=2) (by decide) hr
    simp only[↓zq,zs,ac,zt,aM,hb.has]
    repeat refine⟨by first|omega|(simp only[an,az,aH];omega),?_⟩
    refine aY (wl ls a ha s (by omega)) ?_
    simp only[↓zq,zs,ac,Ob.es,aS]
    refine⟨ep _,?_⟩
    refine aQ (ih q2 (ls++[s]) _ (.of _) (fun w hw=>by
     rcases aN.1 hw with hw|hw
     ·exact hls w hw
     ·simp at hw;rw[hw];exact hs) (by simp;omega) (by omega)) (eX.ne ⟨[],rfl,by simp⟩) ?_
    rintro r o ⟨q3,e1,e2,⟨s2,rfl,e3⟩,rfl⟩
    simp only[↓zq,zs,ac,zt,aM,hb.has,an]
    have fin:∀s:List UInt8,s.length<=nr (d+1)->eX b p (nt (d+1)) (gn (nr (d+1))) (.v (.string (mk s))) [.cells [b,.v (.int .i64 (q3:Int))]]:=fun s hs=>⟨q3,by omega,by simp only[nt];omega,⟨s,rfl,hs⟩,rfl⟩
    repeat (first|exact fin _ (by simp only[an,az,aH,nr];omega)|refine⟨by first|omega|(simp only[an,az,aH];omega),?_⟩)
end Go.Proofs.Trees
namespace Go.Proofs.Trees
open Go Go.VL Go.RowKit
theorem eX.mono{b:AV}{p c c':Nat}{X Y:AV->Prop}(hc:c<=c')(h:∀r,X r->Y r){r:AV}{o:List Ob}(hr:eX b p c X r o):eX b p c' Y r o:=by
 obtain⟨q,h1,h2,h3,h4⟩:=hr;exact⟨q,h1,by omega,h r h3,h4⟩
theorem gn.le{n m:Nat}(h:n<=m){r:AV}(hr:gn n r):gn m r:=by obtain⟨s,h1,h2⟩:=hr;exact⟨s,h1,by omega⟩
theorem PJ(b:AV)(l:List UInt8)(hb:sf b l)(p:Nat)(hp:p<qi):aq Tryz.prog 135 [.ref 0 0] [.cells [b,.v (.int .i64 (p:Int))]] (eX b p 100 (gn 200)):=by
 refine QU _ _ hb.has ?_
 unfold MA
 have hfar:qi=1000000000000000:=rfl
 refine aQ (vI b l hb p 12 (by omega) (by decide)) (eX.ne ⟨0,rfl,fun h=>by omega,by omega⟩) ?_
 rintro r o ⟨q,h1,h2,⟨k,rfl,_,_⟩,rfl⟩
 have kn:∀(c m:Nat) (r:AV) (o:List Ob),c<=90->m<=200->eX b q c (gn m) r o->∃q':Nat,∃s:List UInt8,r=.v (.string (mk s))/\o=[.cells [b,.v (.int .i64 (q':Int))]]/\eX b p 100 (gn 200) (.v (.string (mk s))) [.cells [b,.v (.int .i64 (q':Int))]]:=by
  rintro c m r o hc hm ⟨q',g1,g2,⟨s,rfl,hs⟩,rfl⟩
  exact⟨q',s,rfl,rfl,q',by omega,by omega,⟨s,rfl,by omega⟩,rfl⟩
 simp only[↓zq,zs,ac,aM,hb.has]
 refine⟨fun _=>?_,fun _=>⟨fun _=>?_,fun _=>⟨fun _=>?_,fun _=>⟨fun _=>?_,fun _=>⟨fun _=>?_,fun _=>?_⟩⟩⟩⟩⟩
 ·refine aQ (DO b l hb q (by omega) _ _ (.of [_,_,_,_,_,_,_,_,_]) (by simp) (by simp)) (eX.ne ⟨_,ak,rfl⟩) ?_
  intro r o hr
  obtain⟨q',s,rfl,rfl,hd⟩:=kn 1 20 r o (by omega) (by omega) (hr.mono (au _) fun r h=>kO.cM (n:=20) (by decide) h)
  simp only[↓zq,zs,ac,aM,hb.has];exact hd
 ·refine aQ (BM b l hb q (by omega)) (eX.ne ⟨[],rfl,by simp⟩) ?_
  intro r o hr
  obtain⟨q',s,rfl,rfl,hd⟩:=kn _ _ r o (by omega) (by omega) hr
  simp only[↓zq,zs,ac,aM,hb.has];exact hd
 ·refine aQ (BM b l hb q (by omega)) (eX.ne ⟨[],rfl,by simp⟩) ?_
  intro r o hr
  obtain⟨q',s,rfl,rfl,hd⟩:=kn _ _ r o (by omega) (by omega) hr
  simp only[↓zq,zs,ac,aM,hb.has];exact hd
 ·refine aQ (BM b l hb q (by omega)) (eX.ne ⟨[],rfl,by simp⟩) ?_
  intro r o hr
  obtain⟨q',s,rfl,rfl,hd⟩:=kn _ _ r o (by omega) (by omega) hr
  simp only[↓zq,zs,ac,aM,hb.has];exact hd
 ·refine aQ (FB b l hb 2 (by omega) q [[116],[116,49]] _ (cF.of [[116],[116,49]]) (by decide) (by simp) (by simp[nt];omega)) (eX.ne ⟨[],rfl,by simp⟩) ?_
  intro r o hr
  obtain⟨q',s,rfl,rfl,hd⟩:=kn _ _ r o (by simp[nt]) (by simp[nr]) hr
  simp only[↓zq,zs,ac,aM,hb.has];exact hd
 ·refine aQ (FB b l hb 3 (by omega) q [] _ (cF.of []) (by simp) (by simp) (by simp[nt];omega)) (eX.ne ⟨[],rfl,by simp⟩) ?_
  intro r o hr
  obtain⟨q',s,rfl,rfl,hd⟩:=kn _ _ r o (by simp[nt]) (by simp[nr]) hr
  simp only[↓zq,zs,ac,aM,hb.has];exact hd
def yY(a:AV):Prop:=LK.sl.has a/\∃l:List UInt8,a.aP=qa l
def N4(r:AV)(o:List Ob):Prop:=∃(b:AV) (l:List UInt8),sf b l/\r=.ref 0 0/\o=[.cells [b,.v (.int .i64 0)]]
theorem N4.ne:∃r o,N4 r o:=⟨_,_,.v (.slice none 0 0),[],⟨(bi).mpr trivial,rfl,by simp⟩,rfl,rfl⟩
theorem PQ(a:AV)(ha:yY a):aq Tryz.prog 62 [a] [] N4:=by
 obtain⟨hs,l,hl⟩:=ha
 have hln:a.aP.length=l.length:=by rw[hl];simp[qa]
 refine Oi _ hs ?_
 simp only[Lu,↓zq,zs,ac,hln]
 refine⟨hs,fun h=>⟨⟨hs,by omega⟩,?_⟩,fun h=>?_⟩
 ·refine⟨_,l.take 2000,⟨(cg _).mpr trivial,?_,?_⟩,rfl,rfl⟩
  ·rw[fE,hl];simp[qa]
  ·simp;omega
 ·exact⟨a,l,⟨hs,hl,by omega⟩,rfl,rfl⟩
end Go.Proofs.Trees
namespace Go.Proofs.Trees
open Go Go.VL Go.RowKit
theorem B8(b:AV)(l:List UInt8)(hb:sf b l){e:E}(h:Wf e):∀d:Int,d<=-13->-50000+(e.sz:Int)<=d->e.db<=400->jT b d e (5*e.sz) e.sz:=by
 induction h with
 |
  @atom s hs =>
  intro d h1 h2 h3
  exact(J0 b l hb d hs).mono (by simp[E.sz]) (by simp[E.sz])
 |
  @plus x y hx hy i1 i2 =>
  intro d h1 h2 h3
  have h4:=h3
  simp only[E.sz,E.jr,E.db,E.eU]at h2 h4 |-
  exact(Kf b l hb d (by omega) hx hy h3 (5*(x.sz+y.sz)+1) (x.sz+y.sz) ((i1 (d-1) (by omega) (by omega) (by omega)).mono (by omega) (by omega)) ((i2 (d-1) (by omega) (by omega) (by omega)).mono (by omega) (by omega)) (by omega)).mono (by omega) (by omega)
 |
  @times x y hx hy i1 i2 =>
  intro d h1 h2 h3
  have h4:=h3
  simp only[E.sz,E.jr,E.db,E.eU]at h2 h4 |-
  exact(Nz b l hb d (by omega) hx hy (5*x.sz+1) x.sz (5*y.sz+1) y.sz ((i1 (d-1) (by omega) (by omega) (by omega)).mono (by omega) (by omega)) ((i2 (d-1) (by omega) (by omega) (by omega)).mono (by omega) (by omega)) (by omega) (by omega)).mono (by omega) (by omega)
 |
  @rc n x hn hx i =>
  intro d h1 h2 h3
  simp only[E.sz,E.jr]at h2 |-
  exact(MD b l hb d (by omega) hn hx h3 1 0 (fun h=>absurd h (by omega)) (by omega)).mono (by omega) (by omega)
def pn:Nat->Nat
 |0=>6100
 |n+1=>2*pn n+5
theorem Gi:∀n,6100<=pn n
 |0=>au _
 |n+1=>by have:=Gi n;simp only[pn];omega
theorem xc:∀n k:Nat,pn (n+k)+5=2 ^ k*(pn n+5)
 |n,0=>by simp
 |
  n,k+1=>by
  have:=xc n k
  rw[show n+(k+1)=n+k+1 from rfl,pn,Nat.pow_succ,Nat.mul_comm (2 ^ k) 2,Nat.mul_assoc,<-this];omega
theorem BV{n m:Nat}(h:n<=m):pn n<=pn m:=by
 obtain⟨k,rfl⟩:=Nat.exists_eq_add_of_le h
 have:=xc n k
 have h2:1*(pn n+5)<=2 ^ k*(pn n+5):=a7 _ Nat.one_le_two_pow
 omega
theorem Ka:pn 22<=30000000000:=by
 have:=xc 0 22
 simp only[aZ]at this
 have h0:pn 0=6100:=rfl
 rw[h0]at this
 omega
theorem yF(b:AV)(l:List UInt8)(hb:sf b l):∀n:Nat,n<=40->∀e,Wf e->e.db<=400->jT b ((n:Int)-13) e (pn n) (pn n)
 |
  0,hn,e,h,hl=>by
  have:=h.sz
  exact(B8 b l hb h _ (by simp) (by simp;omega) hl).mono (by simp only[pn];omega) (by simp only[pn];omega)
 |
  n+1,hn,e,h,hl=>by
  have hb1:=Gi n
  have ih:∀g,Wf g->g.db<=400->jT b (((n+1:Nat):Int)-13-1) g (pn n) (pn n):=by
   rw[show ((n+1:Nat):Int)-13-1=(n:Int)-13 by omega];exact yF b l hb n (by omega)
  cases h with
  |@atom s hs=>exact(J0 b l hb _ hs).mono (by simp only[pn];omega) (by simp only[pn];omega)
  |
   @plus x y hx hy =>
   have h4:=hl
   simp only[E.db,E.eU]at h4
   exact(Kf b l hb _ (by omega) hx hy hl _ _ (ih x hx (by omega)) (ih y hy (by omega)) (by omega)).mono (by simp only[pn];omega) (by simp only[pn];omega)
  |
   @times x y hx hy =>
   simp only[E.db,E.eU]at hl
   exact(Nz b l hb _ (by omega) hx hy _ _ _ _ (ih x hx (by omega)) (ih y hy (by omega)) (by omega) (by omega)).mono (by simp only[pn];omega) (by simp only[pn];omega)
  |@rc m x hm hx=>exact(MD b l hb _ (by omega) hm hx hl _ _ (fun _=>ih) (by omega)).mono (by simp only[pn];omega) (by simp only[pn];omega)
theorem Kc(b:AV)(l:List UInt8)(hb:sf b l)(p:Nat)(hp:p<100000000000000)(s:Nm):aq Tryz.prog 83 [.ref 0 0,.v (.string (mk s))] [.cells [b,.v (.int .i64 (p:Int))]] (eX b p 40000000000 (gn 40000000000)):=by
 refine Qr _ _ _ hb.has ?_
 have hfar:qi=1000000000000000:=rfl
 have oneL:∀(q:Nat) (r:AV) (o:List Ob),p<=q->q<=p+1->eX b q 1 (kO [[],[117],[101,48],[101,48,48],[101,49,48,48],[40,108,32,117,41],[40,112,32,117,41],[40,102,32,40,108,32,117,41,41],[40,120,32,117,41],[40,108,32,32,117,41]]) r o->∃q':Nat,∃t:List UInt8,r=.v (.string (mk t))/\o=[.cells [b,.v (.int .i64 (q':Int))]]/\eX b p 40000000000 (gn 40000000000) (.v (.string (mk t))) [.cells [b,.v (.int .i64 (q':Int))]]:=by
  rintro q r o h1 h2 ⟨q',g1,g2,hr,rfl⟩
  obtain⟨t,rfl,ht⟩:=kO.cM (n:=20) (by decide) hr
  exact⟨q',t,rfl,rfl,q',by omega,by omega,⟨t,rfl,by omega⟩,rfl⟩
 unfold Io
 refine aQ (EU s) (jG.ne _ _ (fun h=>h)) ?_
 rintro r o ⟨c,d,hd,rfl,hh⟩
 have hhas:bH [.str,.sl] [.v (.string (mk c)),d] 0:=by simp[bH,dW,hd]
 simp only[↓zq,zs,ac,zt]
 refine⟨hhas,fun h=>?_,fun h=>?_⟩
 ·refine aQ (DO b l hb p (by omega) _ _ (.of [_,_,_,_,_,_,_,_,_,_]) (by simp) (by simp)) (eX.ne ⟨_,ak,rfl⟩) ?_
  intro r o hr
  obtain⟨q',t,rfl,rfl,hd⟩:=oneL p r o (au _) (by omega) hr
  simp only[↓zq,zs,ac,aM,hb.has];exact hd
 ·obtain⟨e,he,hce⟩:=hh (by simpa using h)
  obtain⟨t,h1,hA,h3,h4,h5,_⟩:=gR he
  rw[di]at hce
  simp only[AV.agg.injEq,List.cons.injEq,AV.v.injEq,Value.string.injEq,and_true]at hce
  obtain⟨hc1,rfl⟩:=hce
  have hc2:=wE hc1
  subst hc2
  obtain⟨hw,hwt⟩:=kf e [] t hA.ok (by simp) hA.ty
  have hats:e.db<=400:=by rw[hw.db [],hwt];exact h5
  have hsz:=hw.sz
  refine aQ (vI b l hb p 16 (by omega) (by decide)) (eX.ne ⟨0,rfl,fun h=>by omega,by omega⟩) ?_
  rintro r o ⟨q,h1,h2,⟨k,rfl,_,_⟩,rfl⟩
  simp only[↓zq,zs,ac,aM,hb.has]
  refine⟨fun _=>?_,fun _=>?_⟩
  ·refine aQ (DO b l hb q (by omega) _ _ (.of [_,_,_,_,_,_,_,_,_,_]) (by simp) (by simp)) (eX.ne ⟨_,ak,rfl⟩) ?_
   intro r o hr
   obtain⟨q',t,rfl,rfl,hd⟩:=oneL q r o h1 h2 hr
   simp only[↓zq,zs,ac,aM,hb.has];exact hd
  ·obtain⟨w1,w2,_⟩:=w7 (os:=[]) hw
   have hap:=CU hw (.v (.slice none 0 0)) [] ⟨(bi).mpr trivial,rfl⟩ (by omega) (by simp) (by simp)
   refine ai hap ?_
   simp only[↓zq,zs,ac,zt,aL]
   repeat refine⟨by omega,?_⟩
   have hats2:(zM e []).db<=400:=by rw[w1.db [],w2,<-hw.db []];exact hats
   refine aQ (vI b l hb q 5 (by omega) (by decide)) (eX.ne ⟨0,rfl,fun h=>by omega,by omega⟩) ?_
   rintro r o ⟨q1,g1,g2,⟨k1,rfl,c3,_⟩,rfl⟩
   have hk1:=c3 (by omega)
   simp only[↓zq,zs,ac,zt,aM,hb.has,aL]
   have ed:IntKind.wrap .i64 (5+(k1:Int))=((18+k1:Nat):Int)-13:=by rw[VL.wrap64 _ (by omega) (by omega)];omega
   have hB:=Ka
   have hB2:pn (18+k1)<=pn 22:=BV (by omega)
   have hB3:=Gi (18+k1)
   rw[ed]
   refine aQ (yF b l hb (18+k1) (by omega) (zM e []) w1 hats2 q1 (by omega)) (oW b q1 _ _ (by omega)) ?_
   rintro r o ⟨q2,d1,d2,⟨f,rfl,f1,f2⟩,rfl⟩
   simp only[↓zq,zs,ac,zt,aM,hb.has,aL]
   repeat refine⟨by omega,?_⟩
   have ht:=Dq (f.sz+1) f (by omega) f1 (by omega)
   rw[di]at ht
   refine ai ht ?_
   simp only[↓zq,zs,ac,zt,aM,hb.has,aL]
   exact⟨q2,by omega,by omega,⟨eY f,rfl,by omega⟩,rfl⟩
theorem QC(b:AV)(l:List UInt8)(hb:sf b l)(p:Nat)(hp:p<100000000000000):aq Tryz.prog 103 [.ref 0 0] [.cells [b,.v (.int .i64 (p:Int))]] (eX b p 200 (gn 200)):=by
 refine QP _ _ hb.has ?_
 unfold KH
 have hfar:qi=1000000000000000:=rfl
 refine aQ (vI b l hb p 8 (by omega) (by decide)) (eX.ne ⟨0,rfl,fun h=>by omega,by omega⟩) ?_
 rintro r o ⟨q,h1,h2,⟨k,rfl,_,_⟩,rfl⟩
 have kn:∀(c m:Nat) (r:AV) (o:List Ob),c<=190->m<=200->eX b q c (gn m) r o->∃q':Nat,∃s:List UInt8,r=.v (.string (mk s))/\o=[.cells [b,.v (.int .i64 (q':Int))]]/\eX b p 200 (gn 200) (.v (.string (mk s))) [.cells [b,.v (.int .i64 (q':Int))]]:=by
  rintro c m r o hc hm ⟨q',g1,g2,⟨s,rfl,hs⟩,rfl⟩
  exact⟨q',s,rfl,rfl,q',by omega,by omega,⟨s,rfl,by omega⟩,rfl⟩
 have sh:=FB b l hb 3 (by omega) q [] _ (cF.of []) (by simp) (by simp) (by simp[nt];omega)
 have ty:=PJ b l hb q (by omega)
 have kw:=BM b l hb q (by omega)
 simp only[↓zq,zs,ac,aM,hb.has]
 refine⟨fun _=>?_,fun _=>⟨fun _=>?_,fun _=>⟨fun _=>?_,fun _=>⟨fun _=>?_,fun _=>?_⟩⟩⟩⟩
 ·refine aQ ty (eX.ne ⟨[],rfl,by simp⟩) ?_
  intro r o hr
  obtain⟨q',s,rfl,rfl,hd⟩:=kn _ _ r o (by omega) (by omega) hr
  simp only[↓zq,zs,ac,aM,hb.has];exact hd
 ·refine aQ sh (eX.ne ⟨[],rfl,by simp⟩) ?_
  intro r o hr
  obtain⟨q',s,rfl,rfl,hd⟩:=kn _ _ r o (by simp[nt]) (by simp[nr]) hr
  simp only[↓zq,zs,ac,aM,hb.has];exact hd
 ·refine aQ sh (eX.ne ⟨[],rfl,by simp⟩) ?_
  intro r o hr
  obtain⟨q',s,rfl,rfl,hd⟩:=kn _ _ r o (by simp[nt]) (by simp[nr]) hr
  simp only[↓zq,zs,ac,aM,hb.has];exact hd
 ·refine aQ sh (eX.ne ⟨[],rfl,by simp⟩) ?_
  intro r o hr
  obtain⟨q',s,rfl,rfl,hd⟩:=kn _ _ r o (by simp[nt]) (by simp[nr]) hr
  simp only[↓zq,zs,ac,aM,hb.has];exact hd
 ·refine aQ kw (eX.ne ⟨[],rfl,by simp⟩) ?_
  intro r o hr
  obtain⟨q',s,rfl,rfl,hd⟩:=kn _ _ r o (by omega) (by omega) hr
  simp only[↓zq,zs,ac,aM,hb.has];exact hd
def KU:AV->Prop:=fun r=>∃s t:Nm,r=.cD [.v (.string (mk s)),.v (.string (mk t))]
theorem Pe(b:AV)(l:List UInt8)(hb:sf b l)(p:Nat)(hp:p<10000000000000):aq Tryz.prog 82 [.ref 0 0] [.cells [b,.v (.int .i64 (p:Int))]] (eX b p 50000000000 KU):=by
 refine OG _ _ hb.has ?_
 unfold JC
 refine aQ (QC b l hb p (by omega)) (eX.ne ⟨[],rfl,by simp⟩) ?_
 rintro r o ⟨q,h1,h2,⟨s,rfl,_⟩,rfl⟩
 simp only[↓zq,zs,ac,aM,hb.has]
 refine aQ (Kc b l hb q (by omega) s) (eX.ne ⟨[],rfl,by simp⟩) ?_
 rintro r o ⟨q1,g1,g2,⟨t,rfl,_⟩,rfl⟩
 simp only[↓zq,zs,ac,aM,hb.has]
 exact⟨q1,by omega,by omega,⟨s,t,rfl⟩,rfl⟩
theorem Qm(b:AV)(l:List UInt8)(hb:sf b l)(p:Nat)(hp:p<1000000000000):aq Tryz.prog 61 [.ref 0 0] [.cells [b,.v (.int .i64 (p:Int))]] (eX b p 60000000000 KU):=by
 refine Rw _ _ hb.has ?_
 unfold JD
 have hfar:qi=1000000000000000:=rfl
 refine aQ (BM b l hb p (by omega)) (eX.ne ⟨[],rfl,by simp⟩) ?_
 rintro r o ⟨q,h1,h2,⟨s,rfl,_⟩,rfl⟩
 simp only[↓zq,zs,ac,aM,hb.has]
 refine aQ (vI b l hb q 12 (by omega) (by decide)) (eX.ne ⟨0,rfl,fun h=>by omega,by omega⟩) ?_
 rintro r o ⟨q1,g1,g2,⟨k,rfl,_,_⟩,rfl⟩
 simp only[↓zq,zs,ac,aM,hb.has]
 refine⟨fun _=>?_,fun _=>?_⟩
 ·refine aQ (Pe b l hb q1 (by omega)) (eX.ne ⟨[],[],rfl⟩) ?_
  rintro r o ⟨q2,e1,e2,⟨x,y,rfl⟩,rfl⟩
  simp only[↓zq,zs,ac,zt,aM,hb.has]
  exact⟨q2,by omega,by omega,⟨x,y,rfl⟩,rfl⟩
 ·refine aQ (Kc b l hb q1 (by omega) s) (eX.ne ⟨[],rfl,by simp⟩) ?_
  rintro r o ⟨q2,e1,e2,⟨t,rfl,_⟩,rfl⟩
  simp only[↓zq,zs,ac,aM,hb.has]
  exact⟨q2,by omega,by omega,⟨s,t,rfl⟩,rfl⟩
end Go.Proofs.Trees
namespace Go.Proofs.Trees
open Go Go.VL Go.RowKit
theorem BF(w:Nm)(c1 c2:Nm)(d1 d2:AV):aq Tryz.prog 98 [.v (.string (mk w)),.sl [[.v (.string (mk c1)),d1],[.v (.string (mk c2)),d2]]] [] (bK (.agg [.v (.string (mk [])),.sl [[.v (.string (mk w)),yO],[.v (.string (mk c1)),d1],[.v (.string (mk c2)),d2]]])):=by
 refine Ma _ _ ((cg _).mpr trivial) ?_
 simp only[Gx,↓zq,zs,ac,bK]
 exact⟨⟨fun c hc=>by
  simp only[aJ,List.not_mem_nil,or_false]at hc
  rcases hc with rfl|rfl<;>rfl,by omega⟩,rfl⟩
theorem KS(F:List Nm)(hF:F.length<100000)(c1 c2:Nm)(d1 d2:AV)(h1:LK.sl.has d1)(h2:LK.sl.has d2):∀(n j:Nat),qd F n j<j+n->j+n<100000000 ->
 GU [.v (.int .i64 (j:Int))] [zE,.cells [.v (.string (mk c1)),d1],.cells [.v (.string (mk c2)),d2],.vec 1 (bD F)] (iF 1 [.v (.int .i64 (qd F n j:Int))] [zE,.cells [.v (.string (mk c1)),d1],.cells [.v (.string (mk c2)),d2]])
 |0,j,h,_=>by simp only[qd]at h;omega
 |
  n+1,j,h,hj=>by
  refine Rf _ _ _ _ _ _ _ _ ?_
  simp only[I7,↓zq,zs,ac,zt,ac,bi,h1,h2]
  refine ai (y0 (j+1) j (by omega) (by omega)) ?_
  have hd:=mI (j+1) j (by omega)
  simp only[↓zq,zs,ac,zt,bb,aU]
  refine⟨by simp[cK];omega,?_⟩
  refine ai (xl F _ (.of F) (tN j) (by omega)) ?_
  simp only[↓zq,zs,ac,zt]
  rw[qd]at h |-
  refine⟨fun hm=>?_,fun hm=>?_⟩
  ·rw[if_pos hm]at h |-
   rw[bA j (by omega)]
   exact KS F hF c1 c2 d1 d2 h1 h2 n (j+1) (by omega) (by omega)
  ·rw[if_neg hm]
   exact⟨rfl,rfl,rfl⟩
theorem uo{x:Nm}{a c d:Ty}(h:(pL a x c d).aE<=400):(sub x (.rc a) c).aE<=400/\(sub x (.rc a) d).aE<=400:=by
 simp only[pL,Ty.aE]at h;omega
theorem Wf.i6{e:E}(h:Wf e){t:Ty}(ht:cR e []=t)(hl:t.aE<=400):e.db<=400:=by rw[h.db [],ht];exact hl
def RJ(n:Nat):Prop:=∀(e:E) (s:Nm),Wf e->e.db<=n->e.db<=400->qP s->aq Tryz.prog 166 [.agg [.v (.string (mk e.at)),e.sp],.v (.string (mk s))] [] (kX (lG (cR e []) s))
theorem kh{e:E}{s:Nm}(h:Wf e):∀t,lG (cR e []) s=some t->fU t:=fun t ht=>h.qt.dv (cQ.1 ht)
theorem rY{t:Ty}(h:fU t):∀d,nv t=some d->fU d:=fun d hd=>by obtain⟨_,rfl⟩:=eM.1 hd;exact h
theorem QA(n:Nat)(ih:RJ n)(m:Nm)(B:E)(hm:qP m)(hB:Wf B)(hl:(E.list [.atom dE,.atom m,B]).db<=n+1)(hl4:(E.list [.atom dE,.atom m,B]).db<=400)(s:Nm)(hs:qP s) :
 aq Tryz.prog 190 [.agg [.v (.string (mk [])),(E.list [.atom dE,.atom m,B]).sp],.v (.string (mk s))] [] (kX (lG (cR (.list [.atom dE,.atom m,B]) []) s)):=by
 have hw:Wf (.list [.atom dE,.atom m,B]):=.rc hm hB
 have hsz:=hw.sz
 have hA:=CU hw (.sl [[.v (.string (mk s)),yO]]) [.atom s] ⟨(cg _).mpr trivial,by simp only[fE,E.bu,fI];rfl⟩ (by omega) (fun o ho=>by
  simp only[aJ,List.not_mem_nil,or_false]at ho
  subst ho
  exact⟨.atom hs.1,by simp[E.sz]⟩) (by simp)
 have hatsB:B.db+2=(E.list [.atom dE,.atom m,B]).db:=by simp only[E.db,E.eU];omega
 have hT:cR (.list [.atom dE,.atom m,B]) []=.rc (cR B [m]):=ff _ _ _
 obtain⟨w1,w2,_,_,w5⟩:=kC (Ap (.list [.atom dE,.atom m,B]) [.atom s]) (cR (.list [.atom dE,.atom m,B]) []) [] 0 (.nil _ _) (tF hw []) fun y hy=>⟨aC _ ((lS hw [] [] y).2 (.inr hy)),(na hw [] y hy).1⟩
 have hsF:s∈Ap (.list [.atom dE,.atom m,B]) [.atom s]:=aB _ (sc (o:=.atom s) (by simp) (.atom hs.1) (by rw[rb hs];simp[bn]))
 have haF:∀y,bn y (cR B [m])=true->y∈Ap (.list [.atom dE,.atom m,B]) [.atom s]:=fun y hy=>aC _ ((lS hw [] [] y).2 (.inr (by rw[hT];exact hy)))
 unfold zM at hA
 rw[hT]at hA w1 w2 w5
 rw[hT]
 generalize Ap (.list [.atom dE,.atom m,B]) [.atom s]=F at *
 obtain⟨_,_,_,hxF⟩:=gx F 0
 simp only[gX,aU]at hA w1 w2 w5
 generalize hxd:tN (nx F 0)=x at *
 have hx:qP x:=by rw[<-hxd];exact xH _
 generalize (gX F (cR B [m]) [x] (nx F 0+1)).1=b at *
 have hb:Wf b:=by cases w1;assumption
 rw[ff]at w2
 have hbt:cR b [x]=cR B [m]:=by injection w2
 have hxa:bn x (cR B [m])=false:=by
  cases q:bn x (cR B [m])with
  |false=>rfl
  |true=>exact absurd (haF x q) hxF
 have hxs:x≠s:=fun e=>hxF (by rw[e];exact hsF)
 generalize cR B [m]=a at *
 have hbo:cR b []=dB (.name x) a 0:=by
  have:=yQ x hb []
  rw[cX,hbt]at this;exact this
 have hba:b.db+2=(E.list [.atom dE,.atom m,B]).db:=by
  rw[hw.db [],hT,hb.db [],hbo,fF];simp only[Ty.aE];omega
 have i1:=ih b s hb (by omega) (by omega) hs
 have i2:=ih b x hb (by omega) (by omega) hx
 have n1:=kh (s:=s) hb
 have n2:=kh (s:=x) hb
 rw[hbo]at i1 i2 n1 n2
 have hP:=P3.of (.atom dE) (.atom x) b
 rw[Cf hxa hxs]
 have hE1:Wf (.list [.atom dE,.atom x,b]):=w1
 have hE1t:cR (.list [.atom dE,.atom x,b]) []=.rc a:=by rw[ff];exact w2
 have hE1l:(E.list [.atom dE,.atom x,b]).db<=400:=by
  have:(E.list [.atom dE,.atom x,b]).db=b.db+2:=by simp only[E.db,E.eU];omega
  omega
 refine Qi _ _ _ ((aX _).mpr trivial) ?_
 unfold LO
 refine ai hA ?_
 simp only[↓zq,zs,ac,zt,aL,bJ,toNat_one,bf,hP.1,hP.2.1,hP.2.2.1,hP.2.2.2,dS]
 repeat refine⟨by omega,?_⟩
 refine aQ i1 (kX.ne n1) ?_
 rintro r o ⟨rfl,c1,d1,hd1,rfl,hc1⟩
 simp only[↓zq,zs,ac,zt,gC hd1]
 repeat refine⟨by omega,?_⟩
 refine aQ i2 (kX.ne n2) ?_
 rintro r o ⟨rfl,c2,d2,hd2,rfl,hc2⟩
 simp only[↓zq,zs,ac,zt,gC hd2]
 cases q1:lG (dB (.name x) a 0) s with
 |
  none =>
  simp only[bq,bL]
  exact⟨fun _=>kX.no _ _ ((aX _).mpr trivial),fun h=>(by cases h)⟩
 |some c =>
 cases q2:lG (dB (.name x) a 0) x with
 |
  none =>
  simp only[bq,be,bL,ba]
  exact⟨fun h=>(by cases h),fun _=>⟨fun _=>kX.no _ _ ((aX _).mpr trivial),fun h=>(by cases h)⟩⟩
 |some d =>
 simp only[be,ba]
 refine⟨fun h=>(by cases h),fun _=>⟨fun h=>(by cases h),fun _=>?_⟩⟩
 obtain⟨ec,wc,tc,rfl,rfl⟩:=hc1 c q1
 obtain⟨ed,wd,td,rfl,rfl⟩:=hc2 d q2
 have lc:=(cQ.1 q1).small
 have ld:=(cQ.1 q2).small
 have p1:=Gd hx wc hE1 (wc.i6 tc lc) hE1l
 have p2:=Gd hx wd hE1 (wd.i6 td ld) hE1l
 have g1:=rY (hE1.qt.sub (x:=x) wc.qt)
 have g2:=rY (hE1.qt.sub (x:=x) wd.qt)
 rw[hE1t,tc]at p1 g1
 rw[hE1t,td]at p2 g2
 simp only[bJ]at p1 p2
 repeat refine⟨by omega,?_⟩
 refine aQ p1 (kX.ne g1) ?_
 rintro r o ⟨rfl,c3,d3,hd3,rfl,hc3⟩
 simp only[↓zq,zs,ac,zt,gC hd3]
 repeat refine⟨by omega,?_⟩
 refine aQ p2 (kX.ne g2) ?_
 rintro r o ⟨rfl,c4,d4,hd4,rfl,hc4⟩
 simp only[↓zq,zs,ac,zt,gC hd4]
 have big:∀t:Ty,nv t=none->¬t.aE<=400:=fun t ht hle=>by unfold nv at ht;rw[if_pos hle]at ht;cases ht
 have out0:(nv (sub x (.rc a) c)=none\/nv (sub x (.rc a) d)=none)->nv (pL a x c d)=none:=fun h=>by
  unfold nv
  rw[if_neg fun hle=>?_]
  have:=uo hle
  rcases h with h|h
  ·exact big _ h this.1
  ·exact big _ h this.2
 cases q3:nv (sub x (.rc a) c)with
 |
  none =>
  rw[out0 (.inl q3)]
  simp only[bq]
  exact⟨fun _=>kX.no _ _ ((aX _).mpr trivial),fun h=>(by cases h)⟩
 |some c' =>
 cases q4:nv (sub x (.rc a) d)with
 |
  none =>
  rw[out0 (.inr q4)]
  simp only[bq,be]
  exact⟨fun h=>(by cases h),fun _=>⟨fun _=>kX.no _ _ ((aX _).mpr trivial),fun h=>(by cases h)⟩⟩
 |some d' =>
 simp only[be]
 refine⟨fun h=>(by cases h),fun _=>⟨fun h=>(by cases h),fun _=>?_⟩⟩
 obtain⟨ec',wc',tc',rfl,rfl⟩:=hc3 c' q3
 obtain⟨ed',wd',td',rfl,rfl⟩:=hc4 d' q4
 obtain⟨lc',e3⟩:=eM.1 q3
 obtain⟨ld',e4⟩:=eM.1 q4
 rw[e3]at lc';rw[e4]at ld'
 have z1:=wc'.sz
 have z2:=wd'.sz
 have k1:=wc'.i6 tc' lc'
 have k2:=wd'.i6 td' ld'
 have f1:=CT wd' [] [] (.sl []) (.of []) (by simp;omega)
 have fl1:=fY ed' [] []
 have fl2:=fY ec' [] (kb ed' [] [])
 simp only[aH,aZ]at fl1
 have f2:=CT wc' [] (kb ed' [] []) (.sl []) (.of []) (by simp;omega)
 refine aY f1 ?_
 simp only[↓zq,zs,ac,zt,aS,bw,Ob.es]
 refine aY f2 ?_
 simp only[↓zq,zs,ac,zt,aS,bw,Ob.es]
 have hF3:∀y,(bn y c'=true\/bn y d'=true)->y∈kb ec' [] (kb ed' [] []):=fun y hy=>by
  rw[lS wc',lS wd']
  rcases hy with hy|hy
  ·exact .inr (by rw[tc'];exact hy)
  ·exact .inl (.inr (by rw[td'];exact hy))
 generalize kb ec' [] (kb ed' [] [])=F3 at *
 obtain⟨_,y2,_,hyF⟩:=gx F3 0
 refine cB (KS F3 (by omega) _ _ _ _ ((aX _).mpr trivial) ((aX _).mpr trivial) (F3.length+1) 0 (by show nx F3 0<_;omega) (by omega)) ?_
 have hnx:qd F3 (F3.length+1) 0=nx F3 0:=rfl
 rw[hnx]
 simp only[↓zq,zs,ac,zt,ac,aM,bi,aX]
 refine ai (y0 (nx F3 0+1) (nx F3 0) (by omega) (by omega)) ?_
 have hdl:=mI (nx F3 0+1) (nx F3 0) (by omega)
 simp only[↓zq,zs,ac,zt,bb,aU]
 refine⟨by omega,?_⟩
 obtain⟨y,hyd⟩:∃y:Nm,(116::dd (nx F3 0):Nm)=y:=⟨_,rfl⟩
 rw[hyd]
 rw[show tN (nx F3 0)=y from hyd]at hyF
 have hy:qP y:=by rw[<-hyd];exact xH _
 have hcy:cR ec' [y]=c':=by
  have:=tK [y] wc' [] (fun z hz hm=>hyF (by
   simp only[aV]at hm
   rw[<-hm];exact hF3 z (.inl (by rw[<-tc'];exact hz))))
  rw[cX,tc']at this;exact this
 have hdy:cR ed' [y]=d':=by
  have:=tK [y] wd' [] (fun z hz hm=>hyF (by
   simp only[aV]at hm
   rw[<-hm];exact hF3 z (.inr (by rw[<-td'];exact hz))))
  rw[cX,td']at this;exact this
 have hyb:cR (.atom y) [y]=.bQ 0:=by
  simp only[cR];rw[if_neg hy.2.1,if_neg hy.2.2,show bN y [y] [y].length=some 0 from fk y []]
 let o1:E:=.list [.atom [42],ed',.atom y]
 let o2:E:=.list [.atom [43],ec',o1]
 let o3:E:=.list [.atom dE,.atom y,o2]
 have hw3:Wf o3:=.rc hy (.plus wc' (.times wd' (.atom hy.1)))
 have ht3:cR o3 []=pL a x c d:=by
  show cR (.list [.atom dE,.atom y,o2]) []=_
  rw[ff]
  show Ty.rc (cR (.list [.atom [43],ec',o1]) [y])=_
  rw[dJ]
  show Ty.rc (.plus (cR ec' [y]) (cR (.list [.atom [42],ed',.atom y]) [y]))=_
  rw[dr,hcy,hdy,hyb,pL,e3,e4]
 have m1:=xr [42] ed' (.atom y)
 have m2:=xr [43] ec' o1
 have m3:=xr dE (.atom y) o2
 simp only[o1,bJ,dS]at m1 m2 m3
 refine ai m1 ?_
 simp only[↓zq,zs,ac,zt,aL]
 repeat refine⟨by omega,?_⟩
 refine ai m2 ?_
 simp only[↓zq,zs,ac,zt,aL]
 repeat refine⟨by omega,?_⟩
 refine ai m3 ?_
 simp only[↓zq,zs,ac,zt,aL]
 repeat refine⟨by omega,?_⟩
 have z3:=hw3.sz
 have hats3:o3.db=ec'.db+ed'.db+5:=by simp only[o3,o2,o1,E.db,E.eU];omega
 have ma:=DC o3 hw3.ok (by omega)
 rw[di]at ma
 simp only[o3,o2,o1,bJ]at ma
 refine ai ma ?_
 simp only[↓zq,zs,ac,zt]
 have hd3:(pL a x c d).aE=o3.db:=by rw[<-ht3,<-hw3.db []]
 unfold nv
 by_cases hle:(pL a x c d).aE<=400
 ·rw[if_pos hle]
  have:=kX.of hw3
  rw[ht3]at this
  rw[show decide ((((E.list [.atom dE,.atom y,.list [.atom [43],ec',.list [.atom [42],ed',.atom y]]]).db:Nat):Int)<=400)=true from decide_eq_true (by show ((o3.db:Nat):Int)<=400;omega)]
  exact this
 ·rw[if_neg hle]
  rw[show decide ((((E.list [.atom dE,.atom y,.list [.atom [43],ec',.list [.atom [42],ed',.atom y]]]).db:Nat):Int)<=400)=false from decide_eq_false (by show ¬((o3.db:Nat):Int)<=400;omega)]
  exact kX.no _ _ ((aX o3).mpr trivial)
theorem z6:∀n,RJ n
 |0=>fun e s h hl=>by have:=ej (cR e []);rw[<-h.db []]at this;omega
 |
  n+1=>by
  intro e s h hl h4 hs
  cases h with
  |
   @atom c hc =>
   refine DA _ _ _ ((aX _).mpr trivial) ?_
   simp only[BZ,dS,↓zq,zs,ac,zt]
   refine⟨fun _=>⟨fun he=>?_,fun hne=>?_⟩,fun h=>absurd h hc⟩
   ·have he:c=s:=he
    subst he
    rw[rb hs,om,if_pos rfl]
    exact kX.of (e:=.atom [49]) (.atom (by simp))
   ·have hne:¬c=s:=hne
    have:lG (cR (.atom c) []) s=some .zero:=by
     simp only[cR]
     split
     ·exact vo _
     ·split
      ·exact yV _
      ·rw[show bN c [] ([]:List Nm).length=none from rfl,om,if_neg hne]
    rw[this]
    exact kX.of (e:=.atom [48]) (.atom (by simp))
  |
   @plus x y hx hy =>
   have hxy:(E.list [.atom [43],x,y]).db=x.db+y.db+1:=by simp only[E.db,E.eU];omega
   have p1:1<=x.db:=by rw[hx.db []];exact ej _
   have p2:1<=y.db:=by rw[hy.db []];exact ej _
   refine DA _ _ _ ((aX _).mpr trivial) ?_
   have hP:=P3.of (.atom [43]) x y
   simp only[BZ,bJ,toNat_one,bf,↓zq,zs,ac,zt,hP.1,hP.2.1,hP.2.2.1,hP.2.2.2,aL]
   refine⟨fun h=>absurd rfl h,fun _=>?_⟩
   refine ai (nY [43] x y) ?_
   simp only[↓zq,zs,ac,zt]
   refine⟨fun h=>by simp at h,fun _=>?_⟩
   repeat refine⟨by omega,?_⟩
   rw[dJ,vd]
   refine aQ (z6 n x s hx (by omega) (by omega) hs) (kX.ne (kh hx)) ?_
   rintro r o ⟨rfl,c1,d1,hd1,rfl,hc1⟩
   simp only[↓zq,zs,ac,zt,gC hd1]
   repeat refine⟨by omega,?_⟩
   refine aQ (z6 n y s hy (by omega) (by omega) hs) (kX.ne (kh hy)) ?_
   rintro r o ⟨rfl,c2,d2,hd2,rfl,hc2⟩
   simp only[↓zq,zs,ac,zt,gC hd2]
   refine ai (BF [43] c1 c2 d1 d2) ?_
   simp only[↓zq,zs,ac,zt,bH,dW,cg]
   repeat refine⟨by omega,?_⟩
   refine ai (nY [43] x y) ?_
   simp only[↓zq,zs,ac,zt]
   refine⟨fun h=>by simp at h,fun _=>?_⟩
   cases q1:lG (cR x []) s with
   |
    none =>
    simp only[bq,bL]
    exact⟨fun h=>(by cases h),fun _=>kX.no _ _ ((cg _).mpr trivial)⟩
   |some tx =>
   cases q2:lG (cR y []) s with
   |
    none =>
    simp only[bq,be,bL,ba]
    exact⟨fun _=>⟨fun h=>(by cases h),fun _=>kX.no _ _ ((cg _).mpr trivial)⟩,fun h=>(by cases h)⟩
   |some t2 =>
   simp only[be,ba]
   refine⟨fun _=>⟨fun _=>?_,fun h=>(by cases h)⟩,fun h=>(by cases h)⟩
   obtain⟨e1,w1,te1,rfl,rfl⟩:=hc1 tx q1
   obtain⟨e2,w2,te2,rfl,rfl⟩:=hc2 t2 q2
   have l1:=w1.i6 te1 (cQ.1 q1).small
   have l2:=w2.i6 te2 (cQ.1 q2).small
   have z1:=w1.sz
   have z2:=w2.sz
   have hw3:Wf (.list [.atom [43],e1,e2]):=.plus w1 w2
   have ht3:cR (.list [.atom [43],e1,e2]) []=.plus tx t2:=by rw[dJ,te1,te2]
   have ma:=DC _ hw3.ok (by simp only[E.sz,E.jr];omega)
   rw[di]at ma
   simp only[bJ]at ma
   have e3:AV.sl [[.v (.string (mk [43])),yO],[.v (.string (mk e1.at)),e1.sp],[.v (.string (mk e2.at)),e2.sp]]=(E.list [.atom [43],e1,e2]).sp:=by simp only[E.sp,E.bu,fI];rfl
   rw[e3]
   refine ai ma ?_
   simp only[↓zq,zs,ac,zt]
   have hd3:(Ty.plus tx t2).aE=(E.list [.atom [43],e1,e2]).db:=by rw[<-ht3,<-hw3.db []]
   unfold nv
   by_cases hle:(Ty.plus tx t2).aE<=400
   ·rw[if_pos hle,show decide ((((E.list [.atom [43],e1,e2]).db:Nat):Int)<=400)=true from decide_eq_true (by omega)]
    have:=kX.of hw3
    rw[ht3]at this
    exact this
   ·rw[if_neg hle,show decide ((((E.list [.atom [43],e1,e2]).db:Nat):Int)<=400)=false from decide_eq_false (by omega)]
    exact kX.no _ _ ((aX _).mpr trivial)
  |
   @times x y hx hy =>
   have hxy:(E.list [.atom [42],x,y]).db=x.db+y.db+1:=by simp only[E.db,E.eU];omega
   have p1:1<=x.db:=by rw[hx.db []];exact ej _
   have p2:1<=y.db:=by rw[hy.db []];exact ej _
   refine DA _ _ _ ((aX _).mpr trivial) ?_
   have hP:=P3.of (.atom [42]) x y
   simp only[BZ,bJ,toNat_one,bf,↓zq,zs,ac,zt,hP.1,hP.2.1,hP.2.2.1,hP.2.2.2,aL]
   refine⟨fun h=>absurd rfl h,fun _=>?_⟩
   refine ai (nY [42] x y) ?_
   simp only[↓zq,zs,ac,zt]
   refine⟨fun h=>by simp at h,fun _=>?_⟩
   repeat refine⟨by omega,?_⟩
   rw[dr,sJ]
   refine aQ (z6 n x s hx (by omega) (by omega) hs) (kX.ne (kh hx)) ?_
   rintro r o ⟨rfl,c1,d1,hd1,rfl,hc1⟩
   simp only[↓zq,zs,ac,zt,gC hd1]
   repeat refine⟨by omega,?_⟩
   refine aQ (z6 n y s hy (by omega) (by omega) hs) (kX.ne (kh hy)) ?_
   rintro r o ⟨rfl,c2,d2,hd2,rfl,hc2⟩
   simp only[↓zq,zs,ac,zt,gC hd2]
   refine ai (BF [43] c1 c2 d1 d2) ?_
   simp only[↓zq,zs,ac,zt,bH,dW,cg]
   repeat refine⟨by omega,?_⟩
   refine ai (nY [42] x y) ?_
   simp only[↓zq,zs,ac,zt]
   refine⟨fun _=>?_,fun h=>by simp at h⟩
   repeat refine⟨by omega,?_⟩
   refine ai (BF [42] c1 y.at d1 y.sp) ?_
   simp only[↓zq,zs,ac,zt,bH,dW,cg,aX]
   repeat refine⟨by omega,?_⟩
   refine ai (BF [42] x.at c2 x.sp d2) ?_
   simp only[↓zq,zs,ac,zt,bH,dW,cg,aX]
   repeat refine⟨by omega,?_⟩
   refine ai (BF [43] [] [] _ _) ?_
   simp only[↓zq,zs,ac,zt,bH,dW,cg]
   repeat refine⟨by omega,?_⟩
   cases q1:lG (cR x []) s with
   |
    none =>
    simp only[bq,bL]
    exact⟨fun h=>(by cases h),fun _=>kX.no _ _ ((cg _).mpr trivial)⟩
   |some tx =>
   cases q2:lG (cR y []) s with
   |
    none =>
    simp only[bq,be,bL,ba]
    exact⟨fun _=>⟨fun h=>(by cases h),fun _=>kX.no _ _ ((cg _).mpr trivial)⟩,fun h=>(by cases h)⟩
   |some t2 =>
   simp only[be,ba]
   refine⟨fun _=>⟨fun _=>?_,fun h=>(by cases h)⟩,fun h=>(by cases h)⟩
   obtain⟨e1,w1,te1,rfl,rfl⟩:=hc1 tx q1
   obtain⟨e2,w2,te2,rfl,rfl⟩:=hc2 t2 q2
   have l1:=w1.i6 te1 (cQ.1 q1).small
   have l2:=w2.i6 te2 (cQ.1 q2).small
   have z1:=w1.sz
   have z2:=w2.sz
   have z3:=hx.sz
   have z4:=hy.sz
   have hw3:Wf (.list [.atom [43],.list [.atom [42],e1,y],.list [.atom [42],x,e2]]):=.plus (.times w1 hy) (.times hx w2)
   have ht3:cR (.list [.atom [43],.list [.atom [42],e1,y],.list [.atom [42],x,e2]]) []=.plus (.times tx (cR y [])) (.times (cR x []) t2):=by rw[dJ,dr,dr,te1,te2]
   have ma:=DC _ hw3.ok (by simp only[E.sz,E.jr];omega)
   rw[di]at ma
   simp only[bJ]at ma
   have e3:AV.sl [[.v (.string (mk [43])),yO],[.v (.string (mk [])),.sl [[.v (.string (mk [42])),yO],[.v (.string (mk e1.at)),e1.sp],[.v (.string (mk y.at)),y.sp]]],[.v (.string (mk [])),.sl [[.v (.string (mk [42])),yO],[.v (.string (mk x.at)),x.sp],[.v (.string (mk e2.at)),e2.sp]]]]=(E.list [.atom [43],.list [.atom [42],e1,y],.list [.atom [42],x,e2]]).sp:=by simp only[E.sp,E.bu,fI];rfl
   rw[e3]
   refine ai ma ?_
   simp only[↓zq,zs,ac,zt]
   have hd3:(Ty.plus (.times tx (cR y [])) (.times (cR x []) t2)).aE=(E.list [.atom [43],.list [.atom [42],e1,y],.list [.atom [42],x,e2]]).db:=by rw[<-ht3,<-hw3.db []]
   unfold nv
   by_cases hle:(Ty.plus (.times tx (cR y [])) (.times (cR x []) t2)).aE<=400
   ·rw[if_pos hle,show decide ((((E.list [.atom [43],.list [.atom [42],e1,y],.list [.atom [42],x,e2]]).db:Nat):Int)<=400)=true from decide_eq_true (by omega)]
    have:=kX.of hw3
    rw[ht3]at this
    exact this
   ·rw[if_neg hle,show decide ((((E.list [.atom [43],.list [.atom [42],e1,y],.list [.atom [42],x,e2]]).db:Nat):Int)<=400)=false from decide_eq_false (by omega)]
    exact kX.no _ _ ((aX _).mpr trivial)
  |
   @rc m B hm hB =>
   have hlp:=QA n (z6 n) m B hm hB hl h4 s hs
   have hg:=kh (s:=s) (Wf.rc hm hB)
   refine DA _ _ _ ((aX _).mpr trivial) ?_
   have hP:=P3.of (.atom dE) (.atom m) B
   simp only[BZ,bJ,toNat_one,bf,↓zq,zs,ac,zt,hP.1,hP.2.1,hP.2.2.1,hP.2.2.2,aL]
   refine⟨fun h=>absurd rfl h,fun _=>?_⟩
   refine ai (nY dE (.atom m) B) ?_
   simp only[↓zq,zs,ac,zt]
   refine⟨fun _=>?_,fun h=>absurd rfl h⟩
   refine aQ hlp (kX.ne hg) ?_
   rintro r o ⟨rfl,c1,d1,hd1,rfl,hc1⟩
   simp only[↓zq,zs,ac,zt,gC hd1]
   exact⟨rfl,c1,d1,hd1,rfl,hc1⟩
end Go.Proofs.Trees
namespace Go.Proofs.Trees
open Go Go.VL Go.RowKit
theorem og:∀(n k:Nat),k<10 ^ (n+1)->(dd k).length<=n+1
 |0,k,h=>by rw[eF (by omega)];simp
 |
  n+1,k,h=>by
  by_cases h1:k<10
  ·rw[eF h1];simp
  ·rw[fP h1]
   have:=og n (k/10) (by
    have:10 ^ (n+1+1)=10*10 ^ (n+1):=by rw[Nat.pow_succ,Nat.mul_comm]
    omega)
   simp;omega
inductive Sh:E->Prop
 |atom {s:Nm} (h:s.length<=20):Sh (.atom s)
 |l3 {h:Nm} {a b:E} (hh:h.length<=20) (ha:Sh a) (hb:Sh b):Sh (.list [.atom h,a,b])
theorem Sh.cM{e:E}(hw:Wf e)(h:Sh e):(eY e).length<=50*e.db:=by
 induction hw with
 |atom _=>cases h with|atom h=>simp only[eY,E.db];omega
 |
  plus _ _ i1 i2 =>
  cases h with|l3 hh ha hb =>
  have:=i1 ha
  have:=i2 hb
  simp only[eY,ei,az,an,aH,E.db,E.eU];omega
 |
  times _ _ i1 i2 =>
  cases h with|l3 hh ha hb =>
  have:=i1 ha
  have:=i2 hb
  simp only[eY,ei,az,an,aH,E.db,E.eU];omega
 |
  rc _ _ i =>
  cases h with|l3 hh ha hb =>
  cases ha with|atom ha =>
  have:=i hb
  simp only[eY,ei,az,an,aH,E.db,E.eU];omega
def uR(t:Ty):Prop:=∀y,bn y t=true->y.length<=20
theorem xx{k:Nat}(h:k<100000000):(tN k).length<=20:=by
 have:=og 7 k (by omega)
 simp;omega
theorem pM(F:List Nm)(hF:F.length<=10000):∀(t:Ty) (to:List Nm) (k:Nat),uR t->(∀w,w∈to->w.length<=20)->k+(F.length+1)*t.aE<90000000->Sh (gX F t to k).1
 | .zero,_,_,_,_,_=>.atom (by simp)
 | .one,_,_,_,_,_=>.atom (by simp)
 | .name s,_,_,hn,_,_=>.atom (hn s (by simp[bn]))
 |
  .bQ u,to,_,_,ht,_=>by
  refine .atom ?_
  show (gk to u).length<=20
  unfold gk
  by_cases h:to.length-1-u<to.length
  ·rw[aa,bp h];exact ht _ (bF h)
  ·rw[aa,List.getElem?_eq_none (by omega)];simp
 |
  .plus a b,to,k,hn,ht,hk=>by
  have h1:=ig F a to k
  have:(F.length+1)*(1+a.aE+b.aE)=(F.length+1)+(F.length+1)*a.aE+(F.length+1)*b.aE:=by simp only[cT,dH]
  simp only[Ty.aE]at hk
  exact .l3 (by simp) (pM F hF a to k (fun y hy=>hn y (by simp[bn,hy])) ht (by omega)) (pM F hF b to _ (fun y hy=>hn y (by simp[bn,hy])) ht (by omega))
 |
  .times a b,to,k,hn,ht,hk=>by
  have h1:=ig F a to k
  have:(F.length+1)*(1+a.aE+b.aE)=(F.length+1)+(F.length+1)*a.aE+(F.length+1)*b.aE:=by simp only[cT,dH]
  simp only[Ty.aE]at hk
  exact .l3 (by simp) (pM F hF a to k (fun y hy=>hn y (by simp[bn,hy])) ht (by omega)) (pM F hF b to _ (fun y hy=>hn y (by simp[bn,hy])) ht (by omega))
 |
  .rc a,to,k,hn,ht,hk=>by
  obtain⟨g1,g2,_,_⟩:=gx F k
  have:(F.length+1)*(2+a.aE)=(F.length+1)*2+(F.length+1)*a.aE:=by simp only[cT]
  simp only[Ty.aE]at hk
  have hl:=xx (k:=nx F k) (by omega)
  exact .l3 (by simp) (.atom hl) (pM F hF a _ _ hn (fun w hw=>by
   rcases aN.1 hw with hw|hw
   ·exact ht w hw
   ·simp only[aV]at hw;rw[hw];exact hl) (by omega))
def Es(t:Ty):Nm:=eY (gX (bM t []) t [] 0).1
def told(t:Ty):Option Nm:=if t.aE<=400/\(qK (Es t)).isSome=true then some (Es t)else none
theorem Eh{t:Ty}(g:fU t)(hs:uR t)(ha:t.aE<=400):(Es t).length<=20000:=by
 obtain⟨h1,h2,_⟩:=kC (bM t []) t [] 0 (.nil _ _) g.1 fun y hy=>⟨(eQ t [] y).2 (.inr hy),g.2 y hy⟩
 have hn:=ew t []
 simp only[aH,aZ]at hn
 have hm:((bM t []).length+1)*t.aE<=401*400:=Nat.mul_le_mul (by omega) ha
 have:=(pM (bM t []) (by omega) t [] 0 hs (fun w hw=>by cases hw) (by omega)).cM h1
 have:=h1.i6 h2 ha
 unfold Es;omega
theorem ud(s:Nm):(wj s).isSome=(qK s).isSome:=by
 rw[ur]
 cases he:wj s with
 |none=>rfl
 |
  some e =>
  obtain⟨h1,h2,h3⟩:=pA he
  simp only[iW e [],h2];rfl
theorem Q0(s:Nm):aq Tryz.prog 168 [.v (.string (mk s))] [] (bK (.v (.bool (qK s).isSome))):=by
 refine Pb _ ?_
 unfold Kn
 refine aQ (Gy s) (jG.ne _ _ (fun h=>h)) ?_
 rintro r o ⟨c,d,hd,rfl,hh⟩
 have hhas:bH [.str,.sl] [.v (.string (mk c)),d] 0:=by simp[bH,dW,hd]
 simp only[↓zq,zs,ac,zt,ud]
 exact⟨hhas,rfl,rfl⟩
theorem Qc{e:E}(h:Wf e)(hl:e.db<=400)(hs:uR (cR e [])):aq Tryz.prog 134 [.agg [.v (.string (mk e.at)),e.sp]] [] (bK (uy (told (cR e [])))):=by
 refine Qu _ _ ((aX _).mpr trivial) ?_
 unfold Js
 have z:=h.sz
 have ma:=DC e h.ok (by omega)
 rw[di]at ma
 have hA:=CU h yO [] ⟨(bi).mpr trivial,rfl⟩ (by omega) (fun o ho=>by cases ho) (by simp)
 have ha:(cR e []).aE<=400:=by rw[<-h.db []];exact hl
 have hc:zM e []=(gX (bM (cR e []) []) (cR e []) [] 0).1:=by
  unfold zM Ap rj
  rw[List.flatMap_nil,cX,jI (F':=bM (cR e []) []) fun y=>by rw[lS h,eQ]]
 have hx:eY (zM e [])=Es (cR e []):=by rw[hc];rfl
 have hlen:=Eh h.qt hs ha
 have hT:=CS (zM e []) (w7 h).1.ok (by rw[hx];omega)
 rw[di,hx]at hT
 refine ai ma ?_
 simp only[↓zq,zs,ac,zt]
 refine⟨fun h=>by omega,fun _=>?_⟩
 refine ai hA ?_
 simp only[↓zq,zs,ac,zt,aL]
 refine ai hT ?_
 simp only[↓zq,zs,ac,zt]
 refine ai (Q0 _) ?_
 simp only[↓zq,zs,ac,zt]
 unfold told
 refine⟨fun hn=>?_,fun hy=>?_⟩
 ·rw[if_neg (by rw[hn];simp)];exact⟨rfl,rfl⟩
 ·rw[if_pos ⟨ha,hy⟩];exact⟨rfl,rfl⟩
abbrev l8:Nm:=[35,49]
noncomputable def cJ (s:Nm):Option Nm:=match qK s with
 |some (.rc a)=>(nX a l8).bind told
 |_=>none
theorem nU{s:Nm}{t:Ty}(h:qK s=some t):∃e,wj s=some e/\Wf e/\cR e []=t/\e.db<=400/\e.ok:=by
 rw[ur]at h
 cases he:wj s with
 |none=>rw[he]at h;cases h
 |
  some e =>
  rw[he]at h
  obtain⟨h1,h2,h3⟩:=pA he
  obtain⟨hok,_⟩:=nW h1
  obtain⟨w1,w2⟩:=kf e [] t hok (fun w hw=>by cases hw) h
  exact⟨e,rfl,w1,w2,h3,hok⟩
theorem rk{e:E}{x:Nm}{a d:Ty}(hw:Wf e)(ht:cR e []=.rc a)(hx:qP x)(hd:nX a x=some d):fU d/\(uR (.rc a)->uR d):=by
 simp only[nX,bg,cQ,eM]at hd
 obtain⟨d',h1,_,rfl⟩:=hd
 have g:fU (.rc a):=ht ▸ hw.qt
 have go:fU (dB (.name x) a 0):=⟨gG x a g.1,fun y hy=>by
  rcases gB a 0 hy with rfl|h
  ·exact hx
  ·exact g.2 y h⟩
 refine⟨g.sub (go.dv h1),fun hs y hy=>?_⟩
 rcases jf _ hy with h|⟨h,h'⟩
 ·exact hs y h
 ·rcases gB a 0 (h1.names y h')with e|e
  ·exact absurd e h
  ·exact hs y e
def Ix(y:Nm):Prop:=hD y=true\/dh y=true
theorem iN:∀(e:E) (ar:List Nm) (t:Ty),cS e ar=some t->∀y,bn y t=true->Ix y
 |
  .atom s,ar,t,ht,y,hy=>by
  simp only[cS]at ht
  split at ht
  ·cases ht;cases hy
  ·split at ht
   ·cases ht;cases hy
   ·split at ht
    ·rename_i hp
     cases ht
     simp only[bn,decide_eq_true_eq]at hy
     subst hy;exact .inl hp
    ·split at ht
     ·rename_i hq
      split at ht
      ·cases ht;cases hy
      ·cases ht
       simp only[bn,decide_eq_true_eq]at hy
       subst hy;exact .inr hq
     ·cases ht
 |
  .list [x,a,b],ar,t,ht,y,hy=>by
  by_cases h0:x.at=[43]
  ·obtain⟨t1,t2,h1,h2,rfl⟩:=fH h0 ht
   simp only[bn,bz]at hy
   rcases hy with hy|hy
   ·exact iN a ar t1 h1 y hy
   ·exact iN b ar t2 h2 y hy
  ·by_cases h1:x.at=[42]
   ·obtain⟨t1,t2,h2,h3,rfl⟩:=fj h1 ht
    simp only[bn,bz]at hy
    rcases hy with hy|hy
    ·exact iN a ar t1 h2 y hy
    ·exact iN b ar t2 h3 y hy
   ·by_cases h2:x.at=[114,101,99]
    ·obtain⟨t1,hla,h3,rfl⟩:=dz h2 ht
     exact iN b _ t1 h3 y hy
    ·rw[jh _ h0 h1 h2]at ht;cases ht
 | .list [],ar,t,ht,_,_=>by cases ht
 | .list [_],ar,t,ht,_,_=>by cases ht
 | .list [_,_],ar,t,ht,_,_=>by cases ht
 | .list (_::_::_::_::_),ar,t,ht,_,_=>by cases ht
theorem wG{y:Nm}(h:Ix y):y.length<=3/\∀r,y≠35::r:=by
 have key:∀lo hi,116<=lo->named lo hi y=true->y.length<=3/\∀r,y≠35::r:=fun lo hi hlo h=>by
  cases y with
  |nil=>cases h
  |
   cons c r =>
   simp only[named,aw,decide_eq_true_eq]at h
   refine⟨by simp;omega,fun r' e=>?_⟩
   have:c=35:=by injection e
   subst this
   have:=h.1.2.1
   have e35:(35:UInt8).toNat=35:=rfl
   omega
 rcases h with h|h
 ·exact key 120 122 (by omega) h
 ·exact key 116 116 (by omega) h
theorem mQ{s:Nm}{t:Ty}(h:qK s=some t):∀y,bn y t=true->Ix y:=by
 rw[ur]at h
 cases he:wj s with
 |none=>rw[he]at h;cases h
 |some e=>rw[he]at h;exact iN e [] t h
theorem uq{s:Nm}{a:Ty}(h:qK s=some (.rc a)):bn l8 a=false:=by
 cases q:bn l8 a with
 |false=>rfl
 |true=>exact absurd rfl ((wG (mQ h l8 q)).2 [49])
theorem AO{s:Nm}{t:Ty}(h:qK s=some t):uR t:=fun y hy=>by have:=(wG (mQ h y hy)).1;omega
theorem Q6{m:Nm}{B:E}(hm:qP m)(hB:Wf B)(hl:(E.list [.atom dE,.atom m,B]).db<=400):aq Tryz.prog 133 [.agg [.v (.string (mk [])),(E.list [.atom dE,.atom m,B]).sp]] [] (kX (nX (cR B [m]) m)):=by
 have hw:Wf (.list [.atom dE,.atom m,B]):=.rc hm hB
 have hT:cR (.list [.atom dE,.atom m,B]) []=.rc (cR B [m]):=ff _ _ _
 have hP:=P3.of (.atom dE) (.atom m) B
 have hbo:cR B []=dB (.name m) (cR B [m]) 0:=by
  have:=yQ m hB []
  rw[cX]at this;exact this
 have hba:B.db+2=(E.list [.atom dE,.atom m,B]).db:=by simp only[E.db,E.eU];omega
 have i1:=z6 400 B m hB (by omega) (by omega) hm
 have n1:=kh (s:=m) hB
 rw[hbo]at i1 n1
 refine Qy _ _ ((aX _).mpr trivial) ?_
 simp only[L5,bJ,toNat_one,bf,↓zq,zs,ac,zt,hP.1,hP.2.1,hP.2.2.1,hP.2.2.2,aL,dS]
 repeat refine⟨by omega,?_⟩
 refine aQ i1 (kX.ne n1) ?_
 rintro r o ⟨rfl,c1,d1,hd1,rfl,hc1⟩
 simp only[↓zq,zs,ac,zt,gC hd1,nX]
 cases q1:lG (dB (.name m) (cR B [m]) 0) m with
 |
  none =>
  simp only[bq,bL]
  exact⟨fun _=>kX.no _ _ ((aX _).mpr trivial),fun h=>(by cases h)⟩
 |
  some d =>
  simp only[be,ba]
  refine⟨fun h=>(by cases h),fun _=>?_⟩
  obtain⟨ed,wd,td,rfl,rfl⟩:=hc1 d q1
  have p1:=Gd hm wd hw (wd.i6 td (cQ.1 q1).small) hl
  have g1:=rY (hw.qt.sub (x:=m) wd.qt)
  rw[hT,td]at p1 g1
  simp only[bJ]at p1
  repeat refine⟨by omega,?_⟩
  refine aQ p1 (kX.ne g1) ?_
  rintro r o ⟨rfl,c2,d2,hd2,rfl,hc2⟩
  simp only[↓zq,zs,ac,zt,gC hd2]
  exact⟨rfl,c2,d2,hd2,rfl,hc2⟩
theorem I3(s:Nm):aq Tryz.prog 96 [.v (.string (mk s))] [] (bK (uy (cJ s))):=by
 refine Qv _ ?_
 unfold Iz
 refine aQ (Gy s) (jG.ne _ _ (fun h=>h)) ?_
 rintro r o ⟨c,d,hd,rfl,hh⟩
 have hhas:bH [.str,.sl] [.v (.string (mk c)),d] 0:=by simp[bH,dW,hd]
 simp only[↓zq,zs,ac,zt]
 refine⟨hhas,fun h=>?_,fun h=>?_⟩
 ·rw[ud]at h
  have:qK s=none:=by cases hq:qK s<;>simp[hq]at h |-
  unfold cJ;rw[this];exact⟨rfl,rfl⟩
 ·rw[ud]at h
  obtain⟨t,ht⟩:=bR.1 h
  obtain⟨e,he,hw,hte,hats,hok⟩:=nU ht
  obtain⟨e',he',hce⟩:=hh (by rw[he];rfl)
  rw[he]at he';cases he'
  have notRec:(∀a,t≠.rc a)->cJ s=none:=fun hn=>by
   unfold cJ;rw[ht]
   cases t<;>first|rfl|exact absurd rfl (hn _)
  rw[hce,di]
  cases hw with
  |
   @atom c hc =>
   have hn:cJ s=none:=notRec fun a q=>by
    rw[<-hte]at q
    simp only[cR]at q
    split at q
    ·cases q
    ·split at q
     ·cases q
     ·split at q<;>cases q
   rw[hn]
   refine ai (Ae c _ ((aX _).mpr trivial) hc) ?_
   simp only[↓zq,zs,ac,zt]
   exact⟨fun _=>⟨rfl,rfl⟩,fun h=>by simp at h⟩
  |
   @plus x y hx hy =>
   have hn:cJ s=none:=notRec fun a q=>by rw[<-hte,dJ]at q;cases q
   rw[hn]
   simp only[bJ]
   refine ai (nY [43] x y) ?_
   simp only[↓zq,zs,ac,zt]
   exact⟨fun _=>⟨rfl,rfl⟩,fun h=>by simp at h⟩
  |
   @times x y hx hy =>
   have hn:cJ s=none:=notRec fun a q=>by rw[<-hte,dr]at q;cases q
   rw[hn]
   simp only[bJ]
   refine ai (nY [42] x y) ?_
   simp only[↓zq,zs,ac,zt]
   exact⟨fun _=>⟨rfl,rfl⟩,fun h=>by simp at h⟩
  |
   @rc m B hm hB =>
   have hrt:cR (.list [.atom dE,.atom m,B]) []=.rc (cR B [m]):=ff _ _ _
   rw[hrt]at hte
   have hq:cJ s=(nX (cR B [m]) m).bind told:=by
    unfold cJ;rw[ht,<-hte]
    show (nX (cR B [m]) l8).bind told=_
    rw[GR (uq (by rw[ht,<-hte])) (by
     cases q:bn m (cR B [m])with
     |false=>rfl
     |true=>exact absurd (by simp) (na hB [m] m q).2)]
   rw[hq]
   simp only[bJ]
   refine ai (nY dE (.atom m) B) ?_
   simp only[↓zq,zs,ac,zt]
   refine⟨fun h=>by simp at h,fun _=>?_⟩
   have hgood:∀d,nX (cR B [m]) m=some d->fU d/\(uR (.rc (cR B [m]))->uR d):=fun d hd=>rk (Wf.rc hm hB) hrt hm hd
   refine aQ (Q6 hm hB hats) (kX.ne fun t h=>(hgood t h).1) ?_
   rintro r o ⟨rfl,c1,d1,hd1,rfl,hc1⟩
   simp only[↓zq,zs,ac,zt,gC hd1]
   cases q1:nX (cR B [m]) m with
   |
    none =>
    simp only[bq,bL]
    exact⟨fun _=>⟨rfl,rfl⟩,fun h=>(by cases h)⟩
   |
    some d =>
    simp only[be,ba]
    refine⟨fun h=>(by cases h),fun _=>?_⟩
    obtain⟨ed,wd,td,rfl,rfl⟩:=hc1 d q1
    have hl:d.aE<=400:=by
     simp only[nX,bg,eM]at q1
     obtain⟨_,_,h1,h2⟩:=q1
     rw[<-h2];exact h1
    have hcn:=Qc wd (wd.i6 td hl) (by rw[td];exact(hgood d q1).2 (hte ▸ AO ht))
    rw[td]at hcn
    refine ai hcn ?_
    cases told d<;>simp only[uy,↓zq,zs,ac,zt]<;>exact⟨rfl,rfl⟩
end Go.Proofs.Trees
namespace Go.Proofs.Trees
open Go Go.VL Go.RowKit
def vT(n:Nat):Vl->Ty->Bool
 | .u,.one=>true
 | .el k,.name _=>decide (k<n)
 | .l w,.plus a _=>vT n w a
 | .r w,.plus _ b=>vT n w b
 | .p x y,.times a b=>vT n x a&&vT n y b
 | .f w,.rc a=>vT n w (dB (.rc a) a 0)
 |_,_=>false
def l7(us:List Ty):Ty->Nat->Ty
 | .bQ k,i=>if k<i then .bQ k else us.getD (k-i) .zero
 | .plus a b,i=>.plus (l7 us a i) (l7 us b i)
 | .times a b,i=>.times (l7 us a i) (l7 us b i)
 | .rc a,i=>.rc (l7 us a (i+1))
 |t,_=>t
def yX:List Fr->List Ty
 |[]=>[]
 |f::r=>l7 (yX r) (yz f.ex r) 0::yX r
theorem lU(u:Ty):∀(t:Ty) {i:Nat},jv t i->dB u t i=t
 | .bQ k,i,h=>by simp only[dB];rw[if_neg (by have:k<i:=h;omega)]
 | .plus a b,i,h=>by simp only[dB];rw[lU u a h.1,lU u b h.2]
 | .times a b,i,h=>by simp only[dB];rw[lU u a h.1,lU u b h.2]
 | .rc a,i,h=>by simp only[dB];rw[lU u a (i:=i+1) h]
 | .zero,_,_=>rfl
 | .one,_,_=>rfl
 | .name _,_,_=>rfl
theorem pz(us:List Ty):∀(t:Ty) {i:Nat},jv t i->l7 us t i=t
 | .bQ k,i,h=>by simp only[l7];rw[if_pos (by have:k<i:=h;omega)]
 | .plus a b,i,h=>by simp only[l7];rw[pz us a h.1,pz us b h.2]
 | .times a b,i,h=>by simp only[l7];rw[pz us a h.1,pz us b h.2]
 | .rc a,i,h=>by simp only[l7];rw[pz us a (i:=i+1) h]
 | .zero,_,_=>rfl
 | .one,_,_=>rfl
 | .name _,_,_=>rfl
theorem xA{us:List Ty}(hu:∀u,u∈us->jv u 0)(k:Nat):jv (us.getD k .zero) 0:=by
 by_cases h:k<us.length
 ·rw[aa,bp h];exact hu _ (bF h)
 ·rw[aa,List.getElem?_eq_none (by omega)];trivial
theorem pV{us:List Ty}(hu:∀u,u∈us->jv u 0):∀(t:Ty) (i:Nat),jv (l7 us t i) i
 |
  .bQ k,i=>by
  simp only[l7]
  split
  ·rename_i h;exact h
  ·exact gA _ (xA hu _) (dP _)
 | .plus a b,i=>⟨pV hu a i,pV hu b i⟩
 | .times a b,i=>⟨pV hu a i,pV hu b i⟩
 | .rc a,i=>pV hu a (i+1)
 | .zero,_=>trivial
 | .one,_=>trivial
 | .name _,_=>trivial
theorem nl{us:List Ty}(hu:∀u,u∈us->jv u 0)(U:Ty):∀(t:Ty) (i:Nat),dB U (l7 us t (i+1)) i=l7 (U::us) t i
 |
  .bQ k,i=>by
  simp only[l7]
  by_cases h1:k<i
  ·rw[if_pos (by omega),if_pos h1];simp only[dB];rw[if_neg (by omega)]
  ·rw[if_neg h1]
   by_cases h2:k=i
   ·subst h2;rw[if_pos (by omega)];simp[dB]
   ·rw[if_neg (by omega),lU U _ (gA _ (xA hu _) (dP _)),show k-i=(k-(i+1))+1 by omega,List.getD_cons_succ]
 | .plus a b,i=>by simp only[l7,dB];rw[nl hu U a i,nl hu U b i]
 | .times a b,i=>by simp only[l7,dB];rw[nl hu U a i,nl hu U b i]
 | .rc a,i=>by simp only[l7,dB];rw[nl hu U a (i+1)]
 | .zero,_=>rfl
 | .one,_=>rfl
 | .name _,_=>rfl
theorem wA:∀env:List Fr,∀u,u∈yX env->jv u 0
 |[],u,h=>by cases h
 |
  f::r,u,h=>by
  rcases aJ.1 h with rfl|h
  ·exact pV (wA r) _ 0
  ·exact wA r u h
theorem D5{env:List Fr}(h:WF env):∀{u:Nat} {g:Fr},env[u]?=some g->(yX env).getD u .zero=l7 (yX g.out) (yz g.ex g.out) 0:=by
 induction h with
 |nil=>intro u g hg;simp at hg
 |
  cons hs hok hx ht hf hr ih =>
  intro u g hg
  cases u with
  |zero=>simp at hg;subst hg;rfl
  |
   succ u =>
   have:=ih (u:=u) (g:=g) (by simpa using hg)
   simpa[yX]using this
theorem pB(n:Nat):∀(m:Nat) (v:Vl),v.nodes<=m->∀(e:E) (env:List Fr) (t:Ty),Ask e env t->eW n v (e,env)=vT n v (l7 (yX env) t 0)
 |0,v,hm=>by have:=dm v;omega
 |
  m+1,v,hm=>by
  intro e env t A
  have recCase:∀(x a b:E) (env:List Fr) (t1:Ty),Ask (.list [x,a,b]) env (.rc t1)->x.at=[114,101,99]->eW n v (.list [x,a,b],env)=vT n v (l7 (yX env) (.rc t1) 0):=by
   intro x a b env t1 A hx
   have hhd:hd (.list [x,a,b]) env=(.list [x,a,b],env):=pq A.wf
   obtain⟨t1',he1,h1,f1,hw1⟩:=jq A.wf A.ok hx A.ty A.cl
   cases he1
   obtain⟨ok1,ok2,ok3,_⟩:=A.ok
   have A':Ask b (.mk a.at (.list [x,a,b]) env::env) t1:=⟨ok3,hw1,h1,f1⟩
   cases v with
   |
    f w =>
    simp only[Vl.nodes]at hm
    simp only[eW,hhd,hx,beq_self_eq_true,bV]
    rw[pB n m w (by omega) b _ t1 A']
    have hty:yz (.list [x,a,b]) env=.rc t1:=by unfold yz;rw[A.ty];rfl
    show vT n w (l7 (l7 (yX env) (yz (.list [x,a,b]) env) 0::yX env) t1 0)=vT n w (dB (.rc (l7 (yX env) t1 1)) (l7 (yX env) t1 1) 0)
    rw[hty,nl (wA env)]
    rfl
   |_=>simp[eW,hhd,hx,l7,vT]
  rcases gp A.wf A.ty with⟨hb,hq⟩|⟨u,g,rfl,hq,hu⟩
  ·have hhd:hd e env=(e,env):=km hq
   rcases fK A.ty hb A.cl with⟨rfl,rfl⟩|⟨rfl,rfl⟩|⟨s,rfl,rfl,hp,h0,h1⟩|⟨x,a,b,t1,t2,rfl,hx,rfl,ha,hbb⟩|⟨x,a,b,t1,t2,rfl,hx,rfl,ha,hbb⟩|⟨x,a,b,t1,rfl,hx,rfl⟩
   ·have hp0:hD [48]=false:=rfl
    cases v<;>simp[eW,hhd,l7,vT,hp0]
   ·cases v<;>simp[eW,hhd,l7,vT]
   ·cases v<;>simp[eW,hhd,l7,vT,hp,h1]
   ·obtain⟨ok1,ok2,ok3,_⟩:=A.ok
    obtain⟨f1,f2⟩:=fm A.cl
    cases v with
    |
     l w =>
     simp only[Vl.nodes]at hm
     simp only[eW,hhd,hx,beq_self_eq_true,bV,l7,vT]
     exact pB n m w (by omega) a env t1 ⟨ok2,A.wf,ha,f1⟩
    |
     r w =>
     simp only[Vl.nodes]at hm
     simp only[eW,hhd,hx,beq_self_eq_true,bV,l7,vT]
     exact pB n m w (by omega) b env t2 ⟨ok3,A.wf,hbb,f2⟩
    |_=>simp[eW,hhd,hx,l7,vT]
   ·obtain⟨ok1,ok2,ok3,_⟩:=A.ok
    obtain⟨f1,f2⟩:=eV A.cl
    cases v with
    |
     p w w' =>
     simp only[Vl.nodes]at hm
     simp only[eW,hhd,hx,beq_self_eq_true,bV,l7,vT]
     rw[pB n m w (by omega) a env t1 ⟨ok2,A.wf,ha,f1⟩,pB n m w' (by omega) b env t2 ⟨ok3,A.wf,hbb,f2⟩]
    |_=>simp[eW,hhd,hx,l7,vT]
   ·exact recCase x a b env t1 A hx
  ·obtain⟨x,a,b,t',hfe,hok,hx,ht',hf',hwf,hlt⟩:=pd A.wf hq
   have hrec:hd g.ex g.out=(g.ex,g.out):=by rw[hfe];exact pq hwf
   rw[uj n v (qR hq) hrec]
   have hcl:l7 (yX env) (.bQ u) 0=l7 (yX g.out) (yz g.ex g.out) 0:=by
    simp only[l7];rw[if_neg (by omega),Nat.sub_zero];exact D5 A.wf hu
   rw[hcl]
   have hty:yz g.ex g.out=t':=by unfold yz;rw[ht'];rfl
   rw[hty,hfe]
   rw[hfe]at ht'
   obtain⟨t1,_,_,rfl⟩:=dz hx ht'
   exact recCase x a b g.out t1 ⟨hok,hwf,ht',hf'⟩ hx
theorem ng{n:Nat}{v:Vl}{e:E}{t:Ty}(A:Ask e [] t):eW n v (e,[])=vT n v t:=by
 have:=pB n v.nodes v (au _) e [] t A
 rw[this]
 obtain⟨w,ht⟩:=kf e [] t A.ok (fun w hw=>by cases hw) A.ty
 have hl:=tF w []
 rw[ht]at hl
 exact congrArg (vT n v) (pz _ t hl)
def eN(σ:Nm->Option Ty):Ty->Ty
 | .name s=>(σ s).getD (.name s)
 | .plus a b=>.plus (eN σ a) (eN σ b)
 | .times a b=>.times (eN σ a) (eN σ b)
 | .rc a=>.rc (eN σ a)
 |t=>t
def iQ(σ:Nm->Option Ty)(x:Nm)(u:Ty):Nm->Option Ty:=fun s=>if s=x then some u else σ s
theorem iq(σ:Nm->Option Ty)(x:Nm)(u:Ty):∀t:Ty,eN σ (sub x u t)=eN (iQ σ x (eN σ u)) t
 |
  .name s=>by
  by_cases h:s=x
  ·simp[sub,eN,iQ,h]
  ·simp[sub,eN,iQ,h]
 | .plus a b=>by simp only[sub,eN,iq σ x u a,iq σ x u b]
 | .times a b=>by simp only[sub,eN,iq σ x u a,iq σ x u b]
 | .rc a=>by simp only[sub,eN,iq σ x u a]
 | .zero=>rfl
 | .one=>rfl
 | .bQ k=>rfl
def Ct(σ:Nm->Option Ty):Prop:=∀s u,σ s=some u->jv u 0
theorem jO{σ:Nm->Option Ty}(hσ:Ct σ):∀(t:Ty) {i:Nat},jv t i->jv (eN σ t) i
 |
  .name s,i,_=>by
  simp only[eN]
  cases q:σ s with
  |none=>trivial
  |some u=>exact gA u (hσ s u q) (dP _)
 | .plus a b,i,h=>⟨jO hσ a h.1,jO hσ b h.2⟩
 | .times a b,i,h=>⟨jO hσ a h.1,jO hσ b h.2⟩
 | .rc a,i,h=>jO hσ a (i:=i+1) h
 | .zero,_,_=>trivial
 | .one,_,_=>trivial
 | .bQ k,_,h=>h
theorem jD{σ:Nm->Option Ty}(hσ:Ct σ)(x:Nm)(U:Ty):∀(t:Ty) (i:Nat),bn x t=false->eN (iQ σ x U) (dB (.name x) t i)=dB U (eN σ t) i
 |
  .name s,i,h=>by
  have hs:s≠x:=by simpa[bn]using h
  simp only[dB,eN,iQ,if_neg hs]
  cases q:σ s with
  |none=>rfl
  |some u=>exact(lU U u (gA u (hσ s u q) (dP _))).symm
 |
  .bQ k,i,h=>by
  simp only[dB,eN]
  split
  ·simp[eN,iQ]
  ·rfl
 |
  .plus a b,i,h=>by
  simp only[bn,cb]at h
  simp only[dB,eN,jD hσ x U a i h.1,jD hσ x U b i h.2]
 |
  .times a b,i,h=>by
  simp only[bn,cb]at h
  simp only[dB,eN,jD hσ x U a i h.1,jD hσ x U b i h.2]
 | .rc a,i,h=>by simp only[dB,eN,jD hσ x U a (i+1) h]
 | .zero,_,_=>rfl
 | .one,_,_=>rfl
theorem lr{σ:Nm->Option Ty}(hσ:Ct σ)(x:Nm){u:Ty}(hu:jv u 0):Ct (iQ σ x u):=fun s v h=>by
 unfold iQ at h
 split at h
 ·cases h;exact hu
 ·exact hσ s v h
theorem jd(x:Nm):∀(n:Nat) (c:Vl) (t:Ty) (i:Nat),c.nodes<=n->dK (dB (.name x) t i) c=dK t c
 |0,c,_,_,h=>by have:=dm c;omega
 |
  n+1,c,t,i,hn=>by
  cases t with
  |bQ k=>simp only[dB];split<;>(cases c<;>rfl)
  |
   plus a b =>
   cases c with
   |l c=>simp only[Vl.nodes]at hn;exact jd x n c a i (by omega)
   |r c=>simp only[Vl.nodes]at hn;exact jd x n c b i (by omega)
   |_=>rfl
  |
   times a b =>
   cases c with
   |
    l c =>
    cases c with
    |p y z=>simp only[Vl.nodes]at hn;exact jd x n y a i (by omega)
    |_=>rfl
   |
    r c =>
    cases c with
    |p y z=>simp only[Vl.nodes]at hn;exact jd x n z b i (by omega)
    |_=>rfl
   |_=>rfl
  |
   rc a =>
   cases c with
   |
    f c =>
    cases c with
    |l y=>simp only[Vl.nodes]at hn;exact jd x n y a (i+1) (by omega)
    |
     r c =>
     cases c with
     |
      p y z =>
      simp only[Vl.nodes]at hn
      have h1:=jd x n y a (i+1) (by omega)
      have h2:=jd x n z (.rc a) i (by omega)
      show (dK (dB (.name x) a (i+1)) y&&dK (.rc (dB (.name x) a (i+1))) z)=(dK a y&&dK (.rc a) z)
      rw[h1]
      exact congrArg _ h2
     |_=>rfl
    |_=>rfl
   |_=>rfl
  |_=>rfl
end Go.Proofs.Trees
namespace Go.Proofs.Trees
open Go Go.VL Go.RowKit
theorem dN(x:Nm):∀(n:Nat) (c:Vl) (t:Ty) (i:Nat) (v:Vl),c.nodes<=n->cW (dB (.name x) t i) c v=cW t c v
 |0,c,_,_,_,h=>by have:=dm c;omega
 |
  n+1,c,t,i,v,hn=>by
  cases t with
  |bQ k=>simp only[dB];split<;>(cases c<;>rfl)
  |
   plus a b =>
   cases c with
   |l c=>simp only[Vl.nodes]at hn;exact congrArg Vl.l (dN x n c a i v (by omega))
   |r c=>simp only[Vl.nodes]at hn;exact congrArg Vl.r (dN x n c b i v (by omega))
   |_=>rfl
  |
   times a b =>
   cases c with
   |
    l c =>
    cases c with
    |p y z=>simp only[Vl.nodes]at hn;exact congrArg (fun q=>Vl.p q z) (dN x n y a i v (by omega))
    |_=>rfl
   |
    r c =>
    cases c with
    |p y z=>simp only[Vl.nodes]at hn;exact congrArg (Vl.p y) (dN x n z b i v (by omega))
    |_=>rfl
   |_=>rfl
  |
   rc a =>
   cases c with
   |
    f c =>
    cases c with
    |l y=>simp only[Vl.nodes]at hn;exact congrArg Vl.f (dN x n y a (i+1) v (by omega))
    |
     r c =>
     cases c with
     |
      p y z =>
      simp only[Vl.nodes]at hn
      have h2:=dN x n z (.rc a) i v (by omega)
      have h1:=dN x n y a (i+1) (cW (.rc a) z v) (by omega)
      show Vl.f (cW (dB (.name x) a (i+1)) y (cW (.rc (dB (.name x) a (i+1))) z v))=Vl.f (cW a y (cW (.rc a) z v))
      have h3:cW (.rc (dB (.name x) a (i+1))) z v=cW (.rc a) z v:=h2
      rw[h3,h1]
     |_=>rfl
    |_=>rfl
   |_=>rfl
  |_=>rfl
theorem Cq{n:Nat}{c:Vl}{a:Ty}(h:vT n c (.rc a)=true):∃w,c=.f w/\vT n w (dB (.rc a) a 0)=true:=by
 cases c with
 |f w=>exact⟨w,rfl,h⟩
 |_=>simp[vT]at h
theorem je{n:Nat}{c:Vl}{a b:Ty}(h:vT n c (.plus a b)=true):(∃w,c=.l w/\vT n w a=true)\/∃w,c=.r w/\vT n w b=true:=by
 cases c with
 |l w=>exact .inl ⟨w,rfl,h⟩
 |r w=>exact .inr ⟨w,rfl,h⟩
 |_=>simp[vT]at h
theorem gq{n:Nat}{c:Vl}{a b:Ty}(h:vT n c (.times a b)=true):∃x y,c=.p x y/\vT n x a=true/\vT n y b=true:=by
 cases c with
 |p x y=>simp only[vT,aw]at h;exact⟨x,y,rfl,h.1,h.2⟩
 |_=>simp[vT]at h
theorem oC{σ:Nm->Option Ty}(hσ:Ct σ){a c d:Ty}{x:Nm}(ha:jv (.rc a) 0)(hc:jv c 0)(hd:jv d 0):∃X,eN σ (pL a x c d)=.rc X/\dB (.rc X) X 0=.plus (eN (iQ σ x (eN σ (.rc a))) c) (.times (eN (iQ σ x (eN σ (.rc a))) d) (eN σ (pL a x c d))):=by
 refine⟨.plus (eN σ (sub x (.rc a) c)) (.times (eN σ (sub x (.rc a) d)) (.bQ 0)),rfl,?_⟩
 have h1:=jO hσ (sub x (.rc a) c) (kA ha c hc)
 have h2:=jO hσ (sub x (.rc a) d) (kA ha d hd)
 simp only[dB,lU _ _ h1,lU _ _ h2,if_true]
 rw[iq,iq]
 simp only[pL,eN,iq]
theorem vc(n:Nat):∀(m:Nat) (c:Vl),c.nodes<=m->∀(t:Ty) (s:Nm) (d:Ty) (σ:Nm->Option Ty),Dv t s d->Ct σ->jv t 0->vT n c (eN σ d)=true->dK t c=true
 |0,c,h=>by have:=dm c;omega
 |
  m+1,c,hm=>by
  intro t s d σ hd hσ hl hv
  cases hd with
  |zero=>cases c<;>rfl
  |one=>cases c<;>rfl
  |bQ=>cases c<;>rfl
  |hit=>cases c<;>rfl
  |qn=>cases c<;>rfl
  |
   plus h1 h2 _ =>
   rcases je hv with⟨w,rfl,hw⟩|⟨w,rfl,hw⟩
   ·simp only[Vl.nodes]at hm;exact vc n m w (by omega) _ s _ σ h1 hσ hl.1 hw
   ·simp only[Vl.nodes]at hm;exact vc n m w (by omega) _ s _ σ h2 hσ hl.2 hw
  |
   times h1 h2 _ =>
   rcases je hv with⟨w,rfl,hw⟩|⟨w,rfl,hw⟩
   ·obtain⟨x,y,rfl,hx,hy⟩:=gq hw
    simp only[Vl.nodes]at hm;exact vc n m x (by omega) _ s _ σ h1 hσ hl.1 hx
   ·obtain⟨x,y,rfl,hx,hy⟩:=gq hw
    simp only[Vl.nodes]at hm;exact vc n m y (by omega) _ s _ σ h2 hσ hl.2 hy
  |
   @rc a _ c0 d0 x hx hs h1 h2 hsz =>
   have lo:jv (dB (.name x) a 0) 0:=gG x a hl
   obtain⟨X,e1,e2⟩:=oC (x:=x) hσ hl (h1.lc lo) (h2.lc lo)
   have hv':=hv
   rw[e1]at hv'
   obtain⟨w,rfl,hw⟩:=Cq hv'
   rw[e2]at hw
   have hcl:=lr hσ x (jO hσ (.rc a) hl)
   rcases je hw with⟨y,rfl,hy⟩|⟨y,rfl,hy⟩
   ·simp only[Vl.nodes]at hm
    have:=vc n m y (by omega) _ s _ _ h1 hcl lo hy
    rw[jd x y.nodes y a 0 (au _)]at this
    exact this
   ·obtain⟨y,z,rfl,hy,hz⟩:=gq hy
    simp only[Vl.nodes]at hm
    have q1:=vc n m y (by omega) _ x _ _ h2 hcl lo hy
    rw[jd x y.nodes y a 0 (au _)]at q1
    have q2:=vc n m z (by omega) (.rc a) s _ σ (.rc x hx hs h1 h2 hsz) hσ hl hz
    show (dK a y&&dK (.rc a) z)=true
    rw[q1,q2];rfl
theorem qb(n:Nat):∀(m:Nat) (c:Vl),c.nodes<=m->∀(t:Ty) (s:Nm) (d:Ty) (σ:Nm->Option Ty),Dv t s d->Ct σ->jv t 0->vT n c (eN σ d)=true->∀v,vT n v (eN σ (.name s))=true->vT n (cW t c v) (eN σ t)=true
 |0,c,h=>by have:=dm c;omega
 |
  m+1,c,hm=>by
  intro t s d σ hd hσ hl hv v hvv
  have no:∀c,vT n c .zero=false:=fun c=>by cases c<;>rfl
  cases hd with
  |zero=>rw[show eN σ .zero=.zero from rfl,no]at hv;cases hv
  |one=>rw[show eN σ .zero=.zero from rfl,no]at hv;cases hv
  |bQ=>rw[show eN σ .zero=.zero from rfl,no]at hv;cases hv
  |qn=>rw[show eN σ .zero=.zero from rfl,no]at hv;cases hv
  |hit=>rw[kT];exact hvv
  |
   plus h1 h2 _ =>
   rcases je hv with⟨w,rfl,hw⟩|⟨w,rfl,hw⟩
   ·simp only[Vl.nodes]at hm;exact qb n m w (by omega) _ s _ σ h1 hσ hl.1 hw v hvv
   ·simp only[Vl.nodes]at hm;exact qb n m w (by omega) _ s _ σ h2 hσ hl.2 hw v hvv
  |
   times h1 h2 _ =>
   rcases je hv with⟨w,rfl,hw⟩|⟨w,rfl,hw⟩
   ·obtain⟨x,y,rfl,hx,hy⟩:=gq hw
    simp only[Vl.nodes]at hm
    have:=qb n m x (by omega) _ s _ σ h1 hσ hl.1 hx v hvv
    show (vT n _ _&&vT n _ _)=true
    rw[this,hy];rfl
   ·obtain⟨x,y,rfl,hx,hy⟩:=gq hw
    simp only[Vl.nodes]at hm
    have:=qb n m y (by omega) _ s _ σ h2 hσ hl.2 hy v hvv
    show (vT n _ _&&vT n _ _)=true
    rw[this,hx];rfl
  |
   @rc a _ c0 d0 x hx hs h1 h2 hsz =>
   have lo:jv (dB (.name x) a 0) 0:=gG x a hl
   obtain⟨X,e1,e2⟩:=oC (x:=x) hσ hl (h1.lc lo) (h2.lc lo)
   have hv':=hv
   rw[e1]at hv'
   obtain⟨w,rfl,hw⟩:=Cq hv'
   rw[e2]at hw
   have hcl:=lr hσ x (jO hσ (.rc a) hl)
   have hop:eN (iQ σ x (eN σ (.rc a))) (dB (.name x) a 0)=dB (eN σ (.rc a)) (eN σ a) 0:=jD hσ x _ a 0 hx
   have hns:eN (iQ σ x (eN σ (.rc a))) (.name s)=eN σ (.name s):=by simp only[eN,iQ,if_neg (Ne.symm hs)]
   have hnx:eN (iQ σ x (eN σ (.rc a))) (.name x)=eN σ (.rc a):=by simp[eN,iQ]
   rcases je hw with⟨y,rfl,hy⟩|⟨y,rfl,hy⟩
   ·simp only[Vl.nodes]at hm
    have:=qb n m y (by omega) _ s _ _ h1 hcl lo hy v (by rw[hns];exact hvv)
    rw[hop,dN x y.nodes y a 0 v (au _)]at this
    exact this
   ·obtain⟨y,z,rfl,hy,hz⟩:=gq hy
    simp only[Vl.nodes]at hm
    have q2:=qb n m z (by omega) (.rc a) s _ σ (.rc x hx hs h1 h2 hsz) hσ hl hz v hvv
    have q1:=qb n m y (by omega) _ x _ _ h2 hcl lo hy (cW (.rc a) z v) (by rw[hnx];exact q2)
    rw[hop,dN x y.nodes y a 0 _ (au _)]at q1
    exact q1
def Du:Nm->Option Ty:=fun _=>none
theorem qS:Ct Du:=fun _ _ h=>by cases h
theorem iV:∀t:Ty,eN Du t=t
 | .name s=>rfl
 | .plus a b=>by simp only[eN,iV a,iV b]
 | .times a b=>by simp only[eN,iV a,iV b]
 | .rc a=>by simp only[eN,iV a]
 | .zero=>rfl
 | .one=>rfl
 | .bQ k=>rfl
theorem Gr{n:Nat}{a D:Ty}{x:Nm}(hx:bn x a=false)(hl:jv (.rc a) 0)(h:nX a x=some D){c:Vl}(hc:vT n c D=true) :
 dK a c=true/\∀v,vT n v (.rc a)=true->vT n (.f (cW a c v)) (.rc a)=true:=by
 simp only[nX,bg,cQ,eM]at h
 obtain⟨d,hd,_,rfl⟩:=h
 have lo:jv (dB (.name x) a 0) 0:=gG x a hl
 have hcl:=lr qS x hl
 have e1:sub x (.rc a) d=eN (iQ Du x (.rc a)) d:=by
  have:=iq Du x (.rc a) d
  rw[iV,iV]at this;exact this
 rw[e1]at hc
 have h1:=vc n c.nodes c (au _) _ x _ _ hd hcl lo hc
 rw[jd x c.nodes c a 0 (au _)]at h1
 refine⟨h1,fun v hv=>?_⟩
 have h2:=qb n c.nodes c (au _) _ x _ _ hd hcl lo hc v (by simpa[eN,iQ]using hv)
 rw[dN x c.nodes c a 0 v (au _),jD qS x _ a 0 hx,iV]at h2
 exact h2
end Go.Proofs.Trees
namespace Go.Proofs.Trees
open Go Go.VL Go.RowKit
theorem Aj{env:List Fr}(h:WF env):∀w,w∈names env->dh w=true:=by
 induction h with
 |nil=>intro w hw;cases hw
 |
  cons hs _ _ _ _ _ ih =>
  intro w hw
  simp only[names,aN,aV]at hw
  rcases hw with hw|rfl
  ·exact ih w hw
  ·exact hs
theorem A1{ar:List (List UInt8)}{k:Nat}(h:k<ar.length):gk ar k∈ar:=by
 unfold gk
 have:ar.length-1-k<ar.length:=by omega
 simp[aa,this]
def Bv(s:List UInt8)(ar:List (List UInt8)):Prop:=hD s=true\/(bN s ar ar.length).isSome=true
theorem wh{s:List UInt8}{ar:List (List UInt8)}{u:Nat}(hl:∀w,w∈ar->dh w=true)(h:bN s ar ar.length=some u):dh s=true:=by
 obtain⟨h1,h2⟩:=fG _ _ (au _) h
 rw[<-h2];exact hl _ (A1 h1)
theorem HK{s0 s:List UInt8}{ar:List (List UInt8)}{t:Ty}(ht:cS (.atom s0) ar=some t)(hl:∀w,w∈ar->dh w=true)(hs:Bv s ar):eB t (oB s ar)=decide (s0=s):=by
 have h48:∀b:UInt8,hD [b]=false->dh [b]=false->s≠[b]:=fun b h1 h2 e=>by
  subst e
  rcases hs with h|h
  ·rw[h1]at h;cases h
  ·obtain⟨u,hu⟩:=bR.1 h
   rw[wh hl hu]at h2;cases h2
 simp only[cS]at ht
 split at ht
 ·rename_i e;cases ht;subst e
  have:=h48 48 rfl rfl
  rw[decide_eq_false (fun h=>this h.symm)];cases oB s ar<;>rfl
 ·split at ht
  ·rename_i e;cases ht;subst e
   have:=h48 49 rfl rfl
   rw[decide_eq_false (fun h=>this h.symm)];cases oB s ar<;>rfl
  ·split at ht
   ·rename_i hp
    cases ht
    unfold oB
    cases e:bN s ar ar.length with
    |none=>rfl
    |
     some u =>
     have hloo:=wh hl e
     show false=_
     rw[decide_eq_false]
     rintro rfl
     rw[kl hp]at hloo;cases hloo
   ·rename_i hnp
    split at ht
    ·split at ht
     ·rename_i u hu
      cases ht
      unfold oB
      cases e:bN s ar ar.length with
      |
       none =>
       show false=_
       rw[decide_eq_false]
       rintro rfl
       rw[hu]at e;cases e
      |
       some u' =>
       show decide (u=u')=_
       rw[ct,decide_eq_true_eq,decide_eq_true_eq]
       constructor
       ·rintro rfl
        rw[<-(fG _ _ (au _) hu).2,<-(fG _ _ (au _) e).2]
       ·rintro rfl
        rw[hu]at e;cases e;rfl
     ·rename_i hn
      cases ht
      unfold oB
      cases e:bN s ar ar.length with
      |none=>rfl
      |
       some u =>
       show false=_
       rw[decide_eq_false]
       rintro rfl
       rw[hn]at e;cases e
    ·cases ht
theorem D8{b:E}{ar:List (List UInt8)}{w:List UInt8}{t:Ty}(hb:cS b (ar++[w])=some t)(hw:dh w=true)(hs:Bv w ar):uU t (oB w ar).up=false:=by
 rcases hs with h|h
 ·rw[kl h]at hw;cases hw
 ·obtain⟨u,hu⟩:=bR.1 h
  rw[oB,hu];exact FJ hb hu
theorem zl{s w:List UInt8}{ar:List (List UInt8)}(h:w≠s)(hs:Bv s ar):Bv s (ar++[w]):=by
 rcases hs with h1|h1
 ·exact .inl h1
 ·right;rw[jC ar h];obtain⟨u,hu⟩:=bR.1 h1;rw[hu];rfl
def Oq(e:E)(s:List UInt8)(t:Ty)(tg:Tg)(v:Vl):Prop:=aq Tryz.prog 92 [.agg [.v (.string (mk e.at)),e.sp],.v (.string (mk s)),.agg [.v (.string (mk v.cG.at)),v.cG.sp]] [] (bK (.sl (lZ (cj t tg v))))
theorem EE(n:Nat):∀(m:Nat) (v:Vl),v.nodes<=m->∀(e:E) (env:List Fr) (t:Ty),Ask e env t->eW n v (e,env)=true->env.length+v.nodes<100000->∀(s:List UInt8),Bv s (names env)->Oq e s t (oB s (names env)) v
 |0,v,hm=>by have:=dm v;omega
 |
  m+1,v,hm=>by
  intro e env t A hv hl s hs
  have hloo:=Aj A.wf
  unfold Oq
  refine Pk _ _ _ _ _ ((aX _).mpr trivial) ((aX _).mpr trivial) ?_
  have hlen:=mW t (oB s (names env)) v
  have atomCase:∀s0,e=.atom s0->stuck t v=true->eT Tryz.prog 244 (wo (mk e.at) e.sp (mk s) (mk v.cG.at) v.cG.sp) fun _ xs obs=>bK (.sl (lZ (cj t (oB s (names env)) v))) (xs.headD .any) obs:=by
   rintro s0 rfl hst
   have hat:=HK A.ty hloo hs
   have hne:s0≠[]:=A.ok
   simp only[wo,E.at,↓zq,zs,ac,zt]
   refine⟨fun _=>⟨fun h=>?_,fun h=>?_⟩,fun h=>absurd h hne⟩
   ·rw[decide_eq_true h]at hat
    rw[mC v hat]
    refine⟨⟨zh _ _ _ _,by omega⟩,?_⟩
    simp[bK,lZ,Vl.cG,E.at,E.sp]
   ·rw[decide_eq_false h]at hat
    rw[dR hat hst]
    simp[bK,lZ]
  have hvh:=B3 v
  rw[di]at hvh
  rcases gp A.wf A.ty with⟨hb,hq⟩|⟨u,g,rfl,hq,hu⟩
  ·have hhd:hd e env=(e,env):=km hq
   rcases fK A.ty hb A.cl with⟨rfl,rfl⟩|⟨rfl,rfl⟩|⟨s0,rfl,rfl,hp,h0,h1⟩|⟨x,a,b,t1,t2,rfl,hx,rfl,ha,hbb⟩|⟨x,a,b,t1,t2,rfl,hx,rfl,ha,hbb⟩|⟨x,a,b,t1,rfl,hx,rfl⟩
   ·exact atomCase _ rfl (by cases v<;>rfl)
   ·exact atomCase _ rfl (by cases v<;>rfl)
   ·exact atomCase _ rfl (by cases v<;>rfl)
   ·obtain⟨ok1,ok2,ok3,_⟩:=A.ok
    obtain⟨f1,f2⟩:=fm A.cl
    have hP:=P3.of x a b
    cases v with
    |
     l w =>
     simp only[eW,hhd,hx,beq_self_eq_true,bV]at hv
     simp only[Vl.nodes]at hm hl hlen
     rw[mZ]at hlen |-
     rw[fO]at hlen
     have hW:=P2.of (.atom [108]) w.cG
     simp only[wo,E.at,↓zq,zs,ac,zt]
     refine⟨fun h=>absurd rfl h,fun _=>ai hvh ?_⟩
     simp only[vh,Vl.cG,toNat_one,bf,↓zq,zs,ac,zt,hP.1,hP.2.1,hP.2.2.1,hP.2.2.2,hW.1,hW.2.1,hW.2.2,aL]
     refine⟨fun _=>?_,fun h=>absurd rfl h⟩
     repeat refine⟨by omega,?_⟩
     refine ai (EE n m w (by omega) a env t1 ⟨ok2,A.wf,ha,f1⟩ hv (by omega) s hs) ?_
     simp only[↓zq,zs,ac]
     refine aY (KL [108] Vl.l (fun c=>rfl) (cj t1 (oB s (names env)) w) [] (by simp;omega)) ?_
     simp[↓zq,zs,ac,bK,aS,bw]
    |
     r w =>
     simp only[eW,hhd,hx,beq_self_eq_true,bV]at hv
     simp only[Vl.nodes]at hm hl hlen
     rw[nf]at hlen |-
     rw[fO]at hlen
     have hW:=P2.of (.atom [114]) w.cG
     simp only[wo,E.at,↓zq,zs,ac,zt]
     refine⟨fun h=>absurd rfl h,fun _=>ai hvh ?_⟩
     simp only[vh,Vl.cG,toNat_one,bf,↓zq,zs,ac,zt,hP.1,hP.2.1,hP.2.2.1,hP.2.2.2,hW.1,hW.2.1,hW.2.2,aL]
     refine⟨fun h=>by simp at h,fun _=>⟨fun _=>?_,fun h=>absurd rfl h⟩⟩
     repeat refine⟨by omega,?_⟩
     refine ai (EE n m w (by omega) b env t2 ⟨ok3,A.wf,hbb,f2⟩ hv (by omega) s hs) ?_
     simp only[↓zq,zs,ac]
     refine aY (KL [114] Vl.r (fun c=>rfl) (cj t2 (oB s (names env)) w) [] (by simp;omega)) ?_
     simp[↓zq,zs,ac,bK,aS,bw]
    |_=>simp[eW,hhd,hx]at hv
   ·obtain⟨ok1,ok2,ok3,_⟩:=A.ok
    obtain⟨f1,f2⟩:=eV A.cl
    have hP:=P3.of x a b
    cases v with
    |
     p w w' =>
     simp only[eW,hhd,hx,beq_self_eq_true,bV,aw]at hv
     simp only[Vl.nodes]at hm hl hlen
     rw[nk]at hlen |-
     simp only[an,fO]at hlen
     have hW:=P3.of (.atom [112]) w.cG w'.cG
     simp only[wo,E.at,↓zq,zs,ac,zt]
     refine⟨fun h=>absurd rfl h,fun _=>ai hvh ?_⟩
     simp only[vh,Vl.cG,toNat_one,bf,↓zq,zs,ac,zt,hP.1,hP.2.1,hP.2.2.1,hP.2.2.2,hW.1,hW.2.1,hW.2.2.1,hW.2.2.2,aL]
     refine⟨fun h=>by simp at h,fun _=>⟨fun h=>by simp at h,fun _=>⟨fun _=>?_,fun h=>absurd rfl h⟩⟩⟩
     repeat refine⟨by omega,?_⟩
     refine ai (EE n m w (by omega) a env t1 ⟨ok2,A.wf,ha,f1⟩ hv.1 (by omega) s hs) ?_
     simp only[↓zq,zs,ac]
     have h1:=Le s (mk []) (E.list [x,a,b]).sp ((aX _).mpr trivial) (mk []) (E.list [.atom [112],w.cG,w'.cG]).sp w w' (P3.of _ _ _) (cj t1 (oB s (names env)) w) (by omega) _ 0 [] (aZ _) (by simp;omega)
     rw[bh,aU]at h1
     refine cB h1 ?_
     simp only[↓zq,zs,ac,aX,ac,bf,hP.1,hP.2.1,hP.2.2.2,hW.1,hW.2.1,hW.2.2.2,aL]
     repeat refine⟨by omega,?_⟩
     refine ai (EE n m w' (by omega) b env t2 ⟨ok3,A.wf,hbb,f2⟩ hv.2 (by omega) s hs) ?_
     simp only[↓zq,zs,ac]
     have h2:=MC (mk []) (E.list [.atom [112],w.cG,w'.cG]).sp w w' (P3.of _ _ _) (cj t2 (oB s (names env)) w') (by omega) _ 0 (iH (fun c=>Vl.l (.p c w')) (cj t1 (oB s (names env)) w)) (aZ _) (by rw[fO];omega)
     rw[bh]at h2
     refine cB h2 ?_
     simp[↓zq,zs,ac,bK]
    |_=>simp[eW,hhd,hx]at hv
   ·obtain⟨t1',he1,h1,f1,hw1⟩:=jq A.wf A.ok hx A.ty A.cl
    cases he1
    obtain⟨ok1,ok2,ok3,_⟩:=A.ok
    obtain⟨_,hla,_,_⟩:=dz hx A.ty
    have A':Ask b (.mk a.at (.list [x,a,b]) env::env) t1:=⟨ok3,hw1,h1,f1⟩
    have hnm:names (.mk a.at (.list [x,a,b]) env::env)=names env++[a.at]:=rfl
    have hP:=P3.of x a b
    cases v with
    |
     f w =>
     simp only[eW,hhd,hx,beq_self_eq_true,bV]at hv
     simp only[Vl.nodes]at hm hl hlen
     have hW:=P2.of (.atom [102]) w.cG
     simp only[wo,E.at,↓zq,zs,ac,zt]
     refine⟨fun h=>absurd rfl h,fun _=>ai hvh ?_⟩
     simp only[vh,Vl.cG,toNat_one,bf,↓zq,zs,ac,zt,hP.1,hP.2.1,hP.2.2.1,hP.2.2.2,hW.1,hW.2.1,hW.2.2,aL]
     refine⟨fun h=>by simp at h,fun _=>⟨fun h=>by simp at h,fun _=>⟨fun h=>by simp at h,fun _=>?_⟩⟩⟩
     repeat refine⟨by omega,?_⟩
     refine⟨fun h=>?_,fun h=>?_⟩
     ·
      have hh:a.at=s:=h
      subst hh
      have:uU (.rc t1) (oB a.at (names env))=false:=D8 h1 hla hs
      rw[iZ _ _ (au _) _ _ this]
      simp[bK,lZ]
     ·have hh:a.at≠s:=h
      rw[mS]at hlen |-
      simp only[an,fO]at hlen
      repeat refine⟨by omega,?_⟩
      have i1:=EE n m w (by omega) b _ t1 A' hv (by simp;omega) s (by rw[hnm];exact zl hh hs)
      rw[hnm,Af _ hh]at i1
      refine ai i1 ?_
      simp only[↓zq,zs,ac]
      have h3:=J4 s a.at (mk []) (E.list [x,a,b]).sp ((aX _).mpr trivial) (mk []) (E.list [.atom [102],w.cG]).sp ((aX _).mpr trivial) (cj t1 (oB s (names env)).up w) (by omega) _ 0 [] (aZ _) (by simp;omega)
      rw[bh,aU]at h3
      refine cB h3 ?_
      simp only[↓zq,zs,ac,aX,ac,toNat_one,bf,hP.1,hP.2.1,hP.2.2.2,hW.1,hW.2.1,hW.2.2,aL]
      repeat refine⟨by omega,?_⟩
      have i2:=EE n m w (by omega) b _ t1 A' hv (by simp;omega) a.at (by rw[hnm];right;rw[fk];rfl)
      rw[hnm,vH]at i2
      refine ai i2 ?_
      simp only[↓zq,zs,ac]
      have hl2:=mW t1 (.bd 0) w
      have ih3:∀h,h∈cj t1 (.bd 0) w->Oq (.list [x,a,b]) s (.rc t1) (oB s (names env)) h.2:=fun h hh=>by
       have h3:=(il hh).1
       have h4:=iv n m w (by omega) b _ t1 A' hv 0 _ rfl h hh
       exact EE n m h.2 (by omega) (.list [x,a,b]) env (.rc t1) A h4 (by omega) s hs
      have h4:=Nh s (.list [x,a,b]) t1 (oB s (names env)) (cj t1 (.bd 0) w) (by omega) ih3 _ 0 (iH (fun c=>.f (.l c)) (cj t1 (oB s (names env)).up w)) (aZ _) (by
       simp only[bh,an,fO]
       have hlen2:(cj t1 (oB s (names env)).up w).length+((cj t1 (.bd 0) w).flatMap (Ao t1 (oB s (names env)))).length<=1+w.nodes:=hlen
       omega)
      rw[bh]at h4
      simp only[E.at]at h4
      refine cB h4 ?_
      simp[↓zq,zs,ac,bK]
    |_=>simp[eW,hhd,hx]at hv
  ·cases e with
   |atom s0=>exact atomCase _ rfl (by cases v<;>rfl)
   |list l=>exact absurd hq (by rw[show (E.list l).at=[] from rfl,kJ A.wf];simp)
end Go.Proofs.Trees
namespace Go.Proofs.Trees
open Go Go.VL Go.RowKit
def kp(s:List UInt8):Option Ty:=match xb s with
 |some (.rc a)=>some a
 |_=>none
def AB:Option Ty->AV
 |some a=>(Ty.rc a).av
 |none=>io
theorem Rj(s:List UInt8):aq Tryz.prog 107 [.v (.string (mk s))] [] (bK (AB (kp s))):=by
 refine Qg _ ?_
 unfold Ky
 refine ai (Mb s) ?_
 cases h:xb s with
 |none=>simp[↓zq,zs,ac,ia,AB,kp,h,bK]
 |some t=>cases t<;>simp[↓zq,zs,ac,ia,AB,kp,h,bK,Ty.av]
def qv(s v:List UInt8):Option Vl:=match kp s with
 |some _=>nA s v 100
 |none=>none
def GS(s:List UInt8):AV:=match kp s with
 |some a=>(Ty.rc a).av
 |none=>io
theorem uz{s:List UInt8}{a:Ty}(h:kp s=some a):xb s=some (.rc a):=by
 unfold kp at h
 split at h
 ·rename_i e;cases h;exact e
 ·cases h
theorem QS(s v:List UInt8):aq Tryz.prog 84 [.v (.string (mk s)),.v (.string (mk v))] [] (bK (.cD [GS s,jl (qv s v)])):=by
 refine Pr _ _ ?_
 unfold Jm
 refine ai (Rj s) ?_
 cases h:kp s with
 |none=>simp[↓zq,zs,ac,AB,GS,qv,h,bK,jl]
 |
  some a =>
  simp only[↓zq,zs,ac,AB,aF,fM]
  refine⟨fun h=>(by cases h),fun _=>?_⟩
  refine ai (LN s v 100) ?_
  rw[uz h]
  simp[↓zq,zs,ac,ia,gr,GS,qv,h,bK,aF]
structure LV(s v:List UInt8)(w:Vl)(a:Ty)(x A B:E):Prop where
 l:kp s=some a
 ce:jB s=some (.list [x,A,B])
 v:se v=some w
 ask:Ask (.list [x,A,B]) [] (.rc a)
 hx:x.at=[114,101,99]
 Sj:dh A.at=true
 body:Ask B [.mk A.at (.list [x,A,B]) []] a
 eW:eW 100 w (.list [x,A,B],[])=true
theorem s6{e:E}{env:List Fr}{a:Ty}(A:Ask e env (.rc a)):∃x y z,e=.list [x,y,z]/\x.at=[114,101,99]/\dh y.at=true/\Ask z (.mk y.at (.list [x,y,z]) env::env) a:=by
 rcases fK A.ty rfl A.cl with⟨_,h⟩|⟨_,h⟩|⟨s,_,h,_⟩|⟨x,y,z,t1,t2,_,_,h,_⟩|⟨x,y,z,t1,t2,_,_,h,_⟩|⟨x,y,z,t1,rfl,hx,h⟩
 ·cases h
 ·cases h
 ·cases h
 ·cases h
 ·cases h
 ·cases h
  obtain⟨t1',he1,h1,f1,hw1⟩:=jq A.wf A.ok hx A.ty A.cl
  cases he1
  obtain⟨_,_,ok3,_⟩:=A.ok
  obtain⟨_,hla,_,_⟩:=dz hx A.ty
  exact⟨x,y,z,rfl,hx,hla,ok3,hw1,h1,f1⟩
theorem px{s v:List UInt8}{w:Vl}(h:qv s v=some w):∃a x A B,LV s v w a x A B:=by
 unfold qv at h
 split at h
 ·rename_i a hl
  obtain⟨e,t,m,h1,h2,h3,h4,h5,h6,h7⟩:=oV h
  rw[uz hl]at h3
  cases h3
  obtain⟨x,A,B,rfl,hx,hA,hB⟩:=s6 h4
  have:m=100:=by omega
  subst this
  exact⟨a,x,A,B,hl,h1,h2,h4,hx,hA,hB,h7⟩
 ·cases h
theorem LV.ic{s v:List UInt8}{w:Vl}{a:Ty}{x A B:E}(h:LV s v w a x A B):w.ic 100:=(lq h.v).2.1
theorem LV.nodes{s v:List UInt8}{w:Vl}{a:Ty}{x A B:E}(h:LV s v w a x A B):w.nodes<=200:=(lq h.v).2.2
theorem uG{n:Nat}{v:Vl}{x A B:E}{env:List Fr}(hw:WF env)(hx:x.at=[114,101,99])(h:eW n v (.list [x,A,B],env)=true):∃w,v=.f w/\eW n w (B,.mk A.at (.list [x,A,B]) env::env)=true:=by
 have hd:=pq (x:=x) (a:=A) (b:=B) hw
 cases v<;>simp[eW,hd,hx]at h |-
 exact h
theorem Kq(n:Nat)(v:Vl)(x A B:E)(a:Ty)(hA:Ask B [.mk A.at (.list [x,A,B]) []] a)(hx:x.at=[114,101,99])(hv:eW n v (.list [x,A,B],[])=true)(hl:v.nodes<90000):aq Tryz.prog 68 [(Ty.rc a).av,v.cu] [] (bK (.sl (gY (kids a v)))):=by
 obtain⟨w,rfl,hw⟩:=uG .nil hx hv
 refine P9 _ _ ((aF _).mpr trivial) ((aO _).mpr trivial) ?_
 unfold Iq
 refine aQ (Dp a io [] .nil) (Bk.ne a io []) ?_
 rintro r o ⟨⟨m,hm,rfl⟩,rfl⟩
 have he2:kt (.ptr [.pid m [(Ty.rc a).av,io],io]) [m]:=.cons hm .nil
 have hfr:LK.ptr.has (.pid m [(Ty.rc a).av,io]):=.inr (.inr ⟨_,_,rfl⟩)
 simp only[Ty.av]at he2 hfr
 simp only[↓zq,zs,ac,bH,aF,he2.has,hfr,Vl.cu,aO,Ty.av]
 repeat refine⟨by omega,?_⟩
 simp only[Vl.nodes]at hl
 have i2:=Er n w.nodes w (au _) B _ a hA hw (by simp;omega) _ _ he2 (by simp) (.bd 0) [] _ (by have:=An.bd (k:=0) (ids:=[m]) (by simp) [(Ty.rc a).av,io] [];simpa only[bx,Ty.av]using this)
 unfold E7 at i2
 refine ai i2 ?_
 simp[↓zq,zs,ac,bK,kids]
def rr(l:List Nat):List (List AV):=l.map fun(k:Nat)=>[.v (.int .i64 (k:Int))]
theorem wD(l:List Nat):(rr l).length=l.length:=by simp[rr]
end Go.Proofs.Trees
namespace Go.Proofs.Trees
open Go Go.VL Go.RowKit
theorem ER{b:UInt8}(h:ib b=true):e9 b=true:=by
 simp only[ib,e9,decide_eq_true_eq]at h |-;omega
theorem DM{y:Nm}(h:Ix y):y≠[]/\y.all e9=true:=by
 have key:∀lo hi,97<=lo->hi<=122->named lo hi y=true->y≠[]/\y.all e9=true:=fun lo hi h1 h2 h=>by
  cases y with
  |nil=>cases h
  |
   cons c r =>
   simp only[named,aw,decide_eq_true_eq]at h
   refine⟨by simp,?_⟩
   rw[cZ,aw]
   refine⟨?_,?_⟩
   ·simp only[e9,decide_eq_true_eq];omega
   ·rw[bW]
    intro b hb
    exact ER (bW.1 h.2 b hb)
 rcases h with h|h
 ·exact key 120 122 (by omega) (by omega) h
 ·exact key 116 116 (by omega) (by omega) h
theorem Cb(m:Nat):(tN m).all e9=true:=by
 rw[cZ,xe (m+1) m (by omega)];rfl
theorem pR(F:List Nm):∀(t:Ty) (to:List Nm) (k:Nat),(∀y,bn y t=true->y≠[]/\y.all e9=true)->(∀w,w∈to->w≠[]/\w.all e9=true)->jv t to.length->(gX F t to k).1.pr
 | .zero,_,_,_,_,_=>⟨by simp,by decide⟩
 | .one,_,_,_,_,_=>⟨by simp,by decide⟩
 | .name s,_,_,hn,_,_=>hn s (by simp[bn])
 |
  .bQ u,to,_,_,ht,hl=>by
  have:to.length-1-u<to.length:=by have:u<to.length:=hl;omega
  show (E.atom (gk to u)).pr
  unfold gk
  rw[aa,bp this]
  exact ht _ (bF this)
 | .plus a b,to,k,hn,ht,hl=>⟨by simp,⟨by simp,by decide⟩,pR F a to k (fun y hy=>hn y (by simp[bn,hy])) ht hl.1,pR F b to _ (fun y hy=>hn y (by simp[bn,hy])) ht hl.2,trivial⟩
 | .times a b,to,k,hn,ht,hl=>⟨by simp,⟨by simp,by decide⟩,pR F a to k (fun y hy=>hn y (by simp[bn,hy])) ht hl.1,pR F b to _ (fun y hy=>hn y (by simp[bn,hy])) ht hl.2,trivial⟩
 |
  .rc a,to,k,hn,ht,hl=>by
  refine⟨by simp,⟨by simp,by decide⟩,⟨by simp,Cb _⟩,pR F a (to++[tN (nx F k)]) _ hn (fun w hw=>?_) (by rw[an];exact hl),trivial⟩
  rcases aN.1 hw with hw|hw
  ·exact ht w hw
  ·simp only[aV]at hw;rw[hw];exact⟨by simp,Cb _⟩
theorem zj{D:Ty}{dt:Nm}(g:fU D)(hn:∀y,bn y D=true->Ix y)(h:told D=some dt):qK dt=some D:=by
 unfold told at h
 split at h
 ·rename_i hh
  cases h
  obtain⟨t,ht⟩:=bR.1 hh.2
  obtain⟨e,he,hw,hte,_,_⟩:=nU ht
  obtain⟨h1,_,_⟩:=pA he
  obtain⟨hx,hpr,_⟩:=yp h1
  obtain⟨w1,w2,_⟩:=kC (bM D []) D [] 0 (.nil _ _) g.1 fun y hy=>⟨(eQ D [] y).2 (.inr hy),g.2 y hy⟩
  have hp:=pR (bM D []) D [] 0 (fun y hy=>DM (hn y hy)) (fun w hw=>by cases hw) g.1
  have:=Bb hp hpr hx
  rw[ht,<-hte,<-this,w2]
 ·cases h
theorem tz{a d:Ty}{x:Nm}(h:nX a x=some d):∀y,bn y d=true->bn y a=true:=by
 simp only[nX,bg,cQ,eM]at h
 obtain⟨d',h1,_,rfl⟩:=h
 intro y hy
 rcases jf _ hy with h|⟨h,h'⟩
 ·exact h
 ·rcases gB a 0 (h1.names y h')with e|e
  ·exact absurd e h
  ·exact e
structure ZT(s d:Nm)(a:Ty)(x A B:E)(D:Ty):Prop where
 l:kp s=some a
 ce:jB s=some (.list [x,A,B])
 ask:Ask (.list [x,A,B]) [] (.rc a)
 hx:x.at=[114,101,99]
 body:Ask B [.mk A.at (.list [x,A,B]) []] a
 dl:cJ s=some d
 y:qK s=some (.rc a)
 lp:nX a l8=some D
 bk:qK d=some D
theorem tW{s:Nm}{t:Ty}(h:xb s=some t):qK s=some t:=by
 unfold xb at h
 split at h
 ·cases h
 ·rename_i u hu
  split at h
  ·cases h;exact hu
  ·cases h
theorem ZT.of{s d:Nm}{a:Ty}(hl:kp s=some a)(hd:cJ s=some d):∃x A B D,ZT s d a x A B D:=by
 have hc:=uz hl
 cases hce:jB s with
 |none=>rw[nj hce]at hc;cases hc
 |
  some e =>
  obtain⟨t,h1,hA,_⟩:=gR hce
  rw[hc]at h1;cases h1
  obtain⟨x,A,B,rfl,hx,hA',hB⟩:=s6 hA
  have hy:=tW hc
  have hd':=hd
  unfold cJ at hd'
  rw[hy]at hd'
  obtain⟨D,h2,h3⟩:=bg.1 hd'
  obtain⟨e2,he2,hw2,hte2,_,_⟩:=nU hy
  have hg:=rk hw2 hte2 (x:=l8) ⟨by simp,by simp,by simp⟩ h2
  exact⟨x,A,B,D,hl,hce,hA,hx,hB,hd,hy,h2,zj hg.1 (fun y hy'=>mQ hy y (tz h2 y hy')) h3⟩
structure Cx(a:Ty)(w:Vl):Prop where
 ok:dK a w=true
 ty:∀v,vT 100 v (.rc a)=true->vT 100 (.f (cW a w v)) (.rc a)=true
 ic:w.ic 100
 nd:w.nodes<=200
structure Fo(a:Ty)(v:Vl):Prop where
 ty:vT 100 v (.rc a)=true
 ic:v.ic 100
 nd:v.nodes<=200
theorem ZT.Dd{s d:Nm}{a:Ty}{x A B:E}{D:Ty}(z:ZT s d a x A B D){c:Nm}{w:Vl}(h:nA d c 100=some w):Cx a w:=by
 obtain⟨e,t,m,h1,h2,h3,h4,h5,h6,h7⟩:=oV h
 have hm:m=100:=by omega
 subst hm
 have:=tW h3
 rw[z.bk]at this;cases this
 rw[ng h4]at h7
 obtain⟨e2,he2,hw2,hte2,_,_⟩:=nU z.y
 have hlc:jv (.rc a) 0:=hte2 ▸ hw2.qt.1
 obtain⟨q1,q2⟩:=Gr (uq z.y) hlc z.lp h7
 exact⟨q1,q2,(lq h2).2.1,(lq h2).2.2⟩
theorem ZT.pD{s d:Nm}{a:Ty}{x A B:E}{D:Ty}(z:ZT s d a x A B D){f:Nm}{v:Vl}(h:qv s f=some v):Fo a v/\f=v.cM:=by
 obtain⟨a',x',A',B',L⟩:=px h
 have:=L.l
 rw[z.l]at this;cases this
 exact⟨⟨by rw[<-ng L.ask];exact L.eW,L.ic,L.nodes⟩,qL L.v⟩
theorem Fo.eW{s d:Nm}{a:Ty}{x A B:E}{D:Ty}(z:ZT s d a x A B D){v:Vl}(h:Fo a v):eW 100 v (.list [x,A,B],[])=true:=by rw[ng z.ask];exact h.ty
theorem ZT.cM{s d:Nm}{a:Ty}{x A B:E}{D:Ty}(z:ZT s d a x A B D){w:Vl}(hb:w.ic 100)(hv:vT 100 w (.rc a)=true):nA s w.cM 100=if w.nodes<=200 then some w else none:=by
 unfold nA
 rw[z.ce]
 by_cases hn:w.nodes<=200
 ·rw[qF hb hn,if_pos hn]
  simp only
  rw[if_pos ⟨by omega,by rw[show (100:Int).toNat=100 from rfl,ng z.ask];exact hv⟩]
 ·rw[if_neg hn]
  cases q:se w.cM with
  |none=>rfl
  |
   some w' =>
   exfalso
   obtain⟨_,h2,h3⟩:=lq q
   have:=tV hb h2 (qL q)
   rw[this]at hn;exact hn h3
theorem ZT.lv{s d:Nm}{a:Ty}{x A B:E}{D:Ty}(z:ZT s d a x A B D)(f:Nm):qv s f=nA s f 100:=by
 unfold qv;rw[z.l]
def eK(d:Nm):List Nm->Option (List Vl)
 |[]=>some []
 |
  c::r=>match nA d c 100,eK d r with
  |some w,some l=>some (w::l)
  |_,_=>none
theorem rU{s d:Nm}{a:Ty}{x A B:E}{D:Ty}(z:ZT s d a x A B D):∀(p:List Nm) (l:List Vl),eK d p=some l->p=l.map (·.cM)/\∀c,c∈l->Cx a c
 |[],l,h=>by cases h;exact⟨rfl,fun c hc=>by cases hc⟩
 |
  c::r,l,h=>by
  simp only[eK]at h
  split at h
  ·rename_i w l' h1 h2
   cases h
   obtain⟨q1,q2⟩:=rU z r l' h2
   obtain⟨_,_,_,_,hv,_⟩:=oV h1
   refine⟨by rw[bC,<-q1,<-qL hv],fun c' hc'=>?_⟩
   rcases aJ.1 hc' with rfl|hc'
   ·exact z.Dd h1
   ·exact q2 c' hc'
  ·cases h
theorem s3(d:Nm):∀(p q:List Nm),eK d (p++q)=(eK d p).bind fun l=>(eK d q).map (l++·)
 |[],q=>by cases h:eK d q<;>simp[eK,h]
 |
  c::p,q=>by
  simp only[bb,eK,s3 d p q]
  cases nA d c 100 with
  |none=>rfl
  |
   some w =>
   cases eK d p with
   |none=>rfl
   |some l=>cases eK d q<;>rfl
noncomputable def v8 (s:Nm) (p:List Nm) (f:Nm):Option (List Vl×Vl):=match qv s f,cJ s with
 |some v,some d=>if p.length<=50 then(eK d p).map fun l=>(l,v)else none
 |_,_=>none
def zA(s:Nm):Ty:=(kp s).getD .zero
def si(a:Ty)(l:List Vl)(v:Vl):Option (List Vl×Vl):=match l.getLast? with
 |none=>none
 |some c=>if(Vl.f (cW a c v)).nodes<=200 then some (l.dropLast,.f (cW a c v))else none
def lR:Nat->Ty->List Vl->Vl->Option Vl
 |0,_,_,v=>some v
 |n+1,a,l,v=>(si a l v).bind fun r=>lR n a r.1 r.2
def sr(a:Ty)(l:List Vl)(v:Vl):Option Vl:=lR l.length a l v
noncomputable def gF (s:Nm) (p:List Nm) (f:Nm):Option (List Vl×Vl):=(v8 s p f).bind fun r=>if(sr (zA s) r.1 r.2).isSome=true then some r else none
structure ZI(a:Ty)(l:List Vl)(v:Vl):Prop where
 Dd:∀c,c∈l->Cx a c
 pD:Fo a v
theorem tQ{a:Ty}{l l':List Vl}{v w:Vl}(h:ZI a l v)(hu:si a l v=some (l',w)):ZI a l' w/\l'.length+1=l.length/\∃c,l=l'++[c]/\w=.f (cW a c v):=by
 unfold si at hu
 cases q:l.getLast? with
 |none=>rw[q]at hu;cases hu
 |
  some c =>
  rw[q]at hu
  simp only at hu
  split at hu
  ·rename_i hn
   cases hu
   have hne:l≠[]:=by rintro rfl;cases q
   have hl:l.dropLast++[c]=l:=by
    have:=List.dropLast_concat_getLast hne
    rw[List.getLast?_eq_some_getLast hne]at q
    cases q;exact this
   have hc:c∈l:=by rw[<-hl];simp
   have hC:=h.Dd c hc
   refine⟨⟨fun c' hc'=>h.Dd c' (by rw[<-hl];exact aC _ hc'),hC.ty v h.pD.ty,rn 100 a c v hC.ic h.pD.ic,hn⟩,?_,c,hl.symm,rfl⟩
   have:=congrArg List.length hl
   simpa using this
  ·cases hu
end Go.Proofs.Trees
namespace Go.Proofs.Trees
open Go Go.VL Go.RowKit
theorem w9(w:World)(k:Nat)(os:Array Obj):Below w.heap.size w (Go.«Sort».grow (w.drewN k) os):=by
 refine⟨rfl,rfl,rfl,?_,fun b hb=>?_⟩
 ·simp[Go.«Sort».grow,World.drewN]
 ·simp only[Go.«Sort».grow,World.drewN]
  rw[Array.getElem?_append_left hb]
theorem HZ(k:Nat)(hk:k<1000000000):aq Tryz.prog 174 [.v (.int .i64 (k:Int))] [] (bK (.v (.string (mk (dd k))))):=by
 refine aq.Pc (xs:=[.int .i64 (k:Int)]) ⟨qz,by kernel_rfl,by kernel_rfl,by kernel_rfl⟩ fun w ht=>?_
 have:=Any.strconv_Itoa Tryz.Bp (k:Int) (by omega) (by omega) w ht
 refine Calls.mono this fun e w' ⟨h1,n,os,h2⟩=>⟨?_,?_⟩
 ·rw[h1,Lib.itoa_nonneg];rfl
 ·rw[h2];exact w9 w n os
abbrev hN(k:Nat):Nm:=35::dd k
theorem tR{j k:Nat}(h:hN j=hN k):j=k:=xu (j+1) j k (by omega) (List.cons.inj h).2
theorem wS(u:Ty):∀(t:Ty) (i:Nat),i+t.aE<1000000->aq Tryz.prog 149 [t.av,u.av,.v (.int .i64 (i:Int))] [] (bK (dB u t i).av)
 |
  .zero,i,_=>by
  refine wJ _ _ _ ((aF _).mpr trivial) ((aF _).mpr trivial) ?_
  simp[EJ,Ty.av,dB,↓zq,zs,ac,bK]
 |
  .one,i,_=>by
  refine wJ _ _ _ ((aF _).mpr trivial) ((aF _).mpr trivial) ?_
  simp[EJ,Ty.av,dB,↓zq,zs,ac,bK]
 |
  .name s,i,_=>by
  refine wJ _ _ _ ((aF _).mpr trivial) ((aF _).mpr trivial) ?_
  simp[EJ,Ty.av,dB,↓zq,zs,ac,bK]
 |
  .bQ k,i,_=>by
  refine wJ _ _ _ ((aF _).mpr trivial) ((aF _).mpr trivial) ?_
  simp only[EJ,Ty.av,dB,↓zq,zs,ac,bK]
  refine⟨by omega,fun _=>⟨by omega,fun h=>?_,fun h=>?_⟩,fun h=>absurd rfl h⟩
  ·rw[if_pos (by omega)]
  ·rw[if_neg (by omega)];rfl
 |
  .plus a b,i,hl=>by
  simp only[Ty.aE]at hl
  refine wJ _ _ _ ((aF _).mpr trivial) ((aF _).mpr trivial) ?_
  simp only[EJ,Ty.av,dB,↓zq,zs,ac,aF]
  refine⟨by omega,fun h=>by omega,fun _=>⟨fun _=>?_,fun h=>absurd rfl h⟩⟩
  repeat refine⟨by omega,?_⟩
  refine ai (wS u a i (by omega)) ?_
  simp only[↓zq,zs,ac,aF]
  repeat refine⟨by omega,?_⟩
  refine ai (wS u b i (by omega)) ?_
  simp only[↓zq,zs,ac,aF]
  exact⟨rfl,rfl⟩
 |
  .times a b,i,hl=>by
  simp only[Ty.aE]at hl
  refine wJ _ _ _ ((aF _).mpr trivial) ((aF _).mpr trivial) ?_
  simp only[EJ,Ty.av,dB,↓zq,zs,ac,aF]
  refine⟨by omega,fun h=>by omega,fun _=>⟨fun h=>by omega,fun _=>⟨fun _=>?_,fun h=>absurd rfl h⟩⟩⟩
  repeat refine⟨by omega,?_⟩
  refine ai (wS u a i (by omega)) ?_
  simp only[↓zq,zs,ac,aF]
  repeat refine⟨by omega,?_⟩
  refine ai (wS u b i (by omega)) ?_
  simp only[↓zq,zs,ac,aF]
  exact⟨rfl,rfl⟩
 |
  .rc a,i,hl=>by
  simp only[Ty.aE]at hl
  refine wJ _ _ _ ((aF _).mpr trivial) ((aF _).mpr trivial) ?_
  simp only[EJ,Ty.av,dB,↓zq,zs,ac,aF]
  refine⟨by omega,fun h=>by omega,fun _=>⟨fun h=>by omega,fun _=>⟨fun h=>by omega,fun _=>⟨fun _=>?_,fun h=>absurd rfl h⟩⟩⟩⟩
  repeat refine⟨by omega,?_⟩
  rw[bA i (by omega)]
  refine ai (wS u a (i+1) (by omega)) ?_
  simp only[↓zq,zs,ac,aF]
  exact⟨rfl,rfl⟩
theorem Az(x:Nm)(u:Ty):∀(t:Ty),aq Tryz.prog 150 [t.av,.v (.string (mk x)),u.av] [] (bK (sub x u t).av)
 |
  .zero=>by
  refine wQ _ _ _ ((aF _).mpr trivial) ((aF _).mpr trivial) ?_
  simp[EL,Ty.av,sub,↓zq,zs,ac,bK]
 |
  .one=>by
  refine wQ _ _ _ ((aF _).mpr trivial) ((aF _).mpr trivial) ?_
  simp[EL,Ty.av,sub,↓zq,zs,ac,bK]
 |
  .bQ k=>by
  refine wQ _ _ _ ((aF _).mpr trivial) ((aF _).mpr trivial) ?_
  simp[EL,Ty.av,sub,↓zq,zs,ac,bK]
 |
  .name s=>by
  refine wQ _ _ _ ((aF _).mpr trivial) ((aF _).mpr trivial) ?_
  simp only[EL,Ty.av,sub,↓zq,zs,ac,zt,bK]
  refine⟨by omega,fun _=>⟨by omega,fun h=>?_,fun h=>?_⟩,fun h=>absurd rfl h⟩
  ·rw[if_pos h]
  ·rw[if_neg h];rfl
 |
  .plus a b=>by
  refine wQ _ _ _ ((aF _).mpr trivial) ((aF _).mpr trivial) ?_
  simp only[EL,Ty.av,sub,↓zq,zs,ac,aF]
  refine⟨by omega,fun h=>by omega,fun _=>⟨fun _=>?_,fun h=>absurd rfl h⟩⟩
  repeat refine⟨by omega,?_⟩
  refine ai (Az x u a) ?_
  simp only[↓zq,zs,ac,aF]
  repeat refine⟨by omega,?_⟩
  refine ai (Az x u b) ?_
  simp only[↓zq,zs,ac,aF]
  exact⟨rfl,rfl⟩
 |
  .times a b=>by
  refine wQ _ _ _ ((aF _).mpr trivial) ((aF _).mpr trivial) ?_
  simp only[EL,Ty.av,sub,↓zq,zs,ac,aF]
  refine⟨by omega,fun h=>by omega,fun _=>⟨fun h=>by omega,fun _=>⟨fun _=>?_,fun h=>absurd rfl h⟩⟩⟩
  repeat refine⟨by omega,?_⟩
  refine ai (Az x u a) ?_
  simp only[↓zq,zs,ac,aF]
  repeat refine⟨by omega,?_⟩
  refine ai (Az x u b) ?_
  simp only[↓zq,zs,ac,aF]
  exact⟨rfl,rfl⟩
 |
  .rc a=>by
  refine wQ _ _ _ ((aF _).mpr trivial) ((aF _).mpr trivial) ?_
  simp only[EL,Ty.av,sub,↓zq,zs,ac,aF]
  refine⟨by omega,fun h=>by omega,fun _=>⟨fun h=>by omega,fun _=>⟨fun h=>by omega,fun _=>⟨fun _=>?_,fun h=>absurd rfl h⟩⟩⟩⟩
  repeat refine⟨by omega,?_⟩
  refine ai (Az x u a) ?_
  simp only[↓zq,zs,ac,aF]
  exact⟨rfl,rfl⟩
theorem yZ(c:Int)(a b:Ty):aq Tryz.prog 175 [.v (.int .u8 c),a.av,b.av] [] (bK (.ptr [.v (.int .u8 c),.v (.string (mk [])),.v (.int .i64 0),a.av,b.av])):=by
 refine PC _ _ _ ((aF _).mpr trivial) ((aF _).mpr trivial) ?_
 simp[KZ,↓zq,zs,ac,bK]
abbrev Dt(f:Nat)(g:Bool):Ob:=.cells [.v (.int .i64 (f:Int)),.v (.bool g)]
theorem Lk(f:Nat)(g:Bool)(hf:f<100000000):aq Tryz.prog 146 [.ref 0 0] [Dt f g] (dq (.v (.string (mk (hN (f+1))))) [Dt (f+1) g]):=by
 refine O4 _ _ ?_
 simp only[Ja,↓zq,zs,ac,zt]
 rw[bA f (by omega)]
 refine ai (HZ (f+1) (by omega)) ?_
 have hd:=og 8 (f+1) (by omega)
 simp only[↓zq,zs,ac,zt,bb,aU]
 exact⟨by simp[cK];omega,rfl,rfl⟩
def uP(g:Bool)(t:Ty):Ty:=if g=true\/400<t.aE then .zero else t
def Aq(g:Bool)(t:Ty):Bool:=g||decide (400<t.aE)
theorem yn(t:Ty):uP true t=.zero:=by simp[uP]
theorem v7(t:Ty):Aq true t=true:=rfl
theorem ve{t:Ty}(h:t.aE<=400):uP false t=t:=by simp[uP,show ¬400<t.aE by omega]
theorem vi{t:Ty}(h:t.aE<=400):Aq false t=false:=by simp[Aq,show ¬400<t.aE by omega]
theorem EA{t:Ty}(h:¬t.aE<=400):Aq false t=true:=by simp[Aq,show 400<t.aE by omega]
theorem Ew{t:Ty}(h:¬t.aE<=400):uP false t=.zero:=by simp[uP,show 400<t.aE by omega]
theorem u9(f:Nat)(g:Bool)(t:Ty)(hl:t.aE<1000000):aq Tryz.prog 147 [.ref 0 0,t.av] [Dt f g] (dq (uP g t).av [Dt f (Aq g t)]):=by
 refine PF _ _ _ ((aF _).mpr trivial) ?_
 simp only[IR,↓zq,zs,ac,zt]
 cases g with
 |true=>exact⟨fun _=>⟨rfl,rfl⟩,fun h=>(by cases h)⟩
 |
  false =>
  refine⟨fun h=>(by cases h),fun _=>?_⟩
  refine ai (Et t hl) ?_
  simp only[↓zq,zs,ac,zt]
  refine⟨fun h=>?_,fun h=>?_⟩
  ·have h:400<t.aE:=by omega
   simp[uP,Aq,h,dq,Ty.av]
  ·have h:¬400<t.aE:=by omega
   simp[uP,Aq,h,dq]
theorem E2(t:Ty)(s:Nm)(f:Nat):aq Tryz.prog 148 [.ref 0 0,t.av,.v (.string (mk s))] [Dt f true] (dq Ty.zero.av [Dt f true]):=by
 refine NO _ _ _ _ ((aF _).mpr trivial) ?_
 simp only[DK,↓zq,zs,ac]
 exact⟨fun _=>⟨rfl,rfl⟩,fun h=>(by cases h)⟩
def Cv(f:Nat)(t:Ty):Prop:=∀j,f<j->bn (hN j) t=false
def ql(o:Option Ty)(t:Ty):Nat:=match o with|some d=>d.aE|none=>1000*t.aE
def Bg(o:Option Ty)(f B:Nat):AV->List Ob->Prop:=fun r ob=>∃f':Nat,f<=f'/\f'<=f+B/\r=(o.getD .zero).av/\ob=[Dt f' o.isNone]
theorem Bg.ne(o:Option Ty)(f B:Nat):∃r ob,Bg o f B r ob:=⟨_,_,f,au _,da _ _,rfl,rfl⟩
theorem qX{f f':Nat}{t:Ty}(h:Cv f t)(hf:f<=f'):Cv f' t:=fun j hj=>h j (by omega)
theorem xn:∀(n:Nat) (t:Ty),t.aE<=n->t.aE<=400->∀(s:Nm) (f:Nat),Cv f t->(∀j,f<j->s≠hN j)->f+1000*t.aE<50000000->aq Tryz.prog 148 [.ref 0 0,t.av,.v (.string (mk s))] [Dt f false] (Bg (lG t s) f (ql (lG t s) t))
 |0,t,h=>by have:=ej t;omega
 |
  n+1,t,hn=>by
  intro h4 s f hf hs hb
  refine NO _ _ _ _ ((aF _).mpr trivial) ?_
  have fin0:∀u:Ty,lG t s=some u->Bg (lG t s) f (ql (lG t s) t) u.av [Dt f false]:=fun u hu=>by
   rw[hu];exact⟨f,au _,da _ _,rfl,rfl⟩
  cases t with
  |
   zero =>
   have:=fin0 .zero (vo s)
   simpa[DK,Ty.av,↓zq,zs,ac]using this
  |
   one =>
   have:=fin0 .zero (yV s)
   simpa[DK,Ty.av,↓zq,zs,ac]using this
  |
   bQ k =>
   have:=fin0 .zero (zN k s)
   simpa[DK,Ty.av,↓zq,zs,ac]using this
  |
   name c =>
   simp only[DK,Ty.av,↓zq,zs,ac,zt]
   refine⟨fun h=>(by cases h),fun _=>⟨by omega,fun _=>⟨by omega,fun h=>?_,fun h=>?_⟩,fun h=>absurd rfl h⟩⟩
   ·exact fin0 .one (by rw[om,if_pos h])
   ·exact fin0 .zero (by rw[om,if_neg h])
  |
   plus a b =>
   simp only[Ty.aE]at hn h4 hb
   have pa:=ej a
   have pb:=ej b
   have fa:Cv f a:=fun j hj=>by have:=hf j hj;simp only[bn,cb]at this;exact this.1
   have fb:Cv f b:=fun j hj=>by have:=hf j hj;simp only[bn,cb]at this;exact this.2
   simp only[DK,Ty.av,↓zq,zs,ac,zt,aF]
   refine⟨fun h=>(by cases h),fun _=>⟨by omega,fun h=>by omega,fun _=>⟨fun _=>?_,fun h=>absurd rfl h⟩⟩⟩
   repeat refine⟨by omega,?_⟩
   rw[vd]
   refine aQ (xn n a (by omega) (by omega) s f fa hs (by omega)) (Bg.ne _ _ _) ?_
   rintro r ob ⟨f1,g1,g2,rfl,rfl⟩
   simp only[↓zq,zs,ac,zt,aM,aF]
   repeat refine⟨by omega,?_⟩
   cases q1:lG a s with
   |
    none =>
    rw[q1]at g2
    simp only[ql]at g2
    simp only[Option.isNone_none,Option.getD_none,bL]
    refine aY (E2 b s f1) ?_
    simp only[↓zq,zs,ac,zt,aM,aF]
    repeat refine⟨by omega,?_⟩
    refine ai (yZ 43 _ _) ?_
    simp only[↓zq,zs,ac,zt,cd]
    refine aY (u9 f1 true (.plus .zero .zero) (by simp[Ty.aE])) ?_
    simp only[↓zq,zs,ac,zt,aM,aF]
    exact⟨f1,g1,by simp only[ql,Ty.aE];omega,rfl,rfl⟩
   |
    some a' =>
    rw[q1]at g2
    simp only[ql]at g2
    have la:=(cQ.1 q1).small
    simp only[Option.isNone_some,cA,ba]
    refine aQ (xn n b (by omega) (by omega) s f1 (qX fb g1) (fun j hj=>hs j (by omega)) (by omega)) (Bg.ne _ _ _) ?_
    rintro r ob ⟨f2,k1,k2,rfl,rfl⟩
    simp only[↓zq,zs,ac,zt,aM,aF]
    repeat refine⟨by omega,?_⟩
    refine ai (yZ 43 _ _) ?_
    simp only[↓zq,zs,ac,zt,cd]
    cases q2:lG b s with
    |
     none =>
     rw[q2]at k2
     simp only[ql]at k2
     simp only[Option.isNone_none,Option.getD_none,bL]
     refine aY (u9 f2 true (.plus a' .zero) (by simp[Ty.aE];omega)) ?_
     simp only[↓zq,zs,ac,zt,aM,aF]
     exact⟨f2,by omega,by simp only[ql,Ty.aE];omega,rfl,rfl⟩
    |
     some b' =>
     rw[q2]at k2
     simp only[ql]at k2
     have lb:=(cQ.1 q2).small
     simp only[Option.isNone_some,cA,ba]
     refine aY (u9 f2 false (.plus a' b') (by simp only[Ty.aE];omega)) ?_
     simp only[↓zq,zs,ac,zt,aM,aF]
     unfold nv
     by_cases hle:(Ty.plus a' b').aE<=400
     ·rw[if_pos hle]
      refine⟨f2,by omega,by simp only[ql,Ty.aE];omega,?_,?_⟩
      ·simp[uP,show ¬400<(Ty.plus a' b').aE by omega]
      ·simp[Aq,show ¬400<(Ty.plus a' b').aE by omega]
     ·rw[if_neg hle]
      refine⟨f2,by omega,by simp only[ql,Ty.aE];omega,?_,?_⟩
      ·simp[uP,show 400<(Ty.plus a' b').aE by omega]
      ·simp[Aq,show 400<(Ty.plus a' b').aE by omega]
  |
   times a b =>
   simp only[Ty.aE]at hn h4 hb
   have pa:=ej a
   have pb:=ej b
   have fa:Cv f a:=fun j hj=>by have:=hf j hj;simp only[bn,cb]at this;exact this.1
   have fb:Cv f b:=fun j hj=>by have:=hf j hj;simp only[bn,cb]at this;exact this.2
   simp only[DK,Ty.av,↓zq,zs,ac,zt,aF]
   refine⟨fun h=>(by cases h),fun _=>⟨by omega,fun h=>by omega,fun _=>⟨fun h=>by omega,fun _=>⟨fun _=>?_,fun h=>absurd rfl h⟩⟩⟩⟩
   repeat refine⟨by omega,?_⟩
   rw[sJ]
   refine aQ (xn n a (by omega) (by omega) s f fa hs (by omega)) (Bg.ne _ _ _) ?_
   rintro r ob ⟨f1,g1,g2,rfl,rfl⟩
   simp only[↓zq,zs,ac,zt,aM,aF]
   repeat refine⟨by omega,?_⟩
   refine ai (yZ 42 _ _) ?_
   simp only[↓zq,zs,ac,zt,cd]
   repeat refine⟨by omega,?_⟩
   cases q1:lG a s with
   |
    none =>
    rw[q1]at g2
    simp only[ql]at g2
    simp only[Option.isNone_none,Option.getD_none,bL]
    refine aY (E2 b s f1) ?_
    simp only[↓zq,zs,ac,zt,aM,aF]
    repeat refine⟨by omega,?_⟩
    refine ai (yZ 42 _ _) ?_
    simp only[↓zq,zs,ac,zt,cd]
    refine ai (yZ 43 (.times .zero b) (.times a .zero)) ?_
    simp only[↓zq,zs,ac,zt,cd]
    refine aY (u9 f1 true (.plus (.times .zero b) (.times a .zero)) (by simp only[Ty.aE];omega)) ?_
    simp only[↓zq,zs,ac,zt,aM,aF]
    exact⟨f1,g1,by simp only[ql,Ty.aE];omega,rfl,rfl⟩
   |
    some a' =>
    rw[q1]at g2
    simp only[ql]at g2
    have la:=(cQ.1 q1).small
    simp only[Option.isNone_some,cA,ba]
    refine aQ (xn n b (by omega) (by omega) s f1 (qX fb g1) (fun j hj=>hs j (by omega)) (by omega)) (Bg.ne _ _ _) ?_
    rintro r ob ⟨f2,k1,k2,rfl,rfl⟩
    simp only[↓zq,zs,ac,zt,aM,aF]
    repeat refine⟨by omega,?_⟩
    refine ai (yZ 42 _ _) ?_
    simp only[↓zq,zs,ac,zt,cd]
    cases q2:lG b s with
    |
     none =>
     rw[q2]at k2
     simp only[ql]at k2
     simp only[Option.isNone_none,Option.getD_none,bL]
     refine ai (yZ 43 (.times a' b) (.times a .zero)) ?_
     simp only[↓zq,zs,ac,zt,cd]
     refine aY (u9 f2 true (.plus (.times a' b) (.times a .zero)) (by simp only[Ty.aE];omega)) ?_
     simp only[↓zq,zs,ac,zt,aM,aF]
     exact⟨f2,by omega,by simp only[ql,Ty.aE];omega,rfl,rfl⟩
    |
     some b' =>
     rw[q2]at k2
     simp only[ql]at k2
     have lb:=(cQ.1 q2).small
     simp only[Option.isNone_some,cA,ba]
     refine ai (yZ 43 (.times a' b) (.times a b')) ?_
     simp only[↓zq,zs,ac,zt,cd]
     refine aY (u9 f2 false (.plus (.times a' b) (.times a b')) (by simp only[Ty.aE];omega)) ?_
     simp only[↓zq,zs,ac,zt,aM,aF]
     unfold nv
     by_cases hle:(Ty.plus (.times a' b) (.times a b')).aE<=400
     ·rw[if_pos hle]
      refine⟨f2,by omega,by simp only[ql,Ty.aE];omega,?_,?_⟩
      ·simp[uP,show ¬400<(Ty.plus (.times a' b) (.times a b')).aE by omega]
      ·simp[Aq,show ¬400<(Ty.plus (.times a' b) (.times a b')).aE by omega]
     ·rw[if_neg hle]
      refine⟨f2,by omega,by simp only[ql,Ty.aE];omega,?_,?_⟩
      ·simp[uP,show 400<(Ty.plus (.times a' b) (.times a b')).aE by omega]
      ·simp[Aq,show 400<(Ty.plus (.times a' b) (.times a b')).aE by omega]
  |
   rc a =>
   simp only[Ty.aE]at hn h4 hb
   have pa:=ej a
   have fa:Cv f a:=fun j hj=>hf j hj
   have hxa:bn (hN (f+1)) a=false:=fa _ (by omega)
   have hxs:hN (f+1)≠s:=fun e=>hs _ (by omega) e.symm
   have fo:Cv (f+1) (dB (.name (hN (f+1))) a 0):=fun j hj=>by
    cases q:bn (hN j) (dB (.name (hN (f+1))) a 0)with
    |false=>rfl
    |
     true =>
     rcases gB a 0 q with e|e
     ·have:=tR e;omega
     ·rw[fa j (by omega)]at e;cases e
   have hoa:(dB (.name (hN (f+1))) a 0).aE=a.aE:=fF _ _ _
   have hop:=wS (.name (hN (f+1))) a 0 (by omega)
   rw[Cf hxa hxs]
   simp only[DK,Ty.av,↓zq,zs,ac,zt,aF]
   refine⟨fun h=>(by cases h),fun _=>⟨by omega,fun h=>by omega,fun _=>⟨fun h=>by omega,fun _=>⟨fun h=>by omega,fun _=>⟨fun _=>?_,fun h=>absurd rfl h⟩⟩⟩⟩⟩
   refine aY (Lk f false (by omega)) ?_
   simp only[↓zq,zs,ac,zt,aM,aF]
   repeat refine⟨by omega,?_⟩
   simp only[Ty.av]at hop
   refine ai hop ?_
   simp only[↓zq,zs,ac,zt,aM,aF]
   refine aQ (xn n (dB (.name (hN (f+1))) a 0) (by omega) (by omega) s (f+1) fo (fun j hj=>hs j (by omega)) (by omega)) (Bg.ne _ _ _) ?_
   rintro r ob ⟨f1,g1,g2,rfl,rfl⟩
   simp only[↓zq,zs,ac,zt,aM,aF]
   generalize hx:hN (f+1)=x at *
   generalize hin:dB (.name x) a 0=i at *
   have hrc:(Ty.rc a).av=.ptr [.v (.int .u8 114),.v (.string (mk [])),.v (.int .i64 0),a.av,.v (.pointer none)]:=rfl
   cases q1:lG i s with
   |
    none =>
    rw[q1]at g2
    simp only[ql]at g2
    simp only[Option.isNone_none,Option.getD_none,bL]
    refine aY (u9 f1 true .zero (by simp[Ty.aE])) ?_
    simp only[↓zq,zs,ac,zt,aM,aF]
    rw[<-hrc]
    refine ai (Az x (.rc a) _) ?_
    simp only[↓zq,zs,ac,zt,aF]
    refine aY (E2 i x f1) ?_
    simp only[↓zq,zs,ac,zt,aM,aF]
    refine aY (u9 f1 true .zero (by simp[Ty.aE])) ?_
    simp only[↓zq,zs,ac,zt,aM,aF]
    refine ai (Az x (.rc a) _) ?_
    simp only[↓zq,zs,ac,zt,aF]
    refine ai (yZ 42 _ (.bQ 0)) ?_
    simp only[↓zq,zs,ac,zt,cd]
    refine ai (yZ 43 (sub x (.rc a) (uP true .zero)) (.times (sub x (.rc a) (uP true .zero)) (.bQ 0))) ?_
    simp only[↓zq,zs,ac,zt,cd,v7]
    have hz:sub x (.rc a) (uP true .zero)=.zero:=by rw[yn];rfl
    refine aY (u9 f1 true (.rc (.plus (sub x (.rc a) (uP true .zero)) (.times (sub x (.rc a) (uP true .zero)) (.bQ 0)))) (by rw[hz];simp only[Ty.aE];omega)) ?_
    simp only[↓zq,zs,ac,zt,aM,aF]
    rw[yn,v7]
    exact⟨f1,by omega,by simp only[ql,Ty.aE];omega,rfl,rfl⟩
   |
    some c =>
    rw[q1]at g2
    simp only[ql]at g2
    have lc:=(cQ.1 q1).small
    simp only[Option.isNone_some,cA,ba]
    refine aY (u9 f1 false c (by omega)) ?_
    simp only[↓zq,zs,ac,zt,aM,aF]
    rw[ve lc,vi lc,<-hrc]
    refine ai (Az x (.rc a) c) ?_
    simp only[↓zq,zs,ac,zt,aF]
    refine aQ (xn n i (by omega) (by omega) x f1 (qX fo g1) (fun j hj=>by rw[<-hx];exact fun e=>by have:=tR e;omega) (by omega)) (Bg.ne _ _ _) ?_
    rintro r ob ⟨f2,k1,k2,rfl,rfl⟩
    simp only[↓zq,zs,ac,zt,aM,aF]
    have hsc:(sub x (.rc a) c).aE+fq x c=c.aE+fq x c*(Ty.rc a).aE:=dX x (.rc a) c
    have hcc:∀t:Ty,fq x t<=t.aE:=fun t=>by
     have h1:=dX x .zero t
     have h2:=gP x .zero t
     simp only[Ty.aE,dH]at h1
     have h3:∀t:Ty,fq x t<=t.aE:=by
      intro t
      induction t with
      |name s=>simp only[fq,Ty.aE];split<;>omega
      |plus a b i1 i2=>simp only[fq,Ty.aE];omega
      |times a b i1 i2=>simp only[fq,Ty.aE];omega
      |rc a i=>simp only[fq,Ty.aE];omega
      |_=>simp[fq,Ty.aE]
     exact h3 t
    have hbig:∀t:Ty,t.aE<=400->(sub x (.rc a) t).aE<=400+400*402:=fun t ht=>by
     have h1:=dX x (.rc a) t
     have h2:=hcc t
     have h3:fq x t*(Ty.rc a).aE<=400*402:=Nat.mul_le_mul (by omega) (by simp only[Ty.aE];omega)
     omega
    have b1:=hbig c lc
    cases q2:lG i x with
    |
     none =>
     rw[q2]at k2
     simp only[ql]at k2
     simp only[Option.isNone_none,Option.getD_none,bL]
     refine aY (u9 f2 true .zero (by simp[Ty.aE])) ?_
     simp only[↓zq,zs,ac,zt,aM,aF]
     rw[yn,v7]
     refine ai (Az x (.rc a) .zero) ?_
     simp only[↓zq,zs,ac,zt,aF]
     refine ai (yZ 42 _ (.bQ 0)) ?_
     simp only[↓zq,zs,ac,zt,cd]
     refine ai (yZ 43 (sub x (.rc a) c) (.times (sub x (.rc a) .zero) (.bQ 0))) ?_
     simp only[↓zq,zs,ac,zt,cd]
     refine aY (u9 f2 true (.rc (.plus (sub x (.rc a) c) (.times (sub x (.rc a) .zero) (.bQ 0)))) (by simp only[sub,Ty.aE];omega)) ?_
     simp only[↓zq,zs,ac,zt,aM,aF]
     rw[yn,v7]
     exact⟨f2,by omega,by simp only[ql,Ty.aE];omega,rfl,rfl⟩
    |
     some d =>
     rw[q2]at k2
     simp only[ql]at k2
     have ld:=(cQ.1 q2).small
     have b2:=hbig d ld
     simp only[Option.isNone_some,cA,ba]
     refine aY (u9 f2 false d (by omega)) ?_
     simp only[↓zq,zs,ac,zt,aM,aF]
     rw[ve ld,vi ld]
     refine ai (Az x (.rc a) d) ?_
     simp only[↓zq,zs,ac,zt,aF]
     refine ai (yZ 42 _ (.bQ 0)) ?_
     simp only[↓zq,zs,ac,zt,cd]
     refine ai (yZ 43 (sub x (.rc a) c) (.times (sub x (.rc a) d) (.bQ 0))) ?_
     simp only[↓zq,zs,ac,zt,cd]
     have hdrc:pL a x c d=.rc (.plus (sub x (.rc a) c) (.times (sub x (.rc a) d) (.bQ 0))):=rfl
     refine aY (u9 f2 false (pL a x c d) (by rw[hdrc];simp only[Ty.aE];omega)) ?_
     simp only[↓zq,zs,ac,zt,aM,aF]
     have s1:=gP x (.rc a) c
     have s2:=gP x (.rc a) d
     unfold nv
     by_cases hle:(pL a x c d).aE<=400
     ·rw[if_pos hle,ve hle,vi hle]
      exact⟨f2,by omega,by simp only[ql,hdrc,Ty.aE];omega,rfl,rfl⟩
     ·rw[if_neg hle,Ew hle,EA hle]
      exact⟨f2,by omega,by simp only[ql,Ty.aE];omega,rfl,rfl⟩
def Od(o:Option Ty):AV->List Ob->Prop:=fun r ob=>ob=[]/\∃p,LK.ptr.has p/\r=.cD [p,.v (.bool o.isSome)]/\∀d,o=some d->p=d.av
theorem Od.ne(o:Option Ty):∃r ob,Od o r ob:=by
 cases o with
 |none=>exact⟨_,_,rfl,io,(iC).mpr trivial,rfl,fun d h=>by cases h⟩
 |some d=>exact⟨_,_,rfl,d.av,(aF _).mpr trivial,rfl,fun d' h=>by cases h;rfl⟩
theorem Gc:hN 1=l8:=by show (35::dd 1:Nm)=_;rw[eF (by omega)];rfl
theorem Oj(a:Ty)(h4:a.aE+2<=400)(hf:∀j,bn (hN j) a=false):aq Tryz.prog 109 [(Ty.rc a).av] [] (Od (nX a l8)):=by
 have hxa:bn (hN 1) a=false:=hf 1
 have fo:Cv 1 (dB (.name (hN 1)) a 0):=fun j hj=>by
  cases q:bn (hN j) (dB (.name (hN 1)) a 0)with
  |false=>rfl
  |
   true =>
   rcases gB a 0 q with e|e
   ·have:=tR e;omega
   ·rw[hf j]at e;cases e
 have hoa:(dB (.name (hN 1)) a 0).aE=a.aE:=fF _ _ _
 have hop:=wS (.name (hN 1)) a 0 (by omega)
 rw[<-Gc]
 have hrc:(Ty.rc a).av=.ptr [.v (.int .u8 114),.v (.string (mk [])),.v (.int .i64 0),a.av,.v (.pointer none)]:=rfl
 refine OK _ ((aF _).mpr trivial) ?_
 unfold Lr
 refine aY (Lk 0 false (by omega)) ?_
 simp only[Ty.av,↓zq,zs,ac,zt,aM,aF]
 repeat refine⟨by omega,?_⟩
 simp only[Ty.av]at hop
 refine ai hop ?_
 simp only[↓zq,zs,ac,zt,aM,aF]
 refine aQ (xn 400 (dB (.name (hN 1)) a 0) (by omega) (by omega) (hN 1) 1 fo (fun j hj e=>by have:=tR e;omega) (by omega)) (Bg.ne _ _ _) ?_
 rintro r ob ⟨f1,g1,g2,rfl,rfl⟩
 simp only[↓zq,zs,ac,zt,aM,aF]
 unfold nX
 cases q1:lG (dB (.name (hN 1)) a 0) (hN 1)with
 |
  none =>
  simp only[Option.isNone_none,Option.getD_none,bL]
  refine aY (u9 f1 true .zero (by simp[Ty.aE])) ?_
  simp only[↓zq,zs,ac,zt,aM,aF,v7]
  exact⟨fun _=>⟨rfl,io,(iC).mpr trivial,rfl,fun d h=>(by cases h)⟩,fun h=>(by cases h)⟩
 |
  some d =>
  have ld:=(cQ.1 q1).small
  simp only[Option.isNone_some,cA,ba]
  refine aY (u9 f1 false d (by omega)) ?_
  simp only[↓zq,zs,ac,zt,aM,aF]
  rw[ve ld,vi ld]
  refine⟨fun h=>(by cases h),fun _=>?_⟩
  rw[<-hrc]
  refine ai (Az (hN 1) (.rc a) d) ?_
  simp only[↓zq,zs,ac,zt,aF]
  have h1:=dX (hN 1) (.rc a) d
  have hcn:fq (hN 1) d<=d.aE:=by
   have h3:∀t:Ty,fq (hN 1) t<=t.aE:=by
    intro t
    induction t with
    |name s=>simp only[fq,Ty.aE];split<;>omega
    |plus a b i1 i2=>simp only[fq,Ty.aE];omega
    |times a b i1 i2=>simp only[fq,Ty.aE];omega
    |rc a i=>simp only[fq,Ty.aE];omega
    |_=>simp[fq,Ty.aE]
   exact h3 d
  have h3:fq (hN 1) d*(Ty.rc a).aE<=400*402:=Nat.mul_le_mul (by omega) (by simp only[Ty.aE];omega)
  refine aY (u9 f1 false (sub (hN 1) (.rc a) d) (by omega)) ?_
  simp only[↓zq,zs,ac,zt,aM,aF]
  unfold nv
  by_cases hle:(sub (hN 1) (.rc a) d).aE<=400
  ·rw[if_pos hle,ve hle,vi hle]
   exact⟨rfl,_,(aF _).mpr trivial,rfl,fun d' h=>by cases h;rfl⟩
  ·rw[if_neg hle,Ew hle,EA hle]
   exact⟨rfl,_,(aF _).mpr trivial,rfl,fun d' h=>(by cases h)⟩
end Go.Proofs.Trees
namespace Go.Proofs.Trees
open Go Go.VL Go.RowKit
theorem ru(h:Nm)(a b:E):(eY (.list [.atom h,a,b])).length=h.length+(eY a).length+(eY b).length+4:=by
 simp only[eY,ei,az,an,aH];omega
theorem i7(F:List Nm)(hF:F.length<=10000):∀(t:Ty) (to:List Nm) (k:Nat),uR t->(∀w,w∈to->w.length<=20)->k+(F.length+1)*t.aE<90000000->(eY (gX F t to k).1).length<=50*t.aE
 | .zero,_,_,_,_,_=>by simp[gX,eY,Ty.aE]
 | .one,_,_,_,_,_=>by simp[gX,eY,Ty.aE]
 | .name s,_,_,hn,_,_=>by have:=hn s (by simp[bn]);simp only[gX,eY,Ty.aE];omega
 |
  .bQ u,to,_,_,ht,_=>by
  show (gk to u).length<=50*1
  unfold gk
  by_cases h:to.length-1-u<to.length
  ·rw[aa,bp h];have:=ht _ (bF h);simp only[cA];omega
  ·rw[aa,List.getElem?_eq_none (by omega)];simp
 |
  .plus a b,to,k,hn,ht,hk=>by
  have h1:=ig F a to k
  have:(F.length+1)*(1+a.aE+b.aE)=(F.length+1)+(F.length+1)*a.aE+(F.length+1)*b.aE:=by simp only[cT,dH]
  simp only[Ty.aE]at hk
  have i1:=i7 F hF a to k (fun y hy=>hn y (by simp[bn,hy])) ht (by omega)
  have i2:=i7 F hF b to _ (fun y hy=>hn y (by simp[bn,hy])) ht (show (gX F a to k).2+_<_ by omega)
  simp only[gX,ru,Ty.aE,az,aH];omega
 |
  .times a b,to,k,hn,ht,hk=>by
  have h1:=ig F a to k
  have:(F.length+1)*(1+a.aE+b.aE)=(F.length+1)+(F.length+1)*a.aE+(F.length+1)*b.aE:=by simp only[cT,dH]
  simp only[Ty.aE]at hk
  have i1:=i7 F hF a to k (fun y hy=>hn y (by simp[bn,hy])) ht (by omega)
  have i2:=i7 F hF b to _ (fun y hy=>hn y (by simp[bn,hy])) ht (show (gX F a to k).2+_<_ by omega)
  simp only[gX,ru,Ty.aE,az,aH];omega
 |
  .rc a,to,k,hn,ht,hk=>by
  obtain⟨g1,g2,_,_⟩:=gx F k
  have:(F.length+1)*(2+a.aE)=(F.length+1)*2+(F.length+1)*a.aE:=by simp only[cT]
  simp only[Ty.aE]at hk
  have hl:=xx (k:=nx F k) (by omega)
  have i1:=i7 F hF a (to++[tN (nx F k)]) (nx F k+1) hn (fun w hw=>by
   rcases aN.1 hw with hw|hw
   ·exact ht w hw
   ·simp only[aV]at hw;rw[hw];exact hl) (by omega)
  simp only[gX,ru,Ty.aE,az,aH]
  simp only[eY]
  simp only[az]at hl |-
  omega
theorem K9(x0 a fv:AV)(F:List Nm)(h0:LK.ptr.has x0)(ha:LK.sl.has a)(hfv:cF fv F)(hF:F.length<100000):∀(n j:Nat),qd F n j<j+n->j+n<100000000 ->
 Ef [x0,a,.v (.string (mk (tN j)))] [.cells [fv],.cells [.v (.int .i64 ((j+1:Nat):Int))]] (iF 1 [x0,a,.v (.string (mk (tN (qd F n j))))] [.cells [fv],.cells [.v (.int .i64 ((qd F n j+1:Nat):Int))]])
 |0,j,h,_=>by simp only[qd]at h;omega
 |
  n+1,j,h,hj=>by
  refine Lt _ _ _ _ _ ?_
  simp only[Gp,↓zq,zs,ac,zt,ac,hfv.1,h0,ha]
  refine⟨fun h=>(by simp at h),fun _=>?_⟩
  refine ai (ND F fv hfv (tN j) (by omega)) ?_
  simp only[↓zq,zs,ac,zt]
  rw[qd]at h |-
  refine⟨fun hm=>?_,fun hm=>?_⟩
  ·rw[if_pos hm]at h |-
   refine ai (HZ (j+1) (by omega)) ?_
   have hd:=og 8 (j+1) (by omega)
   simp only[↓zq,zs,ac,zt,bb,aU]
   rw[bA (j+1) (by omega)]
   exact⟨by simp[cK];omega,K9 x0 a fv F h0 ha hfv hF n (j+1) (by omega) (by omega)⟩
  ·rw[if_neg hm]
   exact⟨rfl,rfl,rfl⟩
theorem Qe(x0 a fv:AV)(F:List Nm)(h0:LK.ptr.has x0)(ha:LK.sl.has a)(hfv:cF fv F)(hF:F.length<10000)(k:Nat)(hk:k<90000000) :
 Ef [x0,a,.v (.string (mk []))] [.cells [fv],.cells [.v (.int .i64 (k:Int))]] (iF 1 [x0,a,.v (.string (mk (tN (nx F k))))] [.cells [fv],.cells [.v (.int .i64 ((nx F k+1:Nat):Int))]]):=by
 obtain⟨g1,g2,_,_⟩:=gx F k
 refine Lt _ _ _ _ _ ?_
 simp only[Gp,↓zq,zs,ac,zt,ac,hfv.1,h0,ha]
 refine⟨fun _=>?_,fun h=>(by simp at h)⟩
 refine ai (HZ k (by omega)) ?_
 have hd:=og 8 k (by omega)
 simp only[↓zq,zs,ac,zt,bb,aU]
 rw[bA k (by omega)]
 exact⟨by simp[cK];omega,K9 x0 a fv F h0 ha hfv (by omega) (F.length+1) k (by show nx F k<_;omega) (by omega)⟩
theorem zO(F:List Nm)(fv:AV)(hfv:cF fv F)(hF:F.length<=1000):∀(t:Ty) (to:List Nm) (a:AV) (k:Nat),cF a to->to.length+t.aE<10000->jv t to.length->uR t->(∀w,w∈to->w.length<=20)->k+(F.length+1)*t.aE<80000000 ->
 aq Tryz.prog 176 [t.av,a,.gH 176 [none,some 0,some 1],.ref 0 0,.ref 1 0] [.cells [fv],.cells [.v (.int .i64 (k:Int))]] (dq (.v (.string (mk (eY (gX F t to k).1)))) [.cells [fv],.cells [.v (.int .i64 ((gX F t to k).2:Int))]])
 |
  .zero,to,a,k,ha,hl,hlc,hs,ht,hk=>by
  refine Gq _ _ _ _ ((aF _).mpr trivial) ha.1 hfv.1 ?_
  simp only[Ey,Ty.av,↓zq,zs,ac,zt,aF]
  refine⟨by omega,fun h=>by omega,fun _=>⟨fun h=>by omega,fun _=>⟨fun h=>by omega,fun _=>⟨fun h=>by omega,fun _=>⟨fun h=>by omega,fun _=>?_⟩⟩⟩⟩⟩
  repeat refine⟨by omega,?_⟩
  exact⟨⟨rfl,(lW _ _).mpr trivial,trivial⟩,rfl,rfl⟩
 |
  .one,to,a,k,ha,hl,hlc,hs,ht,hk=>by
  refine Gq _ _ _ _ ((aF _).mpr trivial) ha.1 hfv.1 ?_
  simp only[Ey,Ty.av,↓zq,zs,ac,zt,aF]
  refine⟨by omega,fun h=>by omega,fun _=>⟨fun h=>by omega,fun _=>⟨fun h=>by omega,fun _=>⟨fun h=>by omega,fun _=>⟨fun h=>by omega,fun _=>?_⟩⟩⟩⟩⟩
  repeat refine⟨by omega,?_⟩
  exact⟨⟨rfl,(lW _ _).mpr trivial,trivial⟩,rfl,rfl⟩
 |
  .name s,to,a,k,ha,hl,hlc,hs,ht,hk=>by
  refine Gq _ _ _ _ ((aF _).mpr trivial) ha.1 hfv.1 ?_
  simp[Ey,Ty.av,↓zq,zs,ac,dq,gX,eY]
 |
  .bQ u,to,a,k,ha,hl,hlc,hs,ht,hk=>by
  have hu:u<to.length:=hlc
  refine Gq _ _ _ _ ((aF _).mpr trivial) ha.1 hfv.1 ?_
  simp only[Ey,Ty.av,↓zq,zs,ac,zt,ha.len]
  rw[wrap64 ((to.length:Int)-1) (by omega) (by omega),wrap64 _ (by omega) (by omega)]
  have e1:(to.length:Int)-1-(u:Int)=((to.length-1-u:Nat):Int):=by omega
  rw[e1]
  simp only[bZ,ha.idx (show to.length-1-u<to.length by omega),↓zq,zs,ac,zt]
  refine⟨by omega,fun h=>by omega,fun _=>⟨fun _=>⟨ha.1,by omega,⟨ha.1,by omega,by omega⟩,by omega,rfl,rfl⟩,fun h=>absurd rfl h⟩⟩
 |
  .plus x y,to,a,k,ha,hl,hlc,hs,ht,hk=>by
  simp only[Ty.aE]at hl hk
  have h1:=ig F x to k
  have hm:(F.length+1)*(1+x.aE+y.aE)=(F.length+1)+(F.length+1)*x.aE+(F.length+1)*y.aE:=by simp only[cT,dH]
  have sx:uR x:=fun z hz=>hs z (by simp[bn,hz])
  have sy:uR y:=fun z hz=>hs z (by simp[bn,hz])
  have t1:=i7 F (by omega) x to k sx ht (by omega)
  have t2:=i7 F (by omega) y to (gX F x to k).2 sy ht (by omega)
  have hb:(⟨(bytesOf [[.v (.int .u8 43)]]).toArray⟩:ByteArray)=mk [43]:=rfl
  have h8:jw [[AV.v (.int .u8 43)]]:=⟨rfl,(lW _ _).mpr trivial,trivial⟩
  refine Gq _ _ _ _ ((aF _).mpr trivial) ha.1 hfv.1 ?_
  simp only[Ey,Ty.av,↓zq,zs,ac,zt,aF,hb]
  refine⟨by omega,fun h=>by omega,fun _=>⟨fun h=>by omega,fun _=>⟨fun _=>?_,fun h=>absurd rfl h⟩⟩⟩
  repeat refine⟨by omega,?_⟩
  refine aY (zO F fv hfv hF x to a k ha (by omega) hlc.1 sx ht (by omega)) ?_
  simp only[↓zq,zs,ac,zt,aM,hfv.1,hb,bb,aU]
  repeat (first|refine⟨by omega,?_⟩|refine⟨h8,?_⟩|refine⟨by simp[cK];omega,?_⟩)
  refine aY (zO F fv hfv hF y to a _ ha (by omega) hlc.2 sy ht (by omega)) ?_
  simp only[↓zq,zs,ac,zt,aM,hfv.1,hb,bb,aU]
  repeat (first|refine⟨by omega,?_⟩|refine⟨h8,?_⟩|refine⟨by simp[cK];omega,?_⟩)
  refine⟨?_,rfl⟩
  simp[gX,eY,ei]
 |
  .times x y,to,a,k,ha,hl,hlc,hs,ht,hk=>by
  simp only[Ty.aE]at hl hk
  have h1:=ig F x to k
  have hm:(F.length+1)*(1+x.aE+y.aE)=(F.length+1)+(F.length+1)*x.aE+(F.length+1)*y.aE:=by simp only[cT,dH]
  have sx:uR x:=fun z hz=>hs z (by simp[bn,hz])
  have sy:uR y:=fun z hz=>hs z (by simp[bn,hz])
  have t1:=i7 F (by omega) x to k sx ht (by omega)
  have t2:=i7 F (by omega) y to (gX F x to k).2 sy ht (by omega)
  have hb:(⟨(bytesOf [[.v (.int .u8 42)]]).toArray⟩:ByteArray)=mk [42]:=rfl
  have h8:jw [[AV.v (.int .u8 42)]]:=⟨rfl,(lW _ _).mpr trivial,trivial⟩
  refine Gq _ _ _ _ ((aF _).mpr trivial) ha.1 hfv.1 ?_
  simp only[Ey,Ty.av,↓zq,zs,ac,zt,aF,hb]
  refine⟨by omega,fun h=>by omega,fun _=>⟨fun h=>by omega,fun _=>⟨fun h=>by omega,fun _=>⟨fun _=>?_,fun h=>absurd rfl h⟩⟩⟩⟩
  repeat refine⟨by omega,?_⟩
  refine aY (zO F fv hfv hF x to a k ha (by omega) hlc.1 sx ht (by omega)) ?_
  simp only[↓zq,zs,ac,zt,aM,hfv.1,hb,bb,aU]
  repeat (first|refine⟨by omega,?_⟩|refine⟨h8,?_⟩|refine⟨by simp[cK];omega,?_⟩)
  refine aY (zO F fv hfv hF y to a _ ha (by omega) hlc.2 sy ht (by omega)) ?_
  simp only[↓zq,zs,ac,zt,aM,hfv.1,hb,bb,aU]
  repeat (first|refine⟨by omega,?_⟩|refine⟨h8,?_⟩|refine⟨by simp[cK];omega,?_⟩)
  refine⟨?_,rfl⟩
  simp[gX,eY,ei]
 |
  .rc x,to,a,k,ha,hl,hlc,hs,ht,hk=>by
  simp only[Ty.aE]at hl hk
  obtain⟨g1,g2,_,_⟩:=gx F k
  have hm:(F.length+1)*(2+x.aE)=(F.length+1)*2+(F.length+1)*x.aE:=by simp only[cT]
  have hln:=xx (k:=nx F k) (by omega)
  have ht':∀w,w∈to++[tN (nx F k)]->w.length<=20:=fun w hw=>by
   rcases aN.1 hw with hw|hw
   ·exact ht w hw
   ·simp only[aV]at hw;rw[hw];exact hln
  have t1:=i7 F (by omega) x (to++[tN (nx F k)]) (nx F k+1) hs ht' (by omega)
  have hrc:(Ty.rc x).av=.ptr [.v (.int .u8 114),.v (.string (mk [])),.v (.int .i64 0),x.av,.v (.pointer none)]:=rfl
  refine Gq _ _ _ _ ((aF _).mpr trivial) ha.1 hfv.1 ?_
  simp only[Ey,Ty.av,↓zq,zs,ac,zt,aF]
  refine⟨by omega,fun h=>by omega,fun _=>⟨fun h=>by omega,fun _=>⟨fun h=>by omega,fun _=>⟨fun h=>by omega,fun _=>⟨fun _=>?_,fun h=>absurd rfl h⟩⟩⟩⟩⟩
  rw[<-hrc]
  repeat refine⟨by omega,?_⟩
  refine cB (Qe (Ty.rc x).av a fv F ((aF _).mpr trivial) ha.1 hfv (by omega) k (by omega)) ?_
  simp only[Ty.av,↓zq,zs,ac,zt,ac,aM,hfv.1,ha.1,aF,ha.2,EO,aU,j9,kk]
  have hl2:(dd (nx F k)).length+1<=20:=hln
  have hl3:(tN (nx F k)).length=(dd (nx F k)).length+1:=rfl
  refine⟨by omega,by simp only[an,az,aH,hl3];omega,by omega,by omega,⟨fun c hc=>by simp at hc;rw[hc];rfl,by omega⟩,?_⟩
  refine aY (zO F fv hfv hF x (to++[tN (nx F k)]) _ (nx F k+1) (.of _) (by simp;omega) (by rw[an];exact hlc) hs ht' (by omega)) ?_
  simp only[↓zq,zs,ac,zt,aM,hfv.1]
  repeat refine⟨by omega,?_⟩
  refine⟨by simp only[an,az,aH,hl3];omega,by simp only[an,az,aH,hl3];omega,?_,rfl⟩
  simp[gX,eY,ei]
theorem PN(t:Ty)(g:fU t)(hs:uR t)(h4:t.aE<=400):aq Tryz.prog 151 [t.av] [] (bK (.v (.string (mk (Es t))))):=by
 refine Ou _ ((aF _).mpr trivial) ?_
 unfold M7
 have hn:=ew t []
 simp only[aH,aZ]at hn
 have hm:((bM t []).length+1)*t.aE<=401*400:=Nat.mul_le_mul (by omega) h4
 refine ai (LP t (by omega)) ?_
 simp only[↓zq,zs,ac,zt,cg]
 refine aY (zO (bM t []) _ (.of _) (by omega) t [] yO 0 .nil (by simp;omega) g.1 hs (fun w hw=>by cases hw) (by omega)) ?_
 simp only[↓zq,zs,ac,zt,aM,cg]
 exact⟨rfl,rfl⟩
theorem PT(t:Ty)(g:fU t)(hs:uR t)(hl:t.aE<1000000):aq Tryz.prog 110 [t.av] [] (bK (uy (told t))):=by
 refine Pt _ ((aF _).mpr trivial) ?_
 unfold I0
 refine ai (Et t hl) ?_
 simp only[↓zq,zs,ac,zt]
 refine⟨fun h=>?_,fun h=>?_⟩
 ·have:told t=none:=by unfold told;rw[if_neg fun h'=>by have:=h'.1;omega]
  rw[this];exact⟨rfl,rfl⟩
 ·have h4:t.aE<=400:=by omega
  refine ai (PN t g hs h4) ?_
  simp only[↓zq,zs,ac,zt]
  refine ai (HY (Es t)) ?_
  simp only[↓zq,zs,ac,zt,iu]
  unfold told
  cases q:qK (Es t)with
  |
   none =>
   simp only[ia,↓zq,zs,ac]
   rw[if_neg (by simp)]
   exact⟨fun _=>⟨rfl,rfl⟩,fun h=>(by cases h)⟩
  |
   some u =>
   simp only[ia,↓zq,zs,ac,fM]
   rw[if_pos ⟨h4,rfl⟩]
   exact⟨fun h=>(by cases h),fun _=>⟨rfl,rfl⟩⟩
theorem Ro(s:Nm):aq Tryz.prog 85 [.v (.string (mk s))] [] (bK (uy (cJ s))):=by
 refine Pg _ ?_
 unfold JP
 refine ai (HY s) ?_
 simp only[↓zq,zs,ac,zt,iu]
 cases q:qK s with
 |
  none =>
  have:cJ s=none:=by unfold cJ;rw[q]
  rw[this]
  simp only[ia,↓zq,zs,ac]
  exact⟨fun _=>⟨rfl,rfl⟩,fun h=>(by cases h)⟩
 |
  some t =>
  simp only[ia,↓zq,zs,ac,fM]
  have notRec:(∀a,t≠.rc a)->cJ s=none:=fun hn=>by
   unfold cJ;rw[q]
   cases t<;>first|rfl|exact absurd rfl (hn _)
  refine⟨fun h=>(by cases h),fun _=>?_⟩
  cases t with
  |
   rc a =>
   have h4:=sZ q
   simp only[Ty.aE]at h4
   have hq:cJ s=(nX a l8).bind told:=by unfold cJ;rw[q]
   obtain⟨e,he,hw,hte,hats,hok⟩:=nU q
   have hgood:∀d,nX a l8=some d->fU d/\(uR (.rc a)->uR d):=fun d hd=>rk hw hte ⟨by simp,by simp,by simp⟩ hd
   rw[hq]
   simp only[Ty.av,↓zq,zs,ac]
   refine⟨by omega,fun h=>by omega,fun _=>?_⟩
   have hld:=Oj a (by omega) (fun j=>by
    cases q2:bn (hN j) a with
    |false=>rfl
    |true=>exact absurd rfl ((wG (mQ q (hN j) q2)).2 (dd j)))
   simp only[Ty.av]at hld
   refine aQ hld (Od.ne _) ?_
   rintro r ob ⟨rfl,p,hp,rfl,hpe⟩
   simp only[↓zq,zs,ac,zt,eq_true hp]
   cases q1:nX a l8 with
   |
    none =>
    simp only[bq,bL]
    exact⟨fun _=>⟨rfl,rfl⟩,fun h=>(by cases h)⟩
   |
    some d =>
    simp only[be,ba]
    refine⟨fun h=>(by cases h),fun _=>?_⟩
    rw[hpe d q1]
    have hl:d.aE<=400:=by
     simp only[nX,bg,eM]at q1
     obtain⟨_,_,h1,h2⟩:=q1
     rw[<-h2];exact h1
    refine ai (PT d (hgood d q1).1 ((hgood d q1).2 (AO q)) (by omega)) ?_
    cases told d<;>simp only[uy,↓zq,zs,ac,zt]<;>exact⟨rfl,rfl⟩
  |
   _ =>
   rw[notRec fun a h=>by cases h]
   simp only[Ty.av,↓zq,zs,ac]
   exact⟨by omega,fun _=>⟨rfl,rfl⟩,fun h=>by omega⟩
end Go.Proofs.Trees
namespace Go.Proofs.Trees
open Go Go.VL Go.RowKit
theorem Ez:∀(m:Nat) (c:Vl),c.nodes<=m->∀(t:Ty) (v:Vl),dK t c=true->∀(ea:AV) (ids:List Nat),kt ea ids->∀(s:List UInt8) (fr:AV),LK.has .ptr fr->aq Tryz.prog 101 [.agg [t.av,ea],c.cu,.agg [.v (.string (mk s)),fr],v.cu] [] (bK (cW t c v).cu)
 |0,c,hm=>by have:=dm c;omega
 |
  m+1,c,hm=>by
  intro t v hc ea ids he s fr hf
  refine Qs _ _ _ _ _ _ ((aF _).mpr trivial) he.has ((aO _).mpr trivial) hf ((aO _).mpr trivial) ?_
  have fin:∀x:AV,LK.has .ptr x->LK.has .ptr x=True:=fun x h=>eq_true h
  cases t with
  |zero=>rw[ss];simp[AN,Ty.av,↓zq,zs,ac,bK]
  |one=>rw[vm];simp[AN,Ty.av,↓zq,zs,ac,bK]
  |name n=>rw[kT];simp[AN,Ty.av,↓zq,zs,ac,bK]
  |bQ u=>rw[rJ];simp[AN,Ty.av,↓zq,zs,ac,bK]
  |
   plus a b =>
   have hL:=zd a.av b.av ea 43 (mk []) 0 ((aF _).mpr trivial) he.has
   have hR:=zJ a.av b.av ea 43 (mk []) 0 ((aF _).mpr trivial) he.has
   rcases vW hc with⟨x,rfl,hx⟩|⟨x,rfl,hx⟩
   ·simp only[Vl.nodes]at hm
    simp only[AN,Ty.av,↓zq,zs,ac]
    refine⟨by omega,fun _=>?_,fun h=>absurd rfl h⟩
    refine ai hL ?_
    simp only[↓zq,zs,ac,bH,aF,he.has,Vl.cu,aO]
    refine⟨by omega,fun h=>by omega,fun _=>⟨by omega,by omega,?_⟩⟩
    refine ai (Ez m x (by omega) a v hx ea ids he s fr hf) ?_
    simp only[↓zq,zs,ac,aO]
    refine ai (zm 108 _ ((aO _).mpr trivial)) ?_
    simp[↓zq,zs,ac,bK,cW,Vl.cu,cd]
   ·simp only[Vl.nodes]at hm
    simp only[AN,Ty.av,↓zq,zs,ac]
    refine⟨by omega,fun _=>?_,fun h=>absurd rfl h⟩
    refine ai hL ?_
    simp only[↓zq,zs,ac,bH,aF,he.has,Vl.cu,aO]
    refine⟨by omega,fun _=>?_,fun h=>absurd rfl h⟩
    refine ai hR ?_
    simp only[↓zq,zs,ac,bH,aF,he.has,Vl.cu,aO]
    refine⟨by omega,by omega,?_⟩
    refine ai (Ez m x (by omega) b v hx ea ids he s fr hf) ?_
    simp only[↓zq,zs,ac,aO]
    refine ai (zm 114 _ ((aO _).mpr trivial)) ?_
    simp[↓zq,zs,ac,bK,cW,Vl.cu,cd]
  |
   times a b =>
   have hL:=zd a.av b.av ea 42 (mk []) 0 ((aF _).mpr trivial) he.has
   have hR:=zJ a.av b.av ea 42 (mk []) 0 ((aF _).mpr trivial) he.has
   rcases tq hc with⟨x,y,rfl,hx⟩|⟨x,y,rfl,hx⟩
   ·simp only[Vl.nodes]at hm
    simp only[AN,Ty.av,↓zq,zs,ac,Vl.cu]
    refine⟨by omega,fun h=>by omega,fun _=>⟨fun _=>⟨by omega,fun _=>?_,fun h=>absurd rfl h⟩,fun h=>absurd rfl h⟩⟩
    refine ai hL ?_
    simp only[↓zq,zs,ac,bH,aF,he.has,Vl.cu,aO]
    repeat refine⟨by omega,?_⟩
    refine ai (Ez m x (by omega) a v hx ea ids he s fr hf) ?_
    simp only[↓zq,zs,ac,aO]
    repeat refine⟨by omega,?_⟩
    refine ai (zy _ _ ((aO _).mpr trivial) ((aO _).mpr trivial)) ?_
    simp[↓zq,zs,ac,bK,cW,Vl.cu,cd]
   ·simp only[Vl.nodes]at hm
    simp only[AN,Ty.av,↓zq,zs,ac,Vl.cu,aO]
    refine⟨by omega,fun h=>by omega,fun _=>⟨fun _=>⟨by omega,fun h=>by omega,fun _=>?_⟩,fun h=>absurd rfl h⟩⟩
    repeat refine⟨by omega,?_⟩
    refine ai hR ?_
    simp only[↓zq,zs,ac,bH,aF,he.has,Vl.cu,aO]
    repeat refine⟨by omega,?_⟩
    refine ai (Ez m y (by omega) b v hx ea ids he s fr hf) ?_
    simp only[↓zq,zs,ac,aO]
    refine ai (zy _ _ ((aO _).mpr trivial) ((aO _).mpr trivial)) ?_
    simp[↓zq,zs,ac,bK,cW,Vl.cu,cd]
  |
   rc a =>
   have hin:=Dp a ea ids he
   simp only[Ty.av]at hin
   rcases BG hc with⟨x,rfl,hx⟩|⟨x,y,rfl,hx,hy⟩
   ·simp only[Vl.nodes]at hm
    simp only[AN,Ty.av,↓zq,zs,ac,Vl.cu,aO]
    refine⟨by omega,fun h=>by omega,fun _=>⟨fun h=>by omega,fun _=>⟨fun _=>?_,fun h=>absurd rfl h⟩⟩⟩
    refine aQ hin (by have:=Bk.ne a ea ids;simpa only[Bk,Ty.av]using this) ?_
    intro r o hr
    obtain⟨⟨q,hq,rfl⟩,rfl⟩:=hr
    have he2:kt (.ptr [.pid q [(Ty.rc a).av,ea],ea]) (q::ids):=.cons hq he
    have hfr:LK.ptr.has (.pid q [(Ty.rc a).av,ea]):=.inr (.inr ⟨_,_,rfl⟩)
    simp only[Ty.av]at he2 hfr
    simp only[↓zq,zs,ac,bH,aF,he2.has,hfr,Vl.cu,aO,Ty.av]
    repeat refine⟨by omega,?_⟩
    refine⟨fun _=>?_,fun h=>absurd rfl h⟩
    repeat refine⟨by omega,?_⟩
    refine ai (Ez m x (by omega) a v hx _ _ he2 s fr hf) ?_
    simp only[↓zq,zs,ac,aO]
    refine ai (zm 102 _ ((aO _).mpr trivial)) ?_
    simp[↓zq,zs,ac,bK,cW,Vl.cu,cd]
   ·simp only[Vl.nodes]at hm
    simp only[AN,Ty.av,↓zq,zs,ac,Vl.cu,aO]
    refine⟨by omega,fun h=>by omega,fun _=>⟨fun h=>by omega,fun _=>⟨fun _=>?_,fun h=>absurd rfl h⟩⟩⟩
    refine aQ hin (by have:=Bk.ne a ea ids;simpa only[Bk,Ty.av]using this) ?_
    intro r o hr
    obtain⟨⟨q,hq,rfl⟩,rfl⟩:=hr
    have he2:kt (.ptr [.pid q [(Ty.rc a).av,ea],ea]) (q::ids):=.cons hq he
    have hfr:LK.ptr.has (.pid q [(Ty.rc a).av,ea]):=.inr (.inr ⟨_,_,rfl⟩)
    simp only[Ty.av]at he2 hfr
    simp only[↓zq,zs,ac,bH,aF,he2.has,hfr,Vl.cu,aO,Ty.av]
    repeat refine⟨by omega,?_⟩
    refine fun _=>?_
    repeat refine⟨by omega,?_⟩
    have i1:=Ez m y (by omega) (.rc a) v hy ea ids he s fr hf
    simp only[Ty.av]at i1
    refine ai i1 ?_
    simp only[↓zq,zs,ac,aO]
    repeat refine⟨by omega,?_⟩
    refine ai (Ez m x (by omega) a (cW (.rc a) y v) hx _ _ he2 [] _ hfr) ?_
    simp only[↓zq,zs,ac,aO]
    refine ai (zm 102 _ ((aO _).mpr trivial)) ?_
    simp[↓zq,zs,ac,bK,cW,Vl.cu,cd]
theorem Re(a:Ty)(c v:Vl)(hc:dK a c=true):aq Tryz.prog 74 [(Ty.rc a).av,c.cu,v.cu] [] (bK (Vl.f (cW a c v)).cu):=by
 refine Ql _ _ _ ((aF _).mpr trivial) ((aO _).mpr trivial) ((aO _).mpr trivial) ?_
 unfold Mv
 refine aQ (Dp a io [] .nil) (Bk.ne a io []) ?_
 rintro r o ⟨⟨m,hm,rfl⟩,rfl⟩
 have he2:kt (.ptr [.pid m [(Ty.rc a).av,io],io]) [m]:=.cons hm .nil
 have hfr:LK.ptr.has (.pid m [(Ty.rc a).av,io]):=.inr (.inr ⟨_,_,rfl⟩)
 simp only[Ty.av]at he2 hfr
 simp only[↓zq,zs,ac,bH,aF,he2.has,hfr,Ty.av]
 repeat refine⟨by omega,?_⟩
 refine ai (Ez c.nodes c (au _) a v hc _ _ he2 [] _ hfr) ?_
 simp only[↓zq,zs,ac,aO]
 refine ai (zm 102 _ ((aO _).mpr trivial)) ?_
 simp[↓zq,zs,ac,bK,Vl.cu,cd]
end Go.Proofs.Trees
namespace Go.Proofs.Trees
open Go Go.VL Go.RowKit
def vg(l:List Vl):List (List AV):=l.map fun c=>[c.cu]
theorem lO(l:List Vl):(vg l).length=l.length:=by simp[vg]
theorem xM{l:List Vl}{i:Nat}(h:i<l.length):(vg l).getD i []=[(l[i]).cu]:=by simp[vg,aa,h]
theorem yq(l:List Vl)(c:Vl):vg l++[[c.cu]]=vg (l++[c]):=by simp[vg]
def wk(s:Nm)(a:Ty)(l:List Vl)(v:Vl):AV:=.ptr [.v (.string (mk s)),(Ty.rc a).av,.sl (vg l),v.cu]
def oZ(s:Nm)(a:Ty):Option (List Vl×Vl)->AV
 |some r=>wk s a r.1 r.2
 |none=>io
theorem pI(s:Nm)(a:Ty)(o:Option (List Vl×Vl)):LK.has .ptr (oZ s a o)=True:=by cases o<;>simp[oZ,wk,iC,cd]
theorem D4(v:Vl):(Vl.f v).nodes=v.nodes+1:=by simp only[Vl.nodes];omega
theorem RE(s:Nm)(a:Ty)(l:List Vl)(v:Vl)(h:ZI a l v)(hl:l.length<=50):aq Tryz.prog 46 [wk s a l v] [] (bK (oZ s a (si a l v))):=by
 refine RC _ ((cd _).mpr trivial) ?_
 simp only[LA,wk,↓zq,zs,ac,lO]
 refine⟨fun h=>(by cases h),fun _=>?_⟩
 repeat refine⟨by omega,?_⟩
 unfold si
 refine⟨fun h0=>?_,fun h0=>?_⟩
 ·have:l=[]:=List.eq_nil_of_length_eq_zero (by omega)
  subst this
  exact⟨rfl,rfl⟩
 ·have hpos:0<l.length:=by omega
  have hne:l≠[]:=by rintro rfl;simp at hpos
  rw[wrap64 ((l.length:Int)-1) (by omega) (by omega)]
  have e1:((l.length:Int)-1).toNat=l.length-1:=by omega
  have hlt:l.length-1<l.length:=by omega
  have hlast:l.getLast?=some (l[l.length-1]):=by rw[List.getLast?_eq_some_getLast hne,List.getLast_eq_getElem]
  rw[hlast]
  have hC:=h.Dd _ (bF hlt)
  generalize hc:l[l.length-1]=c at *
  simp only[e1,xM hlt,hc,↓zq,zs,ac,aO,aF]
  repeat refine⟨by omega,?_⟩
  refine ai (Re a c v hC.ok) ?_
  simp only[↓zq,zs,ac,aO]
  have hn:=rI a c v
  have h1:=hC.nd
  have h2:=h.pD.nd
  refine ai (Eu (.f (cW a c v)) (by rw[D4];omega)) ?_
  simp only[↓zq,zs,ac,aO,aF]
  refine⟨fun hb=>?_,fun hb=>?_⟩
  ·rw[if_neg (by omega)];exact⟨rfl,rfl⟩
  ·rw[if_pos (by omega)]
   repeat refine⟨by omega,?_⟩
   refine⟨?_,rfl⟩
   have:(vg l).take (l.length-1)=vg l.dropLast:=by rw[List.dropLast_eq_take];simp[vg]
   simp only[oZ,wk,Int.toNat_zero,bh,this]
theorem L4{s d:Nm}{a:Ty}{x A B:E}{D:Ty}(z:ZT s d a x A B D)(pa:AV)(p:List Nm)(hp:cF pa p)(hl:p.length<=50)(v:Vl):∀(k i:Nat) (l0:List Vl),i+k=p.length->l0.length<=i ->
 Gl [.v (.string (mk d)),pa,.v (.int .i64 (p.length:Int)),.v (.int .i64 (i:Int))] [.cells [.v (.string (mk s)),(Ty.rc a).av,.any,v.cu],.vec 1 (vg l0)]
  (pN (match eK d (p.drop i)with|some l=>(1,[],[.cells [.v (.string (mk s)),(Ty.rc a).av,.any,v.cu],.vec 1 (vg (l0++l))])|none=>(2,[io],[])))
 |
  0,i,l0,hi,If=>by
  refine Nt _ _ _ _ _ _ _ _ ?_
  have:i=p.length:=by omega
  subst this
  simp only[EZ,↓zq,zs,ac,ac,aF,aO,List.drop_length]
  exact⟨hp.1,fun h=>by omega,fun _=>by simp[pN,eK]⟩
 |
  k+1,i,l0,hi,If=>by
  have hlt:i<p.length:=by omega
  have hd:p.drop i=p.getD i []::p.drop (i+1):=by rw[aW hlt];simp[aa,hlt]
  refine Nt _ _ _ _ _ _ _ _ ?_
  simp only[EZ,↓zq,zs,ac,zt,ac,aF,aO,hp.len,hp.idx hlt,bZ]
  refine⟨hp.1,fun _=>⟨⟨hp.1,by omega,by omega⟩,by omega,?_⟩,fun h=>by omega⟩
  refine ai (LN d (p.getD i []) 100) ?_
  rw[hd,eK]
  simp only[↓zq,zs,ac,zt,iu,gr]
  cases q:nA d (p.getD i []) 100 with
  |
   none =>
   simp only[jl,↓zq,zs,ac]
   exact⟨fun _=>by first|trivial|rfl,fun h=>(by cases h)⟩
  |
   some w =>
   simp only[jl,↓zq,zs,ac,fy,yq]
   refine⟨fun h=>(by cases h),fun _=>?_⟩
   rw[bA i (by omega)]
   have ih:=L4 z pa p hp hl v k (i+1) (l0++[w]) (by omega) (by simp;omega)
   refine⟨⟨fun c hc=>by simp at hc;rw[hc];rfl,by rw[lO];omega⟩,?_⟩
   cases q2:eK d (p.drop (i+1))with
   |none=>rw[q2]at ih;exact ih
   |some l=>rw[q2]at ih;simp only[bc,bb,aU]at ih;exact ih
theorem mP{s:Nm}{p:List Nm}{f:Nm}{l:List Vl}{v:Vl}(h:v8 s p f=some (l,v)):∃d a x A B D,ZT s d a x A B D/\ZI a l v/\p=l.map (·.cM)/\f=v.cM/\p.length<=50/\zA s=a/\qv s f=some v/\eK d p=some l:=by
 unfold v8 at h
 split at h
 ·rename_i v' d h1 h2
  split at h
  ·rename_i hl
   obtain⟨l',h3,h4⟩:=Option.map_eq_some_iff.1 h
   cases h4
   obtain⟨a,_,_,_,L⟩:=px h1
   obtain⟨x,A,B,D,z⟩:=ZT.of L.l h2
   obtain⟨q1,q2⟩:=rU z p l h3
   obtain⟨q3,q4⟩:=z.pD h1
   exact⟨d,a,x,A,B,D,z,⟨q2,q3⟩,q1,q4,hl,by unfold zA;rw[L.l];rfl,h1,h3⟩
  ·cases h
 ·cases h
theorem Qh(s:Nm)(pa:AV)(p:List Nm)(hp:cF pa p)(f:Nm):aq Tryz.prog 63 [.agg [.v (.string (mk s)),pa,.v (.string (mk f))]] [] (bK (oZ s (zA s) (v8 s p f))):=by
 refine PG _ _ _ hp.1 ?_
 unfold M5
 refine ai (QS s f) ?_
 have hlt:LK.has .ptr (GS s)=True:=by unfold GS;split<;>simp[aF,iC]
 simp only[↓zq,zs,ac,zt,hlt,gr]
 refine ai (Ro s) ?_
 have ho:∀o:Option Nm,uy o=.cD [.v (.string (mk (o.getD []))),.v (.bool o.isSome)]:=fun o=>by cases o<;>rfl
 rw[ho]
 simp only[↓zq,zs,ac,zt]
 unfold v8
 cases h1:qv s f with
 |
  none =>
  simp only[jl,↓zq,zs,ac]
  exact⟨fun _=>⟨rfl,rfl⟩,fun h=>(by cases h)⟩
 |
  some v =>
  simp only[jl,↓zq,zs,ac,fy]
  refine⟨fun h=>(by cases h),fun _=>?_⟩
  cases h2:cJ s with
  |
   none =>
   simp only[bq]
   exact⟨fun _=>⟨rfl,rfl⟩,fun h=>(by cases h)⟩
  |
   some d =>
   simp only[be,cA,hp.len]
   refine⟨fun h=>(by cases h),fun _=>⟨hp.1,fun h=>?_,fun h=>?_⟩⟩
   ·rw[if_neg (by omega)];exact⟨rfl,rfl⟩
   ·have hl:p.length<=50:=by omega
    rw[if_pos hl]
    obtain⟨a,_,_,_,L⟩:=px h1
    obtain⟨x,A,B,D,z⟩:=ZT.of L.l h2
    have ht:GS s=(Ty.rc a).av:=by unfold GS;rw[L.l]
    have hza:zA s=a:=by unfold zA;rw[L.l];rfl
    rw[ht,hza]
    refine⟨hp.1,?_⟩
    have hloop:=L4 z pa p hp hl v p.length 0 [] (by omega) (by simp)
    rw[bh]at hloop
    refine fX hloop (fun ys o e=>?_) (fun ys o e=>?_)
    ·cases q:eK d p with
     |none=>rw[q]at e;cases e
     |
      some l =>
      rw[q]at e
      cases e
      simp only[↓zq,zs,ac,zt,ac,aM,aF,aO,cz]
      exact⟨rfl,rfl⟩
    ·cases q:eK d p with
     |
      none =>
      rw[q]at e
      cases e
      simp only[↓zq,zs,ac,zt,ac,aM,Option.map_none]
      exact⟨rfl,rfl⟩
     |some l=>rw[q]at e;cases e
theorem K3(s:Nm)(a:Ty)(x3:AV)(h3:LK.ptr.has x3):∀(n:Nat) (l:List Vl) (v:Vl),l.length=n->ZI a l v->n<=50 ->
 Gw [x3,wk s a l v] [] (pN (if(lR n a l v).isSome=true then(1,[x3],[])else(2,[io],[])))
 |
  0,l,v,hl,h,hn=>by
  refine Mw _ _ ?_
  simp only[Ia,wk,↓zq,zs,ac,h3,lO,hl,lR]
  repeat refine⟨by omega,?_⟩
  exact fun _=>by simp[pN]
 |
  n+1,l,v,hl,h,hn=>by
  refine Mw _ _ ?_
  have hup:=RE s a l v h (by omega)
  simp only[Ia,↓zq,zs,ac,h3]
  simp only[wk,↓zq,zs,ac,lO,hl]at hup |-
  repeat refine⟨by omega,?_⟩
  refine⟨fun _=>?_,fun h=>by omega⟩
  refine ai hup ?_
  simp only[↓zq,zs,ac,pI]
  rw[lR]
  cases q:si a l v with
  |
   none =>
   simp only[oZ,↓zq,zs,ac,bL]
   exact⟨fun _=>by simp[pN],fun h=>(by cases h)⟩
  |
   some r =>
   obtain⟨hz,hlen,_⟩:=tQ h q
   have ih:=K3 s a x3 h3 n r.1 r.2 (by omega) hz (by omega)
   simp only[oZ,wk,↓zq,zs,ac,ba]at ih |-
   exact⟨fun h=>(by cases h),fun _=>ih⟩
theorem RI(s:Nm)(pa:AV)(p:List Nm)(hp:cF pa p)(f:Nm):aq Tryz.prog 45 [.agg [.v (.string (mk s)),pa,.v (.string (mk f))]] [] (bK (oZ s (zA s) (gF s p f))):=by
 refine Qt _ _ _ hp.1 ?_
 unfold Mx
 refine ai (Qh s pa p hp f) ?_
 simp only[↓zq,zs,ac,zt,pI]
 unfold gF
 cases q:v8 s p f with
 |
  none =>
  simp only[oZ,↓zq,zs,ac,bL]
  exact⟨fun _=>⟨rfl,rfl⟩,fun h=>(by cases h)⟩
 |
  some r =>
  obtain⟨l,v⟩:=r
  obtain⟨d,a,x,A,B,D,z,hz,hpt,hft,hl,hza,_,_⟩:=mP q
  rw[hza]
  have hll:l.length<=50:=by rw[hpt]at hl;simpa using hl
  have hloop:=K3 s a (wk s a l v) ((cd _).mpr trivial) l.length l v rfl hz hll
  simp only[oZ,ba]
  refine⟨fun h=>(by cases h),fun _=>?_⟩
  unfold sr
  refine fX hloop (fun ys o e=>?_) (fun ys o e=>?_)
  ·split at e
   ·rename_i hc
    cases e
    rw[if_pos hc]
    simp only[↓zq,zs,ac,wk,cd]
    exact⟨rfl,rfl⟩
   ·cases e
  ·split at e
   ·cases e
   ·rename_i hc
    cases e
    rw[if_neg hc]
    simp only[↓zq,zs,ac]
    exact⟨rfl,rfl⟩
end Go.Proofs.Trees
namespace Go.Proofs.Trees
open Go Go.VL Go.RowKit
abbrev tZ(s:Nm):Option (List Vl×Vl)->Nm×List Nm×Nm
 |some r=>(s,r.1.map (·.cM),r.2.cM)
 |none=>([],[],[])
def GZ(o:Option (List Vl×Vl)):Prop:=∀r,o=some r->(∀c,c∈r.1->c.cM.length<=900000)/\r.2.cM.length<=900000/\r.1.length<=51
theorem Cx.cM{a:Ty}{c:Vl}(h:Cx a c):c.cM.length<=900000:=by have:=ja c h.ic;have:=h.nd;omega
theorem Fo.cM{a:Ty}{c:Vl}(h:Fo a c):c.cM.length<=900000:=by have:=ja c h.ic;have:=h.nd;omega
theorem ZI.gz{a:Ty}{l:List Vl}{v:Vl}(h:ZI a l v)(hl:l.length<=51):GZ (some (l,v)):=fun r hr=>by
 cases hr;exact⟨fun c hc=>(h.Dd c hc).cM,h.pD.cM,hl⟩
theorem GZ.none:GZ none:=fun r hr=>by cases hr
theorem J2(l:List Vl)(hl:l.length<=51)(ht:∀c,c∈l->c.cM.length<=900000)(s f:Nm):∀(k i:Nat) (out:List Nm),i+k=l.length->out.length<=i ->
 FD [.sl (vg l),.v (.int .i64 (l.length:Int)),.v (.int .i64 (i:Int))] [.cells [.v (.string (mk [])),yO,.v (.string (mk []))],.cells [.v (.string (mk s)),.any,.v (.string (mk f))],.vec 1 (bD out)]
  (iF 1 [] [.cells [.v (.string (mk [])),yO,.v (.string (mk []))],.cells [.v (.string (mk s)),.any,.v (.string (mk f))],.vec 1 (bD (out++(l.drop i).map (·.cM)))])
 |
  0,i,out,hi,ho=>by
  refine NH _ _ _ _ _ _ _ _ _ ?_
  have:i=l.length:=by omega
  subst this
  simp only[EX,↓zq,zs,ac,zt,ac,bi,List.drop_length]
  exact⟨fun h=>by omega,fun _=>by simp[iF]⟩
 |
  k+1,i,out,hi,ho=>by
  have hlt:i<l.length:=by omega
  refine NH _ _ _ _ _ _ _ _ _ ?_
  simp only[EX,↓zq,zs,ac,zt,ac,bi,lO,xM hlt,aO,bZ]
  refine⟨fun _=>?_,fun h=>by omega⟩
  repeat refine⟨by omega,?_⟩
  refine ai (Gs (l[i]) (ht _ (bF hlt))) ?_
  simp only[↓zq,zs,ac,zt,EO,j9]
  refine⟨⟨fun c hc=>by simp at hc;rw[hc];rfl,by omega⟩,?_⟩
  rw[bA i (by omega),aW hlt,bC]
  have:=J2 l hl ht s f k (i+1) (out++[(l[i]).cM]) (by omega) (by simp;omega)
  rw[bc]at this
  exact this
theorem Ry(s:Nm)(a:Ty)(o:Option (List Vl×Vl))(h:GZ o):aq Tryz.prog 58 [oZ s a o] [] (dq (.cD [.agg [.v (.string (mk (tZ s o).1)),.vec 0,.v (.string (mk (tZ s o).2.2))],.v (.bool o.isSome)]) [.vec 1 (bD (tZ s o).2.1)]):=by
 refine Rm _ (by rw[pI];trivial) ?_
 unfold Kp
 cases o with
 |
  none =>
  simp only[oZ,↓zq,zs,ac]
  exact⟨fun _=>⟨rfl,rfl⟩,fun h=>(by cases h)⟩
 |
  some r =>
  obtain⟨h1,h2,h3⟩:=h r rfl
  simp only[oZ,wk,↓zq,zs,ac,zt,aF,aO]
  refine⟨fun h=>(by cases h),fun _=>?_⟩
  repeat refine⟨by omega,?_⟩
  refine ai (Gs r.2 h2) ?_
  simp only[↓zq,zs,ac,zt,aF,aO,lO]
  repeat refine⟨by omega,?_⟩
  have hlp:=J2 r.1 h3 h1 s r.2.cM r.1.length 0 [] (by omega) (by simp)
  rw[bh,aU]at hlp
  refine cB hlp ?_
  simp only[↓zq,zs,ac,zt,ac,aM,bi]
  exact⟨rfl,rfl⟩
theorem iO{s:Nm}{p:List Nm}{f:Nm}{l:List Vl}{v:Vl}(h:gF s p f=some (l,v)):v8 s p f=some (l,v)/\(sr (zA s) l v).isSome=true:=by
 unfold gF at h
 obtain⟨r,h1,h2⟩:=bg.1 h
 split at h2
 ·rename_i hc
  cases h2
  exact⟨h1,hc⟩
 ·cases h2
theorem Gz(s:Nm)(p:List Nm)(f:Nm):GZ (v8 s p f):=fun r hr=>by
 obtain⟨d,a,x,A,B,D,z,hz,hp,hf,hl,hza,_,_⟩:=mP (l:=r.1) (v:=r.2) hr
 exact hz.gz (by
  rw[hp]at hl;have:r.1.length<=50:=by simpa using hl
  omega) r rfl
noncomputable def RQ (s:Nm) (p:List Nm) (f:Nm):Option (List Vl×Vl):=(gF s p f).bind fun r=>si (zA s) r.1 r.2
noncomputable def uJ (s:Nm) (p:List Nm) (f:Nm):Option Nm:=(gF s p f).bind fun r=>(sr (zA s) r.1 r.2).map (·.cM)
noncomputable def jx (s:Nm) (p:List Nm) (f:Nm):Int:=match gF s p f with
 |some r=>((kids (zA s) r.2).length:Int)
 |none=>-1
abbrev G9(s:Nm)(o:Option (List Vl×Vl)):AV->List Ob->Prop:=dq (.cD [.agg [.v (.string (mk (tZ s o).1)),.vec 0,.v (.string (mk (tZ s o).2.2))],.v (.bool o.isSome)]) [.vec 1 (bD (tZ s o).2.1)]
theorem QQ(s:Nm)(pa:AV)(p:List Nm)(hp:cF pa p)(f:Nm):aq Tryz.prog 33 [.agg [.v (.string (mk s)),pa,.v (.string (mk f))]] [] (bK (.v (.int .i64 (jx s p f)))):=by
 refine QH _ _ _ hp.1 ?_
 unfold NV
 refine ai (RI s pa p hp f) ?_
 simp only[↓zq,zs,ac,pI]
 unfold jx
 cases q:gF s p f with
 |
  none =>
  simp only[oZ,↓zq,zs,ac]
  exact⟨fun _=>⟨rfl,rfl⟩,fun h=>(by cases h)⟩
 |
  some r =>
  obtain⟨l,v⟩:=r
  obtain⟨d,a,x,A,B,D,z,hz,_,_,_,hza,_,_⟩:=mP (iO q).1
  simp only[oZ,wk,↓zq,zs,ac,aO,aF,hza]
  refine⟨fun h=>(by cases h),fun _=>?_⟩
  repeat refine⟨by first|trivial|omega,?_⟩
  have:=hz.pD.nd
  refine ai (Kq 100 v x A B a z.body z.hx (hz.pD.eW z) (by omega)) ?_
  simp only[↓zq,zs,ac]
  exact⟨by first|rfl|simp[gY],rfl⟩
end Go.Proofs.Trees
namespace Go.Proofs.Trees
open Go Go.VL Go.RowKit
def lK:E->Option E
 | .list [x,a,b]=>if x.at=[114,101,99]then some (.list [x,a,b])else none
 |_=>none
def oA(s:List UInt8):Option E:=match jB s with
 |some e=>lK e
 |none=>none
theorem FZ(s:List UInt8):aq Tryz.prog 88 [.v (.string (mk s))] [] (jG (oA s) (oA s).isSome):=by
 refine O2 _ ?_
 unfold IP
 refine aQ (EU s) (jG.ne _ _ (fun h=>h)) ?_
 rintro r o ⟨c,d,hd,rfl,hh⟩
 have hhas:bH [.str,.sl] [.v (.string (mk c)),d] 0:=by simp[bH,dW,hd]
 simp only[↓zq,zs,ac,zt]
 refine⟨hhas,fun h=>?_,fun h=>?_⟩
 ·obtain⟨e,he,hce⟩:=hh h
  obtain⟨t,h1,hA,h3,h4,h5,_⟩:=gR he
  have hce':=hce
  rw[di]at hce'
  simp only[AV.agg.injEq,List.cons.injEq,AV.v.injEq,Value.string.injEq,and_true]at hce'
  obtain⟨hc1,rfl⟩:=hce'
  have hc2:=wE hc1
  subst hc2
  have head:∀w:List UInt8,aq Tryz.prog 121 [.agg [.v (.string (mk e.at)),e.sp]] [] (bK (.v (.string (mk w))))->(w=[114,101,99]↔(lK e).isSome=true)->((lK e).isSome=true->lK e=some e) ->
   eT Tryz.prog 18 (Tree.call 121 [.agg [.v (.string (mk e.at)),e.sp]] [] fun r2 o2=>Tree.aj (LK.str.has r2) (Tree.done 0 [.cD [.agg [.v (.string (mk e.at)),e.sp],.v (.bool (af r2.ag==[114,101,99]))]] [])) fun _ xs obs=>jG (oA s) (oA s).isSome (xs.headD .any) obs:=by
   intro w hw h1 h2
   refine ai hw ?_
   simp only[↓zq,zs,ac,zt]
   refine⟨e.at,e.sp,hd,?_,fun hs=>⟨e,?_,(di e).symm⟩⟩
   ·congr 3
    simp only[oA,he,AV.v.injEq,Value.bool.injEq,List.cons.injEq,and_true]
    rw[ct];simpa using h1
   ·simp only[oA,he]at hs |-;exact h2 hs
  have hl:∀x l,e=.list (x::l)->aq Tryz.prog 121 [.agg [.v (.string (mk e.at)),e.sp]] [] (bK (.v (.string (mk x.at)))):=by
   rintro x l rfl;exact uL x l
  have ha:∀s0,e=.atom s0->aq Tryz.prog 121 [.agg [.v (.string (mk e.at)),e.sp]] [] (bK (.v (.string (mk [])))):=by
   rintro s0 rfl;exact Ae s0 _ ((bi).mpr trivial) hA.ok
  rcases gp hA.wf hA.ty with⟨hb,_⟩|⟨u,g,rfl,_,hg⟩
  ·rcases fK hA.ty hb hA.cl with⟨rfl,rfl⟩|⟨rfl,rfl⟩|⟨s0,rfl,rfl,hp,h0,h1⟩|⟨x,a,b,t1,t2,rfl,hx,rfl,ha',hbb⟩|⟨x,a,b,t1,t2,rfl,hx,rfl,ha',hbb⟩|⟨x,a,b,t1,rfl,hx,rfl⟩
   ·exact head _ (ha _ rfl) (by simp[lK]) (by simp[lK])
   ·exact head _ (ha _ rfl) (by simp[lK]) (by simp[lK])
   ·exact head _ (ha _ rfl) (by simp[lK]) (by simp[lK])
   ·exact head _ (hl _ _ rfl) (by simp[lK,hx]) (by simp[lK,hx])
   ·exact head _ (hl _ _ rfl) (by simp[lK,hx]) (by simp[lK,hx])
   ·exact head _ (hl _ _ rfl) (by simp[lK,hx]) (by simp[lK,hx])
  ·simp at hg
 ·have hn:jB s=none:=by cases hq:jB s<;>simp[hq]at h |-
  refine⟨c,d,hd,?_,fun h=>?_⟩
  ·simp[oA,hn]
  ·simp[oA,hn]at h
theorem AF(s:List UInt8):(oA s).isSome=(kp s).isSome:=by
 unfold oA kp
 cases h:jB s with
 |none=>rw[nj h];rfl
 |
  some e =>
  obtain⟨t,h1,hA,h3,h4,h5,_⟩:=gR h
  rw[h1]
  simp only
  rcases gp hA.wf hA.ty with⟨hb,_⟩|⟨u,g,rfl,_,hg⟩
  ·rcases fK hA.ty hb hA.cl with⟨rfl,rfl⟩|⟨rfl,rfl⟩|⟨s0,rfl,rfl,hp,h0,h1⟩|⟨x,a,b,t1,t2,rfl,hx,rfl,ha',hbb⟩|⟨x,a,b,t1,t2,rfl,hx,rfl,ha',hbb⟩|⟨x,a,b,t1,rfl,hx,rfl⟩<;>simp_all[lK]
  ·simp at hg
theorem LV.le{s v:List UInt8}{w:Vl}{a:Ty}{x A B:E}(h:LV s v w a x A B):oA s=some (.list [x,A,B]):=by
 unfold oA;rw[h.ce];simp[lK,h.hx]
theorem Ot(n:Nat)(v:Vl)(x A B:E)(a:Ty)(hA:Ask B [.mk A.at (.list [x,A,B]) []] a)(hx:x.at=[114,101,99])(w:Vl)(hw:v=.f w)(hv:eW n v (.list [x,A,B],[])=true)(hl:v.nodes<90000) :
 aq Tryz.prog 92 [.agg [.v (.string (mk B.at)),B.sp],.v (.string (mk A.at)),.agg [.v (.string (mk w.cG.at)),w.cG.sp]] [] (bK (.sl (lZ (kids a v)))):=by
 subst hw
 obtain⟨w',e,hw'⟩:=uG .nil hx hv
 cases e
 simp only[Vl.nodes]at hl
 have hnm:names [Fr.mk A.at (.list [x,A,B]) []]=[]++[A.at]:=rfl
 have h:=EE n w.nodes w (au _) B _ a hA hw' (by simp;omega) A.at (by rw[hnm];right;rw[fk];rfl)
 rw[hnm,vH]at h
 exact h
end Go.Proofs.Trees
namespace Go.Proofs.Trees
open Go Go.VL Go.RowKit
def Pu(e:E)(s:List UInt8)(t:Ty)(c v:Vl):Prop:=aq Tryz.prog 99 [.agg [.v (.string (mk e.at)),e.sp],.v (.string (mk s)),.agg [.v (.string (mk c.cG.at)),c.cG.sp],.agg [.v (.string (mk v.cG.at)),v.cG.sp]] [] (bK (.agg [.v (.string (mk (cW t c v).cG.at)),(cW t c v).cG.sp]))
theorem EB:∀(m:Nat) (c:Vl),c.nodes<=m->∀(e:E) (env:List Fr) (t:Ty),Ask e env t->dK t c=true->∀(s:List UInt8) (v:Vl),Pu e s t c v
 |0,c,hm=>by have:=dm c;omega
 |
  m+1,c,hm=>by
  intro e env t A hc s v
  unfold Pu
  refine Pm _ _ _ _ _ _ _ ((aX _).mpr trivial) ((aX _).mpr trivial) ((aX _).mpr trivial) ?_
  have atomCase:∀s0,e=.atom s0->cW t c v=v->eT Tryz.prog 244 (CM (mk e.at) e.sp (mk s) (mk c.cG.at) c.cG.sp (mk v.cG.at) v.cG.sp) fun _ xs obs=>bK (.agg [.v (.string (mk (cW t c v).cG.at)),(cW t c v).cG.sp]) (xs.headD .any) obs:=by
   rintro s0 rfl hp
   have hne:s0≠[]:=A.ok
   rw[hp]
   simp only[CM,E.at,↓zq,zs,ac,zt,bK]
   exact⟨fun _=>trivial,fun h=>absurd h hne⟩
  have hvh:=B3 c
  rw[di]at hvh
  rcases gp A.wf A.ty with⟨hb,hq⟩|⟨u,g,rfl,hq,hu⟩
  ·rcases fK A.ty hb A.cl with⟨rfl,rfl⟩|⟨rfl,rfl⟩|⟨s0,rfl,rfl,hp,h0,h1⟩|⟨x,a,b,t1,t2,rfl,hx,rfl,ha,hbb⟩|⟨x,a,b,t1,t2,rfl,hx,rfl,ha,hbb⟩|⟨x,a,b,t1,rfl,hx,rfl⟩
   ·exact atomCase _ rfl (ss _ _)
   ·exact atomCase _ rfl (vm _ _)
   ·exact atomCase _ rfl (kT _ _ _)
   ·obtain⟨ok1,ok2,ok3,_⟩:=A.ok
    obtain⟨f1,f2⟩:=fm A.cl
    have hP:=P3.of x a b
    have hH:aq Tryz.prog 121 [.agg [.v (.string (mk [])),(E.list [x,a,b]).sp]] [] (bK (.v (.string (mk [43])))):=by rw[<-hx];exact uL x [a,b]
    rcases vW hc with⟨y,rfl,hy⟩|⟨y,rfl,hy⟩
    ·simp only[Vl.nodes]at hm
     have hW:=P2.of (.atom [108]) y.cG
     simp only[Vl.cG,bJ]at hvh
     simp only[CM,bJ,Vl.cG,toNat_one,bf,↓zq,zs,ac,zt,hP.1,hP.2.1,hP.2.2.1,hP.2.2.2,hW.1,hW.2.1,hW.2.2,aL]
     refine⟨fun h=>absurd rfl h,fun _=>?_⟩
     repeat refine⟨by omega,?_⟩
     refine ai hH ?_
     simp only[↓zq,zs,ac,zt]
     refine ai hvh ?_
     simp only[vh,↓zq,zs,ac,zt,bb,aU]
     refine⟨by simp[cK],fun _=>?_,fun h=>absurd rfl h⟩
     repeat refine⟨by omega,?_⟩
     refine ai (EB m y (by omega) a env t1 ⟨ok2,A.wf,ha,f1⟩ hy s v) ?_
     simp only[↓zq,zs,ac,zt,aL]
     repeat refine⟨by omega,?_⟩
     refine ai (xy _ _) ?_
     simp only[↓zq,zs,ac,zt,aL]
     repeat refine⟨by omega,?_⟩
     exact⟨rfl,rfl⟩
    ·simp only[Vl.nodes]at hm
     have hW:=P2.of (.atom [114]) y.cG
     simp only[Vl.cG,bJ]at hvh
     simp only[CM,bJ,Vl.cG,toNat_one,bf,↓zq,zs,ac,zt,hP.1,hP.2.1,hP.2.2.1,hP.2.2.2,hW.1,hW.2.1,hW.2.2,aL]
     refine⟨fun h=>absurd rfl h,fun _=>?_⟩
     repeat refine⟨by omega,?_⟩
     refine ai hH ?_
     simp only[↓zq,zs,ac,zt]
     refine ai hvh ?_
     simp only[vh,↓zq,zs,ac,zt,bb,aU]
     refine⟨by simp[cK],fun h=>by simp at h,fun _=>⟨fun _=>?_,fun h=>absurd rfl h⟩⟩
     repeat refine⟨by omega,?_⟩
     refine ai (EB m y (by omega) b env t2 ⟨ok3,A.wf,hbb,f2⟩ hy s v) ?_
     simp only[↓zq,zs,ac,zt,aL]
     repeat refine⟨by omega,?_⟩
     refine ai (xy _ _) ?_
     simp only[↓zq,zs,ac,zt,aL]
     repeat refine⟨by omega,?_⟩
     exact⟨rfl,rfl⟩
   ·obtain⟨ok1,ok2,ok3,_⟩:=A.ok
    obtain⟨f1,f2⟩:=eV A.cl
    have hP:=P3.of x a b
    have hH:aq Tryz.prog 121 [.agg [.v (.string (mk [])),(E.list [x,a,b]).sp]] [] (bK (.v (.string (mk [42])))):=by rw[<-hx];exact uL x [a,b]
    rcases tq hc with⟨y,z,rfl,hy⟩|⟨y,z,rfl,hy⟩
    ·simp only[Vl.nodes]at hm
     have hW:=P2.of (.atom [108]) (E.list [.atom [112],y.cG,z.cG])
     have hQ:=P3.of (.atom [112]) y.cG z.cG
     simp only[Vl.cG,bJ]at hvh
     simp only[CM,bJ,Vl.cG,toNat_one,bf,↓zq,zs,ac,zt,hP.1,hP.2.1,hP.2.2.1,hP.2.2.2,hW.1,hW.2.1,hW.2.2,hQ.1,hQ.2.1,hQ.2.2.1,hQ.2.2.2,aL]
     refine⟨fun h=>absurd rfl h,fun _=>?_⟩
     repeat refine⟨by omega,?_⟩
     refine ai hH ?_
     simp only[↓zq,zs,ac,zt]
     refine ai hvh ?_
     simp only[vh,↓zq,zs,ac,zt,bb,aU]
     refine⟨by simp[cK],fun h=>by simp at h,fun _=>⟨fun h=>by simp at h,fun _=>⟨fun _=>?_,fun h=>absurd rfl h⟩⟩⟩
     repeat refine⟨by omega,?_⟩
     refine ai (EB m y (by omega) a env t1 ⟨ok2,A.wf,ha,f1⟩ hy s v) ?_
     simp only[↓zq,zs,ac,zt,aL]
     repeat refine⟨by omega,?_⟩
     refine ai (xr _ _ _) ?_
     simp only[↓zq,zs,ac,zt,aL]
     repeat refine⟨by omega,?_⟩
     exact⟨rfl,rfl⟩
    ·simp only[Vl.nodes]at hm
     have hW:=P2.of (.atom [114]) (E.list [.atom [112],y.cG,z.cG])
     have hQ:=P3.of (.atom [112]) y.cG z.cG
     simp only[Vl.cG,bJ]at hvh
     simp only[CM,bJ,Vl.cG,toNat_one,bf,↓zq,zs,ac,zt,hP.1,hP.2.1,hP.2.2.1,hP.2.2.2,hW.1,hW.2.1,hW.2.2,hQ.1,hQ.2.1,hQ.2.2.1,hQ.2.2.2,aL]
     refine⟨fun h=>absurd rfl h,fun _=>?_⟩
     repeat refine⟨by omega,?_⟩
     refine ai hH ?_
     simp only[↓zq,zs,ac,zt]
     refine ai hvh ?_
     simp only[vh,↓zq,zs,ac,zt,bb,aU]
     refine⟨by simp[cK],fun h=>by simp at h,fun _=>⟨fun h=>by simp at h,fun _=>⟨fun h=>by simp at h,fun _=>⟨fun _=>?_,fun h=>absurd rfl h⟩⟩⟩⟩
     repeat refine⟨by omega,?_⟩
     refine ai (EB m z (by omega) b env t2 ⟨ok3,A.wf,hbb,f2⟩ hy s v) ?_
     simp only[↓zq,zs,ac,zt,aL]
     repeat refine⟨by omega,?_⟩
     refine ai (xr _ _ _) ?_
     simp only[↓zq,zs,ac,zt,aL]
     repeat refine⟨by omega,?_⟩
     exact⟨rfl,rfl⟩
   ·obtain⟨t1',he1,h1,f1,hw1⟩:=jq A.wf A.ok hx A.ty A.cl
    cases he1
    obtain⟨ok1,ok2,ok3,_⟩:=A.ok
    have A':Ask b (.mk a.at (.list [x,a,b]) env::env) t1:=⟨ok3,hw1,h1,f1⟩
    have hP:=P3.of x a b
    have hH:aq Tryz.prog 121 [.agg [.v (.string (mk [])),(E.list [x,a,b]).sp]] [] (bK (.v (.string (mk [114,101,99])))):=by rw[<-hx];exact uL x [a,b]
    rcases BG hc with⟨y,rfl,hy⟩|⟨y,z,rfl,hy,hz⟩
    ·simp only[Vl.nodes]at hm
     have hW:=P2.of (.atom [102]) (E.list [.atom [108],y.cG])
     have hQ:=P2.of (.atom [108]) y.cG
     have hvi:=B3 (.l y)
     rw[di]at hvi
     simp only[Vl.cG,bJ]at hvh hvi
     simp only[CM,bJ,Vl.cG,toNat_one,bf,↓zq,zs,ac,zt,hP.1,hP.2.1,hP.2.2.1,hP.2.2.2,hW.1,hW.2.1,hW.2.2,hQ.1,hQ.2.1,hQ.2.2,aL]
     refine⟨fun h=>absurd rfl h,fun _=>?_⟩
     repeat refine⟨by omega,?_⟩
     refine ai hH ?_
     simp only[↓zq,zs,ac,zt]
     refine ai hvh ?_
     simp only[vh,↓zq,zs,ac,zt,bb,aU]
     refine⟨by simp[cK],fun h=>by simp at h,fun _=>⟨fun h=>by simp at h,fun _=>⟨fun h=>by simp at h,fun _=>⟨fun h=>by simp at h,fun _=>?_⟩⟩⟩⟩
     repeat refine⟨by omega,?_⟩
     refine ai hvi ?_
     simp only[vh,↓zq,zs,ac,zt]
     refine⟨fun _=>?_,fun h=>absurd rfl h⟩
     repeat refine⟨by omega,?_⟩
     refine ai (EB m y (by omega) b _ t1 A' hy s v) ?_
     simp only[↓zq,zs,ac,zt,aL]
     repeat refine⟨by omega,?_⟩
     refine ai (xy _ _) ?_
     simp only[↓zq,zs,ac,zt,aL]
     repeat refine⟨by omega,?_⟩
     exact⟨rfl,rfl⟩
    ·simp only[Vl.nodes]at hm
     have hW:=P2.of (.atom [102]) (E.list [.atom [114],E.list [.atom [112],y.cG,z.cG]])
     have hQ:=P2.of (.atom [114]) (E.list [.atom [112],y.cG,z.cG])
     have hR:=P3.of (.atom [112]) y.cG z.cG
     have hvi:=B3 (.r (.p y z))
     rw[di]at hvi
     simp only[Vl.cG,bJ]at hvh hvi
     simp only[CM,bJ,Vl.cG,toNat_one,bf,↓zq,zs,ac,zt,hP.1,hP.2.1,hP.2.2.1,hP.2.2.2,hW.1,hW.2.1,hW.2.2,hQ.1,hQ.2.1,hQ.2.2,hR.1,hR.2.1,hR.2.2.1,hR.2.2.2,aL]
     refine⟨fun h=>absurd rfl h,fun _=>?_⟩
     repeat refine⟨by omega,?_⟩
     refine ai hH ?_
     simp only[↓zq,zs,ac,zt]
     refine ai hvh ?_
     simp only[vh,↓zq,zs,ac,zt,bb,aU]
     refine⟨by simp[cK],fun h=>by simp at h,fun _=>⟨fun h=>by simp at h,fun _=>⟨fun h=>by simp at h,fun _=>⟨fun h=>by simp at h,fun _=>?_⟩⟩⟩⟩
     repeat refine⟨by omega,?_⟩
     refine ai hvi ?_
     simp only[vh,↓zq,zs,ac,zt]
     refine⟨fun h=>by simp at h,fun _=>?_⟩
     repeat refine⟨by omega,?_⟩
     have i1:=EB m z (by omega) (.list [x,a,b]) env (.rc t1) A hz s v
     unfold Pu at i1
     simp only[bJ]at i1
     refine ai i1 ?_
     simp only[↓zq,zs,ac,zt,aL]
     repeat refine⟨by omega,?_⟩
     refine ai (EB m y (by omega) b _ t1 A' hy a.at (cW (.rc t1) z v)) ?_
     simp only[↓zq,zs,ac,zt,aL]
     repeat refine⟨by omega,?_⟩
     refine ai (xy _ _) ?_
     simp only[↓zq,zs,ac,zt,aL]
     repeat refine⟨by omega,?_⟩
     exact⟨rfl,rfl⟩
  ·cases e with
   |atom s0=>exact atomCase _ rfl (rJ _ _ _)
   |list l=>exact absurd hq (by rw[show (E.list l).at=[] from rfl,kJ A.wf];simp)
end Go.Proofs.Trees
namespace Go.Proofs.Trees
open Go Go.VL Go.RowKit
abbrev PW:Ob:=.cells [.v (.string (mk [])),.v (.slice none 0 0),.v (.string (mk []))]
theorem ZT.le{s d:Nm}{a:Ty}{x A B:E}{D:Ty}(z:ZT s d a x A B D):oA s=some (.list [x,A,B]):=by
 unfold oA;rw[z.ce];simp[lK,z.hx]
theorem uF(o:Option Nm):uy o=.cD [.v (.string (mk (o.getD []))),.v (.bool o.isSome)]:=by cases o<;>rfl
theorem zx{a:Ty}{w v:Vl}(hw:Cx a w)(hv:Fo a v):(Vl.f (cW a w v)).cM.length<=900000:=by
 have h1:=ja (Vl.f (cW a w v)) (by exact rn 100 a w v hw.ic hv.ic)
 have h2:=rI a w v
 have:=hw.nd
 have:=hv.nd
 simp only[Vl.nodes]at h1
 omega
abbrev Ah(a:Ty)(w v:Vl):Option Nm:=if(Vl.f (cW a w v)).nodes<=200 then some (Vl.f (cW a w v)).cM else none
theorem PD{s d:Nm}{a:Ty}{x A B:E}{D:Ty}(z:ZT s d a x A B D)(w v:Vl)(hw:nA d w.cM 100=some w)(hv:Fo a v):aq Tryz.prog 73 [.v (.string (mk s)),.v (.string (mk w.cM)),.v (.string (mk v.cM))] [] (bK (uy (Ah a w v))):=by
 have hC:=z.Dd hw
 have hv2:nA s v.cM 100=some v:=by rw[z.cM hv.ic hv.ty,if_pos hv.nd]
 refine Qf _ _ _ ?_
 unfold NW
 refine aQ (FZ s) (jG.ne _ _ (fun h=>h)) ?_
 rintro r o ⟨c,e,he,rfl,hh⟩
 rw[z.le]at hh
 obtain⟨e',he',hce⟩:=hh rfl
 cases he'
 rw[di]at hce
 simp only[AV.agg.injEq,List.cons.injEq,AV.v.injEq,Value.string.injEq,and_true]at hce
 obtain⟨hc1,rfl⟩:=hce
 rw[z.le,hc1]
 simp only[↓zq,zs,ac,zt,aL,bJ]
 repeat refine⟨by omega,?_⟩
 refine ai (I3 s) ?_
 rw[uF,z.dl]
 simp only[↓zq,zs,ac,zt,be,cA]
 refine⟨fun h=>by simp at h,fun _=>⟨fun h=>by simp at h,fun _=>?_⟩⟩
 refine ai (zG d w.cM 100) ?_
 rw[hw]
 simp only[↓zq,zs,ac,be]
 refine⟨fun h=>by simp at h,fun _=>?_⟩
 refine ai (zG s v.cM 100) ?_
 rw[hv2]
 simp only[↓zq,zs,ac,be]
 refine⟨fun h=>by simp at h,fun _=>?_⟩
 have hP:=P3.of x A B
 have rd:∀q:Vl,q.ic 100->q.nodes<=200->∀{Q:AV->List Ob->Prop},(∀o,Q (.cD [.agg [.v (.string (mk q.cG.at)),q.cG.sp],.v (.bool true)]) o)->∀r o,jG ((se q.cM).map Vl.cG) (se q.cM).isSome r o->Q r o:=by
  intro q hu hn Q hQ r o
  rw[qF hu hn]
  rintro⟨c,e,he,rfl,hh⟩
  obtain⟨e',he',hce⟩:=hh rfl
  cases he'
  rw[di]at hce
  rw[hce]
  exact hQ o
 refine aQ (D0 w.cM) (jG.ne _ _ (fun h=>by simpa using h)) (rd w hC.ic hC.nd fun o=>?_)
 simp only[↓zq,zs,ac,zt,aL]
 repeat refine⟨by omega,?_⟩
 refine aQ (D0 v.cM) (jG.ne _ _ (fun h=>by simpa using h)) (rd v hv.ic hv.nd fun o=>?_)
 simp only[toNat_one,bf,↓zq,zs,ac,zt,hP.1,hP.2.1,hP.2.2.1,hP.2.2.2,aL,aX]
 repeat refine⟨by omega,?_⟩
 refine ai (EB w.nodes w (au _) B _ a z.body hC.ok A.at v) ?_
 simp only[↓zq,zs,ac,zt,aL]
 repeat refine⟨by omega,?_⟩
 refine ai (xy _ _) ?_
 simp only[↓zq,zs,ac,zt,aL]
 repeat refine⟨by omega,?_⟩
 have htx:=CS (Vl.f (cW a w v)).cG (mE _) (zx hC hv)
 rw[di]at htx
 simp only[Vl.cG,bJ]at htx
 refine ai htx ?_
 simp only[↓zq,zs,ac,zt]
 refine ai (zG s (Vl.f (cW a w v)).cM 100) ?_
 rw[z.cM (w:=Vl.f (cW a w v)) (by exact rn 100 a w v hC.ic hv.ic) (hC.ty v hv.ty)]
 unfold Ah
 by_cases hn:(Vl.f (cW a w v)).nodes<=200
 ·rw[if_pos hn,if_pos hn]
  simp only[↓zq,zs,ac,be]
  exact⟨fun h=>by simp at h,fun _=>⟨rfl,rfl⟩⟩
 ·rw[if_neg hn,if_neg hn]
  simp only[↓zq,zs,ac,bq]
  exact⟨fun _=>⟨rfl,rfl⟩,fun h=>by simp at h⟩
theorem nI{d:Nm}:∀{p:List Nm} {l:List Vl},eK d p=some l->p=l.map (·.cM)->∀c,c∈l->nA d c.cM 100=some c
 |[],l,h,_,c,hc=>by cases h;cases hc
 |
  q::r,l,h,hp,c,hc=>by
  simp only[eK]at h
  split at h
  ·rename_i w l' h1 h2
   cases h
   simp only[bC,List.cons.injEq]at hp
   rcases aJ.1 hc with rfl|hc
   ·rw[<-hp.1];exact h1
   ·exact nI h2 hp.2 c hc
  ·cases h
structure St(s d:Nm)(a:Ty)(l:List Vl)(v:Vl):Prop where
 z:∃x A B D,ZT s d a x A B D
 i:ZI a l v
 each:∀c,c∈l->nA d c.cM 100=some c
 len:l.length<=50
def zU(s:Nm)(pa:AV)(a:Ty)(l:List Vl)(v:Vl):AV:=match l.getLast? with
 |none=>.cD [.agg [.v (.string (mk s)),pa,.v (.string (mk v.cM))],.v (.bool false)]
 |some c=>.cD [.agg [.v (.string (mk s)),.sl (bD (l.dropLast.map (·.cM))),.v (.string (mk ((Ah a c v).getD [])))],.v (.bool (Ah a c v).isSome)]
theorem P0{s d:Nm}{a:Ty}{l:List Vl}{v:Vl}(h:St s d a l v)(pa:AV)(hp:cF pa (l.map (·.cM))):aq Tryz.prog 43 [.agg [.v (.string (mk s)),pa,.v (.string (mk v.cM))]] [] (bK (zU s pa a l v)):=by
 refine Oy _ _ _ hp.1 ?_
 unfold ME
 have hlen:=h.len
 simp only[↓zq,zs,ac,zt,hp.len,cn,j9]
 unfold zU
 refine⟨hp.1,fun h0=>?_,fun h0=>?_⟩
 ·have:l=[]:=List.eq_nil_of_length_eq_zero (by omega)
  subst this
  exact⟨rfl,rfl⟩
 ·have hpos:0<l.length:=by omega
  have hne:l≠[]:=by rintro rfl;simp at hpos
  rw[wrap64 ((l.length:Int)-1) (by omega) (by omega)]
  have e1:((l.length:Int)-1).toNat=l.length-1:=by omega
  have hlt:l.length-1<(l.map (·.cM)).length:=by rw[cn];omega
  have hlt':l.length-1<l.length:=by omega
  have hlast:l.getLast?=some (l[l.length-1]):=by rw[List.getLast?_eq_some_getLast hne,List.getLast_eq_getElem]
  rw[hlast]
  have hm:=bF hlt'
  have hg:(l.map (·.cM)).getD (l.length-1) []=(l[l.length-1]).cM:=by rw[aa,bp hlt,List.getElem_map];rfl
  obtain⟨x,A,B,D,z⟩:=h.z
  rw[e1,hp.idx hlt,hg]
  generalize l[l.length-1]=c at *
  simp only[↓zq,zs,ac,zt]
  refine⟨⟨hp.1,by omega⟩,by omega,?_⟩
  refine ai (PD z c v (h.each c hm) h.i.pD) ?_
  rw[uF]
  simp only[↓zq,zs,ac,zt]
  refine⟨⟨hp.1,by omega⟩,⟨fun y hy=>?_,?_⟩,?_,rfl⟩
  ·rw[hp.2]at hy
   have:=List.mem_of_mem_take hy
   obtain⟨t,_,rfl⟩:=bO.1 this
   rfl
  ·rw[hp.2];simp[bD];omega
  ·have:pa.aP.take (l.length-1)=bD (l.dropLast.map (·.cM)):=by
    rw[hp.2,List.dropLast_eq_take,List.map_take];simp[bD,List.map_take]
   rw[this];rfl
theorem St.up{s d:Nm}{a:Ty}{l l':List Vl}{v w:Vl}(h:St s d a l v)(hu:si a l v=some (l',w)):St s d a l' w:=by
 obtain⟨h1,h2,c,h3,_⟩:=tQ h.i hu
 have hl:=h.len
 exact⟨h.z,h1,fun c' hc'=>h.each c' (by rw[h3];exact aC _ hc'),by omega⟩
theorem zZ{s:Nm}{pa:AV}{a:Ty}{l l':List Vl}{v w:Vl}(hu:si a l v=some (l',w)):zU s pa a l v=.cD [.agg [.v (.string (mk s)),.sl (bD (l'.map (·.cM))),.v (.string (mk w.cM))],.v (.bool true)]:=by
 unfold si at hu
 unfold zU
 cases q:l.getLast? with
 |none=>rw[q]at hu;cases hu
 |
  some c =>
  rw[q]at hu
  simp only at hu |-
  unfold Ah
  split at hu
  ·rename_i hn
   cases hu
   rw[if_pos hn];rfl
  ·cases hu
theorem zL{s:Nm}{pa:AV}{a:Ty}{l:List Vl}{v:Vl}(hpa:LK.sl.has pa)(hu:si a l v=none):∃p f,LK.sl.has p/\zU s pa a l v=.cD [.agg [.v (.string (mk s)),p,.v (.string (mk f))],.v (.bool false)]:=by
 unfold si at hu
 unfold zU
 cases q:l.getLast? with
 |none=>exact⟨_,_,hpa,rfl⟩
 |
  some c =>
  rw[q]at hu
  simp only at hu |-
  unfold Ah
  split at hu
  ·cases hu
  ·rename_i hn
   rw[if_neg hn];exact⟨_,_,(cg _).mpr trivial,rfl⟩
def FG(s:Nm)(o:Option Vl):Nat->List AV->List Ob->Prop:=fun k ys ob=>match o with
 |some w=>k=1/\ys=[]/\∃pa,LK.sl.has pa/\ob=[.cells [.v (.string (mk s)),pa,.v (.string (mk w.cM))],PW]
 |none=>k=2/\ys=[.v (.bool false)]/\∃pa f,LK.sl.has pa/\ob=[.cells [.v (.string (mk s)),pa,.v (.string (mk f))]]
theorem LF(s d:Nm)(a:Ty):∀(n:Nat) (l:List Vl) (v:Vl) (pa:AV),l.length=n->St s d a l v->cF pa (l.map (·.cM))->HU [] [.cells [.v (.string (mk s)),pa,.v (.string (mk v.cM))],PW] (FG s (lR n a l v))
 |
  0,l,v,pa,hl,h,hp=>by
  refine MV _ _ _ _ _ _ ?_
  simp only[Fh,↓zq,zs,ac,zt,ac,bi,hp.len,cn,hl,lR]
  refine⟨hp.1,hp.1,fun h=>by omega,fun _=>?_⟩
  exact⟨rfl,rfl,pa,hp.1,rfl⟩
 |
  n+1,l,v,pa,hl,h,hp=>by
  refine MV _ _ _ _ _ _ ?_
  simp only[Fh,↓zq,zs,ac,zt,ac,bi,hp.len,cn,hl]
  refine⟨hp.1,hp.1,fun _=>?_,fun h=>by omega⟩
  refine ai (P0 h pa hp) ?_
  rw[lR]
  cases q:si a l v with
  |
   none =>
   obtain⟨p',f',h1,h2⟩:=zL (s:=s) hp.1 q
   rw[h2]
   simp only[↓zq,zs,ac,zt,bH,bL]
   exact⟨h1,fun _=>⟨rfl,rfl,pa,v.cM,hp.1,rfl⟩,fun h=>by simp at h⟩
  |
   some r =>
   obtain⟨l',w⟩:=r
   obtain⟨_,hlen,_⟩:=tQ h.i q
   rw[zZ q]
   simp only[↓zq,zs,ac,zt,bH,ba,cg]
   refine⟨fun h=>by simp at h,fun _=>?_⟩
   exact LF s d a n l' w _ (by omega) (h.up q) (cF.of _)
def Ed(o:Option Vl):AV->List Ob->Prop:=fun r ob=>ob=[]/\∃c0 pa c2,LK.sl.has pa/\r=.cD [.agg [.v (.string c0),pa,.v (.string c2)],.v (.bool o.isSome)]/\∀w,o=some w->c2=mk w.cM
theorem Ed.ne(o:Option Vl):∃r ob,Ed o r ob:=⟨_,[],rfl,mk [],.sl [],mk ((o.map (·.cM)).getD []),(cg _).mpr trivial,rfl,fun w h=>by rw[h];rfl⟩
theorem Po{s d:Nm}{a:Ty}{l:List Vl}{v:Vl}(h:St s d a l v)(pa:AV)(hp:cF pa (l.map (·.cM))):aq Tryz.prog 70 [.agg [.v (.string (mk s)),pa,.v (.string (mk v.cM))]] [] (Ed (sr a l v)):=by
 refine QT _ _ _ hp.1 ?_
 unfold Jl
 have hloop:=LF s d a l.length l v pa rfl h hp
 refine kG hloop (fun ys o e=>?_) (fun ys o e=>?_)
 ·unfold FG at e
  unfold sr
  cases q:lR l.length a l v with
  |none=>rw[q]at e;exact absurd e.1 (by decide)
  |
   some w =>
   rw[q]at e
   obtain⟨_,rfl,p',h1,rfl⟩:=e
   simp only[↓zq,zs,ac,zt,ac,bi]
   exact⟨h1,rfl,_,_,_,h1,rfl,fun w' h=>by cases h;rfl⟩
 ·unfold FG at e
  unfold sr
  cases q:lR l.length a l v with
  |some w=>rw[q]at e;exact absurd e.1 (by decide)
  |
   none =>
   rw[q]at e
   obtain⟨_,rfl,p',f',h1,rfl⟩:=e
   simp only[↓zq,zs,ac,zt,ac]
   exact⟨h1,rfl,_,_,_,h1,rfl,fun w' h=>by cases h⟩
theorem Kt(s d f:Nm)(pa:AV)(p:List Nm)(hp:cF pa p)(hl:p.length<=50):∀(k i:Nat),i+k=p.length->HJ [.v (.string (mk d)),.v (.int .i64 (i:Int))] [.cells [.v (.string (mk s)),pa,.v (.string (mk f))]] (pN (if(eK d (p.drop i)).isSome=true then(1,[],[])else(2,[.v (.bool false)],[])))
 |
  0,i,hi=>by
  refine JA _ _ _ _ _ ?_
  have:i=p.length:=by omega
  subst this
  simp only[HC,↓zq,zs,ac,zt,ac,hp.len,List.drop_length]
  exact⟨hp.1,hp.1,fun h=>by omega,fun _=>rfl⟩
 |
  k+1,i,hi=>by
  have hlt:i<p.length:=by omega
  have hd:p.drop i=p.getD i []::p.drop (i+1):=by rw[aW hlt];simp[aa,hlt]
  refine JA _ _ _ _ _ ?_
  simp only[HC,↓zq,zs,ac,zt,ac,hp.len,hp.idx hlt,bZ]
  refine⟨hp.1,hp.1,fun _=>⟨⟨hp.1,by omega,by omega⟩,by omega,?_⟩,fun h=>by omega⟩
  refine ai (zG d (p.getD i []) 100) ?_
  rw[hd,eK]
  simp only[↓zq,zs,ac]
  cases q:nA d (p.getD i []) 100 with
  |
   none =>
   simp only[bq]
   exact⟨fun _=>rfl,fun h=>by simp at h⟩
  |
   some w =>
   simp only[be]
   refine⟨fun h=>by simp at h,fun _=>?_⟩
   rw[bA i (by omega)]
   have ih:=Kt s d f pa p hp hl k (i+1) (by omega)
   cases q2:eK d (p.drop (i+1))with
   |none=>rw[q2]at ih;exact ih
   |some l=>rw[q2]at ih;exact ih
theorem wU(s:Nm)(p:List Nm)(f:Nm):v8 s p f=(cJ s).bind fun d=>(kp s).bind fun _=>(nA s f 100).bind fun v=>if p.length<=50 then(eK d p).map fun l=>(l,v)else none:=by
 unfold v8 qv
 cases kp s with
 |none=>cases cJ s<;>rfl
 |some a=>cases nA s f 100<;>cases cJ s<;>rfl
theorem OV(s:Nm)(pa:AV)(p:List Nm)(hp:cF pa p)(f:Nm):aq Tryz.prog 72 [.agg [.v (.string (mk s)),pa,.v (.string (mk f))]] [] (bK (.v (.bool (v8 s p f).isSome))):=by
 refine Q8 _ _ _ hp.1 ?_
 unfold Nn
 refine ai (I3 s) ?_
 rw[uF]
 simp only[↓zq,zs,ac,zt]
 refine aQ (FZ s) (jG.ne _ _ (fun h=>h)) ?_
 rintro r o ⟨c,e,he,rfl,_⟩
 rw[AF]
 simp only[↓zq,zs,ac,zt,bH,hp.len]
 rw[wU]
 refine⟨he,fun h=>?_,fun h=>⟨fun h'=>?_,fun h'=>⟨hp.1,fun h''=>?_,fun h''=>?_⟩⟩⟩
 ·have:cJ s=none:=by cases q:cJ s with|none=>rfl|some d=>simp[q]at h
  rw[this]
  exact⟨rfl,rfl⟩
 ·have:kp s=none:=by cases q:kp s with|none=>rfl|some d=>simp[q]at h'
  rw[this]
  cases cJ s<;>exact⟨rfl,rfl⟩
 ·simp only[if_neg (show ¬p.length<=50 by omega)]
  exact⟨by cases cJ s<;>cases kp s<;>cases nA s f 100<;>rfl,rfl⟩
 ·obtain⟨d,hd⟩:∃d,cJ s=some d:=by cases q:cJ s with|none=>simp[q]at h|some d=>exact⟨d,rfl⟩
  obtain⟨a,ha⟩:∃a,kp s=some a:=by cases q:kp s with|none=>simp[q]at h'|some d=>exact⟨d,rfl⟩
  rw[hd,ha]
  refine ai (zG s f 100) ?_
  simp only[↓zq,zs,ac]
  cases q:nA s f 100 with
  |none=>simp only[bq];exact⟨fun _=>⟨rfl,rfl⟩,fun h=>by simp at h⟩
  |
   some v =>
   simp only[be,cA,ba]
   refine⟨fun h=>by simp at h,fun _=>?_⟩
   have hl:p.length<=50:=by omega
   have hloop:=Kt s d f pa p hp hl p.length 0 (by omega)
   rw[bh]at hloop
   rw[if_pos hl]
   refine fX hloop (fun ys o e=>?_) (fun ys o e=>?_)
   ·cases q2:eK d p with
    |none=>rw[q2]at e;cases e
    |some l=>exact⟨rfl,rfl⟩
   ·cases q2:eK d p with
    |none=>rw[q2]at e;cases e;simp only[↓zq,zs,ac];exact⟨rfl,rfl⟩
    |some l=>rw[q2]at e;cases e
theorem xh{s:Nm}{p:List Nm}{f:Nm}{l:List Vl}{v:Vl}(h:v8 s p f=some (l,v)):∃d,St s d (zA s) l v/\p=l.map (·.cM)/\f=v.cM:=by
 obtain⟨d,a,x,A,B,D,z,hz,hp,hf,hl,hza,_,hr⟩:=mP h
 rw[hza]
 exact⟨d,⟨⟨x,A,B,D,z⟩,hz,nI hr hp,by rw[hp]at hl;simpa using hl⟩,hp,hf⟩
theorem QX(s:Nm)(pa:AV)(p:List Nm)(hp:cF pa p)(f:Nm):aq Tryz.prog 41 [.agg [.v (.string (mk s)),pa,.v (.string (mk f))]] [] (bK (.v (.bool (gF s p f).isSome))):=by
 refine QB _ _ _ hp.1 ?_
 unfold Kx
 refine ai (OV s pa p hp f) ?_
 simp only[↓zq,zs,ac]
 unfold gF
 cases q:v8 s p f with
 |none=>simp only[bq];exact⟨fun _=>⟨rfl,rfl⟩,fun h=>by simp at h⟩
 |
  some r =>
  obtain⟨l,v⟩:=r
  obtain⟨d,hs,rfl,rfl⟩:=xh q
  simp only[be,ba]
  refine⟨fun h=>by simp at h,fun _=>?_⟩
  refine aQ (Po hs pa hp) (Ed.ne _) ?_
  rintro r o ⟨rfl,c0,p',c2,h1,rfl,_⟩
  simp only[↓zq,zs,ac,zt,bH]
  refine⟨h1,?_,rfl⟩
  congr 2
  cases sr (zA s) l v<;>rfl
end Go.Proofs.Trees
namespace Go.Proofs.Trees
open Go Go.VL Go.RowKit
inductive Rl(x:Nm):Nat->Tg->Tg->Prop
 |nm (i):Rl x i (.nm x) (.bd i)
 |ky (i s) (h:s≠x):Rl x i (.nm s) (.nm s)
 |bd (i j) (h:j≠i):Rl x i (.bd j) (.bd j)
theorem Rl.up{x:Nm}{i:Nat}{a b:Tg}(h:Rl x i a b):Rl x (i+1) a.up b.up:=by
 cases h with
 |nm=>exact .nm _
 |ky s h=>exact .ky _ _ h
 |bd j h=>exact .bd _ _ (by omega)
theorem Rl.at{x:Nm}{i:Nat}{a b:Tg}(h:Rl x i a b):∀t:Ty,bn x t=false->eB (dB (.name x) t i) a=eB t b
 |
  .bQ k,_=>by
  simp only[dB]
  cases h with
  |
   nm =>
   by_cases e:k=i
   ·simp[e,eB]
   ·simp[e,eB]
  |
   ky s h =>
   by_cases e:k=i
   ·simp[e,eB,Ne.symm h]
   ·simp[e,eB]
  |
   bd j h =>
   by_cases e:k=i
   ·simp[e,eB,Ne.symm h]
   ·simp[e,eB]
 |
  .name s,hn=>by
  have hs:s≠x:=by simpa[bn]using hn
  cases h with
  |nm=>simp[dB,eB,hs]
  |ky=>rfl
  |bd=>rfl
 | .plus _ _,_=>by cases h<;>rfl
 | .times _ _,_=>by cases h<;>rfl
 | .rc _,_=>by cases h<;>rfl
 | .zero,_=>by cases h<;>rfl
 | .one,_=>by cases h<;>rfl
theorem gT(x:Nm):∀(n:Nat) (t:Ty) (i:Nat) (a b:Tg) (v:Vl),bn x t=false->Rl x i a b->dD n (dB (.name x) t i) a v=dD n t b v
 |0,_,_,_,_,_,_,_=>rfl
 |
  n+1,t,i,a,b,v,hn,h=>by
  rw[dD,dD,h.at t hn]
  by_cases ht:eB t b=true
  ·rw[if_pos ht,if_pos ht]
  ·rw[if_neg ht,if_neg ht]
   cases t with
   |
    plus p q =>
    simp only[bn,cb]at hn
    cases v<;>simp only[dB,iL,gT x n p i a b _ hn.1 h,gT x n q i a b _ hn.2 h]
   |
    times p q =>
    simp only[bn,cb]at hn
    cases v<;>simp only[dB,iL,gT x n p i a b _ hn.1 h,gT x n q i a b _ hn.2 h]
   |
    rc p =>
    have h0:Rl x (i+1) (.bd 0) (.bd 0):=.bd _ _ (by omega)
    cases v<;>simp only[dB,iL]
    rename_i w
    rw[gT x n p (i+1) a.up b.up w hn h.up,gT x n p (i+1) (.bd 0) (.bd 0) w hn h0]
    congr 1
    apply iY
    intro k _
    have:=gT x n (.rc p) i a b k.2 hn h
    simp only[dB]at this
    rw[this]
   |
    bQ k =>
    simp only[dB]
    by_cases e:k=i
    ·rw[if_pos e];cases v<;>rfl
    ·rw[if_neg e];cases v<;>rfl
   |name s=>rfl
   |zero=>rfl
   |one=>rfl
theorem nS(x:Nm){t:Ty}{i:Nat}{a b:Tg}(v:Vl)(hn:bn x t=false)(h:Rl x i a b):cj (dB (.name x) t i) a v=cj t b v:=gT x _ t i a b v hn h
theorem mN(n:Nat):∀(m:Nat) (v:Vl),v.nodes<=m->∀(t:Ty) (s:Nm) (d:Ty) (σ:Nm->Option Ty),Dv t s d->Ct σ->jv t 0->vT n v (eN σ t)=true->∀h,h∈cj t (.nm s) v ->
 vT n h.1 (eN σ d)=true/\vT n h.2 (eN σ (.name s))=true/\cW t h.1 h.2=v
 |0,v,hm=>by have:=dm v;omega
 |
  m+1,v,hm=>by
  intro t s d σ hd hσ hl hv h hh
  cases hd with
  |zero=>rw[dR rfl (by cases v<;>rfl)]at hh;cases hh
  |one=>rw[dR rfl (by cases v<;>rfl)]at hh;cases hh
  |bQ=>rw[dR rfl (by cases v<;>rfl)]at hh;cases hh
  |qn hne=>rw[dR (by simp[eB,hne]) (by cases v<;>rfl)]at hh;cases hh
  |
   hit =>
   rw[mC v (by simp[eB])]at hh
   simp only[aV]at hh
   subst hh
   exact⟨rfl,hv,kT _ _ _⟩
  |
   @plus a b _ a' b' h1 h2 _ =>
   rcases je hv with⟨w,rfl,hw⟩|⟨w,rfl,hw⟩
   ·simp only[Vl.nodes]at hm
    rw[mZ]at hh
    obtain⟨k,hk,rfl⟩:=cY hh
    obtain⟨q1,q2,q3⟩:=mN n m w (by omega) _ s _ σ h1 hσ hl.1 hw k hk
    exact⟨q1,q2,congrArg Vl.l q3⟩
   ·simp only[Vl.nodes]at hm
    rw[nf]at hh
    obtain⟨k,hk,rfl⟩:=cY hh
    obtain⟨q1,q2,q3⟩:=mN n m w (by omega) _ s _ σ h2 hσ hl.2 hw k hk
    exact⟨q1,q2,congrArg Vl.r q3⟩
  |
   @times a b _ a' b' h1 h2 _ =>
   obtain⟨x,y,rfl,hx,hy⟩:=gq hv
   simp only[Vl.nodes]at hm
   rw[nk]at hh
   rcases aN.1 hh with hh|hh
   ·obtain⟨k,hk,rfl⟩:=cY hh
    obtain⟨q1,q2,q3⟩:=mN n m x (by omega) _ s _ σ h1 hσ hl.1 hx k hk
    refine⟨?_,q2,congrArg (fun q=>Vl.p q y) q3⟩
    show (vT n k.1 (eN σ a')&&vT n y (eN σ b))=true
    rw[q1,hy];rfl
   ·obtain⟨k,hk,rfl⟩:=cY hh
    obtain⟨q1,q2,q3⟩:=mN n m y (by omega) _ s _ σ h2 hσ hl.2 hy k hk
    refine⟨?_,q2,congrArg (Vl.p x) q3⟩
    show (vT n x (eN σ a)&&vT n k.1 (eN σ b'))=true
    rw[q1,hx];rfl
  |
   @rc a _ c0 d0 x hx hs h1 h2 hsz =>
   have lo:jv (dB (.name x) a 0) 0:=gG x a hl
   obtain⟨X,e1,e2⟩:=oC (x:=x) hσ hl (h1.lc lo) (h2.lc lo)
   obtain⟨w,rfl,hw⟩:=Cq hv
   simp only[Vl.nodes]at hm
   have hcl:=lr hσ x (jO hσ (.rc a) hl)
   have hop:eN (iQ σ x (eN σ (.rc a))) (dB (.name x) a 0)=dB (eN σ (.rc a)) (eN σ a) 0:=jD hσ x _ a 0 hx
   have hns:eN (iQ σ x (eN σ (.rc a))) (.name s)=eN σ (.name s):=by simp only[eN,iQ,if_neg (Ne.symm hs)]
   have hnx:eN (iQ σ x (eN σ (.rc a))) (.name x)=eN σ (.rc a):=by simp[eN,iQ]
   have hw':vT n w (eN (iQ σ x (eN σ (.rc a))) (dB (.name x) a 0))=true:=by rw[hop];exact hw
   have ty:∀y,vT n y (dB (.rc X) X 0)=true->vT n (.f y) (eN σ (pL a x c0 d0))=true:=fun y hy=>by rw[e1];exact hy
   rw[mS]at hh
   rcases aN.1 hh with hh|hh
   ·obtain⟨k,hk,rfl⟩:=cY hh
    have hk':k∈cj (dB (.name x) a 0) (.nm s) w:=by rw[nS x w hx (.ky 0 s (Ne.symm hs))];exact hk
    obtain⟨q1,q2,q3⟩:=mN n m w (by omega) _ s _ _ h1 hcl lo hw' k hk'
    rw[dN x k.1.nodes k.1 a 0 k.2 (au _)]at q3
    refine⟨ty _ ?_,by rw[<-hns];exact q2,congrArg Vl.f q3⟩
    rw[e2];exact q1
   ·obtain⟨k,hk,hh⟩:=List.mem_flatMap.1 hh
    obtain⟨k2,hk2,rfl⟩:=cY hh
    have hk':k∈cj (dB (.name x) a 0) (.nm x) w:=by rw[nS x w hx (.nm 0)];exact hk
    obtain⟨q1,q2,q3⟩:=mN n m w (by omega) _ x _ _ h2 hcl lo hw' k hk'
    rw[dN x k.1.nodes k.1 a 0 k.2 (au _)]at q3
    rw[hnx]at q2
    have hsz2:=(il hk).1
    obtain⟨r1,r2,r3⟩:=mN n m k.2 (by omega) (.rc a) s _ σ (.rc x hx hs h1 h2 hsz) hσ hl q2 k2 hk2
    refine⟨ty _ ?_,r2,?_⟩
    ·rw[e2]
     show (vT n k.1 _&&vT n k2.1 _)=true
     rw[q1,r1];rfl
    ·show Vl.f (cW a k.1 (cW (.rc a) k2.1 k2.2))=.f w
     rw[r3,q3]
theorem Dg{n:Nat}{a D:Ty}{x:Nm}(hx:bn x a=false)(hl:jv (.rc a) 0)(h:nX a x=some D){v:Vl}(hv:vT n v (.rc a)=true){k:Hl}(hk:k∈kids a v) :
 vT n k.1 D=true/\vT n k.2 (.rc a)=true/\.f (cW a k.1 k.2)=v:=by
 simp only[nX,bg,cQ,eM]at h
 obtain⟨d,hd,_,rfl⟩:=h
 have lo:jv (dB (.name x) a 0) 0:=gG x a hl
 have hcl:=lr qS x hl
 have e1:sub x (.rc a) d=eN (iQ Du x (.rc a)) d:=by
  have:=iq Du x (.rc a) d
  rw[iV,iV]at this;exact this
 obtain⟨w,rfl,hw⟩:=Cq hv
 have hk':k∈cj (dB (.name x) a 0) (.nm x) w:=by rw[nS x w hx (.nm 0)];exact hk
 have hop:eN (iQ Du x (.rc a)) (dB (.name x) a 0)=dB (.rc a) a 0:=by rw[jD qS x _ a 0 hx,iV]
 obtain⟨q1,q2,q3⟩:=mN n w.nodes w (au _) _ x _ _ hd hcl lo (by rw[hop];exact hw) k hk'
 rw[dN x k.1.nodes k.1 a 0 k.2 (au _)]at q3
 refine⟨by rw[e1];exact q1,?_,congrArg Vl.f q3⟩
 simpa[eN,iQ]using q2
theorem gW:∀{t:Ty},bY t=true->∃y,bn y t=true/\dh y=true
 | .name s,h=>⟨s,by simp[bn],h⟩
 |
  .plus a b,h=>by
  simp only[bY,bz]at h
  rcases h with h|h
  ·obtain⟨y,h1,h2⟩:=gW h;exact⟨y,by simp[bn,h1],h2⟩
  ·obtain⟨y,h1,h2⟩:=gW h;exact⟨y,by simp[bn,h1],h2⟩
 |
  .times a b,h=>by
  simp only[bY,bz]at h
  rcases h with h|h
  ·obtain⟨y,h1,h2⟩:=gW h;exact⟨y,by simp[bn,h1],h2⟩
  ·obtain⟨y,h1,h2⟩:=gW h;exact⟨y,by simp[bn,h1],h2⟩
 |
  .rc a,h=>by
  obtain⟨y,h1,h2⟩:=gW (t:=a) h;exact⟨y,by simp[bn,h1],h2⟩
theorem gS:∀{t:Ty} {y:Nm},bn y t=true->dh y=true->bY t=true
 |
  .name s,y,h,hl=>by
  have:s=y:=by simpa[bn]using h
  rw[this];exact hl
 |
  .plus a b,y,h,hl=>by
  simp only[bn,bz]at h
  simp only[bY,bz]
  exact h.imp (gS · hl) (gS · hl)
 |
  .times a b,y,h,hl=>by
  simp only[bn,bz]at h
  simp only[bY,bz]
  exact h.imp (gS · hl) (gS · hl)
 | .rc a,y,h,hl=>gS (t:=a) h hl
 | .zero,y,h,_=>by simp[bn]at h
 | .one,y,h,_=>by simp[bn]at h
 | .bQ k,y,h,_=>by simp[bn]at h
theorem ZT.Sb{s d:Nm}{a:Ty}{x A B:E}{D:Ty}(z:ZT s d a x A B D):∃e,jB d=some e/\Ask e [] D:=by
 have hcl:bY D=false:=by
  cases q:bY D with
  |false=>rfl
  |
   true =>
   obtain⟨y,h1,h2⟩:=gW q
   have:=gS (t:=.rc a) (tz z.lp y h1) h2
   rw[z.ask.cl]at this;cases this
 have hc:xb d=some D:=by unfold xb;rw[z.bk];simp only;rw[if_pos (by rw[sO,hcl];rfl)]
 cases q:jB d with
 |none=>rw[nj q]at hc;cases hc
 |
  some e =>
  obtain⟨t,h1,hA,_⟩:=gR q
  rw[hc]at h1;cases h1
  exact⟨e,rfl,hA⟩
theorem ZT.OJ{s d:Nm}{a:Ty}{x A B:E}{D:Ty}(z:ZT s d a x A B D){w:Vl}(hb:w.ic 100)(hv:vT 100 w D=true):nA d w.cM 100=if w.nodes<=200 then some w else none:=by
 obtain⟨e,he,hA⟩:=z.Sb
 unfold nA
 rw[he]
 by_cases hn:w.nodes<=200
 ·rw[qF hb hn,if_pos hn]
  simp only
  rw[if_pos ⟨by omega,by rw[show (100:Int).toNat=100 from rfl,ng hA];exact hv⟩]
 ·rw[if_neg hn]
  cases q:se w.cM with
  |none=>rfl
  |
   some w' =>
   exfalso
   obtain⟨_,h2,h3⟩:=lq q
   have:=tV hb h2 (qL q)
   rw[this]at hn;exact hn h3
theorem ZT.N7{s d:Nm}{a:Ty}{x A B:E}{D:Ty}(z:ZT s d a x A B D){v:Vl}(hv:Fo a v){k:Hl}(hk:k∈kids a v):vT 100 k.1 D=true/\Fo a k.2/\.f (cW a k.1 k.2)=v:=by
 obtain⟨e2,he2,hw2,hte2,_,_⟩:=nU z.y
 have hlc:jv (.rc a) 0:=hte2 ▸ hw2.qt.1
 obtain⟨q1,q2,q3⟩:=Dg (uq z.y) hlc z.lp hv.ty hk
 have:=xT hk
 have:=hv.nd
 exact⟨q1,⟨q2,(j4 hv.ic hk).2,by omega⟩,q3⟩
def uS(a:Ty)(l:List Vl)(v:Vl)(k:Int):Option (List Vl×Vl) :=
 if l.length=50 then none else if 0<=k/\k.toNat<(kids a v).length then
  (if((kids a v).getD k.toNat (.u,.u)).1.nodes<=200 then some (l++[((kids a v).getD k.toNat (.u,.u)).1],((kids a v).getD k.toNat (.u,.u)).2)else none)else none
theorem qT{a:Ty}{l:List Vl}{c e v:Vl}(h:.f (cW a c e)=v)(hn:v.nodes<=200):si a (l++[c]) e=some (l,v)/\sr a (l++[c]) e=sr a l v:=by
 have hu:si a (l++[c]) e=some (l,v):=by
  unfold si
  rw[List.getLast?_concat]
  simp only
  rw[h,if_pos hn,List.dropLast_concat]
 refine⟨hu,?_⟩
 unfold sr
 rw[an,List.length_singleton,lR,hu]
 rfl
theorem zB{s d:Nm}{l:List Vl}{v:Vl}(hs:St s d (zA s) l v)(hd:cJ s=some d)(hv:gF s (l.map (·.cM)) v.cM=some (l,v)){k:Hl}(hk:k∈kids (zA s) v) :
 gF s (l.map (·.cM)++[k.1.cM]) k.2.cM=if l.length=50 then none else if k.1.nodes<=200 then some (l++[k.1],k.2)else none:=by
 obtain⟨x,A,B,D,z⟩:=hs.z
 obtain⟨t1,t2,t3⟩:=z.N7 hs.i.pD hk
 have hb:=(j4 hs.i.pD.ic hk).1
 have hz:=(iO hv).1
 have hclo:=(iO hv).2
 have hlen:=hs.len
 have hlp:eK d (l.map (·.cM))=some l:=by
  rw[wU,hd]at hz
  simp only[ba,z.l]at hz
  obtain⟨_,h1,h2⟩:=bg.1 hz
  split at h2
  ·obtain⟨l',h3,h4⟩:=Option.map_eq_some_iff.1 h2
   cases h4;exact h3
  ·cases h2
 have e1:nA s k.2.cM 100=some k.2:=by rw[z.cM t2.ic t2.ty,if_pos t2.nd]
 unfold gF
 rw[wU,hd]
 simp only[ba,z.l,e1,s3,hlp,eK,z.OJ hb t1,an,cn,List.length_singleton]
 by_cases h50:l.length=50
 ·rw[if_neg (by omega),if_pos h50];rfl
 ·rw[if_pos (by omega),if_neg h50]
  by_cases hn:k.1.nodes<=200
  ·rw[if_pos hn,if_pos hn]
   simp only[cz,ba,(qT (l:=l) t3 hs.i.pD.nd).2]
   rw[if_pos hclo]
  ·rw[if_neg hn,if_neg hn];rfl
end Go.Proofs.Trees
namespace Go.Proofs.Trees
open Go Go.VL Go.RowKit
def N8(s:Nm)(o:Option (List Vl×Vl)):AV->List Ob->Prop:=fun r obs=>obs=[]/\∃pa,cF pa (tZ s o).2.1/\r=.cD [.agg [.v (.string (mk (tZ s o).1)),pa,.v (.string (mk (tZ s o).2.2))],.v (.bool o.isSome)]
theorem AL(s:Nm){o:Option (List Vl×Vl)}(h:GZ o):(tZ s o).2.1.length<=51:=by
 cases o with
 |none=>simp
 |some r=>obtain⟨_,_,h3⟩:=h r rfl;simpa using h3
theorem N8.ne(s:Nm)(o:Option (List Vl×Vl)):∃r ob,N8 s o r ob:=⟨_,[],rfl,_,cF.of _,rfl⟩
theorem N8.none(s:Nm):N8 s none (.cD [.agg [.v (.string (mk [])),.v (.slice none 0 0),.v (.string (mk []))],.v (.bool false)]) []:=⟨rfl,_,cF.nil,rfl⟩
theorem pk{s:Nm}{p:List Nm}{f:Nm}{l:List Vl}{v:Vl}(h:gF s p f=some (l,v)):∃d,St s d (zA s) l v/\p=l.map (·.cM)/\f=v.cM:=xh (iO h).1
abbrev RA(s:Nm)(o:Option (List Vl×Vl)):AV->List Ob->Prop:=dq (.cD [.agg [.v (.string (mk (tZ s o).1)),.vec 1,.v (.string (mk (tZ s o).2.2))],.v (.bool o.isSome)]) [.dead,.vec 1 (bD (tZ s o).2.1)]
theorem J9(s:Nm)(p:List Nm)(f:Nm):aq Tryz.prog 64 [.agg [.v (.string (mk s)),.vec 0,.v (.string (mk f))]] [.vec 1 (bD p)] (RA s (gF s p f)):=by
 refine Og _ _ _ ?_
 unfold Jo
 refine ai (QX s _ p (cF.of p) f) ?_
 simp only[↓zq,zs,ac]
 cases q:gF s p f with
 |none=>simp only[bq];exact⟨fun _=>⟨rfl,rfl⟩,fun h=>by simp at h⟩
 |
  some r =>
  obtain⟨_,_,rfl,rfl⟩:=pk (l:=r.1) (v:=r.2) q
  simp only[be]
  exact⟨fun h=>by simp at h,fun _=>⟨rfl,rfl⟩⟩
theorem AR(s f:Nm):gF s [] f=v8 s [] f:=by
 unfold gF
 cases q:v8 s [] f with
 |none=>rfl
 |
  some r =>
  obtain⟨l,v⟩:=r
  obtain⟨_,_,h,_⟩:=xh q
  have:l=[]:=List.map_eq_nil_iff.1 h.symm
  subst this
  rfl
theorem OL(s f:Nm):aq Tryz.prog 28 [.v (.string (mk s)),.v (.string (mk f))] [] (G9 s (v8 s [] f)):=by
 refine OR _ _ ?_
 unfold Lv
 rw[<-AR]
 refine aY (J9 s [] f) ?_
 simp only[↓zq,zs,ac,zt,aM,Ob.es,aS,bw]
 exact⟨rfl,rfl⟩
def lL(l:List Hl):List (List AV):=l.map fun h=>[.v (.string (mk h.1.cM)),.v (.string (mk h.2.cM))]
theorem lz(l:List Hl):(lL l).length=l.length:=by simp[lL]
theorem Ir(l:List Hl)(hl:l.length<=1000)(h1:∀h,h∈l->h.1.cM.length<=900000)(h2:∀h,h∈l->h.2.cM.length<=900000):∀(k i:Nat) (out:List Hl),i+k=l.length->out.length<=i ->
 HM [.sl (lZ l),.v (.int .i64 (i:Int))] [.vec 2 (lL out)] (iF 1 [] [.vec 2 (lL (out++l.drop i))])
 |
  0,i,out,hi,ho=>by
  refine IC _ _ _ ?_
  have:i=l.length:=by omega
  subst this
  simp only[Gv,↓zq,zs,ac,fu,List.drop_length]
  exact⟨fun h=>by omega,fun _=>by simp[iF]⟩
 |
  k+1,i,out,hi,ho=>by
  have hlt:i<l.length:=by omega
  have hm:=bF hlt
  have t1:=CS (l[i]).1.cG (mE _) (h1 _ hm)
  have t2:=CS (l[i]).2.cG (mE _) (h2 _ hm)
  rw[di]at t1 t2
  refine IC _ _ _ ?_
  simp only[Gv,↓zq,zs,ac,zt,fu,gy hlt,bH,aX]
  refine⟨fun _=>?_,fun h=>by omega⟩
  repeat refine⟨by omega,?_⟩
  refine ai t1 ?_
  simp only[↓zq,zs,ac,zt]
  repeat refine⟨by omega,?_⟩
  refine ai t2 ?_
  simp only[↓zq,zs,ac,zt,lz]
  refine⟨⟨fun c hc=>by simp at hc;rw[hc];rfl,by omega⟩,?_⟩
  rw[bA i (by omega),aW hlt]
  have:=Ir l hl h1 h2 k (i+1) (out++[l[i]]) (by omega) (by simp;omega)
  rw[bc]at this
  simpa[lL]using this
theorem PE(l:List Hl)(hl:l.length<=1000)(h1:∀h,h∈l->h.1.cM.length<=900000)(h2:∀h,h∈l->h.2.cM.length<=900000):aq Tryz.prog 91 [.sl (lZ l)] [] (bK (.sl (lL l))):=by
 refine OE _ ((cg _).mpr trivial) ?_
 unfold K4
 refine cB (Ir l hl h1 h2 l.length 0 [] (by omega) (by simp)) ?_
 simp only[↓zq,zs,ac]
 exact⟨rfl,rfl⟩
theorem vJ{a:Ty}{v:Vl}(h:Fo a v){k:Hl}(hk:k∈kids a v):k.1.cM.length<=900000/\k.2.cM.length<=900000:=by
 obtain⟨b1,b2⟩:=j4 h.ic hk
 have h1:=ja _ b1
 have h2:=ja _ b2
 have h3:=xT hk
 have h4:=h.nd
 have h5:k.1.nodes<=4*v.nodes:=by
  cases v with
  |f w=>have:=(il hk).2;simp only[Vl.nodes];omega
  |_=>cases hk
 omega
theorem IX{s d:Nm}{a:Ty}{x A B:E}{D:Ty}(z:ZT s d a x A B D)(v:Vl)(hv:Fo a v):aq Tryz.prog 69 [.v (.string (mk s)),.v (.string (mk v.cM))] [] (bK (.cD [.sl (lL (kids a v)),.v (.bool true)])):=by
 have hv2:nA s v.cM 100=some v:=by rw[z.cM hv.ic hv.ty,if_pos hv.nd]
 have hP:=P3.of x A B
 have hn:=hv.nd
 obtain⟨v0,hv0,_⟩:=uG .nil z.hx (hv.eW z)
 have hkids:=Ot 100 v x A B a z.body z.hx v0 hv0 (hv.eW z) (by omega)
 have hV:=P2.of (.atom [102]) v0.cG
 refine RG _ _ ?_
 unfold Mt
 refine aQ (FZ s) (jG.ne _ _ (fun h=>h)) ?_
 rintro r o ⟨c,e,he,rfl,hh⟩
 rw[z.le]at hh
 obtain⟨e',he',hce⟩:=hh rfl
 cases he'
 rw[di]at hce
 rw[hce,z.le]
 simp only[↓zq,zs,ac,zt,aL,bJ]
 repeat refine⟨by omega,?_⟩
 refine aQ (D0 v.cM) (jG.ne _ _ (fun h=>by simpa using h)) ?_
 rw[qF hv.ic hn]
 rintro r o ⟨c,e,he,rfl,hh⟩
 obtain⟨e',he',hce⟩:=hh rfl
 cases he'
 rw[di]at hce
 rw[hce]
 simp only[↓zq,zs,ac,zt,aL,be]
 repeat refine⟨by omega,?_⟩
 refine⟨fun h=>by simp at h,fun _=>?_⟩
 refine ai (zG s v.cM 100) ?_
 rw[hv2,hv0]
 simp only[toNat_one,bf,Vl.cG,bJ,↓zq,zs,ac,zt,hP.1,hP.2.1,hP.2.2.1,hP.2.2.2,hV.1,hV.2.1,hV.2.2,aL,aX,be]
 refine⟨fun h=>by simp at h,fun _=>?_⟩
 repeat refine⟨by omega,?_⟩
 refine ai hkids ?_
 simp only[↓zq,zs,ac]
 repeat refine⟨by omega,?_⟩
 have hlen:=pF a v
 have:=mO (kids a v)
 refine ai (PE (kids a v) (by omega) (fun h hh=>(vJ hv hh).1) (fun h hh=>(vJ hv hh).2)) ?_
 rw[<-hv0]
 simp only[↓zq,zs,ac]
 exact⟨rfl,rfl⟩
theorem MU(s:Nm)(pa:AV)(p:List Nm)(hp:cF pa p)(f:Nm):aq Tryz.prog 34 [.agg [.v (.string (mk s)),pa,.v (.string (mk f))]] [] (bK (.v (.int .i64 (jx s p f)))):=by
 refine QV _ _ _ hp.1 ?_
 unfold Jb
 refine ai (QX s pa p hp f) ?_
 simp only[↓zq,zs,ac]
 unfold jx
 cases q:gF s p f with
 |none=>simp only[bq];exact⟨fun _=>⟨rfl,rfl⟩,fun h=>by simp at h⟩
 |
  some r =>
  obtain⟨l,v⟩:=r
  obtain⟨d,hs,rfl,rfl⟩:=pk q
  obtain⟨x,A,B,D,z⟩:=hs.z
  simp only[be]
  refine⟨fun h=>by simp at h,fun _=>?_⟩
  refine ai (IX z v hs.i.pD) ?_
  simp only[↓zq,zs,ac,lz]
  exact⟨rfl,rfl⟩
end Go.Proofs.Trees
namespace Go.Proofs.Trees
open Go Go.VL Go.RowKit
theorem ry{a:Ty}{l l':List Vl}{v w:Vl}{k:Int}(h:uS a l v k=some (l',w)):∃q,q∈kids a v/\l'=l++[q.1]/\w=q.2/\q.1.nodes<=200/\l.length≠50/\0<=k/\(kids a v)[k.toNat]?=some q:=by
 unfold uS at h
 split at h
 ·cases h
 ·rename_i h0
  split at h
  ·rename_i h1
   split at h
   ·rename_i h2
    cases h
    have e:(kids a v).getD k.toNat (.u,.u)=(kids a v)[k.toNat]'h1.2:=by simp[aa,h1.2]
    rw[e]at h2 |-
    exact⟨_,bF _,rfl,rfl,h2,h0,h1.1,by simp[h1.2]⟩
   ·cases h
  ·cases h
theorem St.dn{s d:Nm}{a:Ty}{l l':List Vl}{v w:Vl}{k:Int}(h:St s d a l v)(hu:uS a l v k=some (l',w)):St s d a l' w/\si a l' w=some (l,v)/\l'.length=l.length+1:=by
 obtain⟨q,hq,rfl,rfl,hn,h50,_,_⟩:=ry hu
 obtain⟨x,A,B,D,z⟩:=h.z
 obtain⟨t1,t2,t3⟩:=z.N7 h.i.pD hq
 have hv:nA d q.1.cM 100=some q.1:=by rw[z.OJ (j4 h.i.pD.ic hq).1 t1,if_pos hn]
 have hlen:=h.len
 refine⟨⟨⟨x,A,B,D,z⟩,⟨fun c hc=>?_,t2⟩,fun c hc=>?_,by simp;omega⟩,(qT t3 h.i.pD.nd).1,by simp⟩
 ·rcases aN.1 hc with hc|hc
  ·exact h.i.Dd c hc
  ·simp only[aV]at hc;subst hc;exact z.Dd hv
 ·rcases aN.1 hc with hc|hc
  ·exact h.each c hc
  ·simp only[aV]at hc;subst hc;exact hv
theorem Px{s d:Nm}{a:Ty}{l:List Vl}{v:Vl}(h:St s d a l v)(k:Int):aq Tryz.prog 59 [wk s a l v,.v (.int .i64 k)] [] (bK (oZ s a (uS a l v k))):=by
 obtain⟨x,A,B,D,z⟩:=h.z
 have hnd:=h.i.pD.nd
 have hlen:=h.len
 refine IL _ _ ((cd _).mpr trivial) ?_
 simp only[Ha,wk,↓zq,zs,ac,lO,aO,aF]
 refine⟨fun h=>(by cases h),fun _=>?_⟩
 repeat refine⟨by first|trivial|omega,?_⟩
 unfold uS
 refine⟨fun h5=>?_,fun h5=>?_⟩
 ·rw[if_pos (by omega)];exact⟨rfl,rfl⟩
 ·rw[if_neg (by omega)]
  repeat refine⟨by first|trivial|omega,?_⟩
  refine ai (Kq 100 v x A B a z.body z.hx (h.i.pD.eW z) (by omega)) ?_
  have hkl:(gY (kids a v)).length=(kids a v).length:=by simp[gY]
  simp only[↓zq,zs,ac,hkl]
  refine⟨fun h0=>?_,fun h0=>⟨fun h1=>?_,fun h1=>?_⟩⟩
  ·rw[if_neg (by omega)];exact⟨rfl,rfl⟩
  ·rw[if_neg (by omega)];exact⟨rfl,rfl⟩
  ·have hlt:k.toNat<(kids a v).length:=by omega
   rw[if_pos ⟨by omega,hlt⟩]
   have hg:(gY (kids a v)).getD k.toNat []=[((kids a v)[k.toNat]).1.cu,((kids a v)[k.toNat]).2.cu]:=by simp[gY,aa,hlt]
   have hg2:(kids a v).getD k.toNat (.u,.u)=(kids a v)[k.toNat]:=by simp[aa,hlt]
   have hm:=bF hlt
   rw[hg2]
   have hctx:((kids a v)[k.toNat]).1.nodes<=4*v.nodes:=by
    cases v with
    |f w=>have:=(il hm).2;simp only[Vl.nodes];omega
    |_=>simp[kids]at hlt
   generalize (kids a v)[k.toNat]=q at *
   simp only[hg,↓zq,zs,ac,aO]
   repeat refine⟨by first|trivial|omega,?_⟩
   refine ai (Eu q.1 (by omega)) ?_
   simp only[↓zq,zs,ac,aO,aF,zt]
   refine⟨fun hb=>?_,fun hb=>?_⟩
   ·rw[if_neg (by omega)];exact⟨rfl,rfl⟩
   ·rw[if_pos (by omega)]
    repeat refine⟨by first|trivial|omega,?_⟩
    refine⟨⟨fun c hc=>?_,by simp[vg];omega⟩,?_⟩
    ·simp only[vg,bO]at hc
     obtain⟨y,_,rfl⟩:=hc;rfl
    repeat refine⟨by first|trivial|omega,?_⟩
    refine⟨⟨fun c hc=>by simp at hc;rw[hc];rfl,by simp[vg];omega⟩,?_⟩
    repeat refine⟨by first|trivial|omega,?_⟩
    refine⟨?_,rfl⟩
    simp only[oZ,wk,aU,yq]
theorem Q9(s:Nm)(a:Ty)(o:Option (List Vl×Vl))(ho:∀r,o=some r->∃d,St s d a r.1 r.2)(k:Int):aq Tryz.prog 59 [oZ s a o,.v (.int .i64 k)] [] (bK (oZ s a (o.bind fun r=>uS a r.1 r.2 k))):=by
 cases o with
 |
  none =>
  refine IL _ _ ((iC).mpr trivial) ?_
  simp only[Ha,oZ,↓zq,zs,ac,bL]
  exact⟨fun _=>⟨rfl,rfl⟩,fun h=>(by cases h)⟩
 |
  some r =>
  obtain⟨d,h⟩:=ho r rfl
  exact Px h k
noncomputable def oX (s:Nm) (p:List Nm) (f:Nm) (k:Int):Option (List Vl×Vl):=(gF s p f).bind fun r=>uS (zA s) r.1 r.2 k
theorem St.gz{s d:Nm}{a:Ty}{l:List Vl}{v:Vl}(h:St s d a l v):GZ (some (l,v)):=h.i.gz (by have:=h.len;omega)
theorem wa(s:Nm)(p:List Nm)(f:Nm)(k:Int):GZ (oX s p f k):=fun r hr=>by
 obtain⟨q,h1,h2⟩:=bg.1 hr
 obtain⟨d,hs,_⟩:=pk (l:=q.1) (v:=q.2) h1
 exact(hs.dn (l':=r.1) (w:=r.2) h2).1.gz r rfl
theorem Nx(s:Nm)(pa:AV)(p:List Nm)(hp:cF pa p)(f:Nm)(k:Int):aq Tryz.prog 35 [.agg [.v (.string (mk s)),pa,.v (.string (mk f))],.v (.int .i64 k)] [] (G9 s (oX s p f k)):=by
 refine Rv _ _ _ _ hp.1 ?_
 unfold JZ
 refine ai (RI s pa p hp f) ?_
 simp only[↓zq,zs,ac,zt,pI]
 refine ai (Q9 s (zA s) (gF s p f) (fun r hr=>by obtain⟨d,hs,_⟩:=pk (l:=r.1) (v:=r.2) hr;exact⟨d,hs⟩) k) ?_
 simp only[↓zq,zs,ac,zt,pI]
 refine aY (Ry s (zA s) _ (wa s p f k)) ?_
 simp only[↓zq,zs,ac,zt,aM]
 exact⟨ep _,rfl,rfl⟩
theorem xd{l:List Hl}{i:Nat}(h:i<l.length):(lL l).getD i []=[.v (.string (mk (l[i]).1.cM)),.v (.string (mk (l[i]).2.cM))]:=by simp[lL,aa,h]
theorem wx{s:Nm}{p:List Nm}{f:Nm}{r:List Vl×Vl}(h:v8 s p f=some r):∃d,cJ s=some d/\St s d (zA s) r.1 r.2/\p=r.1.map (·.cM)/\f=r.2.cM:=by
 obtain⟨d,a,x,A,B,D,z,hz,hp,hf,hl,hza,_,hr⟩:=mP (l:=r.1) (v:=r.2) h
 rw[hza]
 exact⟨d,z.dl,⟨⟨x,A,B,D,z⟩,hz,nI hr hp,by rw[hp]at hl;simpa using hl⟩,hp,hf⟩
theorem El{s d:Nm}{l:List Vl}{v:Vl}(hs:St s d (zA s) l v)(hd:cJ s=some d)(hv:gF s (l.map (·.cM)) v.cM=some (l,v)){k:Int}(h0:0<=k)(hk:k.toNat<(kids (zA s) v).length) :
 gF s (l.map (·.cM)++[((kids (zA s) v)[k.toNat]).1.cM]) ((kids (zA s) v)[k.toNat]).2.cM=uS (zA s) l v k:=by
 rw[zB hs hd hv (bF hk)]
 unfold uS
 by_cases h5:l.length=50
 ·rw[if_pos h5,if_pos h5]
 ·rw[if_neg h5,if_neg h5,if_pos (show 0<=k/\k.toNat<(kids (zA s) v).length from ⟨h0,hk⟩)]
  have hg2:(kids (zA s) v).getD k.toNat (.u,.u)=(kids (zA s) v)[k.toNat]:=by simp[aa,hk]
  rw[hg2]
theorem Rg(s:Nm)(pa:AV)(p:List Nm)(hp:cF pa p)(f:Nm)(k:Int):aq Tryz.prog 57 [.agg [.v (.string (mk s)),pa,.v (.string (mk f))],.v (.int .i64 k)] [] (G9 s (oX s p f k)):=by
 refine PB _ _ _ _ hp.1 ?_
 unfold I9
 refine ai (QX s pa p hp f) ?_
 simp only[↓zq,zs,ac]
 unfold oX
 cases q:gF s p f with
 |none=>simp only[bq];exact⟨fun _=>⟨rfl,rfl⟩,fun h=>by simp at h⟩
 |
  some r =>
  obtain⟨l,v⟩:=r
  obtain⟨d,hd,hs,rfl,rfl⟩:=wx (iO q).1
  obtain⟨x,A,B,D,z⟩:=hs.z
  have hlen:l.length<=50:=hs.len
  have hnd:v.nodes<=200:=hs.i.pD.nd
  have hks:=pF (zA s) v
  have hks2:=mO (kids (zA s) v)
  simp only[be,ba]
  refine⟨fun h=>by simp at h,fun _=>?_⟩
  refine ai (IX z v hs.i.pD) ?_
  simp only[↓zq,zs,ac,lz]
  rw[wrap64 (((kids (zA s) v).length:Int)-1) (by omega) (by omega)]
  refine ai (A4 k 0 _) ?_
  rw[show Cs k 0 (((kids (zA s) v).length:Int)-1)=decide (0<=k/\k<=((kids (zA s) v).length:Int)-1) by rw[ct];simp[Cs]]
  simp only[↓zq,zs,ac,lz]
  by_cases hin:0<=k/\k<=((kids (zA s) v).length:Int)-1
  ·have hlt:k.toNat<(kids (zA s) v).length:=by omega
   refine⟨fun h=>(by exfalso;first|omega|(simp at h;omega)),fun _=>?_⟩
   simp only[xd hlt,↓zq,zs,ac,zt]
   repeat refine⟨by first|trivial|omega,?_⟩
   refine aY (wl _ pa hp _ (by simp;omega)) ?_
   simp only[↓zq,zs,ac,zt,Ob.es,aS]
   refine⟨ep _,?_⟩
   repeat refine⟨by first|trivial|omega,?_⟩
   have hdn:=J9 s (l.map (·.cM)++[((kids (zA s) v)[k.toNat]).1.cM]) ((kids (zA s) v)[k.toNat]).2.cM
   rw[El hs hd q hin.1 hlt]at hdn
   refine aY hdn ?_
   simp only[↓zq,zs,ac,zt,aM,Ob.es,aS,bw]
   exact⟨rfl,rfl⟩
  ·refine⟨fun _=>?_,fun h=>(by exfalso;first|omega|(simp at h;omega))⟩
   have:uS (zA s) l v k=none:=by
    unfold uS
    by_cases h5:l.length=50
    ·rw[if_pos h5]
    ·rw[if_neg h5,if_neg (by omega)]
   rw[this]
   exact⟨rfl,rfl⟩
end Go.Proofs.Trees
namespace Go.Proofs.Trees
open Go Go.VL Go.RowKit
def dZ(b:AV)(q:Nat)(s:Nm)(p:List Nm)(f:Nm):List Ob:=[.cells [b,.v (.int .i64 (q:Int))],PW,.cells [.v (.string (mk s)),.any,.v (.string (mk f))],.vec 1 (bD p)]
def R0(b:AV)(q c:Nat):Nat->List AV->List Ob->Prop:=fun k ys ob=>k=1/\ys=[]/\∃(q':Nat) (s:Nm) (p:List Nm) (f:Nm),q<=q'/\q'<=q+c/\p.length<=51/\ob=dZ b q' s p f
theorem wg(s:Nm)(p:List Nm)(f:Nm):-1<=jx s p f/\jx s p f<=1000:=by
 unfold jx
 cases q:gF s p f with
 |none=>simp
 |
  some r =>
  obtain⟨d,hs,_⟩:=pk (l:=r.1) (v:=r.2) q
  have h1:=pF (zA s) r.2
  have h2:=mO (kids (zA s) r.2)
  have h3:=hs.i.pD.nd
  simp only
  omega
end Go.Proofs.Trees
