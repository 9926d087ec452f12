/-
  Part of a proof: Go functions read by values, trees of functions, their contracts.
-/
import Derived.Test.YthcjhageibaepaaGreatDoorP5
set_option linter.unusedVariables false
set_option linter.unusedSimpArgs false
open And renaming intro→aH
open Bool renaming and_eq_true→aw,eq_iff_iff→cy,or_eq_false_iff→cf,or_eq_true→bC,true_and→bX
open ByteArray renaming toList→af
open Int renaming tmod→dF,toNat_natCast→bH
open List renaming all_cons→cZ,all_eq_true→bY,append_assoc→a8,append_nil→cX,cons_append→bc,drop_eq_getElem_cons→aU,drop_zero→bf,eq_nil_of_length_eq_zero→bJ,getD_cons_zero→bq,getD_eq_getElem?_getD→aa,getElem?_eq_getElem→bp,getElem_mem→bD,headD_cons→aJ,length_append→aq,length_cons→aA,length_map→ct,length_nil→aG,map_cons→bI,mem_append→aO,mem_append_left→aD,mem_append_right→aB,mem_cons→aL,mem_cons_of_mem→al,mem_cons_self→ak,mem_map→bP,mem_singleton→aQ,nil_append→aT,tail_cons→bu
open Nat renaming le_add_right→da,le_refl→au,mul_add→cT,mul_le_mul_right→a7,mul_one→dG,zero_add→aX,zero_le→dQ
open Option renaming bind_eq_some_iff→a6,bind_none→bL,bind_some→bb,getD_some→cx,isSome_iff_exists→bU,isSome_none→bA,isSome_some→aW,map_some→cz
open UInt8 renaming ofNat→bj
namespace Go.Proofs.Trees
open Go Go.VL Go.RowKit
theorem E7(n:Nat):∀(m:Nat) (v:Vl),v.nodes<=m->∀(e:E) (env:List Fr) (t:Ty),Ask e env t->eX n v (e,env)=true->env.length+v.nodes<100000->∀(ea:AV) (ids:List Nat),kH ea ids->ids.length=env.length->∀(tg:Tg) (s:List UInt8) (fr:AV),AE tg ids s fr->Ge t ea s fr tg v
 |0,v,hm=>by have:=dr v;omega
 |
  m+1,v,hm=>by
  intro e env t A hv hl ea ids he hids tg s fr ht
  unfold Ge
  refine Sa _ _ _ _ _ ((aE _).mpr trivial) he.has ((aN _).mpr trivial) ht.has ?_
  unfold Oy
  refine aj (Rz t tg ea ids s fr he ht (fun u hu=>by
   rcases gp A.wf A.ty with⟨hb,_⟩|⟨u',g,rfl,_,hg⟩
   ·rw[hu]at hb;cases hb
   ·cases hu;rw[hids];exact(List.getElem?_eq_some_iff.1 hg).1) (by omega)) ?_
  have hlen:=mW t tg v
  cases hat:eF t tg with
  |
   true =>
   rw[mP v hat]
   simp only[↓zq,zs,ae,bM,gJ,bI,List.map_nil,Vl.cE]
   exact⟨fun _=>trivial,fun h=>(by cases h)⟩
  |false =>
  simp only[↓zq,zs,ae]
  refine⟨fun h=>(by cases h),fun _=>?_⟩
  rcases gp A.wf A.ty with⟨hb,hq⟩|⟨u,g,rfl,hq,hu⟩
  ·have hhd:hd e env=(e,env):=kh hq
   rcases fK A.ty hb A.cl with⟨rfl,rfl⟩|⟨rfl,rfl⟩|⟨s,rfl,rfl,hp,h0,h1⟩|⟨x,a,b,t1,t2,rfl,hx,rfl,ha,hbb⟩|⟨x,a,b,t1,t2,rfl,hx,rfl,ha,hbb⟩|⟨x,a,b,t1,rfl,hx,rfl⟩
   ·rw[dU hat (by cases v<;>rfl)]
    simp[Ty.av,↓zq,zs,ae,bM,gJ]
   ·rw[dU hat (by cases v<;>rfl)]
    simp[Ty.av,↓zq,zs,ae,bM,gJ]
   ·rw[dU hat (by cases v<;>rfl)]
    simp[Ty.av,↓zq,zs,ae,bM,gJ]
   ·obtain⟨ok1,ok2,ok3,_⟩:=A.ok
    obtain⟨f1,f2⟩:=fD A.cl
    have hL:=zZ t1.av t2.av ea 43 (mk []) 0 ((aE _).mpr trivial) he.has
    have hR:=zK t1.av t2.av ea 43 (mk []) 0 ((aE _).mpr trivial) he.has
    cases v with
    |
     l w =>
     simp only[eX,hhd,hx,beq_self_eq_true,bX]at hv
     simp only[Vl.nodes]at hm hl hlen
     rw[nn]at hlen |-
     rw[fS]at hlen
     simp only[Ty.av,↓zq,zs,ae]
     refine⟨by omega,fun _=>?_,fun h=>absurd rfl h⟩
     refine aj hL ?_
     simp only[↓zq,zs,ae,bK,aE,he.has,Vl.cE,aN]
     refine⟨by omega,fun h=>by omega,fun _=>⟨by omega,?_⟩⟩
     refine aj (E7 n m w (by omega) a env t1 ⟨ok2,A.wf,ha,f1⟩ hv (by omega) ea ids he hids tg s fr ht) ?_
     simp only[↓zq,zs,ae]
     have hadd:=Jk (Vl.l w).cE ((aN _).mpr trivial) Vl.l (fun c=>Q9 w c) (ck t1 tg w) [] (by simp;omega)
     simp only[Vl.cE,gJ,List.map_nil,aT]at hadd
     refine aV hadd ?_
     simp[↓zq,zs,ae,aI,bM,aN,gJ,cb]
    |
     r w =>
     simp only[eX,hhd,hx,beq_self_eq_true,bX]at hv
     simp only[Vl.nodes]at hm hl hlen
     rw[nf]at hlen |-
     rw[fS]at hlen
     simp only[Ty.av,↓zq,zs,ae]
     refine⟨by omega,fun _=>?_,fun h=>absurd rfl h⟩
     refine aj hL ?_
     simp only[↓zq,zs,ae,bK,aE,he.has,Vl.cE,aN]
     refine⟨by omega,fun _=>?_,fun h=>absurd rfl h⟩
     refine aj hR ?_
     simp only[↓zq,zs,ae,bK,aE,he.has,aN]
     refine⟨by omega,?_⟩
     refine aj (E7 n m w (by omega) b env t2 ⟨ok3,A.wf,hbb,f2⟩ hv (by omega) ea ids he hids tg s fr ht) ?_
     simp only[↓zq,zs,ae]
     have hadd:=Jk (Vl.r w).cE ((aN _).mpr trivial) Vl.r (fun c=>QX w c) (ck t2 tg w) [] (by simp;omega)
     simp only[Vl.cE,gJ,List.map_nil,aT]at hadd
     refine aV hadd ?_
     simp[↓zq,zs,ae,aI,bM,aN,gJ,cb]
    |_=>simp[eX,hhd,hx]at hv
   ·obtain⟨ok1,ok2,ok3,_⟩:=A.ok
    obtain⟨f1,f2⟩:=eY A.cl
    have hL:=zZ t1.av t2.av ea 42 (mk []) 0 ((aE _).mpr trivial) he.has
    have hR:=zK t1.av t2.av ea 42 (mk []) 0 ((aE _).mpr trivial) he.has
    cases v with
    |
     p w w' =>
     simp only[eX,hhd,hx,beq_self_eq_true,bX,aw]at hv
     simp only[Vl.nodes]at hm hl hlen
     rw[ng]at hlen |-
     simp only[aq,fS]at hlen
     simp only[Ty.av,↓zq,zs,ae]
     refine⟨by omega,fun h=>by omega,fun _=>⟨fun _=>?_,fun h=>absurd rfl h⟩⟩
     refine aj hL ?_
     simp only[↓zq,zs,ae,bK,aE,he.has,Vl.cE,aN]
     refine⟨by omega,?_⟩
     refine aj (E7 n m w (by omega) a env t1 ⟨ok2,A.wf,ha,f1⟩ hv.1 (by omega) ea ids he hids tg s fr ht) ?_
     simp only[↓zq,zs,ae]
     have hadd:=Q3 (Vl.p w w').cE ((aN _).mpr trivial) (fun c=>.l (.p c w')) (fun c=>Se w w' c) (ck t1 tg w) [] (by simp;omega)
     simp only[Vl.cE,gJ,List.map_nil,aT]at hadd
     refine aV hadd ?_
     simp only[↓zq,zs,ae,aI,aN]
     refine aj hR ?_
     simp only[↓zq,zs,ae,bK,aE,he.has,aN]
     refine⟨by omega,?_⟩
     refine aj (E7 n m w' (by omega) b env t2 ⟨ok3,A.wf,hbb,f2⟩ hv.2 (by omega) ea ids he hids tg s fr ht) ?_
     simp only[↓zq,zs,ae]
     have hadd2:=Ri (Vl.p w w').cE ((aN _).mpr trivial) (fun c=>.r (.p w c)) (fun c=>RJ w w' c) (ck t2 tg w') (iH (fun c=>.l (.p c w')) (ck t1 tg w)) (by rw[fS];omega)
     simp only[Vl.cE,gJ]at hadd2
     refine aV hadd2 ?_
     simp[↓zq,zs,ae,aI,bM,aN,gJ,cb]
    |_=>simp[eX,hhd,hx]at hv
   ·obtain⟨t1',he1,h1,f1,hw1⟩:=jx A.wf A.ok hx A.ty A.cl
    cases he1
    obtain⟨ok1,ok2,ok3,_⟩:=A.ok
    have A':Ask b (.mk a.at (.list [x,a,b]) env::env) t1:=⟨ok3,hw1,h1,f1⟩
    cases v with
    |
     f w =>
     simp only[eX,hhd,hx,beq_self_eq_true,bX]at hv
     simp only[Vl.nodes]at hm hl hlen
     rw[ns]at hlen |-
     simp only[aq,fS]at hlen
     have hin:=Df t1 ea ids he
     simp only[Ty.av]at hin
     simp only[Ty.av,↓zq,zs,ae]
     refine⟨by omega,fun h=>by omega,fun _=>⟨fun h=>by omega,fun _=>⟨fun _=>?_,fun h=>absurd rfl h⟩⟩⟩
     refine aP hin (by have:=CF.ne t1 ea ids;simpa only[CF,Ty.av]using this) ?_
     intro r o hr
     obtain⟨⟨mm,hmm,rfl⟩,rfl⟩:=hr
     have he2:kH (.ptr [.pid mm [(Ty.rc t1).av,ea],ea]) (mm::ids):=.cons hmm he
     have hfr:LK.ptr.has (.pid mm [(Ty.rc t1).av,ea]):=.inr (.inr ⟨_,_,rfl⟩)
     simp only[Ty.av]at he2 hfr
     simp only[↓zq,zs,ae,bK,aE,he2.has,hfr,Vl.cE,aN,Ty.av]
     refine⟨by omega,?_⟩
     have i1:=E7 n m w (by omega) b _ t1 A' hv (by simp;omega) _ _ he2 (by simp[hids]) tg.up s fr (ht.push mm)
     unfold Ge at i1
     refine aj i1 ?_
     simp only[↓zq,zs,ae]
     have hadd:=QR (fun c=>.f (.l c)) (fun c=>Sw c) (ck t1 tg.up w) [] (by simp;omega)
     simp only[Vl.cE,gJ,List.map_nil,aT]at hadd
     refine aV hadd ?_
     simp only[↓zq,zs,ae,aI,aN]
     have i2:=E7 n m w (by omega) b _ t1 A' hv (by simp;omega) _ _ he2 (by simp[hids]) (.bd 0) [] _ (by have:=AE.bd (k:=0) (ids:=mm::ids) (by simp) [(Ty.rc t1).av,ea] [];simpa only[bq,Ty.av]using this)
     unfold Ge at i2
     refine⟨by omega,?_⟩
     refine aj i2 ?_
     simp only[↓zq,zs,ae,ep]
     have hl2:=mW t1 (.bd 0) w
     have ih3:∀h,h∈ck t1 (.bd 0) w->Ge (.rc t1) ea s fr tg h.2:=fun h hh=>by
      have h3:=(iE hh).1
      have h4:=iq n m w (by omega) b _ t1 A' hv 0 _ rfl h hh
      exact E7 n m h.2 (by omega) (.list [x,a,b]) env (.rc t1) A h4 (by omega) ea ids he hids tg s fr ht
     have hloop:=JR t1 ea s fr tg he.has ht.has (ck t1 (.bd 0) w) (by omega) ih3 (ck t1 (.bd 0) w).length 0 (iH (fun c=>.f (.l c)) (ck t1 tg.up w)) (by omega) (by
      simp only[bf,aq,fS]
      have hlen2:(ck t1 tg.up w).length+((ck t1 (.bd 0) w).flatMap (AH t1 tg)).length<=1+w.nodes:=hlen
      omega)
     simp only[Ty.av,gJ,bf]at hloop
     refine cA hloop ?_
     simp[↓zq,zs,ae,ae,bM,gJ]
    |_=>simp[eX,hhd,hx]at hv
  ·rw[dU hat (by cases v<;>rfl)]
   simp[Ty.av,↓zq,zs,ae,bM,gJ]
end Go.Proofs.Trees
namespace Go.Proofs.Trees
open Go Go.VL Go.RowKit
theorem CL:∀(v:Vl),v.cF.length<=900000->an Tryz.prog 48 [v.cE] [] (bM (.v (.string (mk v.cF))))
 | .u,h=>by refine Ab _ ((aN _).mpr trivial) ?_;simp[xI,Vl.cE,↓zq,zs,ae,bM,Vl.cF,Vl.cK,e9]
 | .el k,h=>by refine Ab _ ((aN _).mpr trivial) ?_;simp[xI,Vl.cE,↓zq,zs,ae,bM,Vl.cF,Vl.cK,e9]
 |
  .l v,h=>by
  simp only[Vl.cF,Vl.cK,e9,ej,aA,aq,aG]at h
  refine Ab _ ((aN _).mpr trivial) ?_
  have hb:(⟨(bytesOf [[.v (.int .u8 108)]]).toArray⟩:ByteArray)=mk [108]:=rfl
  have ha:jA [[.v (.int .u8 108)]]:=lr 108
  simp only[xI,Vl.cE,↓zq,zs,ae,aN,fB,hb]
  refine⟨by omega,fun h=>by omega,fun _=>⟨fun h=>by omega,fun _=>⟨fun h=>by omega,fun _=>⟨by omega,ha,by simp[cM],by rw[lq,cM,cM];simp,by omega,?_⟩⟩⟩⟩
  refine aj (CL v (by simp only[Vl.cF];omega)) ?_
  simp only[↓zq,zs,ae,zt,bM,Vl.cF,Vl.cK,e9,ej]
  refine⟨by simp;omega,by simp;omega,by simp⟩
 |
  .r v,h=>by
  simp only[Vl.cF,Vl.cK,e9,ej,aA,aq,aG]at h
  refine Ab _ ((aN _).mpr trivial) ?_
  have hb:(⟨(bytesOf [[.v (.int .u8 114)]]).toArray⟩:ByteArray)=mk [114]:=rfl
  have ha:jA [[.v (.int .u8 114)]]:=lr 114
  simp only[xI,Vl.cE,↓zq,zs,ae,aN,fB,hb]
  refine⟨by omega,fun h=>by omega,fun _=>⟨fun h=>by omega,fun _=>⟨fun h=>by omega,fun _=>⟨by omega,ha,by simp[cM],by rw[lq,cM,cM];simp,by omega,?_⟩⟩⟩⟩
  refine aj (CL v (by simp only[Vl.cF];omega)) ?_
  simp only[↓zq,zs,ae,zt,bM,Vl.cF,Vl.cK,e9,ej]
  refine⟨by simp;omega,by simp;omega,by simp⟩
 |
  .f v,h=>by
  simp only[Vl.cF,Vl.cK,e9,ej,aA,aq,aG]at h
  refine Ab _ ((aN _).mpr trivial) ?_
  have hb:(⟨(bytesOf [[.v (.int .u8 102)]]).toArray⟩:ByteArray)=mk [102]:=rfl
  have ha:jA [[.v (.int .u8 102)]]:=lr 102
  simp only[xI,Vl.cE,↓zq,zs,ae,aN,fB,hb]
  refine⟨by omega,fun h=>by omega,fun _=>⟨fun h=>by omega,fun _=>⟨fun h=>by omega,fun _=>⟨by omega,ha,by simp[cM],by rw[lq,cM,cM];simp,by omega,?_⟩⟩⟩⟩
  refine aj (CL v (by simp only[Vl.cF];omega)) ?_
  simp only[↓zq,zs,ae,zt,bM,Vl.cF,Vl.cK,e9,ej]
  refine⟨by simp;omega,by simp;omega,by simp⟩
 |
  .p a b,h=>by
  simp only[Vl.cF,Vl.cK,e9,ej,aA,aq,aG]at h
  refine Ab _ ((aN _).mpr trivial) ?_
  simp only[xI,Vl.cE,↓zq,zs,ae,aN,fB]
  refine⟨by omega,fun h=>by omega,fun _=>⟨fun h=>by omega,fun _=>⟨fun _=>⟨by omega,?_⟩,fun h=>absurd rfl h⟩⟩⟩
  refine aj (CL a (by simp only[Vl.cF];omega)) ?_
  simp only[↓zq,zs,ae,zt,aN,Vl.cF]
  refine⟨by simp;omega,by simp;omega,by omega,?_⟩
  refine aj (CL b (by simp only[Vl.cF];omega)) ?_
  simp only[↓zq,zs,ae,zt,bM,Vl.cF,Vl.cK,e9,ej]
  refine⟨by simp;omega,by simp;omega,by simp⟩
def oj:Option (List UInt8)->AV
 |some s=>.cG [.v (.string (mk s)),.v (.bool true)]
 |none=>.cG [.v (.string (mk [])),.v (.bool false)]
end Go.Proofs.Trees
namespace Go.Proofs.Trees
open Go Go.VL Go.RowKit
def back(n:Nat):Ty->Nat->Vl
 | .name _,c=>.el c
 | .plus a b,c=>match IN n a with|some x=>if c<x then .l (back n a c)else .r (back n b (c-x))|none=>.u
 | .times a b,c=>match IN n b with|some y=>.p (back n a (c/y)) (back n b (c%y))|none=>.u
 |_,_=>.u
theorem yT:∀l:List E,cD 2 (E.bw l)
 |[]=>fun c hc=>by cases hc
 |
  e::l=>fun c hc=>by
  simp only[E.bw,aL]at hc
  rcases hc with rfl|hc
  ·exact gl e
  ·exact yT l c hc
theorem J5(w:List UInt8)(l:List E)(hl:l.length<1000000):an Tryz.prog 81 [.v (.string (mk w)),.sl (E.bw l)] [] (bM (E.kF (.list (.atom w::l)))):=by
 refine Ot _ _ ((cg _).mpr trivial) ?_
 simp only[G2,↓zq,zs,ae,ef,bM,E.kF,E.ir,E.bw]
 exact⟨⟨yT l,by omega⟩,rfl⟩
end Go.Proofs.Trees
namespace Go.Proofs.Trees
open Go Go.VL Go.RowKit
def mc(l:List Hl):List (List AV):=l.map fun h=>[.v (.string (mk h.1.cK.at)),h.1.cK.sp,.v (.string (mk h.2.cK.at)),h.2.cK.sp]
theorem fA(l:List Hl):(mc l).length=l.length:=by simp[mc]
theorem gB{l:List Hl}{i:Nat}(hi:i<l.length):(mc l).getD i []=[.v (.string (mk (l[i]).1.cK.at)),(l[i]).1.cK.sp,.v (.string (mk (l[i]).2.cK.at)),(l[i]).2.cK.sp]:=by simp[mc,aa,hi]
theorem ph(out:List Hl)(a b:Vl):mc out++[[.v (.string (mk a.cK.at)),a.cK.sp,.v (.string (mk b.cK.at)),b.cK.sp]]=mc (out++[(a,b)]):=by simp[mc]
theorem Ai(a b c d:AV):cD 4 [[a,b,c,d]]:=fun x hx=>by simp at hx;rw[hx];rfl
theorem aM(s:ByteArray)(e:E):bK [.str,.sl] [.v (.string s),e.sp] 0=True:=by simp[bK,dY,aY]
theorem kR(s:ByteArray)(e:E)(x y:AV):bK [.str,.sl] [.v (.string s),e.sp,x,y] 0=True:=by simp[bK,dY,aY]
theorem xl(w:List UInt8)(e:E):an Tryz.prog 81 [.v (.string (mk w)),.sl [[.v (.string (mk e.at)),e.sp]]] [] (bM (.agg [.v (.string (mk [])),(E.list [.atom w,e]).sp])):=by
 have:=J5 w [e] (by simp)
 simpa only[E.bw,fI,dj,E.at]using this
theorem xO(w:List UInt8)(e e':E):an Tryz.prog 81 [.v (.string (mk w)),.sl [[.v (.string (mk e.at)),e.sp],[.v (.string (mk e'.at)),e'.sp]]] [] (bM (.agg [.v (.string (mk [])),(E.list [.atom w,e,e']).sp])):=by
 have:=J5 w [e,e'] (by simp)
 simpa only[E.bw,fI,dj,E.at]using this
def P3(pv:AV)(a b:E):Prop:=LK.sl.has pv/\pv.elems.length=3/\pv.elems.getD 1 []=[.v (.string (mk a.at)),a.sp]/\pv.elems.getD 2 []=[.v (.string (mk b.at)),b.sp]
theorem P3.of(x a b:E):P3 (E.list [x,a,b]).sp a b:=⟨by simp[E.sp,cg],by simp[E.sp,E.bw,fE],by simp[E.sp,E.bw,fE,fI],by simp[E.sp,E.bw,fE,fI]⟩
def P2(pv:AV)(a:E):Prop:=LK.sl.has pv/\pv.elems.length=2/\pv.elems.getD 1 []=[.v (.string (mk a.at)),a.sp]
theorem P2.of(x a:E):P2 (E.list [x,a]).sp a:=⟨by simp[E.sp,cg],by simp[E.sp,E.bw,fE],by simp[E.sp,E.bw,fE,fI]⟩
theorem MY(w:List UInt8)(g:Vl->Vl)(hg:∀c,(g c).cK=.list [.atom w,c.cK])(l:List Hl)(hl:l.length<=1000000):∀(k i:Nat) (out:List Hl),i+k=l.length->out.length+k<=1000000 ->
 Ff [.sl (mc l),.v (.string (mk w)),.v (.int .i64 (i:Int))] [.vec 4 (mc out)] (gZ 1 [] [.vec 4 (mc (out++iH g (l.drop i)))])
 |
  0,i,out,hi,ho=>by
  refine JZ _ _ _ _ ?_
  have:i=l.length:=by omega
  subst this
  simp only[Hz,↓zq,zs,ae,fA]
  exact⟨fun h=>by omega,fun _=>by simp[gZ,iH]⟩
 |
  k+1,i,out,hi,ho=>by
  have hlt:i<l.length:=by omega
  refine JZ _ _ _ _ ?_
  simp only[Hz,↓zq,zs,ae,zt,fA,gB hlt,kR,aM]
  refine⟨fun _=>?_,fun h=>by omega⟩
  repeat refine⟨by omega,?_⟩
  refine aj (xl _ _) ?_
  simp only[↓zq,zs,ae,aM]
  repeat refine⟨by omega,?_⟩
  refine⟨⟨Ai _ _ _ _,by omega⟩,?_⟩
  rw[bx i (by omega)]
  have:=MY w g hg l hl k (i+1) (out++[(g (l[i]).1,(l[i]).2)]) (by omega) (by simp;omega)
  rw[a8,<-ph,hg]at this
  rw[gq g l hlt]
  exact this
theorem JG(w:List UInt8)(g:Vl->Vl)(hg:∀c,(g c).cK=.list [.atom w,c.cK])(l out:List Hl)(hl:out.length+l.length<=1000000) :
 an Tryz.prog 105 [.sl (mc l),.v (.string (mk w)),.vec 0] [.vec 4 (mc out)] (df (.vec 1) [.dead,.vec 4 (mc (out++iH g l))]):=by
 refine RB _ _ _ ((cg _).mpr trivial) ?_
 simp only[I1,↓zq,zs,ae]
 have h:=MY w g hg l (by omega) l.length 0 out (by omega) (by omega)
 rw[bf]at h
 refine cA h ?_
 simp[↓zq,zs,ae,df]
theorem Ki(s:List UInt8)(ta:ByteArray)(tp:AV)(ht:LK.sl.has tp)(va:ByteArray)(vp:AV)(x y:Vl)(hp:P3 vp x.cK y.cK)(l:List Hl)(hl:l.length<=1000000):∀(k i:Nat) (out:List Hl),i+k=l.length->out.length+k<=1000000 ->
 HY [.v (.string (mk s)),.sl (mc l),.v (.int .i64 (i:Int))] [.cells [.v (.string ta),tp],.cells [.v (.string va),vp],.vec 4 (mc out)] (gZ 1 [.v (.string (mk s))] [.cells [.v (.string ta),tp],.cells [.v (.string va),vp],.vec 4 (mc (out++iH (fun c=>Vl.l (.p c y)) (l.drop i)))])
 |
  0,i,out,hi,ho=>by
  refine Ni _ _ _ _ _ _ _ _ ?_
  have:i=l.length:=by omega
  subst this
  simp only[Gg,↓zq,zs,ae,fA,ht,aY,ae,hp.1]
  exact⟨fun h=>by omega,fun _=>by simp[gZ,iH]⟩
 |
  k+1,i,out,hi,ho=>by
  have hlt:i<l.length:=by omega
  refine Ni _ _ _ _ _ _ _ _ ?_
  simp only[Gg,↓zq,zs,ae,zt,fA,gB hlt,kR,aM,gB,ht,aY,ae,hp.1,toNat_one,bg,hp.1,hp.2.1,hp.2.2.1,hp.2.2.2]
  refine⟨fun _=>?_,fun h=>by omega⟩
  repeat refine⟨by omega,?_⟩
  refine aj (xO _ _ _) ?_
  simp only[↓zq,zs,ae,aM]
  repeat refine⟨by omega,?_⟩
  refine aj (xl [108] (E.list [.atom [112],(l[i]).1.cK,y.cK])) ?_
  simp only[↓zq,zs,ae,aM]
  repeat refine⟨by omega,?_⟩
  refine⟨⟨Ai _ _ _ _,by omega⟩,?_⟩
  rw[bx i (by omega)]
  have:=Ki s ta tp ht va vp x y hp l hl k (i+1) (out++[((fun c=>Vl.l (.p c y)) (l[i]).1,(l[i]).2)]) (by omega) (by simp;omega)
  rw[a8,<-ph]at this
  rw[gq (fun c=>Vl.l (.p c y)) l hlt]
  exact this
theorem Jd(va:ByteArray)(vp:AV)(x y:Vl)(hp:P3 vp x.cK y.cK)(l:List Hl)(hl:l.length<=1000000):∀(k i:Nat) (out:List Hl),i+k=l.length->out.length+k<=1000000 ->
 GP [.sl (mc l),.v (.int .i64 (i:Int))] [.cells [.v (.string va),vp],.vec 4 (mc out)] (gZ 1 [] [.vec 4 (mc (out++iH (fun c=>Vl.r (.p x c)) (l.drop i)))])
 |
  0,i,out,hi,ho=>by
  refine LF _ _ _ _ _ ?_
  have:i=l.length:=by omega
  subst this
  simp only[Fw,↓zq,zs,ae,fA,aY,ae,hp.1]
  exact⟨fun h=>by omega,fun _=>by simp[gZ,iH]⟩
 |
  k+1,i,out,hi,ho=>by
  have hlt:i<l.length:=by omega
  refine LF _ _ _ _ _ ?_
  simp only[Fw,↓zq,zs,ae,zt,fA,gB hlt,kR,aM,gB,aY,ae,hp.1,toNat_one,bg,hp.1,hp.2.1,hp.2.2.1,hp.2.2.2]
  refine⟨fun _=>?_,fun h=>by omega⟩
  repeat refine⟨by omega,?_⟩
  refine aj (xO _ _ _) ?_
  simp only[↓zq,zs,ae,aM]
  repeat refine⟨by omega,?_⟩
  refine aj (xl [114] (E.list [.atom [112],x.cK,(l[i]).1.cK])) ?_
  simp only[↓zq,zs,ae,aM]
  repeat refine⟨by omega,?_⟩
  refine⟨⟨Ai _ _ _ _,by omega⟩,?_⟩
  rw[bx i (by omega)]
  have:=Jd va vp x y hp l hl k (i+1) (out++[((fun c=>Vl.r (.p x c)) (l[i]).1,(l[i]).2)]) (by omega) (by simp;omega)
  rw[a8,<-ph]at this
  rw[gq (fun c=>Vl.r (.p x c)) l hlt]
  exact this
theorem JA(s s2:List UInt8)(ta:ByteArray)(tp:AV)(ht:LK.sl.has tp)(va:ByteArray)(vp:AV)(hp:LK.sl.has vp)(l:List Hl)(hl:l.length<=1000000):∀(k i:Nat) (out:List Hl),i+k=l.length->out.length+k<=1000000 ->
 GN [.v (.string (mk s)),.v (.string (mk s2)),.sl (mc l),.v (.int .i64 (i:Int))] [.cells [.v (.string ta),tp],.cells [.v (.string va),vp],.vec 4 (mc out)] (gZ 1 [.v (.string (mk s)),.v (.string (mk s2))] [.cells [.v (.string ta),tp],.cells [.v (.string va),vp],.vec 4 (mc (out++iH (fun c=>Vl.f (.l c)) (l.drop i)))])
 |
  0,i,out,hi,ho=>by
  refine N6 _ _ _ _ _ _ _ _ _ ?_
  have:i=l.length:=by omega
  subst this
  simp only[FR,↓zq,zs,ae,fA,ht,aY,ae,hp]
  exact⟨fun h=>by omega,fun _=>by simp[gZ,iH]⟩
 |
  k+1,i,out,hi,ho=>by
  have hlt:i<l.length:=by omega
  refine N6 _ _ _ _ _ _ _ _ _ ?_
  simp only[FR,↓zq,zs,ae,zt,fA,gB hlt,kR,aM,gB,ht,aY,ae,hp]
  refine⟨fun _=>?_,fun h=>by omega⟩
  repeat refine⟨by omega,?_⟩
  refine aj (xl _ _) ?_
  simp only[↓zq,zs,ae,aM]
  repeat refine⟨by omega,?_⟩
  refine aj (xl [102] (E.list [.atom [108],(l[i]).1.cK])) ?_
  simp only[↓zq,zs,ae,aM]
  repeat refine⟨by omega,?_⟩
  refine⟨⟨Ai _ _ _ _,by omega⟩,?_⟩
  rw[bx i (by omega)]
  have:=JA s s2 ta tp ht va vp hp l hl k (i+1) (out++[((fun c=>Vl.f (.l c)) (l[i]).1,(l[i]).2)]) (by omega) (by simp;omega)
  rw[a8,<-ph]at this
  rw[gq (fun c=>Vl.f (.l c)) l hlt]
  exact this
theorem Kg(s:List UInt8)(L:AV)(q:Nat)(kc:Vl)(kv:Vl)(hL:LK.sl.has L)(hq:q<L.elems.length)(hg:L.elems.getD q []=[.v (.string (mk kc.cK.at)),kc.cK.sp,.v (.string (mk kv.cK.at)),kv.cK.sp])(ta:ByteArray)(tp:AV)(ht:LK.sl.has tp)(l:List Hl)(hl:l.length<=1000000):∀(k i:Nat) (out:List Hl),i+k=l.length->out.length+k<=1000000 ->
 HU [.v (.string (mk s)),L,.v (.int .i64 (q:Int)),.sl (mc l),.v (.int .i64 (i:Int))] [.cells [.v (.string ta),tp],.vec 4 (mc out)] (gZ 1 [.v (.string (mk s)),L,.v (.int .i64 (q:Int))] [.cells [.v (.string ta),tp],.vec 4 (mc (out++iH (fun c=>Vl.f (.r (.p kc c))) (l.drop i)))])
 |
  0,i,out,hi,ho=>by
  refine Mr _ _ _ _ _ _ _ _ ?_
  have:i=l.length:=by omega
  subst this
  simp only[F2,↓zq,zs,ae,fA,ht,aY,ae,hL]
  exact⟨fun h=>by omega,fun _=>by simp[gZ,iH]⟩
 |
  k+1,i,out,hi,ho=>by
  have hlt:i<l.length:=by omega
  refine Mr _ _ _ _ _ _ _ _ ?_
  simp only[F2,↓zq,zs,ae,zt,fA,gB hlt,kR,aM,gB,ht,aY,ae,hL,hg]
  refine⟨fun _=>?_,fun h=>by omega⟩
  repeat refine⟨by omega,?_⟩
  refine aj (xO _ _ _) ?_
  simp only[↓zq,zs,ae,aM]
  repeat refine⟨by omega,?_⟩
  refine aj (xl [114] (E.list [.atom [112],kc.cK,(l[i]).1.cK])) ?_
  simp only[↓zq,zs,ae,aM]
  repeat refine⟨by omega,?_⟩
  refine aj (xl [102] (E.list [.atom [114],E.list [.atom [112],kc.cK,(l[i]).1.cK]])) ?_
  simp only[↓zq,zs,ae,aM]
  repeat refine⟨by omega,?_⟩
  refine⟨⟨Ai _ _ _ _,by omega⟩,?_⟩
  rw[bx i (by omega)]
  have:=Kg s L q kc kv hL hq hg ta tp ht l hl k (i+1) (out++[((fun c=>Vl.f (.r (.p kc c))) (l[i]).1,(l[i]).2)]) (by omega) (by simp;omega)
  rw[a8,<-ph]at this
  rw[gq (fun c=>Vl.f (.r (.p kc c))) l hlt]
  exact this
theorem O9(s:List UInt8)(te:E)(a:Ty)(tg:Tg)(l:List Hl)(hl:l.length<=1000000)(ih:∀h,h∈l->an Tryz.prog 74 [.agg [.v (.string (mk te.at)),te.sp],.v (.string (mk s)),.agg [.v (.string (mk h.2.cK.at)),h.2.cK.sp]] [] (bM (.sl (mc (ck (.rc a) tg h.2))))) :
 ∀(k i:Nat) (out:List Hl),i+k=l.length->(out++(l.drop i).flatMap (AH a tg)).length<=1000000 ->
 GB [.v (.string (mk s)),.sl (mc l),.v (.int .i64 (i:Int))] [.cells [.v (.string (mk te.at)),te.sp],.vec 4 (mc out)] (gZ 1 [] [.vec 4 (mc (out++(l.drop i).flatMap (AH a tg)))])
 |
  0,i,out,hi,ho=>by
  refine Jx _ _ _ _ _ _ ?_
  have:i=l.length:=by omega
  subst this
  simp only[Gq,↓zq,zs,ae,fA,aY,ae]
  exact⟨fun h=>by omega,fun _=>by simp[gZ]⟩
 |
  k+1,i,out,hi,ho=>by
  have hlt:i<l.length:=by omega
  have hd:(l.drop i).flatMap (AH a tg)=AH a tg (l[i])++(l.drop (i+1)).flatMap (AH a tg):=by rw[aU hlt,List.flatMap_cons]
  rw[hd]at ho |-
  refine Jx _ _ _ _ _ _ ?_
  simp only[Gq,↓zq,zs,ae,zt,fA,gB hlt,kR,aM,aY,ae]
  refine⟨fun _=>?_,fun h=>by omega⟩
  repeat refine⟨by omega,?_⟩
  refine aj (ih _ (B8 l hlt)) ?_
  simp only[↓zq,zs,ae]
  have hb:out.length+(ck (.rc a) tg (l[i]).2).length<=1000000:=by
   simp only[aq,fS]at ho;omega
  have h5:=Kg s (.sl (mc l)) i (l[i]).1 (l[i]).2 ((cg _).mpr trivial) (by rw[fE,fA];omega) (by rw[fE,gB hlt]) (mk te.at) te.sp ((aY _).mpr trivial) (ck (.rc a) tg (l[i]).2) (by omega) (ck (.rc a) tg (l[i]).2).length 0 out (by omega) (by omega)
  rw[bf]at h5
  refine cA h5 ?_
  simp only[↓zq,zs,ae,aY,ae]
  repeat refine⟨by omega,?_⟩
  rw[bx i (by omega),<-a8]
  exact O9 s te a tg l hl ih k (i+1) _ (by omega) (by rw[a8];exact ho)
end Go.Proofs.Trees
namespace Go.Proofs.Trees
open Go Go.VL Go.RowKit
def kids(a:Ty):Vl->List Hl
 | .f w=>ck a (.bd 0) w
 |_=>[]
theorem nt(a:Ty)(v:Vl):kQ (kids a v)+1<=v.nodes:=by
 cases v with
 |f w=>have:=sg a (.bd 0) w;simp only[kids,Vl.nodes];omega
 |_=>simp only[kids,kQ,Vl.nodes,List.map_nil,List.sum_nil];omega
theorem yB{a:Ty}{v:Vl}{h:Hl}(hh:h∈kids a v):h.2.nodes<v.nodes:=by
 cases v with
 |f w=>have:=(iE hh).1;simp only[Vl.nodes];omega
 |_=>cases hh
theorem jT{n:Nat}{a:Ty}{v:Vl}{h:Hl}(hv:v.ij n)(hh:h∈kids a v):h.1.ij n/\h.2.ij n:=by
 cases v with
 |f w=>exact gT n _ _ _ w h hv hh
 |_=>cases hh
end Go.Proofs.Trees
namespace Go.Proofs.Trees
open Go Go.VL
mutual
def E.pr:E->Prop
 | .atom s=>s≠[]/\s.all ff=true
 | .list l=>l≠[]/\E.Bh l
def E.Bh:List E->Prop
 |[]=>True
 |e::l=>e.pr/\E.Bh l
end
mutual
def E.dp:E->Nat
 | .atom _=>0
 | .list l=>1+E.u6 l
def E.u6:List E->Nat
 |[]=>0
 |e::l=>max e.dp (E.u6 l)
end
def Jn(r:List UInt8):Prop:=∀c t,r=c::t->ff c=false
theorem uH:Jn []:=by intro c t h;cases h
theorem Cq{s r:List UInt8}(hs:s.all ff=true)(hr:Jn r):(s++r).takeWhile ff=s/\(s++r).dropWhile ff=r:=by
 induction s with
 |
  nil =>
  cases r with
  |nil=>exact⟨rfl,rfl⟩
  |cons c t=>have:=hr c t rfl;simp[List.takeWhile,List.dropWhile,this]
 |
  cons c s ih =>
  simp only[cZ,aw]at hs
  have:=ih hs.2
  simp[List.takeWhile,List.dropWhile,hs.1,this.1,this.2]
theorem vO(l:List E)(r:List UInt8):Jn (ej l++41::r):=by
 intro c t h
 cases l with
 |nil=>simp only[ej,aT,List.cons.injEq]at h;rw[<-h.1];decide
 |cons e l=>simp only[ej,bc,List.cons.injEq]at h;rw[<-h.1];decide
theorem CI{f:List UInt8->Option (E×List UInt8)}(r:List UInt8):∀(l:List E) (e:E) (acc:List E) (n:Nat),l.length<n->(∀x,x=e\/x∈l->∀r,Jn r->f (e9 x++r)=some (x,r)) ->
 sE f n (e9 e++(ej l++41::r)) acc=some (.list (acc++e::l),r)
 |l,e,acc,0,hn,hf=>by omega
 |
  [],e,acc,n+1,hn,hf=>by
  simp only[sE]
  rw[hf e (.inl rfl) _ (vO [] r)]
  simp[ej]
 |
  x::l,e,acc,n+1,hn,hf=>by
  simp only[sE]
  rw[hf e (.inl rfl) _ (vO (x::l) r)]
  simp only[aA]at hn
  have ih:=CI r l x (acc++[e]) n (by omega) (fun y hy=>hf y (.inr (by cases hy with|inl h=>rw[h];exact ak|inr h=>exact al _ h)))
  simp only[a8,bc,aT]at ih
  simp only[ej,bc,a8]
  simp[ih]
theorem Eh{l:List E}{k:Nat}:E.Bh l->E.u6 l<=k->∀x,x∈l->x.pr/\x.dp<=k:=by
 induction l with
 |nil=>intro _ _ x h;cases h
 |
  cons e l ih =>
  intro h hd x hx
  simp only[E.Bh,E.u6]at h hd
  cases hx with
  |head=>exact⟨h.1,by omega⟩
  |tail _ hx=>exact ih h.2 (by omega) x hx
theorem yo:∀(k:Nat) (e:E) (r:List UInt8),e.pr->e.dp<=k->Jn r->rd k (e9 e++r)=some (e,r)
 |
  0,.atom s,r,hp,hd,hr=>by
  have h:=Cq hp.2 hr
  simp only[e9,rd,h.1,h.2,hp.1,if_false]
 |
  k+1,.atom s,r,hp,hd,hr=>by
  have h:=Cq hp.2 hr
  simp only[e9,rd,h.1,h.2,hp.1,if_false]
 |0,.list l,r,hp,hd,hr=>by simp only[E.dp]at hd;omega
 |k+1,.list [],r,hp,hd,hr=>by exact absurd rfl hp.1
 |
  k+1,.list (e::l),r,hp,hd,hr=>by
  have hs:ff 40=false:=by decide
  simp only[E.dp,E.pr]at hd hp
  have hm:=Eh (k:=k) hp.2 (by omega)
  have:=CI (f:=rd k) r l e [] ((e9 e++(ej l++41::r)).length+1) (by have:=rZ l;simp only[aq,aA];omega)
   (fun x hx r hr=>yo k x r (hm x (by cases hx with|inl h=>rw[h];exact ak|inr h=>exact al _ h)).1 (hm x (by cases hx with|inl h=>rw[h];exact ak|inr h=>exact al _ h)).2 hr)
  simp only[e9,bc,a8,aT]at *
  simp only[rd,List.takeWhile,hs,if_true]
  simpa using this
theorem Bo{e e':E}(h:e.pr)(h':e'.pr)(ht:e9 e=e9 e'):e=e':=by
 have a:=yo (max e.dp e'.dp) e [] h (by omega) uH
 have b:=yo (max e.dp e'.dp) e' [] h' (by omega) uH
 rw[ht,b]at a;cases a;rfl
theorem Iz{e:E}(h:e.pr)(hd:e.dp<=300)(hl:(e9 e).length<=8000):rh (e9 e)=some e:=by
 have:=yo 300 e [] h hd uH
 rw[cX]at this
 rw[rh,this];simp;omega
theorem BL(s:List UInt8):(s.takeWhile ff).all ff=true:=by
 induction s with
 |nil=>rfl
 |cons c s ih =>
  cases h:ff c
  ·simp[List.takeWhile,h]
  ·simp only[List.takeWhile,h,cZ,ih];rfl
theorem CZ(l r:List E):E.Bh (l++r)↔E.Bh l/\E.Bh r:=by
 induction l with
 |nil=>simp[E.Bh]
 |cons e l ih=>simp[E.Bh,ih,and_assoc]
theorem D8(l r:List E):E.u6 (l++r)=max (E.u6 l) (E.u6 r):=by
 induction l with
 |nil=>simp[E.u6]
 |cons e l ih=>simp[E.u6,ih,Nat.max_assoc]
theorem yM{k:Nat}{f:List UInt8->Option (E×List UInt8)}(hf:∀s e r,f s=some (e,r)->s=e9 e++r/\e.pr/\e.dp<=k):∀(n:Nat) (s:List UInt8) (acc:List E) (e:E) (r:List UInt8),sE f n s acc=some (e,r)->E.Bh acc->E.u6 acc<=k ->
 ∃l,e=.list (acc++l)/\l≠[]/\32::s=ej l++41::r/\E.Bh l/\E.u6 l<=k
 |0,s,acc,e,r,h,hp,hd=>by cases h
 |
  n+1,s,acc,e,r,h,hp,hd=>by
  simp only[sE]at h
  split at h
  ·rename_i p c r' hs
   obtain⟨h1,h2,h3⟩:=hf _ _ _ hs
   split at h
   ·rename_i hc
    have hc:c=41:=UInt8.toNat_inj.mp hc
    cases h
    exact⟨[p],rfl,by simp,by simp[ej,h1,hc],⟨h2,trivial⟩,by simp[E.u6];omega⟩
   ·split at h
    ·rename_i hc
     have hc:c=32:=UInt8.toNat_inj.mp hc
     obtain⟨l,g1,g2,g3,g4,g5⟩:=yM hf n _ _ _ _ h ((CZ _ _).mpr ⟨hp,h2,trivial⟩) (by rw[D8];simp[E.u6];omega)
     refine⟨p::l,by simpa using g1,by simp,?_,⟨h2,g4⟩,by simp only[E.u6];omega⟩
     rw[h1,hc,g3];simp[ej]
    ·cases h
  ·cases h
theorem BN:∀(k:Nat) (s:List UInt8) (e:E) (r:List UInt8),rd k s=some (e,r)->s=e9 e++r/\e.pr/\e.dp<=k
 |
  0,s,e,r,h=>by
  simp only[rd]at h
  split at h
  ·cases h
  ·rename_i hs;cases h
   exact⟨(List.takeWhile_append_dropWhile).symm,⟨hs,BL s⟩,au _⟩
 |
  k+1,s,e,r,h=>by
  simp only[rd]at h
  split at h
  ·split at h
   ·rename_i c r' _
    split at h
    ·rename_i hc
     have hc:c=40:=UInt8.toNat_inj.mp hc
     obtain⟨l,g1,g2,g3,g4,g5⟩:=yM (k:=k) (fun s e r h=>BN k s e r h) _ _ _ _ _ h trivial (dQ _)
     simp only[aT]at g1
     subst g1;subst hc
     refine⟨?_,⟨g2,g4⟩,by simp only[E.dp];omega⟩
     cases l with
     |nil=>exact absurd rfl g2
     |
      cons x l =>
      simp only[ej,bc,a8,List.cons.injEq,true_and]at g3
      rw[g3];simp[e9]
    ·cases h
   ·cases h
  ·rename_i hs;cases h
   exact⟨(List.takeWhile_append_dropWhile).symm,⟨hs,BL s⟩,by simp[E.dp]⟩
theorem yr{s:List UInt8}{e:E}(h:rh s=some e):s=e9 e/\e.pr/\e.dp<=300/\s.length<=8000:=by
 unfold rh at h
 split at h
 ·cases h
 ·rename_i hl
  split at h
  ·rename_i e' hr
   cases h
   have:=BN _ _ _ _ hr
   exact⟨by simpa using this.1,this.2.1,this.2.2,by omega⟩
  ·cases h
theorem BG{k:Nat}(h:k<10):ff (bj (48+k))=true:=by
 have:∀k:Fin 10,ff (bj (48+k.val))=true:=by decide
 exact this ⟨k,h⟩
theorem xi:∀(n k:Nat),k<n->(dd k).all ff=true
 |0,k,h=>by omega
 |
  n+1,k,h=>by
  by_cases hk:k<10
  ·rw[eH hk,cZ,BG hk];rfl
  ·rw[fQ hk]
   have:=xi n (k/10) (by omega)
   rw[List.all_append,this,cZ,BG (Nat.mod_lt k (by omega:0<10))];rfl
theorem Fe(k:Nat):(E.atom (wI k)).pr:=⟨by simp,by have:=xi (k+1) k (by omega);simp only[wI,cZ,this];decide⟩
theorem mN:∀v:Vl,v.cK.pr
 | .u=>⟨by simp,by decide⟩
 | .el k=>Fe k
 | .l v=>⟨by simp,⟨by simp,by decide⟩,mN v,trivial⟩
 | .r v=>⟨by simp,⟨by simp,by decide⟩,mN v,trivial⟩
 | .f v=>⟨by simp,⟨by simp,by decide⟩,mN v,trivial⟩
 | .p a b=>⟨by simp,⟨by simp,by decide⟩,mN a,mN b,trivial⟩
theorem p9:∀v:Vl,v.cK.dp<v.nodes+1
 | .u=>by simp[Vl.cK,E.dp,Vl.nodes]
 | .el k=>by simp[Vl.cK,E.dp,Vl.nodes]
 | .l v=>by have:=p9 v;simp only[Vl.cK,E.dp,E.u6,Vl.nodes]at *;omega
 | .r v=>by have:=p9 v;simp only[Vl.cK,E.dp,E.u6,Vl.nodes]at *;omega
 | .f v=>by have:=p9 v;simp only[Vl.cK,E.dp,E.u6,Vl.nodes]at *;omega
 | .p a b=>by have:=p9 a;have:=p9 b;simp only[Vl.cK,E.dp,E.u6,Vl.nodes]at *;omega
theorem DD(k:Nat)(h:k<100):(dd k).length<=2:=by
 by_cases hk:k<10
 ·rw[eH hk];simp
 ·rw[fQ hk,eH (by omega:k/10<10)];simp
theorem kZ:∀v:Vl,v.ij 100->v.cF.length<=5*v.nodes
 | .u,_=>by simp[Vl.cF,Vl.cK,e9,Vl.nodes]
 |
  .el k,h=>by
  have:=DD k h
  simp only[Vl.cF,Vl.cK,e9,Vl.nodes,aA];omega
 | .l v,h=>by have:=kZ v h;simp only[Vl.cF,Vl.cK,e9,ej,Vl.nodes,aA,aq,aG]at this |-;omega
 | .r v,h=>by have:=kZ v h;simp only[Vl.cF,Vl.cK,e9,ej,Vl.nodes,aA,aq,aG]at this |-;omega
 | .f v,h=>by have:=kZ v h;simp only[Vl.cF,Vl.cK,e9,ej,Vl.nodes,aA,aq,aG]at this |-;omega
 | .p a b,h=>by have:=kZ a h.1;have:=kZ b h.2;simp only[Vl.cF,Vl.cK,e9,ej,Vl.nodes,aA,aq,aG]at *;omega
theorem Hv(k:Nat):wI k≠[117]:=by simp[wI]
theorem ke:∀v:Vl,v.ij 100->fN v.cK=some v
 | .u,_=>by simp[Vl.cK,fN]
 | .el k,h=>by simp only[Vl.cK,fN,Hv,if_false,vS k h]
 | .l v,h=>by simp only[Vl.cK,fN,ke v h,E.at];simp
 | .r v,h=>by simp only[Vl.cK,fN,ke v h,E.at];simp
 | .f v,h=>by simp only[Vl.cK,fN,ke v h,E.at];simp
 | .p a b,h=>by simp only[Vl.cK,fN,ke a h.1,ke b h.2,E.at];simp
theorem qN{v:Vl}(h:v.ij 100)(hn:v.nodes<=200):sD v.cF=some v:=by
 have hd:=p9 v
 have hl:=kZ v h
 rw[sD,Iz (mN v) (by omega) (by show v.cF.length<=8000;omega)]
 simp only[ke v h]
 rw[if_neg (by omega)]
theorem uj{v w:Vl}(h:v.ij 100)(h':w.ij 100)(ht:v.cF=w.cF):v=w:=by
 have:=Bo (mN v) (mN w) ht
 have a:=ke v h
 rw[this,ke w h']at a;cases a;rfl
theorem qY{s:List UInt8}{v:Vl}(h:sD s=some v):s=v.cF:=(yr (lD h).1).1
end Go.Proofs.Trees
namespace Go.Proofs.Trees
open Go Go.VL Go.RowKit
theorem bN(l:List E):(E.list l).at=[]:=rfl
def cW:Ty->Vl->Vl->Vl
 | .plus a _,.l c,v=>.l (cW a c v)
 | .plus _ b,.r c,v=>.r (cW b c v)
 | .times a _,.l (.p x y),v=>.p (cW a x v) y
 | .times _ b,.r (.p x y),v=>.p x (cW b y v)
 | .rc a,.f (.l x),v=>.f (cW a x v)
 | .rc a,.f (.r (.p x y)),v=>.f (cW a x (cW (.rc a) y v))
 |_,_,v=>v
def dL:Ty->Vl->Bool
 | .plus a _,.l c=>dL a c
 | .plus _ b,.r c=>dL b c
 | .times a _,.l (.p x _)=>dL a x
 | .times _ b,.r (.p _ y)=>dL b y
 | .rc a,.f (.l x)=>dL a x
 | .rc a,.f (.r (.p x y))=>dL a x&&dL (.rc a) y
 | .plus _ _,_=>false
 | .times _ _,_=>false
 | .rc _,_=>false
 |_,_=>true
theorem tf(c v:Vl):cW .zero c v=v:=by cases c<;>rfl
theorem vD(c v:Vl):cW .one c v=v:=by cases c<;>rfl
theorem kP(s:List UInt8)(c v:Vl):cW (.name s) c v=v:=by cases c<;>rfl
theorem rK(u:Nat)(c v:Vl):cW (.bound u) c v=v:=by cases c<;>rfl
theorem vG{a b:Ty}{c:Vl}(h:dL (.plus a b) c=true):(∃x,c=.l x/\dL a x=true)\/∃x,c=.r x/\dL b x=true:=by
 cases c<;>simp[dL]at h<;>simp[h]
theorem tI{a b:Ty}{c:Vl}(h:dL (.times a b) c=true):(∃x y,c=.l (.p x y)/\dL a x=true)\/∃x y,c=.r (.p x y)/\dL b y=true:=by
 cases c with
 |l c=>cases c<;>simp[dL]at h<;>simp[h]
 |r c=>cases c<;>simp[dL]at h<;>exact .inr ⟨_,_,rfl,h⟩
 |_=>simp[dL]at h
theorem Bp{a:Ty}{c:Vl}(h:dL (.rc a) c=true):(∃x,c=.f (.l x)/\dL a x=true)\/∃x y,c=.f (.r (.p x y))/\dL a x=true/\dL (.rc a) y=true:=by
 cases c with
 |
  f c =>
  cases c with
  |l c=>simp[dL]at h;simp[h]
  |r c=>cases c<;>simp[dL]at h<;>exact .inr ⟨_,_,rfl,h⟩
  |_=>simp[dL]at h
 |_=>simp[dL]at h
theorem rX(t:Ty)(c v:Vl):(cW t c v).nodes<=c.nodes+v.nodes:=by
 induction t,c,v using cW.induct<;>simp only[cW,Vl.nodes]at*<;> omega
theorem rV(m:Nat)(t:Ty)(c v:Vl):c.ij m->v.ij m->(cW t c v).ij m:=by
 induction t,c,v using cW.induct with
 |case1 a b c v ih=>exact fun h h'=>ih h h'
 |case2 a b c v ih=>exact fun h h'=>ih h h'
 |case3 a b x y v ih=>exact fun h h'=>⟨ih h.1 h',h.2⟩
 |case4 a b x y v ih=>exact fun h h'=>⟨h.1,ih h.2 h'⟩
 |case5 a x v ih=>exact fun h h'=>ih h h'
 |case6 a x y v ih1 ih2=>exact fun h h'=>ih2 h.1 (ih1 h.2 h')
 |case7=>intro h h';simpa only[cW]using h'
def IQ:Hl:=(.u,.u)
end Go.Proofs.Trees
namespace Go.Proofs.Trees
open Go Go.VL Go.RowKit
theorem oe(s:Nm)(a b:E):an Tryz.prog 86 [.agg [.v (.string (mk [])),(E.list [.atom s,a,b]).sp]] [] (bM (.v (.string (mk s)))):=vf (.atom s) [a,b]
theorem DL{e:E}(h:Wf e):∀(bd l:List Nm) (a:AV),cm a bd->bd.length+l.length+e.sz<100000->an Tryz.prog 84 [.agg [.v (.string (mk e.at)),e.sp],a,.vec 0] [.vec 1 (bE l)] (df (.vec 1) [.dead,.vec 1 (bE (kf e bd l))]):=by
 induction h with
 |
  @atom s hs =>
  intro bd l a ha hl
  simp only[E.sz]at hl
  refine zx _ _ _ _ ((aY _).mpr trivial) ha.1 ?_
  have hll:(bE l).length=l.length:=by simp[bE]
  simp only[w9,dT,↓zq,zs,ae,zt,df,kf]
  refine⟨fun _=>⟨fun h=>?_,fun h=>⟨fun h1=>?_,fun h1=>?_⟩⟩,fun h=>absurd h hs⟩
  ·rw[if_pos (.inl h)]
  ·rw[if_pos (.inr (.inl h1))]
  ·refine aj (xD bd a ha s (by omega)) ?_
   simp only[↓zq,zs,ae]
   refine⟨fun h2=>?_,fun h2=>aj (xD l _ (.of l) s (by omega)) ?_⟩
   ·rw[if_pos (.inr (.inr (.inl h2)))]
   ·simp only[↓zq,zs,ae]
    refine⟨fun h3=>?_,fun h3=>⟨⟨fun c hc=>(by simp at hc;rw[hc];rfl),by omega⟩,?_⟩⟩
    ·rw[if_pos (.inr (.inr (.inr h3)))]
    ·rw[E2,if_neg]
     rintro(q|q|q|q)
     ·exact h q
     ·exact h1 q
     ·exact h2 q
     ·exact h3 q
 |
  @plus x y hx hy i1 i2 =>
  intro bd l a ha hl
  simp only[E.sz,E.jm]at hl
  have hfl:=gd x bd l
  refine zx _ _ _ _ ((aY _).mpr trivial) ha.1 ?_
  have hP:=P3.of (.atom [43]) x y
  simp only[w9,bN,toNat_one,bg,↓zq,zs,ae,zt,hP.1,hP.2.1,hP.2.2.1,hP.2.2.2,aM,df]
  refine⟨fun h=>absurd rfl h,fun _=>?_⟩
  refine aj (oe [43] x y) ?_
  simp only[↓zq,zs,ae,zt]
  refine⟨fun h=>by simp at h,fun _=>?_⟩
  repeat refine⟨by omega,?_⟩
  refine aV (i1 bd l a ha (by omega)) ?_
  simp only[↓zq,zs,ae,zt,aJ,bu,Ob.es]
  repeat refine⟨by omega,?_⟩
  refine aV (i2 bd (kf x bd l) a ha (by omega)) ?_
  simp only[↓zq,zs,ae,zt,aJ,bu,Ob.es]
  rw[kf,if_neg (by decide)]
 |
  @times x y hx hy i1 i2 =>
  intro bd l a ha hl
  simp only[E.sz,E.jm]at hl
  have hfl:=gd x bd l
  refine zx _ _ _ _ ((aY _).mpr trivial) ha.1 ?_
  have hP:=P3.of (.atom [42]) x y
  simp only[w9,bN,toNat_one,bg,↓zq,zs,ae,zt,hP.1,hP.2.1,hP.2.2.1,hP.2.2.2,aM,df]
  refine⟨fun h=>absurd rfl h,fun _=>?_⟩
  refine aj (oe [42] x y) ?_
  simp only[↓zq,zs,ae,zt]
  refine⟨fun h=>by simp at h,fun _=>?_⟩
  repeat refine⟨by omega,?_⟩
  refine aV (i1 bd l a ha (by omega)) ?_
  simp only[↓zq,zs,ae,zt,aJ,bu,Ob.es]
  repeat refine⟨by omega,?_⟩
  refine aV (i2 bd (kf x bd l) a ha (by omega)) ?_
  simp only[↓zq,zs,ae,zt,aJ,bu,Ob.es]
  rw[kf,if_neg (by decide)]
 |
  @rc n y hn hy i =>
  intro bd l a ha hl
  simp only[E.sz,E.jm]at hl
  refine zx _ _ _ _ ((aY _).mpr trivial) ha.1 ?_
  have hP:=P3.of (.atom dE) (.atom n) y
  simp only[w9,bN,toNat_one,bg,↓zq,zs,ae,zt,hP.1,hP.2.1,hP.2.2.1,hP.2.2.2,aM,df]
  refine⟨fun h=>absurd rfl h,fun _=>?_⟩
  refine aj (oe dE (.atom n) y) ?_
  simp only[↓zq,zs,ae,zt]
  refine⟨fun _=>?_,fun h=>absurd rfl h⟩
  repeat refine⟨by omega,?_⟩
  refine aV (wZ bd a ha n (by omega)) ?_
  simp only[↓zq,zs,ae,Ob.es,aJ]
  refine⟨dJ _,?_⟩
  refine aV (i (bd++[n]) l _ (.of _) (by simp;omega)) ?_
  simp only[↓zq,zs,ae,aJ,bu,Ob.es]
  rw[kf,if_pos (dT _)];rfl
theorem PJ(x:Nm)(u:E){e:E}(h:Wf e):an Tryz.prog 146 [.agg [.v (.string (mk e.at)),e.sp],.v (.string (mk x)),.agg [.v (.string (mk u.at)),u.sp]] [] (bM (.agg [.v (.string (mk (rl x u e).at)),(rl x u e).sp])):=by
 induction h with
 |
  @atom s hs =>
  refine C4 _ _ _ _ _ ((aY _).mpr trivial) ((aY _).mpr trivial) ?_
  simp only[Ch,dT,↓zq,zs,ae,zt,bM,rl]
  refine⟨fun _=>⟨fun h=>?_,fun h=>?_⟩,fun h=>absurd h hs⟩
  ·rw[if_pos h]
  ·rw[if_neg h];rfl
 |
  @plus a b ha hb i1 i2 =>
  refine C4 _ _ _ _ _ ((aY _).mpr trivial) ((aY _).mpr trivial) ?_
  have hP:=P3.of (.atom [43]) a b
  simp only[Ch,bN,toNat_one,bg,↓zq,zs,ae,zt,hP.1,hP.2.1,hP.2.2.1,hP.2.2.2,aM]
  refine⟨fun h=>absurd rfl h,fun _=>?_⟩
  refine aj (oe [43] a b) ?_
  simp only[↓zq,zs,ae,zt]
  refine⟨fun h=>by simp at h,fun _=>?_⟩
  refine aj (oe [43] a b) ?_
  simp only[↓zq,zs,ae,zt]
  repeat refine⟨by omega,?_⟩
  refine aj i1 ?_
  simp only[↓zq,zs,ae,zt,aM]
  repeat refine⟨by omega,?_⟩
  refine aj i2 ?_
  simp only[↓zq,zs,ae,zt,aM]
  repeat refine⟨by omega,?_⟩
  refine aj (xO _ _ _) ?_
  simp only[↓zq,zs,ae,zt,aM,vt,bN]
  repeat refine⟨by omega,?_⟩
  exact⟨rfl,rfl⟩
 |
  @times a b ha hb i1 i2 =>
  refine C4 _ _ _ _ _ ((aY _).mpr trivial) ((aY _).mpr trivial) ?_
  have hP:=P3.of (.atom [42]) a b
  simp only[Ch,bN,toNat_one,bg,↓zq,zs,ae,zt,hP.1,hP.2.1,hP.2.2.1,hP.2.2.2,aM]
  refine⟨fun h=>absurd rfl h,fun _=>?_⟩
  refine aj (oe [42] a b) ?_
  simp only[↓zq,zs,ae,zt]
  refine⟨fun h=>by simp at h,fun _=>?_⟩
  refine aj (oe [42] a b) ?_
  simp only[↓zq,zs,ae,zt]
  repeat refine⟨by omega,?_⟩
  refine aj i1 ?_
  simp only[↓zq,zs,ae,zt,aM]
  repeat refine⟨by omega,?_⟩
  refine aj i2 ?_
  simp only[↓zq,zs,ae,zt,aM]
  repeat refine⟨by omega,?_⟩
  refine aj (xO _ _ _) ?_
  simp only[↓zq,zs,ae,zt,aM,sV,bN]
  repeat refine⟨by omega,?_⟩
  exact⟨rfl,rfl⟩
 |
  @rc n b hn hb i =>
  refine C4 _ _ _ _ _ ((aY _).mpr trivial) ((aY _).mpr trivial) ?_
  have hP:=P3.of (.atom dE) (.atom n) b
  simp only[Ch,bN,toNat_one,bg,↓zq,zs,ae,zt,hP.1,hP.2.1,hP.2.2.1,hP.2.2.2,aM]
  refine⟨fun h=>absurd rfl h,fun _=>?_⟩
  refine aj (oe dE (.atom n) b) ?_
  simp only[↓zq,zs,ae,zt]
  refine⟨fun _=>?_,fun h=>absurd rfl h⟩
  repeat refine⟨by omega,?_⟩
  rw[Bz]
  refine⟨fun h=>?_,fun h=>?_⟩
  ·have hh:n=x:=h
   rw[if_pos hh];exact⟨rfl,rfl⟩
  ·have hh:¬n=x:=h
   rw[if_neg hh]
   repeat refine⟨by omega,?_⟩
   refine aj i ?_
   simp only[↓zq,zs,ae,zt,aM]
   repeat refine⟨by omega,?_⟩
   refine aj (xO dE (.atom n) (rl x u b)) ?_
   simp only[↓zq,zs,ae,zt,aM,bN]
   repeat refine⟨by omega,?_⟩
   exact⟨rfl,rfl⟩
theorem sk(x:Nm){e:E}(h:Wf e):nh x e<=e.db:=by
 induction h with
 |atom hs=>simp only[nh,E.db];split<;>omega
 |plus ha hb i1 i2=>rw[sd];simp only[E.db,E.eZ];omega
 |times ha hb i1 i2=>rw[p7];simp only[E.db,E.eZ];omega
 |rc hn hb i=>rw[xA];simp only[E.db,E.eZ];split<;>omega
theorem S5(x:Nm){e:E}(h:Wf e):e.db<1000000->an Tryz.prog 145 [.agg [.v (.string (mk e.at)),e.sp],.v (.string (mk x))] [] (bM (.v (.int .i64 (nh x e:Int)))):=by
 induction h with
 |
  @atom s hs =>
  intro hl
  refine Dn _ _ _ ((aY _).mpr trivial) ?_
  simp only[A8,dT,↓zq,zs,ae,zt,bM,nh]
  refine⟨fun _=>⟨fun h=>?_,fun h=>?_⟩,fun h=>absurd h hs⟩
  ·rw[if_pos h];rfl
  ·rw[if_neg h];rfl
 |
  @plus a b ha hb i1 i2 =>
  intro hl
  simp only[E.db,E.eZ]at hl
  have u1:=sk x ha
  have u2:=sk x hb
  refine Dn _ _ _ ((aY _).mpr trivial) ?_
  have hP:=P3.of (.atom [43]) a b
  simp only[A8,bN,toNat_one,bg,↓zq,zs,ae,zt,hP.1,hP.2.1,hP.2.2.1,hP.2.2.2,aM]
  refine⟨fun h=>absurd rfl h,fun _=>?_⟩
  refine aj (oe [43] a b) ?_
  simp only[↓zq,zs,ae,zt]
  refine⟨fun h=>by simp at h,fun _=>?_⟩
  repeat refine⟨by omega,?_⟩
  refine aj (i1 (by omega)) ?_
  simp only[↓zq,zs,ae,zt]
  repeat refine⟨by omega,?_⟩
  refine aj (i2 (by omega)) ?_
  simp only[↓zq,zs,ae,zt]
  rw[sd,wrap64 _ (by omega) (by omega)]
  exact⟨by simp,rfl⟩
 |
  @times a b ha hb i1 i2 =>
  intro hl
  simp only[E.db,E.eZ]at hl
  have u1:=sk x ha
  have u2:=sk x hb
  refine Dn _ _ _ ((aY _).mpr trivial) ?_
  have hP:=P3.of (.atom [42]) a b
  simp only[A8,bN,toNat_one,bg,↓zq,zs,ae,zt,hP.1,hP.2.1,hP.2.2.1,hP.2.2.2,aM]
  refine⟨fun h=>absurd rfl h,fun _=>?_⟩
  refine aj (oe [42] a b) ?_
  simp only[↓zq,zs,ae,zt]
  refine⟨fun h=>by simp at h,fun _=>?_⟩
  repeat refine⟨by omega,?_⟩
  refine aj (i1 (by omega)) ?_
  simp only[↓zq,zs,ae,zt]
  repeat refine⟨by omega,?_⟩
  refine aj (i2 (by omega)) ?_
  simp only[↓zq,zs,ae,zt]
  rw[p7,wrap64 _ (by omega) (by omega)]
  exact⟨by simp,rfl⟩
 |
  @rc n b hn hb i =>
  intro hl
  simp only[E.db,E.eZ]at hl
  refine Dn _ _ _ ((aY _).mpr trivial) ?_
  have hP:=P3.of (.atom dE) (.atom n) b
  simp only[A8,bN,toNat_one,bg,↓zq,zs,ae,zt,hP.1,hP.2.1,hP.2.2.1,hP.2.2.2,aM]
  refine⟨fun h=>absurd rfl h,fun _=>?_⟩
  refine aj (oe dE (.atom n) b) ?_
  simp only[↓zq,zs,ae,zt]
  refine⟨fun _=>?_,fun h=>absurd rfl h⟩
  repeat refine⟨by omega,?_⟩
  rw[xA]
  refine⟨fun h=>?_,fun h=>?_⟩
  ·have hh:n=x:=h
   rw[if_pos hh];exact⟨rfl,rfl⟩
  ·have hh:¬n=x:=h
   rw[if_neg hh]
   repeat refine⟨by omega,?_⟩
   refine aj (i (by omega)) ?_
   simp only[↓zq,zs,ae,zt]
   exact⟨rfl,rfl⟩
theorem KQ{x:Nm}(hx:qR x){e u:E}(h:Wf e)(hu:Wf u)(hl:e.db<=1000)(hlu:u.db<=1000):an Tryz.prog 120 [.agg [.v (.string (mk e.at)),e.sp],.v (.string (mk x)),.agg [.v (.string (mk u.at)),u.sp]] [] (bM (.v (.bool (decide ((sub x (cR u []) (cR e [])).atoms<=400))))):=by
 refine Rv _ _ _ _ _ ((aY _).mpr trivial) ((aY _).mpr trivial) ?_
 unfold Lc
 have a1:=Dk e h.ok (by have:=h.sz;omega)
 have a2:=Dk u hu.ok (by have:=hu.sz;omega)
 rw[dj]at a1 a2
 have hle:=sk x h
 have hpos:1<=u.db:=by rw[hu.db []];exact eu _
 refine aj a1 ?_
 simp only[↓zq,zs,ae,zt]
 refine aj (S5 x h (by omega)) ?_
 simp only[↓zq,zs,ae,zt]
 refine aj a2 ?_
 simp only[↓zq,zs,ae,zt]
 have e1:=dW x (cR u []) (cR e [])
 have e2:=Dw hx h []
 rw[if_neg (by simp)]at e2
 rw[e2,<-h.db [],<-hu.db []]at e1
 have hm:nh x e*(u.db-1)<=1000*1000:=Nat.mul_le_mul (by omega) (by omega)
 have e3:(nh x e:Int)*((u.db:Int)-1)=((nh x e*(u.db-1):Nat):Int):=by
  rw[Int.natCast_mul];congr 1;omega
 have e4:nh x e*(u.db-1)+nh x e=nh x e*u.db:=by
  rw[Nat.mul_sub,dG]
  have:=Nat.le_mul_of_pos_right (nh x e) hpos
  omega
 rw[wrap64 ((u.db:Int)-1) (by omega) (by omega),e3,wrap64 ((nh x e*(u.db-1):Nat):Int) (by omega) (by omega),wrap64 _ (by omega) (by omega)]
 refine⟨?_,rfl⟩
 congr 2
 rw[cy,decide_eq_true_eq,decide_eq_true_eq]
 omega
end Go.Proofs.Trees
namespace Go.Proofs.Trees
open Go Go.VL Go.RowKit
abbrev yx:AV:=.v (.slice none 0 0)
abbrev zE:Ob:=.cells [.v (.string (mk [])),yx]
theorem Np(s:Nm)(p a b:AV)(hp:LK.sl.has p)(F fr to:List Nm)(k:Int)(ha:cm a fr)(hb:cm b to)(hft:fr.length=to.length)(hl:fr.length<1000000):∀(i:Nat),i<=fr.length ->
 H8 [a,b,.v (.int .i64 ((i:Int)-1))] [.cells [.v (.string (mk s)),p],zE,.cells [.any,.v (.int .i64 k)],.vec 1 (bE F)]
  (nH (match bR s fr i with|some u=>(2,[],[.cells [.v (.string (mk (gk to u))),yx],.cells [.any,.v (.int .i64 k)],.vec 1 (bE F)])|none=>(1,[],[.cells [.v (.string (mk s)),p],zE,.cells [.any,.v (.int .i64 k)],.vec 1 (bE F)])))
 |
  0,hi=>by
  refine L4 _ _ _ _ _ _ _ _ _ ?_
  simp only[F5,↓zq,zs,ae,ae,hp,bh]
  exact⟨ha.1,hb.1,fun h=>by omega,fun _=>rfl⟩
 |
  i+1,hi=>by
  have hlt:i<fr.length:=by omega
  have hlt':i<to.length:=by omega
  have e1:((i+1:Nat):Int)-1=(i:Int):=by omega
  rw[e1]
  refine L4 _ _ _ _ _ _ _ _ _ ?_
  simp only[F5,↓zq,zs,ae,zt,ae,hp,bh,ha.len,hb.len,ha.idx hlt,hb.idx hlt',bH]
  refine⟨ha.1,hb.1,fun _=>⟨⟨ha.1,by omega,by omega⟩,by omega,fun h=>?_,fun h=>?_⟩,fun h=>by omega⟩
  ·refine⟨⟨hb.1,by omega,by omega⟩,by omega,?_⟩
   have hh:fr.getD i []=s:=h
   simp only[bR,hh,if_true,nH]
   have:gk to (fr.length-1-i)=to.getD i []:=by unfold gk;congr 1;omega
   rw[this]
  ·have hh:¬fr.getD i []=s:=h
   simp only[bR,hh,if_false]
   rw[wrap64 _ (by omega) (by omega)]
   exact Np s p a b hp F fr to k ha hb hft hl i (by omega)
theorem Nh(a b:AV)(ha:LK.sl.has a)(hb:LK.sl.has b)(F:List Nm)(hF:F.length<100000)(t:ByteArray)(p:AV)(hp:LK.sl.has p):∀(n j:Nat),qd F n j<j+n->j+n<100000000 ->
 Ij [a,b,.v (.string (mk (tN j)))] [.cells [.any,.v (.int .i64 (j:Int))],.vec 1 (bE F),.cells [.v (.string t),p],zE] (gZ 1 [a,b,.v (.string (mk (tN (qd F n j))))] [.cells [.any,.v (.int .i64 (qd F n j:Int))],.vec 1 (bE F),.cells [.v (.string t),p],zE])
 |0,j,h,_=>by simp only[qd]at h;omega
 |
  n+1,j,h,hj=>by
  refine Rs _ _ _ _ _ _ _ _ _ ?_
  simp only[NX,↓zq,zs,ae,zt,ae,hp,bh]
  refine⟨ha,hb,?_⟩
  refine aj (xD F _ (.of F) (tN j) (by omega)) ?_
  simp only[↓zq,zs,ae,zt]
  rw[qd]at h |-
  refine⟨fun hm=>?_,fun hm=>?_⟩
  ·rw[if_pos hm]at h |-
   rw[bx j (by omega)]
   refine aj (zC (j+2) (j+1) (by omega) (by omega)) ?_
   have hd:=mQ (j+2) (j+1) (by omega)
   simp only[↓zq,zs,ae,zt,bc,aT]
   refine⟨by simp[cM];omega,?_⟩
   exact Nh a b ha hb F hF t p hp n (j+1) (by omega) (by omega)
  ·rw[if_neg hm]
   exact⟨rfl,rfl,rfl⟩
theorem il(F:List Nm):∀(t:Ty) (to:List Nm) (k:Nat),k<=(gY F t to k).2/\(gY F t to k).2<=k+(F.length+1)*t.atoms
 | .zero,_,k=>⟨au _,da _ _⟩
 | .one,_,k=>⟨au _,da _ _⟩
 | .name _,_,k=>⟨au _,da _ _⟩
 | .bound _,_,k=>⟨au _,da _ _⟩
 |
  .plus a b,to,k=>by
  have h1:=il F a to k
  have h2:=il F b to (gY F a to k).2
  simp only[gY,Ty.atoms]
  have:(F.length+1)*(1+a.atoms+b.atoms)=(F.length+1)+(F.length+1)*a.atoms+(F.length+1)*b.atoms:=by simp only[cT,dG]
  omega
 |
  .times a b,to,k=>by
  have h1:=il F a to k
  have h2:=il F b to (gY F a to k).2
  simp only[gY,Ty.atoms]
  have:(F.length+1)*(1+a.atoms+b.atoms)=(F.length+1)+(F.length+1)*a.atoms+(F.length+1)*b.atoms:=by simp only[cT,dG]
  omega
 |
  .rc a,to,k=>by
  obtain⟨g1,g2,_,_⟩:=gv F k
  have h1:=il F a (to++[tN (nx F k)]) (nx F k+1)
  simp only[gY,Ty.atoms]
  have:(F.length+1)*(2+a.atoms)=(F.length+1)*2+(F.length+1)*a.atoms:=by simp only[cT]
  omega
theorem kl(l:List Nm):(bE l).length=l.length:=by simp[bE]
theorem Rb(F:List Nm)(hF:F.length<10000){e:E}(h:Wf e):∀(fr to:List Nm) (a b:AV) (k:Nat),cm a fr->cm b to->fr.length=to.length->(∀w,w∈fr->qR w)->fr.length+e.sz<10000->k+(F.length+1)*(cR e fr).atoms<99000000 ->
 an Tryz.prog 91 [.agg [.v (.string (mk e.at)),e.sp],a,b,.ref 0 0] [.cells [.vec 1,.v (.int .i64 (k:Int))],.vec 1 (bE F)] (df (.agg [.v (.string (mk (gY F (cR e fr) to k).1.at)),(gY F (cR e fr) to k).1.sp]) [.cells [.vec 1,.v (.int .i64 ((gY F (cR e fr) to k).2:Int))],.vec 1 (bE F)]):=by
 induction h with
 |
  @atom s hs =>
  intro fr to a b k ha hb hft hfr hl hk
  simp only[E.sz]at hl
  refine D9 _ _ _ _ _ _ ((aY _).mpr trivial) ha.1 hb.1 ?_
  have hz:∀c,(c=[48]\/c=[49])->bR c fr fr.length=none:=fun c hc=>(fu c fr).2 fun hm=>by
   obtain⟨h1,h2,h3⟩:=hfr c hm
   rcases hc with rfl|rfl
   ·exact h2 rfl
   ·exact h3 rfl
  have hq:gY F (cR (.atom s) fr) to k=(match bR s fr fr.length with|some u=>.atom (gk to u)|none=>.atom s,k):=by
   simp only[cR]
   by_cases h0:s=[48]
   ·rw[if_pos h0,hz s (.inl h0),h0];rfl
   ·rw[if_neg h0]
    by_cases h1:s=[49]
    ·rw[if_pos h1,hz s (.inr h1),h1];rfl
    ·rw[if_neg h1]
     cases bR s fr fr.length<;>rfl
  simp only[Bf,dT,↓zq,zs,ae,zt]
  refine⟨fun _=>⟨ha.1,?_⟩,fun h=>absurd h hs⟩
  rw[ha.len,wrap64 _ (by omega) (by omega)]
  refine fj (Np s _ a b ((aY _).mpr trivial) F fr to (k:Int) ha hb hft (by omega) fr.length (au _)) (fun ys o e=>?_) (fun ys o e=>?_)
  ·rw[hq]
   cases q:bR s fr fr.length<;>rw[q]at e<;>cases e
   simp only[↓zq,zs,ae,zt,ae,aI,bh,aY]
   exact⟨rfl,rfl⟩
  ·rw[hq]
   cases q:bR s fr fr.length<;>rw[q]at e<;>cases e
   simp only[↓zq,zs,ae,zt,ae,aI,bh]
   exact⟨rfl,rfl⟩
 |
  @plus x y hx hy i1 i2 =>
  intro fr to a b k ha hb hft hfr hl hk
  simp only[E.sz,E.jm]at hl
  rw[dM]at hk |-
  simp only[Ty.atoms]at hk
  have hm:(F.length+1)*(1+(cR x fr).atoms+(cR y fr).atoms)=(F.length+1)+(F.length+1)*(cR x fr).atoms+(F.length+1)*(cR y fr).atoms:=by simp only[cT,dG]
  have hc:=il F (cR x fr) to k
  refine D9 _ _ _ _ _ _ ((aY _).mpr trivial) ha.1 hb.1 ?_
  have hP:=P3.of (.atom [43]) x y
  simp only[Bf,bN,toNat_one,bg,↓zq,zs,ae,zt,hP.1,hP.2.1,hP.2.2.1,hP.2.2.2,aM]
  refine⟨fun h=>absurd rfl h,fun _=>?_⟩
  refine aj (oe [43] x y) ?_
  simp only[↓zq,zs,ae,zt]
  refine⟨fun h=>by simp at h,fun _=>?_⟩
  repeat refine⟨by omega,?_⟩
  refine aV (i1 fr to a b k ha hb hft hfr (by omega) (by omega)) ?_
  simp only[↓zq,zs,ae,zt,aI,aM,aJ,bu,Ob.es]
  repeat refine⟨by omega,?_⟩
  refine aj (oe [43] x y) ?_
  simp only[↓zq,zs,ae,zt]
  repeat refine⟨by omega,?_⟩
  refine aV (i2 fr to a b _ ha hb hft hfr (by omega) (by omega)) ?_
  simp only[↓zq,zs,ae,zt,aI,aM,aJ,bu,Ob.es]
  repeat refine⟨by omega,?_⟩
  refine aj (xO _ _ _) ?_
  simp only[↓zq,zs,ae,zt,aM,bN]
  repeat refine⟨by omega,?_⟩
  exact⟨rfl,rfl⟩
 |
  @times x y hx hy i1 i2 =>
  intro fr to a b k ha hb hft hfr hl hk
  simp only[E.sz,E.jm]at hl
  rw[du]at hk |-
  simp only[Ty.atoms]at hk
  have hm:(F.length+1)*(1+(cR x fr).atoms+(cR y fr).atoms)=(F.length+1)+(F.length+1)*(cR x fr).atoms+(F.length+1)*(cR y fr).atoms:=by simp only[cT,dG]
  have hc:=il F (cR x fr) to k
  refine D9 _ _ _ _ _ _ ((aY _).mpr trivial) ha.1 hb.1 ?_
  have hP:=P3.of (.atom [42]) x y
  simp only[Bf,bN,toNat_one,bg,↓zq,zs,ae,zt,hP.1,hP.2.1,hP.2.2.1,hP.2.2.2,aM]
  refine⟨fun h=>absurd rfl h,fun _=>?_⟩
  refine aj (oe [42] x y) ?_
  simp only[↓zq,zs,ae,zt]
  refine⟨fun h=>by simp at h,fun _=>?_⟩
  repeat refine⟨by omega,?_⟩
  refine aV (i1 fr to a b k ha hb hft hfr (by omega) (by omega)) ?_
  simp only[↓zq,zs,ae,zt,aI,aM,aJ,bu,Ob.es]
  repeat refine⟨by omega,?_⟩
  refine aj (oe [42] x y) ?_
  simp only[↓zq,zs,ae,zt]
  repeat refine⟨by omega,?_⟩
  refine aV (i2 fr to a b _ ha hb hft hfr (by omega) (by omega)) ?_
  simp only[↓zq,zs,ae,zt,aI,aM,aJ,bu,Ob.es]
  repeat refine⟨by omega,?_⟩
  refine aj (xO _ _ _) ?_
  simp only[↓zq,zs,ae,zt,aM,bN]
  repeat refine⟨by omega,?_⟩
  exact⟨rfl,rfl⟩
 |
  @rc n y hn hy i =>
  intro fr to a b k ha hb hft hfr hl hk
  simp only[E.sz,E.jm]at hl
  rw[fk]at hk |-
  simp only[Ty.atoms,dT]at hk
  have hm:(F.length+1)*(2+(cR y (fr++[n])).atoms)=(F.length+1)*2+(F.length+1)*(cR y (fr++[n])).atoms:=by simp only[cT]
  have hc:=il F (cR y (fr++[n])) (to++[tN (nx F k)]) (nx F k+1)
  obtain⟨g1,g2,_,_⟩:=gv F k
  refine D9 _ _ _ _ _ _ ((aY _).mpr trivial) ha.1 hb.1 ?_
  have hP:=P3.of (.atom dE) (.atom n) y
  simp only[Bf,bN,toNat_one,bg,↓zq,zs,ae,zt,hP.1,hP.2.1,hP.2.2.1,hP.2.2.2,aM]
  refine⟨fun h=>absurd rfl h,fun _=>?_⟩
  refine aj (oe dE (.atom n) y) ?_
  simp only[↓zq,zs,ae,zt]
  refine⟨fun _=>?_,fun h=>absurd rfl h⟩
  refine aj (zC (k+1) k (by omega) (by omega)) ?_
  have hd:=mQ (k+1) k (by omega)
  simp only[↓zq,zs,ae,zt,bc,aT]
  refine⟨by simp[cM];omega,?_⟩
  refine cA (Nh a b ha.1 hb.1 F (by omega) (mk []) _ ((aY _).mpr trivial) (F.length+1) k (by show nx F k<_;omega) (by omega)) ?_
  simp only[↓zq,zs,ae,zt,ae,aI,bh,aY,ha.1,hb.1,hP.1,hP.2.1,hP.2.2.1,hP.2.2.2,toNat_one,bg,aM]
  repeat refine⟨by omega,?_⟩
  have hnx:qd F (F.length+1) k=nx F k:=rfl
  rw[hnx]
  refine aV (wZ fr a ha n (by omega)) ?_
  simp only[↓zq,zs,ae,zt,Ob.es,aJ]
  refine⟨dJ _,?_⟩
  refine aV (wZ to b hb (tN (nx F k)) (by omega)) ?_
  simp only[↓zq,zs,ae,zt,Ob.es,aJ]
  refine⟨dJ _,?_⟩
  rw[bx (nx F k) (by omega)]
  have hmk:=xO dE (.atom (tN (nx F k))) (gY F (cR y (fr++[n])) (to++[tN (nx F k)]) (nx F k+1)).1
  simp only[dT]at hmk
  refine aV (i (fr++[n]) (to++[tN (nx F k)]) _ _ (nx F k+1) (.of _) (.of _) (by simp[hft]) (fun w hw=>by
   rcases aO.1 hw with hw|hw
   ·exact hfr w hw
   ·simp only[aQ]at hw;rw[hw];exact hn) (by simp;omega) (by omega)) ?_
  simp only[↓zq,zs,ae,zt,aI,aM,aJ,bu,Ob.es]
  repeat refine⟨by omega,?_⟩
  refine aj hmk ?_
  simp only[↓zq,zs,ae,zt,aM,bN]
  repeat refine⟨by omega,?_⟩
  exact⟨rfl,rfl⟩
theorem wH(l r:List Nm):bE (l++r)=bE l++bE r:=by simp[bE]
def rW(os:List E):List Nm:=os.flatMap fun o=>kf o [] []
theorem vo{os:List E}{i:Nat}(h:i<os.length):(E.bw os).getD i []=[.v (.string (mk (os[i]).at)),(os[i]).sp]:=by
 have:∀(os:List E) (i:Nat) (h:i<os.length),(E.bw os).getD i []=(os[i]).ir:=by
  intro os
  induction os with
  |nil=>intro i h;simp at h
  |
   cons o os ih =>
   intro i h
   cases i with
   |zero=>simp[E.bw]
   |succ i=>simpa[E.bw]using ih i (by simpa using h)
 rw[this os i h,fI]
theorem Aq(os:List E){i:Nat}(h:i<os.length):rW (os.drop i)=kf (os[i]) [] []++rW (os.drop (i+1)):=by
 unfold rW;rw[aU h,List.flatMap_cons]
theorem O5(a:AV)(os:List E)(ha:LK.sl.has a/\a.elems=E.bw os)(ho:∀o,o∈os->Wf o/\o.sz<5000)(hl:os.length<100)(t:ByteArray)(p:AV)(hp:LK.sl.has p):∀(k i:Nat) (F:List Nm),i+k=os.length->F.length<=5000+5000*i ->
 Fv [a,.v (.int .i64 (i:Int))] [.cells [.v (.string t),p],zE,.vec 1 (bE F)] (gZ 1 [] [.cells [.v (.string t),p],zE,.vec 1 (bE (F++rW (os.drop i)))])
 |
  0,i,F,hi,hF=>by
  refine KP _ _ _ _ _ _ _ ?_
  have:i=os.length:=by omega
  subst this
  simp only[Hm,↓zq,zs,ae,zt,ae,hp,bh,ha.1,ha.2,ef,List.drop_length]
  exact⟨fun h=>by omega,fun _=>by simp[gZ,rW]⟩
 |
  k+1,i,F,hi,hF=>by
  have hlt:i<os.length:=by omega
  obtain⟨hw,hsz⟩:=ho _ (bD hlt)
  have hfl:=gd (os[i]) [] []
  refine KP _ _ _ _ _ _ _ ?_
  simp only[Hm,↓zq,zs,ae,zt,ae,hp,bh,ha.1,ha.2,ef,vo hlt,aM,bH]
  refine⟨fun _=>?_,fun h=>by omega⟩
  repeat refine⟨by omega,?_⟩
  have hfre:=DL hw [] [] (.sl []) (.of []) (by simp;omega)
  refine aV hfre ?_
  simp only[↓zq,zs,ae,zt,aJ,bu,Ob.es,kl,<-wH]
  rw[bx i (by omega),Aq os hlt,<-a8]
  simp only[aG,aX]at hfl
  refine⟨⟨kj _,by omega⟩,?_⟩
  exact O5 a os ha ho hl t p hp k (i+1) _ (by omega) (by simp;omega)
def AD(e:E)(os:List E):List Nm:=kf e [] []++rW os
def Aw(e:E)(os:List E):E:=(gY (AD e os) (cR e []) [] 0).1
theorem DG{e:E}{os:List E}(h:e.sz<=2000)(ho:∀o,o∈os->Wf o/\o.sz<=2000)(hl:os.length<=2):(AD e os).length<=6000:=by
 have h1:=gd e [] []
 have h2:∀(l:List E),(∀o,o∈l->o.sz<=2000)->(rW l).length<=2000*l.length:=by
  intro l
  induction l with
  |nil=>intro _;simp[rW]
  |
   cons o l ih =>
   intro hl
   have:=ih fun q hq=>hl q (al _ hq)
   have:=hl o ak
   have:=gd o [] []
   simp only[rW,List.flatMap_cons,aq,aA,aG]at *
   omega
 have:=h2 os fun o ho'=>(ho o ho').2
 simp only[AD,aq,aG]at *
 omega
theorem DY{e:E}(h:Wf e)(a:AV)(os:List E)(ha:LK.sl.has a/\a.elems=E.bw os)(he:e.sz<=2000)(ho:∀o,o∈os->Wf o/\o.sz<=2000)(hl:os.length<=2) :
 an Tryz.prog 65 [.agg [.v (.string (mk e.at)),e.sp],a] [] (bM (.agg [.v (.string (mk (Aw e os).at)),(Aw e os).sp])):=by
 refine Qr _ _ _ ((aY _).mpr trivial) ha.1 ?_
 unfold K5
 have hfl:=gd e [] []
 simp only[aG,aX]at hfl
 have hap:=DG he ho hl
 have hats:(cR e []).atoms<=2000:=by
  rw[<-h.db []]
  have:e.db<=e.sz:=by
   clear hap hfl ha he ho hl
   induction h with
   |atom _=>simp[E.db,E.sz]
   |plus _ _ i1 i2=>simp only[E.db,E.eZ,E.sz,E.jm];omega
   |times _ _ i1 i2=>simp only[E.db,E.eZ,E.sz,E.jm];omega
   |rc _ _ i=>simp only[E.db,E.eZ,E.sz,E.jm];omega
  omega
 have hfre:=DL h [] [] (.sl []) (.of []) (by simp;omega)
 simp only[↓zq,zs,ae,zt]
 refine aV hfre ?_
 simp only[↓zq,zs,ae,zt,aJ,bu,Ob.es]
 have hlp:=O5 a os ha (fun o hq=>⟨(ho o hq).1,by have:=(ho o hq).2;omega⟩) (by omega) (mk e.at) e.sp ((aY _).mpr trivial) os.length 0 (kf e [] []) (by omega) (by omega)
 rw[bf]at hlp
 refine cA hlp ?_
 simp only[↓zq,zs,ae,zt,ae,aI,bh,aY,aJ,bu,Ob.es]
 have hmul:((AD e os).length+1)*(cR e []).atoms<=6001*2000:=Nat.mul_le_mul (by omega) hats
 have hren:=Rb (AD e os) (by omega) h [] [] (.sl []) (.sl []) 0 (.of []) (.of []) rfl (fun w hw=>by cases hw) (by simp;omega) (by omega)
 refine aV hren ?_
 simp only[↓zq,zs,ae,zt,aI,aM]
 repeat refine⟨by omega,?_⟩
 exact⟨rfl,rfl⟩
end Go.Proofs.Trees
namespace Go.Proofs.Trees
open Go Go.VL Go.RowKit
def fW(t:Ty):Prop:=jy t 0/\∀y,bn y t=true->qR y
theorem gF:∀(t:Ty) {i j:Nat},jy t i->i<=j->jy t j
 | .bound u,i,j,h,hj=>Nat.lt_of_lt_of_le h hj
 | .plus a b,i,j,h,hj=>⟨gF a h.1 hj,gF b h.2 hj⟩
 | .times a b,i,j,h,hj=>⟨gF a h.1 hj,gF b h.2 hj⟩
 | .rc a,i,j,h,hj=>gF (i:=i+1) (j:=j+1) a h (by omega)
 | .zero,_,_,_,_=>trivial
 | .one,_,_,_,_=>trivial
 | .name _,_,_,_,_=>trivial
theorem gK(x:Nm):∀(t:Ty) {i:Nat},jy t (i+1)->jy (dA (.name x) t i) i
 |
  .bound u,i,h=>by
  simp only[dA]
  split
  ·trivial
  ·have:u<i+1:=h
   show u<i;omega
 | .plus a b,i,h=>⟨gK x a h.1,gK x b h.2⟩
 | .times a b,i,h=>⟨gK x a h.1,gK x b h.2⟩
 | .rc a,i,h=>gK x (i:=i+1) a h
 | .zero,_,_=>trivial
 | .one,_,_=>trivial
 | .name _,_,_=>trivial
theorem kC{x:Nm}{u:Ty}(hu:jy u 0):∀(t:Ty) {i:Nat},jy t i->jy (sub x u t) i
 | .name s,i,_=>by simp only[sub];split;exact gF u hu (dQ _);trivial
 | .plus a b,i,h=>⟨kC hu a h.1,kC hu b h.2⟩
 | .times a b,i,h=>⟨kC hu a h.1,kC hu b h.2⟩
 | .rc a,i,h=>kC hu (i:=i+1) a h
 | .zero,_,_=>trivial
 | .one,_,_=>trivial
 | .bound _,_,h=>h
theorem Dv.lc{t d:Ty}{s:Nm}(h:Dv t s d):jy t 0->jy d 0:=by
 induction h with
 |zero s=>exact fun _=>trivial
 |one s=>exact fun _=>trivial
 |bound k s=>exact fun _=>trivial
 |hit s=>exact fun _=>trivial
 |qA h=>exact fun _=>trivial
 |plus h1 h2 hl i1 i2=>exact fun h=>⟨i1 h.1,i2 h.2⟩
 |times h1 h2 hl i1 i2=>exact fun h=>⟨⟨i1 h.1,h.2⟩,h.1,i2 h.2⟩
 |
  rc x hx hs h1 h2 hl i1 i2 =>
  intro h
  have g1:=kC (x:=x) h _ (i1 (gK x _ h))
  have g2:=kC (x:=x) h _ (i2 (gK x _ h))
  exact⟨gF _ g1 (by omega),gF _ g2 (by omega),Nat.zero_lt_one⟩
theorem Wf.qB{e:E}(h:Wf e):fW (cR e []):=⟨tV h [],fun y hy=>(mY h [] y hy).1⟩
theorem fW.dv{t d:Ty}{s:Nm}(g:fW t)(h:Dv t s d):fW d:=⟨h.lc g.1,fun y hy=>g.2 y (h.names y hy)⟩
theorem fW.tree{t:Ty}(g:fW t):∃e,Wf e/\cR e []=t:=by
 obtain⟨h1,h2,_⟩:=kB (bQ t []) t [] 0 (.nil _ _) g.1 fun y hy=>⟨(eN t [] y).2 (.inr hy),g.2 y hy⟩
 exact⟨_,h1,h2⟩
theorem fW.sub{x:Nm}{u t:Ty}(hu:fW u)(ht:fW t):fW (sub x u t):=⟨kC hu.1 t ht.1,fun y hy=>by
 rcases ji t hy with h|h
 ·exact hu.2 y h
 ·exact ht.2 y h.2⟩
def k8(o:Option Ty):AV->List Ob->Prop:=fun r ob=>ob=[]/\∃(c:Nm) (d:AV),LK.sl.has d/\r=.cG [.agg [.v (.string (mk c)),d],.v (.bool o.isSome)]/\∀t,o=some t->∃e,Wf e/\cR e []=t/\c=e.at/\d=e.sp
theorem k8.ne{o:Option Ty}(h:∀t,o=some t->fW t):∃r ob,k8 o r ob:=by
 cases o with
 |none=>exact⟨_,_,rfl,[],yx,(bh).mpr trivial,rfl,fun t h=>by cases h⟩
 |
  some t =>
  obtain⟨e,h1,h2⟩:=(h t rfl).tree
  exact⟨_,_,rfl,e.at,e.sp,(aY _).mpr trivial,rfl,fun t' h'=>by cases h';exact⟨e,h1,h2,rfl,rfl⟩⟩
theorem k8.of{e:E}(h:Wf e):k8 (some (cR e [])) (.cG [.agg [.v (.string (mk e.at)),e.sp],.v (.bool true)]) [] :=
 ⟨rfl,e.at,e.sp,(aY _).mpr trivial,rfl,fun t h'=>by cases h';exact⟨e,h,rfl,rfl,rfl⟩⟩
theorem k8.no(c:Nm)(d:AV)(hd:LK.sl.has d):k8 none (.cG [.agg [.v (.string (mk c)),d],.v (.bool false)]) [] :=
 ⟨rfl,c,d,hd,rfl,fun t h'=>by cases h'⟩
theorem gC{c:ByteArray}{d:AV}(h:LK.sl.has d):bK [.str,.sl] [.v (.string c),d] 0=True:=by simp[bK,dY,h]
theorem xM{e:E}{os:List E}(h:Wf e):Wf (Aw e os)/\cR (Aw e os) []=cR e []/\ue (·∉AD e os) (Aw e os):=by
 obtain⟨h1,h2,_,_,h5⟩:=kB (AD e os) (cR e []) [] 0 (.nil _ _) (tV h []) fun y hy=>⟨aD _ ((lY h [] [] y).2 (.inr hy)),(mY h [] y hy).1⟩
 exact⟨h1,h2,h5⟩
theorem sn{os:List E}{o:E}(ho:o∈os)(hw:Wf o){y:Nm}(hy:bn y (cR o [])=true):y∈rW os :=
 List.mem_flatMap.2 ⟨o,ho,(lY hw [] [] y).2 (.inr hy)⟩
theorem rn{s:Nm}(hs:qR s):cR (.atom s) []=.name s:=jf hs (by simp)
theorem OF{x:Nm}(hx:qR x){e u:E}(h:Wf e)(hu:Wf u)(hl:e.db<=400)(hlu:u.db<=400):∃g,Wf g/\cR g []=sub x (cR u []) (cR e [])/\an Tryz.prog 121 [.agg [.v (.string (mk e.at)),e.sp],.v (.string (mk x)),.agg [.v (.string (mk u.at)),u.sp]] [] (bM (.agg [.v (.string (mk g.at)),g.sp])):=by
 obtain⟨w1,w2,w3⟩:=xM (os:=[u,.atom x]) h
 have hap:ue (fun n=>n≠x/\bn n (cR u [])=false) (Aw e [u,.atom x]):=AJ (fun n hn=>⟨fun e1=>hn (by
  subst e1
  exact aB _ (sn (o:=.atom n) (by simp) (.atom hx.1) (by rw[rn hx];simp[bn]))),by
  cases q:bn n (cR u [])with
  |false=>rfl
  |true=>exact absurd (aB _ (sn (o:=u) (by simp) hu q)) hn⟩) w1 w3
 obtain⟨p1,p2⟩:=D4 hx hu w1 hap [] (by simp) (fun y hy=>by cases hy)
 refine⟨_,p1,by rw[p2,w2],?_⟩
 refine S8 _ _ _ _ _ ((aY _).mpr trivial) ((aY _).mpr trivial) ?_
 unfold K6
 have s1:=h.sz
 have s2:=hu.sz
 have hA:=DY h (.sl [[.v (.string (mk u.at)),u.sp],[.v (.string (mk x)),yx]]) [u,.atom x] ⟨(cg _).mpr trivial,by simp only[fE,E.bw,fI];rfl⟩ (by omega) (fun o ho=>by
  simp only[aL,List.not_mem_nil,or_false]at ho
  rcases ho with rfl|rfl
  ·exact⟨hu,by omega⟩
  ·exact⟨.atom hx.1,by simp[E.sz]⟩) (by simp)
 refine aj hA ?_
 simp only[↓zq,zs,ae,zt,aM]
 repeat refine⟨by omega,?_⟩
 refine aj (PJ x u w1) ?_
 simp only[↓zq,zs,ae,zt,aM]
 repeat refine⟨by omega,?_⟩
 exact⟨rfl,rfl⟩
theorem FI{x:Nm}(hx:qR x){e u:E}(h:Wf e)(hu:Wf u)(hl:e.db<=400)(hlu:u.db<=400):an Tryz.prog 123 [.agg [.v (.string (mk e.at)),e.sp],.v (.string (mk x)),.agg [.v (.string (mk u.at)),u.sp]] [] (k8 (nF (sub x (cR u []) (cR e [])))):=by
 refine RF _ _ _ _ _ ((aY _).mpr trivial) ((aY _).mpr trivial) ?_
 unfold LY
 refine aj (KQ hx h hu (by omega) (by omega)) ?_
 simp only[↓zq,zs,ae,zt]
 refine⟨fun hn=>?_,fun hy=>?_⟩
 ·rw[show nF (sub x (cR u []) (cR e []))=none by unfold nF;rw[if_neg hn]]
  exact k8.no _ _ ((aY _).mpr trivial)
 ·rw[show nF (sub x (cR u []) (cR e []))=some (sub x (cR u []) (cR e [])) by unfold nF;rw[if_pos hy]]
  obtain⟨g,g1,g2,g3⟩:=OF hx h hu hl hlu
  refine aj g3 ?_
  simp only[↓zq,zs,ae,zt,aM]
  repeat refine⟨by omega,?_⟩
  rw[<-g2]
  exact k8.of g1
end Go.Proofs.Trees
namespace Go.Proofs.Trees
open Go Go.VL Go.RowKit
def qn(l:List UInt8):List (List AV):=l.map fun(x:UInt8)=>[.v (.int .u8 (x.toNat:Int))]
structure sC(b:AV)(l:List UInt8):Prop where
 has:LK.sl.has b
 el:b.elems=qn l
 len:l.length<=2000
theorem sC.ln{b:AV}{l:List UInt8}(h:sC b l):b.elems.length=l.length:=by rw[h.el];simp[qn]
theorem sC.get{b:AV}{l:List UInt8}(h:sC b l){i:Nat}(hi:i<l.length):b.elems.getD i []=[.v (.int .u8 ((l[i]).toNat:Int))]:=by rw[h.el];simp[qn,aa,hi]
def eS(b:AV)(p c:Nat)(X:AV->Prop):AV->List Ob->Prop:=fun r o=>∃q:Nat,p<=q/\q<=p+c/\X r/\o=[.cells [b,.v (.int .i64 (q:Int))]]
theorem eS.ne{b:AV}{p c:Nat}{X:AV->Prop}{r:AV}(h:X r):∃r o,eS b p c X r o:=⟨r,_,p,au _,da _ _,h,rfl⟩
theorem El{a b:Int}(ha:0<=a)(hb:0<=b)(ha':a<9223372036854775808)(hb':b<9223372036854775808):∃W:Nat,Be .i64 a b=(W:Int):=by
 obtain⟨x,rfl⟩:∃x:Nat,a=(x:Int):=⟨a.toNat,by omega⟩
 obtain⟨y,rfl⟩:∃y:Nat,b=(y:Int):=⟨b.toNat,by omega⟩
 have e1:(BitVec.ofInt 64 (x:Int)).toNat=x:=by simp;omega
 have e2:(BitVec.ofInt 64 (y:Int)).toNat=y:=by simp;omega
 have hlt:x ^^^ y<2 ^ 63:=Nat.xor_lt_two_pow (by omega) (by omega)
 refine⟨x ^^^ y,?_⟩
 unfold Be
 have e3:(BitVec.ofInt (IntKind.bits .i64) (x:Int) ^^^ BitVec.ofInt (IntKind.bits .i64) (y:Int)).toNat=x ^^^ y:=by
  show (BitVec.ofInt 64 (x:Int) ^^^ BitVec.ofInt 64 (y:Int)).toNat=_
  rw[BitVec.toNat_xor,e1,e2]
 rw[e3,VL.wrap64]<;>omega
theorem yO(a b:Nat):Int.tdiv (a:Int) (b:Int)=((a/b:Nat):Int):=(Int.ofNat_tdiv a b).symm
theorem qQ(a b:Nat):dF (a:Int) (b:Int)=((a%b:Nat):Int):=(Int.ofNat_tmod a b).symm
theorem wb(n:Nat)(h:n<9223372036854775808):IntKind.wrap .i64 (n:Int)=(n:Int):=VL.wrap64 _ (by omega) (by omega)
def isNum(n:Nat):AV->Prop:=fun r=>∃k:Nat,r=.v (.int .i64 (k:Int))/\(1<=n->k<n)/\k<=n
abbrev pT:Nat:=1000000000000000
theorem u3(b:AV)(l:List UInt8)(hb:sC b l)(p n:Nat)(hp:p<2*pT)(hn:n<pT):an Tryz.prog 43 [.ref 0 0,.v (.int .i64 (n:Int))] [.cells [b,.v (.int .i64 (p:Int))]] (eS b p 1 (isNum n)):=by
 refine PD _ _ _ hb.has ?_
 have e1:IntKind.wrap .i64 ((p:Int)+1)=((p+1:Nat):Int):=by rw[VL.wrap64]<;>simp[pT]at hp<;>omega
 have e2:IntKind.wrap .i64 (((p+1:Nat):Int)-1)=(p:Int):=by rw[VL.wrap64]<;>simp[pT]at hp<;>omega
 have fin:∀k:Nat,(1<=n->k<n)->k<=n->eS b p 1 (isNum n) (.v (.int .i64 (k:Int))) [.cells [b,.v (.int .i64 ((p+1:Nat):Int))]]:=fun k h h'=>⟨p+1,by omega,au _,⟨k,rfl,h,h'⟩,rfl⟩
 simp only[Nb,↓zq,zs,ae,e1,e2,hb.ln,yO,qQ]
 refine⟨fun h=>fin 0 (fun h'=>by omega) (dQ _),fun h=>⟨hb.has,fun h0=>fin 0 (fun h'=>by omega) (dQ _),fun h0=>?_⟩⟩
 have hl:0<l.length:=by omega
 have hll:=hb.len
 refine⟨hb.has,fun hlt=>?_,fun hge=>?_⟩
 ·have hlt:p<l.length:=by omega
  have hx:=(l[p]).toNat_lt
  simp only[bH,hb.get hlt,hb.has,↓zq,zs,ae]
  rw[wb _ (by omega),qQ]
  have:=fin ((l[p]).toNat%n) (fun h'=>Nat.mod_lt _ (by omega)) (Nat.le_of_lt (Nat.mod_lt _ (by omega)))
  repeat (first|exact this|refine⟨by omega,?_⟩)
 ·have h1:p%l.length<l.length:=Nat.mod_lt _ hl
  have e3:IntKind.wrap .i64 ((p:Int)*7)=((p*7:Nat):Int):=by rw[VL.wrap64]<;>simp[pT]at hp<;>omega
  have e4:IntKind.wrap .i64 (((p*7:Nat):Int)+3)=((p*7+3:Nat):Int):=by rw[VL.wrap64]<;>simp[pT]at hp<;>omega
  have h2:(p*7+3)%l.length<l.length:=Nat.mod_lt _ hl
  have hx:=(l[p%l.length]).toNat_lt
  have hy:=(l[(p*7+3)%l.length]).toNat_lt
  have hq:p/l.length<=p:=Nat.div_le_self _ _
  simp only[e3,e4,qQ,bH,hb.get h1,hb.get h2,hb.has,↓zq,zs,ae]
  generalize hxx:(l[p%l.length]).toNat=x at hx |-
  generalize hyy:(l[(p*7+3)%l.length]).toNat=y at hy |-
  generalize hqq:p/l.length=q at hq |-
  have f1:IntKind.wrap .i64 ((x:Int))=(x:Int):=wb _ (by omega)
  have f2:IntKind.wrap .i64 ((y:Int))=(y:Int):=wb _ (by omega)
  have f3:IntKind.wrap .i64 ((x:Int)*131)=((x*131:Nat):Int):=by rw[VL.wrap64]<;>omega
  have f4:IntKind.wrap .i64 ((y:Int)*1117)=((y*1117:Nat):Int):=by rw[VL.wrap64]<;>omega
  have f5:IntKind.wrap .i64 (((x*131:Nat):Int)+((y*1117:Nat):Int))=((x*131+y*1117:Nat):Int):=by rw[VL.wrap64]<;>omega
  have f6:IntKind.wrap .i64 ((p:Int)*29)=((p*29:Nat):Int):=by rw[VL.wrap64]<;>simp[pT]at hp<;>omega
  have f7:IntKind.wrap .i64 (((x*131+y*1117:Nat):Int)+((p*29:Nat):Int))=((x*131+y*1117+p*29:Nat):Int):=by rw[VL.wrap64]<;>simp[pT]at hp<;>omega
  have f8:IntKind.wrap .i64 ((q:Int))=(q:Int):=wb _ (by simp[pT]at hp;omega)
  have f9:IntKind.wrap .i64 ((q:Int)*53)=((q*53:Nat):Int):=by rw[VL.wrap64]<;>simp[pT]at hp<;>omega
  have f10:IntKind.wrap .i64 (((x*131+y*1117+p*29:Nat):Int)+((q*53:Nat):Int))=((x*131+y*1117+p*29+q*53:Nat):Int):=by rw[VL.wrap64]<;>simp[pT]at hp<;>omega
  simp only[f1,f2,f3,f4,f5,f6,f7,f8,f9,f10]
  generalize hV:x*131+y*1117+p*29+q*53=V
  have hVl:V<1000000000000000000:=by simp[pT]at hp;omega
  have f11:IntKind.wrap .i64 (Int.tdiv (V:Int) 64)=((V/64:Nat):Int):=by
   have:Int.tdiv (V:Int) 64=((V/64:Nat):Int):=yO V 64
   rw[this,wb _ (by omega)]
  rw[f11]
  obtain⟨W,hW⟩:=El (a:=(V:Int)) (b:=((V/64:Nat):Int)) (by omega) (by omega) (by omega) (by omega)
  rw[hW,qQ]
  have:=fin (W%n) (fun h'=>Nat.mod_lt _ (by omega)) (Nat.le_of_lt (Nat.mod_lt _ (by omega)))
  repeat (first|exact this|refine⟨by omega,?_⟩)
def kW(L:List (List UInt8)):AV->Prop:=fun r=>∃s,s∈L/\r=.v (.string (mk s))
theorem Ec(b:AV)(l:List UInt8)(hb:sC b l)(p:Nat)(hp:p<2*pT)(L:List (List UInt8))(a:AV)(ha:cm a L)(hL:0<L.length)(hLl:L.length<1000000):an Tryz.prog 62 [.ref 0 0,a] [.cells [b,.v (.int .i64 (p:Int))]] (eS b p 1 (kW L)):=by
 refine S4 _ _ _ ha.1 hb.has ?_
 unfold JE
 simp only[↓zq,zs,ae,ha.len]
 refine⟨ha.1,?_⟩
 have hpk:=u3 b l hb p L.length hp (by simp[pT];omega)
 refine aP hpk (eS.ne ⟨0,rfl,fun h=>h,dQ _⟩) ?_
 rintro r o ⟨q,h1,h2,⟨k,rfl,h3,h4⟩,rfl⟩
 have hk:=h3 hL
 simp only[↓zq,zs,ae,zt,aI,hb.has,ha.idx hk,bH]
 refine⟨⟨ha.1,by omega⟩,?_⟩
 have:eS b p 1 (kW L) (.v (.string (mk (L.getD k [])))) [.cells [b,.v (.int .i64 (q:Int))]]:=⟨q,h1,h2,⟨_,by simp[aa,hk],rfl⟩,rfl⟩
 repeat (first|exact this|refine⟨by omega,?_⟩)
def gr(n:Nat):AV->Prop:=fun r=>∃s:List UInt8,r=.v (.string (mk s))/\s.length<=n
theorem kW.cF{L:List (List UInt8)}{n:Nat}(h:∀s,s∈L->s.length<=n){r:AV}(hr:kW L r):gr n r:=by
 obtain⟨s,h1,h2⟩:=hr;exact⟨s,h2,h s h1⟩
end Go.Proofs.Trees
namespace Go.Proofs.Trees
open Go Go.VL Go.RowKit
def jY:AV->List Ob->Prop:=fun r o=>o=[]/\∃b:Bool,r=.v (.bool b)
theorem jY.ne:∃r o,jY r o:=⟨_,_,rfl,true,rfl⟩
theorem jY.mk(b:Bool):jY (.v (.bool b)) []:=⟨rfl,b,rfl⟩
theorem jY.call{n:Nat}{f:Nat}{xs:List AV}{k:AV->List Ob->Tree}{Q:Nat->List AV->List Ob->Prop}(h:an Tryz.prog f xs [] jY)(hk:∀b:Bool,fe Tryz.prog n (k (.v (.bool b)) []) Q):fe Tryz.prog n (.call f xs [] k) Q :=
 aP h jY.ne (by rintro r o ⟨rfl,b,rfl⟩;exact hk b)
theorem Mg{e:E}(h:Wf e):∀(l:List Nm) (a:AV),cm a l->l.length+e.sz<100000->an Tryz.prog 87 [.agg [.v (.string (mk e.at)),e.sp],a] [] jY:=by
 induction h with
 |
  @atom s hs =>
  intro l a ha hl
  simp only[E.sz]at hl
  refine Ey _ _ _ ((aY _).mpr trivial) ha.1 ?_
  simp only[Bl,dT,↓zq,zs,ae]
  refine aj (Ao s _ ((aY (.atom s)).mpr trivial) hs) ?_
  simp only[↓zq,zs,ae,zt,ha.1]
  refine⟨fun h=>(by cases h),fun _=>⟨fun h=>(by cases h),fun _=>⟨fun h=>(by cases h),fun _=>⟨fun _=>.mk true,fun _=>?_⟩⟩⟩⟩
  refine aj (xD l a ha s (by omega)) ?_
  simp only[↓zq,zs,ae]
  exact .mk _
 |
  @plus x y hx hy i1 i2 =>
  intro l a ha hl
  simp only[E.sz,E.jm]at hl
  refine Ey _ _ _ ((aY _).mpr trivial) ha.1 ?_
  have hP:=P3.of (.atom [43]) x y
  simp only[Bl,bN,toNat_one,bg,↓zq,zs,ae,zt,hP.1,hP.2.1,hP.2.2.1,hP.2.2.2,aM]
  refine aj (oe [43] x y) ?_
  simp only[↓zq,zs,ae,zt,ha.1,aM]
  refine⟨fun _=>⟨by omega,by omega,jY.call (i1 l a ha (by omega)) fun b=>?_⟩,fun h=>absurd rfl h⟩
  simp only[↓zq,zs,ae]
  refine⟨fun _=>⟨by omega,by omega,jY.call (i2 l a ha (by omega)) fun b=>?_⟩,fun _=>.mk _⟩
  simp only[↓zq,zs,ae]
  exact .mk _
 |
  @times x y hx hy i1 i2 =>
  intro l a ha hl
  simp only[E.sz,E.jm]at hl
  refine Ey _ _ _ ((aY _).mpr trivial) ha.1 ?_
  have hP:=P3.of (.atom [42]) x y
  simp only[Bl,bN,toNat_one,bg,↓zq,zs,ae,zt,hP.1,hP.2.1,hP.2.2.1,hP.2.2.2,aM]
  refine aj (oe [42] x y) ?_
  simp only[↓zq,zs,ae,zt,ha.1,aM]
  refine⟨fun h=>(by cases h),fun _=>⟨fun _=>⟨by omega,by omega,jY.call (i1 l a ha (by omega)) fun b=>?_⟩,fun h=>absurd rfl h⟩⟩
  simp only[↓zq,zs,ae]
  refine⟨fun _=>.mk _,fun _=>⟨by omega,by omega,jY.call (i2 l a ha (by omega)) fun b=>?_⟩⟩
  simp only[↓zq,zs,ae]
  exact .mk _
 |
  @rc n b hn hb i =>
  intro l a ha hl
  simp only[E.sz,E.jm]at hl
  refine Ey _ _ _ ((aY _).mpr trivial) ha.1 ?_
  have hP:=P3.of (.atom dE) (.atom n) b
  simp only[Bl,bN,toNat_one,bg,↓zq,zs,ae,zt,hP.1,hP.2.1,hP.2.2.1,hP.2.2.2,aM]
  refine aj (oe dE (.atom n) b) ?_
  simp only[↓zq,zs,ae,zt,ha.1,aM]
  refine⟨fun h=>(by cases h),fun _=>⟨fun h=>(by cases h),fun _=>⟨fun _=>⟨by omega,by omega,by omega,by omega,?_⟩,fun h=>absurd rfl h⟩⟩⟩
  refine aV (wZ l a ha n (by omega)) ?_
  simp only[↓zq,zs,ae,zt,Ob.es,aJ]
  refine⟨dJ _,?_⟩
  refine jY.call (i (l++[n]) _ (.of _) (by simp;omega)) fun b=>?_
  simp only[↓zq,zs,ae]
  exact .mk _
def Qp:AV->List Ob->Prop:=fun r o=>o=[]/\∃(g:E) (b:Bool),r=.cG [.agg [.v (.string (mk g.at)),g.sp],.v (.bool b)]/\Wf g/\g.db<=400
theorem QU{n:Nm}{b:E}(hn:qR n)(hb:Wf b)(hl:(E.list [.atom dE,.atom n,b]).db<=400):an Tryz.prog 89 [.agg [.v (.string (mk [])),(E.list [.atom dE,.atom n,b]).sp]] [] Qp:=by
 have hw:Wf (.list [.atom dE,.atom n,b]):=.rc hn hb
 refine RQ _ _ ((aY _).mpr trivial) ?_
 have hP:=P3.of (.atom dE) (.atom n) b
 have hbl:b.db<=400:=by simp only[E.db,E.eZ]at hl;omega
 simp only[Nu,toNat_one,bg,↓zq,zs,ae,zt,hP.1,hP.2.1,hP.2.2.1,hP.2.2.2,aM]
 refine⟨by omega,by omega,by omega,by omega,?_⟩
 have hf:=KQ hn hb hw (by omega) (by omega)
 obtain⟨g,g1,g2,g3⟩:=OF hn hb hw hbl hl
 simp only[bN]at hf g3
 refine aj hf ?_
 simp only[↓zq,zs,ae,zt,aM]
 refine⟨fun h=>⟨rfl,_,false,rfl,hw,hl⟩,fun h=>?_⟩
 repeat refine⟨by omega,?_⟩
 refine aj g3 ?_
 simp only[↓zq,zs,ae,zt,aM]
 refine⟨rfl,g,true,rfl,g1,?_⟩
 rw[g1.db [],g2]
 simpa using h
end Go.Proofs.Trees
namespace Go.Proofs.Trees
open Go Go.VL Go.RowKit
def jO(n:Nat):AV->Prop:=fun r=>∃e:E,r=.agg [.v (.string (mk e.at)),e.sp]/\e.ok/\(e9 e).length<=n
theorem jO.u(n:Nat)(h:1<=n):jO n (.agg [.v (.string (mk [117])),.v (.slice none 0 0)]):=⟨.atom [117],rfl,by simp[E.ok],by simpa[e9]using h⟩
def j7(b:AV)(d:Int)(e:E)(B C:Nat):Prop:=∀p:Nat,p+C<pT->an Tryz.prog 64 [.ref 0 0,.agg [.v (.string (mk e.at)),e.sp],.v (.int .i64 d)] [.cells [b,.v (.int .i64 (p:Int))]] (eS b p C (jO B))
theorem j7.mono{b:AV}{d:Int}{e:E}{B C B' C':Nat}(h:j7 b d e B C)(hB:B<=B')(hC:C<=C'):j7 b d e B' C':=fun p hp=>an.mono (h p (by omega)) fun r o ⟨q,h1,h2,⟨g,h3,h4,h5⟩,h6⟩=>⟨q,h1,by omega,⟨g,h3,h4,by omega⟩,h6⟩
theorem oY(b:AV)(p C B:Nat)(h:1<=B):∃r o,eS b p C (jO B) r o:=eS.ne (jO.u B h)
theorem TD(w:Nm)(e:E)(h:w.length=1):(e9 (.list [.atom w,e])).length=(e9 e).length+4:=by
 simp[e9,ej];omega
theorem Th(w:Nm)(e f:E)(h:w.length=1):(e9 (.list [.atom w,e,f])).length=(e9 e).length+(e9 f).length+5:=by
 simp[e9,ej];omega
theorem Md{b:AV}{p q q' C B:Nat}{w:Nm}{e:E}(hw:w.length=1)(h1:p<=q)(h2:q<=p+1)(h3:q<=q')(h4:q'<=q+C)(ho:e.ok)(hl:(e9 e).length<=B) :
 eS b p (C+1) (jO (B+5)) (.agg [.v (.string (mk [])),(E.list [.atom w,e]).sp]) [.cells [b,.v (.int .i64 (q':Int))]] :=
 ⟨q',by omega,by omega,⟨.list [.atom w,e],rfl,⟨by intro h;rw[h]at hw;simp at hw,ho,trivial⟩,by rw[TD w e hw];omega⟩,rfl⟩
theorem LR(b:AV)(l:List UInt8)(hb:sC b l)(d:Int){s:Nm}(hs:s≠[]):j7 b d (.atom s) 5 1:=by
 intro p hp
 refine D3 _ _ _ _ _ ((aY (.atom s)).mpr trivial) hb.has ?_
 simp only[CA,dT,↓zq,zs,ae]
 refine aj (Ao s _ ((aY (.atom s)).mpr trivial) hs) ?_
 simp only[↓zq,zs,ae,zt]
 refine⟨fun h=>(by cases h),fun _=>⟨fun h=>(by cases h),fun _=>⟨fun h=>(by cases h),fun _=>⟨fun _=>?_,fun _=>?_⟩⟩⟩⟩
 ·exact⟨p,au _,by omega,jO.u 5 (by omega),rfl⟩
 ·refine aP (u3 b l hb p 3 (by omega) (by decide)) (eS.ne ⟨0,rfl,fun h=>by omega,by omega⟩) ?_
  rintro r o ⟨q,h1,h2,⟨k,rfl,h3,h4⟩,rfl⟩
  have hk:k<3:=h3 (by omega)
  simp only[↓zq,zs,ae,aI,hb.has]
  refine aj (zC (k+1) k (by omega) (by omega)) ?_
  have hd:dd k=[bj (48+k)]:=eH (by omega)
  simp only[↓zq,zs,ae,zt,hd]
  refine⟨by simp,q,h1,h2,⟨.atom ([101]++[bj (48+k)]),rfl,by simp[E.ok],by simp[e9]⟩,rfl⟩
theorem Kx(b:AV)(l:List UInt8)(hb:sC b l)(d:Int)(hd:-100000<=d/\d<=100000){n:Nm}{e:E}(hn:qR n)(he:Wf e)(hl:(E.list [.atom dE,.atom n,e]).db<=400)(B C:Nat)(ih:-12<=d->∀g,Wf g->g.db<=400->j7 b (d-1) g B C)(hB:1<=B):j7 b d (.list [.atom dE,.atom n,e]) (B+5) (C+1):=by
 intro p hp
 refine D3 _ _ _ _ _ ((aY _).mpr trivial) hb.has ?_
 have ed:IntKind.wrap .i64 (d-1)=d-1:=VL.wrap64 _ (by omega) (by omega)
 simp only[CA,bN,↓zq,zs,ae,ed]
 refine aj (oe dE (.atom n) e) ?_
 simp only[↓zq,zs,ae,zt]
 have hu:=QU hn he hl
 refine⟨fun h=>(by cases h),fun _=>⟨fun h=>(by cases h),fun _=>⟨fun _=>?_,fun h=>absurd rfl h⟩⟩⟩
 refine aP hu ⟨_,_,rfl,.atom [117],true,rfl,.atom (by simp),by simp[E.db]⟩ ?_
 rintro r o ⟨rfl,g,c,rfl,g1,g2⟩
 have u:eS b p (C+1) (jO (B+5)) (.agg [.v (.string (mk [117])),.v (.slice none 0 0)]) [.cells [b,.v (.int .i64 (p:Int))]]:=⟨p,au _,by omega,jO.u _ (by omega),rfl⟩
 simp only[↓zq,zs,ae,zt,aM]
 refine⟨fun _=>u,fun _=>⟨fun _=>u,fun hd2=>?_⟩⟩
 refine aP (ih (by omega) g g1 g2 p (by omega)) (oY b p C B hB) ?_
 rintro r o ⟨q,h1,h2,⟨f,rfl,h4,h5⟩,rfl⟩
 simp only[↓zq,zs,ae,zt,aI,hb.has,aM]
 repeat refine⟨by omega,?_⟩
 refine aj (xl [102] f) ?_
 simp only[↓zq,zs,ae,zt,aI,hb.has,aM]
 have fin:=Md (b:=b) (w:=[102]) rfl (au p) (by omega) h1 h2 h4 h5
 first|exact fin|exact⟨by omega,fin⟩
theorem KA(b:AV)(l:List UInt8)(hb:sC b l)(d:Int)(hd:-100000<=d/\d<=100000){x y:E}(hx:Wf x)(hy:Wf y)(B1 C1 B2 C2:Nat)(ix:j7 b (d-1) x B1 C1)(iy:j7 b (d-1) y B2 C2)(hB:1<=B1)(hB2:1<=B2):j7 b d (.list [.atom [42],x,y]) (B1+B2+5) (C1+C2+1):=by
 intro p hp
 refine D3 _ _ _ _ _ ((aY _).mpr trivial) hb.has ?_
 have ed:IntKind.wrap .i64 (d-1)=d-1:=VL.wrap64 _ (by omega) (by omega)
 have hP:=P3.of (.atom [42]) x y
 simp only[CA,bN,toNat_one,bg,↓zq,zs,ae,zt,hP.1,hP.2.1,hP.2.2.1,hP.2.2.2,aM,ed]
 refine aj (oe [42] x y) ?_
 simp only[↓zq,zs,ae,zt]
 refine⟨fun h=>(by cases h),fun _=>⟨fun _=>?_,fun h=>absurd rfl h⟩⟩
 refine⟨by omega,by omega,aP (ix p (by omega)) (oY b p C1 B1 hB) ?_⟩
 rintro r o ⟨q,h1,h2,⟨f,rfl,h4,h5⟩,rfl⟩
 simp only[↓zq,zs,ae,zt,aI,hb.has,aM]
 repeat refine⟨by omega,?_⟩
 refine aP (iy q (by omega)) (oY b q C2 B2 hB2) ?_
 rintro r o ⟨q',g1,g2,⟨g,rfl,g4,g5⟩,rfl⟩
 simp only[↓zq,zs,ae,zt,aI,hb.has,aM]
 repeat refine⟨by omega,?_⟩
 refine aj (xO [112] f g) ?_
 simp only[↓zq,zs,ae,zt,aI,hb.has,aM]
 have fin:eS b p (C1+C2+1) (jO (B1+B2+5)) (.agg [.v (.string (mk [])),(E.list [.atom [112],f,g]).sp]) [.cells [b,.v (.int .i64 (q':Int))]]:=⟨q',by omega,by omega,⟨.list [.atom [112],f,g],rfl,⟨by simp[E.ok],h4,g4,trivial⟩,by rw[Th [112] f g rfl];omega⟩,rfl⟩
 first|exact fin|exact⟨by omega,fin⟩
theorem NH(b:AV)(l:List UInt8)(hb:sC b l)(d:Int)(hd:-100000<=d/\d<=100000){x y:E}(hx:Wf x)(hy:Wf y)(hl:(E.list [.atom [43],x,y]).db<=400)(B C:Nat)(ix:j7 b (d-1) x B C)(iy:j7 b (d-1) y B C)(hB:1<=B):j7 b d (.list [.atom [43],x,y]) (B+5) (C+1):=by
 intro p hp
 refine D3 _ _ _ _ _ ((aY _).mpr trivial) hb.has ?_
 have ed:IntKind.wrap .i64 (d-1)=d-1:=VL.wrap64 _ (by omega) (by omega)
 have hP:=P3.of (.atom [43]) x y
 simp only[E.db,E.eZ]at hl
 have s1:=hx.sz
 have s2:=hy.sz
 simp only[CA,bN,toNat_one,bg,↓zq,zs,ae,zt,hP.1,hP.2.1,hP.2.2.1,hP.2.2.2,aM,ed]
 refine aj (oe [43] x y) ?_
 simp only[↓zq,zs,ae,zt]
 refine⟨fun _=>?_,fun h=>absurd rfl h⟩
 refine aP (u3 b l hb p 2 (by omega) (by decide)) (eS.ne ⟨0,rfl,fun h=>by omega,by omega⟩) ?_
 rintro r o ⟨q,h1,h2,⟨k,rfl,_,_⟩,rfl⟩
 simp only[↓zq,zs,ae,zt,aI,hb.has,aM]
 have ex:=Mg hx [] (.sl []) (.of []) (by simp;omega)
 have ey:=Mg hy [] (.sl []) (.of []) (by simp;omega)
 have ax:=Dk x hx.ok (by omega)
 have ay:=Dk y hy.ok (by omega)
 rw[dj]at ax ay
 have lx:=ix q (by omega)
 have ly:=iy q (by omega)
 have t:=oY b q C B hB
 have leaf:∀(w:Nm) (q':Nat) (f:E),w.length=1->q<=q'->q'<=q+C->f.ok->(e9 f).length<=B->eS b p (C+1) (jO (B+5)) (.agg [.v (.string (mk [])),(E.list [.atom w,f]).sp]) [.cells [b,.v (.int .i64 (q':Int))]]:=fun w q' f hw g1 g2 h4 h5=>Md hw h1 h2 g1 g2 h4 h5
 repeat' first
  |intro _
  |refine⟨by omega,?_⟩
  |(
   with_reducible refine aP lx t ?_
   rintro r o ⟨q',g1,g2,⟨f,rfl,h4,h5⟩,rfl⟩
   simp only[↓zq,zs,ae,zt,aI,hb.has,aM]
   repeat refine⟨by omega,?_⟩
   refine aj (xl _ f) ?_
   simp only[↓zq,zs,ae,zt,aI,hb.has,aM]
   have fin:=leaf [108] q' f rfl g1 g2 h4 h5
   first|exact fin|exact⟨by omega,fin⟩)
  |(
   with_reducible refine aP ly t ?_
   rintro r o ⟨q',g1,g2,⟨f,rfl,h4,h5⟩,rfl⟩
   simp only[↓zq,zs,ae,zt,aI,hb.has,aM]
   repeat refine⟨by omega,?_⟩
   refine aj (xl _ f) ?_
   simp only[↓zq,zs,ae,zt,aI,hb.has,aM]
   have fin:=leaf [114] q' f rfl g1 g2 h4 h5
   first|exact fin|exact⟨by omega,fin⟩)
  |(with_reducible refine jY.call ex fun _=>?_;simp only[↓zq,zs,ae,zt,aM])
  |(with_reducible refine jY.call ey fun _=>?_;simp only[↓zq,zs,ae,zt,aM])
  |(with_reducible refine aj ax ?_;simp only[↓zq,zs,ae,zt,aM])
  |(with_reducible refine aj ay ?_;simp only[↓zq,zs,ae,zt,aM])
  |with_reducible refine aH ?_ ?_
  |(exfalso;omega)
end Go.Proofs.Trees
namespace Go.Proofs.Trees
open Go Go.VL Go.RowKit
def nD:Nat->Nat
 |0=>2
 |d+1=>2*nD d+15
def nw:Nat->Nat
 |0=>3
 |d+1=>2*nw d+8
theorem Rd(d:Nat):2<=nD d:=by cases d<;>simp only[nD]<;>omega
theorem Q4(d:Nat):3<=nw d:=by cases d<;>simp only[nw]<;>omega
theorem Hy:∀d:Nat,d<=10->nD d<=100000000
 |0,_=>by decide
 |1,_=>by decide
 |2,_=>by decide
 |3,_=>by decide
 |4,_=>by decide
 |5,_=>by decide
 |6,_=>by decide
 |7,_=>by decide
 |8,_=>by decide
 |9,_=>by decide
 |10,_=>by decide
 |d+11,h=>by omega
theorem A5(b:AV)(l:List UInt8)(hb:sC b l)(p:Nat)(hp:p<2*pT):an Tryz.prog 75 [.ref 0 0] [.cells [b,.v (.int .i64 (p:Int))]] (eS b p 1 (gr 60)):=by
 refine Q1 _ _ hb.has ?_
 unfold Og
 refine aP (Ec b l hb p hp _ _ (.of [_,_,_,_,_,_,_]) (by simp) (by simp)) (eS.ne ⟨_,ak,rfl⟩) ?_
 rintro r o ⟨q,h1,h2,hr,rfl⟩
 obtain⟨s,rfl,hs⟩:=kW.cF (n:=60) (by decide) hr
 simp only[↓zq,zs,ae,aI,hb.has]
 exact⟨q,h1,h2,⟨s,rfl,hs⟩,rfl⟩
theorem Hf(b:AV)(l:List UInt8)(hb:sC b l):∀(d:Nat),d<=10->∀(p:Nat) (ls:List (List UInt8)) (a:AV),cm a ls->(∀s,s∈ls->s.length<=2)->ls.length+d<=100->p+nw d<2*pT ->
 an Tryz.prog 144 [.ref 0 0,a,.v (.int .i64 (d:Int))] [.cells [b,.v (.int .i64 (p:Int))]] (eS b p (nw d) (gr (nD d))):=by
 intro d
 induction d with
 |
  zero =>
  intro hd p ls a ha hls hll hp
  simp only[nw]at hp
  refine Kn _ _ _ _ ha.1 hb.has ?_
  simp only[Hj,↓zq,zs,ae,ha.len]
  refine⟨fun _=>⟨ha.1,fun hpos=>?_,fun _=>?_⟩,fun h=>by omega⟩
  ·refine aP (u3 b l hb p 3 (by omega) (by decide)) (eS.ne ⟨0,rfl,fun h=>by omega,by omega⟩) ?_
   rintro r o ⟨q1,h1,h2,⟨k,rfl,h3,h4⟩,rfl⟩
   simp only[↓zq,zs,ae,aI,hb.has]
   refine⟨fun _=>⟨ha.1,?_⟩,fun _=>?_⟩
   ·refine aP (u3 b l hb q1 ls.length (by omega) (by simp[pT];omega)) (eS.ne ⟨0,rfl,fun h=>by omega,by omega⟩) ?_
    rintro r o ⟨q2,g1,g2,⟨k2,rfl,g3,g4⟩,rfl⟩
    have hk:=g3 (by omega)
    simp only[↓zq,zs,ae,aI,hb.has,bH,ha.idx hk]
    have:eS b p (nw 0) (gr (nD 0)) (.v (.string (mk (ls.getD k2 [])))) [.cells [b,.v (.int .i64 (q2:Int))]]:=⟨q2,by omega,by simp only[nw];omega,⟨_,rfl,by
     have:=hls (ls.getD k2 []) (by simp[aa,hk]);simp only[nD];omega⟩,rfl⟩
    refine⟨⟨ha.1,by omega⟩,?_⟩
    repeat (first|exact this|refine⟨by omega,?_⟩)
   ·refine aP (Ec b l hb q1 (by omega) _ _ (.of [_,_,_,_,_,_]) (by simp) (by simp)) (eS.ne ⟨_,ak,rfl⟩) ?_
    rintro r o ⟨q2,g1,g2,hr,rfl⟩
    obtain⟨s,rfl,hs⟩:=kW.cF (n:=2) (by decide) hr
    simp only[↓zq,zs,ae,aI,hb.has]
    exact⟨q2,by omega,by simp only[nw];omega,⟨s,rfl,by simp only[nD];omega⟩,rfl⟩
  ·refine aP (Ec b l hb p (by omega) _ _ (.of [_,_,_,_,_,_]) (by simp) (by simp)) (eS.ne ⟨_,ak,rfl⟩) ?_
   rintro r o ⟨q2,g1,g2,hr,rfl⟩
   obtain⟨s,rfl,hs⟩:=kW.cF (n:=2) (by decide) hr
   simp only[↓zq,zs,ae,aI,hb.has]
   exact⟨q2,by omega,by simp only[nw];omega,⟨s,rfl,by simp only[nD];omega⟩,rfl⟩
 |
  succ d ih =>
  intro hd p ls a ha hls hll hp
  simp only[nw]at hp
  have hL:=Rd d
  have hC:=Q4 d
  have ih:=ih (by omega)
  have hL8:=Hy d (by omega)
  have ed:IntKind.wrap .i64 (((d+1:Nat):Int)-1)=(d:Int):=by rw[VL.wrap64]<;>omega
  refine Kn _ _ _ _ ha.1 hb.has ?_
  simp only[Hj,↓zq,zs,ae,ha.len,ed]
  refine⟨fun h=>by omega,fun _=>?_⟩
  refine aP (u3 b l hb p 4 (by omega) (by decide)) (eS.ne ⟨0,rfl,fun h=>by omega,by omega⟩) ?_
  rintro r o ⟨q0,a1,a2,⟨k0,rfl,_,_⟩,rfl⟩
  simp only[↓zq,zs,ae,aI,hb.has]
  refine⟨fun _=>⟨ha.1,fun hpos=>?_,fun _=>?_⟩,fun _=>?_⟩
  ·refine aP (u3 b l hb q0 3 (by omega) (by decide)) (eS.ne ⟨0,rfl,fun h=>by omega,by omega⟩) ?_
   rintro r o ⟨q1,h1,h2,⟨k,rfl,h3,h4⟩,rfl⟩
   simp only[↓zq,zs,ae,aI,hb.has]
   refine⟨fun _=>⟨ha.1,?_⟩,fun _=>?_⟩
   ·refine aP (u3 b l hb q1 ls.length (by omega) (by simp[pT];omega)) (eS.ne ⟨0,rfl,fun h=>by omega,by omega⟩) ?_
    rintro r o ⟨q2,g1,g2,⟨k2,rfl,g3,g4⟩,rfl⟩
    have hk:=g3 (by omega)
    simp only[↓zq,zs,ae,aI,hb.has,bH,ha.idx hk]
    have:eS b p (nw (d+1)) (gr (nD (d+1))) (.v (.string (mk (ls.getD k2 [])))) [.cells [b,.v (.int .i64 (q2:Int))]]:=⟨q2,by omega,by simp only[nw];omega,⟨_,rfl,by
     have:=hls (ls.getD k2 []) (by simp[aa,hk]);simp only[nD];omega⟩,rfl⟩
    refine⟨⟨ha.1,by omega⟩,?_⟩
    repeat (first|exact this|refine⟨by omega,?_⟩)
   ·refine aP (Ec b l hb q1 (by omega) _ _ (.of [_,_,_,_,_,_]) (by simp) (by simp)) (eS.ne ⟨_,ak,rfl⟩) ?_
    rintro r o ⟨q2,g1,g2,hr,rfl⟩
    obtain⟨s,rfl,hs⟩:=kW.cF (n:=2) (by decide) hr
    simp only[↓zq,zs,ae,aI,hb.has]
    exact⟨q2,by omega,by simp only[nw];omega,⟨s,rfl,by simp only[nD];omega⟩,rfl⟩
  ·refine aP (Ec b l hb q0 (by omega) _ _ (.of [_,_,_,_,_,_]) (by simp) (by simp)) (eS.ne ⟨_,ak,rfl⟩) ?_
   rintro r o ⟨q2,g1,g2,hr,rfl⟩
   obtain⟨s,rfl,hs⟩:=kW.cF (n:=2) (by decide) hr
   simp only[↓zq,zs,ae,aI,hb.has]
   exact⟨q2,by omega,by simp only[nw];omega,⟨s,rfl,by simp only[nD];omega⟩,rfl⟩
  ·refine aP (u3 b l hb q0 5 (by omega) (by decide)) (eS.ne ⟨0,rfl,fun h=>by omega,by omega⟩) ?_
   rintro r o ⟨q1,b1,b2,⟨k1,rfl,c3,_⟩,rfl⟩
   have hk1:=c3 (by omega)
   obtain rfl|rfl|rfl|rfl|rfl:k1=0\/k1=1\/k1=2\/k1=3\/k1=4:=by omega
   ·simp only[↓zq,zs,ae,aI,hb.has]
    refine⟨fun _=>?_,fun h=>absurd rfl h⟩
    refine aP (ih q1 ls a ha hls (by omega) (by omega)) (eS.ne ⟨[],rfl,by simp⟩) ?_
    rintro r o ⟨q2,d1,d2,⟨s1,rfl,d3⟩,rfl⟩
    simp only[↓zq,zs,ae,zt,aI,hb.has,aq]
    repeat refine⟨by first|omega|(simp only[aq,aA,aG];omega),?_⟩
    refine aP (ih q2 ls a ha hls (by omega) (by omega)) (eS.ne ⟨[],rfl,by simp⟩) ?_
    rintro r o ⟨q3,e1,e2,⟨s2,rfl,e3⟩,rfl⟩
    simp only[↓zq,zs,ae,zt,aI,hb.has,aq]
    have fin:∀s:List UInt8,s.length<=nD (d+1)->eS b p (nw (d+1)) (gr (nD (d+1))) (.v (.string (mk s))) [.cells [b,.v (.int .i64 (q3:Int))]]:=fun s hs=>⟨q3,by omega,by simp only[nw];omega,⟨s,rfl,hs⟩,rfl⟩
    repeat (first|exact fin _ (by simp only[aq,aA,aG,nD];omega)|refine⟨by first|omega|(simp only[aq,aA,aG];omega),?_⟩)
   ·simp only[↓zq,zs,ae,aI,hb.has]
    refine⟨fun h=>by omega,fun _=>⟨fun _=>?_,fun h=>absurd rfl h⟩⟩
    refine aP (ih q1 ls a ha hls (by omega) (by omega)) (eS.ne ⟨[],rfl,by simp⟩) ?_
    rintro r o ⟨q2,d1,d2,⟨s1,rfl,d3⟩,rfl⟩
    simp only[↓zq,zs,ae,zt,aI,hb.has,aq]
    repeat refine⟨by first|omega|(simp only[aq,aA,aG];omega),?_⟩
    refine aP (ih q2 ls a ha hls (by omega) (by omega)) (eS.ne ⟨[],rfl,by simp⟩) ?_
    rintro r o ⟨q3,e1,e2,⟨s2,rfl,e3⟩,rfl⟩
    simp only[↓zq,zs,ae,zt,aI,hb.has,aq]
    have fin:∀s:List UInt8,s.length<=nD (d+1)->eS b p (nw (d+1)) (gr (nD (d+1))) (.v (.string (mk s))) [.cells [b,.v (.int .i64 (q3:Int))]]:=fun s hs=>⟨q3,by omega,by simp only[nw];omega,⟨s,rfl,hs⟩,rfl⟩
    repeat (first|exact fin _ (by simp only[aq,aA,aG,nD];omega)|refine⟨by first|omega|(simp only[aq,aA,aG];omega),?_⟩)
   ·simp only[↓zq,zs,ae,aI,hb.has]
    refine⟨fun h=>by omega,fun _=>⟨fun h=>by omega,fun _=>⟨fun _=>?_,fun h=>absurd rfl h⟩⟩⟩
    refine aP (ih q1 ls a ha hls (by omega) (by omega)) (eS.ne ⟨[],rfl,by simp⟩) ?_
    rintro r o ⟨q2,d1,d2,⟨s1,rfl,d3⟩,rfl⟩
    simp only[↓zq,zs,ae,zt,aI,hb.has,aq]
    repeat refine⟨by first|omega|(simp only[aq,aA,aG];omega),?_⟩
    refine aP (ih q2 ls a ha hls (by omega) (by omega)) (eS.ne ⟨[],rfl,by simp⟩) ?_
    rintro r o ⟨q3,e1,e2,⟨s2,rfl,e3⟩,rfl⟩
    simp only[↓zq,zs,ae,zt,aI,hb.has,aq]
    have fin:∀s:List UInt8,s.length<=nD (d+1)->eS b p (nw (d+1)) (gr (nD (d+1))) (.v (.string (mk s))) [.cells [b,.v (.int .i64 (q3:Int))]]:=fun s hs=>⟨q3,by omega,by simp only[nw];omega,⟨s,rfl,hs⟩,rfl⟩
    repeat (first|exact fin _ (by simp only[aq,aA,aG,nD];omega)|refine⟨by first|omega|(simp only[aq,aA,aG];omega),?_⟩)
   ·simp only[↓zq,zs,ae,aI,hb.has]
    refine⟨fun h=>by omega,fun _=>⟨fun h=>by omega,fun _=>⟨fun h=>by omega,fun _=>⟨fun _=>?_,fun h=>absurd rfl h⟩⟩⟩⟩
    refine aP (ih q1 ls a ha hls (by omega) (by omega)) (eS.ne ⟨[],rfl,by simp⟩) ?_
    rintro r o ⟨q2,d1,d2,⟨s1,rfl,d3⟩,rfl⟩
    simp only[↓zq,zs,ae,zt,aI,hb.has,aq]
    repeat refine⟨by first|omega|(simp only[aq,aA,aG];omega),?_⟩
    refine aP (ih q2 ls a ha hls (by omega) (by omega)) (eS.ne ⟨[],rfl,by simp⟩) ?_
    rintro r o ⟨q3,e1,e2,⟨s2,rfl,e3⟩,rfl⟩
    simp only[↓zq,zs,ae,zt,aI,hb.has,aq]
    have fin:∀s:List UInt8,s.length<=nD (d+1)->eS b p (nw (d+1)) (gr (nD (d+1))) (.v (.string (mk s))) [.cells [b,.v (.int .i64 (q3:Int))]]:=fun s hs=>⟨q3,by omega,by simp only[nw];omega,⟨s,rfl,hs⟩,rfl⟩
    repeat (first|exact fin _ (by simp only[aq,aA,aG,nD];omega)|refine⟨by first|omega|(simp only[aq,aA,aG];omega),?_⟩)
   ·simp only[↓zq,zs,ae,aI,hb.has]
    refine⟨fun h=>by omega,fun _=>⟨fun h=>by omega,fun _=>⟨fun h=>by omega,fun _=>⟨fun h=>by omega,fun _=>?_⟩⟩⟩⟩
    refine aP (Ec b l hb q1 (by omega) _ _ (.of [_,_,_]) (by simp) (by simp)) (eS.ne ⟨_,ak,rfl⟩) ?_
    rintro r o ⟨q2,g1,g2,hr,rfl⟩
    obtain⟨s,rfl,hs⟩:=kW.cF (n:=2) (by decide) hr
    simp only[↓zq,zs,ae,zt,aI,hb.has]
    repeat refine⟨by first|omega|(simp only[aq,aA,aG];omega),?_⟩
    refine aV (wZ ls a ha s (by omega)) ?_
    simp only[↓zq,zs,ae,Ob.es,aJ]
    refine⟨dJ _,?_⟩
    refine aP (ih q2 (ls++[s]) _ (.of _) (fun w hw=>by
     rcases aO.1 hw with hw|hw
     ·exact hls w hw
     ·simp at hw;rw[hw];exact hs) (by simp;omega) (by omega)) (eS.ne ⟨[],rfl,by simp⟩) ?_
    rintro r o ⟨q3,e1,e2,⟨s2,rfl,e3⟩,rfl⟩
    simp only[↓zq,zs,ae,zt,aI,hb.has,aq]
    have fin:∀s:List UInt8,s.length<=nD (d+1)->eS b p (nw (d+1)) (gr (nD (d+1))) (.v (.string (mk s))) [.cells [b,.v (.int .i64 (q3:Int))]]:=fun s hs=>⟨q3,by omega,by simp only[nw];omega,⟨s,rfl,hs⟩,rfl⟩
    repeat (first|exact fin _ (by simp only[aq,aA,aG,nD];omega)|refine⟨by first|omega|(simp only[aq,aA,aG];omega),?_⟩)
end Go.Proofs.Trees
namespace Go.Proofs.Trees
open Go Go.VL Go.RowKit
theorem eS.mono{b:AV}{p c c':Nat}{X Y:AV->Prop}(hc:c<=c')(h:∀r,X r->Y r){r:AV}{o:List Ob}(hr:eS b p c X r o):eS b p c' Y r o:=by
 obtain⟨q,h1,h2,h3,h4⟩:=hr;exact⟨q,h1,by omega,h r h3,h4⟩
theorem gr.le{n m:Nat}(h:n<=m){r:AV}(hr:gr n r):gr m r:=by obtain⟨s,h1,h2⟩:=hr;exact⟨s,h1,by omega⟩
theorem R2(b:AV)(l:List UInt8)(hb:sC b l)(p:Nat)(hp:p<pT):an Tryz.prog 143 [.ref 0 0] [.cells [b,.v (.int .i64 (p:Int))]] (eS b p 100 (gr 200)):=by
 refine Qn _ _ hb.has ?_
 unfold LU
 have hfar:pT=1000000000000000:=rfl
 refine aP (u3 b l hb p 12 (by omega) (by decide)) (eS.ne ⟨0,rfl,fun h=>by omega,by omega⟩) ?_
 rintro r o ⟨q,h1,h2,⟨k,rfl,_,_⟩,rfl⟩
 have kn:∀(c m:Nat) (r:AV) (o:List Ob),c<=90->m<=200->eS b q c (gr m) r o->∃q':Nat,∃s:List UInt8,r=.v (.string (mk s))/\o=[.cells [b,.v (.int .i64 (q':Int))]]/\eS b p 100 (gr 200) (.v (.string (mk s))) [.cells [b,.v (.int .i64 (q':Int))]]:=by
  rintro c m r o hc hm ⟨q',g1,g2,⟨s,rfl,hs⟩,rfl⟩
  exact⟨q',s,rfl,rfl,q',by omega,by omega,⟨s,rfl,by omega⟩,rfl⟩
 simp only[↓zq,zs,ae,aI,hb.has]
 refine⟨fun _=>?_,fun _=>⟨fun _=>?_,fun _=>⟨fun _=>?_,fun _=>⟨fun _=>?_,fun _=>⟨fun _=>?_,fun _=>?_⟩⟩⟩⟩⟩
 ·refine aP (Ec b l hb q (by omega) _ _ (.of [_,_,_,_,_,_,_,_,_]) (by simp) (by simp)) (eS.ne ⟨_,ak,rfl⟩) ?_
  intro r o hr
  obtain⟨q',s,rfl,rfl,hd⟩:=kn 1 20 r o (by omega) (by omega) (hr.mono (au _) fun r h=>kW.cF (n:=20) (by decide) h)
  simp only[↓zq,zs,ae,aI,hb.has];exact hd
 ·refine aP (A5 b l hb q (by omega)) (eS.ne ⟨[],rfl,by simp⟩) ?_
  intro r o hr
  obtain⟨q',s,rfl,rfl,hd⟩:=kn _ _ r o (by omega) (by omega) hr
  simp only[↓zq,zs,ae,aI,hb.has];exact hd
 ·refine aP (A5 b l hb q (by omega)) (eS.ne ⟨[],rfl,by simp⟩) ?_
  intro r o hr
  obtain⟨q',s,rfl,rfl,hd⟩:=kn _ _ r o (by omega) (by omega) hr
  simp only[↓zq,zs,ae,aI,hb.has];exact hd
 ·refine aP (A5 b l hb q (by omega)) (eS.ne ⟨[],rfl,by simp⟩) ?_
  intro r o hr
  obtain⟨q',s,rfl,rfl,hd⟩:=kn _ _ r o (by omega) (by omega) hr
  simp only[↓zq,zs,ae,aI,hb.has];exact hd
 ·refine aP (Hf b l hb 2 (by omega) q [[116],[116,49]] _ (cm.of [[116],[116,49]]) (by decide) (by simp) (by simp[nw];omega)) (eS.ne ⟨[],rfl,by simp⟩) ?_
  intro r o hr
  obtain⟨q',s,rfl,rfl,hd⟩:=kn _ _ r o (by simp[nw]) (by simp[nD]) hr
  simp only[↓zq,zs,ae,aI,hb.has];exact hd
 ·refine aP (Hf b l hb 3 (by omega) q [] _ (cm.of []) (by simp) (by simp) (by simp[nw];omega)) (eS.ne ⟨[],rfl,by simp⟩) ?_
  intro r o hr
  obtain⟨q',s,rfl,rfl,hd⟩:=kn _ _ r o (by simp[nw]) (by simp[nD]) hr
  simp only[↓zq,zs,ae,aI,hb.has];exact hd
def xY(a:AV):Prop:=LK.sl.has a/\∃l:List UInt8,a.elems=qn l
def Pm(r:AV)(o:List Ob):Prop:=∃(b:AV) (l:List UInt8),sC b l/\r=.ref 0 0/\o=[.cells [b,.v (.int .i64 0)]]
theorem Pm.ne:∃r o,Pm r o:=⟨_,_,.v (.slice none 0 0),[],⟨(bh).mpr trivial,rfl,by simp⟩,rfl,rfl⟩
theorem QS(a:AV)(ha:xY a):an Tryz.prog 32 [a] [] Pm:=by
 obtain⟨hs,l,hl⟩:=ha
 have hln:a.elems.length=l.length:=by rw[hl];simp[qn]
 refine Py _ hs ?_
 simp only[KK,↓zq,zs,ae,hln]
 refine⟨hs,fun h=>⟨⟨hs,by omega⟩,?_⟩,fun h=>?_⟩
 ·refine⟨_,l.take 2000,⟨(cg _).mpr trivial,?_,?_⟩,rfl,rfl⟩
  ·rw[fE,hl];simp[qn]
  ·simp;omega
 ·exact⟨a,l,⟨hs,hl,by omega⟩,rfl,rfl⟩
end Go.Proofs.Trees
namespace Go.Proofs.Trees
open Go Go.VL Go.RowKit
theorem AI(b:AV)(l:List UInt8)(hb:sC b l){e:E}(h:Wf e):∀d:Int,d<=-13->-50000+(e.sz:Int)<=d->e.db<=400->j7 b d e (5*e.sz) e.sz:=by
 induction h with
 |
  @atom s hs =>
  intro d h1 h2 h3
  exact(LR b l hb d hs).mono (by simp[E.sz]) (by simp[E.sz])
 |
  @plus x y hx hy i1 i2 =>
  intro d h1 h2 h3
  have h4:=h3
  simp only[E.sz,E.jm,E.db,E.eZ]at h2 h4 |-
  exact(NH b l hb d (by omega) hx hy h3 (5*(x.sz+y.sz)+1) (x.sz+y.sz) ((i1 (d-1) (by omega) (by omega) (by omega)).mono (by omega) (by omega)) ((i2 (d-1) (by omega) (by omega) (by omega)).mono (by omega) (by omega)) (by omega)).mono (by omega) (by omega)
 |
  @times x y hx hy i1 i2 =>
  intro d h1 h2 h3
  have h4:=h3
  simp only[E.sz,E.jm,E.db,E.eZ]at h2 h4 |-
  exact(KA b l hb d (by omega) hx hy (5*x.sz+1) x.sz (5*y.sz+1) y.sz ((i1 (d-1) (by omega) (by omega) (by omega)).mono (by omega) (by omega)) ((i2 (d-1) (by omega) (by omega) (by omega)).mono (by omega) (by omega)) (by omega) (by omega)).mono (by omega) (by omega)
 |
  @rc n x hn hx i =>
  intro d h1 h2 h3
  simp only[E.sz,E.jm]at h2 |-
  exact(Kx b l hb d (by omega) hn hx h3 1 0 (fun h=>absurd h (by omega)) (by omega)).mono (by omega) (by omega)
def pD:Nat->Nat
 |0=>6100
 |n+1=>2*pD n+5
theorem E8:∀n,6100<=pD n
 |0=>au _
 |n+1=>by have:=E8 n;simp only[pD];omega
theorem xC:∀n k:Nat,pD (n+k)+5=2 ^ k*(pD n+5)
 |n,0=>by simp
 |
  n,k+1=>by
  have:=xC n k
  rw[show n+(k+1)=n+k+1 from rfl,pD,Nat.pow_succ,Nat.mul_comm (2 ^ k) 2,Nat.mul_assoc,<-this];omega
theorem Cj{n m:Nat}(h:n<=m):pD n<=pD m:=by
 obtain⟨k,rfl⟩:=Nat.exists_eq_add_of_le h
 have:=xC n k
 have h2:1*(pD n+5)<=2 ^ k*(pD n+5):=a7 _ Nat.one_le_two_pow
 omega
theorem KH:pD 22<=30000000000:=by
 have:=xC 0 22
 simp only[aX]at this
 have h0:pD 0=6100:=rfl
 rw[h0]at this
 omega
theorem yd(b:AV)(l:List UInt8)(hb:sC b l):∀n:Nat,n<=40->∀e,Wf e->e.db<=400->j7 b ((n:Int)-13) e (pD n) (pD n)
 |
  0,hn,e,h,hl=>by
  have:=h.sz
  exact(AI b l hb h _ (by simp) (by simp;omega) hl).mono (by simp only[pD];omega) (by simp only[pD];omega)
 |
  n+1,hn,e,h,hl=>by
  have hb1:=E8 n
  have ih:∀g,Wf g->g.db<=400->j7 b (((n+1:Nat):Int)-13-1) g (pD n) (pD n):=by
   rw[show ((n+1:Nat):Int)-13-1=(n:Int)-13 by omega];exact yd b l hb n (by omega)
  cases h with
  |@atom s hs=>exact(LR b l hb _ hs).mono (by simp only[pD];omega) (by simp only[pD];omega)
  |
   @plus x y hx hy =>
   have h4:=hl
   simp only[E.db,E.eZ]at h4
   exact(NH b l hb _ (by omega) hx hy hl _ _ (ih x hx (by omega)) (ih y hy (by omega)) (by omega)).mono (by simp only[pD];omega) (by simp only[pD];omega)
  |
   @times x y hx hy =>
   simp only[E.db,E.eZ]at hl
   exact(KA b l hb _ (by omega) hx hy _ _ _ _ (ih x hx (by omega)) (ih y hy (by omega)) (by omega) (by omega)).mono (by simp only[pD];omega) (by simp only[pD];omega)
  |@rc m x hm hx=>exact(Kx b l hb _ (by omega) hm hx hl _ _ (fun _=>ih) (by omega)).mono (by simp only[pD];omega) (by simp only[pD];omega)
theorem J0(b:AV)(l:List UInt8)(hb:sC b l)(p:Nat)(hp:p<100000000000000)(s:Nm):an Tryz.prog 39 [.ref 0 0,.v (.string (mk s))] [.cells [b,.v (.int .i64 (p:Int))]] (eS b p 40000000000 (gr 40000000000)):=by
 refine Sj _ _ _ hb.has ?_
 have hfar:pT=1000000000000000:=rfl
 have oneL:∀(q:Nat) (r:AV) (o:List Ob),p<=q->q<=p+1->eS b q 1 (kW [[],[117],[101,48],[101,48,48],[101,49,48,48],[40,108,32,117,41],[40,112,32,117,41],[40,102,32,40,108,32,117,41,41],[40,120,32,117,41],[40,108,32,32,117,41]]) r o->∃q':Nat,∃t:List UInt8,r=.v (.string (mk t))/\o=[.cells [b,.v (.int .i64 (q':Int))]]/\eS b p 40000000000 (gr 40000000000) (.v (.string (mk t))) [.cells [b,.v (.int .i64 (q':Int))]]:=by
  rintro q r o h1 h2 ⟨q',g1,g2,hr,rfl⟩
  obtain⟨t,rfl,ht⟩:=kW.cF (n:=20) (by decide) hr
  exact⟨q',t,rfl,rfl,q',by omega,by omega,⟨t,rfl,by omega⟩,rfl⟩
 unfold KN
 refine aP (GC s) (jI.ne _ _ (fun h=>h)) ?_
 rintro r o ⟨c,d,hd,rfl,hh⟩
 have hhas:bK [.str,.sl] [.v (.string (mk c)),d] 0:=by simp[bK,dY,hd]
 simp only[↓zq,zs,ae,zt]
 refine⟨hhas,fun h=>?_,fun h=>?_⟩
 ·refine aP (Ec b l hb p (by omega) _ _ (.of [_,_,_,_,_,_,_,_,_,_]) (by simp) (by simp)) (eS.ne ⟨_,ak,rfl⟩) ?_
  intro r o hr
  obtain⟨q',t,rfl,rfl,hd⟩:=oneL p r o (au _) (by omega) hr
  simp only[↓zq,zs,ae,aI,hb.has];exact hd
 ·obtain⟨e,he,hce⟩:=hh (by simpa using h)
  obtain⟨t,h1,hA,h3,h4,h5,_⟩:=ia he
  rw[dj]at hce
  simp only[AV.agg.injEq,List.cons.injEq,AV.v.injEq,Value.string.injEq,and_true]at hce
  obtain⟨hc1,rfl⟩:=hce
  have hc2:=mk_inj hc1
  subst hc2
  obtain⟨hw,hwt⟩:=ki e [] t hA.ok (by simp) hA.ty
  have hats:e.db<=400:=by rw[hw.db [],hwt];exact h5
  have hsz:=hw.sz
  refine aP (u3 b l hb p 16 (by omega) (by decide)) (eS.ne ⟨0,rfl,fun h=>by omega,by omega⟩) ?_
  rintro r o ⟨q,h1,h2,⟨k,rfl,_,_⟩,rfl⟩
  simp only[↓zq,zs,ae,aI,hb.has]
  refine⟨fun _=>?_,fun _=>?_⟩
  ·refine aP (Ec b l hb q (by omega) _ _ (.of [_,_,_,_,_,_,_,_,_,_]) (by simp) (by simp)) (eS.ne ⟨_,ak,rfl⟩) ?_
   intro r o hr
   obtain⟨q',t,rfl,rfl,hd⟩:=oneL q r o h1 h2 hr
   simp only[↓zq,zs,ae,aI,hb.has];exact hd
  ·obtain⟨w1,w2,_⟩:=xM (os:=[]) hw
   have hap:=DY hw (.v (.slice none 0 0)) [] ⟨(bh).mpr trivial,rfl⟩ (by omega) (by simp) (by simp)
   refine aj hap ?_
   simp only[↓zq,zs,ae,zt,aM]
   repeat refine⟨by omega,?_⟩
   have hats2:(Aw e []).db<=400:=by rw[w1.db [],w2,<-hw.db []];exact hats
   refine aP (u3 b l hb q 5 (by omega) (by decide)) (eS.ne ⟨0,rfl,fun h=>by omega,by omega⟩) ?_
   rintro r o ⟨q1,g1,g2,⟨k1,rfl,c3,_⟩,rfl⟩
   have hk1:=c3 (by omega)
   simp only[↓zq,zs,ae,zt,aI,hb.has,aM]
   have ed:IntKind.wrap .i64 (5+(k1:Int))=((18+k1:Nat):Int)-13:=by rw[VL.wrap64 _ (by omega) (by omega)];omega
   have hB:=KH
   have hB2:pD (18+k1)<=pD 22:=Cj (by omega)
   have hB3:=E8 (18+k1)
   rw[ed]
   refine aP (yd b l hb (18+k1) (by omega) (Aw e []) w1 hats2 q1 (by omega)) (oY b q1 _ _ (by omega)) ?_
   rintro r o ⟨q2,d1,d2,⟨f,rfl,f1,f2⟩,rfl⟩
   simp only[↓zq,zs,ae,zt,aI,hb.has,aM]
   repeat refine⟨by omega,?_⟩
   have ht:=Dl (f.sz+1) f (by omega) f1 (by omega)
   rw[dj]at ht
   refine aj ht ?_
   simp only[↓zq,zs,ae,zt,aI,hb.has,aM]
   exact⟨q2,by omega,by omega,⟨e9 f,rfl,by omega⟩,rfl⟩
theorem S6(b:AV)(l:List UInt8)(hb:sC b l)(p:Nat)(hp:p<100000000000000):an Tryz.prog 106 [.ref 0 0] [.cells [b,.v (.int .i64 (p:Int))]] (eS b p 200 (gr 200)):=by
 refine Su _ _ hb.has ?_
 unfold Lp
 have hfar:pT=1000000000000000:=rfl
 refine aP (u3 b l hb p 8 (by omega) (by decide)) (eS.ne ⟨0,rfl,fun h=>by omega,by omega⟩) ?_
 rintro r o ⟨q,h1,h2,⟨k,rfl,_,_⟩,rfl⟩
 have kn:∀(c m:Nat) (r:AV) (o:List Ob),c<=190->m<=200->eS b q c (gr m) r o->∃q':Nat,∃s:List UInt8,r=.v (.string (mk s))/\o=[.cells [b,.v (.int .i64 (q':Int))]]/\eS b p 200 (gr 200) (.v (.string (mk s))) [.cells [b,.v (.int .i64 (q':Int))]]:=by
  rintro c m r o hc hm ⟨q',g1,g2,⟨s,rfl,hs⟩,rfl⟩
  exact⟨q',s,rfl,rfl,q',by omega,by omega,⟨s,rfl,by omega⟩,rfl⟩
 have sh:=Hf b l hb 3 (by omega) q [] _ (cm.of []) (by simp) (by simp) (by simp[nw];omega)
 have ty:=R2 b l hb q (by omega)
 have kw:=A5 b l hb q (by omega)
 simp only[↓zq,zs,ae,aI,hb.has]
 refine⟨fun _=>?_,fun _=>⟨fun _=>?_,fun _=>⟨fun _=>?_,fun _=>⟨fun _=>?_,fun _=>?_⟩⟩⟩⟩
 ·refine aP ty (eS.ne ⟨[],rfl,by simp⟩) ?_
  intro r o hr
  obtain⟨q',s,rfl,rfl,hd⟩:=kn _ _ r o (by omega) (by omega) hr
  simp only[↓zq,zs,ae,aI,hb.has];exact hd
 ·refine aP sh (eS.ne ⟨[],rfl,by simp⟩) ?_
  intro r o hr
  obtain⟨q',s,rfl,rfl,hd⟩:=kn _ _ r o (by simp[nw]) (by simp[nD]) hr
  simp only[↓zq,zs,ae,aI,hb.has];exact hd
 ·refine aP sh (eS.ne ⟨[],rfl,by simp⟩) ?_
  intro r o hr
  obtain⟨q',s,rfl,rfl,hd⟩:=kn _ _ r o (by simp[nw]) (by simp[nD]) hr
  simp only[↓zq,zs,ae,aI,hb.has];exact hd
 ·refine aP sh (eS.ne ⟨[],rfl,by simp⟩) ?_
  intro r o hr
  obtain⟨q',s,rfl,rfl,hd⟩:=kn _ _ r o (by simp[nw]) (by simp[nD]) hr
  simp only[↓zq,zs,ae,aI,hb.has];exact hd
 ·refine aP kw (eS.ne ⟨[],rfl,by simp⟩) ?_
  intro r o hr
  obtain⟨q',s,rfl,rfl,hd⟩:=kn _ _ r o (by omega) (by omega) hr
  simp only[↓zq,zs,ae,aI,hb.has];exact hd
def Jw:AV->Prop:=fun r=>∃s t:Nm,r=.cG [.v (.string (mk s)),.v (.string (mk t))]
theorem SM(b:AV)(l:List UInt8)(hb:sC b l)(p:Nat)(hp:p<10000000000000):an Tryz.prog 76 [.ref 0 0] [.cells [b,.v (.int .i64 (p:Int))]] (eS b p 50000000000 Jw):=by
 refine R3 _ _ hb.has ?_
 unfold NF
 refine aP (S6 b l hb p (by omega)) (eS.ne ⟨[],rfl,by simp⟩) ?_
 rintro r o ⟨q,h1,h2,⟨s,rfl,_⟩,rfl⟩
 simp only[↓zq,zs,ae,aI,hb.has]
 refine aP (J0 b l hb q (by omega) s) (eS.ne ⟨[],rfl,by simp⟩) ?_
 rintro r o ⟨q1,g1,g2,⟨t,rfl,_⟩,rfl⟩
 simp only[↓zq,zs,ae,aI,hb.has]
 exact⟨q1,by omega,by omega,⟨s,t,rfl⟩,rfl⟩
theorem Rm(b:AV)(l:List UInt8)(hb:sC b l)(p:Nat)(hp:p<1000000000000):an Tryz.prog 53 [.ref 0 0] [.cells [b,.v (.int .i64 (p:Int))]] (eS b p 60000000000 Jw):=by
 refine QD _ _ hb.has ?_
 unfold KV
 have hfar:pT=1000000000000000:=rfl
 refine aP (A5 b l hb p (by omega)) (eS.ne ⟨[],rfl,by simp⟩) ?_
 rintro r o ⟨q,h1,h2,⟨s,rfl,_⟩,rfl⟩
 simp only[↓zq,zs,ae,aI,hb.has]
 refine aP (u3 b l hb q 12 (by omega) (by decide)) (eS.ne ⟨0,rfl,fun h=>by omega,by omega⟩) ?_
 rintro r o ⟨q1,g1,g2,⟨k,rfl,_,_⟩,rfl⟩
 simp only[↓zq,zs,ae,aI,hb.has]
 refine⟨fun _=>?_,fun _=>?_⟩
 ·refine aP (SM b l hb q1 (by omega)) (eS.ne ⟨[],[],rfl⟩) ?_
  rintro r o ⟨q2,e1,e2,⟨x,y,rfl⟩,rfl⟩
  simp only[↓zq,zs,ae,zt,aI,hb.has]
  exact⟨q2,by omega,by omega,⟨x,y,rfl⟩,rfl⟩
 ·refine aP (J0 b l hb q1 (by omega) s) (eS.ne ⟨[],rfl,by simp⟩) ?_
  rintro r o ⟨q2,e1,e2,⟨t,rfl,_⟩,rfl⟩
  simp only[↓zq,zs,ae,aI,hb.has]
  exact⟨q2,by omega,by omega,⟨s,t,rfl⟩,rfl⟩
end Go.Proofs.Trees
namespace Go.Proofs.Trees
open Go Go.VL Go.RowKit
theorem Bn(w:Nm)(c1 c2:Nm)(d1 d2:AV):an Tryz.prog 81 [.v (.string (mk w)),.sl [[.v (.string (mk c1)),d1],[.v (.string (mk c2)),d2]]] [] (bM (.agg [.v (.string (mk [])),.sl [[.v (.string (mk w)),yx],[.v (.string (mk c1)),d1],[.v (.string (mk c2)),d2]]])):=by
 refine Ot _ _ ((cg _).mpr trivial) ?_
 simp only[G2,↓zq,zs,ae,bM]
 exact⟨⟨fun c hc=>by
  simp only[aL,List.not_mem_nil,or_false]at hc
  rcases hc with rfl|rfl<;>rfl,by omega⟩,rfl⟩
theorem Kl(F:List Nm)(hF:F.length<100000)(c1 c2:Nm)(d1 d2:AV)(h1:LK.sl.has d1)(h2:LK.sl.has d2):∀(n j:Nat),qd F n j<j+n->j+n<100000000 ->
 F1 [.v (.int .i64 (j:Int))] [zE,.cells [.v (.string (mk c1)),d1],.cells [.v (.string (mk c2)),d2],.vec 1 (bE F)] (gZ 1 [.v (.int .i64 (qd F n j:Int))] [zE,.cells [.v (.string (mk c1)),d1],.cells [.v (.string (mk c2)),d2]])
 |0,j,h,_=>by simp only[qd]at h;omega
 |
  n+1,j,h,hj=>by
  refine SQ _ _ _ _ _ _ _ _ ?_
  simp only[MM,↓zq,zs,ae,zt,ae,bh,h1,h2]
  refine aj (zC (j+1) j (by omega) (by omega)) ?_
  have hd:=mQ (j+1) j (by omega)
  simp only[↓zq,zs,ae,zt,bc,aT]
  refine⟨by simp[cM];omega,?_⟩
  refine aj (xD F _ (.of F) (tN j) (by omega)) ?_
  simp only[↓zq,zs,ae,zt]
  rw[qd]at h |-
  refine⟨fun hm=>?_,fun hm=>?_⟩
  ·rw[if_pos hm]at h |-
   rw[bx j (by omega)]
   exact Kl F hF c1 c2 d1 d2 h1 h2 n (j+1) (by omega) (by omega)
  ·rw[if_neg hm]
   exact⟨rfl,rfl,rfl⟩
theorem uP{x:Nm}{a c d:Ty}(h:(pK a x c d).atoms<=400):(sub x (.rc a) c).atoms<=400/\(sub x (.rc a) d).atoms<=400:=by
 simp only[pK,Ty.atoms]at h;omega
theorem Wf.iP{e:E}(h:Wf e){t:Ty}(ht:cR e []=t)(hl:t.atoms<=400):e.db<=400:=by rw[h.db [],ht];exact hl
def Ta(n:Nat):Prop:=∀(e:E) (s:Nm),Wf e->e.db<=n->e.db<=400->qR s->an Tryz.prog 122 [.agg [.v (.string (mk e.at)),e.sp],.v (.string (mk s))] [] (k8 (l5 (cR e []) s))
theorem kg{e:E}{s:Nm}(h:Wf e):∀t,l5 (cR e []) s=some t->fW t:=fun t ht=>h.qB.dv (cQ.1 ht)
theorem rQ{t:Ty}(h:fW t):∀d,nF t=some d->fW d:=fun d hd=>by obtain⟨_,rfl⟩:=eT.1 hd;exact h
theorem SF(n:Nat)(ih:Ta n)(m:Nm)(B:E)(hm:qR m)(hB:Wf B)(hl:(E.list [.atom dE,.atom m,B]).db<=n+1)(hl4:(E.list [.atom dE,.atom m,B]).db<=400)(s:Nm)(hs:qR s) :
 an Tryz.prog 147 [.agg [.v (.string (mk [])),(E.list [.atom dE,.atom m,B]).sp],.v (.string (mk s))] [] (k8 (l5 (cR (.list [.atom dE,.atom m,B]) []) s)):=by
 have hw:Wf (.list [.atom dE,.atom m,B]):=.rc hm hB
 have hsz:=hw.sz
 have hA:=DY hw (.sl [[.v (.string (mk s)),yx]]) [.atom s] ⟨(cg _).mpr trivial,by simp only[fE,E.bw,fI];rfl⟩ (by omega) (fun o ho=>by
  simp only[aL,List.not_mem_nil,or_false]at ho
  subst ho
  exact⟨.atom hs.1,by simp[E.sz]⟩) (by simp)
 have hatsB:B.db+2=(E.list [.atom dE,.atom m,B]).db:=by simp only[E.db,E.eZ];omega
 have hT:cR (.list [.atom dE,.atom m,B]) []=.rc (cR B [m]):=fk _ _ _
 obtain⟨w1,w2,_,_,w5⟩:=kB (AD (.list [.atom dE,.atom m,B]) [.atom s]) (cR (.list [.atom dE,.atom m,B]) []) [] 0 (.nil _ _) (tV hw []) fun y hy=>⟨aD _ ((lY hw [] [] y).2 (.inr hy)),(mY hw [] y hy).1⟩
 have hsF:s∈AD (.list [.atom dE,.atom m,B]) [.atom s]:=aB _ (sn (o:=.atom s) (by simp) (.atom hs.1) (by rw[rn hs];simp[bn]))
 have haF:∀y,bn y (cR B [m])=true->y∈AD (.list [.atom dE,.atom m,B]) [.atom s]:=fun y hy=>aD _ ((lY hw [] [] y).2 (.inr (by rw[hT];exact hy)))
 unfold Aw at hA
 rw[hT]at hA w1 w2 w5
 rw[hT]
 generalize AD (.list [.atom dE,.atom m,B]) [.atom s]=F at *
 obtain⟨_,_,_,hxF⟩:=gv F 0
 simp only[gY,aT]at hA w1 w2 w5
 generalize hxd:tN (nx F 0)=x at *
 have hx:qR x:=by rw[<-hxd];exact yb _
 generalize (gY F (cR B [m]) [x] (nx F 0+1)).1=b at *
 have hb:Wf b:=by cases w1;assumption
 rw[fk]at w2
 have hbt:cR b [x]=cR B [m]:=by injection w2
 have hxa:bn x (cR B [m])=false:=by
  cases q:bn x (cR B [m])with
  |false=>rfl
  |true=>exact absurd (haF x q) hxF
 have hxs:x≠s:=fun e=>hxF (by rw[e];exact hsF)
 generalize cR B [m]=a at *
 have hbo:cR b []=dA (.name x) a 0:=by
  have:=zk x hb []
  rw[cX,hbt]at this;exact this
 have hba:b.db+2=(E.list [.atom dE,.atom m,B]).db:=by
  rw[hw.db [],hT,hb.db [],hbo,fM];simp only[Ty.atoms];omega
 have i1:=ih b s hb (by omega) (by omega) hs
 have i2:=ih b x hb (by omega) (by omega) hx
 have n1:=kg (s:=s) hb
 have n2:=kg (s:=x) hb
 rw[hbo]at i1 i2 n1 n2
 have hP:=P3.of (.atom dE) (.atom x) b
 rw[BM hxa hxs]
 have hE1:Wf (.list [.atom dE,.atom x,b]):=w1
 have hE1t:cR (.list [.atom dE,.atom x,b]) []=.rc a:=by rw[fk];exact w2
 have hE1l:(E.list [.atom dE,.atom x,b]).db<=400:=by
  have:(E.list [.atom dE,.atom x,b]).db=b.db+2:=by simp only[E.db,E.eZ];omega
  omega
 refine Rt _ _ _ ((aY _).mpr trivial) ?_
 unfold OP
 refine aj hA ?_
 simp only[↓zq,zs,ae,zt,aM,bN,toNat_one,bg,hP.1,hP.2.1,hP.2.2.1,hP.2.2.2,dT]
 repeat refine⟨by omega,?_⟩
 refine aP i1 (k8.ne n1) ?_
 rintro r o ⟨rfl,c1,d1,hd1,rfl,hc1⟩
 simp only[↓zq,zs,ae,zt,gC hd1]
 repeat refine⟨by omega,?_⟩
 refine aP i2 (k8.ne n2) ?_
 rintro r o ⟨rfl,c2,d2,hd2,rfl,hc2⟩
 simp only[↓zq,zs,ae,zt,gC hd2]
 cases q1:l5 (dA (.name x) a 0) s with
 |
  none =>
  simp only[bA,bL]
  exact⟨fun _=>k8.no _ _ ((aY _).mpr trivial),fun h=>(by cases h)⟩
 |some c =>
 cases q2:l5 (dA (.name x) a 0) x with
 |
  none =>
  simp only[bA,aW,bL,bb]
  exact⟨fun h=>(by cases h),fun _=>⟨fun _=>k8.no _ _ ((aY _).mpr trivial),fun h=>(by cases h)⟩⟩
 |some d =>
 simp only[aW,bb]
 refine⟨fun h=>(by cases h),fun _=>⟨fun h=>(by cases h),fun _=>?_⟩⟩
 obtain⟨ec,wc,tc,rfl,rfl⟩:=hc1 c q1
 obtain⟨ed,wd,td,rfl,rfl⟩:=hc2 d q2
 have lc:=(cQ.1 q1).small
 have ld:=(cQ.1 q2).small
 have p1:=FI hx wc hE1 (wc.iP tc lc) hE1l
 have p2:=FI hx wd hE1 (wd.iP td ld) hE1l
 have g1:=rQ (hE1.qB.sub (x:=x) wc.qB)
 have g2:=rQ (hE1.qB.sub (x:=x) wd.qB)
 rw[hE1t,tc]at p1 g1
 rw[hE1t,td]at p2 g2
 simp only[bN]at p1 p2
 repeat refine⟨by omega,?_⟩
 refine aP p1 (k8.ne g1) ?_
 rintro r o ⟨rfl,c3,d3,hd3,rfl,hc3⟩
 simp only[↓zq,zs,ae,zt,gC hd3]
 repeat refine⟨by omega,?_⟩
 refine aP p2 (k8.ne g2) ?_
 rintro r o ⟨rfl,c4,d4,hd4,rfl,hc4⟩
 simp only[↓zq,zs,ae,zt,gC hd4]
 have big:∀t:Ty,nF t=none->¬t.atoms<=400:=fun t ht hle=>by unfold nF at ht;rw[if_pos hle]at ht;cases ht
 have out0:(nF (sub x (.rc a) c)=none\/nF (sub x (.rc a) d)=none)->nF (pK a x c d)=none:=fun h=>by
  unfold nF
  rw[if_neg fun hle=>?_]
  have:=uP hle
  rcases h with h|h
  ·exact big _ h this.1
  ·exact big _ h this.2
 cases q3:nF (sub x (.rc a) c)with
 |
  none =>
  rw[out0 (.inl q3)]
  simp only[bA]
  exact⟨fun _=>k8.no _ _ ((aY _).mpr trivial),fun h=>(by cases h)⟩
 |some c' =>
 cases q4:nF (sub x (.rc a) d)with
 |
  none =>
  rw[out0 (.inr q4)]
  simp only[bA,aW]
  exact⟨fun h=>(by cases h),fun _=>⟨fun _=>k8.no _ _ ((aY _).mpr trivial),fun h=>(by cases h)⟩⟩
 |some d' =>
 simp only[aW]
 refine⟨fun h=>(by cases h),fun _=>⟨fun h=>(by cases h),fun _=>?_⟩⟩
 obtain⟨ec',wc',tc',rfl,rfl⟩:=hc3 c' q3
 obtain⟨ed',wd',td',rfl,rfl⟩:=hc4 d' q4
 obtain⟨lc',e3⟩:=eT.1 q3
 obtain⟨ld',e4⟩:=eT.1 q4
 rw[e3]at lc';rw[e4]at ld'
 have z1:=wc'.sz
 have z2:=wd'.sz
 have k1:=wc'.iP tc' lc'
 have k2:=wd'.iP td' ld'
 have f1:=DL wd' [] [] (.sl []) (.of []) (by simp;omega)
 have fl1:=gd ed' [] []
 have fl2:=gd ec' [] (kf ed' [] [])
 simp only[aG,aX]at fl1
 have f2:=DL wc' [] (kf ed' [] []) (.sl []) (.of []) (by simp;omega)
 refine aV f1 ?_
 simp only[↓zq,zs,ae,zt,aJ,bu,Ob.es]
 refine aV f2 ?_
 simp only[↓zq,zs,ae,zt,aJ,bu,Ob.es]
 have hF3:∀y,(bn y c'=true\/bn y d'=true)->y∈kf ec' [] (kf ed' [] []):=fun y hy=>by
  rw[lY wc',lY wd']
  rcases hy with hy|hy
  ·exact .inr (by rw[tc'];exact hy)
  ·exact .inl (.inr (by rw[td'];exact hy))
 generalize kf ec' [] (kf ed' [] [])=F3 at *
 obtain⟨_,y2,_,hyF⟩:=gv F3 0
 refine cA (Kl F3 (by omega) _ _ _ _ ((aY _).mpr trivial) ((aY _).mpr trivial) (F3.length+1) 0 (by show nx F3 0<_;omega) (by omega)) ?_
 have hnx:qd F3 (F3.length+1) 0=nx F3 0:=rfl
 rw[hnx]
 simp only[↓zq,zs,ae,zt,ae,aI,bh,aY]
 refine aj (zC (nx F3 0+1) (nx F3 0) (by omega) (by omega)) ?_
 have hdl:=mQ (nx F3 0+1) (nx F3 0) (by omega)
 simp only[↓zq,zs,ae,zt,bc,aT]
 refine⟨by omega,?_⟩
 obtain⟨y,hyd⟩:∃y:Nm,(116::dd (nx F3 0):Nm)=y:=⟨_,rfl⟩
 rw[hyd]
 rw[show tN (nx F3 0)=y from hyd]at hyF
 have hy:qR y:=by rw[<-hyd];exact yb _
 have hcy:cR ec' [y]=c':=by
  have:=uq [y] wc' [] (fun z hz hm=>hyF (by
   simp only[aQ]at hm
   rw[<-hm];exact hF3 z (.inl (by rw[<-tc'];exact hz))))
  rw[cX,tc']at this;exact this
 have hdy:cR ed' [y]=d':=by
  have:=uq [y] wd' [] (fun z hz hm=>hyF (by
   simp only[aQ]at hm
   rw[<-hm];exact hF3 z (.inr (by rw[<-td'];exact hz))))
  rw[cX,td']at this;exact this
 have hyb:cR (.atom y) [y]=.bound 0:=by
  simp only[cR];rw[if_neg hy.2.1,if_neg hy.2.2,show bR y [y] [y].length=some 0 from fq y []]
 let o1:E:=.list [.atom [42],ed',.atom y]
 let o2:E:=.list [.atom [43],ec',o1]
 let o3:E:=.list [.atom dE,.atom y,o2]
 have hw3:Wf o3:=.rc hy (.plus wc' (.times wd' (.atom hy.1)))
 have ht3:cR o3 []=pK a x c d:=by
  show cR (.list [.atom dE,.atom y,o2]) []=_
  rw[fk]
  show Ty.rc (cR (.list [.atom [43],ec',o1]) [y])=_
  rw[dM]
  show Ty.rc (.plus (cR ec' [y]) (cR (.list [.atom [42],ed',.atom y]) [y]))=_
  rw[du,hcy,hdy,hyb,pK,e3,e4]
 have m1:=xO [42] ed' (.atom y)
 have m2:=xO [43] ec' o1
 have m3:=xO dE (.atom y) o2
 simp only[o1,bN,dT]at m1 m2 m3
 refine aj m1 ?_
 simp only[↓zq,zs,ae,zt,aM]
 repeat refine⟨by omega,?_⟩
 refine aj m2 ?_
 simp only[↓zq,zs,ae,zt,aM]
 repeat refine⟨by omega,?_⟩
 refine aj m3 ?_
 simp only[↓zq,zs,ae,zt,aM]
 repeat refine⟨by omega,?_⟩
 have z3:=hw3.sz
 have hats3:o3.db=ec'.db+ed'.db+5:=by simp only[o3,o2,o1,E.db,E.eZ];omega
 have ma:=Dk o3 hw3.ok (by omega)
 rw[dj]at ma
 simp only[o3,o2,o1,bN]at ma
 refine aj ma ?_
 simp only[↓zq,zs,ae,zt]
 have hd3:(pK a x c d).atoms=o3.db:=by rw[<-ht3,<-hw3.db []]
 unfold nF
 by_cases hle:(pK a x c d).atoms<=400
 ·rw[if_pos hle]
  have:=k8.of hw3
  rw[ht3]at this
  rw[show decide ((((E.list [.atom dE,.atom y,.list [.atom [43],ec',.list [.atom [42],ed',.atom y]]]).db:Nat):Int)<=400)=true from decide_eq_true (by show ((o3.db:Nat):Int)<=400;omega)]
  exact this
 ·rw[if_neg hle]
  rw[show decide ((((E.list [.atom dE,.atom y,.list [.atom [43],ec',.list [.atom [42],ed',.atom y]]]).db:Nat):Int)<=400)=false from decide_eq_false (by show ¬((o3.db:Nat):Int)<=400;omega)]
  exact k8.no _ _ ((aY o3).mpr trivial)
theorem zF:∀n,Ta n
 |0=>fun e s h hl=>by have:=eu (cR e []);rw[<-h.db []]at this;omega
 |
  n+1=>by
  intro e s h hl h4 hs
  cases h with
  |
   @atom c hc =>
   refine Ez _ _ _ ((aY _).mpr trivial) ?_
   simp only[Bk,dT,↓zq,zs,ae,zt]
   refine⟨fun _=>⟨fun he=>?_,fun hne=>?_⟩,fun h=>absurd h hc⟩
   ·have he:c=s:=he
    subst he
    rw[rn hs,oq,if_pos rfl]
    exact k8.of (e:=.atom [49]) (.atom (by simp))
   ·have hne:¬c=s:=hne
    have:l5 (cR (.atom c) []) s=some .zero:=by
     simp only[cR]
     split
     ·exact vr _
     ·split
      ·exact yR _
      ·rw[show bR c [] ([]:List Nm).length=none from rfl,oq,if_neg hne]
    rw[this]
    exact k8.of (e:=.atom [48]) (.atom (by simp))
  |
   @plus x y hx hy =>
   have hxy:(E.list [.atom [43],x,y]).db=x.db+y.db+1:=by simp only[E.db,E.eZ];omega
   have p1:1<=x.db:=by rw[hx.db []];exact eu _
   have p2:1<=y.db:=by rw[hy.db []];exact eu _
   refine Ez _ _ _ ((aY _).mpr trivial) ?_
   have hP:=P3.of (.atom [43]) x y
   simp only[Bk,bN,toNat_one,bg,↓zq,zs,ae,zt,hP.1,hP.2.1,hP.2.2.1,hP.2.2.2,aM]
   refine⟨fun h=>absurd rfl h,fun _=>?_⟩
   refine aj (oe [43] x y) ?_
   simp only[↓zq,zs,ae,zt]
   refine⟨fun h=>by simp at h,fun _=>?_⟩
   repeat refine⟨by omega,?_⟩
   rw[dM,wy]
   refine aP (zF n x s hx (by omega) (by omega) hs) (k8.ne (kg hx)) ?_
   rintro r o ⟨rfl,c1,d1,hd1,rfl,hc1⟩
   simp only[↓zq,zs,ae,zt,gC hd1]
   repeat refine⟨by omega,?_⟩
   refine aP (zF n y s hy (by omega) (by omega) hs) (k8.ne (kg hy)) ?_
   rintro r o ⟨rfl,c2,d2,hd2,rfl,hc2⟩
   simp only[↓zq,zs,ae,zt,gC hd2]
   refine aj (Bn [43] c1 c2 d1 d2) ?_
   simp only[↓zq,zs,ae,zt,bK,dY,cg]
   repeat refine⟨by omega,?_⟩
   refine aj (oe [43] x y) ?_
   simp only[↓zq,zs,ae,zt]
   refine⟨fun h=>by simp at h,fun _=>?_⟩
   cases q1:l5 (cR x []) s with
   |
    none =>
    simp only[bA,bL]
    exact⟨fun h=>(by cases h),fun _=>k8.no _ _ ((cg _).mpr trivial)⟩
   |some tx =>
   cases q2:l5 (cR y []) s with
   |
    none =>
    simp only[bA,aW,bL,bb]
    exact⟨fun _=>⟨fun h=>(by cases h),fun _=>k8.no _ _ ((cg _).mpr trivial)⟩,fun h=>(by cases h)⟩
   |some t2 =>
   simp only[aW,bb]
   refine⟨fun _=>⟨fun _=>?_,fun h=>(by cases h)⟩,fun h=>(by cases h)⟩
   obtain⟨e1,w1,te1,rfl,rfl⟩:=hc1 tx q1
   obtain⟨e2,w2,te2,rfl,rfl⟩:=hc2 t2 q2
   have l1:=w1.iP te1 (cQ.1 q1).small
   have l2:=w2.iP te2 (cQ.1 q2).small
   have z1:=w1.sz
   have z2:=w2.sz
   have hw3:Wf (.list [.atom [43],e1,e2]):=.plus w1 w2
   have ht3:cR (.list [.atom [43],e1,e2]) []=.plus tx t2:=by rw[dM,te1,te2]
   have ma:=Dk _ hw3.ok (by simp only[E.sz,E.jm];omega)
   rw[dj]at ma
   simp only[bN]at ma
   have e3:AV.sl [[.v (.string (mk [43])),yx],[.v (.string (mk e1.at)),e1.sp],[.v (.string (mk e2.at)),e2.sp]]=(E.list [.atom [43],e1,e2]).sp:=by simp only[E.sp,E.bw,fI];rfl
   rw[e3]
   refine aj ma ?_
   simp only[↓zq,zs,ae,zt]
   have hd3:(Ty.plus tx t2).atoms=(E.list [.atom [43],e1,e2]).db:=by rw[<-ht3,<-hw3.db []]
   unfold nF
   by_cases hle:(Ty.plus tx t2).atoms<=400
   ·rw[if_pos hle,show decide ((((E.list [.atom [43],e1,e2]).db:Nat):Int)<=400)=true from decide_eq_true (by omega)]
    have:=k8.of hw3
    rw[ht3]at this
    exact this
   ·rw[if_neg hle,show decide ((((E.list [.atom [43],e1,e2]).db:Nat):Int)<=400)=false from decide_eq_false (by omega)]
    exact k8.no _ _ ((aY _).mpr trivial)
  |
   @times x y hx hy =>
   have hxy:(E.list [.atom [42],x,y]).db=x.db+y.db+1:=by simp only[E.db,E.eZ];omega
   have p1:1<=x.db:=by rw[hx.db []];exact eu _
   have p2:1<=y.db:=by rw[hy.db []];exact eu _
   refine Ez _ _ _ ((aY _).mpr trivial) ?_
   have hP:=P3.of (.atom [42]) x y
   simp only[Bk,bN,toNat_one,bg,↓zq,zs,ae,zt,hP.1,hP.2.1,hP.2.2.1,hP.2.2.2,aM]
   refine⟨fun h=>absurd rfl h,fun _=>?_⟩
   refine aj (oe [42] x y) ?_
   simp only[↓zq,zs,ae,zt]
   refine⟨fun h=>by simp at h,fun _=>?_⟩
   repeat refine⟨by omega,?_⟩
   rw[du,tD]
   refine aP (zF n x s hx (by omega) (by omega) hs) (k8.ne (kg hx)) ?_
   rintro r o ⟨rfl,c1,d1,hd1,rfl,hc1⟩
   simp only[↓zq,zs,ae,zt,gC hd1]
   repeat refine⟨by omega,?_⟩
   refine aP (zF n y s hy (by omega) (by omega) hs) (k8.ne (kg hy)) ?_
   rintro r o ⟨rfl,c2,d2,hd2,rfl,hc2⟩
   simp only[↓zq,zs,ae,zt,gC hd2]
   refine aj (Bn [43] c1 c2 d1 d2) ?_
   simp only[↓zq,zs,ae,zt,bK,dY,cg]
   repeat refine⟨by omega,?_⟩
   refine aj (oe [42] x y) ?_
   simp only[↓zq,zs,ae,zt]
   refine⟨fun _=>?_,fun h=>by simp at h⟩
   repeat refine⟨by omega,?_⟩
   refine aj (Bn [42] c1 y.at d1 y.sp) ?_
   simp only[↓zq,zs,ae,zt,bK,dY,cg,aY]
   repeat refine⟨by omega,?_⟩
   refine aj (Bn [42] x.at c2 x.sp d2) ?_
   simp only[↓zq,zs,ae,zt,bK,dY,cg,aY]
   repeat refine⟨by omega,?_⟩
   refine aj (Bn [43] [] [] _ _) ?_
   simp only[↓zq,zs,ae,zt,bK,dY,cg]
   repeat refine⟨by omega,?_⟩
   cases q1:l5 (cR x []) s with
   |
    none =>
    simp only[bA,bL]
    exact⟨fun h=>(by cases h),fun _=>k8.no _ _ ((cg _).mpr trivial)⟩
   |some tx =>
   cases q2:l5 (cR y []) s with
   |
    none =>
    simp only[bA,aW,bL,bb]
    exact⟨fun _=>⟨fun h=>(by cases h),fun _=>k8.no _ _ ((cg _).mpr trivial)⟩,fun h=>(by cases h)⟩
   |some t2 =>
   simp only[aW,bb]
   refine⟨fun _=>⟨fun _=>?_,fun h=>(by cases h)⟩,fun h=>(by cases h)⟩
   obtain⟨e1,w1,te1,rfl,rfl⟩:=hc1 tx q1
   obtain⟨e2,w2,te2,rfl,rfl⟩:=hc2 t2 q2
   have l1:=w1.iP te1 (cQ.1 q1).small
   have l2:=w2.iP te2 (cQ.1 q2).small
   have z1:=w1.sz
   have z2:=w2.sz
   have z3:=hx.sz
   have z4:=hy.sz
   have hw3:Wf (.list [.atom [43],.list [.atom [42],e1,y],.list [.atom [42],x,e2]]):=.plus (.times w1 hy) (.times hx w2)
   have ht3:cR (.list [.atom [43],.list [.atom [42],e1,y],.list [.atom [42],x,e2]]) []=.plus (.times tx (cR y [])) (.times (cR x []) t2):=by rw[dM,du,du,te1,te2]
   have ma:=Dk _ hw3.ok (by simp only[E.sz,E.jm];omega)
   rw[dj]at ma
   simp only[bN]at ma
   have e3:AV.sl [[.v (.string (mk [43])),yx],[.v (.string (mk [])),.sl [[.v (.string (mk [42])),yx],[.v (.string (mk e1.at)),e1.sp],[.v (.string (mk y.at)),y.sp]]],[.v (.string (mk [])),.sl [[.v (.string (mk [42])),yx],[.v (.string (mk x.at)),x.sp],[.v (.string (mk e2.at)),e2.sp]]]]=(E.list [.atom [43],.list [.atom [42],e1,y],.list [.atom [42],x,e2]]).sp:=by simp only[E.sp,E.bw,fI];rfl
   rw[e3]
   refine aj ma ?_
   simp only[↓zq,zs,ae,zt]
   have hd3:(Ty.plus (.times tx (cR y [])) (.times (cR x []) t2)).atoms=(E.list [.atom [43],.list [.atom [42],e1,y],.list [.atom [42],x,e2]]).db:=by rw[<-ht3,<-hw3.db []]
   unfold nF
   by_cases hle:(Ty.plus (.times tx (cR y [])) (.times (cR x []) t2)).atoms<=400
   ·rw[if_pos hle,show decide ((((E.list [.atom [43],.list [.atom [42],e1,y],.list [.atom [42],x,e2]]).db:Nat):Int)<=400)=true from decide_eq_true (by omega)]
    have:=k8.of hw3
    rw[ht3]at this
    exact this
   ·rw[if_neg hle,show decide ((((E.list [.atom [43],.list [.atom [42],e1,y],.list [.atom [42],x,e2]]).db:Nat):Int)<=400)=false from decide_eq_false (by omega)]
    exact k8.no _ _ ((aY _).mpr trivial)
  |
   @rc m B hm hB =>
   have hlp:=SF n (zF n) m B hm hB hl h4 s hs
   have hg:=kg (s:=s) (Wf.rc hm hB)
   refine Ez _ _ _ ((aY _).mpr trivial) ?_
   have hP:=P3.of (.atom dE) (.atom m) B
   simp only[Bk,bN,toNat_one,bg,↓zq,zs,ae,zt,hP.1,hP.2.1,hP.2.2.1,hP.2.2.2,aM]
   refine⟨fun h=>absurd rfl h,fun _=>?_⟩
   refine aj (oe dE (.atom m) B) ?_
   simp only[↓zq,zs,ae,zt]
   refine⟨fun _=>?_,fun h=>absurd rfl h⟩
   refine aP hlp (k8.ne hg) ?_
   rintro r o ⟨rfl,c1,d1,hd1,rfl,hc1⟩
   simp only[↓zq,zs,ae,zt,gC hd1]
   exact⟨rfl,c1,d1,hd1,rfl,hc1⟩
end Go.Proofs.Trees
namespace Go.Proofs.Trees
open Go Go.VL Go.RowKit
theorem pe:∀(n k:Nat),k<10 ^ (n+1)->(dd k).length<=n+1
 |0,k,h=>by rw[eH (by omega)];simp
 |
  n+1,k,h=>by
  by_cases h1:k<10
  ·rw[eH h1];simp
  ·rw[fQ h1]
   have:=pe n (k/10) (by
    have:10 ^ (n+1+1)=10*10 ^ (n+1):=by rw[Nat.pow_succ,Nat.mul_comm]
    omega)
   simp;omega
inductive Sh:E->Prop
 |atom {s:Nm} (h:s.length<=20):Sh (.atom s)
 |l3 {h:Nm} {a b:E} (hh:h.length<=20) (ha:Sh a) (hb:Sh b):Sh (.list [.atom h,a,b])
theorem Sh.cF{e:E}(hw:Wf e)(h:Sh e):(e9 e).length<=50*e.db:=by
 induction hw with
 |atom _=>cases h with|atom h=>simp only[e9,E.db];omega
 |
  plus _ _ i1 i2 =>
  cases h with|l3 hh ha hb =>
  have:=i1 ha
  have:=i2 hb
  simp only[e9,ej,aA,aq,aG,E.db,E.eZ];omega
 |
  times _ _ i1 i2 =>
  cases h with|l3 hh ha hb =>
  have:=i1 ha
  have:=i2 hb
  simp only[e9,ej,aA,aq,aG,E.db,E.eZ];omega
 |
  rc _ _ i =>
  cases h with|l3 hh ha hb =>
  cases ha with|atom ha =>
  have:=i hb
  simp only[e9,ej,aA,aq,aG,E.db,E.eZ];omega
def vc(t:Ty):Prop:=∀y,bn y t=true->y.length<=20
theorem xg{k:Nat}(h:k<100000000):(tN k).length<=20:=by
 have:=pe 7 k (by omega)
 simp;omega
theorem pM(F:List Nm)(hF:F.length<=10000):∀(t:Ty) (to:List Nm) (k:Nat),vc t->(∀w,w∈to->w.length<=20)->k+(F.length+1)*t.atoms<90000000->Sh (gY F t to k).1
 | .zero,_,_,_,_,_=>.atom (by simp)
 | .one,_,_,_,_,_=>.atom (by simp)
 | .name s,_,_,hn,_,_=>.atom (hn s (by simp[bn]))
 |
  .bound u,to,_,_,ht,_=>by
  refine .atom ?_
  show (gk to u).length<=20
  unfold gk
  by_cases h:to.length-1-u<to.length
  ·rw[aa,bp h];exact ht _ (bD h)
  ·rw[aa,List.getElem?_eq_none (by omega)];simp
 |
  .plus a b,to,k,hn,ht,hk=>by
  have h1:=il F a to k
  have:(F.length+1)*(1+a.atoms+b.atoms)=(F.length+1)+(F.length+1)*a.atoms+(F.length+1)*b.atoms:=by simp only[cT,dG]
  simp only[Ty.atoms]at hk
  exact .l3 (by simp) (pM F hF a to k (fun y hy=>hn y (by simp[bn,hy])) ht (by omega)) (pM F hF b to _ (fun y hy=>hn y (by simp[bn,hy])) ht (by omega))
 |
  .times a b,to,k,hn,ht,hk=>by
  have h1:=il F a to k
  have:(F.length+1)*(1+a.atoms+b.atoms)=(F.length+1)+(F.length+1)*a.atoms+(F.length+1)*b.atoms:=by simp only[cT,dG]
  simp only[Ty.atoms]at hk
  exact .l3 (by simp) (pM F hF a to k (fun y hy=>hn y (by simp[bn,hy])) ht (by omega)) (pM F hF b to _ (fun y hy=>hn y (by simp[bn,hy])) ht (by omega))
 |
  .rc a,to,k,hn,ht,hk=>by
  obtain⟨g1,g2,_,_⟩:=gv F k
  have:(F.length+1)*(2+a.atoms)=(F.length+1)*2+(F.length+1)*a.atoms:=by simp only[cT]
  simp only[Ty.atoms]at hk
  have hl:=xg (k:=nx F k) (by omega)
  exact .l3 (by simp) (.atom hl) (pM F hF a _ _ hn (fun w hw=>by
   rcases aO.1 hw with hw|hw
   ·exact ht w hw
   ·simp only[aQ]at hw;rw[hw];exact hl) (by omega))
def E6(t:Ty):Nm:=e9 (gY (bQ t []) t [] 0).1
def told(t:Ty):Option Nm:=if t.atoms<=400/\(qT (E6 t)).isSome=true then some (E6 t)else none
theorem EA{t:Ty}(g:fW t)(hs:vc t)(ha:t.atoms<=400):(E6 t).length<=20000:=by
 obtain⟨h1,h2,_⟩:=kB (bQ t []) t [] 0 (.nil _ _) g.1 fun y hy=>⟨(eN t [] y).2 (.inr hy),g.2 y hy⟩
 have hn:=eB t []
 simp only[aG,aX]at hn
 have hm:((bQ t []).length+1)*t.atoms<=401*400:=Nat.mul_le_mul (by omega) ha
 have:=(pM (bQ t []) (by omega) t [] 0 hs (fun w hw=>by cases hw) (by omega)).cF h1
 have:=h1.iP h2 ha
 unfold E6;omega
theorem uJ(s:Nm):(wF s).isSome=(qT s).isSome:=by
 rw[uI]
 cases he:wF s with
 |none=>rfl
 |
  some e =>
  obtain⟨h1,h2,h3⟩:=p8 he
  simp only[i7 e [],h2];rfl
theorem SP(s:Nm):an Tryz.prog 124 [.v (.string (mk s))] [] (bM (.v (.bool (qT s).isSome))):=by
 refine Ro _ ?_
 unfold NR
 refine aP (FJ s) (jI.ne _ _ (fun h=>h)) ?_
 rintro r o ⟨c,d,hd,rfl,hh⟩
 have hhas:bK [.str,.sl] [.v (.string (mk c)),d] 0:=by simp[bK,dY,hd]
 simp only[↓zq,zs,ae,zt,uJ]
 exact⟨hhas,rfl,rfl⟩
theorem Ry{e:E}(h:Wf e)(hl:e.db<=400)(hs:vc (cR e [])):an Tryz.prog 93 [.agg [.v (.string (mk e.at)),e.sp]] [] (bM (oj (told (cR e [])))):=by
 refine Q5 _ _ ((aY _).mpr trivial) ?_
 unfold K3
 have z:=h.sz
 have ma:=Dk e h.ok (by omega)
 rw[dj]at ma
 have hA:=DY h yx [] ⟨(bh).mpr trivial,rfl⟩ (by omega) (fun o ho=>by cases ho) (by simp)
 have ha:(cR e []).atoms<=400:=by rw[<-h.db []];exact hl
 have hc:Aw e []=(gY (bQ (cR e []) []) (cR e []) [] 0).1:=by
  unfold Aw AD rW
  rw[List.flatMap_nil,cX,jK (F':=bQ (cR e []) []) fun y=>by rw[lY h,eN]]
 have hx:e9 (Aw e [])=E6 (cR e []):=by rw[hc];rfl
 have hlen:=EA h.qB hs ha
 have hT:=Dj (Aw e []) (xM h).1.ok (by rw[hx];omega)
 rw[dj,hx]at hT
 refine aj ma ?_
 simp only[↓zq,zs,ae,zt]
 refine⟨fun h=>by omega,fun _=>?_⟩
 refine aj hA ?_
 simp only[↓zq,zs,ae,zt,aM]
 refine aj hT ?_
 simp only[↓zq,zs,ae,zt]
 refine aj (SP _) ?_
 simp only[↓zq,zs,ae,zt]
 unfold told
 refine⟨fun hn=>?_,fun hy=>?_⟩
 ·rw[if_neg (by rw[hn];simp)];exact⟨rfl,rfl⟩
 ·rw[if_pos ⟨ha,hy⟩];exact⟨rfl,rfl⟩
abbrev mg:Nm:=[35,49]
noncomputable def cL (s:Nm):Option Nm:=match qT s with
 |some (.rc a)=>(od a mg).bind told
 |_=>none
theorem nS{s:Nm}{t:Ty}(h:qT s=some t):∃e,wF s=some e/\Wf e/\cR e []=t/\e.db<=400/\e.ok:=by
 rw[uI]at h
 cases he:wF s with
 |none=>rw[he]at h;cases h
 |
  some e =>
  rw[he]at h
  obtain⟨h1,h2,h3⟩:=p8 he
  obtain⟨hok,_⟩:=nN h1
  obtain⟨w1,w2⟩:=ki e [] t hok (fun w hw=>by cases hw) h
  exact⟨e,rfl,w1,w2,h3,hok⟩
theorem se{e:E}{x:Nm}{a d:Ty}(hw:Wf e)(ht:cR e []=.rc a)(hx:qR x)(hd:od a x=some d):fW d/\(vc (.rc a)->vc d):=by
 simp only[od,a6,cQ,eT]at hd
 obtain⟨d',h1,_,rfl⟩:=hd
 have g:fW (.rc a):=ht ▸ hw.qB
 have go:fW (dA (.name x) a 0):=⟨gK x a g.1,fun y hy=>by
  rcases gD a 0 hy with rfl|h
  ·exact hx
  ·exact g.2 y h⟩
 refine⟨g.sub (go.dv h1),fun hs y hy=>?_⟩
 rcases ji _ hy with h|⟨h,h'⟩
 ·exact hs y h
 ·rcases gD a 0 (h1.names y h')with e|e
  ·exact absurd e h
  ·exact hs y e
def IW(y:Nm):Prop:=gP y=true\/dm y=true
theorem iO:∀(e:E) (ar:List Nm) (t:Ty),cS e ar=some t->∀y,bn y t=true->IW y
 |
  .atom s,ar,t,ht,y,hy=>by
  simp only[cS]at ht
  split at ht
  ·cases ht;cases hy
  ·split at ht
   ·cases ht;cases hy
   ·split at ht
    ·rename_i hp
     cases ht
     simp only[bn,decide_eq_true_eq]at hy
     subst hy;exact .inl hp
    ·split at ht
     ·rename_i hq
      split at ht
      ·cases ht;cases hy
      ·cases ht
       simp only[bn,decide_eq_true_eq]at hy
       subst hy;exact .inr hq
     ·cases ht
 |
  .list [x,a,b],ar,t,ht,y,hy=>by
  by_cases h0:x.at=[43]
  ·obtain⟨t1,t2,h1,h2,rfl⟩:=fL h0 ht
   simp only[bn,bC]at hy
   rcases hy with hy|hy
   ·exact iO a ar t1 h1 y hy
   ·exact iO b ar t2 h2 y hy
  ·by_cases h1:x.at=[42]
   ·obtain⟨t1,t2,h2,h3,rfl⟩:=fp h1 ht
    simp only[bn,bC]at hy
    rcases hy with hy|hy
    ·exact iO a ar t1 h2 y hy
    ·exact iO b ar t2 h3 y hy
   ·by_cases h2:x.at=[114,101,99]
    ·obtain⟨t1,hla,h3,rfl⟩:=dx h2 ht
     exact iO b _ t1 h3 y hy
    ·rw[jd _ h0 h1 h2]at ht;cases ht
 | .list [],ar,t,ht,_,_=>by cases ht
 | .list [_],ar,t,ht,_,_=>by cases ht
 | .list [_,_],ar,t,ht,_,_=>by cases ht
 | .list (_::_::_::_::_),ar,t,ht,_,_=>by cases ht
theorem xz{y:Nm}(h:IW y):y.length<=3/\∀r,y≠35::r:=by
 have key:∀lo hi,116<=lo->named lo hi y=true->y.length<=3/\∀r,y≠35::r:=fun lo hi hlo h=>by
  cases y with
  |nil=>cases h
  |
   cons c r =>
   simp only[named,aw,decide_eq_true_eq]at h
   refine⟨by simp;omega,fun r' e=>?_⟩
   have:c=35:=by injection e
   subst this
   have:=h.1.2.1
   have e35:(35:UInt8).toNat=35:=rfl
   omega
 rcases h with h|h
 ·exact key 120 122 (by omega) h
 ·exact key 116 116 (by omega) h
theorem m8{s:Nm}{t:Ty}(h:qT s=some t):∀y,bn y t=true->IW y:=by
 rw[uI]at h
 cases he:wF s with
 |none=>rw[he]at h;cases h
 |some e=>rw[he]at h;exact iO e [] t h
theorem uv{s:Nm}{a:Ty}(h:qT s=some (.rc a)):bn mg a=false:=by
 cases q:bn mg a with
 |false=>rfl
 |true=>exact absurd rfl ((xz (m8 h mg q)).2 [49])
theorem BB{s:Nm}{t:Ty}(h:qT s=some t):vc t:=fun y hy=>by have:=(xz (m8 h y hy)).1;omega
theorem R1{m:Nm}{B:E}(hm:qR m)(hB:Wf B)(hl:(E.list [.atom dE,.atom m,B]).db<=400):an Tryz.prog 92 [.agg [.v (.string (mk [])),(E.list [.atom dE,.atom m,B]).sp]] [] (k8 (od (cR B [m]) m)):=by
 have hw:Wf (.list [.atom dE,.atom m,B]):=.rc hm hB
 have hT:cR (.list [.atom dE,.atom m,B]) []=.rc (cR B [m]):=fk _ _ _
 have hP:=P3.of (.atom dE) (.atom m) B
 have hbo:cR B []=dA (.name m) (cR B [m]) 0:=by
  have:=zk m hB []
  rw[cX]at this;exact this
 have hba:B.db+2=(E.list [.atom dE,.atom m,B]).db:=by simp only[E.db,E.eZ];omega
 have i1:=zF 400 B m hB (by omega) (by omega) hm
 have n1:=kg (s:=m) hB
 rw[hbo]at i1 n1
 refine Pz _ _ ((aY _).mpr trivial) ?_
 simp only[MQ,bN,toNat_one,bg,↓zq,zs,ae,zt,hP.1,hP.2.1,hP.2.2.1,hP.2.2.2,aM,dT]
 repeat refine⟨by omega,?_⟩
 refine aP i1 (k8.ne n1) ?_
 rintro r o ⟨rfl,c1,d1,hd1,rfl,hc1⟩
 simp only[↓zq,zs,ae,zt,gC hd1,od]
 cases q1:l5 (dA (.name m) (cR B [m]) 0) m with
 |
  none =>
  simp only[bA,bL]
  exact⟨fun _=>k8.no _ _ ((aY _).mpr trivial),fun h=>(by cases h)⟩
 |
  some d =>
  simp only[aW,bb]
  refine⟨fun h=>(by cases h),fun _=>?_⟩
  obtain⟨ed,wd,td,rfl,rfl⟩:=hc1 d q1
  have p1:=FI hm wd hw (wd.iP td (cQ.1 q1).small) hl
  have g1:=rQ (hw.qB.sub (x:=m) wd.qB)
  rw[hT,td]at p1 g1
  simp only[bN]at p1
  repeat refine⟨by omega,?_⟩
  refine aP p1 (k8.ne g1) ?_
  rintro r o ⟨rfl,c2,d2,hd2,rfl,hc2⟩
  simp only[↓zq,zs,ae,zt,gC hd2]
  exact⟨rfl,c2,d2,hd2,rfl,hc2⟩
theorem Mv(s:Nm):an Tryz.prog 66 [.v (.string (mk s))] [] (bM (oj (cL s))):=by
 refine Q0 _ ?_
 unfold LQ
 refine aP (FJ s) (jI.ne _ _ (fun h=>h)) ?_
 rintro r o ⟨c,d,hd,rfl,hh⟩
 have hhas:bK [.str,.sl] [.v (.string (mk c)),d] 0:=by simp[bK,dY,hd]
 simp only[↓zq,zs,ae,zt]
 refine⟨hhas,fun h=>?_,fun h=>?_⟩
 ·rw[uJ]at h
  have:qT s=none:=by cases hq:qT s<;>simp[hq]at h |-
  unfold cL;rw[this];exact⟨rfl,rfl⟩
 ·rw[uJ]at h
  obtain⟨t,ht⟩:=bU.1 h
  obtain⟨e,he,hw,hte,hats,hok⟩:=nS ht
  obtain⟨e',he',hce⟩:=hh (by rw[he];rfl)
  rw[he]at he';cases he'
  have notRec:(∀a,t≠.rc a)->cL s=none:=fun hn=>by
   unfold cL;rw[ht]
   cases t<;>first|rfl|exact absurd rfl (hn _)
  rw[hce,dj]
  cases hw with
  |
   @atom c hc =>
   have hn:cL s=none:=notRec fun a q=>by
    rw[<-hte]at q
    simp only[cR]at q
    split at q
    ·cases q
    ·split at q
     ·cases q
     ·split at q<;>cases q
   rw[hn]
   refine aj (Ao c _ ((aY _).mpr trivial) hc) ?_
   simp only[↓zq,zs,ae,zt]
   exact⟨fun _=>⟨rfl,rfl⟩,fun h=>by simp at h⟩
  |
   @plus x y hx hy =>
   have hn:cL s=none:=notRec fun a q=>by rw[<-hte,dM]at q;cases q
   rw[hn]
   simp only[bN]
   refine aj (oe [43] x y) ?_
   simp only[↓zq,zs,ae,zt]
   exact⟨fun _=>⟨rfl,rfl⟩,fun h=>by simp at h⟩
  |
   @times x y hx hy =>
   have hn:cL s=none:=notRec fun a q=>by rw[<-hte,du]at q;cases q
   rw[hn]
   simp only[bN]
   refine aj (oe [42] x y) ?_
   simp only[↓zq,zs,ae,zt]
   exact⟨fun _=>⟨rfl,rfl⟩,fun h=>by simp at h⟩
  |
   @rc m B hm hB =>
   have hrt:cR (.list [.atom dE,.atom m,B]) []=.rc (cR B [m]):=fk _ _ _
   rw[hrt]at hte
   have hq:cL s=(od (cR B [m]) m).bind told:=by
    unfold cL;rw[ht,<-hte]
    show (od (cR B [m]) mg).bind told=_
    rw[GQ (uv (by rw[ht,<-hte])) (by
     cases q:bn m (cR B [m])with
     |false=>rfl
     |true=>exact absurd (by simp) (mY hB [m] m q).2)]
   rw[hq]
   simp only[bN]
   refine aj (oe dE (.atom m) B) ?_
   simp only[↓zq,zs,ae,zt]
   refine⟨fun h=>by simp at h,fun _=>?_⟩
   have hgood:∀d,od (cR B [m]) m=some d->fW d/\(vc (.rc (cR B [m]))->vc d):=fun d hd=>se (Wf.rc hm hB) hrt hm hd
   refine aP (R1 hm hB hats) (k8.ne fun t h=>(hgood t h).1) ?_
   rintro r o ⟨rfl,c1,d1,hd1,rfl,hc1⟩
   simp only[↓zq,zs,ae,zt,gC hd1]
   cases q1:od (cR B [m]) m with
   |
    none =>
    simp only[bA,bL]
    exact⟨fun _=>⟨rfl,rfl⟩,fun h=>(by cases h)⟩
   |
    some d =>
    simp only[aW,bb]
    refine⟨fun h=>(by cases h),fun _=>?_⟩
    obtain⟨ed,wd,td,rfl,rfl⟩:=hc1 d q1
    have hl:d.atoms<=400:=by
     simp only[od,a6,eT]at q1
     obtain⟨_,_,h1,h2⟩:=q1
     rw[<-h2];exact h1
    have hcn:=Ry wd (wd.iP td hl) (by rw[td];exact(hgood d q1).2 (hte ▸ BB ht))
    rw[td]at hcn
    refine aj hcn ?_
    cases told d<;>simp only[oj,↓zq,zs,ae,zt]<;>exact⟨rfl,rfl⟩
end Go.Proofs.Trees
namespace Go.Proofs.Trees
open Go Go.VL Go.RowKit
def vT(n:Nat):Vl->Ty->Bool
 | .u,.one=>true
 | .el k,.name _=>decide (k<n)
 | .l w,.plus a _=>vT n w a
 | .r w,.plus _ b=>vT n w b
 | .p x y,.times a b=>vT n x a&&vT n y b
 | .f w,.rc a=>vT n w (dA (.rc a) a 0)
 |_,_=>false
def cls(us:List Ty):Ty->Nat->Ty
 | .bound k,i=>if k<i then .bound k else us.getD (k-i) .zero
 | .plus a b,i=>.plus (cls us a i) (cls us b i)
 | .times a b,i=>.times (cls us a i) (cls us b i)
 | .rc a,i=>.rc (cls us a (i+1))
 |t,_=>t
def xX:List Fr->List Ty
 |[]=>[]
 |f::r=>cls (xX r) (yh f.ex r) 0::xX r
theorem lV(u:Ty):∀(t:Ty) {i:Nat},jy t i->dA u t i=t
 | .bound k,i,h=>by simp only[dA];rw[if_neg (by have:k<i:=h;omega)]
 | .plus a b,i,h=>by simp only[dA];rw[lV u a h.1,lV u b h.2]
 | .times a b,i,h=>by simp only[dA];rw[lV u a h.1,lV u b h.2]
 | .rc a,i,h=>by simp only[dA];rw[lV u a (i:=i+1) h]
 | .zero,_,_=>rfl
 | .one,_,_=>rfl
 | .name _,_,_=>rfl
theorem pU(us:List Ty):∀(t:Ty) {i:Nat},jy t i->cls us t i=t
 | .bound k,i,h=>by simp only[cls];rw[if_pos (by have:k<i:=h;omega)]
 | .plus a b,i,h=>by simp only[cls];rw[pU us a h.1,pU us b h.2]
 | .times a b,i,h=>by simp only[cls];rw[pU us a h.1,pU us b h.2]
 | .rc a,i,h=>by simp only[cls];rw[pU us a (i:=i+1) h]
 | .zero,_,_=>rfl
 | .one,_,_=>rfl
 | .name _,_,_=>rfl
theorem yu{us:List Ty}(hu:∀u,u∈us->jy u 0)(k:Nat):jy (us.getD k .zero) 0:=by
 by_cases h:k<us.length
 ·rw[aa,bp h];exact hu _ (bD h)
 ·rw[aa,List.getElem?_eq_none (by omega)];trivial
theorem pO{us:List Ty}(hu:∀u,u∈us->jy u 0):∀(t:Ty) (i:Nat),jy (cls us t i) i
 |
  .bound k,i=>by
  simp only[cls]
  split
  ·rename_i h;exact h
  ·exact gF _ (yu hu _) (dQ _)
 | .plus a b,i=>⟨pO hu a i,pO hu b i⟩
 | .times a b,i=>⟨pO hu a i,pO hu b i⟩
 | .rc a,i=>pO hu a (i+1)
 | .zero,_=>trivial
 | .one,_=>trivial
 | .name _,_=>trivial
theorem nr{us:List Ty}(hu:∀u,u∈us->jy u 0)(U:Ty):∀(t:Ty) (i:Nat),dA U (cls us t (i+1)) i=cls (U::us) t i
 |
  .bound k,i=>by
  simp only[cls]
  by_cases h1:k<i
  ·rw[if_pos (by omega),if_pos h1];simp only[dA];rw[if_neg (by omega)]
  ·rw[if_neg h1]
   by_cases h2:k=i
   ·subst h2;rw[if_pos (by omega)];simp[dA]
   ·rw[if_neg (by omega),lV U _ (gF _ (yu hu _) (dQ _)),show k-i=(k-(i+1))+1 by omega,List.getD_cons_succ]
 | .plus a b,i=>by simp only[cls,dA];rw[nr hu U a i,nr hu U b i]
 | .times a b,i=>by simp only[cls,dA];rw[nr hu U a i,nr hu U b i]
 | .rc a,i=>by simp only[cls,dA];rw[nr hu U a (i+1)]
 | .zero,_=>rfl
 | .one,_=>rfl
 | .name _,_=>rfl
theorem xG:∀env:List Fr,∀u,u∈xX env->jy u 0
 |[],u,h=>by cases h
 |
  f::r,u,h=>by
  rcases aL.1 h with rfl|h
  ·exact pO (xG r) _ 0
  ·exact xG r u h
theorem C5{env:List Fr}(h:WF env):∀{u:Nat} {g:Fr},env[u]?=some g->(xX env).getD u .zero=cls (xX g.out) (yh g.ex g.out) 0:=by
 induction h with
 |nil=>intro u g hg;simp at hg
 |
  cons hs hok hx ht hf hr ih =>
  intro u g hg
  cases u with
  |zero=>simp at hg;subst hg;rfl
  |
   succ u =>
   have:=ih (u:=u) (g:=g) (by simpa using hg)
   simpa[xX]using this
theorem pI(n:Nat):∀(m:Nat) (v:Vl),v.nodes<=m->∀(e:E) (env:List Fr) (t:Ty),Ask e env t->eX n v (e,env)=vT n v (cls (xX env) t 0)
 |0,v,hm=>by have:=dr v;omega
 |
  m+1,v,hm=>by
  intro e env t A
  have recCase:∀(x a b:E) (env:List Fr) (t1:Ty),Ask (.list [x,a,b]) env (.rc t1)->x.at=[114,101,99]->eX n v (.list [x,a,b],env)=vT n v (cls (xX env) (.rc t1) 0):=by
   intro x a b env t1 A hx
   have hhd:hd (.list [x,a,b]) env=(.list [x,a,b],env):=pN A.wf
   obtain⟨t1',he1,h1,f1,hw1⟩:=jx A.wf A.ok hx A.ty A.cl
   cases he1
   obtain⟨ok1,ok2,ok3,_⟩:=A.ok
   have A':Ask b (.mk a.at (.list [x,a,b]) env::env) t1:=⟨ok3,hw1,h1,f1⟩
   cases v with
   |
    f w =>
    simp only[Vl.nodes]at hm
    simp only[eX,hhd,hx,beq_self_eq_true,bX]
    rw[pI n m w (by omega) b _ t1 A']
    have hty:yh (.list [x,a,b]) env=.rc t1:=by unfold yh;rw[A.ty];rfl
    show vT n w (cls (cls (xX env) (yh (.list [x,a,b]) env) 0::xX env) t1 0)=vT n w (dA (.rc (cls (xX env) t1 1)) (cls (xX env) t1 1) 0)
    rw[hty,nr (xG env)]
    rfl
   |_=>simp[eX,hhd,hx,cls,vT]
  rcases gp A.wf A.ty with⟨hb,hq⟩|⟨u,g,rfl,hq,hu⟩
  ·have hhd:hd e env=(e,env):=kh hq
   rcases fK A.ty hb A.cl with⟨rfl,rfl⟩|⟨rfl,rfl⟩|⟨s,rfl,rfl,hp,h0,h1⟩|⟨x,a,b,t1,t2,rfl,hx,rfl,ha,hbb⟩|⟨x,a,b,t1,t2,rfl,hx,rfl,ha,hbb⟩|⟨x,a,b,t1,rfl,hx,rfl⟩
   ·have hp0:gP [48]=false:=rfl
    cases v<;>simp[eX,hhd,cls,vT,hp0]
   ·cases v<;>simp[eX,hhd,cls,vT]
   ·cases v<;>simp[eX,hhd,cls,vT,hp,h1]
   ·obtain⟨ok1,ok2,ok3,_⟩:=A.ok
    obtain⟨f1,f2⟩:=fD A.cl
    cases v with
    |
     l w =>
     simp only[Vl.nodes]at hm
     simp only[eX,hhd,hx,beq_self_eq_true,bX,cls,vT]
     exact pI n m w (by omega) a env t1 ⟨ok2,A.wf,ha,f1⟩
    |
     r w =>
     simp only[Vl.nodes]at hm
     simp only[eX,hhd,hx,beq_self_eq_true,bX,cls,vT]
     exact pI n m w (by omega) b env t2 ⟨ok3,A.wf,hbb,f2⟩
    |_=>simp[eX,hhd,hx,cls,vT]
   ·obtain⟨ok1,ok2,ok3,_⟩:=A.ok
    obtain⟨f1,f2⟩:=eY A.cl
    cases v with
    |
     p w w' =>
     simp only[Vl.nodes]at hm
     simp only[eX,hhd,hx,beq_self_eq_true,bX,cls,vT]
     rw[pI n m w (by omega) a env t1 ⟨ok2,A.wf,ha,f1⟩,pI n m w' (by omega) b env t2 ⟨ok3,A.wf,hbb,f2⟩]
    |_=>simp[eX,hhd,hx,cls,vT]
   ·exact recCase x a b env t1 A hx
  ·obtain⟨x,a,b,t',hfe,hok,hx,ht',hf',hwf,hlt⟩:=oI A.wf hq
   have hrec:hd g.ex g.out=(g.ex,g.out):=by rw[hfe];exact pN hwf
   rw[tY n v (rb hq) hrec]
   have hcl:cls (xX env) (.bound u) 0=cls (xX g.out) (yh g.ex g.out) 0:=by
    simp only[cls];rw[if_neg (by omega),Nat.sub_zero];exact C5 A.wf hu
   rw[hcl]
   have hty:yh g.ex g.out=t':=by unfold yh;rw[ht'];rfl
   rw[hty,hfe]
   rw[hfe]at ht'
   obtain⟨t1,_,_,rfl⟩:=dx hx ht'
   exact recCase x a b g.out t1 ⟨hok,hwf,ht',hf'⟩ hx
theorem np{n:Nat}{v:Vl}{e:E}{t:Ty}(A:Ask e [] t):eX n v (e,[])=vT n v t:=by
 have:=pI n v.nodes v (au _) e [] t A
 rw[this]
 obtain⟨w,ht⟩:=ki e [] t A.ok (fun w hw=>by cases hw) A.ty
 have hl:=tV w []
 rw[ht]at hl
 exact congrArg (vT n v) (pU _ t hl)
def eW(σ:Nm->Option Ty):Ty->Ty
 | .name s=>(σ s).getD (.name s)
 | .plus a b=>.plus (eW σ a) (eW σ b)
 | .times a b=>.times (eW σ a) (eW σ b)
 | .rc a=>.rc (eW σ a)
 |t=>t
def iU(σ:Nm->Option Ty)(x:Nm)(u:Ty):Nm->Option Ty:=fun s=>if s=x then some u else σ s
theorem iv(σ:Nm->Option Ty)(x:Nm)(u:Ty):∀t:Ty,eW σ (sub x u t)=eW (iU σ x (eW σ u)) t
 |
  .name s=>by
  by_cases h:s=x
  ·simp[sub,eW,iU,h]
  ·simp[sub,eW,iU,h]
 | .plus a b=>by simp only[sub,eW,iv σ x u a,iv σ x u b]
 | .times a b=>by simp only[sub,eW,iv σ x u a,iv σ x u b]
 | .rc a=>by simp only[sub,eW,iv σ x u a]
 | .zero=>rfl
 | .one=>rfl
 | .bound k=>rfl
def CN(σ:Nm->Option Ty):Prop:=∀s u,σ s=some u->jy u 0
theorem jX{σ:Nm->Option Ty}(hσ:CN σ):∀(t:Ty) {i:Nat},jy t i->jy (eW σ t) i
 |
  .name s,i,_=>by
  simp only[eW]
  cases q:σ s with
  |none=>trivial
  |some u=>exact gF u (hσ s u q) (dQ _)
 | .plus a b,i,h=>⟨jX hσ a h.1,jX hσ b h.2⟩
 | .times a b,i,h=>⟨jX hσ a h.1,jX hσ b h.2⟩
 | .rc a,i,h=>jX hσ a (i:=i+1) h
 | .zero,_,_=>trivial
 | .one,_,_=>trivial
 | .bound k,_,h=>h
theorem jH{σ:Nm->Option Ty}(hσ:CN σ)(x:Nm)(U:Ty):∀(t:Ty) (i:Nat),bn x t=false->eW (iU σ x U) (dA (.name x) t i)=dA U (eW σ t) i
 |
  .name s,i,h=>by
  have hs:s≠x:=by simpa[bn]using h
  simp only[dA,eW,iU,if_neg hs]
  cases q:σ s with
  |none=>rfl
  |some u=>exact(lV U u (gF u (hσ s u q) (dQ _))).symm
 |
  .bound k,i,h=>by
  simp only[dA,eW]
  split
  ·simp[eW,iU]
  ·rfl
 |
  .plus a b,i,h=>by
  simp only[bn,cf]at h
  simp only[dA,eW,jH hσ x U a i h.1,jH hσ x U b i h.2]
 |
  .times a b,i,h=>by
  simp only[bn,cf]at h
  simp only[dA,eW,jH hσ x U a i h.1,jH hσ x U b i h.2]
 | .rc a,i,h=>by simp only[dA,eW,jH hσ x U a (i+1) h]
 | .zero,_,_=>rfl
 | .one,_,_=>rfl
theorem lU{σ:Nm->Option Ty}(hσ:CN σ)(x:Nm){u:Ty}(hu:jy u 0):CN (iU σ x u):=fun s v h=>by
 unfold iU at h
 split at h
 ·cases h;exact hu
 ·exact hσ s v h
theorem jb(x:Nm):∀(n:Nat) (c:Vl) (t:Ty) (i:Nat),c.nodes<=n->dL (dA (.name x) t i) c=dL t c
 |0,c,_,_,h=>by have:=dr c;omega
 |
  n+1,c,t,i,hn=>by
  cases t with
  |bound k=>simp only[dA];split<;>(cases c<;>rfl)
  |
   plus a b =>
   cases c with
   |l c=>simp only[Vl.nodes]at hn;exact jb x n c a i (by omega)
   |r c=>simp only[Vl.nodes]at hn;exact jb x n c b i (by omega)
   |_=>rfl
  |
   times a b =>
   cases c with
   |
    l c =>
    cases c with
    |p y z=>simp only[Vl.nodes]at hn;exact jb x n y a i (by omega)
    |_=>rfl
   |
    r c =>
    cases c with
    |p y z=>simp only[Vl.nodes]at hn;exact jb x n z b i (by omega)
    |_=>rfl
   |_=>rfl
  |
   rc a =>
   cases c with
   |
    f c =>
    cases c with
    |l y=>simp only[Vl.nodes]at hn;exact jb x n y a (i+1) (by omega)
    |
     r c =>
     cases c with
     |
      p y z =>
      simp only[Vl.nodes]at hn
      have h1:=jb x n y a (i+1) (by omega)
      have h2:=jb x n z (.rc a) i (by omega)
      show (dL (dA (.name x) a (i+1)) y&&dL (.rc (dA (.name x) a (i+1))) z)=(dL a y&&dL (.rc a) z)
      rw[h1]
      exact congrArg _ h2
     |_=>rfl
    |_=>rfl
   |_=>rfl
  |_=>rfl
end Go.Proofs.Trees
namespace Go.Proofs.Trees
open Go Go.VL Go.RowKit
theorem dK(x:Nm):∀(n:Nat) (c:Vl) (t:Ty) (i:Nat) (v:Vl),c.nodes<=n->cW (dA (.name x) t i) c v=cW t c v
 |0,c,_,_,_,h=>by have:=dr c;omega
 |
  n+1,c,t,i,v,hn=>by
  cases t with
  |bound k=>simp only[dA];split<;>(cases c<;>rfl)
  |
   plus a b =>
   cases c with
   |l c=>simp only[Vl.nodes]at hn;exact congrArg Vl.l (dK x n c a i v (by omega))
   |r c=>simp only[Vl.nodes]at hn;exact congrArg Vl.r (dK x n c b i v (by omega))
   |_=>rfl
  |
   times a b =>
   cases c with
   |
    l c =>
    cases c with
    |p y z=>simp only[Vl.nodes]at hn;exact congrArg (fun q=>Vl.p q z) (dK x n y a i v (by omega))
    |_=>rfl
   |
    r c =>
    cases c with
    |p y z=>simp only[Vl.nodes]at hn;exact congrArg (Vl.p y) (dK x n z b i v (by omega))
    |_=>rfl
   |_=>rfl
  |
   rc a =>
   cases c with
   |
    f c =>
    cases c with
    |l y=>simp only[Vl.nodes]at hn;exact congrArg Vl.f (dK x n y a (i+1) v (by omega))
    |
     r c =>
     cases c with
     |
      p y z =>
      simp only[Vl.nodes]at hn
      have h2:=dK x n z (.rc a) i v (by omega)
      have h1:=dK x n y a (i+1) (cW (.rc a) z v) (by omega)
      show Vl.f (cW (dA (.name x) a (i+1)) y (cW (.rc (dA (.name x) a (i+1))) z v))=Vl.f (cW a y (cW (.rc a) z v))
      have h3:cW (.rc (dA (.name x) a (i+1))) z v=cW (.rc a) z v:=h2
      rw[h3,h1]
     |_=>rfl
    |_=>rfl
   |_=>rfl
  |_=>rfl
theorem AL{n:Nat}{c:Vl}{a:Ty}(h:vT n c (.rc a)=true):∃w,c=.f w/\vT n w (dA (.rc a) a 0)=true:=by
 cases c with
 |f w=>exact⟨w,rfl,h⟩
 |_=>simp[vT]at h
theorem jl{n:Nat}{c:Vl}{a b:Ty}(h:vT n c (.plus a b)=true):(∃w,c=.l w/\vT n w a=true)\/∃w,c=.r w/\vT n w b=true:=by
 cases c with
 |l w=>exact .inl ⟨w,rfl,h⟩
 |r w=>exact .inr ⟨w,rfl,h⟩
 |_=>simp[vT]at h
theorem gu{n:Nat}{c:Vl}{a b:Ty}(h:vT n c (.times a b)=true):∃x y,c=.p x y/\vT n x a=true/\vT n y b=true:=by
 cases c with
 |p x y=>simp only[vT,aw]at h;exact⟨x,y,rfl,h.1,h.2⟩
 |_=>simp[vT]at h
theorem pq{σ:Nm->Option Ty}(hσ:CN σ){a c d:Ty}{x:Nm}(ha:jy (.rc a) 0)(hc:jy c 0)(hd:jy d 0):∃X,eW σ (pK a x c d)=.rc X/\dA (.rc X) X 0=.plus (eW (iU σ x (eW σ (.rc a))) c) (.times (eW (iU σ x (eW σ (.rc a))) d) (eW σ (pK a x c d))):=by
 refine⟨.plus (eW σ (sub x (.rc a) c)) (.times (eW σ (sub x (.rc a) d)) (.bound 0)),rfl,?_⟩
 have h1:=jX hσ (sub x (.rc a) c) (kC ha c hc)
 have h2:=jX hσ (sub x (.rc a) d) (kC ha d hd)
 simp only[dA,lV _ _ h1,lV _ _ h2,if_true]
 rw[iv,iv]
 simp only[pK,eW,iv]
theorem wD(n:Nat):∀(m:Nat) (c:Vl),c.nodes<=m->∀(t:Ty) (s:Nm) (d:Ty) (σ:Nm->Option Ty),Dv t s d->CN σ->jy t 0->vT n c (eW σ d)=true->dL t c=true
 |0,c,h=>by have:=dr c;omega
 |
  m+1,c,hm=>by
  intro t s d σ hd hσ hl hv
  cases hd with
  |zero=>cases c<;>rfl
  |one=>cases c<;>rfl
  |bound=>cases c<;>rfl
  |hit=>cases c<;>rfl
  |qA=>cases c<;>rfl
  |
   plus h1 h2 _ =>
   rcases jl hv with⟨w,rfl,hw⟩|⟨w,rfl,hw⟩
   ·simp only[Vl.nodes]at hm;exact wD n m w (by omega) _ s _ σ h1 hσ hl.1 hw
   ·simp only[Vl.nodes]at hm;exact wD n m w (by omega) _ s _ σ h2 hσ hl.2 hw
  |
   times h1 h2 _ =>
   rcases jl hv with⟨w,rfl,hw⟩|⟨w,rfl,hw⟩
   ·obtain⟨x,y,rfl,hx,hy⟩:=gu hw
    simp only[Vl.nodes]at hm;exact wD n m x (by omega) _ s _ σ h1 hσ hl.1 hx
   ·obtain⟨x,y,rfl,hx,hy⟩:=gu hw
    simp only[Vl.nodes]at hm;exact wD n m y (by omega) _ s _ σ h2 hσ hl.2 hy
  |
   @rc a _ c0 d0 x hx hs h1 h2 hsz =>
   have lo:jy (dA (.name x) a 0) 0:=gK x a hl
   obtain⟨X,e1,e2⟩:=pq (x:=x) hσ hl (h1.lc lo) (h2.lc lo)
   have hv':=hv
   rw[e1]at hv'
   obtain⟨w,rfl,hw⟩:=AL hv'
   rw[e2]at hw
   have hcl:=lU hσ x (jX hσ (.rc a) hl)
   rcases jl hw with⟨y,rfl,hy⟩|⟨y,rfl,hy⟩
   ·simp only[Vl.nodes]at hm
    have:=wD n m y (by omega) _ s _ _ h1 hcl lo hy
    rw[jb x y.nodes y a 0 (au _)]at this
    exact this
   ·obtain⟨y,z,rfl,hy,hz⟩:=gu hy
    simp only[Vl.nodes]at hm
    have q1:=wD n m y (by omega) _ x _ _ h2 hcl lo hy
    rw[jb x y.nodes y a 0 (au _)]at q1
    have q2:=wD n m z (by omega) (.rc a) s _ σ (.rc x hx hs h1 h2 hsz) hσ hl hz
    show (dL a y&&dL (.rc a) z)=true
    rw[q1,q2];rfl
theorem qw(n:Nat):∀(m:Nat) (c:Vl),c.nodes<=m->∀(t:Ty) (s:Nm) (d:Ty) (σ:Nm->Option Ty),Dv t s d->CN σ->jy t 0->vT n c (eW σ d)=true->∀v,vT n v (eW σ (.name s))=true->vT n (cW t c v) (eW σ t)=true
 |0,c,h=>by have:=dr c;omega
 |
  m+1,c,hm=>by
  intro t s d σ hd hσ hl hv v hvv
  have no:∀c,vT n c .zero=false:=fun c=>by cases c<;>rfl
  cases hd with
  |zero=>rw[show eW σ .zero=.zero from rfl,no]at hv;cases hv
  |one=>rw[show eW σ .zero=.zero from rfl,no]at hv;cases hv
  |bound=>rw[show eW σ .zero=.zero from rfl,no]at hv;cases hv
  |qA=>rw[show eW σ .zero=.zero from rfl,no]at hv;cases hv
  |hit=>rw[kP];exact hvv
  |
   plus h1 h2 _ =>
   rcases jl hv with⟨w,rfl,hw⟩|⟨w,rfl,hw⟩
   ·simp only[Vl.nodes]at hm;exact qw n m w (by omega) _ s _ σ h1 hσ hl.1 hw v hvv
   ·simp only[Vl.nodes]at hm;exact qw n m w (by omega) _ s _ σ h2 hσ hl.2 hw v hvv
  |
   times h1 h2 _ =>
   rcases jl hv with⟨w,rfl,hw⟩|⟨w,rfl,hw⟩
   ·obtain⟨x,y,rfl,hx,hy⟩:=gu hw
    simp only[Vl.nodes]at hm
    have:=qw n m x (by omega) _ s _ σ h1 hσ hl.1 hx v hvv
    show (vT n _ _&&vT n _ _)=true
    rw[this,hy];rfl
   ·obtain⟨x,y,rfl,hx,hy⟩:=gu hw
    simp only[Vl.nodes]at hm
    have:=qw n m y (by omega) _ s _ σ h2 hσ hl.2 hy v hvv
    show (vT n _ _&&vT n _ _)=true
    rw[this,hx];rfl
  |
   @rc a _ c0 d0 x hx hs h1 h2 hsz =>
   have lo:jy (dA (.name x) a 0) 0:=gK x a hl
   obtain⟨X,e1,e2⟩:=pq (x:=x) hσ hl (h1.lc lo) (h2.lc lo)
   have hv':=hv
   rw[e1]at hv'
   obtain⟨w,rfl,hw⟩:=AL hv'
   rw[e2]at hw
   have hcl:=lU hσ x (jX hσ (.rc a) hl)
   have hop:eW (iU σ x (eW σ (.rc a))) (dA (.name x) a 0)=dA (eW σ (.rc a)) (eW σ a) 0:=jH hσ x _ a 0 hx
   have hns:eW (iU σ x (eW σ (.rc a))) (.name s)=eW σ (.name s):=by simp only[eW,iU,if_neg (Ne.symm hs)]
   have hnx:eW (iU σ x (eW σ (.rc a))) (.name x)=eW σ (.rc a):=by simp[eW,iU]
   rcases jl hw with⟨y,rfl,hy⟩|⟨y,rfl,hy⟩
   ·simp only[Vl.nodes]at hm
    have:=qw n m y (by omega) _ s _ _ h1 hcl lo hy v (by rw[hns];exact hvv)
    rw[hop,dK x y.nodes y a 0 v (au _)]at this
    exact this
   ·obtain⟨y,z,rfl,hy,hz⟩:=gu hy
    simp only[Vl.nodes]at hm
    have q2:=qw n m z (by omega) (.rc a) s _ σ (.rc x hx hs h1 h2 hsz) hσ hl hz v hvv
    have q1:=qw n m y (by omega) _ x _ _ h2 hcl lo hy (cW (.rc a) z v) (by rw[hnx];exact q2)
    rw[hop,dK x y.nodes y a 0 _ (au _)]at q1
    exact q1
def Du:Nm->Option Ty:=fun _=>none
theorem sr:CN Du:=fun _ _ h=>by cases h
theorem iY:∀t:Ty,eW Du t=t
 | .name s=>rfl
 | .plus a b=>by simp only[eW,iY a,iY b]
 | .times a b=>by simp only[eW,iY a,iY b]
 | .rc a=>by simp only[eW,iY a]
 | .zero=>rfl
 | .one=>rfl
 | .bound k=>rfl
theorem Hr{n:Nat}{a D:Ty}{x:Nm}(hx:bn x a=false)(hl:jy (.rc a) 0)(h:od a x=some D){c:Vl}(hc:vT n c D=true) :
 dL a c=true/\∀v,vT n v (.rc a)=true->vT n (.f (cW a c v)) (.rc a)=true:=by
 simp only[od,a6,cQ,eT]at h
 obtain⟨d,hd,_,rfl⟩:=h
 have lo:jy (dA (.name x) a 0) 0:=gK x a hl
 have hcl:=lU sr x hl
 have e1:sub x (.rc a) d=eW (iU Du x (.rc a)) d:=by
  have:=iv Du x (.rc a) d
  rw[iY,iY]at this;exact this
 rw[e1]at hc
 have h1:=wD n c.nodes c (au _) _ x _ _ hd hcl lo hc
 rw[jb x c.nodes c a 0 (au _)]at h1
 refine⟨h1,fun v hv=>?_⟩
 have h2:=qw n c.nodes c (au _) _ x _ _ hd hcl lo hc v (by simpa[eW,iU]using hv)
 rw[dK x c.nodes c a 0 v (au _),jH sr x _ a 0 hx,iY]at h2
 exact h2
end Go.Proofs.Trees
namespace Go.Proofs.Trees
open Go Go.VL Go.RowKit
theorem Ad{env:List Fr}(h:WF env):∀w,w∈names env->dm w=true:=by
 induction h with
 |nil=>intro w hw;cases hw
 |
  cons hs _ _ _ _ _ ih =>
  intro w hw
  simp only[names,aO,aQ]at hw
  rcases hw with hw|rfl
  ·exact ih w hw
  ·exact hs
theorem AS{ar:List (List UInt8)}{k:Nat}(h:k<ar.length):gk ar k∈ar:=by
 unfold gk
 have:ar.length-1-k<ar.length:=by omega
 simp[aa,this]
def Bq(s:List UInt8)(ar:List (List UInt8)):Prop:=gP s=true\/(bR s ar ar.length).isSome=true
theorem wt{s:List UInt8}{ar:List (List UInt8)}{u:Nat}(hl:∀w,w∈ar->dm w=true)(h:bR s ar ar.length=some u):dm s=true:=by
 obtain⟨h1,h2⟩:=fH _ _ (au _) h
 rw[<-h2];exact hl _ (AS h1)
theorem Gm{s0 s:List UInt8}{ar:List (List UInt8)}{t:Ty}(ht:cS (.atom s0) ar=some t)(hl:∀w,w∈ar->dm w=true)(hs:Bq s ar):eF t (oM s ar)=decide (s0=s):=by
 have h48:∀b:UInt8,gP [b]=false->dm [b]=false->s≠[b]:=fun b h1 h2 e=>by
  subst e
  rcases hs with h|h
  ·rw[h1]at h;cases h
  ·obtain⟨u,hu⟩:=bU.1 h
   rw[wt hl hu]at h2;cases h2
 simp only[cS]at ht
 split at ht
 ·rename_i e;cases ht;subst e
  have:=h48 48 rfl rfl
  rw[decide_eq_false (fun h=>this h.symm)];cases oM s ar<;>rfl
 ·split at ht
  ·rename_i e;cases ht;subst e
   have:=h48 49 rfl rfl
   rw[decide_eq_false (fun h=>this h.symm)];cases oM s ar<;>rfl
  ·split at ht
   ·rename_i hp
    cases ht
    unfold oM
    cases e:bR s ar ar.length with
    |none=>rfl
    |
     some u =>
     have hloo:=wt hl e
     show false=_
     rw[decide_eq_false]
     rintro rfl
     rw[km hp]at hloo;cases hloo
   ·rename_i hnp
    split at ht
    ·split at ht
     ·rename_i u hu
      cases ht
      unfold oM
      cases e:bR s ar ar.length with
      |
       none =>
       show false=_
       rw[decide_eq_false]
       rintro rfl
       rw[hu]at e;cases e
      |
       some u' =>
       show decide (u=u')=_
       rw[cy,decide_eq_true_eq,decide_eq_true_eq]
       constructor
       ·rintro rfl
        rw[<-(fH _ _ (au _) hu).2,<-(fH _ _ (au _) e).2]
       ·rintro rfl
        rw[hu]at e;cases e;rfl
     ·rename_i hn
      cases ht
      unfold oM
      cases e:bR s ar ar.length with
      |none=>rfl
      |
       some u =>
       show false=_
       rw[decide_eq_false]
       rintro rfl
       rw[hn]at e;cases e
    ·cases ht
theorem Dq{b:E}{ar:List (List UInt8)}{w:List UInt8}{t:Ty}(hb:cS b (ar++[w])=some t)(hw:dm w=true)(hs:Bq w ar):vg t (oM w ar).up=false:=by
 rcases hs with h|h
 ·rw[km h]at hw;cases hw
 ·obtain⟨u,hu⟩:=bU.1 h
  rw[oM,hu];exact FA hb hu
theorem As{s w:List UInt8}{ar:List (List UInt8)}(h:w≠s)(hs:Bq s ar):Bq s (ar++[w]):=by
 rcases hs with h1|h1
 ·exact .inl h1
 ·right;rw[jE ar h];obtain⟨u,hu⟩:=bU.1 h1;rw[hu];rfl
def QN(e:E)(s:List UInt8)(t:Ty)(tg:Tg)(v:Vl):Prop:=an Tryz.prog 74 [.agg [.v (.string (mk e.at)),e.sp],.v (.string (mk s)),.agg [.v (.string (mk v.cK.at)),v.cK.sp]] [] (bM (.sl (mc (ck t tg v))))
theorem EM(n:Nat):∀(m:Nat) (v:Vl),v.nodes<=m->∀(e:E) (env:List Fr) (t:Ty),Ask e env t->eX n v (e,env)=true->env.length+v.nodes<100000->∀(s:List UInt8),Bq s (names env)->QN e s t (oM s (names env)) v
 |0,v,hm=>by have:=dr v;omega
 |
  m+1,v,hm=>by
  intro e env t A hv hl s hs
  have hloo:=Ad A.wf
  unfold QN
  refine PY _ _ _ _ _ ((aY _).mpr trivial) ((aY _).mpr trivial) ?_
  have hlen:=mW t (oM s (names env)) v
  have atomCase:∀s0,e=.atom s0->stuck t v=true->fe Tryz.prog 244 (Fs (mk e.at) e.sp (mk s) (mk v.cK.at) v.cK.sp) fun _ xs obs=>bM (.sl (mc (ck t (oM s (names env)) v))) (xs.headD .any) obs:=by
   rintro s0 rfl hst
   have hat:=Gm A.ty hloo hs
   have hne:s0≠[]:=A.ok
   simp only[Fs,E.at,↓zq,zs,ae,zt]
   refine⟨fun _=>⟨fun h=>?_,fun h=>?_⟩,fun h=>absurd h hne⟩
   ·rw[decide_eq_true h]at hat
    rw[mP v hat]
    refine⟨⟨Ai _ _ _ _,by omega⟩,?_⟩
    simp[bM,mc,Vl.cK,E.at,E.sp]
   ·rw[decide_eq_false h]at hat
    rw[dU hat hst]
    simp[bM,mc]
  have hvh:=AY v
  rw[dj]at hvh
  rcases gp A.wf A.ty with⟨hb,hq⟩|⟨u,g,rfl,hq,hu⟩
  ·have hhd:hd e env=(e,env):=kh hq
   rcases fK A.ty hb A.cl with⟨rfl,rfl⟩|⟨rfl,rfl⟩|⟨s0,rfl,rfl,hp,h0,h1⟩|⟨x,a,b,t1,t2,rfl,hx,rfl,ha,hbb⟩|⟨x,a,b,t1,t2,rfl,hx,rfl,ha,hbb⟩|⟨x,a,b,t1,rfl,hx,rfl⟩
   ·exact atomCase _ rfl (by cases v<;>rfl)
   ·exact atomCase _ rfl (by cases v<;>rfl)
   ·exact atomCase _ rfl (by cases v<;>rfl)
   ·obtain⟨ok1,ok2,ok3,_⟩:=A.ok
    obtain⟨f1,f2⟩:=fD A.cl
    have hP:=P3.of x a b
    cases v with
    |
     l w =>
     simp only[eX,hhd,hx,beq_self_eq_true,bX]at hv
     simp only[Vl.nodes]at hm hl hlen
     rw[nn]at hlen |-
     rw[fS]at hlen
     have hW:=P2.of (.atom [108]) w.cK
     simp only[Fs,E.at,↓zq,zs,ae,zt]
     refine⟨fun h=>absurd rfl h,fun _=>aj hvh ?_⟩
     simp only[vh,Vl.cK,toNat_one,bg,↓zq,zs,ae,zt,hP.1,hP.2.1,hP.2.2.1,hP.2.2.2,hW.1,hW.2.1,hW.2.2,aM]
     refine⟨fun _=>?_,fun h=>absurd rfl h⟩
     repeat refine⟨by omega,?_⟩
     refine aj (EM n m w (by omega) a env t1 ⟨ok2,A.wf,ha,f1⟩ hv (by omega) s hs) ?_
     simp only[↓zq,zs,ae]
     refine aV (JG [108] Vl.l (fun c=>rfl) (ck t1 (oM s (names env)) w) [] (by simp;omega)) ?_
     simp[↓zq,zs,ae,bM,aJ,bu]
    |
     r w =>
     simp only[eX,hhd,hx,beq_self_eq_true,bX]at hv
     simp only[Vl.nodes]at hm hl hlen
     rw[nf]at hlen |-
     rw[fS]at hlen
     have hW:=P2.of (.atom [114]) w.cK
     simp only[Fs,E.at,↓zq,zs,ae,zt]
     refine⟨fun h=>absurd rfl h,fun _=>aj hvh ?_⟩
     simp only[vh,Vl.cK,toNat_one,bg,↓zq,zs,ae,zt,hP.1,hP.2.1,hP.2.2.1,hP.2.2.2,hW.1,hW.2.1,hW.2.2,aM]
     refine⟨fun h=>by simp at h,fun _=>⟨fun _=>?_,fun h=>absurd rfl h⟩⟩
     repeat refine⟨by omega,?_⟩
     refine aj (EM n m w (by omega) b env t2 ⟨ok3,A.wf,hbb,f2⟩ hv (by omega) s hs) ?_
     simp only[↓zq,zs,ae]
     refine aV (JG [114] Vl.r (fun c=>rfl) (ck t2 (oM s (names env)) w) [] (by simp;omega)) ?_
     simp[↓zq,zs,ae,bM,aJ,bu]
    |_=>simp[eX,hhd,hx]at hv
   ·obtain⟨ok1,ok2,ok3,_⟩:=A.ok
    obtain⟨f1,f2⟩:=eY A.cl
    have hP:=P3.of x a b
    cases v with
    |
     p w w' =>
     simp only[eX,hhd,hx,beq_self_eq_true,bX,aw]at hv
     simp only[Vl.nodes]at hm hl hlen
     rw[ng]at hlen |-
     simp only[aq,fS]at hlen
     have hW:=P3.of (.atom [112]) w.cK w'.cK
     simp only[Fs,E.at,↓zq,zs,ae,zt]
     refine⟨fun h=>absurd rfl h,fun _=>aj hvh ?_⟩
     simp only[vh,Vl.cK,toNat_one,bg,↓zq,zs,ae,zt,hP.1,hP.2.1,hP.2.2.1,hP.2.2.2,hW.1,hW.2.1,hW.2.2.1,hW.2.2.2,aM]
     refine⟨fun h=>by simp at h,fun _=>⟨fun h=>by simp at h,fun _=>⟨fun _=>?_,fun h=>absurd rfl h⟩⟩⟩
     repeat refine⟨by omega,?_⟩
     refine aj (EM n m w (by omega) a env t1 ⟨ok2,A.wf,ha,f1⟩ hv.1 (by omega) s hs) ?_
     simp only[↓zq,zs,ae]
     have h1:=Ki s (mk []) (E.list [x,a,b]).sp ((aY _).mpr trivial) (mk []) (E.list [.atom [112],w.cK,w'.cK]).sp w w' (P3.of _ _ _) (ck t1 (oM s (names env)) w) (by omega) _ 0 [] (aX _) (by simp;omega)
     rw[bf,aT]at h1
     refine cA h1 ?_
     simp only[↓zq,zs,ae,aY,ae,bg,hP.1,hP.2.1,hP.2.2.2,hW.1,hW.2.1,hW.2.2.2,aM]
     repeat refine⟨by omega,?_⟩
     refine aj (EM n m w' (by omega) b env t2 ⟨ok3,A.wf,hbb,f2⟩ hv.2 (by omega) s hs) ?_
     simp only[↓zq,zs,ae]
     have h2:=Jd (mk []) (E.list [.atom [112],w.cK,w'.cK]).sp w w' (P3.of _ _ _) (ck t2 (oM s (names env)) w') (by omega) _ 0 (iH (fun c=>Vl.l (.p c w')) (ck t1 (oM s (names env)) w)) (aX _) (by rw[fS];omega)
     rw[bf]at h2
     refine cA h2 ?_
     simp[↓zq,zs,ae,bM]
    |_=>simp[eX,hhd,hx]at hv
   ·obtain⟨t1',he1,h1,f1,hw1⟩:=jx A.wf A.ok hx A.ty A.cl
    cases he1
    obtain⟨ok1,ok2,ok3,_⟩:=A.ok
    obtain⟨_,hla,_,_⟩:=dx hx A.ty
    have A':Ask b (.mk a.at (.list [x,a,b]) env::env) t1:=⟨ok3,hw1,h1,f1⟩
    have hnm:names (.mk a.at (.list [x,a,b]) env::env)=names env++[a.at]:=rfl
    have hP:=P3.of x a b
    cases v with
    |
     f w =>
     simp only[eX,hhd,hx,beq_self_eq_true,bX]at hv
     simp only[Vl.nodes]at hm hl hlen
     have hW:=P2.of (.atom [102]) w.cK
     simp only[Fs,E.at,↓zq,zs,ae,zt]
     refine⟨fun h=>absurd rfl h,fun _=>aj hvh ?_⟩
     simp only[vh,Vl.cK,toNat_one,bg,↓zq,zs,ae,zt,hP.1,hP.2.1,hP.2.2.1,hP.2.2.2,hW.1,hW.2.1,hW.2.2,aM]
     refine⟨fun h=>by simp at h,fun _=>⟨fun h=>by simp at h,fun _=>⟨fun h=>by simp at h,fun _=>?_⟩⟩⟩
     repeat refine⟨by omega,?_⟩
     refine⟨fun h=>?_,fun h=>?_⟩
     ·
      have hh:a.at=s:=h
      subst hh
      have:vg (.rc t1) (oM a.at (names env))=false:=Dq h1 hla hs
      rw[iS _ _ (au _) _ _ this]
      simp[bM,mc]
     ·have hh:a.at≠s:=h
      rw[ns]at hlen |-
      simp only[aq,fS]at hlen
      repeat refine⟨by omega,?_⟩
      have i1:=EM n m w (by omega) b _ t1 A' hv (by simp;omega) s (by rw[hnm];exact As hh hs)
      rw[hnm,zP _ hh]at i1
      refine aj i1 ?_
      simp only[↓zq,zs,ae]
      have h3:=JA s a.at (mk []) (E.list [x,a,b]).sp ((aY _).mpr trivial) (mk []) (E.list [.atom [102],w.cK]).sp ((aY _).mpr trivial) (ck t1 (oM s (names env)).up w) (by omega) _ 0 [] (aX _) (by simp;omega)
      rw[bf,aT]at h3
      refine cA h3 ?_
      simp only[↓zq,zs,ae,aY,ae,toNat_one,bg,hP.1,hP.2.1,hP.2.2.2,hW.1,hW.2.1,hW.2.2,aM]
      repeat refine⟨by omega,?_⟩
      have i2:=EM n m w (by omega) b _ t1 A' hv (by simp;omega) a.at (by rw[hnm];right;rw[fq];rfl)
      rw[hnm,vZ]at i2
      refine aj i2 ?_
      simp only[↓zq,zs,ae]
      have hl2:=mW t1 (.bd 0) w
      have ih3:∀h,h∈ck t1 (.bd 0) w->QN (.list [x,a,b]) s (.rc t1) (oM s (names env)) h.2:=fun h hh=>by
       have h3:=(iE hh).1
       have h4:=iq n m w (by omega) b _ t1 A' hv 0 _ rfl h hh
       exact EM n m h.2 (by omega) (.list [x,a,b]) env (.rc t1) A h4 (by omega) s hs
      have h4:=O9 s (.list [x,a,b]) t1 (oM s (names env)) (ck t1 (.bd 0) w) (by omega) ih3 _ 0 (iH (fun c=>.f (.l c)) (ck t1 (oM s (names env)).up w)) (aX _) (by
       simp only[bf,aq,fS]
       have hlen2:(ck t1 (oM s (names env)).up w).length+((ck t1 (.bd 0) w).flatMap (AH t1 (oM s (names env)))).length<=1+w.nodes:=hlen
       omega)
      rw[bf]at h4
      simp only[E.at]at h4
      refine cA h4 ?_
      simp[↓zq,zs,ae,bM]
    |_=>simp[eX,hhd,hx]at hv
  ·cases e with
   |atom s0=>exact atomCase _ rfl (by cases v<;>rfl)
   |list l=>exact absurd hq (by rw[show (E.list l).at=[] from rfl,kL A.wf];simp)
end Go.Proofs.Trees
namespace Go.Proofs.Trees
open Go Go.VL Go.RowKit
def kD(s:List UInt8):Option Ty:=match wR s with
 |some (.rc a)=>some a
 |_=>none
def Ci:Option Ty->AV
 |some a=>(Ty.rc a).av
 |none=>gH
theorem QL(s:List UInt8):an Tryz.prog 95 [.v (.string (mk s))] [] (bM (Ci (kD s))):=by
 refine PC _ ?_
 unfold Mj
 refine aj (KX s) ?_
 cases h:wR s with
 |none=>simp[↓zq,zs,ae,ik,Ci,kD,h,bM]
 |some t=>cases t<;>simp[↓zq,zs,ae,ik,Ci,kD,h,bM,Ty.av]
def qI(s v:List UInt8):Option Vl:=match kD s with
 |some _=>nJ s v 100
 |none=>none
def Hg(s:List UInt8):AV:=match kD s with
 |some a=>(Ty.rc a).av
 |none=>gH
theorem tR{s:List UInt8}{a:Ty}(h:kD s=some a):wR s=some (.rc a):=by
 unfold kD at h
 split at h
 ·rename_i e;cases h;exact e
 ·cases h
theorem Re(s v:List UInt8):an Tryz.prog 69 [.v (.string (mk s)),.v (.string (mk v))] [] (bM (.cG [Hg s,ju (qI s v)])):=by
 refine R7 _ _ ?_
 unfold Nj
 refine aj (QL s) ?_
 cases h:kD s with
 |none=>simp[↓zq,zs,ae,Ci,Hg,qI,h,bM,ju]
 |
  some a =>
  simp only[↓zq,zs,ae,Ci,aE,fO]
  refine⟨fun h=>(by cases h),fun _=>?_⟩
  refine aj (MA s v 100) ?_
  rw[tR h]
  simp[↓zq,zs,ae,ik,gm,Hg,qI,h,bM,aE]
structure LV(s v:List UInt8)(w:Vl)(a:Ty)(x A B:E):Prop where
 l:kD s=some a
 ce:jG s=some (.list [x,A,B])
 v:sD v=some w
 ask:Ask (.list [x,A,B]) [] (.rc a)
 hx:x.at=[114,101,99]
 TJ:dm A.at=true
 body:Ask B [.mk A.at (.list [x,A,B]) []] a
 eX:eX 100 w (.list [x,A,B],[])=true
theorem tt{e:E}{env:List Fr}{a:Ty}(A:Ask e env (.rc a)):∃x y z,e=.list [x,y,z]/\x.at=[114,101,99]/\dm y.at=true/\Ask z (.mk y.at (.list [x,y,z]) env::env) a:=by
 rcases fK A.ty rfl A.cl with⟨_,h⟩|⟨_,h⟩|⟨s,_,h,_⟩|⟨x,y,z,t1,t2,_,_,h,_⟩|⟨x,y,z,t1,t2,_,_,h,_⟩|⟨x,y,z,t1,rfl,hx,h⟩
 ·cases h
 ·cases h
 ·cases h
 ·cases h
 ·cases h
 ·cases h
  obtain⟨t1',he1,h1,f1,hw1⟩:=jx A.wf A.ok hx A.ty A.cl
  cases he1
  obtain⟨_,_,ok3,_⟩:=A.ok
  obtain⟨_,hla,_,_⟩:=dx hx A.ty
  exact⟨x,y,z,rfl,hx,hla,ok3,hw1,h1,f1⟩
theorem p5{s v:List UInt8}{w:Vl}(h:qI s v=some w):∃a x A B,LV s v w a x A B:=by
 unfold qI at h
 split at h
 ·rename_i a hl
  obtain⟨e,t,m,h1,h2,h3,h4,h5,h6,h7⟩:=pw h
  rw[tR hl]at h3
  cases h3
  obtain⟨x,A,B,rfl,hx,hA,hB⟩:=tt h4
  have:m=100:=by omega
  subst this
  exact⟨a,x,A,B,hl,h1,h2,h4,hx,hA,hB,h7⟩
 ·cases h
theorem LV.ij{s v:List UInt8}{w:Vl}{a:Ty}{x A B:E}(h:LV s v w a x A B):w.ij 100:=(lD h.v).2.1
theorem LV.nodes{s v:List UInt8}{w:Vl}{a:Ty}{x A B:E}(h:LV s v w a x A B):w.nodes<=200:=(lD h.v).2.2
theorem uM{n:Nat}{v:Vl}{x A B:E}{env:List Fr}(hw:WF env)(hx:x.at=[114,101,99])(h:eX n v (.list [x,A,B],env)=true):∃w,v=.f w/\eX n w (B,.mk A.at (.list [x,A,B]) env::env)=true:=by
 have hd:=pN (x:=x) (a:=A) (b:=B) hw
 cases v<;>simp[eX,hd,hx]at h |-
 exact h
theorem Ju(n:Nat)(v:Vl)(x A B:E)(a:Ty)(hA:Ask B [.mk A.at (.list [x,A,B]) []] a)(hx:x.at=[114,101,99])(hv:eX n v (.list [x,A,B],[])=true)(hl:v.nodes<90000):an Tryz.prog 58 [(Ty.rc a).av,v.cE] [] (bM (.sl (gJ (kids a v)))):=by
 obtain⟨w,rfl,hw⟩:=uM .nil hx hv
 refine RV _ _ ((aE _).mpr trivial) ((aN _).mpr trivial) ?_
 unfold KE
 refine aP (Df a gH [] .nil) (CF.ne a gH []) ?_
 rintro r o ⟨⟨m,hm,rfl⟩,rfl⟩
 have he2:kH (.ptr [.pid m [(Ty.rc a).av,gH],gH]) [m]:=.cons hm .nil
 have hfr:LK.ptr.has (.pid m [(Ty.rc a).av,gH]):=.inr (.inr ⟨_,_,rfl⟩)
 simp only[Ty.av]at he2 hfr
 simp only[↓zq,zs,ae,bK,aE,he2.has,hfr,Vl.cE,aN,Ty.av]
 repeat refine⟨by omega,?_⟩
 simp only[Vl.nodes]at hl
 have i2:=E7 n w.nodes w (au _) B _ a hA hw (by simp;omega) _ _ he2 (by simp) (.bd 0) [] _ (by have:=AE.bd (k:=0) (ids:=[m]) (by simp) [(Ty.rc a).av,gH] [];simpa only[bq,Ty.av]using this)
 unfold Ge at i2
 refine aj i2 ?_
 simp[↓zq,zs,ae,bM,kids]
def sa(l:List Nat):List (List AV):=l.map fun(k:Nat)=>[.v (.int .i64 (k:Int))]
theorem xN(l:List Nat):(sa l).length=l.length:=by simp[sa]
end Go.Proofs.Trees
namespace Go.Proofs.Trees
open Go Go.VL Go.RowKit
theorem HG{b:UInt8}(h:ig b=true):ff b=true:=by
 simp only[ig,ff,decide_eq_true_eq]at h |-;omega
theorem DU{y:Nm}(h:IW y):y≠[]/\y.all ff=true:=by
 have key:∀lo hi,97<=lo->hi<=122->named lo hi y=true->y≠[]/\y.all ff=true:=fun lo hi h1 h2 h=>by
  cases y with
  |nil=>cases h
  |
   cons c r =>
   simp only[named,aw,decide_eq_true_eq]at h
   refine⟨by simp,?_⟩
   rw[cZ,aw]
   refine⟨?_,?_⟩
   ·simp only[ff,decide_eq_true_eq];omega
   ·rw[bY]
    intro b hb
    exact HG (bY.1 h.2 b hb)
 rcases h with h|h
 ·exact key 120 122 (by omega) (by omega) h
 ·exact key 116 116 (by omega) (by omega) h
theorem BP(m:Nat):(tN m).all ff=true:=by
 rw[cZ,xi (m+1) m (by omega)];rfl
theorem pJ(F:List Nm):∀(t:Ty) (to:List Nm) (k:Nat),(∀y,bn y t=true->y≠[]/\y.all ff=true)->(∀w,w∈to->w≠[]/\w.all ff=true)->jy t to.length->(gY F t to k).1.pr
 | .zero,_,_,_,_,_=>⟨by simp,by decide⟩
 | .one,_,_,_,_,_=>⟨by simp,by decide⟩
 | .name s,_,_,hn,_,_=>hn s (by simp[bn])
 |
  .bound u,to,_,_,ht,hl=>by
  have:to.length-1-u<to.length:=by have:u<to.length:=hl;omega
  show (E.atom (gk to u)).pr
  unfold gk
  rw[aa,bp this]
  exact ht _ (bD this)
 | .plus a b,to,k,hn,ht,hl=>⟨by simp,⟨by simp,by decide⟩,pJ F a to k (fun y hy=>hn y (by simp[bn,hy])) ht hl.1,pJ F b to _ (fun y hy=>hn y (by simp[bn,hy])) ht hl.2,trivial⟩
 | .times a b,to,k,hn,ht,hl=>⟨by simp,⟨by simp,by decide⟩,pJ F a to k (fun y hy=>hn y (by simp[bn,hy])) ht hl.1,pJ F b to _ (fun y hy=>hn y (by simp[bn,hy])) ht hl.2,trivial⟩
 |
  .rc a,to,k,hn,ht,hl=>by
  refine⟨by simp,⟨by simp,by decide⟩,⟨by simp,BP _⟩,pJ F a (to++[tN (nx F k)]) _ hn (fun w hw=>?_) (by rw[aq];exact hl),trivial⟩
  rcases aO.1 hw with hw|hw
  ·exact ht w hw
  ·simp only[aQ]at hw;rw[hw];exact⟨by simp,BP _⟩
theorem z7{D:Ty}{dt:Nm}(g:fW D)(hn:∀y,bn y D=true->IW y)(h:told D=some dt):qT dt=some D:=by
 unfold told at h
 split at h
 ·rename_i hh
  cases h
  obtain⟨t,ht⟩:=bU.1 hh.2
  obtain⟨e,he,hw,hte,_,_⟩:=nS ht
  obtain⟨h1,_,_⟩:=p8 he
  obtain⟨hx,hpr,_⟩:=yr h1
  obtain⟨w1,w2,_⟩:=kB (bQ D []) D [] 0 (.nil _ _) g.1 fun y hy=>⟨(eN D [] y).2 (.inr hy),g.2 y hy⟩
  have hp:=pJ (bQ D []) D [] 0 (fun y hy=>DU (hn y hy)) (fun w hw=>by cases hw) g.1
  have:=Bo hp hpr hx
  rw[ht,<-hte,<-this,w2]
 ·cases h
theorem s3{a d:Ty}{x:Nm}(h:od a x=some d):∀y,bn y d=true->bn y a=true:=by
 simp only[od,a6,cQ,eT]at h
 obtain⟨d',h1,_,rfl⟩:=h
 intro y hy
 rcases ji _ hy with h|⟨h,h'⟩
 ·exact h
 ·rcases gD a 0 (h1.names y h')with e|e
  ·exact absurd e h
  ·exact e
structure ZT(s d:Nm)(a:Ty)(x A B:E)(D:Ty):Prop where
 l:kD s=some a
 ce:jG s=some (.list [x,A,B])
 ask:Ask (.list [x,A,B]) [] (.rc a)
 hx:x.at=[114,101,99]
 body:Ask B [.mk A.at (.list [x,A,B]) []] a
 dl:cL s=some d
 y:qT s=some (.rc a)
 lp:od a mg=some D
 bk:qT d=some D
theorem uN{s:Nm}{t:Ty}(h:wR s=some t):qT s=some t:=by
 unfold wR at h
 split at h
 ·cases h
 ·rename_i u hu
  split at h
  ·cases h;exact hu
  ·cases h
theorem ZT.of{s d:Nm}{a:Ty}(hl:kD s=some a)(hd:cL s=some d):∃x A B D,ZT s d a x A B D:=by
 have hc:=tR hl
 cases hce:jG s with
 |none=>rw[nk hce]at hc;cases hc
 |
  some e =>
  obtain⟨t,h1,hA,_⟩:=ia hce
  rw[hc]at h1;cases h1
  obtain⟨x,A,B,rfl,hx,hA',hB⟩:=tt hA
  have hy:=uN hc
  have hd':=hd
  unfold cL at hd'
  rw[hy]at hd'
  obtain⟨D,h2,h3⟩:=a6.1 hd'
  obtain⟨e2,he2,hw2,hte2,_,_⟩:=nS hy
  have hg:=se hw2 hte2 (x:=mg) ⟨by simp,by simp,by simp⟩ h2
  exact⟨x,A,B,D,hl,hce,hA,hx,hB,hd,hy,h2,z7 hg.1 (fun y hy'=>m8 hy y (s3 h2 y hy')) h3⟩
structure Cx(a:Ty)(w:Vl):Prop where
 ok:dL a w=true
 ty:∀v,vT 100 v (.rc a)=true->vT 100 (.f (cW a w v)) (.rc a)=true
 ij:w.ij 100
 nd:w.nodes<=200
structure Fo(a:Ty)(v:Vl):Prop where
 ty:vT 100 v (.rc a)=true
 ij:v.ij 100
 nd:v.nodes<=200
theorem ZT.ctx{s d:Nm}{a:Ty}{x A B:E}{D:Ty}(z:ZT s d a x A B D){c:Nm}{w:Vl}(h:nJ d c 100=some w):Cx a w:=by
 obtain⟨e,t,m,h1,h2,h3,h4,h5,h6,h7⟩:=pw h
 have hm:m=100:=by omega
 subst hm
 have:=uN h3
 rw[z.bk]at this;cases this
 rw[np h4]at h7
 obtain⟨e2,he2,hw2,hte2,_,_⟩:=nS z.y
 have hlc:jy (.rc a) 0:=hte2 ▸ hw2.qB.1
 obtain⟨q1,q2⟩:=Hr (uv z.y) hlc z.lp h7
 exact⟨q1,q2,(lD h2).2.1,(lD h2).2.2⟩
theorem ZT.ov{s d:Nm}{a:Ty}{x A B:E}{D:Ty}(z:ZT s d a x A B D){f:Nm}{v:Vl}(h:qI s f=some v):Fo a v/\f=v.cF:=by
 obtain⟨a',x',A',B',L⟩:=p5 h
 have:=L.l
 rw[z.l]at this;cases this
 exact⟨⟨by rw[<-np L.ask];exact L.eX,L.ij,L.nodes⟩,qY L.v⟩
theorem Fo.eX{s d:Nm}{a:Ty}{x A B:E}{D:Ty}(z:ZT s d a x A B D){v:Vl}(h:Fo a v):eX 100 v (.list [x,A,B],[])=true:=by rw[np z.ask];exact h.ty
theorem ZT.cF{s d:Nm}{a:Ty}{x A B:E}{D:Ty}(z:ZT s d a x A B D){w:Vl}(hb:w.ij 100)(hv:vT 100 w (.rc a)=true):nJ s w.cF 100=if w.nodes<=200 then some w else none:=by
 unfold nJ
 rw[z.ce]
 by_cases hn:w.nodes<=200
 ·rw[qN hb hn,if_pos hn]
  simp only
  rw[if_pos ⟨by omega,by rw[show (100:Int).toNat=100 from rfl,np z.ask];exact hv⟩]
 ·rw[if_neg hn]
  cases q:sD w.cF with
  |none=>rfl
  |
   some w' =>
   exfalso
   obtain⟨_,h2,h3⟩:=lD q
   have:=uj hb h2 (qY q)
   rw[this]at hn;exact hn h3
theorem ZT.lv{s d:Nm}{a:Ty}{x A B:E}{D:Ty}(z:ZT s d a x A B D)(f:Nm):qI s f=nJ s f 100:=by
 unfold qI;rw[z.l]
def eM(d:Nm):List Nm->Option (List Vl)
 |[]=>some []
 |
  c::r=>match nJ d c 100,eM d r with
  |some w,some l=>some (w::l)
  |_,_=>none
theorem ss{s d:Nm}{a:Ty}{x A B:E}{D:Ty}(z:ZT s d a x A B D):∀(p:List Nm) (l:List Vl),eM d p=some l->p=l.map (·.cF)/\∀c,c∈l->Cx a c
 |[],l,h=>by cases h;exact⟨rfl,fun c hc=>by cases hc⟩
 |
  c::r,l,h=>by
  simp only[eM]at h
  split at h
  ·rename_i w l' h1 h2
   cases h
   obtain⟨q1,q2⟩:=ss z r l' h2
   obtain⟨_,_,_,_,hv,_⟩:=pw h1
   refine⟨by rw[bI,<-q1,<-qY hv],fun c' hc'=>?_⟩
   rcases aL.1 hc' with rfl|hc'
   ·exact z.ctx h1
   ·exact q2 c' hc'
  ·cases h
theorem tq(d:Nm):∀(p q:List Nm),eM d (p++q)=(eM d p).bind fun l=>(eM d q).map (l++·)
 |[],q=>by cases h:eM d q<;>simp[eM,h]
 |
  c::p,q=>by
  simp only[bc,eM,tq d p q]
  cases nJ d c 100 with
  |none=>rfl
  |
   some w =>
   cases eM d p with
   |none=>rfl
   |some l=>cases eM d q<;>rfl
noncomputable def vH (s:Nm) (p:List Nm) (f:Nm):Option (List Vl×Vl):=match qI s f,cL s with
 |some v,some d=>if p.length<=50 then(eM d p).map fun l=>(l,v)else none
 |_,_=>none
def zA(s:Nm):Ty:=(kD s).getD .zero
def qt(a:Ty)(l:List Vl)(v:Vl):Option (List Vl×Vl):=match l.getLast? with
 |none=>none
 |some c=>if(Vl.f (cW a c v)).nodes<=200 then some (l.dropLast,.f (cW a c v))else none
def iK:Nat->Ty->List Vl->Vl->Option Vl
 |0,_,_,v=>some v
 |n+1,a,l,v=>(qt a l v).bind fun r=>iK n a r.1 r.2
def sI(a:Ty)(l:List Vl)(v:Vl):Option Vl:=iK l.length a l v
noncomputable def fV (s:Nm) (p:List Nm) (f:Nm):Option (List Vl×Vl):=(vH s p f).bind fun r=>if(sI (zA s) r.1 r.2).isSome=true then some r else none
structure ZI(a:Ty)(l:List Vl)(v:Vl):Prop where
 ctx:∀c,c∈l->Cx a c
 ov:Fo a v
theorem pL{a:Ty}{l l':List Vl}{v w:Vl}(h:ZI a l v)(hu:qt a l v=some (l',w)):ZI a l' w/\l'.length+1=l.length/\∃c,l=l'++[c]/\w=.f (cW a c v):=by
 unfold qt at hu
 cases q:l.getLast? with
 |none=>rw[q]at hu;cases hu
 |
  some c =>
  rw[q]at hu
  simp only at hu
  split at hu
  ·rename_i hn
   cases hu
   have hne:l≠[]:=by rintro rfl;cases q
   have hl:l.dropLast++[c]=l:=by
    have:=List.dropLast_concat_getLast hne
    rw[List.getLast?_eq_some_getLast hne]at q
    cases q;exact this
   have hc:c∈l:=by rw[<-hl];simp
   have hC:=h.ctx c hc
   refine⟨⟨fun c' hc'=>h.ctx c' (by rw[<-hl];exact aD _ hc'),hC.ty v h.ov.ty,rV 100 a c v hC.ij h.ov.ij,hn⟩,?_,c,hl.symm,rfl⟩
   have:=congrArg List.length hl
   simpa using this
  ·cases hu
end Go.Proofs.Trees
namespace Go.Proofs.Trees
open Go Go.VL Go.RowKit
theorem w4(w:World)(k:Nat)(os:Array Obj):Below w.heap.size w (Go.«Sort».grow (w.drewN k) os):=by
 refine⟨rfl,rfl,rfl,?_,fun b hb=>?_⟩
 ·simp[Go.«Sort».grow,World.drewN]
 ·simp only[Go.«Sort».grow,World.drewN]
  rw[Array.getElem?_append_left hb]
theorem Gf(k:Nat)(hk:k<1000000000):an Tryz.prog 152 [.v (.int .i64 (k:Int))] [] (bM (.v (.string (mk (dd k))))):=by
 refine an.P9 (xs:=[.int .i64 (k:Int)]) ⟨qF,by kernel_rfl,by kernel_rfl,by kernel_rfl⟩ fun w ht=>?_
 have:=Any.strconv_Itoa Tryz.BJ (k:Int) (by omega) (by omega) w ht
 refine Calls.mono this fun e w' ⟨h1,n,os,h2⟩=>⟨?_,?_⟩
 ·rw[h1,Lib.itoa_nonneg];rfl
 ·rw[h2];exact w4 w n os
abbrev hN(k:Nat):Nm:=35::dd k
theorem uz{j k:Nat}(h:hN j=hN k):j=k:=xc (j+1) j k (by omega) (List.cons.inj h).2
theorem Ip(u:Ty):∀(t:Ty) (i:Nat),i+t.atoms<1000000->an Tryz.prog 135 [t.av,u.av,.v (.int .i64 (i:Int))] [] (bM (dA u t i).av)
 |
  .zero,i,_=>by
  refine Iv _ _ _ ((aE _).mpr trivial) ((aE _).mpr trivial) ?_
  simp[EE,Ty.av,dA,↓zq,zs,ae,bM]
 |
  .one,i,_=>by
  refine Iv _ _ _ ((aE _).mpr trivial) ((aE _).mpr trivial) ?_
  simp[EE,Ty.av,dA,↓zq,zs,ae,bM]
 |
  .name s,i,_=>by
  refine Iv _ _ _ ((aE _).mpr trivial) ((aE _).mpr trivial) ?_
  simp[EE,Ty.av,dA,↓zq,zs,ae,bM]
 |
  .bound k,i,_=>by
  refine Iv _ _ _ ((aE _).mpr trivial) ((aE _).mpr trivial) ?_
  simp only[EE,Ty.av,dA,↓zq,zs,ae,bM]
  refine⟨by omega,fun _=>⟨by omega,fun h=>?_,fun h=>?_⟩,fun h=>absurd rfl h⟩
  ·rw[if_pos (by omega)]
  ·rw[if_neg (by omega)];rfl
 |
  .plus a b,i,hl=>by
  simp only[Ty.atoms]at hl
  refine Iv _ _ _ ((aE _).mpr trivial) ((aE _).mpr trivial) ?_
  simp only[EE,Ty.av,dA,↓zq,zs,ae,aE]
  refine⟨by omega,fun h=>by omega,fun _=>⟨fun _=>?_,fun h=>absurd rfl h⟩⟩
  repeat refine⟨by omega,?_⟩
  refine aj (Ip u a i (by omega)) ?_
  simp only[↓zq,zs,ae,aE]
  repeat refine⟨by omega,?_⟩
  refine aj (Ip u b i (by omega)) ?_
  simp only[↓zq,zs,ae,aE]
  exact⟨rfl,rfl⟩
 |
  .times a b,i,hl=>by
  simp only[Ty.atoms]at hl
  refine Iv _ _ _ ((aE _).mpr trivial) ((aE _).mpr trivial) ?_
  simp only[EE,Ty.av,dA,↓zq,zs,ae,aE]
  refine⟨by omega,fun h=>by omega,fun _=>⟨fun h=>by omega,fun _=>⟨fun _=>?_,fun h=>absurd rfl h⟩⟩⟩
  repeat refine⟨by omega,?_⟩
  refine aj (Ip u a i (by omega)) ?_
  simp only[↓zq,zs,ae,aE]
  repeat refine⟨by omega,?_⟩
  refine aj (Ip u b i (by omega)) ?_
  simp only[↓zq,zs,ae,aE]
  exact⟨rfl,rfl⟩
 |
  .rc a,i,hl=>by
  simp only[Ty.atoms]at hl
  refine Iv _ _ _ ((aE _).mpr trivial) ((aE _).mpr trivial) ?_
  simp only[EE,Ty.av,dA,↓zq,zs,ae,aE]
  refine⟨by omega,fun h=>by omega,fun _=>⟨fun h=>by omega,fun _=>⟨fun h=>by omega,fun _=>⟨fun _=>?_,fun h=>absurd rfl h⟩⟩⟩⟩
  repeat refine⟨by omega,?_⟩
  rw[bx i (by omega)]
  refine aj (Ip u a (i+1) (by omega)) ?_
  simp only[↓zq,zs,ae,aE]
  exact⟨rfl,rfl⟩
theorem BH(x:Nm)(u:Ty):∀(t:Ty),an Tryz.prog 136 [t.av,.v (.string (mk x)),u.av] [] (bM (sub x u t).av)
 |
  .zero=>by
  refine xu _ _ _ ((aE _).mpr trivial) ((aE _).mpr trivial) ?_
  simp[E4,Ty.av,sub,↓zq,zs,ae,bM]
 |
  .one=>by
  refine xu _ _ _ ((aE _).mpr trivial) ((aE _).mpr trivial) ?_
  simp[E4,Ty.av,sub,↓zq,zs,ae,bM]
 |
  .bound k=>by
  refine xu _ _ _ ((aE _).mpr trivial) ((aE _).mpr trivial) ?_
  simp[E4,Ty.av,sub,↓zq,zs,ae,bM]
 |
  .name s=>by
  refine xu _ _ _ ((aE _).mpr trivial) ((aE _).mpr trivial) ?_
  simp only[E4,Ty.av,sub,↓zq,zs,ae,zt,bM]
  refine⟨by omega,fun _=>⟨by omega,fun h=>?_,fun h=>?_⟩,fun h=>absurd rfl h⟩
  ·rw[if_pos h]
  ·rw[if_neg h];rfl
 |
  .plus a b=>by
  refine xu _ _ _ ((aE _).mpr trivial) ((aE _).mpr trivial) ?_
  simp only[E4,Ty.av,sub,↓zq,zs,ae,aE]
  refine⟨by omega,fun h=>by omega,fun _=>⟨fun _=>?_,fun h=>absurd rfl h⟩⟩
  repeat refine⟨by omega,?_⟩
  refine aj (BH x u a) ?_
  simp only[↓zq,zs,ae,aE]
  repeat refine⟨by omega,?_⟩
  refine aj (BH x u b) ?_
  simp only[↓zq,zs,ae,aE]
  exact⟨rfl,rfl⟩
 |
  .times a b=>by
  refine xu _ _ _ ((aE _).mpr trivial) ((aE _).mpr trivial) ?_
  simp only[E4,Ty.av,sub,↓zq,zs,ae,aE]
  refine⟨by omega,fun h=>by omega,fun _=>⟨fun h=>by omega,fun _=>⟨fun _=>?_,fun h=>absurd rfl h⟩⟩⟩
  repeat refine⟨by omega,?_⟩
  refine aj (BH x u a) ?_
  simp only[↓zq,zs,ae,aE]
  repeat refine⟨by omega,?_⟩
  refine aj (BH x u b) ?_
  simp only[↓zq,zs,ae,aE]
  exact⟨rfl,rfl⟩
 |
  .rc a=>by
  refine xu _ _ _ ((aE _).mpr trivial) ((aE _).mpr trivial) ?_
  simp only[E4,Ty.av,sub,↓zq,zs,ae,aE]
  refine⟨by omega,fun h=>by omega,fun _=>⟨fun h=>by omega,fun _=>⟨fun h=>by omega,fun _=>⟨fun _=>?_,fun h=>absurd rfl h⟩⟩⟩⟩
  repeat refine⟨by omega,?_⟩
  refine aj (BH x u a) ?_
  simp only[↓zq,zs,ae,aE]
  exact⟨rfl,rfl⟩
theorem xT(c:Int)(a b:Ty):an Tryz.prog 153 [.v (.int .u8 c),a.av,b.av] [] (bM (.ptr [.v (.int .u8 c),.v (.string (mk [])),.v (.int .i64 0),a.av,b.av])):=by
 refine Q8 _ _ _ ((aE _).mpr trivial) ((aE _).mpr trivial) ?_
 simp[J2,↓zq,zs,ae,bM]
abbrev DW(f:Nat)(g:Bool):Ob:=.cells [.v (.int .i64 (f:Int)),.v (.bool g)]
theorem N3(f:Nat)(g:Bool)(hf:f<100000000):an Tryz.prog 132 [.ref 0 0] [DW f g] (df (.v (.string (mk (hN (f+1))))) [DW (f+1) g]):=by
 refine Qq _ _ ?_
 simp only[KF,↓zq,zs,ae,zt]
 rw[bx f (by omega)]
 refine aj (Gf (f+1) (by omega)) ?_
 have hd:=pe 8 (f+1) (by omega)
 simp only[↓zq,zs,ae,zt,bc,aT]
 exact⟨by simp[cM];omega,rfl,rfl⟩
def vj(g:Bool)(t:Ty):Ty:=if g=true\/400<t.atoms then .zero else t
def AG(g:Bool)(t:Ty):Bool:=g||decide (400<t.atoms)
theorem yp(t:Ty):vj true t=.zero:=by simp[vj]
theorem vu(t:Ty):AG true t=true:=rfl
theorem v8{t:Ty}(h:t.atoms<=400):vj false t=t:=by simp[vj,show ¬400<t.atoms by omega]
theorem wA{t:Ty}(h:t.atoms<=400):AG false t=false:=by simp[AG,show ¬400<t.atoms by omega]
theorem EU{t:Ty}(h:¬t.atoms<=400):AG false t=true:=by simp[AG,show 400<t.atoms by omega]
theorem ER{t:Ty}(h:¬t.atoms<=400):vj false t=.zero:=by simp[vj,show 400<t.atoms by omega]
theorem vN(f:Nat)(g:Bool)(t:Ty)(hl:t.atoms<1000000):an Tryz.prog 133 [.ref 0 0,t.av] [DW f g] (df (vj g t).av [DW f (AG g t)]):=by
 refine Qe _ _ _ ((aE _).mpr trivial) ?_
 simp only[M9,↓zq,zs,ae,zt]
 cases g with
 |true=>exact⟨fun _=>⟨rfl,rfl⟩,fun h=>(by cases h)⟩
 |
  false =>
  refine⟨fun h=>(by cases h),fun _=>?_⟩
  refine aj (EO t hl) ?_
  simp only[↓zq,zs,ae,zt]
  refine⟨fun h=>?_,fun h=>?_⟩
  ·have h:400<t.atoms:=by omega
   simp[vj,AG,h,df,Ty.av]
  ·have h:¬400<t.atoms:=by omega
   simp[vj,AG,h,df]
theorem Ft(t:Ty)(s:Nm)(f:Nat):an Tryz.prog 134 [.ref 0 0,t.av,.v (.string (mk s))] [DW f true] (df Ty.zero.av [DW f true]):=by
 refine Nw _ _ _ _ ((aE _).mpr trivial) ?_
 simp only[Er,↓zq,zs,ae]
 exact⟨fun _=>⟨rfl,rfl⟩,fun h=>(by cases h)⟩
def CJ(f:Nat)(t:Ty):Prop:=∀j,f<j->bn (hN j) t=false
def qj(o:Option Ty)(t:Ty):Nat:=match o with|some d=>d.atoms|none=>1000*t.atoms
def Bg(o:Option Ty)(f B:Nat):AV->List Ob->Prop:=fun r ob=>∃f':Nat,f<=f'/\f'<=f+B/\r=(o.getD .zero).av/\ob=[DW f' o.isNone]
theorem Bg.ne(o:Option Ty)(f B:Nat):∃r ob,Bg o f B r ob:=⟨_,_,f,au _,da _ _,rfl,rfl⟩
theorem rI{f f':Nat}{t:Ty}(h:CJ f t)(hf:f<=f'):CJ f' t:=fun j hj=>h j (by omega)
theorem xq:∀(n:Nat) (t:Ty),t.atoms<=n->t.atoms<=400->∀(s:Nm) (f:Nat),CJ f t->(∀j,f<j->s≠hN j)->f+1000*t.atoms<50000000->an Tryz.prog 134 [.ref 0 0,t.av,.v (.string (mk s))] [DW f false] (Bg (l5 t s) f (qj (l5 t s) t))
 |0,t,h=>by have:=eu t;omega
 |
  n+1,t,hn=>by
  intro h4 s f hf hs hb
  refine Nw _ _ _ _ ((aE _).mpr trivial) ?_
  have fin0:∀u:Ty,l5 t s=some u->Bg (l5 t s) f (qj (l5 t s) t) u.av [DW f false]:=fun u hu=>by
   rw[hu];exact⟨f,au _,da _ _,rfl,rfl⟩
  cases t with
  |
   zero =>
   have:=fin0 .zero (vr s)
   simpa[Er,Ty.av,↓zq,zs,ae]using this
  |
   one =>
   have:=fin0 .zero (yR s)
   simpa[Er,Ty.av,↓zq,zs,ae]using this
  |
   bound k =>
   have:=fin0 .zero (zI k s)
   simpa[Er,Ty.av,↓zq,zs,ae]using this
  |
   name c =>
   simp only[Er,Ty.av,↓zq,zs,ae,zt]
   refine⟨fun h=>(by cases h),fun _=>⟨by omega,fun _=>⟨by omega,fun h=>?_,fun h=>?_⟩,fun h=>absurd rfl h⟩⟩
   ·exact fin0 .one (by rw[oq,if_pos h])
   ·exact fin0 .zero (by rw[oq,if_neg h])
  |
   plus a b =>
   simp only[Ty.atoms]at hn h4 hb
   have pa:=eu a
   have pb:=eu b
   have fa:CJ f a:=fun j hj=>by have:=hf j hj;simp only[bn,cf]at this;exact this.1
   have fb:CJ f b:=fun j hj=>by have:=hf j hj;simp only[bn,cf]at this;exact this.2
   simp only[Er,Ty.av,↓zq,zs,ae,zt,aE]
   refine⟨fun h=>(by cases h),fun _=>⟨by omega,fun h=>by omega,fun _=>⟨fun _=>?_,fun h=>absurd rfl h⟩⟩⟩
   repeat refine⟨by omega,?_⟩
   rw[wy]
   refine aP (xq n a (by omega) (by omega) s f fa hs (by omega)) (Bg.ne _ _ _) ?_
   rintro r ob ⟨f1,g1,g2,rfl,rfl⟩
   simp only[↓zq,zs,ae,zt,aI,aE]
   repeat refine⟨by omega,?_⟩
   cases q1:l5 a s with
   |
    none =>
    rw[q1]at g2
    simp only[qj]at g2
    simp only[Option.isNone_none,Option.getD_none,bL]
    refine aV (Ft b s f1) ?_
    simp only[↓zq,zs,ae,zt,aI,aE]
    repeat refine⟨by omega,?_⟩
    refine aj (xT 43 _ _) ?_
    simp only[↓zq,zs,ae,zt,cb]
    refine aV (vN f1 true (.plus .zero .zero) (by simp[Ty.atoms])) ?_
    simp only[↓zq,zs,ae,zt,aI,aE]
    exact⟨f1,g1,by simp only[qj,Ty.atoms];omega,rfl,rfl⟩
   |
    some a' =>
    rw[q1]at g2
    simp only[qj]at g2
    have la:=(cQ.1 q1).small
    simp only[Option.isNone_some,cx,bb]
    refine aP (xq n b (by omega) (by omega) s f1 (rI fb g1) (fun j hj=>hs j (by omega)) (by omega)) (Bg.ne _ _ _) ?_
    rintro r ob ⟨f2,k1,k2,rfl,rfl⟩
    simp only[↓zq,zs,ae,zt,aI,aE]
    repeat refine⟨by omega,?_⟩
    refine aj (xT 43 _ _) ?_
    simp only[↓zq,zs,ae,zt,cb]
    cases q2:l5 b s with
    |
     none =>
     rw[q2]at k2
     simp only[qj]at k2
     simp only[Option.isNone_none,Option.getD_none,bL]
     refine aV (vN f2 true (.plus a' .zero) (by simp[Ty.atoms];omega)) ?_
     simp only[↓zq,zs,ae,zt,aI,aE]
     exact⟨f2,by omega,by simp only[qj,Ty.atoms];omega,rfl,rfl⟩
    |
     some b' =>
     rw[q2]at k2
     simp only[qj]at k2
     have lb:=(cQ.1 q2).small
     simp only[Option.isNone_some,cx,bb]
     refine aV (vN f2 false (.plus a' b') (by simp only[Ty.atoms];omega)) ?_
     simp only[↓zq,zs,ae,zt,aI,aE]
     unfold nF
     by_cases hle:(Ty.plus a' b').atoms<=400
     ·rw[if_pos hle]
      refine⟨f2,by omega,by simp only[qj,Ty.atoms];omega,?_,?_⟩
      ·simp[vj,show ¬400<(Ty.plus a' b').atoms by omega]
      ·simp[AG,show ¬400<(Ty.plus a' b').atoms by omega]
     ·rw[if_neg hle]
      refine⟨f2,by omega,by simp only[qj,Ty.atoms];omega,?_,?_⟩
      ·simp[vj,show 400<(Ty.plus a' b').atoms by omega]
      ·simp[AG,show 400<(Ty.plus a' b').atoms by omega]
  |
   times a b =>
   simp only[Ty.atoms]at hn h4 hb
   have pa:=eu a
   have pb:=eu b
   have fa:CJ f a:=fun j hj=>by have:=hf j hj;simp only[bn,cf]at this;exact this.1
   have fb:CJ f b:=fun j hj=>by have:=hf j hj;simp only[bn,cf]at this;exact this.2
   simp only[Er,Ty.av,↓zq,zs,ae,zt,aE]
   refine⟨fun h=>(by cases h),fun _=>⟨by omega,fun h=>by omega,fun _=>⟨fun h=>by omega,fun _=>⟨fun _=>?_,fun h=>absurd rfl h⟩⟩⟩⟩
   repeat refine⟨by omega,?_⟩
   rw[tD]
   refine aP (xq n a (by omega) (by omega) s f fa hs (by omega)) (Bg.ne _ _ _) ?_
   rintro r ob ⟨f1,g1,g2,rfl,rfl⟩
   simp only[↓zq,zs,ae,zt,aI,aE]
   repeat refine⟨by omega,?_⟩
   refine aj (xT 42 _ _) ?_
   simp only[↓zq,zs,ae,zt,cb]
   repeat refine⟨by omega,?_⟩
   cases q1:l5 a s with
   |
    none =>
    rw[q1]at g2
    simp only[qj]at g2
    simp only[Option.isNone_none,Option.getD_none,bL]
    refine aV (Ft b s f1) ?_
    simp only[↓zq,zs,ae,zt,aI,aE]
    repeat refine⟨by omega,?_⟩
    refine aj (xT 42 _ _) ?_
    simp only[↓zq,zs,ae,zt,cb]
    refine aj (xT 43 (.times .zero b) (.times a .zero)) ?_
    simp only[↓zq,zs,ae,zt,cb]
    refine aV (vN f1 true (.plus (.times .zero b) (.times a .zero)) (by simp only[Ty.atoms];omega)) ?_
    simp only[↓zq,zs,ae,zt,aI,aE]
    exact⟨f1,g1,by simp only[qj,Ty.atoms];omega,rfl,rfl⟩
   |
    some a' =>
    rw[q1]at g2
    simp only[qj]at g2
    have la:=(cQ.1 q1).small
    simp only[Option.isNone_some,cx,bb]
    refine aP (xq n b (by omega) (by omega) s f1 (rI fb g1) (fun j hj=>hs j (by omega)) (by omega)) (Bg.ne _ _ _) ?_
    rintro r ob ⟨f2,k1,k2,rfl,rfl⟩
    simp only[↓zq,zs,ae,zt,aI,aE]
    repeat refine⟨by omega,?_⟩
    refine aj (xT 42 _ _) ?_
    simp only[↓zq,zs,ae,zt,cb]
    cases q2:l5 b s with
    |
     none =>
     rw[q2]at k2
     simp only[qj]at k2
     simp only[Option.isNone_none,Option.getD_none,bL]
     refine aj (xT 43 (.times a' b) (.times a .zero)) ?_
     simp only[↓zq,zs,ae,zt,cb]
     refine aV (vN f2 true (.plus (.times a' b) (.times a .zero)) (by simp only[Ty.atoms];omega)) ?_
     simp only[↓zq,zs,ae,zt,aI,aE]
     exact⟨f2,by omega,by simp only[qj,Ty.atoms];omega,rfl,rfl⟩
    |
     some b' =>
     rw[q2]at k2
     simp only[qj]at k2
     have lb:=(cQ.1 q2).small
     simp only[Option.isNone_some,cx,bb]
     refine aj (xT 43 (.times a' b) (.times a b')) ?_
     simp only[↓zq,zs,ae,zt,cb]
     refine aV (vN f2 false (.plus (.times a' b) (.times a b')) (by simp only[Ty.atoms];omega)) ?_
     simp only[↓zq,zs,ae,zt,aI,aE]
     unfold nF
     by_cases hle:(Ty.plus (.times a' b) (.times a b')).atoms<=400
     ·rw[if_pos hle]
      refine⟨f2,by omega,by simp only[qj,Ty.atoms];omega,?_,?_⟩
      ·simp[vj,show ¬400<(Ty.plus (.times a' b) (.times a b')).atoms by omega]
      ·simp[AG,show ¬400<(Ty.plus (.times a' b) (.times a b')).atoms by omega]
     ·rw[if_neg hle]
      refine⟨f2,by omega,by simp only[qj,Ty.atoms];omega,?_,?_⟩
      ·simp[vj,show 400<(Ty.plus (.times a' b) (.times a b')).atoms by omega]
      ·simp[AG,show 400<(Ty.plus (.times a' b) (.times a b')).atoms by omega]
  |
   rc a =>
   simp only[Ty.atoms]at hn h4 hb
   have pa:=eu a
   have fa:CJ f a:=fun j hj=>hf j hj
   have hxa:bn (hN (f+1)) a=false:=fa _ (by omega)
   have hxs:hN (f+1)≠s:=fun e=>hs _ (by omega) e.symm
   have fo:CJ (f+1) (dA (.name (hN (f+1))) a 0):=fun j hj=>by
    cases q:bn (hN j) (dA (.name (hN (f+1))) a 0)with
    |false=>rfl
    |
     true =>
     rcases gD a 0 q with e|e
     ·have:=uz e;omega
     ·rw[fa j (by omega)]at e;cases e
   have hoa:(dA (.name (hN (f+1))) a 0).atoms=a.atoms:=fM _ _ _
   have hop:=Ip (.name (hN (f+1))) a 0 (by omega)
   rw[BM hxa hxs]
   simp only[Er,Ty.av,↓zq,zs,ae,zt,aE]
   refine⟨fun h=>(by cases h),fun _=>⟨by omega,fun h=>by omega,fun _=>⟨fun h=>by omega,fun _=>⟨fun h=>by omega,fun _=>⟨fun _=>?_,fun h=>absurd rfl h⟩⟩⟩⟩⟩
   refine aV (N3 f false (by omega)) ?_
   simp only[↓zq,zs,ae,zt,aI,aE]
   repeat refine⟨by omega,?_⟩
   simp only[Ty.av]at hop
   refine aj hop ?_
   simp only[↓zq,zs,ae,zt,aI,aE]
   refine aP (xq n (dA (.name (hN (f+1))) a 0) (by omega) (by omega) s (f+1) fo (fun j hj=>hs j (by omega)) (by omega)) (Bg.ne _ _ _) ?_
   rintro r ob ⟨f1,g1,g2,rfl,rfl⟩
   simp only[↓zq,zs,ae,zt,aI,aE]
   generalize hx:hN (f+1)=x at *
   generalize hin:dA (.name x) a 0=i at *
   have hrc:(Ty.rc a).av=.ptr [.v (.int .u8 114),.v (.string (mk [])),.v (.int .i64 0),a.av,.v (.pointer none)]:=rfl
   cases q1:l5 i s with
   |
    none =>
    rw[q1]at g2
    simp only[qj]at g2
    simp only[Option.isNone_none,Option.getD_none,bL]
    refine aV (vN f1 true .zero (by simp[Ty.atoms])) ?_
    simp only[↓zq,zs,ae,zt,aI,aE]
    rw[<-hrc]
    refine aj (BH x (.rc a) _) ?_
    simp only[↓zq,zs,ae,zt,aE]
    refine aV (Ft i x f1) ?_
    simp only[↓zq,zs,ae,zt,aI,aE]
    refine aV (vN f1 true .zero (by simp[Ty.atoms])) ?_
    simp only[↓zq,zs,ae,zt,aI,aE]
    refine aj (BH x (.rc a) _) ?_
    simp only[↓zq,zs,ae,zt,aE]
    refine aj (xT 42 _ (.bound 0)) ?_
    simp only[↓zq,zs,ae,zt,cb]
    refine aj (xT 43 (sub x (.rc a) (vj true .zero)) (.times (sub x (.rc a) (vj true .zero)) (.bound 0))) ?_
    simp only[↓zq,zs,ae,zt,cb,vu]
    have hz:sub x (.rc a) (vj true .zero)=.zero:=by rw[yp];rfl
    refine aV (vN f1 true (.rc (.plus (sub x (.rc a) (vj true .zero)) (.times (sub x (.rc a) (vj true .zero)) (.bound 0)))) (by rw[hz];simp only[Ty.atoms];omega)) ?_
    simp only[↓zq,zs,ae,zt,aI,aE]
    rw[yp,vu]
    exact⟨f1,by omega,by simp only[qj,Ty.atoms];omega,rfl,rfl⟩
   |
    some c =>
    rw[q1]at g2
    simp only[qj]at g2
    have lc:=(cQ.1 q1).small
    simp only[Option.isNone_some,cx,bb]
    refine aV (vN f1 false c (by omega)) ?_
    simp only[↓zq,zs,ae,zt,aI,aE]
    rw[v8 lc,wA lc,<-hrc]
    refine aj (BH x (.rc a) c) ?_
    simp only[↓zq,zs,ae,zt,aE]
    refine aP (xq n i (by omega) (by omega) x f1 (rI fo g1) (fun j hj=>by rw[<-hx];exact fun e=>by have:=uz e;omega) (by omega)) (Bg.ne _ _ _) ?_
    rintro r ob ⟨f2,k1,k2,rfl,rfl⟩
    simp only[↓zq,zs,ae,zt,aI,aE]
    have hsc:(sub x (.rc a) c).atoms+fw x c=c.atoms+fw x c*(Ty.rc a).atoms:=dW x (.rc a) c
    have hcc:∀t:Ty,fw x t<=t.atoms:=fun t=>by
     have h1:=dW x .zero t
     have h2:=gV x .zero t
     simp only[Ty.atoms,dG]at h1
     have h3:∀t:Ty,fw x t<=t.atoms:=by
      intro t
      induction t with
      |name s=>simp only[fw,Ty.atoms];split<;>omega
      |plus a b i1 i2=>simp only[fw,Ty.atoms];omega
      |times a b i1 i2=>simp only[fw,Ty.atoms];omega
      |rc a i=>simp only[fw,Ty.atoms];omega
      |_=>simp[fw,Ty.atoms]
     exact h3 t
    have hbig:∀t:Ty,t.atoms<=400->(sub x (.rc a) t).atoms<=400+400*402:=fun t ht=>by
     have h1:=dW x (.rc a) t
     have h2:=hcc t
     have h3:fw x t*(Ty.rc a).atoms<=400*402:=Nat.mul_le_mul (by omega) (by simp only[Ty.atoms];omega)
     omega
    have b1:=hbig c lc
    cases q2:l5 i x with
    |
     none =>
     rw[q2]at k2
     simp only[qj]at k2
     simp only[Option.isNone_none,Option.getD_none,bL]
     refine aV (vN f2 true .zero (by simp[Ty.atoms])) ?_
     simp only[↓zq,zs,ae,zt,aI,aE]
     rw[yp,vu]
     refine aj (BH x (.rc a) .zero) ?_
     simp only[↓zq,zs,ae,zt,aE]
     refine aj (xT 42 _ (.bound 0)) ?_
     simp only[↓zq,zs,ae,zt,cb]
     refine aj (xT 43 (sub x (.rc a) c) (.times (sub x (.rc a) .zero) (.bound 0))) ?_
     simp only[↓zq,zs,ae,zt,cb]
     refine aV (vN f2 true (.rc (.plus (sub x (.rc a) c) (.times (sub x (.rc a) .zero) (.bound 0)))) (by simp only[sub,Ty.atoms];omega)) ?_
     simp only[↓zq,zs,ae,zt,aI,aE]
     rw[yp,vu]
     exact⟨f2,by omega,by simp only[qj,Ty.atoms];omega,rfl,rfl⟩
    |
     some d =>
     rw[q2]at k2
     simp only[qj]at k2
     have ld:=(cQ.1 q2).small
     have b2:=hbig d ld
     simp only[Option.isNone_some,cx,bb]
     refine aV (vN f2 false d (by omega)) ?_
     simp only[↓zq,zs,ae,zt,aI,aE]
     rw[v8 ld,wA ld]
     refine aj (BH x (.rc a) d) ?_
     simp only[↓zq,zs,ae,zt,aE]
     refine aj (xT 42 _ (.bound 0)) ?_
     simp only[↓zq,zs,ae,zt,cb]
     refine aj (xT 43 (sub x (.rc a) c) (.times (sub x (.rc a) d) (.bound 0))) ?_
     simp only[↓zq,zs,ae,zt,cb]
     have hdrc:pK a x c d=.rc (.plus (sub x (.rc a) c) (.times (sub x (.rc a) d) (.bound 0))):=rfl
     refine aV (vN f2 false (pK a x c d) (by rw[hdrc];simp only[Ty.atoms];omega)) ?_
     simp only[↓zq,zs,ae,zt,aI,aE]
     have s1:=gV x (.rc a) c
     have s2:=gV x (.rc a) d
     unfold nF
     by_cases hle:(pK a x c d).atoms<=400
     ·rw[if_pos hle,v8 hle,wA hle]
      exact⟨f2,by omega,by simp only[qj,hdrc,Ty.atoms];omega,rfl,rfl⟩
     ·rw[if_neg hle,ER hle,EU hle]
      exact⟨f2,by omega,by simp only[qj,Ty.atoms];omega,rfl,rfl⟩
def Pr(o:Option Ty):AV->List Ob->Prop:=fun r ob=>ob=[]/\∃p,LK.ptr.has p/\r=.cG [p,.v (.bool o.isSome)]/\∀d,o=some d->p=d.av
theorem Pr.ne(o:Option Ty):∃r ob,Pr o r ob:=by
 cases o with
 |none=>exact⟨_,_,rfl,gH,(gx).mpr trivial,rfl,fun d h=>by cases h⟩
 |some d=>exact⟨_,_,rfl,d.av,(aE _).mpr trivial,rfl,fun d' h=>by cases h;rfl⟩
theorem Hi:hN 1=mg:=by show (35::dd 1:Nm)=_;rw[eH (by omega)];rfl
theorem SR(a:Ty)(h4:a.atoms+2<=400)(hf:∀j,bn (hN j) a=false):an Tryz.prog 97 [(Ty.rc a).av] [] (Pr (od a mg)):=by
 have hxa:bn (hN 1) a=false:=hf 1
 have fo:CJ 1 (dA (.name (hN 1)) a 0):=fun j hj=>by
  cases q:bn (hN j) (dA (.name (hN 1)) a 0)with
  |false=>rfl
  |
   true =>
   rcases gD a 0 q with e|e
   ·have:=uz e;omega
   ·rw[hf j]at e;cases e
 have hoa:(dA (.name (hN 1)) a 0).atoms=a.atoms:=fM _ _ _
 have hop:=Ip (.name (hN 1)) a 0 (by omega)
 rw[<-Hi]
 have hrc:(Ty.rc a).av=.ptr [.v (.int .u8 114),.v (.string (mk [])),.v (.int .i64 0),a.av,.v (.pointer none)]:=rfl
 refine Qx _ ((aE _).mpr trivial) ?_
 unfold Ol
 refine aV (N3 0 false (by omega)) ?_
 simp only[Ty.av,↓zq,zs,ae,zt,aI,aE]
 repeat refine⟨by omega,?_⟩
 simp only[Ty.av]at hop
 refine aj hop ?_
 simp only[↓zq,zs,ae,zt,aI,aE]
 refine aP (xq 400 (dA (.name (hN 1)) a 0) (by omega) (by omega) (hN 1) 1 fo (fun j hj e=>by have:=uz e;omega) (by omega)) (Bg.ne _ _ _) ?_
 rintro r ob ⟨f1,g1,g2,rfl,rfl⟩
 simp only[↓zq,zs,ae,zt,aI,aE]
 unfold od
 cases q1:l5 (dA (.name (hN 1)) a 0) (hN 1)with
 |
  none =>
  simp only[Option.isNone_none,Option.getD_none,bL]
  refine aV (vN f1 true .zero (by simp[Ty.atoms])) ?_
  simp only[↓zq,zs,ae,zt,aI,aE,vu]
  exact⟨fun _=>⟨rfl,gH,(gx).mpr trivial,rfl,fun d h=>(by cases h)⟩,fun h=>(by cases h)⟩
 |
  some d =>
  have ld:=(cQ.1 q1).small
  simp only[Option.isNone_some,cx,bb]
  refine aV (vN f1 false d (by omega)) ?_
  simp only[↓zq,zs,ae,zt,aI,aE]
  rw[v8 ld,wA ld]
  refine⟨fun h=>(by cases h),fun _=>?_⟩
  rw[<-hrc]
  refine aj (BH (hN 1) (.rc a) d) ?_
  simp only[↓zq,zs,ae,zt,aE]
  have h1:=dW (hN 1) (.rc a) d
  have hcn:fw (hN 1) d<=d.atoms:=by
   have h3:∀t:Ty,fw (hN 1) t<=t.atoms:=by
    intro t
    induction t with
    |name s=>simp only[fw,Ty.atoms];split<;>omega
    |plus a b i1 i2=>simp only[fw,Ty.atoms];omega
    |times a b i1 i2=>simp only[fw,Ty.atoms];omega
    |rc a i=>simp only[fw,Ty.atoms];omega
    |_=>simp[fw,Ty.atoms]
   exact h3 d
  have h3:fw (hN 1) d*(Ty.rc a).atoms<=400*402:=Nat.mul_le_mul (by omega) (by simp only[Ty.atoms];omega)
  refine aV (vN f1 false (sub (hN 1) (.rc a) d) (by omega)) ?_
  simp only[↓zq,zs,ae,zt,aI,aE]
  unfold nF
  by_cases hle:(sub (hN 1) (.rc a) d).atoms<=400
  ·rw[if_pos hle,v8 hle,wA hle]
   exact⟨rfl,_,(aE _).mpr trivial,rfl,fun d' h=>by cases h;rfl⟩
  ·rw[if_neg hle,ER hle,EU hle]
   exact⟨rfl,_,(aE _).mpr trivial,rfl,fun d' h=>(by cases h)⟩
end Go.Proofs.Trees
namespace Go.Proofs.Trees
open Go Go.VL Go.RowKit
theorem sj(h:Nm)(a b:E):(e9 (.list [.atom h,a,b])).length=h.length+(e9 a).length+(e9 b).length+4:=by
 simp only[e9,ej,aA,aq,aG];omega
theorem je(F:List Nm)(hF:F.length<=10000):∀(t:Ty) (to:List Nm) (k:Nat),vc t->(∀w,w∈to->w.length<=20)->k+(F.length+1)*t.atoms<90000000->(e9 (gY F t to k).1).length<=50*t.atoms
 | .zero,_,_,_,_,_=>by simp[gY,e9,Ty.atoms]
 | .one,_,_,_,_,_=>by simp[gY,e9,Ty.atoms]
 | .name s,_,_,hn,_,_=>by have:=hn s (by simp[bn]);simp only[gY,e9,Ty.atoms];omega
 |
  .bound u,to,_,_,ht,_=>by
  show (gk to u).length<=50*1
  unfold gk
  by_cases h:to.length-1-u<to.length
  ·rw[aa,bp h];have:=ht _ (bD h);simp only[cx];omega
  ·rw[aa,List.getElem?_eq_none (by omega)];simp
 |
  .plus a b,to,k,hn,ht,hk=>by
  have h1:=il F a to k
  have:(F.length+1)*(1+a.atoms+b.atoms)=(F.length+1)+(F.length+1)*a.atoms+(F.length+1)*b.atoms:=by simp only[cT,dG]
  simp only[Ty.atoms]at hk
  have i1:=je F hF a to k (fun y hy=>hn y (by simp[bn,hy])) ht (by omega)
  have i2:=je F hF b to _ (fun y hy=>hn y (by simp[bn,hy])) ht (show (gY F a to k).2+_<_ by omega)
  simp only[gY,sj,Ty.atoms,aA,aG];omega
 |
  .times a b,to,k,hn,ht,hk=>by
  have h1:=il F a to k
  have:(F.length+1)*(1+a.atoms+b.atoms)=(F.length+1)+(F.length+1)*a.atoms+(F.length+1)*b.atoms:=by simp only[cT,dG]
  simp only[Ty.atoms]at hk
  have i1:=je F hF a to k (fun y hy=>hn y (by simp[bn,hy])) ht (by omega)
  have i2:=je F hF b to _ (fun y hy=>hn y (by simp[bn,hy])) ht (show (gY F a to k).2+_<_ by omega)
  simp only[gY,sj,Ty.atoms,aA,aG];omega
 |
  .rc a,to,k,hn,ht,hk=>by
  obtain⟨g1,g2,_,_⟩:=gv F k
  have:(F.length+1)*(2+a.atoms)=(F.length+1)*2+(F.length+1)*a.atoms:=by simp only[cT]
  simp only[Ty.atoms]at hk
  have hl:=xg (k:=nx F k) (by omega)
  have i1:=je F hF a (to++[tN (nx F k)]) (nx F k+1) hn (fun w hw=>by
   rcases aO.1 hw with hw|hw
   ·exact ht w hw
   ·simp only[aQ]at hw;rw[hw];exact hl) (by omega)
  simp only[gY,sj,Ty.atoms,aA,aG]
  simp only[e9]
  simp only[aA]at hl |-
  omega
theorem O0(x0 a fv:AV)(F:List Nm)(h0:LK.ptr.has x0)(ha:LK.sl.has a)(hfv:cm fv F)(hF:F.length<100000):∀(n j:Nat),qd F n j<j+n->j+n<100000000 ->
 D6 [x0,a,.v (.string (mk (tN j)))] [.cells [fv],.cells [.v (.int .i64 ((j+1:Nat):Int))]] (gZ 1 [x0,a,.v (.string (mk (tN (qd F n j))))] [.cells [fv],.cells [.v (.int .i64 ((qd F n j+1:Nat):Int))]])
 |0,j,h,_=>by simp only[qd]at h;omega
 |
  n+1,j,h,hj=>by
  refine Kk _ _ _ _ _ ?_
  simp only[E9,↓zq,zs,ae,zt,ae,hfv.1,h0,ha]
  refine⟨fun h=>(by simp at h),fun _=>?_⟩
  refine aj (Lj F fv hfv (tN j) (by omega)) ?_
  simp only[↓zq,zs,ae,zt]
  rw[qd]at h |-
  refine⟨fun hm=>?_,fun hm=>?_⟩
  ·rw[if_pos hm]at h |-
   refine aj (Gf (j+1) (by omega)) ?_
   have hd:=pe 8 (j+1) (by omega)
   simp only[↓zq,zs,ae,zt,bc,aT]
   rw[bx (j+1) (by omega)]
   exact⟨by simp[cM];omega,O0 x0 a fv F h0 ha hfv hF n (j+1) (by omega) (by omega)⟩
  ·rw[if_neg hm]
   exact⟨rfl,rfl,rfl⟩
theorem PQ(x0 a fv:AV)(F:List Nm)(h0:LK.ptr.has x0)(ha:LK.sl.has a)(hfv:cm fv F)(hF:F.length<10000)(k:Nat)(hk:k<90000000) :
 D6 [x0,a,.v (.string (mk []))] [.cells [fv],.cells [.v (.int .i64 (k:Int))]] (gZ 1 [x0,a,.v (.string (mk (tN (nx F k))))] [.cells [fv],.cells [.v (.int .i64 ((nx F k+1:Nat):Int))]]):=by
 obtain⟨g1,g2,_,_⟩:=gv F k
 refine Kk _ _ _ _ _ ?_
 simp only[E9,↓zq,zs,ae,zt,ae,hfv.1,h0,ha]
 refine⟨fun _=>?_,fun h=>(by simp at h)⟩
 refine aj (Gf k (by omega)) ?_
 have hd:=pe 8 k (by omega)
 simp only[↓zq,zs,ae,zt,bc,aT]
 rw[bx k (by omega)]
 exact⟨by simp[cM];omega,O0 x0 a fv F h0 ha hfv (by omega) (F.length+1) k (by show nx F k<_;omega) (by omega)⟩
theorem zH(F:List Nm)(fv:AV)(hfv:cm fv F)(hF:F.length<=1000):∀(t:Ty) (to:List Nm) (a:AV) (k:Nat),cm a to->to.length+t.atoms<10000->jy t to.length->vc t->(∀w,w∈to->w.length<=20)->k+(F.length+1)*t.atoms<80000000 ->
 an Tryz.prog 155 [t.av,a,.gL 155 [none,some 0,some 1],.ref 0 0,.ref 1 0] [.cells [fv],.cells [.v (.int .i64 (k:Int))]] (df (.v (.string (mk (e9 (gY F t to k).1)))) [.cells [fv],.cells [.v (.int .i64 ((gY F t to k).2:Int))]])
 |
  .zero,to,a,k,ha,hl,hlc,hs,ht,hk=>by
  refine wK _ _ _ _ ((aE _).mpr trivial) ha.1 hfv.1 ?_
  simp only[E3,Ty.av,↓zq,zs,ae,zt,aE]
  refine⟨by omega,fun h=>by omega,fun _=>⟨fun h=>by omega,fun _=>⟨fun h=>by omega,fun _=>⟨fun h=>by omega,fun _=>⟨fun h=>by omega,fun _=>?_⟩⟩⟩⟩⟩
  repeat refine⟨by omega,?_⟩
  exact⟨⟨rfl,(lH _ _).mpr trivial,trivial⟩,rfl,rfl⟩
 |
  .one,to,a,k,ha,hl,hlc,hs,ht,hk=>by
  refine wK _ _ _ _ ((aE _).mpr trivial) ha.1 hfv.1 ?_
  simp only[E3,Ty.av,↓zq,zs,ae,zt,aE]
  refine⟨by omega,fun h=>by omega,fun _=>⟨fun h=>by omega,fun _=>⟨fun h=>by omega,fun _=>⟨fun h=>by omega,fun _=>⟨fun h=>by omega,fun _=>?_⟩⟩⟩⟩⟩
  repeat refine⟨by omega,?_⟩
  exact⟨⟨rfl,(lH _ _).mpr trivial,trivial⟩,rfl,rfl⟩
 |
  .name s,to,a,k,ha,hl,hlc,hs,ht,hk=>by
  refine wK _ _ _ _ ((aE _).mpr trivial) ha.1 hfv.1 ?_
  simp[E3,Ty.av,↓zq,zs,ae,df,gY,e9]
 |
  .bound u,to,a,k,ha,hl,hlc,hs,ht,hk=>by
  have hu:u<to.length:=hlc
  refine wK _ _ _ _ ((aE _).mpr trivial) ha.1 hfv.1 ?_
  simp only[E3,Ty.av,↓zq,zs,ae,zt,ha.len]
  rw[wrap64 ((to.length:Int)-1) (by omega) (by omega),wrap64 _ (by omega) (by omega)]
  have e1:(to.length:Int)-1-(u:Int)=((to.length-1-u:Nat):Int):=by omega
  rw[e1]
  simp only[bH,ha.idx (show to.length-1-u<to.length by omega),↓zq,zs,ae,zt]
  refine⟨by omega,fun h=>by omega,fun _=>⟨fun _=>⟨ha.1,by omega,⟨ha.1,by omega,by omega⟩,by omega,rfl,rfl⟩,fun h=>absurd rfl h⟩⟩
 |
  .plus x y,to,a,k,ha,hl,hlc,hs,ht,hk=>by
  simp only[Ty.atoms]at hl hk
  have h1:=il F x to k
  have hm:(F.length+1)*(1+x.atoms+y.atoms)=(F.length+1)+(F.length+1)*x.atoms+(F.length+1)*y.atoms:=by simp only[cT,dG]
  have sx:vc x:=fun z hz=>hs z (by simp[bn,hz])
  have sy:vc y:=fun z hz=>hs z (by simp[bn,hz])
  have t1:=je F (by omega) x to k sx ht (by omega)
  have t2:=je F (by omega) y to (gY F x to k).2 sy ht (by omega)
  have hb:(⟨(bytesOf [[.v (.int .u8 43)]]).toArray⟩:ByteArray)=mk [43]:=rfl
  have h8:jA [[AV.v (.int .u8 43)]]:=⟨rfl,(lH _ _).mpr trivial,trivial⟩
  refine wK _ _ _ _ ((aE _).mpr trivial) ha.1 hfv.1 ?_
  simp only[E3,Ty.av,↓zq,zs,ae,zt,aE,hb]
  refine⟨by omega,fun h=>by omega,fun _=>⟨fun h=>by omega,fun _=>⟨fun _=>?_,fun h=>absurd rfl h⟩⟩⟩
  repeat refine⟨by omega,?_⟩
  refine aV (zH F fv hfv hF x to a k ha (by omega) hlc.1 sx ht (by omega)) ?_
  simp only[↓zq,zs,ae,zt,aI,hfv.1,hb,bc,aT]
  repeat (first|refine⟨by omega,?_⟩|refine⟨h8,?_⟩|refine⟨by simp[cM];omega,?_⟩)
  refine aV (zH F fv hfv hF y to a _ ha (by omega) hlc.2 sy ht (by omega)) ?_
  simp only[↓zq,zs,ae,zt,aI,hfv.1,hb,bc,aT]
  repeat (first|refine⟨by omega,?_⟩|refine⟨h8,?_⟩|refine⟨by simp[cM];omega,?_⟩)
  refine⟨?_,rfl⟩
  simp[gY,e9,ej]
 |
  .times x y,to,a,k,ha,hl,hlc,hs,ht,hk=>by
  simp only[Ty.atoms]at hl hk
  have h1:=il F x to k
  have hm:(F.length+1)*(1+x.atoms+y.atoms)=(F.length+1)+(F.length+1)*x.atoms+(F.length+1)*y.atoms:=by simp only[cT,dG]
  have sx:vc x:=fun z hz=>hs z (by simp[bn,hz])
  have sy:vc y:=fun z hz=>hs z (by simp[bn,hz])
  have t1:=je F (by omega) x to k sx ht (by omega)
  have t2:=je F (by omega) y to (gY F x to k).2 sy ht (by omega)
  have hb:(⟨(bytesOf [[.v (.int .u8 42)]]).toArray⟩:ByteArray)=mk [42]:=rfl
  have h8:jA [[AV.v (.int .u8 42)]]:=⟨rfl,(lH _ _).mpr trivial,trivial⟩
  refine wK _ _ _ _ ((aE _).mpr trivial) ha.1 hfv.1 ?_
  simp only[E3,Ty.av,↓zq,zs,ae,zt,aE,hb]
  refine⟨by omega,fun h=>by omega,fun _=>⟨fun h=>by omega,fun _=>⟨fun h=>by omega,fun _=>⟨fun _=>?_,fun h=>absurd rfl h⟩⟩⟩⟩
  repeat refine⟨by omega,?_⟩
  refine aV (zH F fv hfv hF x to a k ha (by omega) hlc.1 sx ht (by omega)) ?_
  simp only[↓zq,zs,ae,zt,aI,hfv.1,hb,bc,aT]
  repeat (first|refine⟨by omega,?_⟩|refine⟨h8,?_⟩|refine⟨by simp[cM];omega,?_⟩)
  refine aV (zH F fv hfv hF y to a _ ha (by omega) hlc.2 sy ht (by omega)) ?_
  simp only[↓zq,zs,ae,zt,aI,hfv.1,hb,bc,aT]
  repeat (first|refine⟨by omega,?_⟩|refine⟨h8,?_⟩|refine⟨by simp[cM];omega,?_⟩)
  refine⟨?_,rfl⟩
  simp[gY,e9,ej]
 |
  .rc x,to,a,k,ha,hl,hlc,hs,ht,hk=>by
  simp only[Ty.atoms]at hl hk
  obtain⟨g1,g2,_,_⟩:=gv F k
  have hm:(F.length+1)*(2+x.atoms)=(F.length+1)*2+(F.length+1)*x.atoms:=by simp only[cT]
  have hln:=xg (k:=nx F k) (by omega)
  have ht':∀w,w∈to++[tN (nx F k)]->w.length<=20:=fun w hw=>by
   rcases aO.1 hw with hw|hw
   ·exact ht w hw
   ·simp only[aQ]at hw;rw[hw];exact hln
  have t1:=je F (by omega) x (to++[tN (nx F k)]) (nx F k+1) hs ht' (by omega)
  have hrc:(Ty.rc x).av=.ptr [.v (.int .u8 114),.v (.string (mk [])),.v (.int .i64 0),x.av,.v (.pointer none)]:=rfl
  refine wK _ _ _ _ ((aE _).mpr trivial) ha.1 hfv.1 ?_
  simp only[E3,Ty.av,↓zq,zs,ae,zt,aE]
  refine⟨by omega,fun h=>by omega,fun _=>⟨fun h=>by omega,fun _=>⟨fun h=>by omega,fun _=>⟨fun h=>by omega,fun _=>⟨fun _=>?_,fun h=>absurd rfl h⟩⟩⟩⟩⟩
  rw[<-hrc]
  repeat refine⟨by omega,?_⟩
  refine cA (PQ (Ty.rc x).av a fv F ((aE _).mpr trivial) ha.1 hfv (by omega) k (by omega)) ?_
  simp only[Ty.av,↓zq,zs,ae,zt,ae,aI,hfv.1,ha.1,aE,ha.2,E2,aT,kl,kj]
  have hl2:(dd (nx F k)).length+1<=20:=hln
  have hl3:(tN (nx F k)).length=(dd (nx F k)).length+1:=rfl
  refine⟨by omega,by simp only[aq,aA,aG,hl3];omega,by omega,by omega,⟨fun c hc=>by simp at hc;rw[hc];rfl,by omega⟩,?_⟩
  refine aV (zH F fv hfv hF x (to++[tN (nx F k)]) _ (nx F k+1) (.of _) (by simp;omega) (by rw[aq];exact hlc) hs ht' (by omega)) ?_
  simp only[↓zq,zs,ae,zt,aI,hfv.1]
  repeat refine⟨by omega,?_⟩
  refine⟨by simp only[aq,aA,aG,hl3];omega,by simp only[aq,aA,aG,hl3];omega,?_,rfl⟩
  simp[gY,e9,ej]
theorem RI(t:Ty)(g:fW t)(hs:vc t)(h4:t.atoms<=400):an Tryz.prog 137 [t.av] [] (bM (.v (.string (mk (E6 t))))):=by
 refine QA _ ((aE _).mpr trivial) ?_
 unfold NO
 have hn:=eB t []
 simp only[aG,aX]at hn
 have hm:((bQ t []).length+1)*t.atoms<=401*400:=Nat.mul_le_mul (by omega) h4
 refine aj (K1 t (by omega)) ?_
 simp only[↓zq,zs,ae,zt,cg]
 refine aV (zH (bQ t []) _ (.of _) (by omega) t [] yx 0 .nil (by simp;omega) g.1 hs (fun w hw=>by cases hw) (by omega)) ?_
 simp only[↓zq,zs,ae,zt,aI,cg]
 exact⟨rfl,rfl⟩
theorem Sr(t:Ty)(g:fW t)(hs:vc t)(hl:t.atoms<1000000):an Tryz.prog 98 [t.av] [] (bM (oj (told t))):=by
 refine Qy _ ((aE _).mpr trivial) ?_
 unfold Ln
 refine aj (EO t hl) ?_
 simp only[↓zq,zs,ae,zt]
 refine⟨fun h=>?_,fun h=>?_⟩
 ·have:told t=none:=by unfold told;rw[if_neg fun h'=>by have:=h'.1;omega]
  rw[this];exact⟨rfl,rfl⟩
 ·have h4:t.atoms<=400:=by omega
  refine aj (RI t g hs h4) ?_
  simp only[↓zq,zs,ae,zt]
  refine aj (IC (E6 t)) ?_
  simp only[↓zq,zs,ae,zt,iF]
  unfold told
  cases q:qT (E6 t)with
  |
   none =>
   simp only[ik,↓zq,zs,ae]
   rw[if_neg (by simp)]
   exact⟨fun _=>⟨rfl,rfl⟩,fun h=>(by cases h)⟩
  |
   some u =>
   simp only[ik,↓zq,zs,ae,fO]
   rw[if_pos ⟨h4,rfl⟩]
   exact⟨fun h=>(by cases h),fun _=>⟨rfl,rfl⟩⟩
theorem Ru(s:Nm):an Tryz.prog 70 [.v (.string (mk s))] [] (bM (oj (cL s))):=by
 refine SV _ ?_
 unfold K2
 refine aj (IC s) ?_
 simp only[↓zq,zs,ae,zt,iF]
 cases q:qT s with
 |
  none =>
  have:cL s=none:=by unfold cL;rw[q]
  rw[this]
  simp only[ik,↓zq,zs,ae]
  exact⟨fun _=>⟨rfl,rfl⟩,fun h=>(by cases h)⟩
 |
  some t =>
  simp only[ik,↓zq,zs,ae,fO]
  have notRec:(∀a,t≠.rc a)->cL s=none:=fun hn=>by
   unfold cL;rw[q]
   cases t<;>first|rfl|exact absurd rfl (hn _)
  refine⟨fun h=>(by cases h),fun _=>?_⟩
  cases t with
  |
   rc a =>
   have h4:=s6 q
   simp only[Ty.atoms]at h4
   have hq:cL s=(od a mg).bind told:=by unfold cL;rw[q]
   obtain⟨e,he,hw,hte,hats,hok⟩:=nS q
   have hgood:∀d,od a mg=some d->fW d/\(vc (.rc a)->vc d):=fun d hd=>se hw hte ⟨by simp,by simp,by simp⟩ hd
   rw[hq]
   simp only[Ty.av,↓zq,zs,ae]
   refine⟨by omega,fun h=>by omega,fun _=>?_⟩
   have hld:=SR a (by omega) (fun j=>by
    cases q2:bn (hN j) a with
    |false=>rfl
    |true=>exact absurd rfl ((xz (m8 q (hN j) q2)).2 (dd j)))
   simp only[Ty.av]at hld
   refine aP hld (Pr.ne _) ?_
   rintro r ob ⟨rfl,p,hp,rfl,hpe⟩
   simp only[↓zq,zs,ae,zt,eq_true hp]
   cases q1:od a mg with
   |
    none =>
    simp only[bA,bL]
    exact⟨fun _=>⟨rfl,rfl⟩,fun h=>(by cases h)⟩
   |
    some d =>
    simp only[aW,bb]
    refine⟨fun h=>(by cases h),fun _=>?_⟩
    rw[hpe d q1]
    have hl:d.atoms<=400:=by
     simp only[od,a6,eT]at q1
     obtain⟨_,_,h1,h2⟩:=q1
     rw[<-h2];exact h1
    refine aj (Sr d (hgood d q1).1 ((hgood d q1).2 (BB q)) (by omega)) ?_
    cases told d<;>simp only[oj,↓zq,zs,ae,zt]<;>exact⟨rfl,rfl⟩
  |
   _ =>
   rw[notRec fun a h=>by cases h]
   simp only[Ty.av,↓zq,zs,ae]
   exact⟨by omega,fun _=>⟨rfl,rfl⟩,fun h=>by omega⟩
end Go.Proofs.Trees
namespace Go.Proofs.Trees
open Go Go.VL Go.RowKit
theorem EJ:∀(m:Nat) (c:Vl),c.nodes<=m->∀(t:Ty) (v:Vl),dL t c=true->∀(ea:AV) (ids:List Nat),kH ea ids->∀(s:List UInt8) (fr:AV),LK.has .ptr fr->an Tryz.prog 79 [.agg [t.av,ea],c.cE,.agg [.v (.string (mk s)),fr],v.cE] [] (bM (cW t c v).cE)
 |0,c,hm=>by have:=dr c;omega
 |
  m+1,c,hm=>by
  intro t v hc ea ids he s fr hf
  refine Rq _ _ _ _ _ _ ((aE _).mpr trivial) he.has ((aN _).mpr trivial) hf ((aN _).mpr trivial) ?_
  have fin:∀x:AV,LK.has .ptr x->LK.has .ptr x=True:=fun x h=>eq_true h
  cases t with
  |zero=>rw[tf];simp[Ca,Ty.av,↓zq,zs,ae,bM]
  |one=>rw[vD];simp[Ca,Ty.av,↓zq,zs,ae,bM]
  |name n=>rw[kP];simp[Ca,Ty.av,↓zq,zs,ae,bM]
  |bound u=>rw[rK];simp[Ca,Ty.av,↓zq,zs,ae,bM]
  |
   plus a b =>
   have hL:=zZ a.av b.av ea 43 (mk []) 0 ((aE _).mpr trivial) he.has
   have hR:=zK a.av b.av ea 43 (mk []) 0 ((aE _).mpr trivial) he.has
   rcases vG hc with⟨x,rfl,hx⟩|⟨x,rfl,hx⟩
   ·simp only[Vl.nodes]at hm
    simp only[Ca,Ty.av,↓zq,zs,ae]
    refine⟨by omega,fun _=>?_,fun h=>absurd rfl h⟩
    refine aj hL ?_
    simp only[↓zq,zs,ae,bK,aE,he.has,Vl.cE,aN]
    refine⟨by omega,fun h=>by omega,fun _=>⟨by omega,by omega,?_⟩⟩
    refine aj (EJ m x (by omega) a v hx ea ids he s fr hf) ?_
    simp only[↓zq,zs,ae,aN]
    refine aj (zV 108 _ ((aN _).mpr trivial)) ?_
    simp[↓zq,zs,ae,bM,cW,Vl.cE,cb]
   ·simp only[Vl.nodes]at hm
    simp only[Ca,Ty.av,↓zq,zs,ae]
    refine⟨by omega,fun _=>?_,fun h=>absurd rfl h⟩
    refine aj hL ?_
    simp only[↓zq,zs,ae,bK,aE,he.has,Vl.cE,aN]
    refine⟨by omega,fun _=>?_,fun h=>absurd rfl h⟩
    refine aj hR ?_
    simp only[↓zq,zs,ae,bK,aE,he.has,Vl.cE,aN]
    refine⟨by omega,by omega,?_⟩
    refine aj (EJ m x (by omega) b v hx ea ids he s fr hf) ?_
    simp only[↓zq,zs,ae,aN]
    refine aj (zV 114 _ ((aN _).mpr trivial)) ?_
    simp[↓zq,zs,ae,bM,cW,Vl.cE,cb]
  |
   times a b =>
   have hL:=zZ a.av b.av ea 42 (mk []) 0 ((aE _).mpr trivial) he.has
   have hR:=zK a.av b.av ea 42 (mk []) 0 ((aE _).mpr trivial) he.has
   rcases tI hc with⟨x,y,rfl,hx⟩|⟨x,y,rfl,hx⟩
   ·simp only[Vl.nodes]at hm
    simp only[Ca,Ty.av,↓zq,zs,ae,Vl.cE]
    refine⟨by omega,fun h=>by omega,fun _=>⟨fun _=>⟨by omega,fun _=>?_,fun h=>absurd rfl h⟩,fun h=>absurd rfl h⟩⟩
    refine aj hL ?_
    simp only[↓zq,zs,ae,bK,aE,he.has,Vl.cE,aN]
    repeat refine⟨by omega,?_⟩
    refine aj (EJ m x (by omega) a v hx ea ids he s fr hf) ?_
    simp only[↓zq,zs,ae,aN]
    repeat refine⟨by omega,?_⟩
    refine aj (Am _ _ ((aN _).mpr trivial) ((aN _).mpr trivial)) ?_
    simp[↓zq,zs,ae,bM,cW,Vl.cE,cb]
   ·simp only[Vl.nodes]at hm
    simp only[Ca,Ty.av,↓zq,zs,ae,Vl.cE,aN]
    refine⟨by omega,fun h=>by omega,fun _=>⟨fun _=>⟨by omega,fun h=>by omega,fun _=>?_⟩,fun h=>absurd rfl h⟩⟩
    repeat refine⟨by omega,?_⟩
    refine aj hR ?_
    simp only[↓zq,zs,ae,bK,aE,he.has,Vl.cE,aN]
    repeat refine⟨by omega,?_⟩
    refine aj (EJ m y (by omega) b v hx ea ids he s fr hf) ?_
    simp only[↓zq,zs,ae,aN]
    refine aj (Am _ _ ((aN _).mpr trivial) ((aN _).mpr trivial)) ?_
    simp[↓zq,zs,ae,bM,cW,Vl.cE,cb]
  |
   rc a =>
   have hin:=Df a ea ids he
   simp only[Ty.av]at hin
   rcases Bp hc with⟨x,rfl,hx⟩|⟨x,y,rfl,hx,hy⟩
   ·simp only[Vl.nodes]at hm
    simp only[Ca,Ty.av,↓zq,zs,ae,Vl.cE,aN]
    refine⟨by omega,fun h=>by omega,fun _=>⟨fun h=>by omega,fun _=>⟨fun _=>?_,fun h=>absurd rfl h⟩⟩⟩
    refine aP hin (by have:=CF.ne a ea ids;simpa only[CF,Ty.av]using this) ?_
    intro r o hr
    obtain⟨⟨q,hq,rfl⟩,rfl⟩:=hr
    have he2:kH (.ptr [.pid q [(Ty.rc a).av,ea],ea]) (q::ids):=.cons hq he
    have hfr:LK.ptr.has (.pid q [(Ty.rc a).av,ea]):=.inr (.inr ⟨_,_,rfl⟩)
    simp only[Ty.av]at he2 hfr
    simp only[↓zq,zs,ae,bK,aE,he2.has,hfr,Vl.cE,aN,Ty.av]
    repeat refine⟨by omega,?_⟩
    refine⟨fun _=>?_,fun h=>absurd rfl h⟩
    repeat refine⟨by omega,?_⟩
    refine aj (EJ m x (by omega) a v hx _ _ he2 s fr hf) ?_
    simp only[↓zq,zs,ae,aN]
    refine aj (zV 102 _ ((aN _).mpr trivial)) ?_
    simp[↓zq,zs,ae,bM,cW,Vl.cE,cb]
   ·simp only[Vl.nodes]at hm
    simp only[Ca,Ty.av,↓zq,zs,ae,Vl.cE,aN]
    refine⟨by omega,fun h=>by omega,fun _=>⟨fun h=>by omega,fun _=>⟨fun _=>?_,fun h=>absurd rfl h⟩⟩⟩
    refine aP hin (by have:=CF.ne a ea ids;simpa only[CF,Ty.av]using this) ?_
    intro r o hr
    obtain⟨⟨q,hq,rfl⟩,rfl⟩:=hr
    have he2:kH (.ptr [.pid q [(Ty.rc a).av,ea],ea]) (q::ids):=.cons hq he
    have hfr:LK.ptr.has (.pid q [(Ty.rc a).av,ea]):=.inr (.inr ⟨_,_,rfl⟩)
    simp only[Ty.av]at he2 hfr
    simp only[↓zq,zs,ae,bK,aE,he2.has,hfr,Vl.cE,aN,Ty.av]
    repeat refine⟨by omega,?_⟩
    refine fun _=>?_
    repeat refine⟨by omega,?_⟩
    have i1:=EJ m y (by omega) (.rc a) v hy ea ids he s fr hf
    simp only[Ty.av]at i1
    refine aj i1 ?_
    simp only[↓zq,zs,ae,aN]
    repeat refine⟨by omega,?_⟩
    refine aj (EJ m x (by omega) a (cW (.rc a) y v) hx _ _ he2 [] _ hfr) ?_
    simp only[↓zq,zs,ae,aN]
    refine aj (zV 102 _ ((aN _).mpr trivial)) ?_
    simp[↓zq,zs,ae,bM,cW,Vl.cE,cb]
theorem QK(a:Ty)(c v:Vl)(hc:dL a c=true):an Tryz.prog 55 [(Ty.rc a).av,c.cE,v.cE] [] (bM (Vl.f (cW a c v)).cE):=by
 refine R8 _ _ _ ((aE _).mpr trivial) ((aN _).mpr trivial) ((aN _).mpr trivial) ?_
 unfold KC
 refine aP (Df a gH [] .nil) (CF.ne a gH []) ?_
 rintro r o ⟨⟨m,hm,rfl⟩,rfl⟩
 have he2:kH (.ptr [.pid m [(Ty.rc a).av,gH],gH]) [m]:=.cons hm .nil
 have hfr:LK.ptr.has (.pid m [(Ty.rc a).av,gH]):=.inr (.inr ⟨_,_,rfl⟩)
 simp only[Ty.av]at he2 hfr
 simp only[↓zq,zs,ae,bK,aE,he2.has,hfr,Ty.av]
 repeat refine⟨by omega,?_⟩
 refine aj (EJ c.nodes c (au _) a v hc _ _ he2 [] _ hfr) ?_
 simp only[↓zq,zs,ae,aN]
 refine aj (zV 102 _ ((aN _).mpr trivial)) ?_
 simp[↓zq,zs,ae,bM,Vl.cE,cb]
end Go.Proofs.Trees
namespace Go.Proofs.Trees
open Go Go.VL Go.RowKit
def u9(l:List Vl):List (List AV):=l.map fun c=>[c.cE]
theorem gy(l:List Vl):(u9 l).length=l.length:=by simp[u9]
theorem u4{l:List Vl}{i:Nat}(h:i<l.length):(u9 l).getD i []=[(l[i]).cE]:=by simp[u9,aa,h]
theorem xS(l:List Vl)(c:Vl):u9 l++[[c.cE]]=u9 (l++[c]):=by simp[u9]
def pE(s:Nm)(a:Ty)(l:List Vl)(v:Vl):AV:=.ptr [.v (.string (mk s)),(Ty.rc a).av,.sl (u9 l),v.cE]
def oZ(s:Nm)(a:Ty):Option (List Vl×Vl)->AV
 |some r=>pE s a r.1 r.2
 |none=>gH
theorem lZ(s:Nm)(a:Ty)(o:Option (List Vl×Vl)):LK.has .ptr (oZ s a o)=True:=by cases o<;>simp[oZ,pE,gx,cb]
theorem QQ:an Tryz.prog 34 [gH] [] (bM gH):=by
 refine Kj _ ((gx).mpr trivial) ?_
 simp only[H2,↓zq,zs,ae]
 exact⟨fun _=>⟨rfl,rfl⟩,fun h=>(by cases h)⟩
theorem CP(v:Vl):(Vl.f v).nodes=v.nodes+1:=by simp only[Vl.nodes];omega
theorem Dy(s:Nm)(a:Ty)(l:List Vl)(v:Vl)(h:ZI a l v)(hl:l.length<=50):an Tryz.prog 34 [pE s a l v] [] (bM (oZ s a (qt a l v))):=by
 refine Kj _ ((cb _).mpr trivial) ?_
 simp only[H2,pE,↓zq,zs,ae,gy]
 refine⟨fun h=>(by cases h),fun _=>?_⟩
 repeat refine⟨by omega,?_⟩
 unfold qt
 refine⟨fun h0=>?_,fun h0=>?_⟩
 ·have:l=[]:=bJ (by omega)
  subst this
  exact⟨rfl,rfl⟩
 ·have hpos:0<l.length:=by omega
  have hne:l≠[]:=by rintro rfl;simp at hpos
  rw[wrap64 ((l.length:Int)-1) (by omega) (by omega)]
  have e1:((l.length:Int)-1).toNat=l.length-1:=by omega
  have hlt:l.length-1<l.length:=by omega
  have hlast:l.getLast?=some (l[l.length-1]):=by rw[List.getLast?_eq_some_getLast hne,List.getLast_eq_getElem]
  rw[hlast]
  have hC:=h.ctx _ (bD hlt)
  generalize hc:l[l.length-1]=c at *
  simp only[e1,u4 hlt,hc,↓zq,zs,ae,aN,aE]
  repeat refine⟨by omega,?_⟩
  refine aj (QK a c v hC.ok) ?_
  simp only[↓zq,zs,ae,aN]
  have hn:=rX a c v
  have h1:=hC.nd
  have h2:=h.ov.nd
  refine aj (EP (.f (cW a c v)) (by rw[CP];omega)) ?_
  simp only[↓zq,zs,ae,aN,aE]
  refine⟨fun hb=>?_,fun hb=>?_⟩
  ·rw[if_neg (by omega)];exact⟨rfl,rfl⟩
  ·rw[if_pos (by omega)]
   repeat refine⟨by omega,?_⟩
   refine⟨?_,rfl⟩
   have:(u9 l).take (l.length-1)=u9 l.dropLast:=by rw[List.dropLast_eq_take];simp[u9]
   simp only[oZ,pE,Int.toNat_zero,bf,this]
theorem IY{s d:Nm}{a:Ty}{x A B:E}{D:Ty}(z:ZT s d a x A B D)(pa:AV)(p:List Nm)(hp:cm pa p)(hl:p.length<=50)(v:Vl):∀(k i:Nat) (l0:List Vl),i+k=p.length->l0.length<=i ->
 Gc [.v (.string (mk d)),pa,.v (.int .i64 (p.length:Int)),.v (.int .i64 (i:Int))] [.cells [.v (.string (mk s)),(Ty.rc a).av,.any,v.cE],.vec 1 (u9 l0)]
  (nH (match eM d (p.drop i)with|some l=>(1,[],[.cells [.v (.string (mk s)),(Ty.rc a).av,.any,v.cE],.vec 1 (u9 (l0++l))])|none=>(2,[gH],[])))
 |
  0,i,l0,hi,IQ=>by
  refine LD _ _ _ _ _ _ _ _ ?_
  have:i=p.length:=by omega
  subst this
  simp only[ID,↓zq,zs,ae,ae,aE,aN,List.drop_length]
  exact⟨hp.1,fun h=>by omega,fun _=>by simp[nH,eM]⟩
 |
  k+1,i,l0,hi,IQ=>by
  have hlt:i<p.length:=by omega
  have hd:p.drop i=p.getD i []::p.drop (i+1):=by rw[aU hlt];simp[aa,hlt]
  refine LD _ _ _ _ _ _ _ _ ?_
  simp only[ID,↓zq,zs,ae,zt,ae,aE,aN,hp.len,hp.idx hlt,bH]
  refine⟨hp.1,fun _=>⟨⟨hp.1,by omega,by omega⟩,by omega,?_⟩,fun h=>by omega⟩
  refine aj (MA d (p.getD i []) 100) ?_
  rw[hd,eM]
  simp only[↓zq,zs,ae,zt,iF,gm]
  cases q:nJ d (p.getD i []) 100 with
  |
   none =>
   simp only[ju,↓zq,zs,ae]
   exact⟨fun _=>by first|trivial|rfl,fun h=>(by cases h)⟩
  |
   some w =>
   simp only[ju,↓zq,zs,ae,fB,xS]
   refine⟨fun h=>(by cases h),fun _=>?_⟩
   rw[bx i (by omega)]
   have ih:=IY z pa p hp hl v k (i+1) (l0++[w]) (by omega) (by simp;omega)
   refine⟨⟨fun c hc=>by simp at hc;rw[hc];rfl,by rw[gy];omega⟩,?_⟩
   cases q2:eM d (p.drop (i+1))with
   |none=>rw[q2]at ih;exact ih
   |some l=>rw[q2]at ih;simp only[a8,bc,aT]at ih;exact ih
theorem mI{s:Nm}{p:List Nm}{f:Nm}{l:List Vl}{v:Vl}(h:vH s p f=some (l,v)):∃d a x A B D,ZT s d a x A B D/\ZI a l v/\p=l.map (·.cF)/\f=v.cF/\p.length<=50/\zA s=a/\qI s f=some v/\eM d p=some l:=by
 unfold vH at h
 split at h
 ·rename_i v' d h1 h2
  split at h
  ·rename_i hl
   obtain⟨l',h3,h4⟩:=Option.map_eq_some_iff.1 h
   cases h4
   obtain⟨a,_,_,_,L⟩:=p5 h1
   obtain⟨x,A,B,D,z⟩:=ZT.of L.l h2
   obtain⟨q1,q2⟩:=ss z p l h3
   obtain⟨q3,q4⟩:=z.ov h1
   exact⟨d,a,x,A,B,D,z,⟨q2,q3⟩,q1,q4,hl,by unfold zA;rw[L.l];rfl,h1,h3⟩
  ·cases h
 ·cases h
theorem QT(s:Nm)(pa:AV)(p:List Nm)(hp:cm pa p)(f:Nm):an Tryz.prog 49 [.agg [.v (.string (mk s)),pa,.v (.string (mk f))]] [] (bM (oZ s (zA s) (vH s p f))):=by
 refine SS _ _ _ hp.1 ?_
 unfold I9
 refine aj (Re s f) ?_
 have hlt:LK.has .ptr (Hg s)=True:=by unfold Hg;split<;>simp[aE,gx]
 simp only[↓zq,zs,ae,zt,hlt,gm]
 refine aj (Ru s) ?_
 have ho:∀o:Option Nm,oj o=.cG [.v (.string (mk (o.getD []))),.v (.bool o.isSome)]:=fun o=>by cases o<;>rfl
 rw[ho]
 simp only[↓zq,zs,ae,zt]
 unfold vH
 cases h1:qI s f with
 |
  none =>
  simp only[ju,↓zq,zs,ae]
  exact⟨fun _=>⟨rfl,rfl⟩,fun h=>(by cases h)⟩
 |
  some v =>
  simp only[ju,↓zq,zs,ae,fB]
  refine⟨fun h=>(by cases h),fun _=>?_⟩
  cases h2:cL s with
  |
   none =>
   simp only[bA]
   exact⟨fun _=>⟨rfl,rfl⟩,fun h=>(by cases h)⟩
  |
   some d =>
   simp only[aW,cx,hp.len]
   refine⟨fun h=>(by cases h),fun _=>⟨hp.1,fun h=>?_,fun h=>?_⟩⟩
   ·rw[if_neg (by omega)];exact⟨rfl,rfl⟩
   ·have hl:p.length<=50:=by omega
    rw[if_pos hl]
    obtain⟨a,_,_,_,L⟩:=p5 h1
    obtain⟨x,A,B,D,z⟩:=ZT.of L.l h2
    have ht:Hg s=(Ty.rc a).av:=by unfold Hg;rw[L.l]
    have hza:zA s=a:=by unfold zA;rw[L.l];rfl
    rw[ht,hza]
    refine⟨hp.1,?_⟩
    have hloop:=IY z pa p hp hl v p.length 0 [] (by omega) (by simp)
    rw[bf]at hloop
    refine fj hloop (fun ys o e=>?_) (fun ys o e=>?_)
    ·cases q:eM d p with
     |none=>rw[q]at e;cases e
     |
      some l =>
      rw[q]at e
      cases e
      simp only[↓zq,zs,ae,zt,ae,aI,aE,aN,cz]
      exact⟨rfl,rfl⟩
    ·cases q:eM d p with
     |
      none =>
      rw[q]at e
      cases e
      simp only[↓zq,zs,ae,zt,ae,aI,Option.map_none]
      exact⟨rfl,rfl⟩
     |some l=>rw[q]at e;cases e
theorem M6(s:Nm)(a:Ty)(x3:AV)(h3:LK.ptr.has x3):∀(n:Nat) (l:List Vl) (v:Vl),l.length=n->ZI a l v->n<=50 ->
 Iu [x3,pE s a l v] [] (nH (if(iK n a l v).isSome=true then(1,[x3],[])else(2,[gH],[])))
 |
  0,l,v,hl,h,hn=>by
  refine Kf _ _ ?_
  simp only[HH,pE,↓zq,zs,ae,h3,gy,hl,iK]
  repeat refine⟨by omega,?_⟩
  exact fun _=>by simp[nH]
 |
  n+1,l,v,hl,h,hn=>by
  refine Kf _ _ ?_
  have hup:=Dy s a l v h (by omega)
  simp only[HH,↓zq,zs,ae,h3]
  simp only[pE,↓zq,zs,ae,gy,hl]at hup |-
  repeat refine⟨by omega,?_⟩
  refine⟨fun _=>?_,fun h=>by omega⟩
  refine aj hup ?_
  simp only[↓zq,zs,ae,lZ]
  rw[iK]
  cases q:qt a l v with
  |
   none =>
   simp only[oZ,↓zq,zs,ae,bL]
   exact⟨fun _=>by simp[nH],fun h=>(by cases h)⟩
  |
   some r =>
   obtain⟨hz,hlen,_⟩:=pL h q
   have ih:=M6 s a x3 h3 n r.1 r.2 (by omega) hz (by omega)
   simp only[oZ,pE,↓zq,zs,ae,bb]at ih |-
   exact⟨fun h=>(by cases h),fun _=>ih⟩
theorem Pk(s:Nm)(pa:AV)(p:List Nm)(hp:cm pa p)(f:Nm):an Tryz.prog 33 [.agg [.v (.string (mk s)),pa,.v (.string (mk f))]] [] (bM (oZ s (zA s) (fV s p f))):=by
 refine S9 _ _ _ hp.1 ?_
 unfold O2
 refine aj (QT s pa p hp f) ?_
 simp only[↓zq,zs,ae,zt,lZ]
 unfold fV
 cases q:vH s p f with
 |
  none =>
  simp only[oZ,↓zq,zs,ae,bL]
  exact⟨fun _=>⟨rfl,rfl⟩,fun h=>(by cases h)⟩
 |
  some r =>
  obtain⟨l,v⟩:=r
  obtain⟨d,a,x,A,B,D,z,hz,hpt,hft,hl,hza,_,_⟩:=mI q
  rw[hza]
  have hll:l.length<=50:=by rw[hpt]at hl;simpa using hl
  have hloop:=M6 s a (pE s a l v) ((cb _).mpr trivial) l.length l v rfl hz hll
  simp only[oZ,bb]
  refine⟨fun h=>(by cases h),fun _=>?_⟩
  unfold sI
  refine fj hloop (fun ys o e=>?_) (fun ys o e=>?_)
  ·split at e
   ·rename_i hc
    cases e
    rw[if_pos hc]
    simp only[↓zq,zs,ae,pE,cb]
    exact⟨rfl,rfl⟩
   ·cases e
  ·split at e
   ·cases e
   ·rename_i hc
    cases e
    rw[if_neg hc]
    simp only[↓zq,zs,ae]
    exact⟨rfl,rfl⟩
end Go.Proofs.Trees
namespace Go.Proofs.Trees
open Go Go.VL Go.RowKit
abbrev tZ(s:Nm):Option (List Vl×Vl)->Nm×List Nm×Nm
 |some r=>(s,r.1.map (·.cF),r.2.cF)
 |none=>([],[],[])
def GZ(o:Option (List Vl×Vl)):Prop:=∀r,o=some r->(∀c,c∈r.1->c.cF.length<=900000)/\r.2.cF.length<=900000/\r.1.length<=51
theorem Cx.cF{a:Ty}{c:Vl}(h:Cx a c):c.cF.length<=900000:=by have:=jg c h.ij;have:=h.nd;omega
theorem Fo.cF{a:Ty}{c:Vl}(h:Fo a c):c.cF.length<=900000:=by have:=jg c h.ij;have:=h.nd;omega
theorem ZI.gz{a:Ty}{l:List Vl}{v:Vl}(h:ZI a l v)(hl:l.length<=51):GZ (some (l,v)):=fun r hr=>by
 cases hr;exact⟨fun c hc=>(h.ctx c hc).cF,h.ov.cF,hl⟩
theorem GZ.none:GZ none:=fun r hr=>by cases hr
theorem Ml(l:List Vl)(hl:l.length<=51)(ht:∀c,c∈l->c.cF.length<=900000)(s f:Nm):∀(k i:Nat) (out:List Nm),i+k=l.length->out.length<=i ->
 Il [.sl (u9 l),.v (.int .i64 (l.length:Int)),.v (.int .i64 (i:Int))] [.cells [.v (.string (mk [])),yx,.v (.string (mk []))],.cells [.v (.string (mk s)),.any,.v (.string (mk f))],.vec 1 (bE out)]
  (gZ 1 [] [.cells [.v (.string (mk [])),yx,.v (.string (mk []))],.cells [.v (.string (mk s)),.any,.v (.string (mk f))],.vec 1 (bE (out++(l.drop i).map (·.cF)))])
 |
  0,i,out,hi,ho=>by
  refine Kb _ _ _ _ _ _ _ _ _ ?_
  have:i=l.length:=by omega
  subst this
  simp only[FX,↓zq,zs,ae,zt,ae,bh,List.drop_length]
  exact⟨fun h=>by omega,fun _=>by simp[gZ]⟩
 |
  k+1,i,out,hi,ho=>by
  have hlt:i<l.length:=by omega
  refine Kb _ _ _ _ _ _ _ _ _ ?_
  simp only[FX,↓zq,zs,ae,zt,ae,bh,gy,u4 hlt,aN,bH]
  refine⟨fun _=>?_,fun h=>by omega⟩
  repeat refine⟨by omega,?_⟩
  refine aj (CL (l[i]) (ht _ (bD hlt))) ?_
  simp only[↓zq,zs,ae,zt,E2,kl]
  refine⟨⟨fun c hc=>by simp at hc;rw[hc];rfl,by omega⟩,?_⟩
  rw[bx i (by omega),aU hlt,bI]
  have:=Ml l hl ht s f k (i+1) (out++[(l[i]).cF]) (by omega) (by simp;omega)
  rw[a8]at this
  exact this
theorem IV(s:Nm)(a:Ty)(o:Option (List Vl×Vl))(h:GZ o):an Tryz.prog 40 [oZ s a o] [] (df (.cG [.agg [.v (.string (mk (tZ s o).1)),.vec 0,.v (.string (mk (tZ s o).2.2))],.v (.bool o.isSome)]) [.vec 1 (bE (tZ s o).2.1)]):=by
 refine PR _ (by rw[lZ];trivial) ?_
 unfold OQ
 cases o with
 |
  none =>
  simp only[oZ,↓zq,zs,ae]
  exact⟨fun _=>⟨rfl,rfl⟩,fun h=>(by cases h)⟩
 |
  some r =>
  obtain⟨h1,h2,h3⟩:=h r rfl
  simp only[oZ,pE,↓zq,zs,ae,zt,aE,aN]
  refine⟨fun h=>(by cases h),fun _=>?_⟩
  repeat refine⟨by omega,?_⟩
  refine aj (CL r.2 h2) ?_
  simp only[↓zq,zs,ae,zt,aE,aN,gy]
  repeat refine⟨by omega,?_⟩
  have hlp:=Ml r.1 h3 h1 s r.2.cF r.1.length 0 [] (by omega) (by simp)
  rw[bf,aT]at hlp
  refine cA hlp ?_
  simp only[↓zq,zs,ae,zt,ae,aI,bh]
  exact⟨rfl,rfl⟩
theorem ga{s:Nm}{p:List Nm}{f:Nm}{l:List Vl}{v:Vl}(h:fV s p f=some (l,v)):vH s p f=some (l,v)/\(sI (zA s) l v).isSome=true:=by
 unfold fV at h
 obtain⟨r,h1,h2⟩:=a6.1 h
 split at h2
 ·rename_i hc
  cases h2
  exact⟨h1,hc⟩
 ·cases h2
theorem tT{s:Nm}{p:List Nm}{f:Nm}{l:List Vl}{v:Vl}(h:fV s p f=some (l,v)):ZI (zA s) l v/\l.length<=50/\p=l.map (·.cF)/\f=v.cF:=by
 obtain⟨h1,_⟩:=ga h
 obtain⟨d,a,x,A,B,D,z,hz,hp,hf,hl,hza,_,_⟩:=mI h1
 rw[hza]
 exact⟨hz,by rw[hp]at hl;simpa using hl,hp,hf⟩
theorem HO(s:Nm)(p:List Nm)(f:Nm):GZ (vH s p f):=fun r hr=>by
 obtain⟨d,a,x,A,B,D,z,hz,hp,hf,hl,hza,_,_⟩:=mI (l:=r.1) (v:=r.2) hr
 exact hz.gz (by
  rw[hp]at hl;have:r.1.length<=50:=by simpa using hl
  omega) r rfl
noncomputable def FM (s:Nm) (p:List Nm) (f:Nm):Option (List Vl×Vl):=(fV s p f).bind fun r=>qt (zA s) r.1 r.2
noncomputable def pV (s:Nm) (p:List Nm) (f:Nm):Option Nm:=(fV s p f).bind fun r=>(sI (zA s) r.1 r.2).map (·.cF)
noncomputable def mV (s:Nm) (p:List Nm) (f:Nm):Int:=match fV s p f with
 |some r=>((kids (zA s) r.2).length:Int)
 |none=>-1
theorem FQ(s:Nm)(p:List Nm)(f:Nm):GZ (FM s p f):=fun r hr=>by
 obtain⟨q,h1,h2⟩:=a6.1 hr
 obtain⟨hz,hl,_⟩:=tT (l:=q.1) (v:=q.2) h1
 obtain⟨hz2,hl2,_⟩:=pL (l':=r.1) (w:=r.2) hz h2
 exact hz2.gz (by omega) r rfl
abbrev En(s:Nm)(o:Option (List Vl×Vl)):AV->List Ob->Prop:=df (.cG [.agg [.v (.string (mk (tZ s o).1)),.vec 0,.v (.string (mk (tZ s o).2.2))],.v (.bool o.isSome)]) [.vec 1 (bE (tZ s o).2.1)]
theorem Px(s:Nm)(pa:AV)(p:List Nm)(hp:cm pa p)(f:Nm):an Tryz.prog 20 [.agg [.v (.string (mk s)),pa,.v (.string (mk f))]] [] (En s (FM s p f)):=by
 refine SI _ _ _ hp.1 ?_
 unfold Ov
 refine aj (Pk s pa p hp f) ?_
 simp only[↓zq,zs,ae,zt,lZ]
 have key:an Tryz.prog 34 [oZ s (zA s) (fV s p f)] [] (bM (oZ s (zA s) (FM s p f))):=by
  unfold FM
  cases q:fV s p f with
  |none=>exact QQ
  |
   some r =>
   obtain⟨hz,hl,_⟩:=tT (l:=r.1) (v:=r.2) q
   exact Dy s (zA s) r.1 r.2 hz hl
 refine aj key ?_
 simp only[↓zq,zs,ae,zt,lZ]
 refine aV (IV s (zA s) (FM s p f) (FQ s p f)) ?_
 simp only[↓zq,zs,ae,zt,aI]
 exact⟨dJ _,rfl,rfl⟩
theorem NJ(s:Nm)(a:Ty):∀(n:Nat) (l:List Vl) (v w:Vl),l.length=n->ZI a l v->n<=50->iK n a l v=some w->Fo a w /\
 GJ [pE s a l v] [] (gZ 1 [pE s a [] w] [])
 |
  0,l,v,w,hl,h,hn,hc=>by
  cases hc
  have:l=[]:=bJ hl
  subst this
  refine⟨h.ov,OY _ ?_⟩
  simp only[Fg,pE,↓zq,zs,ae,gy,aG]
  refine⟨by omega,fun h=>by omega,fun _=>by simp[gZ]⟩
 |
  n+1,l,v,w,hl,h,hn,hc=>by
  rw[iK]at hc
  obtain⟨r,hu,hc⟩:=a6.1 hc
  obtain⟨hz,hlen,_⟩:=pL (l':=r.1) (w:=r.2) h hu
  obtain⟨i1,i2⟩:=NJ s a n r.1 r.2 w (by omega) hz (by omega) hc
  refine⟨i1,OY _ ?_⟩
  have hup:=Dy s a l v h (by omega)
  rw[hu]at hup
  simp only[Fg,oZ]at hup |-
  simp only[pE,↓zq,zs,ae,gy,hl]at hup |-
  repeat refine⟨by omega,?_⟩
  refine⟨fun _=>?_,fun h=>by omega⟩
  refine aj hup ?_
  simp only[↓zq,zs,ae]
  exact i2
theorem N9(s:Nm)(pa:AV)(p:List Nm)(hp:cm pa p)(f:Nm):an Tryz.prog 24 [.agg [.v (.string (mk s)),pa,.v (.string (mk f))]] [] (bM (oj (pV s p f))):=by
 refine Sp _ _ _ hp.1 ?_
 unfold J4
 refine aj (Pk s pa p hp f) ?_
 simp only[↓zq,zs,ae,lZ]
 unfold pV
 cases q:fV s p f with
 |
  none =>
  simp only[oZ,↓zq,zs,ae,bL]
  exact⟨fun _=>⟨rfl,rfl⟩,fun h=>(by cases h)⟩
 |
  some r =>
  obtain⟨l,v⟩:=r
  obtain⟨hz,hl,_⟩:=tT q
  obtain⟨w,hw⟩:=bU.1 (ga q).2
  obtain⟨h1,h2⟩:=NJ s (zA s) l.length l v w rfl hz hl hw
  simp only[oZ,bb,hw,cz]
  have hn:(pE s (zA s) l v).isNil=false:=rfl
  simp only[hn]
  refine⟨fun h=>(by cases h),fun _=>?_⟩
  refine cA h2 ?_
  simp only[↓zq,zs,ae,pE,aN,cb]
  repeat refine⟨by first|trivial|omega,?_⟩
  refine aj (CL w h1.cF) ?_
  simp only[↓zq,zs,ae,zt]
  exact⟨rfl,rfl⟩
end Go.Proofs.Trees
namespace Go.Proofs.Trees
open Go Go.VL Go.RowKit
def lT:E->Option E
 | .list [x,a,b]=>if x.at=[114,101,99]then some (.list [x,a,b])else none
 |_=>none
def oW(s:List UInt8):Option E:=match jG s with
 |some e=>lT e
 |none=>none
theorem HW(s:List UInt8):an Tryz.prog 67 [.v (.string (mk s))] [] (jI (oW s) (oW s).isSome):=by
 refine SE _ ?_
 unfold Lt
 refine aP (GC s) (jI.ne _ _ (fun h=>h)) ?_
 rintro r o ⟨c,d,hd,rfl,hh⟩
 have hhas:bK [.str,.sl] [.v (.string (mk c)),d] 0:=by simp[bK,dY,hd]
 simp only[↓zq,zs,ae,zt]
 refine⟨hhas,fun h=>?_,fun h=>?_⟩
 ·obtain⟨e,he,hce⟩:=hh h
  obtain⟨t,h1,hA,h3,h4,h5,_⟩:=ia he
  have hce':=hce
  rw[dj]at hce'
  simp only[AV.agg.injEq,List.cons.injEq,AV.v.injEq,Value.string.injEq,and_true]at hce'
  obtain⟨hc1,rfl⟩:=hce'
  have hc2:=mk_inj hc1
  subst hc2
  have head:∀w:List UInt8,an Tryz.prog 86 [.agg [.v (.string (mk e.at)),e.sp]] [] (bM (.v (.string (mk w))))->(w=[114,101,99]↔(lT e).isSome=true)->((lT e).isSome=true->lT e=some e) ->
   fe Tryz.prog 18 (Tree.call 86 [.agg [.v (.string (mk e.at)),e.sp]] [] fun r2 o2=>Tree.ai (LK.str.has r2) (Tree.done 0 [.cG [.agg [.v (.string (mk e.at)),e.sp],.v (.bool (af r2.toStr==[114,101,99]))]] [])) fun _ xs obs=>jI (oW s) (oW s).isSome (xs.headD .any) obs:=by
   intro w hw h1 h2
   refine aj hw ?_
   simp only[↓zq,zs,ae,zt]
   refine⟨e.at,e.sp,hd,?_,fun hs=>⟨e,?_,(dj e).symm⟩⟩
   ·congr 3
    simp only[oW,he,AV.v.injEq,Value.bool.injEq,List.cons.injEq,and_true]
    rw[cy];simpa using h1
   ·simp only[oW,he]at hs |-;exact h2 hs
  have hl:∀x l,e=.list (x::l)->an Tryz.prog 86 [.agg [.v (.string (mk e.at)),e.sp]] [] (bM (.v (.string (mk x.at)))):=by
   rintro x l rfl;exact vf x l
  have ha:∀s0,e=.atom s0->an Tryz.prog 86 [.agg [.v (.string (mk e.at)),e.sp]] [] (bM (.v (.string (mk [])))):=by
   rintro s0 rfl;exact Ao s0 _ ((bh).mpr trivial) hA.ok
  rcases gp hA.wf hA.ty with⟨hb,_⟩|⟨u,g,rfl,_,hg⟩
  ·rcases fK hA.ty hb hA.cl with⟨rfl,rfl⟩|⟨rfl,rfl⟩|⟨s0,rfl,rfl,hp,h0,h1⟩|⟨x,a,b,t1,t2,rfl,hx,rfl,ha',hbb⟩|⟨x,a,b,t1,t2,rfl,hx,rfl,ha',hbb⟩|⟨x,a,b,t1,rfl,hx,rfl⟩
   ·exact head _ (ha _ rfl) (by simp[lT]) (by simp[lT])
   ·exact head _ (ha _ rfl) (by simp[lT]) (by simp[lT])
   ·exact head _ (ha _ rfl) (by simp[lT]) (by simp[lT])
   ·exact head _ (hl _ _ rfl) (by simp[lT,hx]) (by simp[lT,hx])
   ·exact head _ (hl _ _ rfl) (by simp[lT,hx]) (by simp[lT,hx])
   ·exact head _ (hl _ _ rfl) (by simp[lT,hx]) (by simp[lT,hx])
  ·simp at hg
 ·have hn:jG s=none:=by cases hq:jG s<;>simp[hq]at h |-
  refine⟨c,d,hd,?_,fun h=>?_⟩
  ·simp[oW,hn]
  ·simp[oW,hn]at h
theorem CC(s:List UInt8):(oW s).isSome=(kD s).isSome:=by
 unfold oW kD
 cases h:jG s with
 |none=>rw[nk h];rfl
 |
  some e =>
  obtain⟨t,h1,hA,h3,h4,h5,_⟩:=ia h
  rw[h1]
  simp only
  rcases gp hA.wf hA.ty with⟨hb,_⟩|⟨u,g,rfl,_,hg⟩
  ·rcases fK hA.ty hb hA.cl with⟨rfl,rfl⟩|⟨rfl,rfl⟩|⟨s0,rfl,rfl,hp,h0,h1⟩|⟨x,a,b,t1,t2,rfl,hx,rfl,ha',hbb⟩|⟨x,a,b,t1,t2,rfl,hx,rfl,ha',hbb⟩|⟨x,a,b,t1,rfl,hx,rfl⟩<;>simp_all[lT]
  ·simp at hg
theorem LV.le{s v:List UInt8}{w:Vl}{a:Ty}{x A B:E}(h:LV s v w a x A B):oW s=some (.list [x,A,B]):=by
 unfold oW;rw[h.ce];simp[lT,h.hx]
theorem SX(n:Nat)(v:Vl)(x A B:E)(a:Ty)(hA:Ask B [.mk A.at (.list [x,A,B]) []] a)(hx:x.at=[114,101,99])(w:Vl)(hw:v=.f w)(hv:eX n v (.list [x,A,B],[])=true)(hl:v.nodes<90000) :
 an Tryz.prog 74 [.agg [.v (.string (mk B.at)),B.sp],.v (.string (mk A.at)),.agg [.v (.string (mk w.cK.at)),w.cK.sp]] [] (bM (.sl (mc (kids a v)))):=by
 subst hw
 obtain⟨w',e,hw'⟩:=uM .nil hx hv
 cases e
 simp only[Vl.nodes]at hl
 have hnm:names [Fr.mk A.at (.list [x,A,B]) []]=[]++[A.at]:=rfl
 have h:=EM n w.nodes w (au _) B _ a hA hw' (by simp;omega) A.at (by rw[hnm];right;rw[fq];rfl)
 rw[hnm,vZ]at h
 exact h
end Go.Proofs.Trees
namespace Go.Proofs.Trees
open Go Go.VL Go.RowKit
def Qv(e:E)(s:List UInt8)(t:Ty)(c v:Vl):Prop:=an Tryz.prog 82 [.agg [.v (.string (mk e.at)),e.sp],.v (.string (mk s)),.agg [.v (.string (mk c.cK.at)),c.cK.sp],.agg [.v (.string (mk v.cK.at)),v.cK.sp]] [] (bM (.agg [.v (.string (mk (cW t c v).cK.at)),(cW t c v).cK.sp]))
theorem EX:∀(m:Nat) (c:Vl),c.nodes<=m->∀(e:E) (env:List Fr) (t:Ty),Ask e env t->dL t c=true->∀(s:List UInt8) (v:Vl),Qv e s t c v
 |0,c,hm=>by have:=dr c;omega
 |
  m+1,c,hm=>by
  intro e env t A hc s v
  unfold Qv
  refine RT _ _ _ _ _ _ _ ((aY _).mpr trivial) ((aY _).mpr trivial) ((aY _).mpr trivial) ?_
  have atomCase:∀s0,e=.atom s0->cW t c v=v->fe Tryz.prog 244 (Db (mk e.at) e.sp (mk s) (mk c.cK.at) c.cK.sp (mk v.cK.at) v.cK.sp) fun _ xs obs=>bM (.agg [.v (.string (mk (cW t c v).cK.at)),(cW t c v).cK.sp]) (xs.headD .any) obs:=by
   rintro s0 rfl hp
   have hne:s0≠[]:=A.ok
   rw[hp]
   simp only[Db,E.at,↓zq,zs,ae,zt,bM]
   exact⟨fun _=>trivial,fun h=>absurd h hne⟩
  have hvh:=AY c
  rw[dj]at hvh
  rcases gp A.wf A.ty with⟨hb,hq⟩|⟨u,g,rfl,hq,hu⟩
  ·rcases fK A.ty hb A.cl with⟨rfl,rfl⟩|⟨rfl,rfl⟩|⟨s0,rfl,rfl,hp,h0,h1⟩|⟨x,a,b,t1,t2,rfl,hx,rfl,ha,hbb⟩|⟨x,a,b,t1,t2,rfl,hx,rfl,ha,hbb⟩|⟨x,a,b,t1,rfl,hx,rfl⟩
   ·exact atomCase _ rfl (tf _ _)
   ·exact atomCase _ rfl (vD _ _)
   ·exact atomCase _ rfl (kP _ _ _)
   ·obtain⟨ok1,ok2,ok3,_⟩:=A.ok
    obtain⟨f1,f2⟩:=fD A.cl
    have hP:=P3.of x a b
    have hH:an Tryz.prog 86 [.agg [.v (.string (mk [])),(E.list [x,a,b]).sp]] [] (bM (.v (.string (mk [43])))):=by rw[<-hx];exact vf x [a,b]
    rcases vG hc with⟨y,rfl,hy⟩|⟨y,rfl,hy⟩
    ·simp only[Vl.nodes]at hm
     have hW:=P2.of (.atom [108]) y.cK
     simp only[Vl.cK,bN]at hvh
     simp only[Db,bN,Vl.cK,toNat_one,bg,↓zq,zs,ae,zt,hP.1,hP.2.1,hP.2.2.1,hP.2.2.2,hW.1,hW.2.1,hW.2.2,aM]
     refine⟨fun h=>absurd rfl h,fun _=>?_⟩
     repeat refine⟨by omega,?_⟩
     refine aj hH ?_
     simp only[↓zq,zs,ae,zt]
     refine aj hvh ?_
     simp only[vh,↓zq,zs,ae,zt,bc,aT]
     refine⟨by simp[cM],fun _=>?_,fun h=>absurd rfl h⟩
     repeat refine⟨by omega,?_⟩
     refine aj (EX m y (by omega) a env t1 ⟨ok2,A.wf,ha,f1⟩ hy s v) ?_
     simp only[↓zq,zs,ae,zt,aM]
     repeat refine⟨by omega,?_⟩
     refine aj (xl _ _) ?_
     simp only[↓zq,zs,ae,zt,aM]
     repeat refine⟨by omega,?_⟩
     exact⟨rfl,rfl⟩
    ·simp only[Vl.nodes]at hm
     have hW:=P2.of (.atom [114]) y.cK
     simp only[Vl.cK,bN]at hvh
     simp only[Db,bN,Vl.cK,toNat_one,bg,↓zq,zs,ae,zt,hP.1,hP.2.1,hP.2.2.1,hP.2.2.2,hW.1,hW.2.1,hW.2.2,aM]
     refine⟨fun h=>absurd rfl h,fun _=>?_⟩
     repeat refine⟨by omega,?_⟩
     refine aj hH ?_
     simp only[↓zq,zs,ae,zt]
     refine aj hvh ?_
     simp only[vh,↓zq,zs,ae,zt,bc,aT]
     refine⟨by simp[cM],fun h=>by simp at h,fun _=>⟨fun _=>?_,fun h=>absurd rfl h⟩⟩
     repeat refine⟨by omega,?_⟩
     refine aj (EX m y (by omega) b env t2 ⟨ok3,A.wf,hbb,f2⟩ hy s v) ?_
     simp only[↓zq,zs,ae,zt,aM]
     repeat refine⟨by omega,?_⟩
     refine aj (xl _ _) ?_
     simp only[↓zq,zs,ae,zt,aM]
     repeat refine⟨by omega,?_⟩
     exact⟨rfl,rfl⟩
   ·obtain⟨ok1,ok2,ok3,_⟩:=A.ok
    obtain⟨f1,f2⟩:=eY A.cl
    have hP:=P3.of x a b
    have hH:an Tryz.prog 86 [.agg [.v (.string (mk [])),(E.list [x,a,b]).sp]] [] (bM (.v (.string (mk [42])))):=by rw[<-hx];exact vf x [a,b]
    rcases tI hc with⟨y,z,rfl,hy⟩|⟨y,z,rfl,hy⟩
    ·simp only[Vl.nodes]at hm
     have hW:=P2.of (.atom [108]) (E.list [.atom [112],y.cK,z.cK])
     have hQ:=P3.of (.atom [112]) y.cK z.cK
     simp only[Vl.cK,bN]at hvh
     simp only[Db,bN,Vl.cK,toNat_one,bg,↓zq,zs,ae,zt,hP.1,hP.2.1,hP.2.2.1,hP.2.2.2,hW.1,hW.2.1,hW.2.2,hQ.1,hQ.2.1,hQ.2.2.1,hQ.2.2.2,aM]
     refine⟨fun h=>absurd rfl h,fun _=>?_⟩
     repeat refine⟨by omega,?_⟩
     refine aj hH ?_
     simp only[↓zq,zs,ae,zt]
     refine aj hvh ?_
     simp only[vh,↓zq,zs,ae,zt,bc,aT]
     refine⟨by simp[cM],fun h=>by simp at h,fun _=>⟨fun h=>by simp at h,fun _=>⟨fun _=>?_,fun h=>absurd rfl h⟩⟩⟩
     repeat refine⟨by omega,?_⟩
     refine aj (EX m y (by omega) a env t1 ⟨ok2,A.wf,ha,f1⟩ hy s v) ?_
     simp only[↓zq,zs,ae,zt,aM]
     repeat refine⟨by omega,?_⟩
     refine aj (xO _ _ _) ?_
     simp only[↓zq,zs,ae,zt,aM]
     repeat refine⟨by omega,?_⟩
     exact⟨rfl,rfl⟩
    ·simp only[Vl.nodes]at hm
     have hW:=P2.of (.atom [114]) (E.list [.atom [112],y.cK,z.cK])
     have hQ:=P3.of (.atom [112]) y.cK z.cK
     simp only[Vl.cK,bN]at hvh
     simp only[Db,bN,Vl.cK,toNat_one,bg,↓zq,zs,ae,zt,hP.1,hP.2.1,hP.2.2.1,hP.2.2.2,hW.1,hW.2.1,hW.2.2,hQ.1,hQ.2.1,hQ.2.2.1,hQ.2.2.2,aM]
     refine⟨fun h=>absurd rfl h,fun _=>?_⟩
     repeat refine⟨by omega,?_⟩
     refine aj hH ?_
     simp only[↓zq,zs,ae,zt]
     refine aj hvh ?_
     simp only[vh,↓zq,zs,ae,zt,bc,aT]
     refine⟨by simp[cM],fun h=>by simp at h,fun _=>⟨fun h=>by simp at h,fun _=>⟨fun h=>by simp at h,fun _=>⟨fun _=>?_,fun h=>absurd rfl h⟩⟩⟩⟩
     repeat refine⟨by omega,?_⟩
     refine aj (EX m z (by omega) b env t2 ⟨ok3,A.wf,hbb,f2⟩ hy s v) ?_
     simp only[↓zq,zs,ae,zt,aM]
     repeat refine⟨by omega,?_⟩
     refine aj (xO _ _ _) ?_
     simp only[↓zq,zs,ae,zt,aM]
     repeat refine⟨by omega,?_⟩
     exact⟨rfl,rfl⟩
   ·obtain⟨t1',he1,h1,f1,hw1⟩:=jx A.wf A.ok hx A.ty A.cl
    cases he1
    obtain⟨ok1,ok2,ok3,_⟩:=A.ok
    have A':Ask b (.mk a.at (.list [x,a,b]) env::env) t1:=⟨ok3,hw1,h1,f1⟩
    have hP:=P3.of x a b
    have hH:an Tryz.prog 86 [.agg [.v (.string (mk [])),(E.list [x,a,b]).sp]] [] (bM (.v (.string (mk [114,101,99])))):=by rw[<-hx];exact vf x [a,b]
    rcases Bp hc with⟨y,rfl,hy⟩|⟨y,z,rfl,hy,hz⟩
    ·simp only[Vl.nodes]at hm
     have hW:=P2.of (.atom [102]) (E.list [.atom [108],y.cK])
     have hQ:=P2.of (.atom [108]) y.cK
     have hvi:=AY (.l y)
     rw[dj]at hvi
     simp only[Vl.cK,bN]at hvh hvi
     simp only[Db,bN,Vl.cK,toNat_one,bg,↓zq,zs,ae,zt,hP.1,hP.2.1,hP.2.2.1,hP.2.2.2,hW.1,hW.2.1,hW.2.2,hQ.1,hQ.2.1,hQ.2.2,aM]
     refine⟨fun h=>absurd rfl h,fun _=>?_⟩
     repeat refine⟨by omega,?_⟩
     refine aj hH ?_
     simp only[↓zq,zs,ae,zt]
     refine aj hvh ?_
     simp only[vh,↓zq,zs,ae,zt,bc,aT]
     refine⟨by simp[cM],fun h=>by simp at h,fun _=>⟨fun h=>by simp at h,fun _=>⟨fun h=>by simp at h,fun _=>⟨fun h=>by simp at h,fun _=>?_⟩⟩⟩⟩
     repeat refine⟨by omega,?_⟩
     refine aj hvi ?_
     simp only[vh,↓zq,zs,ae,zt]
     refine⟨fun _=>?_,fun h=>absurd rfl h⟩
     repeat refine⟨by omega,?_⟩
     refine aj (EX m y (by omega) b _ t1 A' hy s v) ?_
     simp only[↓zq,zs,ae,zt,aM]
     repeat refine⟨by omega,?_⟩
     refine aj (xl _ _) ?_
     simp only[↓zq,zs,ae,zt,aM]
     repeat refine⟨by omega,?_⟩
     exact⟨rfl,rfl⟩
    ·simp only[Vl.nodes]at hm
     have hW:=P2.of (.atom [102]) (E.list [.atom [114],E.list [.atom [112],y.cK,z.cK]])
     have hQ:=P2.of (.atom [114]) (E.list [.atom [112],y.cK,z.cK])
     have hR:=P3.of (.atom [112]) y.cK z.cK
     have hvi:=AY (.r (.p y z))
     rw[dj]at hvi
     simp only[Vl.cK,bN]at hvh hvi
     simp only[Db,bN,Vl.cK,toNat_one,bg,↓zq,zs,ae,zt,hP.1,hP.2.1,hP.2.2.1,hP.2.2.2,hW.1,hW.2.1,hW.2.2,hQ.1,hQ.2.1,hQ.2.2,hR.1,hR.2.1,hR.2.2.1,hR.2.2.2,aM]
     refine⟨fun h=>absurd rfl h,fun _=>?_⟩
     repeat refine⟨by omega,?_⟩
     refine aj hH ?_
     simp only[↓zq,zs,ae,zt]
     refine aj hvh ?_
     simp only[vh,↓zq,zs,ae,zt,bc,aT]
     refine⟨by simp[cM],fun h=>by simp at h,fun _=>⟨fun h=>by simp at h,fun _=>⟨fun h=>by simp at h,fun _=>⟨fun h=>by simp at h,fun _=>?_⟩⟩⟩⟩
     repeat refine⟨by omega,?_⟩
     refine aj hvi ?_
     simp only[vh,↓zq,zs,ae,zt]
     refine⟨fun h=>by simp at h,fun _=>?_⟩
     repeat refine⟨by omega,?_⟩
     have i1:=EX m z (by omega) (.list [x,a,b]) env (.rc t1) A hz s v
     unfold Qv at i1
     simp only[bN]at i1
     refine aj i1 ?_
     simp only[↓zq,zs,ae,zt,aM]
     repeat refine⟨by omega,?_⟩
     refine aj (EX m y (by omega) b _ t1 A' hy a.at (cW (.rc t1) z v)) ?_
     simp only[↓zq,zs,ae,zt,aM]
     repeat refine⟨by omega,?_⟩
     refine aj (xl _ _) ?_
     simp only[↓zq,zs,ae,zt,aM]
     repeat refine⟨by omega,?_⟩
     exact⟨rfl,rfl⟩
  ·cases e with
   |atom s0=>exact atomCase _ rfl (rK _ _ _)
   |list l=>exact absurd hq (by rw[show (E.list l).at=[] from rfl,kL A.wf];simp)
end Go.Proofs.Trees
namespace Go.Proofs.Trees
open Go Go.VL Go.RowKit
abbrev RE:Ob:=.cells [.v (.string (mk [])),.v (.slice none 0 0),.v (.string (mk []))]
theorem ZT.le{s d:Nm}{a:Ty}{x A B:E}{D:Ty}(z:ZT s d a x A B D):oW s=some (.list [x,A,B]):=by
 unfold oW;rw[z.ce];simp[lT,z.hx]
theorem uU(o:Option Nm):oj o=.cG [.v (.string (mk (o.getD []))),.v (.bool o.isSome)]:=by cases o<;>rfl
theorem zY{a:Ty}{w v:Vl}(hw:Cx a w)(hv:Fo a v):(Vl.f (cW a w v)).cF.length<=900000:=by
 have h1:=jg (Vl.f (cW a w v)) (by exact rV 100 a w v hw.ij hv.ij)
 have h2:=rX a w v
 have:=hw.nd
 have:=hv.nd
 simp only[Vl.nodes]at h1
 omega
abbrev An(a:Ty)(w v:Vl):Option Nm:=if(Vl.f (cW a w v)).nodes<=200 then some (Vl.f (cW a w v)).cF else none
theorem Pw{s d:Nm}{a:Ty}{x A B:E}{D:Ty}(z:ZT s d a x A B D)(w v:Vl)(hw:nJ d w.cF 100=some w)(hv:Fo a v):an Tryz.prog 60 [.v (.string (mk s)),.v (.string (mk w.cF)),.v (.string (mk v.cF))] [] (bM (oj (An a w v))):=by
 have hC:=z.ctx hw
 have hv2:nJ s v.cF 100=some v:=by rw[z.cF hv.ij hv.ty,if_pos hv.nd]
 refine RH _ _ _ ?_
 unfold Kv
 refine aP (HW s) (jI.ne _ _ (fun h=>h)) ?_
 rintro r o ⟨c,e,he,rfl,hh⟩
 rw[z.le]at hh
 obtain⟨e',he',hce⟩:=hh rfl
 cases he'
 rw[dj]at hce
 simp only[AV.agg.injEq,List.cons.injEq,AV.v.injEq,Value.string.injEq,and_true]at hce
 obtain⟨hc1,rfl⟩:=hce
 rw[z.le,hc1]
 simp only[↓zq,zs,ae,zt,aM,bN]
 repeat refine⟨by omega,?_⟩
 refine aj (Mv s) ?_
 rw[uU,z.dl]
 simp only[↓zq,zs,ae,zt,aW,cx]
 refine⟨fun h=>by simp at h,fun _=>⟨fun h=>by simp at h,fun _=>?_⟩⟩
 refine aj (Ap d w.cF 100) ?_
 rw[hw]
 simp only[↓zq,zs,ae,aW]
 refine⟨fun h=>by simp at h,fun _=>?_⟩
 refine aj (Ap s v.cF 100) ?_
 rw[hv2]
 simp only[↓zq,zs,ae,aW]
 refine⟨fun h=>by simp at h,fun _=>?_⟩
 have hP:=P3.of x A B
 have rd:∀q:Vl,q.ij 100->q.nodes<=200->∀{Q:AV->List Ob->Prop},(∀o,Q (.cG [.agg [.v (.string (mk q.cK.at)),q.cK.sp],.v (.bool true)]) o)->∀r o,jI ((sD q.cF).map Vl.cK) (sD q.cF).isSome r o->Q r o:=by
  intro q hu hn Q hQ r o
  rw[qN hu hn]
  rintro⟨c,e,he,rfl,hh⟩
  obtain⟨e',he',hce⟩:=hh rfl
  cases he'
  rw[dj]at hce
  rw[hce]
  exact hQ o
 refine aP (Ej w.cF) (jI.ne _ _ (fun h=>by simpa using h)) (rd w hC.ij hC.nd fun o=>?_)
 simp only[↓zq,zs,ae,zt,aM]
 repeat refine⟨by omega,?_⟩
 refine aP (Ej v.cF) (jI.ne _ _ (fun h=>by simpa using h)) (rd v hv.ij hv.nd fun o=>?_)
 simp only[toNat_one,bg,↓zq,zs,ae,zt,hP.1,hP.2.1,hP.2.2.1,hP.2.2.2,aM,aY]
 repeat refine⟨by omega,?_⟩
 refine aj (EX w.nodes w (au _) B _ a z.body hC.ok A.at v) ?_
 simp only[↓zq,zs,ae,zt,aM]
 repeat refine⟨by omega,?_⟩
 refine aj (xl _ _) ?_
 simp only[↓zq,zs,ae,zt,aM]
 repeat refine⟨by omega,?_⟩
 have htx:=Dj (Vl.f (cW a w v)).cK (mU _) (zY hC hv)
 rw[dj]at htx
 simp only[Vl.cK,bN]at htx
 refine aj htx ?_
 simp only[↓zq,zs,ae,zt]
 refine aj (Ap s (Vl.f (cW a w v)).cF 100) ?_
 rw[z.cF (w:=Vl.f (cW a w v)) (by exact rV 100 a w v hC.ij hv.ij) (hC.ty v hv.ty)]
 unfold An
 by_cases hn:(Vl.f (cW a w v)).nodes<=200
 ·rw[if_pos hn,if_pos hn]
  simp only[↓zq,zs,ae,aW]
  exact⟨fun h=>by simp at h,fun _=>⟨rfl,rfl⟩⟩
 ·rw[if_neg hn,if_neg hn]
  simp only[↓zq,zs,ae,bA]
  exact⟨fun _=>⟨rfl,rfl⟩,fun h=>by simp at h⟩
theorem nR{d:Nm}:∀{p:List Nm} {l:List Vl},eM d p=some l->p=l.map (·.cF)->∀c,c∈l->nJ d c.cF 100=some c
 |[],l,h,_,c,hc=>by cases h;cases hc
 |
  q::r,l,h,hp,c,hc=>by
  simp only[eM]at h
  split at h
  ·rename_i w l' h1 h2
   cases h
   simp only[bI,List.cons.injEq]at hp
   rcases aL.1 hc with rfl|hc
   ·rw[<-hp.1];exact h1
   ·exact nR h2 hp.2 c hc
  ·cases h
structure St(s d:Nm)(a:Ty)(l:List Vl)(v:Vl):Prop where
 z:∃x A B D,ZT s d a x A B D
 i:ZI a l v
 each:∀c,c∈l->nJ d c.cF 100=some c
 len:l.length<=50
def zX(s:Nm)(pa:AV)(a:Ty)(l:List Vl)(v:Vl):AV:=match l.getLast? with
 |none=>.cG [.agg [.v (.string (mk s)),pa,.v (.string (mk v.cF))],.v (.bool false)]
 |some c=>.cG [.agg [.v (.string (mk s)),.sl (bE (l.dropLast.map (·.cF))),.v (.string (mk ((An a c v).getD [])))],.v (.bool (An a c v).isSome)]
theorem Qj{s d:Nm}{a:Ty}{l:List Vl}{v:Vl}(h:St s d a l v)(pa:AV)(hp:cm pa (l.map (·.cF))):an Tryz.prog 38 [.agg [.v (.string (mk s)),pa,.v (.string (mk v.cF))]] [] (bM (zX s pa a l v)):=by
 refine PS _ _ _ hp.1 ?_
 unfold JI
 have hlen:=h.len
 simp only[↓zq,zs,ae,zt,hp.len,ct,kl]
 unfold zX
 refine⟨hp.1,fun h0=>?_,fun h0=>?_⟩
 ·have:l=[]:=bJ (by omega)
  subst this
  exact⟨rfl,rfl⟩
 ·have hpos:0<l.length:=by omega
  have hne:l≠[]:=by rintro rfl;simp at hpos
  rw[wrap64 ((l.length:Int)-1) (by omega) (by omega)]
  have e1:((l.length:Int)-1).toNat=l.length-1:=by omega
  have hlt:l.length-1<(l.map (·.cF)).length:=by rw[ct];omega
  have hlt':l.length-1<l.length:=by omega
  have hlast:l.getLast?=some (l[l.length-1]):=by rw[List.getLast?_eq_some_getLast hne,List.getLast_eq_getElem]
  rw[hlast]
  have hm:=bD hlt'
  have hg:(l.map (·.cF)).getD (l.length-1) []=(l[l.length-1]).cF:=by rw[aa,bp hlt,List.getElem_map];rfl
  obtain⟨x,A,B,D,z⟩:=h.z
  rw[e1,hp.idx hlt,hg]
  generalize l[l.length-1]=c at *
  simp only[↓zq,zs,ae,zt]
  refine⟨⟨hp.1,by omega⟩,by omega,?_⟩
  refine aj (Pw z c v (h.each c hm) h.i.ov) ?_
  rw[uU]
  simp only[↓zq,zs,ae,zt]
  refine⟨⟨hp.1,by omega⟩,⟨fun y hy=>?_,?_⟩,?_,rfl⟩
  ·rw[hp.2]at hy
   have:=List.mem_of_mem_take hy
   obtain⟨t,_,rfl⟩:=bP.1 this
   rfl
  ·rw[hp.2];simp[bE];omega
  ·have:pa.elems.take (l.length-1)=bE (l.dropLast.map (·.cF)):=by
    rw[hp.2,List.dropLast_eq_take,List.map_take];simp[bE,List.map_take]
   rw[this];rfl
theorem St.up{s d:Nm}{a:Ty}{l l':List Vl}{v w:Vl}(h:St s d a l v)(hu:qt a l v=some (l',w)):St s d a l' w:=by
 obtain⟨h1,h2,c,h3,_⟩:=pL h.i hu
 have hl:=h.len
 exact⟨h.z,h1,fun c' hc'=>h.each c' (by rw[h3];exact aD _ hc'),by omega⟩
theorem Az{s:Nm}{pa:AV}{a:Ty}{l l':List Vl}{v w:Vl}(hu:qt a l v=some (l',w)):zX s pa a l v=.cG [.agg [.v (.string (mk s)),.sl (bE (l'.map (·.cF))),.v (.string (mk w.cF))],.v (.bool true)]:=by
 unfold qt at hu
 unfold zX
 cases q:l.getLast? with
 |none=>rw[q]at hu;cases hu
 |
  some c =>
  rw[q]at hu
  simp only at hu |-
  unfold An
  split at hu
  ·rename_i hn
   cases hu
   rw[if_pos hn];rfl
  ·cases hu
theorem Ax{s:Nm}{pa:AV}{a:Ty}{l:List Vl}{v:Vl}(hpa:LK.sl.has pa)(hu:qt a l v=none):∃p f,LK.sl.has p/\zX s pa a l v=.cG [.agg [.v (.string (mk s)),p,.v (.string (mk f))],.v (.bool false)]:=by
 unfold qt at hu
 unfold zX
 cases q:l.getLast? with
 |none=>exact⟨_,_,hpa,rfl⟩
 |
  some c =>
  rw[q]at hu
  simp only at hu |-
  unfold An
  split at hu
  ·cases hu
  ·rename_i hn
   rw[if_neg hn];exact⟨_,_,(cg _).mpr trivial,rfl⟩
def Gl(s:Nm)(o:Option Vl):Nat->List AV->List Ob->Prop:=fun k ys ob=>match o with
 |some w=>k=1/\ys=[]/\∃pa,LK.sl.has pa/\ob=[.cells [.v (.string (mk s)),pa,.v (.string (mk w.cF))],RE]
 |none=>k=2/\ys=[.v (.bool false)]/\∃pa f,LK.sl.has pa/\ob=[.cells [.v (.string (mk s)),pa,.v (.string (mk f))]]
theorem OU(s d:Nm)(a:Ty):∀(n:Nat) (l:List Vl) (v:Vl) (pa:AV),l.length=n->St s d a l v->cm pa (l.map (·.cF))->Ht [] [.cells [.v (.string (mk s)),pa,.v (.string (mk v.cF))],RE] (Gl s (iK n a l v))
 |
  0,l,v,pa,hl,h,hp=>by
  refine Oq _ _ _ _ _ _ ?_
  simp only[Gj,↓zq,zs,ae,zt,ae,bh,hp.len,ct,hl,iK]
  refine⟨hp.1,hp.1,fun h=>by omega,fun _=>?_⟩
  exact⟨rfl,rfl,pa,hp.1,rfl⟩
 |
  n+1,l,v,pa,hl,h,hp=>by
  refine Oq _ _ _ _ _ _ ?_
  simp only[Gj,↓zq,zs,ae,zt,ae,bh,hp.len,ct,hl]
  refine⟨hp.1,hp.1,fun _=>?_,fun h=>by omega⟩
  refine aj (Qj h pa hp) ?_
  rw[iK]
  cases q:qt a l v with
  |
   none =>
   obtain⟨p',f',h1,h2⟩:=Ax (s:=s) hp.1 q
   rw[h2]
   simp only[↓zq,zs,ae,zt,bK,bL]
   exact⟨h1,fun _=>⟨rfl,rfl,pa,v.cF,hp.1,rfl⟩,fun h=>by simp at h⟩
  |
   some r =>
   obtain⟨l',w⟩:=r
   obtain⟨_,hlen,_⟩:=pL h.i q
   rw[Az q]
   simp only[↓zq,zs,ae,zt,bK,bb,cg]
   refine⟨fun h=>by simp at h,fun _=>?_⟩
   exact OU s d a n l' w _ (by omega) (h.up q) (cm.of _)
def EB(o:Option Vl):AV->List Ob->Prop:=fun r ob=>ob=[]/\∃c0 pa c2,LK.sl.has pa/\r=.cG [.agg [.v (.string c0),pa,.v (.string c2)],.v (.bool o.isSome)]/\∀w,o=some w->c2=mk w.cF
theorem EB.ne(o:Option Vl):∃r ob,EB o r ob:=⟨_,[],rfl,mk [],.sl [],mk ((o.map (·.cF)).getD []),(cg _).mpr trivial,rfl,fun w h=>by rw[h];rfl⟩
theorem Pt{s d:Nm}{a:Ty}{l:List Vl}{v:Vl}(h:St s d a l v)(pa:AV)(hp:cm pa (l.map (·.cF))):an Tryz.prog 47 [.agg [.v (.string (mk s)),pa,.v (.string (mk v.cF))]] [] (EB (sI a l v)):=by
 refine Sg _ _ _ hp.1 ?_
 unfold OE
 have hloop:=OU s d a l.length l v pa rfl h hp
 refine kM hloop (fun ys o e=>?_) (fun ys o e=>?_)
 ·unfold Gl at e
  unfold sI
  cases q:iK l.length a l v with
  |none=>rw[q]at e;exact absurd e.1 (by decide)
  |
   some w =>
   rw[q]at e
   obtain⟨_,rfl,p',h1,rfl⟩:=e
   simp only[↓zq,zs,ae,zt,ae,bh]
   exact⟨h1,rfl,_,_,_,h1,rfl,fun w' h=>by cases h;rfl⟩
 ·unfold Gl at e
  unfold sI
  cases q:iK l.length a l v with
  |some w=>rw[q]at e;exact absurd e.1 (by decide)
  |
   none =>
   rw[q]at e
   obtain⟨_,rfl,p',f',h1,rfl⟩:=e
   simp only[↓zq,zs,ae,zt,ae]
   exact⟨h1,rfl,_,_,_,h1,rfl,fun w' h=>by cases h⟩
theorem OG(s d f:Nm)(pa:AV)(p:List Nm)(hp:cm pa p)(hl:p.length<=50):∀(k i:Nat),i+k=p.length->F6 [.v (.string (mk d)),.v (.int .i64 (i:Int))] [.cells [.v (.string (mk s)),pa,.v (.string (mk f))]] (nH (if(eM d (p.drop i)).isSome=true then(1,[],[])else(2,[.v (.bool false)],[])))
 |
  0,i,hi=>by
  refine NC _ _ _ _ _ ?_
  have:i=p.length:=by omega
  subst this
  simp only[Ix,↓zq,zs,ae,zt,ae,hp.len,List.drop_length]
  exact⟨hp.1,hp.1,fun h=>by omega,fun _=>rfl⟩
 |
  k+1,i,hi=>by
  have hlt:i<p.length:=by omega
  have hd:p.drop i=p.getD i []::p.drop (i+1):=by rw[aU hlt];simp[aa,hlt]
  refine NC _ _ _ _ _ ?_
  simp only[Ix,↓zq,zs,ae,zt,ae,hp.len,hp.idx hlt,bH]
  refine⟨hp.1,hp.1,fun _=>⟨⟨hp.1,by omega,by omega⟩,by omega,?_⟩,fun h=>by omega⟩
  refine aj (Ap d (p.getD i []) 100) ?_
  rw[hd,eM]
  simp only[↓zq,zs,ae]
  cases q:nJ d (p.getD i []) 100 with
  |
   none =>
   simp only[bA]
   exact⟨fun _=>rfl,fun h=>by simp at h⟩
  |
   some w =>
   simp only[aW]
   refine⟨fun h=>by simp at h,fun _=>?_⟩
   rw[bx i (by omega)]
   have ih:=OG s d f pa p hp hl k (i+1) (by omega)
   cases q2:eM d (p.drop (i+1))with
   |none=>rw[q2]at ih;exact ih
   |some l=>rw[q2]at ih;exact ih
theorem xF(s:Nm)(p:List Nm)(f:Nm):vH s p f=(cL s).bind fun d=>(kD s).bind fun _=>(nJ s f 100).bind fun v=>if p.length<=50 then(eM d p).map fun l=>(l,v)else none:=by
 unfold vH qI
 cases kD s with
 |none=>cases cL s<;>rfl
 |some a=>cases nJ s f 100<;>cases cL s<;>rfl
theorem PA(s:Nm)(pa:AV)(p:List Nm)(hp:cm pa p)(f:Nm):an Tryz.prog 46 [.agg [.v (.string (mk s)),pa,.v (.string (mk f))]] [] (bM (.v (.bool (vH s p f).isSome))):=by
 refine PB _ _ _ hp.1 ?_
 unfold OC
 refine aj (Mv s) ?_
 rw[uU]
 simp only[↓zq,zs,ae,zt]
 refine aP (HW s) (jI.ne _ _ (fun h=>h)) ?_
 rintro r o ⟨c,e,he,rfl,_⟩
 rw[CC]
 simp only[↓zq,zs,ae,zt,bK,hp.len]
 rw[xF]
 refine⟨he,fun h=>?_,fun h=>⟨fun h'=>?_,fun h'=>⟨hp.1,fun h''=>?_,fun h''=>?_⟩⟩⟩
 ·have:cL s=none:=by cases q:cL s with|none=>rfl|some d=>simp[q]at h
  rw[this]
  exact⟨rfl,rfl⟩
 ·have:kD s=none:=by cases q:kD s with|none=>rfl|some d=>simp[q]at h'
  rw[this]
  cases cL s<;>exact⟨rfl,rfl⟩
 ·simp only[if_neg (show ¬p.length<=50 by omega)]
  exact⟨by cases cL s<;>cases kD s<;>cases nJ s f 100<;>rfl,rfl⟩
 ·obtain⟨d,hd⟩:∃d,cL s=some d:=by cases q:cL s with|none=>simp[q]at h|some d=>exact⟨d,rfl⟩
  obtain⟨a,ha⟩:∃a,kD s=some a:=by cases q:kD s with|none=>simp[q]at h'|some d=>exact⟨d,rfl⟩
  rw[hd,ha]
  refine aj (Ap s f 100) ?_
  simp only[↓zq,zs,ae]
  cases q:nJ s f 100 with
  |none=>simp only[bA];exact⟨fun _=>⟨rfl,rfl⟩,fun h=>by simp at h⟩
  |
   some v =>
   simp only[aW,cx,bb]
   refine⟨fun h=>by simp at h,fun _=>?_⟩
   have hl:p.length<=50:=by omega
   have hloop:=OG s d f pa p hp hl p.length 0 (by omega)
   rw[bf]at hloop
   rw[if_pos hl]
   refine fj hloop (fun ys o e=>?_) (fun ys o e=>?_)
   ·cases q2:eM d p with
    |none=>rw[q2]at e;cases e
    |some l=>exact⟨rfl,rfl⟩
   ·cases q2:eM d p with
    |none=>rw[q2]at e;cases e;simp only[↓zq,zs,ae];exact⟨rfl,rfl⟩
    |some l=>rw[q2]at e;cases e
theorem wX{s:Nm}{p:List Nm}{f:Nm}{l:List Vl}{v:Vl}(h:vH s p f=some (l,v)):∃d,St s d (zA s) l v/\p=l.map (·.cF)/\f=v.cF:=by
 obtain⟨d,a,x,A,B,D,z,hz,hp,hf,hl,hza,_,hr⟩:=mI h
 rw[hza]
 exact⟨d,⟨⟨x,A,B,D,z⟩,hz,nR hr hp,by rw[hp]at hl;simpa using hl⟩,hp,hf⟩
theorem Q7(s:Nm)(pa:AV)(p:List Nm)(hp:cm pa p)(f:Nm):an Tryz.prog 23 [.agg [.v (.string (mk s)),pa,.v (.string (mk f))]] [] (bM (.v (.bool (fV s p f).isSome))):=by
 refine Qi _ _ _ hp.1 ?_
 unfold Jg
 refine aj (PA s pa p hp f) ?_
 simp only[↓zq,zs,ae]
 unfold fV
 cases q:vH s p f with
 |none=>simp only[bA];exact⟨fun _=>⟨rfl,rfl⟩,fun h=>by simp at h⟩
 |
  some r =>
  obtain⟨l,v⟩:=r
  obtain⟨d,hs,rfl,rfl⟩:=wX q
  simp only[aW,bb]
  refine⟨fun h=>by simp at h,fun _=>?_⟩
  refine aP (Pt hs pa hp) (EB.ne _) ?_
  rintro r o ⟨rfl,c0,p',c2,h1,rfl,_⟩
  simp only[↓zq,zs,ae,zt,bK]
  refine⟨h1,?_,rfl⟩
  congr 2
  cases sI (zA s) l v<;>rfl
end Go.Proofs.Trees
namespace Go.Proofs.Trees
open Go Go.VL Go.RowKit
inductive Rl(x:Nm):Nat->Tg->Tg->Prop
 |nm (i):Rl x i (.nm x) (.bd i)
 |kE (i s) (h:s≠x):Rl x i (.nm s) (.nm s)
 |bd (i j) (h:j≠i):Rl x i (.bd j) (.bd j)
theorem Rl.up{x:Nm}{i:Nat}{a b:Tg}(h:Rl x i a b):Rl x (i+1) a.up b.up:=by
 cases h with
 |nm=>exact .nm _
 |kE s h=>exact .kE _ _ h
 |bd j h=>exact .bd _ _ (by omega)
theorem Rl.at{x:Nm}{i:Nat}{a b:Tg}(h:Rl x i a b):∀t:Ty,bn x t=false->eF (dA (.name x) t i) a=eF t b
 |
  .bound k,_=>by
  simp only[dA]
  cases h with
  |
   nm =>
   by_cases e:k=i
   ·simp[e,eF]
   ·simp[e,eF]
  |
   kE s h =>
   by_cases e:k=i
   ·simp[e,eF,Ne.symm h]
   ·simp[e,eF]
  |
   bd j h =>
   by_cases e:k=i
   ·simp[e,eF,Ne.symm h]
   ·simp[e,eF]
 |
  .name s,hn=>by
  have hs:s≠x:=by simpa[bn]using hn
  cases h with
  |nm=>simp[dA,eF,hs]
  |kE=>rfl
  |bd=>rfl
 | .plus _ _,_=>by cases h<;>rfl
 | .times _ _,_=>by cases h<;>rfl
 | .rc _,_=>by cases h<;>rfl
 | .zero,_=>by cases h<;>rfl
 | .one,_=>by cases h<;>rfl
theorem gU(x:Nm):∀(n:Nat) (t:Ty) (i:Nat) (a b:Tg) (v:Vl),bn x t=false->Rl x i a b->dC n (dA (.name x) t i) a v=dC n t b v
 |0,_,_,_,_,_,_,_=>rfl
 |
  n+1,t,i,a,b,v,hn,h=>by
  rw[dC,dC,h.at t hn]
  by_cases ht:eF t b=true
  ·rw[if_pos ht,if_pos ht]
  ·rw[if_neg ht,if_neg ht]
   cases t with
   |
    plus p q =>
    simp only[bn,cf]at hn
    cases v<;>simp only[dA,iV,gU x n p i a b _ hn.1 h,gU x n q i a b _ hn.2 h]
   |
    times p q =>
    simp only[bn,cf]at hn
    cases v<;>simp only[dA,iV,gU x n p i a b _ hn.1 h,gU x n q i a b _ hn.2 h]
   |
    rc p =>
    have h0:Rl x (i+1) (.bd 0) (.bd 0):=.bd _ _ (by omega)
    cases v<;>simp only[dA,iV]
    rename_i w
    rw[gU x n p (i+1) a.up b.up w hn h.up,gU x n p (i+1) (.bd 0) (.bd 0) w hn h0]
    congr 1
    apply iN
    intro k _
    have:=gU x n (.rc p) i a b k.2 hn h
    simp only[dA]at this
    rw[this]
   |
    bound k =>
    simp only[dA]
    by_cases e:k=i
    ·rw[if_pos e];cases v<;>rfl
    ·rw[if_neg e];cases v<;>rfl
   |name s=>rfl
   |zero=>rfl
   |one=>rfl
theorem nT(x:Nm){t:Ty}{i:Nat}{a b:Tg}(v:Vl)(hn:bn x t=false)(h:Rl x i a b):ck (dA (.name x) t i) a v=ck t b v:=gU x _ t i a b v hn h
end Go.Proofs.Trees
