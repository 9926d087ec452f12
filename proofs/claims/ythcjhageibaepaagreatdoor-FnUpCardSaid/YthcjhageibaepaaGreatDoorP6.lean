/-
  Part of a proof: Go functions read by values, trees of functions, their contracts.
-/
import Derived.Test.YthcjhageibaepaaGreatDoorP5
set_option linter.unusedVariables false
set_option linter.unusedSimpArgs false
open And renaming intro→aH
open Bool renaming and_eq_true→aw,eq_iff_iff→cy,or_eq_false_iff→cj,or_eq_true→bC,true_and→bX
open ByteArray renaming toList→af
open Int renaming tmod→dF,toNat_natCast→bH
open List renaming all_cons→cZ,all_eq_true→bZ,append_assoc→ba,append_nil→cX,cons_append→bc,drop_eq_getElem_cons→aU,drop_zero→bf,eq_nil_of_length_eq_zero→bR,getD_cons_zero→bq,getD_eq_getElem?_getD→aa,getElem?_eq_getElem→bp,getElem_mem→bD,headD_cons→aO,length_append→aq,length_cons→aA,length_map→cu,length_nil→aG,map_cons→bE,mem_append→aN,mem_append_left→aD,mem_append_right→aB,mem_cons→aK,mem_cons_of_mem→al,mem_cons_self→ak,mem_map→bO,mem_singleton→aR,nil_append→aT,tail_cons→bz
open Nat renaming le_add_right→da,le_refl→au,mul_add→cT,mul_le_mul_right→a8,mul_one→dG,zero_add→aW,zero_le→dO
open Option renaming bind_eq_some_iff→a7,bind_none→bI,bind_some→a6,getD_some→cC,isSome_iff_exists→bU,isSome_none→bu,isSome_some→aY,map_some→cg
open UInt8 renaming ofNat→bj
namespace Go.Proofs.Trees
open Go Go.VL Go.RowKit
theorem EX(n:Nat):∀(m:Nat) (v:Vl),v.nodes<=m->∀(e:E) (env:List Fr) (t:Ty),Ask e env t->eV n v (e,env)=true->env.length+v.nodes<100000->∀(ea:AV) (ids:List Nat),kD ea ids->ids.length=env.length->∀(tg:Tg) (s:List UInt8) (fr:AV),Az tg ids s fr->Hu t ea s fr tg v
 |0,v,hm=>by have:=du v;omega
 |
  m+1,v,hm=>by
  intro e env t A hv hl ea ids he hids tg s fr ht
  unfold Hu
  refine Rj _ _ _ _ _ ((aE _).mpr trivial) he.has ((aM _).mpr trivial) ht.has ?_
  unfold Ll
  refine ai (RC t tg ea ids s fr he ht (fun u hu=>by
   rcases gn A.wf A.ty with⟨hb,_⟩|⟨u',g,rfl,_,hg⟩
   ·rw[hu]at hb;cases hb
   ·cases hu;rw[hids];exact(List.getElem?_eq_some_iff.1 hg).1) (by omega)) ?_
  have hlen:=nq t tg v
  cases hat:eE t tg with
  |
   true =>
   rw[mS v hat]
   simp only[↓zq,zs,ae,bK,gF,bE,List.map_nil,Vl.cD]
   exact⟨fun _=>trivial,fun h=>(by cases h)⟩
  |false =>
  simp only[↓zq,zs,ae]
  refine⟨fun h=>(by cases h),fun _=>?_⟩
  rcases gn A.wf A.ty with⟨hb,hq⟩|⟨u,g,rfl,hq,hu⟩
  ·have hhd:hd e env=(e,env):=ka hq
   rcases fI A.ty hb A.cl with⟨rfl,rfl⟩|⟨rfl,rfl⟩|⟨s,rfl,rfl,hp,h0,h1⟩|⟨x,a,b,t1,t2,rfl,hx,rfl,ha,hbb⟩|⟨x,a,b,t1,t2,rfl,hx,rfl,ha,hbb⟩|⟨x,a,b,t1,rfl,hx,rfl⟩
   ·rw[dS hat (by cases v<;>rfl)]
    simp[Ty.av,↓zq,zs,ae,bK,gF]
   ·rw[dS hat (by cases v<;>rfl)]
    simp[Ty.av,↓zq,zs,ae,bK,gF]
   ·rw[dS hat (by cases v<;>rfl)]
    simp[Ty.av,↓zq,zs,ae,bK,gF]
   ·obtain⟨ok1,ok2,ok3,_⟩:=A.ok
    obtain⟨f1,f2⟩:=fq A.cl
    have hL:=zF t1.av t2.av ea 43 (mk []) 0 ((aE _).mpr trivial) he.has
    have hR:=zO t1.av t2.av ea 43 (mk []) 0 ((aE _).mpr trivial) he.has
    cases v with
    |
     l w =>
     simp only[eV,hhd,hx,beq_self_eq_true,bX]at hv
     simp only[Vl.nodes]at hm hl hlen
     rw[mZ]at hlen |-
     rw[fQ]at hlen
     simp only[Ty.av,↓zq,zs,ae]
     refine⟨by omega,fun _=>?_,fun h=>absurd rfl h⟩
     refine ai hL ?_
     simp only[↓zq,zs,ae,bF,aE,he.has,Vl.cD,aM]
     refine⟨by omega,fun h=>by omega,fun _=>⟨by omega,?_⟩⟩
     refine ai (EX n m w (by omega) a env t1 ⟨ok2,A.wf,ha,f1⟩ hv (by omega) ea ids he hids tg s fr ht) ?_
     simp only[↓zq,zs,ae]
     have hadd:=Lq (Vl.l w).cD ((aM _).mpr trivial) Vl.l (fun c=>PW w c) (cm t1 tg w) [] (by simp;omega)
     simp only[Vl.cD,gF,List.map_nil,aT]at hadd
     refine aV hadd ?_
     simp[↓zq,zs,ae,aJ,bK,aM,gF,cb]
    |
     r w =>
     simp only[eV,hhd,hx,beq_self_eq_true,bX]at hv
     simp only[Vl.nodes]at hm hl hlen
     rw[mY]at hlen |-
     rw[fQ]at hlen
     simp only[Ty.av,↓zq,zs,ae]
     refine⟨by omega,fun _=>?_,fun h=>absurd rfl h⟩
     refine ai hL ?_
     simp only[↓zq,zs,ae,bF,aE,he.has,Vl.cD,aM]
     refine⟨by omega,fun _=>?_,fun h=>absurd rfl h⟩
     refine ai hR ?_
     simp only[↓zq,zs,ae,bF,aE,he.has,aM]
     refine⟨by omega,?_⟩
     refine ai (EX n m w (by omega) b env t2 ⟨ok3,A.wf,hbb,f2⟩ hv (by omega) ea ids he hids tg s fr ht) ?_
     simp only[↓zq,zs,ae]
     have hadd:=Lq (Vl.r w).cD ((aM _).mpr trivial) Vl.r (fun c=>QG w c) (cm t2 tg w) [] (by simp;omega)
     simp only[Vl.cD,gF,List.map_nil,aT]at hadd
     refine aV hadd ?_
     simp[↓zq,zs,ae,aJ,bK,aM,gF,cb]
    |_=>simp[eV,hhd,hx]at hv
   ·obtain⟨ok1,ok2,ok3,_⟩:=A.ok
    obtain⟨f1,f2⟩:=eW A.cl
    have hL:=zF t1.av t2.av ea 42 (mk []) 0 ((aE _).mpr trivial) he.has
    have hR:=zO t1.av t2.av ea 42 (mk []) 0 ((aE _).mpr trivial) he.has
    cases v with
    |
     p w w' =>
     simp only[eV,hhd,hx,beq_self_eq_true,bX,aw]at hv
     simp only[Vl.nodes]at hm hl hlen
     rw[mX]at hlen |-
     simp only[aq,fQ]at hlen
     simp only[Ty.av,↓zq,zs,ae]
     refine⟨by omega,fun h=>by omega,fun _=>⟨fun _=>?_,fun h=>absurd rfl h⟩⟩
     refine ai hL ?_
     simp only[↓zq,zs,ae,bF,aE,he.has,Vl.cD,aM]
     refine⟨by omega,?_⟩
     refine ai (EX n m w (by omega) a env t1 ⟨ok2,A.wf,ha,f1⟩ hv.1 (by omega) ea ids he hids tg s fr ht) ?_
     simp only[↓zq,zs,ae]
     have hadd:=R6 (Vl.p w w').cD ((aM _).mpr trivial) (fun c=>.l (.p c w')) (fun c=>Pt w w' c) (cm t1 tg w) [] (by simp;omega)
     simp only[Vl.cD,gF,List.map_nil,aT]at hadd
     refine aV hadd ?_
     simp only[↓zq,zs,ae,aJ,aM]
     refine ai hR ?_
     simp only[↓zq,zs,ae,bF,aE,he.has,aM]
     refine⟨by omega,?_⟩
     refine ai (EX n m w' (by omega) b env t2 ⟨ok3,A.wf,hbb,f2⟩ hv.2 (by omega) ea ids he hids tg s fr ht) ?_
     simp only[↓zq,zs,ae]
     have hadd2:=PO (Vl.p w w').cD ((aM _).mpr trivial) (fun c=>.r (.p w c)) (fun c=>PE w w' c) (cm t2 tg w') (iI (fun c=>.l (.p c w')) (cm t1 tg w)) (by rw[fQ];omega)
     simp only[Vl.cD,gF]at hadd2
     refine aV hadd2 ?_
     simp[↓zq,zs,ae,aJ,bK,aM,gF,cb]
    |_=>simp[eV,hhd,hx]at hv
   ·obtain⟨t1',he1,h1,f1,hw1⟩:=jw A.wf A.ok hx A.ty A.cl
    cases he1
    obtain⟨ok1,ok2,ok3,_⟩:=A.ok
    have A':Ask b (.mk a.at (.list [x,a,b]) env::env) t1:=⟨ok3,hw1,h1,f1⟩
    cases v with
    |
     f w =>
     simp only[eV,hhd,hx,beq_self_eq_true,bX]at hv
     simp only[Vl.nodes]at hm hl hlen
     rw[nn]at hlen |-
     simp only[aq,fQ]at hlen
     have hin:=D9 t1 ea ids he
     simp only[Ty.av]at hin
     simp only[Ty.av,↓zq,zs,ae]
     refine⟨by omega,fun h=>by omega,fun _=>⟨fun h=>by omega,fun _=>⟨fun _=>?_,fun h=>absurd rfl h⟩⟩⟩
     refine aP hin (by have:=B4.ne t1 ea ids;simpa only[B4,Ty.av]using this) ?_
     intro r o hr
     obtain⟨⟨mm,hmm,rfl⟩,rfl⟩:=hr
     have he2:kD (.ptr [.pid mm [(Ty.rc t1).av,ea],ea]) (mm::ids):=.cons hmm he
     have hfr:LK.ptr.has (.pid mm [(Ty.rc t1).av,ea]):=.inr (.inr ⟨_,_,rfl⟩)
     simp only[Ty.av]at he2 hfr
     simp only[↓zq,zs,ae,bF,aE,he2.has,hfr,Vl.cD,aM,Ty.av]
     refine⟨by omega,?_⟩
     have i1:=EX n m w (by omega) b _ t1 A' hv (by simp;omega) _ _ he2 (by simp[hids]) tg.up s fr (ht.push mm)
     unfold Hu at i1
     refine ai i1 ?_
     simp only[↓zq,zs,ae]
     have hadd:=Qq (fun c=>.f (.l c)) (fun c=>RA c) (cm t1 tg.up w) [] (by simp;omega)
     simp only[Vl.cD,gF,List.map_nil,aT]at hadd
     refine aV hadd ?_
     simp only[↓zq,zs,ae,aJ,aM]
     have i2:=EX n m w (by omega) b _ t1 A' hv (by simp;omega) _ _ he2 (by simp[hids]) (.bd 0) [] _ (by have:=Az.bd (k:=0) (ids:=mm::ids) (by simp) [(Ty.rc t1).av,ea] [];simpa only[bq,Ty.av]using this)
     unfold Hu at i2
     refine⟨by omega,?_⟩
     refine ai i2 ?_
     simp only[↓zq,zs,ae,ek]
     have hl2:=nq t1 (.bd 0) w
     have ih3:∀h,h∈cm t1 (.bd 0) w->Hu (.rc t1) ea s fr tg h.2:=fun h hh=>by
      have h3:=(iE hh).1
      have h4:=iv n m w (by omega) b _ t1 A' hv 0 _ rfl h hh
      exact EX n m h.2 (by omega) (.list [x,a,b]) env (.rc t1) A h4 (by omega) ea ids he hids tg s fr ht
     have hloop:=KC t1 ea s fr tg he.has ht.has (cm t1 (.bd 0) w) (by omega) ih3 (cm t1 (.bd 0) w).length 0 (iI (fun c=>.f (.l c)) (cm t1 tg.up w)) (by omega) (by
      simp only[bf,aq,fQ]
      have hlen2:(cm t1 tg.up w).length+((cm t1 (.bd 0) w).flatMap (Av t1 tg)).length<=1+w.nodes:=hlen
      omega)
     simp only[Ty.av,gF,bf]at hloop
     refine cz hloop ?_
     simp[↓zq,zs,ae,ae,bK,gF]
    |_=>simp[eV,hhd,hx]at hv
  ·rw[dS hat (by cases v<;>rfl)]
   simp[Ty.av,↓zq,zs,ae,bK,gF]
end Go.Proofs.Trees
namespace Go.Proofs.Trees
open Go Go.VL Go.RowKit
theorem CI:∀(v:Vl),v.cA.length<=900000->an Tryz.prog 48 [v.cD] [] (bK (.v (.string (mk v.cA))))
 | .u,h=>by refine zZ _ ((aM _).mpr trivial) ?_;simp[wU,Vl.cD,↓zq,zs,ae,bK,Vl.cA,Vl.cL,e9]
 | .el k,h=>by refine zZ _ ((aM _).mpr trivial) ?_;simp[wU,Vl.cD,↓zq,zs,ae,bK,Vl.cA,Vl.cL,e9]
 |
  .l v,h=>by
  simp only[Vl.cA,Vl.cL,e9,ei,aA,aq,aG]at h
  refine zZ _ ((aM _).mpr trivial) ?_
  have hb:(⟨(bytesOf [[.v (.int .u8 108)]]).toArray⟩:ByteArray)=mk [108]:=rfl
  have ha:jA [[.v (.int .u8 108)]]:=lf 108
  simp only[wU,Vl.cD,↓zq,zs,ae,aM,fy,hb]
  refine⟨by omega,fun h=>by omega,fun _=>⟨fun h=>by omega,fun _=>⟨fun h=>by omega,fun _=>⟨by omega,ha,by simp[cM],by rw[lr,cM,cM];simp,by omega,?_⟩⟩⟩⟩
  refine ai (CI v (by simp only[Vl.cA];omega)) ?_
  simp only[↓zq,zs,ae,zt,bK,Vl.cA,Vl.cL,e9,ei]
  refine⟨by simp;omega,by simp;omega,by simp⟩
 |
  .r v,h=>by
  simp only[Vl.cA,Vl.cL,e9,ei,aA,aq,aG]at h
  refine zZ _ ((aM _).mpr trivial) ?_
  have hb:(⟨(bytesOf [[.v (.int .u8 114)]]).toArray⟩:ByteArray)=mk [114]:=rfl
  have ha:jA [[.v (.int .u8 114)]]:=lf 114
  simp only[wU,Vl.cD,↓zq,zs,ae,aM,fy,hb]
  refine⟨by omega,fun h=>by omega,fun _=>⟨fun h=>by omega,fun _=>⟨fun h=>by omega,fun _=>⟨by omega,ha,by simp[cM],by rw[lr,cM,cM];simp,by omega,?_⟩⟩⟩⟩
  refine ai (CI v (by simp only[Vl.cA];omega)) ?_
  simp only[↓zq,zs,ae,zt,bK,Vl.cA,Vl.cL,e9,ei]
  refine⟨by simp;omega,by simp;omega,by simp⟩
 |
  .f v,h=>by
  simp only[Vl.cA,Vl.cL,e9,ei,aA,aq,aG]at h
  refine zZ _ ((aM _).mpr trivial) ?_
  have hb:(⟨(bytesOf [[.v (.int .u8 102)]]).toArray⟩:ByteArray)=mk [102]:=rfl
  have ha:jA [[.v (.int .u8 102)]]:=lf 102
  simp only[wU,Vl.cD,↓zq,zs,ae,aM,fy,hb]
  refine⟨by omega,fun h=>by omega,fun _=>⟨fun h=>by omega,fun _=>⟨fun h=>by omega,fun _=>⟨by omega,ha,by simp[cM],by rw[lr,cM,cM];simp,by omega,?_⟩⟩⟩⟩
  refine ai (CI v (by simp only[Vl.cA];omega)) ?_
  simp only[↓zq,zs,ae,zt,bK,Vl.cA,Vl.cL,e9,ei]
  refine⟨by simp;omega,by simp;omega,by simp⟩
 |
  .p a b,h=>by
  simp only[Vl.cA,Vl.cL,e9,ei,aA,aq,aG]at h
  refine zZ _ ((aM _).mpr trivial) ?_
  simp only[wU,Vl.cD,↓zq,zs,ae,aM,fy]
  refine⟨by omega,fun h=>by omega,fun _=>⟨fun h=>by omega,fun _=>⟨fun _=>⟨by omega,?_⟩,fun h=>absurd rfl h⟩⟩⟩
  refine ai (CI a (by simp only[Vl.cA];omega)) ?_
  simp only[↓zq,zs,ae,zt,aM,Vl.cA]
  refine⟨by simp;omega,by simp;omega,by omega,?_⟩
  refine ai (CI b (by simp only[Vl.cA];omega)) ?_
  simp only[↓zq,zs,ae,zt,bK,Vl.cA,Vl.cL,e9,ei]
  refine⟨by simp;omega,by simp;omega,by simp⟩
def qy:Option (List UInt8)->AV
 |some s=>.cG [.v (.string (mk s)),.v (.bool true)]
 |none=>.cG [.v (.string (mk [])),.v (.bool false)]
end Go.Proofs.Trees
namespace Go.Proofs.Trees
open Go Go.VL Go.RowKit
def back(n:Nat):Ty->Nat->Vl
 | .name _,c=>.el c
 | .plus a b,c=>match IK n a with|some x=>if c<x then .l (back n a c)else .r (back n b (c-x))|none=>.u
 | .times a b,c=>match IK n b with|some y=>.p (back n a (c/y)) (back n b (c%y))|none=>.u
 |_,_=>.u
theorem yA:∀l:List E,cB 2 (E.bw l)
 |[]=>fun c hc=>by cases hc
 |
  e::l=>fun c hc=>by
  simp only[E.bw,aK]at hc
  rcases hc with rfl|hc
  ·exact gf e
  ·exact yA l c hc
theorem Kd(w:List UInt8)(l:List E)(hl:l.length<1000000):an Tryz.prog 81 [.v (.string (mk w)),.sl (E.bw l)] [] (bK (E.kF (.list (.atom w::l)))):=by
 refine K0 _ _ ((cf _).mpr trivial) ?_
 simp only[IE,↓zq,zs,ae,eg,bK,E.kF,E.im,E.bw]
 exact⟨⟨yA l,by omega⟩,rfl⟩
end Go.Proofs.Trees
namespace Go.Proofs.Trees
open Go Go.VL Go.RowKit
def l8(l:List Hl):List (List AV):=l.map fun h=>[.v (.string (mk h.1.cL.at)),h.1.cL.sp,.v (.string (mk h.2.cL.at)),h.2.cL.sp]
theorem fA(l:List Hl):(l8 l).length=l.length:=by simp[l8]
theorem gC{l:List Hl}{i:Nat}(hi:i<l.length):(l8 l).getD i []=[.v (.string (mk (l[i]).1.cL.at)),(l[i]).1.cL.sp,.v (.string (mk (l[i]).2.cL.at)),(l[i]).2.cL.sp]:=by simp[l8,aa,hi]
theorem pg(out:List Hl)(a b:Vl):l8 out++[[.v (.string (mk a.cL.at)),a.cL.sp,.v (.string (mk b.cL.at)),b.cL.sp]]=l8 (out++[(a,b)]):=by simp[l8]
theorem zL(a b c d:AV):cB 4 [[a,b,c,d]]:=fun x hx=>by simp at hx;rw[hx];rfl
theorem aL(s:ByteArray)(e:E):bF [.str,.sl] [.v (.string s),e.sp] 0=True:=by simp[bF,dX,aX]
theorem lq(s:ByteArray)(e:E)(x y:AV):bF [.str,.sl] [.v (.string s),e.sp,x,y] 0=True:=by simp[bF,dX,aX]
theorem wG(w:List UInt8)(e:E):an Tryz.prog 81 [.v (.string (mk w)),.sl [[.v (.string (mk e.at)),e.sp]]] [] (bK (.agg [.v (.string (mk [])),(E.list [.atom w,e]).sp])):=by
 have:=Kd w [e] (by simp)
 simpa only[E.bw,fM,dj,E.at]using this
theorem w7(w:List UInt8)(e e':E):an Tryz.prog 81 [.v (.string (mk w)),.sl [[.v (.string (mk e.at)),e.sp],[.v (.string (mk e'.at)),e'.sp]]] [] (bK (.agg [.v (.string (mk [])),(E.list [.atom w,e,e']).sp])):=by
 have:=Kd w [e,e'] (by simp)
 simpa only[E.bw,fM,dj,E.at]using this
def P3(pv:AV)(a b:E):Prop:=LK.sl.has pv/\pv.elems.length=3/\pv.elems.getD 1 []=[.v (.string (mk a.at)),a.sp]/\pv.elems.getD 2 []=[.v (.string (mk b.at)),b.sp]
theorem P3.of(x a b:E):P3 (E.list [x,a,b]).sp a b:=⟨by simp[E.sp,cf],by simp[E.sp,E.bw,fG],by simp[E.sp,E.bw,fG,fM],by simp[E.sp,E.bw,fG,fM]⟩
def P2(pv:AV)(a:E):Prop:=LK.sl.has pv/\pv.elems.length=2/\pv.elems.getD 1 []=[.v (.string (mk a.at)),a.sp]
theorem P2.of(x a:E):P2 (E.list [x,a]).sp a:=⟨by simp[E.sp,cf],by simp[E.sp,E.bw,fG],by simp[E.sp,E.bw,fG,fM]⟩
theorem Lc(w:List UInt8)(g:Vl->Vl)(hg:∀c,(g c).cL=.list [.atom w,c.cL])(l:List Hl)(hl:l.length<=1000000):∀(k i:Nat) (out:List Hl),i+k=l.length->out.length+k<=1000000 ->
 Hd [.sl (l8 l),.v (.string (mk w)),.v (.int .i64 (i:Int))] [.vec 4 (l8 out)] (gV 1 [] [.vec 4 (l8 (out++iI g (l.drop i)))])
 |
  0,i,out,hi,ho=>by
  refine M8 _ _ _ _ ?_
  have:i=l.length:=by omega
  subst this
  simp only[GJ,↓zq,zs,ae,fA]
  exact⟨fun h=>by omega,fun _=>by simp[gV,iI]⟩
 |
  k+1,i,out,hi,ho=>by
  have hlt:i<l.length:=by omega
  refine M8 _ _ _ _ ?_
  simp only[GJ,↓zq,zs,ae,zt,fA,gC hlt,lq,aL]
  refine⟨fun _=>?_,fun h=>by omega⟩
  repeat refine⟨by omega,?_⟩
  refine ai (wG _ _) ?_
  simp only[↓zq,zs,ae,aL]
  repeat refine⟨by omega,?_⟩
  refine⟨⟨zL _ _ _ _,by omega⟩,?_⟩
  rw[bA i (by omega)]
  have:=Lc w g hg l hl k (i+1) (out++[(g (l[i]).1,(l[i]).2)]) (by omega) (by simp;omega)
  rw[ba,<-pg,hg]at this
  rw[gp g l hlt]
  exact this
theorem J2(w:List UInt8)(g:Vl->Vl)(hg:∀c,(g c).cL=.list [.atom w,c.cL])(l out:List Hl)(hl:out.length+l.length<=1000000) :
 an Tryz.prog 105 [.sl (l8 l),.v (.string (mk w)),.vec 0] [.vec 4 (l8 out)] (df (.vec 1) [.dead,.vec 4 (l8 (out++iI g l))]):=by
 refine Sn _ _ _ ((cf _).mpr trivial) ?_
 simp only[Jv,↓zq,zs,ae]
 have h:=Lc w g hg l (by omega) l.length 0 out (by omega) (by omega)
 rw[bf]at h
 refine cz h ?_
 simp[↓zq,zs,ae,df]
theorem M9(s:List UInt8)(ta:ByteArray)(tp:AV)(ht:LK.sl.has tp)(va:ByteArray)(vp:AV)(x y:Vl)(hp:P3 vp x.cL y.cL)(l:List Hl)(hl:l.length<=1000000):∀(k i:Nat) (out:List Hl),i+k=l.length->out.length+k<=1000000 ->
 Io [.v (.string (mk s)),.sl (l8 l),.v (.int .i64 (i:Int))] [.cells [.v (.string ta),tp],.cells [.v (.string va),vp],.vec 4 (l8 out)] (gV 1 [.v (.string (mk s))] [.cells [.v (.string ta),tp],.cells [.v (.string va),vp],.vec 4 (l8 (out++iI (fun c=>Vl.l (.p c y)) (l.drop i)))])
 |
  0,i,out,hi,ho=>by
  refine I9 _ _ _ _ _ _ _ _ ?_
  have:i=l.length:=by omega
  subst this
  simp only[FF,↓zq,zs,ae,fA,ht,aX,ae,hp.1]
  exact⟨fun h=>by omega,fun _=>by simp[gV,iI]⟩
 |
  k+1,i,out,hi,ho=>by
  have hlt:i<l.length:=by omega
  refine I9 _ _ _ _ _ _ _ _ ?_
  simp only[FF,↓zq,zs,ae,zt,fA,gC hlt,lq,aL,gC,ht,aX,ae,hp.1,toNat_one,bg,hp.1,hp.2.1,hp.2.2.1,hp.2.2.2]
  refine⟨fun _=>?_,fun h=>by omega⟩
  repeat refine⟨by omega,?_⟩
  refine ai (w7 _ _ _) ?_
  simp only[↓zq,zs,ae,aL]
  repeat refine⟨by omega,?_⟩
  refine ai (wG [108] (E.list [.atom [112],(l[i]).1.cL,y.cL])) ?_
  simp only[↓zq,zs,ae,aL]
  repeat refine⟨by omega,?_⟩
  refine⟨⟨zL _ _ _ _,by omega⟩,?_⟩
  rw[bA i (by omega)]
  have:=M9 s ta tp ht va vp x y hp l hl k (i+1) (out++[((fun c=>Vl.l (.p c y)) (l[i]).1,(l[i]).2)]) (by omega) (by simp;omega)
  rw[ba,<-pg]at this
  rw[gp (fun c=>Vl.l (.p c y)) l hlt]
  exact this
theorem Le(va:ByteArray)(vp:AV)(x y:Vl)(hp:P3 vp x.cL y.cL)(l:List Hl)(hl:l.length<=1000000):∀(k i:Nat) (out:List Hl),i+k=l.length->out.length+k<=1000000 ->
 Gd [.sl (l8 l),.v (.int .i64 (i:Int))] [.cells [.v (.string va),vp],.vec 4 (l8 out)] (gV 1 [] [.vec 4 (l8 (out++iI (fun c=>Vl.r (.p x c)) (l.drop i)))])
 |
  0,i,out,hi,ho=>by
  refine OQ _ _ _ _ _ ?_
  have:i=l.length:=by omega
  subst this
  simp only[HY,↓zq,zs,ae,fA,aX,ae,hp.1]
  exact⟨fun h=>by omega,fun _=>by simp[gV,iI]⟩
 |
  k+1,i,out,hi,ho=>by
  have hlt:i<l.length:=by omega
  refine OQ _ _ _ _ _ ?_
  simp only[HY,↓zq,zs,ae,zt,fA,gC hlt,lq,aL,gC,aX,ae,hp.1,toNat_one,bg,hp.1,hp.2.1,hp.2.2.1,hp.2.2.2]
  refine⟨fun _=>?_,fun h=>by omega⟩
  repeat refine⟨by omega,?_⟩
  refine ai (w7 _ _ _) ?_
  simp only[↓zq,zs,ae,aL]
  repeat refine⟨by omega,?_⟩
  refine ai (wG [114] (E.list [.atom [112],x.cL,(l[i]).1.cL])) ?_
  simp only[↓zq,zs,ae,aL]
  repeat refine⟨by omega,?_⟩
  refine⟨⟨zL _ _ _ _,by omega⟩,?_⟩
  rw[bA i (by omega)]
  have:=Le va vp x y hp l hl k (i+1) (out++[((fun c=>Vl.r (.p x c)) (l[i]).1,(l[i]).2)]) (by omega) (by simp;omega)
  rw[ba,<-pg]at this
  rw[gp (fun c=>Vl.r (.p x c)) l hlt]
  exact this
theorem Jf(s s2:List UInt8)(ta:ByteArray)(tp:AV)(ht:LK.sl.has tp)(va:ByteArray)(vp:AV)(hp:LK.sl.has vp)(l:List Hl)(hl:l.length<=1000000):∀(k i:Nat) (out:List Hl),i+k=l.length->out.length+k<=1000000 ->
 FR [.v (.string (mk s)),.v (.string (mk s2)),.sl (l8 l),.v (.int .i64 (i:Int))] [.cells [.v (.string ta),tp],.cells [.v (.string va),vp],.vec 4 (l8 out)] (gV 1 [.v (.string (mk s)),.v (.string (mk s2))] [.cells [.v (.string ta),tp],.cells [.v (.string va),vp],.vec 4 (l8 (out++iI (fun c=>Vl.f (.l c)) (l.drop i)))])
 |
  0,i,out,hi,ho=>by
  refine J6 _ _ _ _ _ _ _ _ _ ?_
  have:i=l.length:=by omega
  subst this
  simp only[G1,↓zq,zs,ae,fA,ht,aX,ae,hp]
  exact⟨fun h=>by omega,fun _=>by simp[gV,iI]⟩
 |
  k+1,i,out,hi,ho=>by
  have hlt:i<l.length:=by omega
  refine J6 _ _ _ _ _ _ _ _ _ ?_
  simp only[G1,↓zq,zs,ae,zt,fA,gC hlt,lq,aL,gC,ht,aX,ae,hp]
  refine⟨fun _=>?_,fun h=>by omega⟩
  repeat refine⟨by omega,?_⟩
  refine ai (wG _ _) ?_
  simp only[↓zq,zs,ae,aL]
  repeat refine⟨by omega,?_⟩
  refine ai (wG [102] (E.list [.atom [108],(l[i]).1.cL])) ?_
  simp only[↓zq,zs,ae,aL]
  repeat refine⟨by omega,?_⟩
  refine⟨⟨zL _ _ _ _,by omega⟩,?_⟩
  rw[bA i (by omega)]
  have:=Jf s s2 ta tp ht va vp hp l hl k (i+1) (out++[((fun c=>Vl.f (.l c)) (l[i]).1,(l[i]).2)]) (by omega) (by simp;omega)
  rw[ba,<-pg]at this
  rw[gp (fun c=>Vl.f (.l c)) l hlt]
  exact this
theorem Lm(s:List UInt8)(L:AV)(q:Nat)(kc:Vl)(kv:Vl)(hL:LK.sl.has L)(hq:q<L.elems.length)(hg:L.elems.getD q []=[.v (.string (mk kc.cL.at)),kc.cL.sp,.v (.string (mk kv.cL.at)),kv.cL.sp])(ta:ByteArray)(tp:AV)(ht:LK.sl.has tp)(l:List Hl)(hl:l.length<=1000000):∀(k i:Nat) (out:List Hl),i+k=l.length->out.length+k<=1000000 ->
 Ip [.v (.string (mk s)),L,.v (.int .i64 (q:Int)),.sl (l8 l),.v (.int .i64 (i:Int))] [.cells [.v (.string ta),tp],.vec 4 (l8 out)] (gV 1 [.v (.string (mk s)),L,.v (.int .i64 (q:Int))] [.cells [.v (.string ta),tp],.vec 4 (l8 (out++iI (fun c=>Vl.f (.r (.p kc c))) (l.drop i)))])
 |
  0,i,out,hi,ho=>by
  refine LG _ _ _ _ _ _ _ _ ?_
  have:i=l.length:=by omega
  subst this
  simp only[HQ,↓zq,zs,ae,fA,ht,aX,ae,hL]
  exact⟨fun h=>by omega,fun _=>by simp[gV,iI]⟩
 |
  k+1,i,out,hi,ho=>by
  have hlt:i<l.length:=by omega
  refine LG _ _ _ _ _ _ _ _ ?_
  simp only[HQ,↓zq,zs,ae,zt,fA,gC hlt,lq,aL,gC,ht,aX,ae,hL,hg]
  refine⟨fun _=>?_,fun h=>by omega⟩
  repeat refine⟨by omega,?_⟩
  refine ai (w7 _ _ _) ?_
  simp only[↓zq,zs,ae,aL]
  repeat refine⟨by omega,?_⟩
  refine ai (wG [114] (E.list [.atom [112],kc.cL,(l[i]).1.cL])) ?_
  simp only[↓zq,zs,ae,aL]
  repeat refine⟨by omega,?_⟩
  refine ai (wG [102] (E.list [.atom [114],E.list [.atom [112],kc.cL,(l[i]).1.cL]])) ?_
  simp only[↓zq,zs,ae,aL]
  repeat refine⟨by omega,?_⟩
  refine⟨⟨zL _ _ _ _,by omega⟩,?_⟩
  rw[bA i (by omega)]
  have:=Lm s L q kc kv hL hq hg ta tp ht l hl k (i+1) (out++[((fun c=>Vl.f (.r (.p kc c))) (l[i]).1,(l[i]).2)]) (by omega) (by simp;omega)
  rw[ba,<-pg]at this
  rw[gp (fun c=>Vl.f (.r (.p kc c))) l hlt]
  exact this
theorem OS(s:List UInt8)(te:E)(a:Ty)(tg:Tg)(l:List Hl)(hl:l.length<=1000000)(ih:∀h,h∈l->an Tryz.prog 74 [.agg [.v (.string (mk te.at)),te.sp],.v (.string (mk s)),.agg [.v (.string (mk h.2.cL.at)),h.2.cL.sp]] [] (bK (.sl (l8 (cm (.rc a) tg h.2))))) :
 ∀(k i:Nat) (out:List Hl),i+k=l.length->(out++(l.drop i).flatMap (Av a tg)).length<=1000000 ->
 Hq [.v (.string (mk s)),.sl (l8 l),.v (.int .i64 (i:Int))] [.cells [.v (.string (mk te.at)),te.sp],.vec 4 (l8 out)] (gV 1 [] [.vec 4 (l8 (out++(l.drop i).flatMap (Av a tg)))])
 |
  0,i,out,hi,ho=>by
  refine MG _ _ _ _ _ _ ?_
  have:i=l.length:=by omega
  subst this
  simp only[H2,↓zq,zs,ae,fA,aX,ae]
  exact⟨fun h=>by omega,fun _=>by simp[gV]⟩
 |
  k+1,i,out,hi,ho=>by
  have hlt:i<l.length:=by omega
  have hd:(l.drop i).flatMap (Av a tg)=Av a tg (l[i])++(l.drop (i+1)).flatMap (Av a tg):=by rw[aU hlt,List.flatMap_cons]
  rw[hd]at ho |-
  refine MG _ _ _ _ _ _ ?_
  simp only[H2,↓zq,zs,ae,zt,fA,gC hlt,lq,aL,aX,ae]
  refine⟨fun _=>?_,fun h=>by omega⟩
  repeat refine⟨by omega,?_⟩
  refine ai (ih _ (Cm l hlt)) ?_
  simp only[↓zq,zs,ae]
  have hb:out.length+(cm (.rc a) tg (l[i]).2).length<=1000000:=by
   simp only[aq,fQ]at ho;omega
  have h5:=Lm s (.sl (l8 l)) i (l[i]).1 (l[i]).2 ((cf _).mpr trivial) (by rw[fG,fA];omega) (by rw[fG,gC hlt]) (mk te.at) te.sp ((aX _).mpr trivial) (cm (.rc a) tg (l[i]).2) (by omega) (cm (.rc a) tg (l[i]).2).length 0 out (by omega) (by omega)
  rw[bf]at h5
  refine cz h5 ?_
  simp only[↓zq,zs,ae,aX,ae]
  repeat refine⟨by omega,?_⟩
  rw[bA i (by omega),<-ba]
  exact OS s te a tg l hl ih k (i+1) _ (by omega) (by rw[ba];exact ho)
end Go.Proofs.Trees
namespace Go.Proofs.Trees
open Go Go.VL Go.RowKit
def kids(a:Ty):Vl->List Hl
 | .f w=>cm a (.bd 0) w
 |_=>[]
theorem mT(a:Ty)(v:Vl):k8 (kids a v)+1<=v.nodes:=by
 cases v with
 |f w=>have:=rW a (.bd 0) w;simp only[kids,Vl.nodes];omega
 |_=>simp only[kids,k8,Vl.nodes,List.map_nil,List.sum_nil];omega
theorem xP{a:Ty}{v:Vl}{h:Hl}(hh:h∈kids a v):h.2.nodes<v.nodes:=by
 cases v with
 |f w=>have:=(iE hh).1;simp only[Vl.nodes];omega
 |_=>cases hh
theorem kW{n:Nat}{a:Ty}{v:Vl}{h:Hl}(hv:v.ig n)(hh:h∈kids a v):h.1.ig n/\h.2.ig n:=by
 cases v with
 |f w=>exact gS n _ _ _ w h hv hh
 |_=>cases hh
end Go.Proofs.Trees
namespace Go.Proofs.Trees
open Go Go.VL
mutual
def E.pr:E->Prop
 | .atom s=>s≠[]/\s.all fe=true
 | .list l=>l≠[]/\E.B3 l
def E.B3:List E->Prop
 |[]=>True
 |e::l=>e.pr/\E.B3 l
end
mutual
def E.dp:E->Nat
 | .atom _=>0
 | .list l=>1+E.u9 l
def E.u9:List E->Nat
 |[]=>0
 |e::l=>max e.dp (E.u9 l)
end
def JA(r:List UInt8):Prop:=∀c t,r=c::t->fe c=false
theorem uD:JA []:=by intro c t h;cases h
theorem AW{s r:List UInt8}(hs:s.all fe=true)(hr:JA r):(s++r).takeWhile fe=s/\(s++r).dropWhile fe=r:=by
 induction s with
 |
  nil =>
  cases r with
  |nil=>exact⟨rfl,rfl⟩
  |cons c t=>have:=hr c t rfl;simp[List.takeWhile,List.dropWhile,this]
 |
  cons c s ih =>
  simp only[cZ,aw]at hs
  have:=ih hs.2
  simp[List.takeWhile,List.dropWhile,hs.1,this.1,this.2]
theorem vC(l:List E)(r:List UInt8):JA (ei l++41::r):=by
 intro c t h
 cases l with
 |nil=>simp only[ei,aT,List.cons.injEq]at h;rw[<-h.1];decide
 |cons e l=>simp only[ei,bc,List.cons.injEq]at h;rw[<-h.1];decide
theorem Cj{f:List UInt8->Option (E×List UInt8)}(r:List UInt8):∀(l:List E) (e:E) (acc:List E) (n:Nat),l.length<n->(∀x,x=e\/x∈l->∀r,JA r->f (e9 x++r)=some (x,r)) ->
 sA f n (e9 e++(ei l++41::r)) acc=some (.list (acc++e::l),r)
 |l,e,acc,0,hn,hf=>by omega
 |
  [],e,acc,n+1,hn,hf=>by
  simp only[sA]
  rw[hf e (.inl rfl) _ (vC [] r)]
  simp[ei]
 |
  x::l,e,acc,n+1,hn,hf=>by
  simp only[sA]
  rw[hf e (.inl rfl) _ (vC (x::l) r)]
  simp only[aA]at hn
  have ih:=Cj r l x (acc++[e]) n (by omega) (fun y hy=>hf y (.inr (by cases hy with|inl h=>rw[h];exact ak|inr h=>exact al _ h)))
  simp only[ba,bc,aT]at ih
  simp only[ei,bc,ba]
  simp[ih]
theorem Dk{l:List E}{k:Nat}:E.B3 l->E.u9 l<=k->∀x,x∈l->x.pr/\x.dp<=k:=by
 induction l with
 |nil=>intro _ _ x h;cases h
 |
  cons e l ih =>
  intro h hd x hx
  simp only[E.B3,E.u9]at h hd
  cases hx with
  |head=>exact⟨h.1,by omega⟩
  |tail _ hx=>exact ih h.2 (by omega) x hx
theorem yQ:∀(k:Nat) (e:E) (r:List UInt8),e.pr->e.dp<=k->JA r->rd k (e9 e++r)=some (e,r)
 |
  0,.atom s,r,hp,hd,hr=>by
  have h:=AW hp.2 hr
  simp only[e9,rd,h.1,h.2,hp.1,if_false]
 |
  k+1,.atom s,r,hp,hd,hr=>by
  have h:=AW hp.2 hr
  simp only[e9,rd,h.1,h.2,hp.1,if_false]
 |0,.list l,r,hp,hd,hr=>by simp only[E.dp]at hd;omega
 |k+1,.list [],r,hp,hd,hr=>by exact absurd rfl hp.1
 |
  k+1,.list (e::l),r,hp,hd,hr=>by
  have hs:fe 40=false:=by decide
  simp only[E.dp,E.pr]at hd hp
  have hm:=Dk (k:=k) hp.2 (by omega)
  have:=Cj (f:=rd k) r l e [] ((e9 e++(ei l++41::r)).length+1) (by have:=rS l;simp only[aq,aA];omega)
   (fun x hx r hr=>yQ k x r (hm x (by cases hx with|inl h=>rw[h];exact ak|inr h=>exact al _ h)).1 (hm x (by cases hx with|inl h=>rw[h];exact ak|inr h=>exact al _ h)).2 hr)
  simp only[e9,bc,ba,aT]at *
  simp only[rd,List.takeWhile,hs,if_true]
  simpa using this
theorem BY{e e':E}(h:e.pr)(h':e'.pr)(ht:e9 e=e9 e'):e=e':=by
 have a:=yQ (max e.dp e'.dp) e [] h (by omega) uD
 have b:=yQ (max e.dp e'.dp) e' [] h' (by omega) uD
 rw[ht,b]at a;cases a;rfl
theorem HT{e:E}(h:e.pr)(hd:e.dp<=300)(hl:(e9 e).length<=8000):qU (e9 e)=some e:=by
 have:=yQ 300 e [] h hd uD
 rw[cX]at this
 rw[qU,this];simp;omega
theorem Ci(s:List UInt8):(s.takeWhile fe).all fe=true:=by
 induction s with
 |nil=>rfl
 |cons c s ih =>
  cases h:fe c
  ·simp[List.takeWhile,h]
  ·simp only[List.takeWhile,h,cZ,ih];rfl
theorem DY(l r:List E):E.B3 (l++r)↔E.B3 l/\E.B3 r:=by
 induction l with
 |nil=>simp[E.B3]
 |cons e l ih=>simp[E.B3,ih,and_assoc]
theorem D6(l r:List E):E.u9 (l++r)=max (E.u9 l) (E.u9 r):=by
 induction l with
 |nil=>simp[E.u9]
 |cons e l ih=>simp[E.u9,ih,Nat.max_assoc]
theorem yZ{k:Nat}{f:List UInt8->Option (E×List UInt8)}(hf:∀s e r,f s=some (e,r)->s=e9 e++r/\e.pr/\e.dp<=k):∀(n:Nat) (s:List UInt8) (acc:List E) (e:E) (r:List UInt8),sA f n s acc=some (e,r)->E.B3 acc->E.u9 acc<=k ->
 ∃l,e=.list (acc++l)/\l≠[]/\32::s=ei l++41::r/\E.B3 l/\E.u9 l<=k
 |0,s,acc,e,r,h,hp,hd=>by cases h
 |
  n+1,s,acc,e,r,h,hp,hd=>by
  simp only[sA]at h
  split at h
  ·rename_i p c r' hs
   obtain⟨h1,h2,h3⟩:=hf _ _ _ hs
   split at h
   ·rename_i hc
    have hc:c=41:=UInt8.toNat_inj.mp hc
    cases h
    exact⟨[p],rfl,by simp,by simp[ei,h1,hc],⟨h2,trivial⟩,by simp[E.u9];omega⟩
   ·split at h
    ·rename_i hc
     have hc:c=32:=UInt8.toNat_inj.mp hc
     obtain⟨l,g1,g2,g3,g4,g5⟩:=yZ hf n _ _ _ _ h ((DY _ _).mpr ⟨hp,h2,trivial⟩) (by rw[D6];simp[E.u9];omega)
     refine⟨p::l,by simpa using g1,by simp,?_,⟨h2,g4⟩,by simp only[E.u9];omega⟩
     rw[h1,hc,g3];simp[ei]
    ·cases h
  ·cases h
theorem B5:∀(k:Nat) (s:List UInt8) (e:E) (r:List UInt8),rd k s=some (e,r)->s=e9 e++r/\e.pr/\e.dp<=k
 |
  0,s,e,r,h=>by
  simp only[rd]at h
  split at h
  ·cases h
  ·rename_i hs;cases h
   exact⟨(List.takeWhile_append_dropWhile).symm,⟨hs,Ci s⟩,au _⟩
 |
  k+1,s,e,r,h=>by
  simp only[rd]at h
  split at h
  ·split at h
   ·rename_i c r' _
    split at h
    ·rename_i hc
     have hc:c=40:=UInt8.toNat_inj.mp hc
     obtain⟨l,g1,g2,g3,g4,g5⟩:=yZ (k:=k) (fun s e r h=>B5 k s e r h) _ _ _ _ _ h trivial (dO _)
     simp only[aT]at g1
     subst g1;subst hc
     refine⟨?_,⟨g2,g4⟩,by simp only[E.dp];omega⟩
     cases l with
     |nil=>exact absurd rfl g2
     |
      cons x l =>
      simp only[ei,bc,ba,List.cons.injEq,true_and]at g3
      rw[g3];simp[e9]
    ·cases h
   ·cases h
  ·rename_i hs;cases h
   exact⟨(List.takeWhile_append_dropWhile).symm,⟨hs,Ci s⟩,by simp[E.dp]⟩
theorem xO{s:List UInt8}{e:E}(h:qU s=some e):s=e9 e/\e.pr/\e.dp<=300/\s.length<=8000:=by
 unfold qU at h
 split at h
 ·cases h
 ·rename_i hl
  split at h
  ·rename_i e' hr
   cases h
   have:=B5 _ _ _ _ hr
   exact⟨by simpa using this.1,this.2.1,this.2.2,by omega⟩
  ·cases h
theorem Bt{k:Nat}(h:k<10):fe (bj (48+k))=true:=by
 have:∀k:Fin 10,fe (bj (48+k.val))=true:=by decide
 exact this ⟨k,h⟩
theorem w9:∀(n k:Nat),k<n->(dd k).all fe=true
 |0,k,h=>by omega
 |
  n+1,k,h=>by
  by_cases hk:k<10
  ·rw[eH hk,cZ,Bt hk];rfl
  ·rw[fR hk]
   have:=w9 n (k/10) (by omega)
   rw[List.all_append,this,cZ,Bt (Nat.mod_lt k (by omega:0<10))];rfl
theorem Ga(k:Nat):(E.atom (w4 k)).pr:=⟨by simp,by have:=w9 (k+1) k (by omega);simp only[w4,cZ,this];decide⟩
theorem mH:∀v:Vl,v.cL.pr
 | .u=>⟨by simp,by decide⟩
 | .el k=>Ga k
 | .l v=>⟨by simp,⟨by simp,by decide⟩,mH v,trivial⟩
 | .r v=>⟨by simp,⟨by simp,by decide⟩,mH v,trivial⟩
 | .f v=>⟨by simp,⟨by simp,by decide⟩,mH v,trivial⟩
 | .p a b=>⟨by simp,⟨by simp,by decide⟩,mH a,mH b,trivial⟩
theorem pE:∀v:Vl,v.cL.dp<v.nodes+1
 | .u=>by simp[Vl.cL,E.dp,Vl.nodes]
 | .el k=>by simp[Vl.cL,E.dp,Vl.nodes]
 | .l v=>by have:=pE v;simp only[Vl.cL,E.dp,E.u9,Vl.nodes]at *;omega
 | .r v=>by have:=pE v;simp only[Vl.cL,E.dp,E.u9,Vl.nodes]at *;omega
 | .f v=>by have:=pE v;simp only[Vl.cL,E.dp,E.u9,Vl.nodes]at *;omega
 | .p a b=>by have:=pE a;have:=pE b;simp only[Vl.cL,E.dp,E.u9,Vl.nodes]at *;omega
theorem Eo(k:Nat)(h:k<100):(dd k).length<=2:=by
 by_cases hk:k<10
 ·rw[eH hk];simp
 ·rw[fR hk,eH (by omega:k/10<10)];simp
theorem kV:∀v:Vl,v.ig 100->v.cA.length<=5*v.nodes
 | .u,_=>by simp[Vl.cA,Vl.cL,e9,Vl.nodes]
 |
  .el k,h=>by
  have:=Eo k h
  simp only[Vl.cA,Vl.cL,e9,Vl.nodes,aA];omega
 | .l v,h=>by have:=kV v h;simp only[Vl.cA,Vl.cL,e9,ei,Vl.nodes,aA,aq,aG]at this |-;omega
 | .r v,h=>by have:=kV v h;simp only[Vl.cA,Vl.cL,e9,ei,Vl.nodes,aA,aq,aG]at this |-;omega
 | .f v,h=>by have:=kV v h;simp only[Vl.cA,Vl.cL,e9,ei,Vl.nodes,aA,aq,aG]at this |-;omega
 | .p a b,h=>by have:=kV a h.1;have:=kV b h.2;simp only[Vl.cA,Vl.cL,e9,ei,Vl.nodes,aA,aq,aG]at *;omega
theorem F0(k:Nat):w4 k≠[117]:=by simp[w4]
theorem kh:∀v:Vl,v.ig 100->fO v.cL=some v
 | .u,_=>by simp[Vl.cL,fO]
 | .el k,h=>by simp only[Vl.cL,fO,F0,if_false,vf k h]
 | .l v,h=>by simp only[Vl.cL,fO,kh v h,E.at];simp
 | .r v,h=>by simp only[Vl.cL,fO,kh v h,E.at];simp
 | .f v,h=>by simp only[Vl.cL,fO,kh v h,E.at];simp
 | .p a b,h=>by simp only[Vl.cL,fO,kh a h.1,kh b h.2,E.at];simp
theorem qP{v:Vl}(h:v.ig 100)(hn:v.nodes<=200):sw v.cA=some v:=by
 have hd:=pE v
 have hl:=kV v h
 rw[sw,HT (mH v) (by omega) (by show v.cA.length<=8000;omega)]
 simp only[kh v h]
 rw[if_neg (by omega)]
theorem tU{v w:Vl}(h:v.ig 100)(h':w.ig 100)(ht:v.cA=w.cA):v=w:=by
 have:=BY (mH v) (mH w) ht
 have a:=kh v h
 rw[this,kh w h']at a;cases a;rfl
theorem qQ{s:List UInt8}{v:Vl}(h:sw s=some v):s=v.cA:=(xO (lW h).1).1
end Go.Proofs.Trees
namespace Go.Proofs.Trees
open Go Go.VL Go.RowKit
theorem bM(l:List E):(E.list l).at=[]:=rfl
def cW:Ty->Vl->Vl->Vl
 | .plus a _,.l c,v=>.l (cW a c v)
 | .plus _ b,.r c,v=>.r (cW b c v)
 | .times a _,.l (.p x y),v=>.p (cW a x v) y
 | .times _ b,.r (.p x y),v=>.p x (cW b y v)
 | .rc a,.f (.l x),v=>.f (cW a x v)
 | .rc a,.f (.r (.p x y)),v=>.f (cW a x (cW (.rc a) y v))
 |_,_,v=>v
def dK:Ty->Vl->Bool
 | .plus a _,.l c=>dK a c
 | .plus _ b,.r c=>dK b c
 | .times a _,.l (.p x _)=>dK a x
 | .times _ b,.r (.p _ y)=>dK b y
 | .rc a,.f (.l x)=>dK a x
 | .rc a,.f (.r (.p x y))=>dK a x&&dK (.rc a) y
 | .plus _ _,_=>false
 | .times _ _,_=>false
 | .rc _,_=>false
 |_,_=>true
theorem sV(c v:Vl):cW .zero c v=v:=by cases c<;>rfl
theorem wD(c v:Vl):cW .one c v=v:=by cases c<;>rfl
theorem kQ(s:List UInt8)(c v:Vl):cW (.name s) c v=v:=by cases c<;>rfl
theorem sn(u:Nat)(c v:Vl):cW (.bound u) c v=v:=by cases c<;>rfl
theorem v7{a b:Ty}{c:Vl}(h:dK (.plus a b) c=true):(∃x,c=.l x/\dK a x=true)\/∃x,c=.r x/\dK b x=true:=by
 cases c<;>simp[dK]at h<;>simp[h]
theorem s9{a b:Ty}{c:Vl}(h:dK (.times a b) c=true):(∃x y,c=.l (.p x y)/\dK a x=true)\/∃x y,c=.r (.p x y)/\dK b y=true:=by
 cases c with
 |l c=>cases c<;>simp[dK]at h<;>simp[h]
 |r c=>cases c<;>simp[dK]at h<;>exact .inr ⟨_,_,rfl,h⟩
 |_=>simp[dK]at h
theorem Cc{a:Ty}{c:Vl}(h:dK (.rc a) c=true):(∃x,c=.f (.l x)/\dK a x=true)\/∃x y,c=.f (.r (.p x y))/\dK a x=true/\dK (.rc a) y=true:=by
 cases c with
 |
  f c =>
  cases c with
  |l c=>simp[dK]at h;simp[h]
  |r c=>cases c<;>simp[dK]at h<;>exact .inr ⟨_,_,rfl,h⟩
  |_=>simp[dK]at h
 |_=>simp[dK]at h
theorem rk(t:Ty)(c v:Vl):(cW t c v).nodes<=c.nodes+v.nodes:=by
 induction t,c,v using cW.induct<;>simp only[cW,Vl.nodes]at*<;> omega
theorem rr(m:Nat)(t:Ty)(c v:Vl):c.ig m->v.ig m->(cW t c v).ig m:=by
 induction t,c,v using cW.induct with
 |case1 a b c v ih=>exact fun h h'=>ih h h'
 |case2 a b c v ih=>exact fun h h'=>ih h h'
 |case3 a b x y v ih=>exact fun h h'=>⟨ih h.1 h',h.2⟩
 |case4 a b x y v ih=>exact fun h h'=>⟨h.1,ih h.2 h'⟩
 |case5 a x v ih=>exact fun h h'=>ih h h'
 |case6 a x y v ih1 ih2=>exact fun h h'=>ih2 h.1 (ih1 h.2 h')
 |case7=>intro h h';simpa only[cW]using h'
def IN:Hl:=(.u,.u)
end Go.Proofs.Trees
namespace Go.Proofs.Trees
open Go Go.VL Go.RowKit
theorem n7(s:Nm)(a b:E):an Tryz.prog 86 [.agg [.v (.string (mk [])),(E.list [.atom s,a,b]).sp]] [] (bK (.v (.string (mk s)))):=vd (.atom s) [a,b]
theorem DW{e:E}(h:Wf e):∀(bd l:List Nm) (a:AV),ct a bd->bd.length+l.length+e.sz<100000->an Tryz.prog 84 [.agg [.v (.string (mk e.at)),e.sp],a,.vec 0] [.vec 1 (bJ l)] (df (.vec 1) [.dead,.vec 1 (bJ (kp e bd l))]):=by
 induction h with
 |
  @atom s hs =>
  intro bd l a ha hl
  simp only[E.sz]at hl
  refine zX _ _ _ _ ((aX _).mpr trivial) ha.1 ?_
  have hll:(bJ l).length=l.length:=by simp[bJ]
  simp only[xz,dR,↓zq,zs,ae,zt,df,kp]
  refine⟨fun _=>⟨fun h=>?_,fun h=>⟨fun h1=>?_,fun h1=>?_⟩⟩,fun h=>absurd h hs⟩
  ·rw[if_pos (.inl h)]
  ·rw[if_pos (.inr (.inl h1))]
  ·refine ai (FQ bd a ha s (by omega)) ?_
   simp only[↓zq,zs,ae]
   refine⟨fun h2=>?_,fun h2=>ai (FQ l _ (.of l) s (by omega)) ?_⟩
   ·rw[if_pos (.inr (.inr (.inl h2)))]
   ·simp only[↓zq,zs,ae]
    refine⟨fun h3=>?_,fun h3=>⟨⟨fun c hc=>(by simp at hc;rw[hc];rfl),by omega⟩,?_⟩⟩
    ·rw[if_pos (.inr (.inr (.inr h3)))]
    ·rw[EU,if_neg]
     rintro(q|q|q|q)
     ·exact h q
     ·exact h1 q
     ·exact h2 q
     ·exact h3 q
 |
  @plus x y hx hy i1 i2 =>
  intro bd l a ha hl
  simp only[E.sz,E.jr]at hl
  have hfl:=fY x bd l
  refine zX _ _ _ _ ((aX _).mpr trivial) ha.1 ?_
  have hP:=P3.of (.atom [43]) x y
  simp only[xz,bM,toNat_one,bg,↓zq,zs,ae,zt,hP.1,hP.2.1,hP.2.2.1,hP.2.2.2,aL,df]
  refine⟨fun h=>absurd rfl h,fun _=>?_⟩
  refine ai (n7 [43] x y) ?_
  simp only[↓zq,zs,ae,zt]
  refine⟨fun h=>by simp at h,fun _=>?_⟩
  repeat refine⟨by omega,?_⟩
  refine aV (i1 bd l a ha (by omega)) ?_
  simp only[↓zq,zs,ae,zt,aO,bz,Ob.es]
  repeat refine⟨by omega,?_⟩
  refine aV (i2 bd (kp x bd l) a ha (by omega)) ?_
  simp only[↓zq,zs,ae,zt,aO,bz,Ob.es]
  rw[kp,if_neg (by decide)]
 |
  @times x y hx hy i1 i2 =>
  intro bd l a ha hl
  simp only[E.sz,E.jr]at hl
  have hfl:=fY x bd l
  refine zX _ _ _ _ ((aX _).mpr trivial) ha.1 ?_
  have hP:=P3.of (.atom [42]) x y
  simp only[xz,bM,toNat_one,bg,↓zq,zs,ae,zt,hP.1,hP.2.1,hP.2.2.1,hP.2.2.2,aL,df]
  refine⟨fun h=>absurd rfl h,fun _=>?_⟩
  refine ai (n7 [42] x y) ?_
  simp only[↓zq,zs,ae,zt]
  refine⟨fun h=>by simp at h,fun _=>?_⟩
  repeat refine⟨by omega,?_⟩
  refine aV (i1 bd l a ha (by omega)) ?_
  simp only[↓zq,zs,ae,zt,aO,bz,Ob.es]
  repeat refine⟨by omega,?_⟩
  refine aV (i2 bd (kp x bd l) a ha (by omega)) ?_
  simp only[↓zq,zs,ae,zt,aO,bz,Ob.es]
  rw[kp,if_neg (by decide)]
 |
  @rc n y hn hy i =>
  intro bd l a ha hl
  simp only[E.sz,E.jr]at hl
  refine zX _ _ _ _ ((aX _).mpr trivial) ha.1 ?_
  have hP:=P3.of (.atom dE) (.atom n) y
  simp only[xz,bM,toNat_one,bg,↓zq,zs,ae,zt,hP.1,hP.2.1,hP.2.2.1,hP.2.2.2,aL,df]
  refine⟨fun h=>absurd rfl h,fun _=>?_⟩
  refine ai (n7 dE (.atom n) y) ?_
  simp only[↓zq,zs,ae,zt]
  refine⟨fun _=>?_,fun h=>absurd rfl h⟩
  repeat refine⟨by omega,?_⟩
  refine aV (Fi bd a ha n (by omega)) ?_
  simp only[↓zq,zs,ae,Ob.es,aO]
  refine⟨dU _,?_⟩
  refine aV (i (bd++[n]) l _ (.of _) (by simp;omega)) ?_
  simp only[↓zq,zs,ae,aO,bz,Ob.es]
  rw[kp,if_pos (dR _)];rfl
theorem PG(x:Nm)(u:E){e:E}(h:Wf e):an Tryz.prog 146 [.agg [.v (.string (mk e.at)),e.sp],.v (.string (mk x)),.agg [.v (.string (mk u.at)),u.sp]] [] (bK (.agg [.v (.string (mk (rj x u e).at)),(rj x u e).sp])):=by
 induction h with
 |
  @atom s hs =>
  refine Eh _ _ _ _ _ ((aX _).mpr trivial) ((aX _).mpr trivial) ?_
  simp only[Ch,dR,↓zq,zs,ae,zt,bK,rj]
  refine⟨fun _=>⟨fun h=>?_,fun h=>?_⟩,fun h=>absurd h hs⟩
  ·rw[if_pos h]
  ·rw[if_neg h];rfl
 |
  @plus a b ha hb i1 i2 =>
  refine Eh _ _ _ _ _ ((aX _).mpr trivial) ((aX _).mpr trivial) ?_
  have hP:=P3.of (.atom [43]) a b
  simp only[Ch,bM,toNat_one,bg,↓zq,zs,ae,zt,hP.1,hP.2.1,hP.2.2.1,hP.2.2.2,aL]
  refine⟨fun h=>absurd rfl h,fun _=>?_⟩
  refine ai (n7 [43] a b) ?_
  simp only[↓zq,zs,ae,zt]
  refine⟨fun h=>by simp at h,fun _=>?_⟩
  refine ai (n7 [43] a b) ?_
  simp only[↓zq,zs,ae,zt]
  repeat refine⟨by omega,?_⟩
  refine ai i1 ?_
  simp only[↓zq,zs,ae,zt,aL]
  repeat refine⟨by omega,?_⟩
  refine ai i2 ?_
  simp only[↓zq,zs,ae,zt,aL]
  repeat refine⟨by omega,?_⟩
  refine ai (w7 _ _ _) ?_
  simp only[↓zq,zs,ae,zt,aL,wA,bM]
  repeat refine⟨by omega,?_⟩
  exact⟨rfl,rfl⟩
 |
  @times a b ha hb i1 i2 =>
  refine Eh _ _ _ _ _ ((aX _).mpr trivial) ((aX _).mpr trivial) ?_
  have hP:=P3.of (.atom [42]) a b
  simp only[Ch,bM,toNat_one,bg,↓zq,zs,ae,zt,hP.1,hP.2.1,hP.2.2.1,hP.2.2.2,aL]
  refine⟨fun h=>absurd rfl h,fun _=>?_⟩
  refine ai (n7 [42] a b) ?_
  simp only[↓zq,zs,ae,zt]
  refine⟨fun h=>by simp at h,fun _=>?_⟩
  refine ai (n7 [42] a b) ?_
  simp only[↓zq,zs,ae,zt]
  repeat refine⟨by omega,?_⟩
  refine ai i1 ?_
  simp only[↓zq,zs,ae,zt,aL]
  repeat refine⟨by omega,?_⟩
  refine ai i2 ?_
  simp only[↓zq,zs,ae,zt,aL]
  repeat refine⟨by omega,?_⟩
  refine ai (w7 _ _ _) ?_
  simp only[↓zq,zs,ae,zt,aL,tq,bM]
  repeat refine⟨by omega,?_⟩
  exact⟨rfl,rfl⟩
 |
  @rc n b hn hb i =>
  refine Eh _ _ _ _ _ ((aX _).mpr trivial) ((aX _).mpr trivial) ?_
  have hP:=P3.of (.atom dE) (.atom n) b
  simp only[Ch,bM,toNat_one,bg,↓zq,zs,ae,zt,hP.1,hP.2.1,hP.2.2.1,hP.2.2.2,aL]
  refine⟨fun h=>absurd rfl h,fun _=>?_⟩
  refine ai (n7 dE (.atom n) b) ?_
  simp only[↓zq,zs,ae,zt]
  refine⟨fun _=>?_,fun h=>absurd rfl h⟩
  repeat refine⟨by omega,?_⟩
  rw[A0]
  refine⟨fun h=>?_,fun h=>?_⟩
  ·have hh:n=x:=h
   rw[if_pos hh];exact⟨rfl,rfl⟩
  ·have hh:¬n=x:=h
   rw[if_neg hh]
   repeat refine⟨by omega,?_⟩
   refine ai i ?_
   simp only[↓zq,zs,ae,zt,aL]
   repeat refine⟨by omega,?_⟩
   refine ai (w7 dE (.atom n) (rj x u b)) ?_
   simp only[↓zq,zs,ae,zt,aL,bM]
   repeat refine⟨by omega,?_⟩
   exact⟨rfl,rfl⟩
theorem rz(x:Nm){e:E}(h:Wf e):m8 x e<=e.db:=by
 induction h with
 |atom hs=>simp only[m8,E.db];split<;>omega
 |plus ha hb i1 i2=>rw[si];simp only[E.db,E.eY];omega
 |times ha hb i1 i2=>rw[pS];simp only[E.db,E.eY];omega
 |rc hn hb i=>rw[xk];simp only[E.db,E.eY];split<;>omega
theorem Sm(x:Nm){e:E}(h:Wf e):e.db<1000000->an Tryz.prog 145 [.agg [.v (.string (mk e.at)),e.sp],.v (.string (mk x))] [] (bK (.v (.int .i64 (m8 x e:Int)))):=by
 induction h with
 |
  @atom s hs =>
  intro hl
  refine DZ _ _ _ ((aX _).mpr trivial) ?_
  simp only[AH,dR,↓zq,zs,ae,zt,bK,m8]
  refine⟨fun _=>⟨fun h=>?_,fun h=>?_⟩,fun h=>absurd h hs⟩
  ·rw[if_pos h];rfl
  ·rw[if_neg h];rfl
 |
  @plus a b ha hb i1 i2 =>
  intro hl
  simp only[E.db,E.eY]at hl
  have u1:=rz x ha
  have u2:=rz x hb
  refine DZ _ _ _ ((aX _).mpr trivial) ?_
  have hP:=P3.of (.atom [43]) a b
  simp only[AH,bM,toNat_one,bg,↓zq,zs,ae,zt,hP.1,hP.2.1,hP.2.2.1,hP.2.2.2,aL]
  refine⟨fun h=>absurd rfl h,fun _=>?_⟩
  refine ai (n7 [43] a b) ?_
  simp only[↓zq,zs,ae,zt]
  refine⟨fun h=>by simp at h,fun _=>?_⟩
  repeat refine⟨by omega,?_⟩
  refine ai (i1 (by omega)) ?_
  simp only[↓zq,zs,ae,zt]
  repeat refine⟨by omega,?_⟩
  refine ai (i2 (by omega)) ?_
  simp only[↓zq,zs,ae,zt]
  rw[si,wrap64 _ (by omega) (by omega)]
  exact⟨by simp,rfl⟩
 |
  @times a b ha hb i1 i2 =>
  intro hl
  simp only[E.db,E.eY]at hl
  have u1:=rz x ha
  have u2:=rz x hb
  refine DZ _ _ _ ((aX _).mpr trivial) ?_
  have hP:=P3.of (.atom [42]) a b
  simp only[AH,bM,toNat_one,bg,↓zq,zs,ae,zt,hP.1,hP.2.1,hP.2.2.1,hP.2.2.2,aL]
  refine⟨fun h=>absurd rfl h,fun _=>?_⟩
  refine ai (n7 [42] a b) ?_
  simp only[↓zq,zs,ae,zt]
  refine⟨fun h=>by simp at h,fun _=>?_⟩
  repeat refine⟨by omega,?_⟩
  refine ai (i1 (by omega)) ?_
  simp only[↓zq,zs,ae,zt]
  repeat refine⟨by omega,?_⟩
  refine ai (i2 (by omega)) ?_
  simp only[↓zq,zs,ae,zt]
  rw[pS,wrap64 _ (by omega) (by omega)]
  exact⟨by simp,rfl⟩
 |
  @rc n b hn hb i =>
  intro hl
  simp only[E.db,E.eY]at hl
  refine DZ _ _ _ ((aX _).mpr trivial) ?_
  have hP:=P3.of (.atom dE) (.atom n) b
  simp only[AH,bM,toNat_one,bg,↓zq,zs,ae,zt,hP.1,hP.2.1,hP.2.2.1,hP.2.2.2,aL]
  refine⟨fun h=>absurd rfl h,fun _=>?_⟩
  refine ai (n7 dE (.atom n) b) ?_
  simp only[↓zq,zs,ae,zt]
  refine⟨fun _=>?_,fun h=>absurd rfl h⟩
  repeat refine⟨by omega,?_⟩
  rw[xk]
  refine⟨fun h=>?_,fun h=>?_⟩
  ·have hh:n=x:=h
   rw[if_pos hh];exact⟨rfl,rfl⟩
  ·have hh:¬n=x:=h
   rw[if_neg hh]
   repeat refine⟨by omega,?_⟩
   refine ai (i (by omega)) ?_
   simp only[↓zq,zs,ae,zt]
   exact⟨rfl,rfl⟩
theorem MW{x:Nm}(hx:qO x){e u:E}(h:Wf e)(hu:Wf u)(hl:e.db<=1000)(hlu:u.db<=1000):an Tryz.prog 120 [.agg [.v (.string (mk e.at)),e.sp],.v (.string (mk x)),.agg [.v (.string (mk u.at)),u.sp]] [] (bK (.v (.bool (decide ((sub x (cR u []) (cR e [])).atoms<=400))))):=by
 refine P4 _ _ _ _ _ ((aX _).mpr trivial) ((aX _).mpr trivial) ?_
 unfold OZ
 have a1:=Ep e h.ok (by have:=h.sz;omega)
 have a2:=Ep u hu.ok (by have:=hu.sz;omega)
 rw[dj]at a1 a2
 have hle:=rz x h
 have hpos:1<=u.db:=by rw[hu.db []];exact ej _
 refine ai a1 ?_
 simp only[↓zq,zs,ae,zt]
 refine ai (Sm x h (by omega)) ?_
 simp only[↓zq,zs,ae,zt]
 refine ai a2 ?_
 simp only[↓zq,zs,ae,zt]
 have e1:=dV x (cR u []) (cR e [])
 have e2:=EB hx h []
 rw[if_neg (by simp)]at e2
 rw[e2,<-h.db [],<-hu.db []]at e1
 have hm:m8 x e*(u.db-1)<=1000*1000:=Nat.mul_le_mul (by omega) (by omega)
 have e3:(m8 x e:Int)*((u.db:Int)-1)=((m8 x e*(u.db-1):Nat):Int):=by
  rw[Int.natCast_mul];congr 1;omega
 have e4:m8 x e*(u.db-1)+m8 x e=m8 x e*u.db:=by
  rw[Nat.mul_sub,dG]
  have:=Nat.le_mul_of_pos_right (m8 x e) hpos
  omega
 rw[wrap64 ((u.db:Int)-1) (by omega) (by omega),e3,wrap64 ((m8 x e*(u.db-1):Nat):Int) (by omega) (by omega),wrap64 _ (by omega) (by omega)]
 refine⟨?_,rfl⟩
 congr 2
 rw[cy,decide_eq_true_eq,decide_eq_true_eq]
 omega
end Go.Proofs.Trees
namespace Go.Proofs.Trees
open Go Go.VL Go.RowKit
abbrev yz:AV:=.v (.slice none 0 0)
abbrev zE:Ob:=.cells [.v (.string (mk [])),yz]
theorem Mp(s:Nm)(p a b:AV)(hp:LK.sl.has p)(F fr to:List Nm)(k:Int)(ha:ct a fr)(hb:ct b to)(hft:fr.length=to.length)(hl:fr.length<1000000):∀(i:Nat),i<=fr.length ->
 Im [a,b,.v (.int .i64 ((i:Int)-1))] [.cells [.v (.string (mk s)),p],zE,.cells [.any,.v (.int .i64 k)],.vec 1 (bJ F)]
  (oq (match bQ s fr i with|some u=>(2,[],[.cells [.v (.string (mk (gj to u))),yz],.cells [.any,.v (.int .i64 k)],.vec 1 (bJ F)])|none=>(1,[],[.cells [.v (.string (mk s)),p],zE,.cells [.any,.v (.int .i64 k)],.vec 1 (bJ F)])))
 |
  0,hi=>by
  refine Js _ _ _ _ _ _ _ _ _ ?_
  simp only[FD,↓zq,zs,ae,ae,hp,bh]
  exact⟨ha.1,hb.1,fun h=>by omega,fun _=>rfl⟩
 |
  i+1,hi=>by
  have hlt:i<fr.length:=by omega
  have hlt':i<to.length:=by omega
  have e1:((i+1:Nat):Int)-1=(i:Int):=by omega
  rw[e1]
  refine Js _ _ _ _ _ _ _ _ _ ?_
  simp only[FD,↓zq,zs,ae,zt,ae,hp,bh,ha.len,hb.len,ha.idx hlt,hb.idx hlt',bH]
  refine⟨ha.1,hb.1,fun _=>⟨⟨ha.1,by omega,by omega⟩,by omega,fun h=>?_,fun h=>?_⟩,fun h=>by omega⟩
  ·refine⟨⟨hb.1,by omega,by omega⟩,by omega,?_⟩
   have hh:fr.getD i []=s:=h
   simp only[bQ,hh,if_true,oq]
   have:gj to (fr.length-1-i)=to.getD i []:=by unfold gj;congr 1;omega
   rw[this]
  ·have hh:¬fr.getD i []=s:=h
   simp only[bQ,hh,if_false]
   rw[wrap64 _ (by omega) (by omega)]
   exact Mp s p a b hp F fr to k ha hb hft hl i (by omega)
theorem No(a b:AV)(ha:LK.sl.has a)(hb:LK.sl.has b)(F:List Nm)(hF:F.length<100000)(t:ByteArray)(p:AV)(hp:LK.sl.has p):∀(n j:Nat),qo F n j<j+n->j+n<100000000 ->
 GR [a,b,.v (.string (mk (tN j)))] [.cells [.any,.v (.int .i64 (j:Int))],.vec 1 (bJ F),.cells [.v (.string t),p],zE] (gV 1 [a,b,.v (.string (mk (tN (qo F n j))))] [.cells [.any,.v (.int .i64 (qo F n j:Int))],.vec 1 (bJ F),.cells [.v (.string t),p],zE])
 |0,j,h,_=>by simp only[qo]at h;omega
 |
  n+1,j,h,hj=>by
  refine QH _ _ _ _ _ _ _ _ _ ?_
  simp only[L9,↓zq,zs,ae,zt,ae,hp,bh]
  refine⟨ha,hb,?_⟩
  refine ai (FQ F _ (.of F) (tN j) (by omega)) ?_
  simp only[↓zq,zs,ae,zt]
  rw[qo]at h |-
  refine⟨fun hm=>?_,fun hm=>?_⟩
  ·rw[if_pos hm]at h |-
   rw[bA j (by omega)]
   refine ai (zo (j+2) (j+1) (by omega) (by omega)) ?_
   have hd:=mB (j+2) (j+1) (by omega)
   simp only[↓zq,zs,ae,zt,bc,aT]
   refine⟨by simp[cM];omega,?_⟩
   exact No a b ha hb F hF t p hp n (j+1) (by omega) (by omega)
  ·rw[if_neg hm]
   exact⟨rfl,rfl,rfl⟩
theorem iu(F:List Nm):∀(t:Ty) (to:List Nm) (k:Nat),k<=(gY F t to k).2/\(gY F t to k).2<=k+(F.length+1)*t.atoms
 | .zero,_,k=>⟨au _,da _ _⟩
 | .one,_,k=>⟨au _,da _ _⟩
 | .name _,_,k=>⟨au _,da _ _⟩
 | .bound _,_,k=>⟨au _,da _ _⟩
 |
  .plus a b,to,k=>by
  have h1:=iu F a to k
  have h2:=iu F b to (gY F a to k).2
  simp only[gY,Ty.atoms]
  have:(F.length+1)*(1+a.atoms+b.atoms)=(F.length+1)+(F.length+1)*a.atoms+(F.length+1)*b.atoms:=by simp only[cT,dG]
  omega
 |
  .times a b,to,k=>by
  have h1:=iu F a to k
  have h2:=iu F b to (gY F a to k).2
  simp only[gY,Ty.atoms]
  have:(F.length+1)*(1+a.atoms+b.atoms)=(F.length+1)+(F.length+1)*a.atoms+(F.length+1)*b.atoms:=by simp only[cT,dG]
  omega
 |
  .rc a,to,k=>by
  obtain⟨g1,g2,_,_⟩:=gA F k
  have h1:=iu F a (to++[tN (nx F k)]) (nx F k+1)
  simp only[gY,Ty.atoms]
  have:(F.length+1)*(2+a.atoms)=(F.length+1)*2+(F.length+1)*a.atoms:=by simp only[cT]
  omega
theorem kf(l:List Nm):(bJ l).length=l.length:=by simp[bJ]
theorem R1(F:List Nm)(hF:F.length<10000){e:E}(h:Wf e):∀(fr to:List Nm) (a b:AV) (k:Nat),ct a fr->ct b to->fr.length=to.length->(∀w,w∈fr->qO w)->fr.length+e.sz<10000->k+(F.length+1)*(cR e fr).atoms<99000000 ->
 an Tryz.prog 91 [.agg [.v (.string (mk e.at)),e.sp],a,b,.ref 0 0] [.cells [.vec 1,.v (.int .i64 (k:Int))],.vec 1 (bJ F)] (df (.agg [.v (.string (mk (gY F (cR e fr) to k).1.at)),(gY F (cR e fr) to k).1.sp]) [.cells [.vec 1,.v (.int .i64 ((gY F (cR e fr) to k).2:Int))],.vec 1 (bJ F)]):=by
 induction h with
 |
  @atom s hs =>
  intro fr to a b k ha hb hft hfr hl hk
  simp only[E.sz]at hl
  refine DQ _ _ _ _ _ _ ((aX _).mpr trivial) ha.1 hb.1 ?_
  have hz:∀c,(c=[48]\/c=[49])->bQ c fr fr.length=none:=fun c hc=>(fw c fr).2 fun hm=>by
   obtain⟨h1,h2,h3⟩:=hfr c hm
   rcases hc with rfl|rfl
   ·exact h2 rfl
   ·exact h3 rfl
  have hq:gY F (cR (.atom s) fr) to k=(match bQ s fr fr.length with|some u=>.atom (gj to u)|none=>.atom s,k):=by
   simp only[cR]
   by_cases h0:s=[48]
   ·rw[if_pos h0,hz s (.inl h0),h0];rfl
   ·rw[if_neg h0]
    by_cases h1:s=[49]
    ·rw[if_pos h1,hz s (.inr h1),h1];rfl
    ·rw[if_neg h1]
     cases bQ s fr fr.length<;>rfl
  simp only[Cg,dR,↓zq,zs,ae,zt]
  refine⟨fun _=>⟨ha.1,?_⟩,fun h=>absurd h hs⟩
  rw[ha.len,wrap64 _ (by omega) (by omega)]
  refine fE (Mp s _ a b ((aX _).mpr trivial) F fr to (k:Int) ha hb hft (by omega) fr.length (au _)) (fun ys o e=>?_) (fun ys o e=>?_)
  ·rw[hq]
   cases q:bQ s fr fr.length<;>rw[q]at e<;>cases e
   simp only[↓zq,zs,ae,zt,ae,aJ,bh,aX]
   exact⟨rfl,rfl⟩
  ·rw[hq]
   cases q:bQ s fr fr.length<;>rw[q]at e<;>cases e
   simp only[↓zq,zs,ae,zt,ae,aJ,bh]
   exact⟨rfl,rfl⟩
 |
  @plus x y hx hy i1 i2 =>
  intro fr to a b k ha hb hft hfr hl hk
  simp only[E.sz,E.jr]at hl
  rw[dJ]at hk |-
  simp only[Ty.atoms]at hk
  have hm:(F.length+1)*(1+(cR x fr).atoms+(cR y fr).atoms)=(F.length+1)+(F.length+1)*(cR x fr).atoms+(F.length+1)*(cR y fr).atoms:=by simp only[cT,dG]
  have hc:=iu F (cR x fr) to k
  refine DQ _ _ _ _ _ _ ((aX _).mpr trivial) ha.1 hb.1 ?_
  have hP:=P3.of (.atom [43]) x y
  simp only[Cg,bM,toNat_one,bg,↓zq,zs,ae,zt,hP.1,hP.2.1,hP.2.2.1,hP.2.2.2,aL]
  refine⟨fun h=>absurd rfl h,fun _=>?_⟩
  refine ai (n7 [43] x y) ?_
  simp only[↓zq,zs,ae,zt]
  refine⟨fun h=>by simp at h,fun _=>?_⟩
  repeat refine⟨by omega,?_⟩
  refine aV (i1 fr to a b k ha hb hft hfr (by omega) (by omega)) ?_
  simp only[↓zq,zs,ae,zt,aJ,aL,aO,bz,Ob.es]
  repeat refine⟨by omega,?_⟩
  refine ai (n7 [43] x y) ?_
  simp only[↓zq,zs,ae,zt]
  repeat refine⟨by omega,?_⟩
  refine aV (i2 fr to a b _ ha hb hft hfr (by omega) (by omega)) ?_
  simp only[↓zq,zs,ae,zt,aJ,aL,aO,bz,Ob.es]
  repeat refine⟨by omega,?_⟩
  refine ai (w7 _ _ _) ?_
  simp only[↓zq,zs,ae,zt,aL,bM]
  repeat refine⟨by omega,?_⟩
  exact⟨rfl,rfl⟩
 |
  @times x y hx hy i1 i2 =>
  intro fr to a b k ha hb hft hfr hl hk
  simp only[E.sz,E.jr]at hl
  rw[dr]at hk |-
  simp only[Ty.atoms]at hk
  have hm:(F.length+1)*(1+(cR x fr).atoms+(cR y fr).atoms)=(F.length+1)+(F.length+1)*(cR x fr).atoms+(F.length+1)*(cR y fr).atoms:=by simp only[cT,dG]
  have hc:=iu F (cR x fr) to k
  refine DQ _ _ _ _ _ _ ((aX _).mpr trivial) ha.1 hb.1 ?_
  have hP:=P3.of (.atom [42]) x y
  simp only[Cg,bM,toNat_one,bg,↓zq,zs,ae,zt,hP.1,hP.2.1,hP.2.2.1,hP.2.2.2,aL]
  refine⟨fun h=>absurd rfl h,fun _=>?_⟩
  refine ai (n7 [42] x y) ?_
  simp only[↓zq,zs,ae,zt]
  refine⟨fun h=>by simp at h,fun _=>?_⟩
  repeat refine⟨by omega,?_⟩
  refine aV (i1 fr to a b k ha hb hft hfr (by omega) (by omega)) ?_
  simp only[↓zq,zs,ae,zt,aJ,aL,aO,bz,Ob.es]
  repeat refine⟨by omega,?_⟩
  refine ai (n7 [42] x y) ?_
  simp only[↓zq,zs,ae,zt]
  repeat refine⟨by omega,?_⟩
  refine aV (i2 fr to a b _ ha hb hft hfr (by omega) (by omega)) ?_
  simp only[↓zq,zs,ae,zt,aJ,aL,aO,bz,Ob.es]
  repeat refine⟨by omega,?_⟩
  refine ai (w7 _ _ _) ?_
  simp only[↓zq,zs,ae,zt,aL,bM]
  repeat refine⟨by omega,?_⟩
  exact⟨rfl,rfl⟩
 |
  @rc n y hn hy i =>
  intro fr to a b k ha hb hft hfr hl hk
  simp only[E.sz,E.jr]at hl
  rw[ff]at hk |-
  simp only[Ty.atoms,dR]at hk
  have hm:(F.length+1)*(2+(cR y (fr++[n])).atoms)=(F.length+1)*2+(F.length+1)*(cR y (fr++[n])).atoms:=by simp only[cT]
  have hc:=iu F (cR y (fr++[n])) (to++[tN (nx F k)]) (nx F k+1)
  obtain⟨g1,g2,_,_⟩:=gA F k
  refine DQ _ _ _ _ _ _ ((aX _).mpr trivial) ha.1 hb.1 ?_
  have hP:=P3.of (.atom dE) (.atom n) y
  simp only[Cg,bM,toNat_one,bg,↓zq,zs,ae,zt,hP.1,hP.2.1,hP.2.2.1,hP.2.2.2,aL]
  refine⟨fun h=>absurd rfl h,fun _=>?_⟩
  refine ai (n7 dE (.atom n) y) ?_
  simp only[↓zq,zs,ae,zt]
  refine⟨fun _=>?_,fun h=>absurd rfl h⟩
  refine ai (zo (k+1) k (by omega) (by omega)) ?_
  have hd:=mB (k+1) k (by omega)
  simp only[↓zq,zs,ae,zt,bc,aT]
  refine⟨by simp[cM];omega,?_⟩
  refine cz (No a b ha.1 hb.1 F (by omega) (mk []) _ ((aX _).mpr trivial) (F.length+1) k (by show nx F k<_;omega) (by omega)) ?_
  simp only[↓zq,zs,ae,zt,ae,aJ,bh,aX,ha.1,hb.1,hP.1,hP.2.1,hP.2.2.1,hP.2.2.2,toNat_one,bg,aL]
  repeat refine⟨by omega,?_⟩
  have hnx:qo F (F.length+1) k=nx F k:=rfl
  rw[hnx]
  refine aV (Fi fr a ha n (by omega)) ?_
  simp only[↓zq,zs,ae,zt,Ob.es,aO]
  refine⟨dU _,?_⟩
  refine aV (Fi to b hb (tN (nx F k)) (by omega)) ?_
  simp only[↓zq,zs,ae,zt,Ob.es,aO]
  refine⟨dU _,?_⟩
  rw[bA (nx F k) (by omega)]
  have hmk:=w7 dE (.atom (tN (nx F k))) (gY F (cR y (fr++[n])) (to++[tN (nx F k)]) (nx F k+1)).1
  simp only[dR]at hmk
  refine aV (i (fr++[n]) (to++[tN (nx F k)]) _ _ (nx F k+1) (.of _) (.of _) (by simp[hft]) (fun w hw=>by
   rcases aN.1 hw with hw|hw
   ·exact hfr w hw
   ·simp only[aR]at hw;rw[hw];exact hn) (by simp;omega) (by omega)) ?_
  simp only[↓zq,zs,ae,zt,aJ,aL,aO,bz,Ob.es]
  repeat refine⟨by omega,?_⟩
  refine ai hmk ?_
  simp only[↓zq,zs,ae,zt,aL,bM]
  repeat refine⟨by omega,?_⟩
  exact⟨rfl,rfl⟩
theorem wO(l r:List Nm):bJ (l++r)=bJ l++bJ r:=by simp[bJ]
def rM(os:List E):List Nm:=os.flatMap fun o=>kp o [] []
theorem vF{os:List E}{i:Nat}(h:i<os.length):(E.bw os).getD i []=[.v (.string (mk (os[i]).at)),(os[i]).sp]:=by
 have:∀(os:List E) (i:Nat) (h:i<os.length),(E.bw os).getD i []=(os[i]).im:=by
  intro os
  induction os with
  |nil=>intro i h;simp at h
  |
   cons o os ih =>
   intro i h
   cases i with
   |zero=>simp[E.bw]
   |succ i=>simpa[E.bw]using ih i (by simpa using h)
 rw[this os i h,fM]
theorem zn(os:List E){i:Nat}(h:i<os.length):rM (os.drop i)=kp (os[i]) [] []++rM (os.drop (i+1)):=by
 unfold rM;rw[aU h,List.flatMap_cons]
theorem Ke(a:AV)(os:List E)(ha:LK.sl.has a/\a.elems=E.bw os)(ho:∀o,o∈os->Wf o/\o.sz<5000)(hl:os.length<100)(t:ByteArray)(p:AV)(hp:LK.sl.has p):∀(k i:Nat) (F:List Nm),i+k=os.length->F.length<=5000+5000*i ->
 FB [a,.v (.int .i64 (i:Int))] [.cells [.v (.string t),p],zE,.vec 1 (bJ F)] (gV 1 [] [.cells [.v (.string t),p],zE,.vec 1 (bJ (F++rM (os.drop i)))])
 |
  0,i,F,hi,hF=>by
  refine I0 _ _ _ _ _ _ _ ?_
  have:i=os.length:=by omega
  subst this
  simp only[Fp,↓zq,zs,ae,zt,ae,hp,bh,ha.1,ha.2,eg,List.drop_length]
  exact⟨fun h=>by omega,fun _=>by simp[gV,rM]⟩
 |
  k+1,i,F,hi,hF=>by
  have hlt:i<os.length:=by omega
  obtain⟨hw,hsz⟩:=ho _ (bD hlt)
  have hfl:=fY (os[i]) [] []
  refine I0 _ _ _ _ _ _ _ ?_
  simp only[Fp,↓zq,zs,ae,zt,ae,hp,bh,ha.1,ha.2,eg,vF hlt,aL,bH]
  refine⟨fun _=>?_,fun h=>by omega⟩
  repeat refine⟨by omega,?_⟩
  have hfre:=DW hw [] [] (.sl []) (.of []) (by simp;omega)
  refine aV hfre ?_
  simp only[↓zq,zs,ae,zt,aO,bz,Ob.es,kf,<-wO]
  rw[bA i (by omega),zn os hlt,<-ba]
  simp only[aG,aW]at hfl
  refine⟨⟨ki _,by omega⟩,?_⟩
  exact Ke a os ha ho hl t p hp k (i+1) _ (by omega) (by simp;omega)
def AA(e:E)(os:List E):List Nm:=kp e [] []++rM os
def zM(e:E)(os:List E):E:=(gY (AA e os) (cR e []) [] 0).1
theorem Dz{e:E}{os:List E}(h:e.sz<=2000)(ho:∀o,o∈os->Wf o/\o.sz<=2000)(hl:os.length<=2):(AA e os).length<=6000:=by
 have h1:=fY e [] []
 have h2:∀(l:List E),(∀o,o∈l->o.sz<=2000)->(rM l).length<=2000*l.length:=by
  intro l
  induction l with
  |nil=>intro _;simp[rM]
  |
   cons o l ih =>
   intro hl
   have:=ih fun q hq=>hl q (al _ hq)
   have:=hl o ak
   have:=fY o [] []
   simp only[rM,List.flatMap_cons,aq,aA,aG]at *
   omega
 have:=h2 os fun o ho'=>(ho o ho').2
 simp only[AA,aq,aG]at *
 omega
theorem D8{e:E}(h:Wf e)(a:AV)(os:List E)(ha:LK.sl.has a/\a.elems=E.bw os)(he:e.sz<=2000)(ho:∀o,o∈os->Wf o/\o.sz<=2000)(hl:os.length<=2) :
 an Tryz.prog 65 [.agg [.v (.string (mk e.at)),e.sp],a] [] (bK (.agg [.v (.string (mk (zM e os).at)),(zM e os).sp])):=by
 refine Qs _ _ _ ((aX _).mpr trivial) ha.1 ?_
 unfold Jw
 have hfl:=fY e [] []
 simp only[aG,aW]at hfl
 have hap:=Dz he ho hl
 have hats:(cR e []).atoms<=2000:=by
  rw[<-h.db []]
  have:e.db<=e.sz:=by
   clear hap hfl ha he ho hl
   induction h with
   |atom _=>simp[E.db,E.sz]
   |plus _ _ i1 i2=>simp only[E.db,E.eY,E.sz,E.jr];omega
   |times _ _ i1 i2=>simp only[E.db,E.eY,E.sz,E.jr];omega
   |rc _ _ i=>simp only[E.db,E.eY,E.sz,E.jr];omega
  omega
 have hfre:=DW h [] [] (.sl []) (.of []) (by simp;omega)
 simp only[↓zq,zs,ae,zt]
 refine aV hfre ?_
 simp only[↓zq,zs,ae,zt,aO,bz,Ob.es]
 have hlp:=Ke a os ha (fun o hq=>⟨(ho o hq).1,by have:=(ho o hq).2;omega⟩) (by omega) (mk e.at) e.sp ((aX _).mpr trivial) os.length 0 (kp e [] []) (by omega) (by omega)
 rw[bf]at hlp
 refine cz hlp ?_
 simp only[↓zq,zs,ae,zt,ae,aJ,bh,aX,aO,bz,Ob.es]
 have hmul:((AA e os).length+1)*(cR e []).atoms<=6001*2000:=Nat.mul_le_mul (by omega) hats
 have hren:=R1 (AA e os) (by omega) h [] [] (.sl []) (.sl []) 0 (.of []) (.of []) rfl (fun w hw=>by cases hw) (by simp;omega) (by omega)
 refine aV hren ?_
 simp only[↓zq,zs,ae,zt,aJ,aL]
 repeat refine⟨by omega,?_⟩
 exact⟨rfl,rfl⟩
end Go.Proofs.Trees
namespace Go.Proofs.Trees
open Go Go.VL Go.RowKit
def fX(t:Ty):Prop:=jx t 0/\∀y,bn y t=true->qO y
theorem gv:∀(t:Ty) {i j:Nat},jx t i->i<=j->jx t j
 | .bound u,i,j,h,hj=>Nat.lt_of_lt_of_le h hj
 | .plus a b,i,j,h,hj=>⟨gv a h.1 hj,gv b h.2 hj⟩
 | .times a b,i,j,h,hj=>⟨gv a h.1 hj,gv b h.2 hj⟩
 | .rc a,i,j,h,hj=>gv (i:=i+1) (j:=j+1) a h (by omega)
 | .zero,_,_,_,_=>trivial
 | .one,_,_,_,_=>trivial
 | .name _,_,_,_,_=>trivial
theorem gK(x:Nm):∀(t:Ty) {i:Nat},jx t (i+1)->jx (dy (.name x) t i) i
 |
  .bound u,i,h=>by
  simp only[dy]
  split
  ·trivial
  ·have:u<i+1:=h
   show u<i;omega
 | .plus a b,i,h=>⟨gK x a h.1,gK x b h.2⟩
 | .times a b,i,h=>⟨gK x a h.1,gK x b h.2⟩
 | .rc a,i,h=>gK x (i:=i+1) a h
 | .zero,_,_=>trivial
 | .one,_,_=>trivial
 | .name _,_,_=>trivial
theorem ky{x:Nm}{u:Ty}(hu:jx u 0):∀(t:Ty) {i:Nat},jx t i->jx (sub x u t) i
 | .name s,i,_=>by simp only[sub];split;exact gv u hu (dO _);trivial
 | .plus a b,i,h=>⟨ky hu a h.1,ky hu b h.2⟩
 | .times a b,i,h=>⟨ky hu a h.1,ky hu b h.2⟩
 | .rc a,i,h=>ky hu (i:=i+1) a h
 | .zero,_,_=>trivial
 | .one,_,_=>trivial
 | .bound _,_,h=>h
theorem Dv.lc{t d:Ty}{s:Nm}(h:Dv t s d):jx t 0->jx d 0:=by
 induction h with
 |zero s=>exact fun _=>trivial
 |one s=>exact fun _=>trivial
 |bound k s=>exact fun _=>trivial
 |hit s=>exact fun _=>trivial
 |qx h=>exact fun _=>trivial
 |plus h1 h2 hl i1 i2=>exact fun h=>⟨i1 h.1,i2 h.2⟩
 |times h1 h2 hl i1 i2=>exact fun h=>⟨⟨i1 h.1,h.2⟩,h.1,i2 h.2⟩
 |
  rc x hx hs h1 h2 hl i1 i2 =>
  intro h
  have g1:=ky (x:=x) h _ (i1 (gK x _ h))
  have g2:=ky (x:=x) h _ (i2 (gK x _ h))
  exact⟨gv _ g1 (by omega),gv _ g2 (by omega),Nat.zero_lt_one⟩
theorem Wf.qH{e:E}(h:Wf e):fX (cR e []):=⟨ub h [],fun y hy=>(ns h [] y hy).1⟩
theorem fX.dv{t d:Ty}{s:Nm}(g:fX t)(h:Dv t s d):fX d:=⟨h.lc g.1,fun y hy=>g.2 y (h.names y hy)⟩
theorem fX.tree{t:Ty}(g:fX t):∃e,Wf e/\cR e []=t:=by
 obtain⟨h1,h2,_⟩:=ku (bP t []) t [] 0 (.nil _ _) g.1 fun y hy=>⟨(eQ t [] y).2 (.inr hy),g.2 y hy⟩
 exact⟨_,h1,h2⟩
theorem fX.sub{x:Nm}{u t:Ty}(hu:fX u)(ht:fX t):fX (sub x u t):=⟨ky hu.1 t ht.1,fun y hy=>by
 rcases jb t hy with h|h
 ·exact hu.2 y h
 ·exact ht.2 y h.2⟩
def lj(o:Option Ty):AV->List Ob->Prop:=fun r ob=>ob=[]/\∃(c:Nm) (d:AV),LK.sl.has d/\r=.cG [.agg [.v (.string (mk c)),d],.v (.bool o.isSome)]/\∀t,o=some t->∃e,Wf e/\cR e []=t/\c=e.at/\d=e.sp
theorem lj.ne{o:Option Ty}(h:∀t,o=some t->fX t):∃r ob,lj o r ob:=by
 cases o with
 |none=>exact⟨_,_,rfl,[],yz,(bh).mpr trivial,rfl,fun t h=>by cases h⟩
 |
  some t =>
  obtain⟨e,h1,h2⟩:=(h t rfl).tree
  exact⟨_,_,rfl,e.at,e.sp,(aX _).mpr trivial,rfl,fun t' h'=>by cases h';exact⟨e,h1,h2,rfl,rfl⟩⟩
theorem lj.of{e:E}(h:Wf e):lj (some (cR e [])) (.cG [.agg [.v (.string (mk e.at)),e.sp],.v (.bool true)]) [] :=
 ⟨rfl,e.at,e.sp,(aX _).mpr trivial,rfl,fun t h'=>by cases h';exact⟨e,h,rfl,rfl,rfl⟩⟩
theorem lj.no(c:Nm)(d:AV)(hd:LK.sl.has d):lj none (.cG [.agg [.v (.string (mk c)),d],.v (.bool false)]) [] :=
 ⟨rfl,c,d,hd,rfl,fun t h'=>by cases h'⟩
theorem gx{c:ByteArray}{d:AV}(h:LK.sl.has d):bF [.str,.sl] [.v (.string c),d] 0=True:=by simp[bF,dX,h]
theorem xG{e:E}{os:List E}(h:Wf e):Wf (zM e os)/\cR (zM e os) []=cR e []/\tY (·∉AA e os) (zM e os):=by
 obtain⟨h1,h2,_,_,h5⟩:=ku (AA e os) (cR e []) [] 0 (.nil _ _) (ub h []) fun y hy=>⟨aD _ ((lV h [] [] y).2 (.inr hy)),(ns h [] y hy).1⟩
 exact⟨h1,h2,h5⟩
theorem sr{os:List E}{o:E}(ho:o∈os)(hw:Wf o){y:Nm}(hy:bn y (cR o [])=true):y∈rM os :=
 List.mem_flatMap.2 ⟨o,ho,(lV hw [] [] y).2 (.inr hy)⟩
theorem rQ{s:Nm}(hs:qO s):cR (.atom s) []=.name s:=ja hs (by simp)
theorem Kr{x:Nm}(hx:qO x){e u:E}(h:Wf e)(hu:Wf u)(hl:e.db<=400)(hlu:u.db<=400):∃g,Wf g/\cR g []=sub x (cR u []) (cR e [])/\an Tryz.prog 121 [.agg [.v (.string (mk e.at)),e.sp],.v (.string (mk x)),.agg [.v (.string (mk u.at)),u.sp]] [] (bK (.agg [.v (.string (mk g.at)),g.sp])):=by
 obtain⟨w1,w2,w3⟩:=xG (os:=[u,.atom x]) h
 have hap:tY (fun n=>n≠x/\bn n (cR u [])=false) (zM e [u,.atom x]):=Bu (fun n hn=>⟨fun e1=>hn (by
  subst e1
  exact aB _ (sr (o:=.atom n) (by simp) (.atom hx.1) (by rw[rQ hx];simp[bn]))),by
  cases q:bn n (cR u [])with
  |false=>rfl
  |true=>exact absurd (aB _ (sr (o:=u) (by simp) hu q)) hn⟩) w1 w3
 obtain⟨p1,p2⟩:=Ev hx hu w1 hap [] (by simp) (fun y hy=>by cases hy)
 refine⟨_,p1,by rw[p2,w2],?_⟩
 refine SD _ _ _ _ _ ((aX _).mpr trivial) ((aX _).mpr trivial) ?_
 unfold Mm
 have s1:=h.sz
 have s2:=hu.sz
 have hA:=D8 h (.sl [[.v (.string (mk u.at)),u.sp],[.v (.string (mk x)),yz]]) [u,.atom x] ⟨(cf _).mpr trivial,by simp only[fG,E.bw,fM];rfl⟩ (by omega) (fun o ho=>by
  simp only[aK,List.not_mem_nil,or_false]at ho
  rcases ho with rfl|rfl
  ·exact⟨hu,by omega⟩
  ·exact⟨.atom hx.1,by simp[E.sz]⟩) (by simp)
 refine ai hA ?_
 simp only[↓zq,zs,ae,zt,aL]
 repeat refine⟨by omega,?_⟩
 refine ai (PG x u w1) ?_
 simp only[↓zq,zs,ae,zt,aL]
 repeat refine⟨by omega,?_⟩
 exact⟨rfl,rfl⟩
theorem Hr{x:Nm}(hx:qO x){e u:E}(h:Wf e)(hu:Wf u)(hl:e.db<=400)(hlu:u.db<=400):an Tryz.prog 123 [.agg [.v (.string (mk e.at)),e.sp],.v (.string (mk x)),.agg [.v (.string (mk u.at)),u.sp]] [] (lj (nD (sub x (cR u []) (cR e [])))):=by
 refine PL _ _ _ _ _ ((aX _).mpr trivial) ((aX _).mpr trivial) ?_
 unfold JQ
 refine ai (MW hx h hu (by omega) (by omega)) ?_
 simp only[↓zq,zs,ae,zt]
 refine⟨fun hn=>?_,fun hy=>?_⟩
 ·rw[show nD (sub x (cR u []) (cR e []))=none by unfold nD;rw[if_neg hn]]
  exact lj.no _ _ ((aX _).mpr trivial)
 ·rw[show nD (sub x (cR u []) (cR e []))=some (sub x (cR u []) (cR e [])) by unfold nD;rw[if_pos hy]]
  obtain⟨g,g1,g2,g3⟩:=Kr hx h hu hl hlu
  refine ai g3 ?_
  simp only[↓zq,zs,ae,zt,aL]
  repeat refine⟨by omega,?_⟩
  rw[<-g2]
  exact lj.of g1
end Go.Proofs.Trees
namespace Go.Proofs.Trees
open Go Go.VL Go.RowKit
def qj(l:List UInt8):List (List AV):=l.map fun(x:UInt8)=>[.v (.int .u8 (x.toNat:Int))]
structure su(b:AV)(l:List UInt8):Prop where
 has:LK.sl.has b
 el:b.elems=qj l
 len:l.length<=2000
theorem su.ln{b:AV}{l:List UInt8}(h:su b l):b.elems.length=l.length:=by rw[h.el];simp[qj]
theorem su.get{b:AV}{l:List UInt8}(h:su b l){i:Nat}(hi:i<l.length):b.elems.getD i []=[.v (.int .u8 ((l[i]).toNat:Int))]:=by rw[h.el];simp[qj,aa,hi]
def eX(b:AV)(p c:Nat)(X:AV->Prop):AV->List Ob->Prop:=fun r o=>∃q:Nat,p<=q/\q<=p+c/\X r/\o=[.cells [b,.v (.int .i64 (q:Int))]]
theorem eX.ne{b:AV}{p c:Nat}{X:AV->Prop}{r:AV}(h:X r):∃r o,eX b p c X r o:=⟨r,_,p,au _,da _ _,h,rfl⟩
theorem Di{a b:Int}(ha:0<=a)(hb:0<=b)(ha':a<9223372036854775808)(hb':b<9223372036854775808):∃W:Nat,Cy .i64 a b=(W:Int):=by
 obtain⟨x,rfl⟩:∃x:Nat,a=(x:Int):=⟨a.toNat,by omega⟩
 obtain⟨y,rfl⟩:∃y:Nat,b=(y:Int):=⟨b.toNat,by omega⟩
 have e1:(BitVec.ofInt 64 (x:Int)).toNat=x:=by simp;omega
 have e2:(BitVec.ofInt 64 (y:Int)).toNat=y:=by simp;omega
 have hlt:x ^^^ y<2 ^ 63:=Nat.xor_lt_two_pow (by omega) (by omega)
 refine⟨x ^^^ y,?_⟩
 unfold Cy
 have e3:(BitVec.ofInt (IntKind.bits .i64) (x:Int) ^^^ BitVec.ofInt (IntKind.bits .i64) (y:Int)).toNat=x ^^^ y:=by
  show (BitVec.ofInt 64 (x:Int) ^^^ BitVec.ofInt 64 (y:Int)).toNat=_
  rw[BitVec.toNat_xor,e1,e2]
 rw[e3,VL.wrap64]<;>omega
theorem xL(a b:Nat):Int.tdiv (a:Int) (b:Int)=((a/b:Nat):Int):=(Int.ofNat_tdiv a b).symm
theorem qZ(a b:Nat):dF (a:Int) (b:Int)=((a%b:Nat):Int):=(Int.ofNat_tmod a b).symm
theorem vy(n:Nat)(h:n<9223372036854775808):IntKind.wrap .i64 (n:Int)=(n:Int):=VL.wrap64 _ (by omega) (by omega)
def isNum(n:Nat):AV->Prop:=fun r=>∃k:Nat,r=.v (.int .i64 (k:Int))/\(1<=n->k<n)/\k<=n
abbrev p9:Nat:=1000000000000000
theorem vN(b:AV)(l:List UInt8)(hb:su b l)(p n:Nat)(hp:p<2*p9)(hn:n<p9):an Tryz.prog 43 [.ref 0 0,.v (.int .i64 (n:Int))] [.cells [b,.v (.int .i64 (p:Int))]] (eX b p 1 (isNum n)):=by
 refine Sv _ _ _ hb.has ?_
 have e1:IntKind.wrap .i64 ((p:Int)+1)=((p+1:Nat):Int):=by rw[VL.wrap64]<;>simp[p9]at hp<;>omega
 have e2:IntKind.wrap .i64 (((p+1:Nat):Int)-1)=(p:Int):=by rw[VL.wrap64]<;>simp[p9]at hp<;>omega
 have fin:∀k:Nat,(1<=n->k<n)->k<=n->eX b p 1 (isNum n) (.v (.int .i64 (k:Int))) [.cells [b,.v (.int .i64 ((p+1:Nat):Int))]]:=fun k h h'=>⟨p+1,by omega,au _,⟨k,rfl,h,h'⟩,rfl⟩
 simp only[Jm,↓zq,zs,ae,e1,e2,hb.ln,xL,qZ]
 refine⟨fun h=>fin 0 (fun h'=>by omega) (dO _),fun h=>⟨hb.has,fun h0=>fin 0 (fun h'=>by omega) (dO _),fun h0=>?_⟩⟩
 have hl:0<l.length:=by omega
 have hll:=hb.len
 refine⟨hb.has,fun hlt=>?_,fun hge=>?_⟩
 ·have hlt:p<l.length:=by omega
  have hx:=(l[p]).toNat_lt
  simp only[bH,hb.get hlt,hb.has,↓zq,zs,ae]
  rw[vy _ (by omega),qZ]
  have:=fin ((l[p]).toNat%n) (fun h'=>Nat.mod_lt _ (by omega)) (Nat.le_of_lt (Nat.mod_lt _ (by omega)))
  repeat (first|exact this|refine⟨by omega,?_⟩)
 ·have h1:p%l.length<l.length:=Nat.mod_lt _ hl
  have e3:IntKind.wrap .i64 ((p:Int)*7)=((p*7:Nat):Int):=by rw[VL.wrap64]<;>simp[p9]at hp<;>omega
  have e4:IntKind.wrap .i64 (((p*7:Nat):Int)+3)=((p*7+3:Nat):Int):=by rw[VL.wrap64]<;>simp[p9]at hp<;>omega
  have h2:(p*7+3)%l.length<l.length:=Nat.mod_lt _ hl
  have hx:=(l[p%l.length]).toNat_lt
  have hy:=(l[(p*7+3)%l.length]).toNat_lt
  have hq:p/l.length<=p:=Nat.div_le_self _ _
  simp only[e3,e4,qZ,bH,hb.get h1,hb.get h2,hb.has,↓zq,zs,ae]
  generalize hxx:(l[p%l.length]).toNat=x at hx |-
  generalize hyy:(l[(p*7+3)%l.length]).toNat=y at hy |-
  generalize hqq:p/l.length=q at hq |-
  have f1:IntKind.wrap .i64 ((x:Int))=(x:Int):=vy _ (by omega)
  have f2:IntKind.wrap .i64 ((y:Int))=(y:Int):=vy _ (by omega)
  have f3:IntKind.wrap .i64 ((x:Int)*131)=((x*131:Nat):Int):=by rw[VL.wrap64]<;>omega
  have f4:IntKind.wrap .i64 ((y:Int)*1117)=((y*1117:Nat):Int):=by rw[VL.wrap64]<;>omega
  have f5:IntKind.wrap .i64 (((x*131:Nat):Int)+((y*1117:Nat):Int))=((x*131+y*1117:Nat):Int):=by rw[VL.wrap64]<;>omega
  have f6:IntKind.wrap .i64 ((p:Int)*29)=((p*29:Nat):Int):=by rw[VL.wrap64]<;>simp[p9]at hp<;>omega
  have f7:IntKind.wrap .i64 (((x*131+y*1117:Nat):Int)+((p*29:Nat):Int))=((x*131+y*1117+p*29:Nat):Int):=by rw[VL.wrap64]<;>simp[p9]at hp<;>omega
  have f8:IntKind.wrap .i64 ((q:Int))=(q:Int):=vy _ (by simp[p9]at hp;omega)
  have f9:IntKind.wrap .i64 ((q:Int)*53)=((q*53:Nat):Int):=by rw[VL.wrap64]<;>simp[p9]at hp<;>omega
  have f10:IntKind.wrap .i64 (((x*131+y*1117+p*29:Nat):Int)+((q*53:Nat):Int))=((x*131+y*1117+p*29+q*53:Nat):Int):=by rw[VL.wrap64]<;>simp[p9]at hp<;>omega
  simp only[f1,f2,f3,f4,f5,f6,f7,f8,f9,f10]
  generalize hV:x*131+y*1117+p*29+q*53=V
  have hVl:V<1000000000000000000:=by simp[p9]at hp;omega
  have f11:IntKind.wrap .i64 (Int.tdiv (V:Int) 64)=((V/64:Nat):Int):=by
   have:Int.tdiv (V:Int) 64=((V/64:Nat):Int):=xL V 64
   rw[this,vy _ (by omega)]
  rw[f11]
  obtain⟨W,hW⟩:=Di (a:=(V:Int)) (b:=((V/64:Nat):Int)) (by omega) (by omega) (by omega) (by omega)
  rw[hW,qZ]
  have:=fin (W%n) (fun h'=>Nat.mod_lt _ (by omega)) (Nat.le_of_lt (Nat.mod_lt _ (by omega)))
  repeat (first|exact this|refine⟨by omega,?_⟩)
def lg(L:List (List UInt8)):AV->Prop:=fun r=>∃s,s∈L/\r=.v (.string (mk s))
theorem D1(b:AV)(l:List UInt8)(hb:su b l)(p:Nat)(hp:p<2*p9)(L:List (List UInt8))(a:AV)(ha:ct a L)(hL:0<L.length)(hLl:L.length<1000000):an Tryz.prog 62 [.ref 0 0,a] [.cells [b,.v (.int .i64 (p:Int))]] (eX b p 1 (lg L)):=by
 refine QE _ _ _ ha.1 hb.has ?_
 unfold Lj
 simp only[↓zq,zs,ae,ha.len]
 refine⟨ha.1,?_⟩
 have hpk:=vN b l hb p L.length hp (by simp[p9];omega)
 refine aP hpk (eX.ne ⟨0,rfl,fun h=>h,dO _⟩) ?_
 rintro r o ⟨q,h1,h2,⟨k,rfl,h3,h4⟩,rfl⟩
 have hk:=h3 hL
 simp only[↓zq,zs,ae,zt,aJ,hb.has,ha.idx hk,bH]
 refine⟨⟨ha.1,by omega⟩,?_⟩
 have:eX b p 1 (lg L) (.v (.string (mk (L.getD k [])))) [.cells [b,.v (.int .i64 (q:Int))]]:=⟨q,h1,h2,⟨_,by simp[aa,hk],rfl⟩,rfl⟩
 repeat (first|exact this|refine⟨by omega,?_⟩)
def gl(n:Nat):AV->Prop:=fun r=>∃s:List UInt8,r=.v (.string (mk s))/\s.length<=n
theorem lg.cA{L:List (List UInt8)}{n:Nat}(h:∀s,s∈L->s.length<=n){r:AV}(hr:lg L r):gl n r:=by
 obtain⟨s,h1,h2⟩:=hr;exact⟨s,h2,h s h1⟩
end Go.Proofs.Trees
namespace Go.Proofs.Trees
open Go Go.VL Go.RowKit
def jP:AV->List Ob->Prop:=fun r o=>o=[]/\∃b:Bool,r=.v (.bool b)
theorem jP.ne:∃r o,jP r o:=⟨_,_,rfl,true,rfl⟩
theorem jP.mk(b:Bool):jP (.v (.bool b)) []:=⟨rfl,b,rfl⟩
theorem jP.call{n:Nat}{f:Nat}{xs:List AV}{k:AV->List Ob->Tree}{Q:Nat->List AV->List Ob->Prop}(h:an Tryz.prog f xs [] jP)(hk:∀b:Bool,eZ Tryz.prog n (k (.v (.bool b)) []) Q):eZ Tryz.prog n (.call f xs [] k) Q :=
 aP h jP.ne (by rintro r o ⟨rfl,b,rfl⟩;exact hk b)
theorem Lf{e:E}(h:Wf e):∀(l:List Nm) (a:AV),ct a l->l.length+e.sz<100000->an Tryz.prog 87 [.agg [.v (.string (mk e.at)),e.sp],a] [] jP:=by
 induction h with
 |
  @atom s hs =>
  intro l a ha hl
  simp only[E.sz]at hl
  refine DC _ _ _ ((aX _).mpr trivial) ha.1 ?_
  simp only[A9,dR,↓zq,zs,ae]
  refine ai (zx s _ ((aX (.atom s)).mpr trivial) hs) ?_
  simp only[↓zq,zs,ae,zt,ha.1]
  refine⟨fun h=>(by cases h),fun _=>⟨fun h=>(by cases h),fun _=>⟨fun h=>(by cases h),fun _=>⟨fun _=>.mk true,fun _=>?_⟩⟩⟩⟩
  refine ai (FQ l a ha s (by omega)) ?_
  simp only[↓zq,zs,ae]
  exact .mk _
 |
  @plus x y hx hy i1 i2 =>
  intro l a ha hl
  simp only[E.sz,E.jr]at hl
  refine DC _ _ _ ((aX _).mpr trivial) ha.1 ?_
  have hP:=P3.of (.atom [43]) x y
  simp only[A9,bM,toNat_one,bg,↓zq,zs,ae,zt,hP.1,hP.2.1,hP.2.2.1,hP.2.2.2,aL]
  refine ai (n7 [43] x y) ?_
  simp only[↓zq,zs,ae,zt,ha.1,aL]
  refine⟨fun _=>⟨by omega,by omega,jP.call (i1 l a ha (by omega)) fun b=>?_⟩,fun h=>absurd rfl h⟩
  simp only[↓zq,zs,ae]
  refine⟨fun _=>⟨by omega,by omega,jP.call (i2 l a ha (by omega)) fun b=>?_⟩,fun _=>.mk _⟩
  simp only[↓zq,zs,ae]
  exact .mk _
 |
  @times x y hx hy i1 i2 =>
  intro l a ha hl
  simp only[E.sz,E.jr]at hl
  refine DC _ _ _ ((aX _).mpr trivial) ha.1 ?_
  have hP:=P3.of (.atom [42]) x y
  simp only[A9,bM,toNat_one,bg,↓zq,zs,ae,zt,hP.1,hP.2.1,hP.2.2.1,hP.2.2.2,aL]
  refine ai (n7 [42] x y) ?_
  simp only[↓zq,zs,ae,zt,ha.1,aL]
  refine⟨fun h=>(by cases h),fun _=>⟨fun _=>⟨by omega,by omega,jP.call (i1 l a ha (by omega)) fun b=>?_⟩,fun h=>absurd rfl h⟩⟩
  simp only[↓zq,zs,ae]
  refine⟨fun _=>.mk _,fun _=>⟨by omega,by omega,jP.call (i2 l a ha (by omega)) fun b=>?_⟩⟩
  simp only[↓zq,zs,ae]
  exact .mk _
 |
  @rc n b hn hb i =>
  intro l a ha hl
  simp only[E.sz,E.jr]at hl
  refine DC _ _ _ ((aX _).mpr trivial) ha.1 ?_
  have hP:=P3.of (.atom dE) (.atom n) b
  simp only[A9,bM,toNat_one,bg,↓zq,zs,ae,zt,hP.1,hP.2.1,hP.2.2.1,hP.2.2.2,aL]
  refine ai (n7 dE (.atom n) b) ?_
  simp only[↓zq,zs,ae,zt,ha.1,aL]
  refine⟨fun h=>(by cases h),fun _=>⟨fun h=>(by cases h),fun _=>⟨fun _=>⟨by omega,by omega,by omega,by omega,?_⟩,fun h=>absurd rfl h⟩⟩⟩
  refine aV (Fi l a ha n (by omega)) ?_
  simp only[↓zq,zs,ae,zt,Ob.es,aO]
  refine⟨dU _,?_⟩
  refine jP.call (i (l++[n]) _ (.of _) (by simp;omega)) fun b=>?_
  simp only[↓zq,zs,ae]
  exact .mk _
def Pv:AV->List Ob->Prop:=fun r o=>o=[]/\∃(g:E) (b:Bool),r=.cG [.agg [.v (.string (mk g.at)),g.sp],.v (.bool b)]/\Wf g/\g.db<=400
theorem Px{n:Nm}{b:E}(hn:qO n)(hb:Wf b)(hl:(E.list [.atom dE,.atom n,b]).db<=400):an Tryz.prog 89 [.agg [.v (.string (mk [])),(E.list [.atom dE,.atom n,b]).sp]] [] Pv:=by
 have hw:Wf (.list [.atom dE,.atom n,b]):=.rc hn hb
 refine Qe _ _ ((aX _).mpr trivial) ?_
 have hP:=P3.of (.atom dE) (.atom n) b
 have hbl:b.db<=400:=by simp only[E.db,E.eY]at hl;omega
 simp only[Kv,toNat_one,bg,↓zq,zs,ae,zt,hP.1,hP.2.1,hP.2.2.1,hP.2.2.2,aL]
 refine⟨by omega,by omega,by omega,by omega,?_⟩
 have hf:=MW hn hb hw (by omega) (by omega)
 obtain⟨g,g1,g2,g3⟩:=Kr hn hb hw hbl hl
 simp only[bM]at hf g3
 refine ai hf ?_
 simp only[↓zq,zs,ae,zt,aL]
 refine⟨fun h=>⟨rfl,_,false,rfl,hw,hl⟩,fun h=>?_⟩
 repeat refine⟨by omega,?_⟩
 refine ai g3 ?_
 simp only[↓zq,zs,ae,zt,aL]
 refine⟨rfl,g,true,rfl,g1,?_⟩
 rw[g1.db [],g2]
 simpa using h
end Go.Proofs.Trees
namespace Go.Proofs.Trees
open Go Go.VL Go.RowKit
def jT(n:Nat):AV->Prop:=fun r=>∃e:E,r=.agg [.v (.string (mk e.at)),e.sp]/\e.ok/\(e9 e).length<=n
theorem jT.u(n:Nat)(h:1<=n):jT n (.agg [.v (.string (mk [117])),.v (.slice none 0 0)]):=⟨.atom [117],rfl,by simp[E.ok],by simpa[e9]using h⟩
def jR(b:AV)(d:Int)(e:E)(B C:Nat):Prop:=∀p:Nat,p+C<p9->an Tryz.prog 64 [.ref 0 0,.agg [.v (.string (mk e.at)),e.sp],.v (.int .i64 d)] [.cells [b,.v (.int .i64 (p:Int))]] (eX b p C (jT B))
theorem jR.mono{b:AV}{d:Int}{e:E}{B C B' C':Nat}(h:jR b d e B C)(hB:B<=B')(hC:C<=C'):jR b d e B' C':=fun p hp=>an.mono (h p (by omega)) fun r o ⟨q,h1,h2,⟨g,h3,h4,h5⟩,h6⟩=>⟨q,h1,by omega,⟨g,h3,h4,by omega⟩,h6⟩
theorem oM(b:AV)(p C B:Nat)(h:1<=B):∃r o,eX b p C (jT B) r o:=eX.ne (jT.u B h)
theorem Tb(w:Nm)(e:E)(h:w.length=1):(e9 (.list [.atom w,e])).length=(e9 e).length+4:=by
 simp[e9,ei];omega
theorem S8(w:Nm)(e f:E)(h:w.length=1):(e9 (.list [.atom w,e,f])).length=(e9 e).length+(e9 f).length+5:=by
 simp[e9,ei];omega
theorem OL{b:AV}{p q q' C B:Nat}{w:Nm}{e:E}(hw:w.length=1)(h1:p<=q)(h2:q<=p+1)(h3:q<=q')(h4:q'<=q+C)(ho:e.ok)(hl:(e9 e).length<=B) :
 eX b p (C+1) (jT (B+5)) (.agg [.v (.string (mk [])),(E.list [.atom w,e]).sp]) [.cells [b,.v (.int .i64 (q':Int))]] :=
 ⟨q',by omega,by omega,⟨.list [.atom w,e],rfl,⟨by intro h;rw[h]at hw;simp at hw,ho,trivial⟩,by rw[Tb w e hw];omega⟩,rfl⟩
theorem Nx(b:AV)(l:List UInt8)(hb:su b l)(d:Int){s:Nm}(hs:s≠[]):jR b d (.atom s) 5 1:=by
 intro p hp
 refine DG _ _ _ _ _ ((aX (.atom s)).mpr trivial) hb.has ?_
 simp only[AF,dR,↓zq,zs,ae]
 refine ai (zx s _ ((aX (.atom s)).mpr trivial) hs) ?_
 simp only[↓zq,zs,ae,zt]
 refine⟨fun h=>(by cases h),fun _=>⟨fun h=>(by cases h),fun _=>⟨fun h=>(by cases h),fun _=>⟨fun _=>?_,fun _=>?_⟩⟩⟩⟩
 ·exact⟨p,au _,by omega,jT.u 5 (by omega),rfl⟩
 ·refine aP (vN b l hb p 3 (by omega) (by decide)) (eX.ne ⟨0,rfl,fun h=>by omega,by omega⟩) ?_
  rintro r o ⟨q,h1,h2,⟨k,rfl,h3,h4⟩,rfl⟩
  have hk:k<3:=h3 (by omega)
  simp only[↓zq,zs,ae,aJ,hb.has]
  refine ai (zo (k+1) k (by omega) (by omega)) ?_
  have hd:dd k=[bj (48+k)]:=eH (by omega)
  simp only[↓zq,zs,ae,zt,hd]
  refine⟨by simp,q,h1,h2,⟨.atom ([101]++[bj (48+k)]),rfl,by simp[E.ok],by simp[e9]⟩,rfl⟩
theorem Mi(b:AV)(l:List UInt8)(hb:su b l)(d:Int)(hd:-100000<=d/\d<=100000){n:Nm}{e:E}(hn:qO n)(he:Wf e)(hl:(E.list [.atom dE,.atom n,e]).db<=400)(B C:Nat)(ih:-12<=d->∀g,Wf g->g.db<=400->jR b (d-1) g B C)(hB:1<=B):jR b d (.list [.atom dE,.atom n,e]) (B+5) (C+1):=by
 intro p hp
 refine DG _ _ _ _ _ ((aX _).mpr trivial) hb.has ?_
 have ed:IntKind.wrap .i64 (d-1)=d-1:=VL.wrap64 _ (by omega) (by omega)
 simp only[AF,bM,↓zq,zs,ae,ed]
 refine ai (n7 dE (.atom n) e) ?_
 simp only[↓zq,zs,ae,zt]
 have hu:=Px hn he hl
 refine⟨fun h=>(by cases h),fun _=>⟨fun h=>(by cases h),fun _=>⟨fun _=>?_,fun h=>absurd rfl h⟩⟩⟩
 refine aP hu ⟨_,_,rfl,.atom [117],true,rfl,.atom (by simp),by simp[E.db]⟩ ?_
 rintro r o ⟨rfl,g,c,rfl,g1,g2⟩
 have u:eX b p (C+1) (jT (B+5)) (.agg [.v (.string (mk [117])),.v (.slice none 0 0)]) [.cells [b,.v (.int .i64 (p:Int))]]:=⟨p,au _,by omega,jT.u _ (by omega),rfl⟩
 simp only[↓zq,zs,ae,zt,aL]
 refine⟨fun _=>u,fun _=>⟨fun _=>u,fun hd2=>?_⟩⟩
 refine aP (ih (by omega) g g1 g2 p (by omega)) (oM b p C B hB) ?_
 rintro r o ⟨q,h1,h2,⟨f,rfl,h4,h5⟩,rfl⟩
 simp only[↓zq,zs,ae,zt,aJ,hb.has,aL]
 repeat refine⟨by omega,?_⟩
 refine ai (wG [102] f) ?_
 simp only[↓zq,zs,ae,zt,aJ,hb.has,aL]
 have fin:=OL (b:=b) (w:=[102]) rfl (au p) (by omega) h1 h2 h4 h5
 first|exact fin|exact⟨by omega,fin⟩
theorem Kt(b:AV)(l:List UInt8)(hb:su b l)(d:Int)(hd:-100000<=d/\d<=100000){x y:E}(hx:Wf x)(hy:Wf y)(B1 C1 B2 C2:Nat)(ix:jR b (d-1) x B1 C1)(iy:jR b (d-1) y B2 C2)(hB:1<=B1)(hB2:1<=B2):jR b d (.list [.atom [42],x,y]) (B1+B2+5) (C1+C2+1):=by
 intro p hp
 refine DG _ _ _ _ _ ((aX _).mpr trivial) hb.has ?_
 have ed:IntKind.wrap .i64 (d-1)=d-1:=VL.wrap64 _ (by omega) (by omega)
 have hP:=P3.of (.atom [42]) x y
 simp only[AF,bM,toNat_one,bg,↓zq,zs,ae,zt,hP.1,hP.2.1,hP.2.2.1,hP.2.2.2,aL,ed]
 refine ai (n7 [42] x y) ?_
 simp only[↓zq,zs,ae,zt]
 refine⟨fun h=>(by cases h),fun _=>⟨fun _=>?_,fun h=>absurd rfl h⟩⟩
 refine⟨by omega,by omega,aP (ix p (by omega)) (oM b p C1 B1 hB) ?_⟩
 rintro r o ⟨q,h1,h2,⟨f,rfl,h4,h5⟩,rfl⟩
 simp only[↓zq,zs,ae,zt,aJ,hb.has,aL]
 repeat refine⟨by omega,?_⟩
 refine aP (iy q (by omega)) (oM b q C2 B2 hB2) ?_
 rintro r o ⟨q',g1,g2,⟨g,rfl,g4,g5⟩,rfl⟩
 simp only[↓zq,zs,ae,zt,aJ,hb.has,aL]
 repeat refine⟨by omega,?_⟩
 refine ai (w7 [112] f g) ?_
 simp only[↓zq,zs,ae,zt,aJ,hb.has,aL]
 have fin:eX b p (C1+C2+1) (jT (B1+B2+5)) (.agg [.v (.string (mk [])),(E.list [.atom [112],f,g]).sp]) [.cells [b,.v (.int .i64 (q':Int))]]:=⟨q',by omega,by omega,⟨.list [.atom [112],f,g],rfl,⟨by simp[E.ok],h4,g4,trivial⟩,by rw[S8 [112] f g rfl];omega⟩,rfl⟩
 first|exact fin|exact⟨by omega,fin⟩
theorem Mw(b:AV)(l:List UInt8)(hb:su b l)(d:Int)(hd:-100000<=d/\d<=100000){x y:E}(hx:Wf x)(hy:Wf y)(hl:(E.list [.atom [43],x,y]).db<=400)(B C:Nat)(ix:jR b (d-1) x B C)(iy:jR b (d-1) y B C)(hB:1<=B):jR b d (.list [.atom [43],x,y]) (B+5) (C+1):=by
 intro p hp
 refine DG _ _ _ _ _ ((aX _).mpr trivial) hb.has ?_
 have ed:IntKind.wrap .i64 (d-1)=d-1:=VL.wrap64 _ (by omega) (by omega)
 have hP:=P3.of (.atom [43]) x y
 simp only[E.db,E.eY]at hl
 have s1:=hx.sz
 have s2:=hy.sz
 simp only[AF,bM,toNat_one,bg,↓zq,zs,ae,zt,hP.1,hP.2.1,hP.2.2.1,hP.2.2.2,aL,ed]
 refine ai (n7 [43] x y) ?_
 simp only[↓zq,zs,ae,zt]
 refine⟨fun _=>?_,fun h=>absurd rfl h⟩
 refine aP (vN b l hb p 2 (by omega) (by decide)) (eX.ne ⟨0,rfl,fun h=>by omega,by omega⟩) ?_
 rintro r o ⟨q,h1,h2,⟨k,rfl,_,_⟩,rfl⟩
 simp only[↓zq,zs,ae,zt,aJ,hb.has,aL]
 have ex:=Lf hx [] (.sl []) (.of []) (by simp;omega)
 have ey:=Lf hy [] (.sl []) (.of []) (by simp;omega)
 have ax:=Ep x hx.ok (by omega)
 have ay:=Ep y hy.ok (by omega)
 rw[dj]at ax ay
 have lx:=ix q (by omega)
 have ly:=iy q (by omega)
 have t:=oM b q C B hB
 have leaf:∀(w:Nm) (q':Nat) (f:E),w.length=1->q<=q'->q'<=q+C->f.ok->(e9 f).length<=B->eX b p (C+1) (jT (B+5)) (.agg [.v (.string (mk [])),(E.list [.atom w,f]).sp]) [.cells [b,.v (.int .i64 (q':Int))]]:=fun w q' f hw g1 g2 h4 h5=>OL hw h1 h2 g1 g2 h4 h5
 repeat' first
  |intro _
  |refine⟨by omega,?_⟩
  |(
   with_reducible refine aP lx t ?_
   rintro r o ⟨q',g1,g2,⟨f,rfl,h4,h5⟩,rfl⟩
   simp only[↓zq,zs,ae,zt,aJ,hb.has,aL]
   repeat refine⟨by omega,?_⟩
   refine ai (wG _ f) ?_
   simp only[↓zq,zs,ae,zt,aJ,hb.has,aL]
   have fin:=leaf [108] q' f rfl g1 g2 h4 h5
   first|exact fin|exact⟨by omega,fin⟩)
  |(
   with_reducible refine aP ly t ?_
   rintro r o ⟨q',g1,g2,⟨f,rfl,h4,h5⟩,rfl⟩
   simp only[↓zq,zs,ae,zt,aJ,hb.has,aL]
   repeat refine⟨by omega,?_⟩
   refine ai (wG _ f) ?_
   simp only[↓zq,zs,ae,zt,aJ,hb.has,aL]
   have fin:=leaf [114] q' f rfl g1 g2 h4 h5
   first|exact fin|exact⟨by omega,fin⟩)
  |(with_reducible refine jP.call ex fun _=>?_;simp only[↓zq,zs,ae,zt,aL])
  |(with_reducible refine jP.call ey fun _=>?_;simp only[↓zq,zs,ae,zt,aL])
  |(with_reducible refine ai ax ?_;simp only[↓zq,zs,ae,zt,aL])
  |(with_reducible refine ai ay ?_;simp only[↓zq,zs,ae,zt,aL])
  |with_reducible refine aH ?_ ?_
  |(exfalso;omega)
end Go.Proofs.Trees
namespace Go.Proofs.Trees
open Go Go.VL Go.RowKit
def ny:Nat->Nat
 |0=>2
 |d+1=>2*ny d+15
def nv:Nat->Nat
 |0=>3
 |d+1=>2*nv d+8
theorem SX(d:Nat):2<=ny d:=by cases d<;>simp only[ny]<;>omega
theorem PY(d:Nat):3<=nv d:=by cases d<;>simp only[nv]<;>omega
theorem FI:∀d:Nat,d<=10->ny d<=100000000
 |0,_=>by decide
 |1,_=>by decide
 |2,_=>by decide
 |3,_=>by decide
 |4,_=>by decide
 |5,_=>by decide
 |6,_=>by decide
 |7,_=>by decide
 |8,_=>by decide
 |9,_=>by decide
 |10,_=>by decide
 |d+11,h=>by omega
theorem Ce(b:AV)(l:List UInt8)(hb:su b l)(p:Nat)(hp:p<2*p9):an Tryz.prog 75 [.ref 0 0] [.cells [b,.v (.int .i64 (p:Int))]] (eX b p 1 (gl 60)):=by
 refine RH _ _ hb.has ?_
 unfold JX
 refine aP (D1 b l hb p hp _ _ (.of [_,_,_,_,_,_,_]) (by simp) (by simp)) (eX.ne ⟨_,ak,rfl⟩) ?_
 rintro r o ⟨q,h1,h2,hr,rfl⟩
 obtain⟨s,rfl,hs⟩:=lg.cA (n:=60) (by decide) hr
 simp only[↓zq,zs,ae,aJ,hb.has]
 exact⟨q,h1,h2,⟨s,rfl,hs⟩,rfl⟩
theorem GL(b:AV)(l:List UInt8)(hb:su b l):∀(d:Nat),d<=10->∀(p:Nat) (ls:List (List UInt8)) (a:AV),ct a ls->(∀s,s∈ls->s.length<=2)->ls.length+d<=100->p+nv d<2*p9 ->
 an Tryz.prog 144 [.ref 0 0,a,.v (.int .i64 (d:Int))] [.cells [b,.v (.int .i64 (p:Int))]] (eX b p (nv d) (gl (ny d))):=by
 intro d
 induction d with
 |
  zero =>
  intro hd p ls a ha hls hll hp
  simp only[nv]at hp
  refine KE _ _ _ _ ha.1 hb.has ?_
  simp only[H8,↓zq,zs,ae,ha.len]
  refine⟨fun _=>⟨ha.1,fun hpos=>?_,fun _=>?_⟩,fun h=>by omega⟩
  ·refine aP (vN b l hb p 3 (by omega) (by decide)) (eX.ne ⟨0,rfl,fun h=>by omega,by omega⟩) ?_
   rintro r o ⟨q1,h1,h2,⟨k,rfl,h3,h4⟩,rfl⟩
   simp only[↓zq,zs,ae,aJ,hb.has]
   refine⟨fun _=>⟨ha.1,?_⟩,fun _=>?_⟩
   ·refine aP (vN b l hb q1 ls.length (by omega) (by simp[p9];omega)) (eX.ne ⟨0,rfl,fun h=>by omega,by omega⟩) ?_
    rintro r o ⟨q2,g1,g2,⟨k2,rfl,g3,g4⟩,rfl⟩
    have hk:=g3 (by omega)
    simp only[↓zq,zs,ae,aJ,hb.has,bH,ha.idx hk]
    have:eX b p (nv 0) (gl (ny 0)) (.v (.string (mk (ls.getD k2 [])))) [.cells [b,.v (.int .i64 (q2:Int))]]:=⟨q2,by omega,by simp only[nv];omega,⟨_,rfl,by
     have:=hls (ls.getD k2 []) (by simp[aa,hk]);simp only[ny];omega⟩,rfl⟩
    refine⟨⟨ha.1,by omega⟩,?_⟩
    repeat (first|exact this|refine⟨by omega,?_⟩)
   ·refine aP (D1 b l hb q1 (by omega) _ _ (.of [_,_,_,_,_,_]) (by simp) (by simp)) (eX.ne ⟨_,ak,rfl⟩) ?_
    rintro r o ⟨q2,g1,g2,hr,rfl⟩
    obtain⟨s,rfl,hs⟩:=lg.cA (n:=2) (by decide) hr
    simp only[↓zq,zs,ae,aJ,hb.has]
    exact⟨q2,by omega,by simp only[nv];omega,⟨s,rfl,by simp only[ny];omega⟩,rfl⟩
  ·refine aP (D1 b l hb p (by omega) _ _ (.of [_,_,_,_,_,_]) (by simp) (by simp)) (eX.ne ⟨_,ak,rfl⟩) ?_
   rintro r o ⟨q2,g1,g2,hr,rfl⟩
   obtain⟨s,rfl,hs⟩:=lg.cA (n:=2) (by decide) hr
   simp only[↓zq,zs,ae,aJ,hb.has]
   exact⟨q2,by omega,by simp only[nv];omega,⟨s,rfl,by simp only[ny];omega⟩,rfl⟩
 |
  succ d ih =>
  intro hd p ls a ha hls hll hp
  simp only[nv]at hp
  have hL:=SX d
  have hC:=PY d
  have ih:=ih (by omega)
  have hL8:=FI d (by omega)
  have ed:IntKind.wrap .i64 (((d+1:Nat):Int)-1)=(d:Int):=by rw[VL.wrap64]<;>omega
  refine KE _ _ _ _ ha.1 hb.has ?_
  simp only[H8,↓zq,zs,ae,ha.len,ed]
  refine⟨fun h=>by omega,fun _=>?_⟩
  refine aP (vN b l hb p 4 (by omega) (by decide)) (eX.ne ⟨0,rfl,fun h=>by omega,by omega⟩) ?_
  rintro r o ⟨q0,a1,a2,⟨k0,rfl,_,_⟩,rfl⟩
  simp only[↓zq,zs,ae,aJ,hb.has]
  refine⟨fun _=>⟨ha.1,fun hpos=>?_,fun _=>?_⟩,fun _=>?_⟩
  ·refine aP (vN b l hb q0 3 (by omega) (by decide)) (eX.ne ⟨0,rfl,fun h=>by omega,by omega⟩) ?_
   rintro r o ⟨q1,h1,h2,⟨k,rfl,h3,h4⟩,rfl⟩
   simp only[↓zq,zs,ae,aJ,hb.has]
   refine⟨fun _=>⟨ha.1,?_⟩,fun _=>?_⟩
   ·refine aP (vN b l hb q1 ls.length (by omega) (by simp[p9];omega)) (eX.ne ⟨0,rfl,fun h=>by omega,by omega⟩) ?_
    rintro r o ⟨q2,g1,g2,⟨k2,rfl,g3,g4⟩,rfl⟩
    have hk:=g3 (by omega)
    simp only[↓zq,zs,ae,aJ,hb.has,bH,ha.idx hk]
    have:eX b p (nv (d+1)) (gl (ny (d+1))) (.v (.string (mk (ls.getD k2 [])))) [.cells [b,.v (.int .i64 (q2:Int))]]:=⟨q2,by omega,by simp only[nv];omega,⟨_,rfl,by
     have:=hls (ls.getD k2 []) (by simp[aa,hk]);simp only[ny];omega⟩,rfl⟩
    refine⟨⟨ha.1,by omega⟩,?_⟩
    repeat (first|exact this|refine⟨by omega,?_⟩)
   ·refine aP (D1 b l hb q1 (by omega) _ _ (.of [_,_,_,_,_,_]) (by simp) (by simp)) (eX.ne ⟨_,ak,rfl⟩) ?_
    rintro r o ⟨q2,g1,g2,hr,rfl⟩
    obtain⟨s,rfl,hs⟩:=lg.cA (n:=2) (by decide) hr
    simp only[↓zq,zs,ae,aJ,hb.has]
    exact⟨q2,by omega,by simp only[nv];omega,⟨s,rfl,by simp only[ny];omega⟩,rfl⟩
  ·refine aP (D1 b l hb q0 (by omega) _ _ (.of [_,_,_,_,_,_]) (by simp) (by simp)) (eX.ne ⟨_,ak,rfl⟩) ?_
   rintro r o ⟨q2,g1,g2,hr,rfl⟩
   obtain⟨s,rfl,hs⟩:=lg.cA (n:=2) (by decide) hr
   simp only[↓zq,zs,ae,aJ,hb.has]
   exact⟨q2,by omega,by simp only[nv];omega,⟨s,rfl,by simp only[ny];omega⟩,rfl⟩
  ·refine aP (vN b l hb q0 5 (by omega) (by decide)) (eX.ne ⟨0,rfl,fun h=>by omega,by omega⟩) ?_
   rintro r o ⟨q1,b1,b2,⟨k1,rfl,c3,_⟩,rfl⟩
   have hk1:=c3 (by omega)
   obtain rfl|rfl|rfl|rfl|rfl:k1=0\/k1=1\/k1=2\/k1=3\/k1=4:=by omega
   ·simp only[↓zq,zs,ae,aJ,hb.has]
    refine⟨fun _=>?_,fun h=>absurd rfl h⟩
    refine aP (ih q1 ls a ha hls (by omega) (by omega)) (eX.ne ⟨[],rfl,by simp⟩) ?_
    rintro r o ⟨q2,d1,d2,⟨s1,rfl,d3⟩,rfl⟩
    simp only[↓zq,zs,ae,zt,aJ,hb.has,aq]
    repeat refine⟨by first|omega|(simp only[aq,aA,aG];omega),?_⟩
    refine aP (ih q2 ls a ha hls (by omega) (by omega)) (eX.ne ⟨[],rfl,by simp⟩) ?_
    rintro r o ⟨q3,e1,e2,⟨s2,rfl,e3⟩,rfl⟩
    simp only[↓zq,zs,ae,zt,aJ,hb.has,aq]
    have fin:∀s:List UInt8,s.length<=ny (d+1)->eX b p (nv (d+1)) (gl (ny (d+1))) (.v (.string (mk s))) [.cells [b,.v (.int .i64 (q3:Int))]]:=fun s hs=>⟨q3,by omega,by simp only[nv];omega,⟨s,rfl,hs⟩,rfl⟩
    repeat (first|exact fin _ (by simp only[aq,aA,aG,ny];omega)|refine⟨by first|omega|(simp only[aq,aA,aG];omega),?_⟩)
   ·simp only[↓zq,zs,ae,aJ,hb.has]
    refine⟨fun h=>by omega,fun _=>⟨fun _=>?_,fun h=>absurd rfl h⟩⟩
    refine aP (ih q1 ls a ha hls (by omega) (by omega)) (eX.ne ⟨[],rfl,by simp⟩) ?_
    rintro r o ⟨q2,d1,d2,⟨s1,rfl,d3⟩,rfl⟩
    simp only[↓zq,zs,ae,zt,aJ,hb.has,aq]
    repeat refine⟨by first|omega|(simp only[aq,aA,aG];omega),?_⟩
    refine aP (ih q2 ls a ha hls (by omega) (by omega)) (eX.ne ⟨[],rfl,by simp⟩) ?_
    rintro r o ⟨q3,e1,e2,⟨s2,rfl,e3⟩,rfl⟩
    simp only[↓zq,zs,ae,zt,aJ,hb.has,aq]
    have fin:∀s:List UInt8,s.length<=ny (d+1)->eX b p (nv (d+1)) (gl (ny (d+1))) (.v (.string (mk s))) [.cells [b,.v (.int .i64 (q3:Int))]]:=fun s hs=>⟨q3,by omega,by simp only[nv];omega,⟨s,rfl,hs⟩,rfl⟩
    repeat (first|exact fin _ (by simp only[aq,aA,aG,ny];omega)|refine⟨by first|omega|(simp only[aq,aA,aG];omega),?_⟩)
   ·simp only[↓zq,zs,ae,aJ,hb.has]
    refine⟨fun h=>by omega,fun _=>⟨fun h=>by omega,fun _=>⟨fun _=>?_,fun h=>absurd rfl h⟩⟩⟩
    refine aP (ih q1 ls a ha hls (by omega) (by omega)) (eX.ne ⟨[],rfl,by simp⟩) ?_
    rintro r o ⟨q2,d1,d2,⟨s1,rfl,d3⟩,rfl⟩
    simp only[↓zq,zs,ae,zt,aJ,hb.has,aq]
    repeat refine⟨by first|omega|(simp only[aq,aA,aG];omega),?_⟩
    refine aP (ih q2 ls a ha hls (by omega) (by omega)) (eX.ne ⟨[],rfl,by simp⟩) ?_
    rintro r o ⟨q3,e1,e2,⟨s2,rfl,e3⟩,rfl⟩
    simp only[↓zq,zs,ae,zt,aJ,hb.has,aq]
    have fin:∀s:List UInt8,s.length<=ny (d+1)->eX b p (nv (d+1)) (gl (ny (d+1))) (.v (.string (mk s))) [.cells [b,.v (.int .i64 (q3:Int))]]:=fun s hs=>⟨q3,by omega,by simp only[nv];omega,⟨s,rfl,hs⟩,rfl⟩
    repeat (first|exact fin _ (by simp only[aq,aA,aG,ny];omega)|refine⟨by first|omega|(simp only[aq,aA,aG];omega),?_⟩)
   ·simp only[↓zq,zs,ae,aJ,hb.has]
    refine⟨fun h=>by omega,fun _=>⟨fun h=>by omega,fun _=>⟨fun h=>by omega,fun _=>⟨fun _=>?_,fun h=>absurd rfl h⟩⟩⟩⟩
    refine aP (ih q1 ls a ha hls (by omega) (by omega)) (eX.ne ⟨[],rfl,by simp⟩) ?_
    rintro r o ⟨q2,d1,d2,⟨s1,rfl,d3⟩,rfl⟩
    simp only[↓zq,zs,ae,zt,aJ,hb.has,aq]
    repeat refine⟨by first|omega|(simp only[aq,aA,aG];omega),?_⟩
    refine aP (ih q2 ls a ha hls (by omega) (by omega)) (eX.ne ⟨[],rfl,by simp⟩) ?_
    rintro r o ⟨q3,e1,e2,⟨s2,rfl,e3⟩,rfl⟩
    simp only[↓zq,zs,ae,zt,aJ,hb.has,aq]
    have fin:∀s:List UInt8,s.length<=ny (d+1)->eX b p (nv (d+1)) (gl (ny (d+1))) (.v (.string (mk s))) [.cells [b,.v (.int .i64 (q3:Int))]]:=fun s hs=>⟨q3,by omega,by simp only[nv];omega,⟨s,rfl,hs⟩,rfl⟩
    repeat (first|exact fin _ (by simp only[aq,aA,aG,ny];omega)|refine⟨by first|omega|(simp only[aq,aA,aG];omega),?_⟩)
   ·simp only[↓zq,zs,ae,aJ,hb.has]
    refine⟨fun h=>by omega,fun _=>⟨fun h=>by omega,fun _=>⟨fun h=>by omega,fun _=>⟨fun h=>by omega,fun _=>?_⟩⟩⟩⟩
    refine aP (D1 b l hb q1 (by omega) _ _ (.of [_,_,_]) (by simp) (by simp)) (eX.ne ⟨_,ak,rfl⟩) ?_
    rintro r o ⟨q2,g1,g2,hr,rfl⟩
    obtain⟨s,rfl,hs⟩:=lg.cA (n:=2) (by decide) hr
    simp only[↓zq,zs,ae,zt,aJ,hb.has]
    repeat refine⟨by first|omega|(simp only[aq,aA,aG];omega),?_⟩
    refine aV (Fi ls a ha s (by omega)) ?_
    simp only[↓zq,zs,ae,Ob.es,aO]
    refine⟨dU _,?_⟩
    refine aP (ih q2 (ls++[s]) _ (.of _) (fun w hw=>by
     rcases aN.1 hw with hw|hw
     ·exact hls w hw
     ·simp at hw;rw[hw];exact hs) (by simp;omega) (by omega)) (eX.ne ⟨[],rfl,by simp⟩) ?_
    rintro r o ⟨q3,e1,e2,⟨s2,rfl,e3⟩,rfl⟩
    simp only[↓zq,zs,ae,zt,aJ,hb.has,aq]
    have fin:∀s:List UInt8,s.length<=ny (d+1)->eX b p (nv (d+1)) (gl (ny (d+1))) (.v (.string (mk s))) [.cells [b,.v (.int .i64 (q3:Int))]]:=fun s hs=>⟨q3,by omega,by simp only[nv];omega,⟨s,rfl,hs⟩,rfl⟩
    repeat (first|exact fin _ (by simp only[aq,aA,aG,ny];omega)|refine⟨by first|omega|(simp only[aq,aA,aG];omega),?_⟩)
end Go.Proofs.Trees
namespace Go.Proofs.Trees
open Go Go.VL Go.RowKit
theorem eX.mono{b:AV}{p c c':Nat}{X Y:AV->Prop}(hc:c<=c')(h:∀r,X r->Y r){r:AV}{o:List Ob}(hr:eX b p c X r o):eX b p c' Y r o:=by
 obtain⟨q,h1,h2,h3,h4⟩:=hr;exact⟨q,h1,by omega,h r h3,h4⟩
theorem gl.le{n m:Nat}(h:n<=m){r:AV}(hr:gl n r):gl m r:=by obtain⟨s,h1,h2⟩:=hr;exact⟨s,h1,by omega⟩
theorem Qf(b:AV)(l:List UInt8)(hb:su b l)(p:Nat)(hp:p<p9):an Tryz.prog 143 [.ref 0 0] [.cells [b,.v (.int .i64 (p:Int))]] (eX b p 100 (gl 200)):=by
 refine Sc _ _ hb.has ?_
 unfold Oj
 have hfar:p9=1000000000000000:=rfl
 refine aP (vN b l hb p 12 (by omega) (by decide)) (eX.ne ⟨0,rfl,fun h=>by omega,by omega⟩) ?_
 rintro r o ⟨q,h1,h2,⟨k,rfl,_,_⟩,rfl⟩
 have kn:∀(c m:Nat) (r:AV) (o:List Ob),c<=90->m<=200->eX b q c (gl m) r o->∃q':Nat,∃s:List UInt8,r=.v (.string (mk s))/\o=[.cells [b,.v (.int .i64 (q':Int))]]/\eX b p 100 (gl 200) (.v (.string (mk s))) [.cells [b,.v (.int .i64 (q':Int))]]:=by
  rintro c m r o hc hm ⟨q',g1,g2,⟨s,rfl,hs⟩,rfl⟩
  exact⟨q',s,rfl,rfl,q',by omega,by omega,⟨s,rfl,by omega⟩,rfl⟩
 simp only[↓zq,zs,ae,aJ,hb.has]
 refine⟨fun _=>?_,fun _=>⟨fun _=>?_,fun _=>⟨fun _=>?_,fun _=>⟨fun _=>?_,fun _=>⟨fun _=>?_,fun _=>?_⟩⟩⟩⟩⟩
 ·refine aP (D1 b l hb q (by omega) _ _ (.of [_,_,_,_,_,_,_,_,_]) (by simp) (by simp)) (eX.ne ⟨_,ak,rfl⟩) ?_
  intro r o hr
  obtain⟨q',s,rfl,rfl,hd⟩:=kn 1 20 r o (by omega) (by omega) (hr.mono (au _) fun r h=>lg.cA (n:=20) (by decide) h)
  simp only[↓zq,zs,ae,aJ,hb.has];exact hd
 ·refine aP (Ce b l hb q (by omega)) (eX.ne ⟨[],rfl,by simp⟩) ?_
  intro r o hr
  obtain⟨q',s,rfl,rfl,hd⟩:=kn _ _ r o (by omega) (by omega) hr
  simp only[↓zq,zs,ae,aJ,hb.has];exact hd
 ·refine aP (Ce b l hb q (by omega)) (eX.ne ⟨[],rfl,by simp⟩) ?_
  intro r o hr
  obtain⟨q',s,rfl,rfl,hd⟩:=kn _ _ r o (by omega) (by omega) hr
  simp only[↓zq,zs,ae,aJ,hb.has];exact hd
 ·refine aP (Ce b l hb q (by omega)) (eX.ne ⟨[],rfl,by simp⟩) ?_
  intro r o hr
  obtain⟨q',s,rfl,rfl,hd⟩:=kn _ _ r o (by omega) (by omega) hr
  simp only[↓zq,zs,ae,aJ,hb.has];exact hd
 ·refine aP (GL b l hb 2 (by omega) q [[116],[116,49]] _ (ct.of [[116],[116,49]]) (by decide) (by simp) (by simp[nv];omega)) (eX.ne ⟨[],rfl,by simp⟩) ?_
  intro r o hr
  obtain⟨q',s,rfl,rfl,hd⟩:=kn _ _ r o (by simp[nv]) (by simp[ny]) hr
  simp only[↓zq,zs,ae,aJ,hb.has];exact hd
 ·refine aP (GL b l hb 3 (by omega) q [] _ (ct.of []) (by simp) (by simp) (by simp[nv];omega)) (eX.ne ⟨[],rfl,by simp⟩) ?_
  intro r o hr
  obtain⟨q',s,rfl,rfl,hd⟩:=kn _ _ r o (by simp[nv]) (by simp[ny]) hr
  simp only[↓zq,zs,ae,aJ,hb.has];exact hd
def yO(a:AV):Prop:=LK.sl.has a/\∃l:List UInt8,a.elems=qj l
def O4(r:AV)(o:List Ob):Prop:=∃(b:AV) (l:List UInt8),su b l/\r=.ref 0 0/\o=[.cells [b,.v (.int .i64 0)]]
theorem O4.ne:∃r o,O4 r o:=⟨_,_,.v (.slice none 0 0),[],⟨(bh).mpr trivial,rfl,by simp⟩,rfl,rfl⟩
theorem QD(a:AV)(ha:yO a):an Tryz.prog 32 [a] [] O4:=by
 obtain⟨hs,l,hl⟩:=ha
 have hln:a.elems.length=l.length:=by rw[hl];simp[qj]
 refine SB _ hs ?_
 simp only[J1,↓zq,zs,ae,hln]
 refine⟨hs,fun h=>⟨⟨hs,by omega⟩,?_⟩,fun h=>?_⟩
 ·refine⟨_,l.take 2000,⟨(cf _).mpr trivial,?_,?_⟩,rfl,rfl⟩
  ·rw[fG,hl];simp[qj]
  ·simp;omega
 ·exact⟨a,l,⟨hs,hl,by omega⟩,rfl,rfl⟩
end Go.Proofs.Trees
namespace Go.Proofs.Trees
open Go Go.VL Go.RowKit
theorem Cv(b:AV)(l:List UInt8)(hb:su b l){e:E}(h:Wf e):∀d:Int,d<=-13->-50000+(e.sz:Int)<=d->e.db<=400->jR b d e (5*e.sz) e.sz:=by
 induction h with
 |
  @atom s hs =>
  intro d h1 h2 h3
  exact(Nx b l hb d hs).mono (by simp[E.sz]) (by simp[E.sz])
 |
  @plus x y hx hy i1 i2 =>
  intro d h1 h2 h3
  have h4:=h3
  simp only[E.sz,E.jr,E.db,E.eY]at h2 h4 |-
  exact(Mw b l hb d (by omega) hx hy h3 (5*(x.sz+y.sz)+1) (x.sz+y.sz) ((i1 (d-1) (by omega) (by omega) (by omega)).mono (by omega) (by omega)) ((i2 (d-1) (by omega) (by omega) (by omega)).mono (by omega) (by omega)) (by omega)).mono (by omega) (by omega)
 |
  @times x y hx hy i1 i2 =>
  intro d h1 h2 h3
  have h4:=h3
  simp only[E.sz,E.jr,E.db,E.eY]at h2 h4 |-
  exact(Kt b l hb d (by omega) hx hy (5*x.sz+1) x.sz (5*y.sz+1) y.sz ((i1 (d-1) (by omega) (by omega) (by omega)).mono (by omega) (by omega)) ((i2 (d-1) (by omega) (by omega) (by omega)).mono (by omega) (by omega)) (by omega) (by omega)).mono (by omega) (by omega)
 |
  @rc n x hn hx i =>
  intro d h1 h2 h3
  simp only[E.sz,E.jr]at h2 |-
  exact(Mi b l hb d (by omega) hn hx h3 1 0 (fun h=>absurd h (by omega)) (by omega)).mono (by omega) (by omega)
def py:Nat->Nat
 |0=>6100
 |n+1=>2*py n+5
theorem Hh:∀n,6100<=py n
 |0=>au _
 |n+1=>by have:=Hh n;simp only[py];omega
theorem xH:∀n k:Nat,py (n+k)+5=2 ^ k*(py n+5)
 |n,0=>by simp
 |
  n,k+1=>by
  have:=xH n k
  rw[show n+(k+1)=n+k+1 from rfl,py,Nat.pow_succ,Nat.mul_comm (2 ^ k) 2,Nat.mul_assoc,<-this];omega
theorem BJ{n m:Nat}(h:n<=m):py n<=py m:=by
 obtain⟨k,rfl⟩:=Nat.exists_eq_add_of_le h
 have:=xH n k
 have h2:1*(py n+5)<=2 ^ k*(py n+5):=a8 _ Nat.one_le_two_pow
 omega
theorem KW:py 22<=30000000000:=by
 have:=xH 0 22
 simp only[aW]at this
 have h0:py 0=6100:=rfl
 rw[h0]at this
 omega
theorem yC(b:AV)(l:List UInt8)(hb:su b l):∀n:Nat,n<=40->∀e,Wf e->e.db<=400->jR b ((n:Int)-13) e (py n) (py n)
 |
  0,hn,e,h,hl=>by
  have:=h.sz
  exact(Cv b l hb h _ (by simp) (by simp;omega) hl).mono (by simp only[py];omega) (by simp only[py];omega)
 |
  n+1,hn,e,h,hl=>by
  have hb1:=Hh n
  have ih:∀g,Wf g->g.db<=400->jR b (((n+1:Nat):Int)-13-1) g (py n) (py n):=by
   rw[show ((n+1:Nat):Int)-13-1=(n:Int)-13 by omega];exact yC b l hb n (by omega)
  cases h with
  |@atom s hs=>exact(Nx b l hb _ hs).mono (by simp only[py];omega) (by simp only[py];omega)
  |
   @plus x y hx hy =>
   have h4:=hl
   simp only[E.db,E.eY]at h4
   exact(Mw b l hb _ (by omega) hx hy hl _ _ (ih x hx (by omega)) (ih y hy (by omega)) (by omega)).mono (by simp only[py];omega) (by simp only[py];omega)
  |
   @times x y hx hy =>
   simp only[E.db,E.eY]at hl
   exact(Kt b l hb _ (by omega) hx hy _ _ _ _ (ih x hx (by omega)) (ih y hy (by omega)) (by omega) (by omega)).mono (by simp only[py];omega) (by simp only[py];omega)
  |@rc m x hm hx=>exact(Mi b l hb _ (by omega) hm hx hl _ _ (fun _=>ih) (by omega)).mono (by simp only[py];omega) (by simp only[py];omega)
theorem Kn(b:AV)(l:List UInt8)(hb:su b l)(p:Nat)(hp:p<100000000000000)(s:Nm):an Tryz.prog 39 [.ref 0 0,.v (.string (mk s))] [.cells [b,.v (.int .i64 (p:Int))]] (eX b p 40000000000 (gl 40000000000)):=by
 refine Qa _ _ _ hb.has ?_
 have hfar:p9=1000000000000000:=rfl
 have oneL:∀(q:Nat) (r:AV) (o:List Ob),p<=q->q<=p+1->eX b q 1 (lg [[],[117],[101,48],[101,48,48],[101,49,48,48],[40,108,32,117,41],[40,112,32,117,41],[40,102,32,40,108,32,117,41,41],[40,120,32,117,41],[40,108,32,32,117,41]]) r o->∃q':Nat,∃t:List UInt8,r=.v (.string (mk t))/\o=[.cells [b,.v (.int .i64 (q':Int))]]/\eX b p 40000000000 (gl 40000000000) (.v (.string (mk t))) [.cells [b,.v (.int .i64 (q':Int))]]:=by
  rintro q r o h1 h2 ⟨q',g1,g2,hr,rfl⟩
  obtain⟨t,rfl,ht⟩:=lg.cA (n:=20) (by decide) hr
  exact⟨q',t,rfl,rfl,q',by omega,by omega,⟨t,rfl,by omega⟩,rfl⟩
 unfold La
 refine aP (F9 s) (jH.ne _ _ (fun h=>h)) ?_
 rintro r o ⟨c,d,hd,rfl,hh⟩
 have hhas:bF [.str,.sl] [.v (.string (mk c)),d] 0:=by simp[bF,dX,hd]
 simp only[↓zq,zs,ae,zt]
 refine⟨hhas,fun h=>?_,fun h=>?_⟩
 ·refine aP (D1 b l hb p (by omega) _ _ (.of [_,_,_,_,_,_,_,_,_,_]) (by simp) (by simp)) (eX.ne ⟨_,ak,rfl⟩) ?_
  intro r o hr
  obtain⟨q',t,rfl,rfl,hd⟩:=oneL p r o (au _) (by omega) hr
  simp only[↓zq,zs,ae,aJ,hb.has];exact hd
 ·obtain⟨e,he,hce⟩:=hh (by simpa using h)
  obtain⟨t,h1,hA,h3,h4,h5,_⟩:=gZ he
  rw[dj]at hce
  simp only[AV.agg.injEq,List.cons.injEq,AV.v.injEq,Value.string.injEq,and_true]at hce
  obtain⟨hc1,rfl⟩:=hce
  have hc2:=mk_inj hc1
  subst hc2
  obtain⟨hw,hwt⟩:=ko e [] t hA.ok (by simp) hA.ty
  have hats:e.db<=400:=by rw[hw.db [],hwt];exact h5
  have hsz:=hw.sz
  refine aP (vN b l hb p 16 (by omega) (by decide)) (eX.ne ⟨0,rfl,fun h=>by omega,by omega⟩) ?_
  rintro r o ⟨q,h1,h2,⟨k,rfl,_,_⟩,rfl⟩
  simp only[↓zq,zs,ae,aJ,hb.has]
  refine⟨fun _=>?_,fun _=>?_⟩
  ·refine aP (D1 b l hb q (by omega) _ _ (.of [_,_,_,_,_,_,_,_,_,_]) (by simp) (by simp)) (eX.ne ⟨_,ak,rfl⟩) ?_
   intro r o hr
   obtain⟨q',t,rfl,rfl,hd⟩:=oneL q r o h1 h2 hr
   simp only[↓zq,zs,ae,aJ,hb.has];exact hd
  ·obtain⟨w1,w2,_⟩:=xG (os:=[]) hw
   have hap:=D8 hw (.v (.slice none 0 0)) [] ⟨(bh).mpr trivial,rfl⟩ (by omega) (by simp) (by simp)
   refine ai hap ?_
   simp only[↓zq,zs,ae,zt,aL]
   repeat refine⟨by omega,?_⟩
   have hats2:(zM e []).db<=400:=by rw[w1.db [],w2,<-hw.db []];exact hats
   refine aP (vN b l hb q 5 (by omega) (by decide)) (eX.ne ⟨0,rfl,fun h=>by omega,by omega⟩) ?_
   rintro r o ⟨q1,g1,g2,⟨k1,rfl,c3,_⟩,rfl⟩
   have hk1:=c3 (by omega)
   simp only[↓zq,zs,ae,zt,aJ,hb.has,aL]
   have ed:IntKind.wrap .i64 (5+(k1:Int))=((18+k1:Nat):Int)-13:=by rw[VL.wrap64 _ (by omega) (by omega)];omega
   have hB:=KW
   have hB2:py (18+k1)<=py 22:=BJ (by omega)
   have hB3:=Hh (18+k1)
   rw[ed]
   refine aP (yC b l hb (18+k1) (by omega) (zM e []) w1 hats2 q1 (by omega)) (oM b q1 _ _ (by omega)) ?_
   rintro r o ⟨q2,d1,d2,⟨f,rfl,f1,f2⟩,rfl⟩
   simp only[↓zq,zs,ae,zt,aJ,hb.has,aL]
   repeat refine⟨by omega,?_⟩
   have ht:=DJ (f.sz+1) f (by omega) f1 (by omega)
   rw[dj]at ht
   refine ai ht ?_
   simp only[↓zq,zs,ae,zt,aJ,hb.has,aL]
   exact⟨q2,by omega,by omega,⟨e9 f,rfl,by omega⟩,rfl⟩
theorem PZ(b:AV)(l:List UInt8)(hb:su b l)(p:Nat)(hp:p<100000000000000):an Tryz.prog 106 [.ref 0 0] [.cells [b,.v (.int .i64 (p:Int))]] (eX b p 200 (gl 200)):=by
 refine SV _ _ hb.has ?_
 unfold LH
 have hfar:p9=1000000000000000:=rfl
 refine aP (vN b l hb p 8 (by omega) (by decide)) (eX.ne ⟨0,rfl,fun h=>by omega,by omega⟩) ?_
 rintro r o ⟨q,h1,h2,⟨k,rfl,_,_⟩,rfl⟩
 have kn:∀(c m:Nat) (r:AV) (o:List Ob),c<=190->m<=200->eX b q c (gl m) r o->∃q':Nat,∃s:List UInt8,r=.v (.string (mk s))/\o=[.cells [b,.v (.int .i64 (q':Int))]]/\eX b p 200 (gl 200) (.v (.string (mk s))) [.cells [b,.v (.int .i64 (q':Int))]]:=by
  rintro c m r o hc hm ⟨q',g1,g2,⟨s,rfl,hs⟩,rfl⟩
  exact⟨q',s,rfl,rfl,q',by omega,by omega,⟨s,rfl,by omega⟩,rfl⟩
 have sh:=GL b l hb 3 (by omega) q [] _ (ct.of []) (by simp) (by simp) (by simp[nv];omega)
 have ty:=Qf b l hb q (by omega)
 have kw:=Ce b l hb q (by omega)
 simp only[↓zq,zs,ae,aJ,hb.has]
 refine⟨fun _=>?_,fun _=>⟨fun _=>?_,fun _=>⟨fun _=>?_,fun _=>⟨fun _=>?_,fun _=>?_⟩⟩⟩⟩
 ·refine aP ty (eX.ne ⟨[],rfl,by simp⟩) ?_
  intro r o hr
  obtain⟨q',s,rfl,rfl,hd⟩:=kn _ _ r o (by omega) (by omega) hr
  simp only[↓zq,zs,ae,aJ,hb.has];exact hd
 ·refine aP sh (eX.ne ⟨[],rfl,by simp⟩) ?_
  intro r o hr
  obtain⟨q',s,rfl,rfl,hd⟩:=kn _ _ r o (by simp[nv]) (by simp[ny]) hr
  simp only[↓zq,zs,ae,aJ,hb.has];exact hd
 ·refine aP sh (eX.ne ⟨[],rfl,by simp⟩) ?_
  intro r o hr
  obtain⟨q',s,rfl,rfl,hd⟩:=kn _ _ r o (by simp[nv]) (by simp[ny]) hr
  simp only[↓zq,zs,ae,aJ,hb.has];exact hd
 ·refine aP sh (eX.ne ⟨[],rfl,by simp⟩) ?_
  intro r o hr
  obtain⟨q',s,rfl,rfl,hd⟩:=kn _ _ r o (by simp[nv]) (by simp[ny]) hr
  simp only[↓zq,zs,ae,aJ,hb.has];exact hd
 ·refine aP kw (eX.ne ⟨[],rfl,by simp⟩) ?_
  intro r o hr
  obtain⟨q',s,rfl,rfl,hd⟩:=kn _ _ r o (by omega) (by omega) hr
  simp only[↓zq,zs,ae,aJ,hb.has];exact hd
def N5:AV->Prop:=fun r=>∃s t:Nm,r=.cG [.v (.string (mk s)),.v (.string (mk t))]
theorem Q8(b:AV)(l:List UInt8)(hb:su b l)(p:Nat)(hp:p<10000000000000):an Tryz.prog 76 [.ref 0 0] [.cells [b,.v (.int .i64 (p:Int))]] (eX b p 50000000000 N5):=by
 refine Rd _ _ hb.has ?_
 unfold JD
 refine aP (PZ b l hb p (by omega)) (eX.ne ⟨[],rfl,by simp⟩) ?_
 rintro r o ⟨q,h1,h2,⟨s,rfl,_⟩,rfl⟩
 simp only[↓zq,zs,ae,aJ,hb.has]
 refine aP (Kn b l hb q (by omega) s) (eX.ne ⟨[],rfl,by simp⟩) ?_
 rintro r o ⟨q1,g1,g2,⟨t,rfl,_⟩,rfl⟩
 simp only[↓zq,zs,ae,aJ,hb.has]
 exact⟨q1,by omega,by omega,⟨s,t,rfl⟩,rfl⟩
theorem P7(b:AV)(l:List UInt8)(hb:su b l)(p:Nat)(hp:p<1000000000000):an Tryz.prog 53 [.ref 0 0] [.cells [b,.v (.int .i64 (p:Int))]] (eX b p 60000000000 N5):=by
 refine Rr _ _ hb.has ?_
 unfold Kh
 have hfar:p9=1000000000000000:=rfl
 refine aP (Ce b l hb p (by omega)) (eX.ne ⟨[],rfl,by simp⟩) ?_
 rintro r o ⟨q,h1,h2,⟨s,rfl,_⟩,rfl⟩
 simp only[↓zq,zs,ae,aJ,hb.has]
 refine aP (vN b l hb q 12 (by omega) (by decide)) (eX.ne ⟨0,rfl,fun h=>by omega,by omega⟩) ?_
 rintro r o ⟨q1,g1,g2,⟨k,rfl,_,_⟩,rfl⟩
 simp only[↓zq,zs,ae,aJ,hb.has]
 refine⟨fun _=>?_,fun _=>?_⟩
 ·refine aP (Q8 b l hb q1 (by omega)) (eX.ne ⟨[],[],rfl⟩) ?_
  rintro r o ⟨q2,e1,e2,⟨x,y,rfl⟩,rfl⟩
  simp only[↓zq,zs,ae,zt,aJ,hb.has]
  exact⟨q2,by omega,by omega,⟨x,y,rfl⟩,rfl⟩
 ·refine aP (Kn b l hb q1 (by omega) s) (eX.ne ⟨[],rfl,by simp⟩) ?_
  rintro r o ⟨q2,e1,e2,⟨t,rfl,_⟩,rfl⟩
  simp only[↓zq,zs,ae,aJ,hb.has]
  exact⟨q2,by omega,by omega,⟨s,t,rfl⟩,rfl⟩
end Go.Proofs.Trees
namespace Go.Proofs.Trees
open Go Go.VL Go.RowKit
theorem Bl(w:Nm)(c1 c2:Nm)(d1 d2:AV):an Tryz.prog 81 [.v (.string (mk w)),.sl [[.v (.string (mk c1)),d1],[.v (.string (mk c2)),d2]]] [] (bK (.agg [.v (.string (mk [])),.sl [[.v (.string (mk w)),yz],[.v (.string (mk c1)),d1],[.v (.string (mk c2)),d2]]])):=by
 refine K0 _ _ ((cf _).mpr trivial) ?_
 simp only[IE,↓zq,zs,ae,bK]
 exact⟨⟨fun c hc=>by
  simp only[aK,List.not_mem_nil,or_false]at hc
  rcases hc with rfl|rfl<;>rfl,by omega⟩,rfl⟩
theorem Nn(F:List Nm)(hF:F.length<100000)(c1 c2:Nm)(d1 d2:AV)(h1:LK.sl.has d1)(h2:LK.sl.has d2):∀(n j:Nat),qo F n j<j+n->j+n<100000000 ->
 GX [.v (.int .i64 (j:Int))] [zE,.cells [.v (.string (mk c1)),d1],.cells [.v (.string (mk c2)),d2],.vec 1 (bJ F)] (gV 1 [.v (.int .i64 (qo F n j:Int))] [zE,.cells [.v (.string (mk c1)),d1],.cells [.v (.string (mk c2)),d2]])
 |0,j,h,_=>by simp only[qo]at h;omega
 |
  n+1,j,h,hj=>by
  refine Rf _ _ _ _ _ _ _ _ ?_
  simp only[MH,↓zq,zs,ae,zt,ae,bh,h1,h2]
  refine ai (zo (j+1) j (by omega) (by omega)) ?_
  have hd:=mB (j+1) j (by omega)
  simp only[↓zq,zs,ae,zt,bc,aT]
  refine⟨by simp[cM];omega,?_⟩
  refine ai (FQ F _ (.of F) (tN j) (by omega)) ?_
  simp only[↓zq,zs,ae,zt]
  rw[qo]at h |-
  refine⟨fun hm=>?_,fun hm=>?_⟩
  ·rw[if_pos hm]at h |-
   rw[bA j (by omega)]
   exact Nn F hF c1 c2 d1 d2 h1 h2 n (j+1) (by omega) (by omega)
  ·rw[if_neg hm]
   exact⟨rfl,rfl,rfl⟩
theorem ud{x:Nm}{a c d:Ty}(h:(pW a x c d).atoms<=400):(sub x (.rc a) c).atoms<=400/\(sub x (.rc a) d).atoms<=400:=by
 simp only[pW,Ty.atoms]at h;omega
theorem Wf.iN{e:E}(h:Wf e){t:Ty}(ht:cR e []=t)(hl:t.atoms<=400):e.db<=400:=by rw[h.db [],ht];exact hl
def S1(n:Nat):Prop:=∀(e:E) (s:Nm),Wf e->e.db<=n->e.db<=400->qO s->an Tryz.prog 122 [.agg [.v (.string (mk e.at)),e.sp],.v (.string (mk s))] [] (lj (lH (cR e []) s))
theorem ke{e:E}{s:Nm}(h:Wf e):∀t,lH (cR e []) s=some t->fX t:=fun t ht=>h.qH.dv (cQ.1 ht)
theorem rB{t:Ty}(h:fX t):∀d,nD t=some d->fX d:=fun d hd=>by obtain⟨_,rfl⟩:=eN.1 hd;exact h
theorem P1(n:Nat)(ih:S1 n)(m:Nm)(B:E)(hm:qO m)(hB:Wf B)(hl:(E.list [.atom dE,.atom m,B]).db<=n+1)(hl4:(E.list [.atom dE,.atom m,B]).db<=400)(s:Nm)(hs:qO s) :
 an Tryz.prog 147 [.agg [.v (.string (mk [])),(E.list [.atom dE,.atom m,B]).sp],.v (.string (mk s))] [] (lj (lH (cR (.list [.atom dE,.atom m,B]) []) s)):=by
 have hw:Wf (.list [.atom dE,.atom m,B]):=.rc hm hB
 have hsz:=hw.sz
 have hA:=D8 hw (.sl [[.v (.string (mk s)),yz]]) [.atom s] ⟨(cf _).mpr trivial,by simp only[fG,E.bw,fM];rfl⟩ (by omega) (fun o ho=>by
  simp only[aK,List.not_mem_nil,or_false]at ho
  subst ho
  exact⟨.atom hs.1,by simp[E.sz]⟩) (by simp)
 have hatsB:B.db+2=(E.list [.atom dE,.atom m,B]).db:=by simp only[E.db,E.eY];omega
 have hT:cR (.list [.atom dE,.atom m,B]) []=.rc (cR B [m]):=ff _ _ _
 obtain⟨w1,w2,_,_,w5⟩:=ku (AA (.list [.atom dE,.atom m,B]) [.atom s]) (cR (.list [.atom dE,.atom m,B]) []) [] 0 (.nil _ _) (ub hw []) fun y hy=>⟨aD _ ((lV hw [] [] y).2 (.inr hy)),(ns hw [] y hy).1⟩
 have hsF:s∈AA (.list [.atom dE,.atom m,B]) [.atom s]:=aB _ (sr (o:=.atom s) (by simp) (.atom hs.1) (by rw[rQ hs];simp[bn]))
 have haF:∀y,bn y (cR B [m])=true->y∈AA (.list [.atom dE,.atom m,B]) [.atom s]:=fun y hy=>aD _ ((lV hw [] [] y).2 (.inr (by rw[hT];exact hy)))
 unfold zM at hA
 rw[hT]at hA w1 w2 w5
 rw[hT]
 generalize AA (.list [.atom dE,.atom m,B]) [.atom s]=F at *
 obtain⟨_,_,_,hxF⟩:=gA F 0
 simp only[gY,aT]at hA w1 w2 w5
 generalize hxd:tN (nx F 0)=x at *
 have hx:qO x:=by rw[<-hxd];exact yP _
 generalize (gY F (cR B [m]) [x] (nx F 0+1)).1=b at *
 have hb:Wf b:=by cases w1;assumption
 rw[ff]at w2
 have hbt:cR b [x]=cR B [m]:=by injection w2
 have hxa:bn x (cR B [m])=false:=by
  cases q:bn x (cR B [m])with
  |false=>rfl
  |true=>exact absurd (haF x q) hxF
 have hxs:x≠s:=fun e=>hxF (by rw[e];exact hsF)
 generalize cR B [m]=a at *
 have hbo:cR b []=dy (.name x) a 0:=by
  have:=yU x hb []
  rw[cX,hbt]at this;exact this
 have hba:b.db+2=(E.list [.atom dE,.atom m,B]).db:=by
  rw[hw.db [],hT,hb.db [],hbo,fK];simp only[Ty.atoms];omega
 have i1:=ih b s hb (by omega) (by omega) hs
 have i2:=ih b x hb (by omega) (by omega) hx
 have n1:=ke (s:=s) hb
 have n2:=ke (s:=x) hb
 rw[hbo]at i1 i2 n1 n2
 have hP:=P3.of (.atom dE) (.atom x) b
 rw[Co hxa hxs]
 have hE1:Wf (.list [.atom dE,.atom x,b]):=w1
 have hE1t:cR (.list [.atom dE,.atom x,b]) []=.rc a:=by rw[ff];exact w2
 have hE1l:(E.list [.atom dE,.atom x,b]).db<=400:=by
  have:(E.list [.atom dE,.atom x,b]).db=b.db+2:=by simp only[E.db,E.eY];omega
  omega
 refine R4 _ _ _ ((aX _).mpr trivial) ?_
 unfold Kk
 refine ai hA ?_
 simp only[↓zq,zs,ae,zt,aL,bM,toNat_one,bg,hP.1,hP.2.1,hP.2.2.1,hP.2.2.2,dR]
 repeat refine⟨by omega,?_⟩
 refine aP i1 (lj.ne n1) ?_
 rintro r o ⟨rfl,c1,d1,hd1,rfl,hc1⟩
 simp only[↓zq,zs,ae,zt,gx hd1]
 repeat refine⟨by omega,?_⟩
 refine aP i2 (lj.ne n2) ?_
 rintro r o ⟨rfl,c2,d2,hd2,rfl,hc2⟩
 simp only[↓zq,zs,ae,zt,gx hd2]
 cases q1:lH (dy (.name x) a 0) s with
 |
  none =>
  simp only[bu,bI]
  exact⟨fun _=>lj.no _ _ ((aX _).mpr trivial),fun h=>(by cases h)⟩
 |some c =>
 cases q2:lH (dy (.name x) a 0) x with
 |
  none =>
  simp only[bu,aY,bI,a6]
  exact⟨fun h=>(by cases h),fun _=>⟨fun _=>lj.no _ _ ((aX _).mpr trivial),fun h=>(by cases h)⟩⟩
 |some d =>
 simp only[aY,a6]
 refine⟨fun h=>(by cases h),fun _=>⟨fun h=>(by cases h),fun _=>?_⟩⟩
 obtain⟨ec,wc,tc,rfl,rfl⟩:=hc1 c q1
 obtain⟨ed,wd,td,rfl,rfl⟩:=hc2 d q2
 have lc:=(cQ.1 q1).small
 have ld:=(cQ.1 q2).small
 have p1:=Hr hx wc hE1 (wc.iN tc lc) hE1l
 have p2:=Hr hx wd hE1 (wd.iN td ld) hE1l
 have g1:=rB (hE1.qH.sub (x:=x) wc.qH)
 have g2:=rB (hE1.qH.sub (x:=x) wd.qH)
 rw[hE1t,tc]at p1 g1
 rw[hE1t,td]at p2 g2
 simp only[bM]at p1 p2
 repeat refine⟨by omega,?_⟩
 refine aP p1 (lj.ne g1) ?_
 rintro r o ⟨rfl,c3,d3,hd3,rfl,hc3⟩
 simp only[↓zq,zs,ae,zt,gx hd3]
 repeat refine⟨by omega,?_⟩
 refine aP p2 (lj.ne g2) ?_
 rintro r o ⟨rfl,c4,d4,hd4,rfl,hc4⟩
 simp only[↓zq,zs,ae,zt,gx hd4]
 have big:∀t:Ty,nD t=none->¬t.atoms<=400:=fun t ht hle=>by unfold nD at ht;rw[if_pos hle]at ht;cases ht
 have out0:(nD (sub x (.rc a) c)=none\/nD (sub x (.rc a) d)=none)->nD (pW a x c d)=none:=fun h=>by
  unfold nD
  rw[if_neg fun hle=>?_]
  have:=ud hle
  rcases h with h|h
  ·exact big _ h this.1
  ·exact big _ h this.2
 cases q3:nD (sub x (.rc a) c)with
 |
  none =>
  rw[out0 (.inl q3)]
  simp only[bu]
  exact⟨fun _=>lj.no _ _ ((aX _).mpr trivial),fun h=>(by cases h)⟩
 |some c' =>
 cases q4:nD (sub x (.rc a) d)with
 |
  none =>
  rw[out0 (.inr q4)]
  simp only[bu,aY]
  exact⟨fun h=>(by cases h),fun _=>⟨fun _=>lj.no _ _ ((aX _).mpr trivial),fun h=>(by cases h)⟩⟩
 |some d' =>
 simp only[aY]
 refine⟨fun h=>(by cases h),fun _=>⟨fun h=>(by cases h),fun _=>?_⟩⟩
 obtain⟨ec',wc',tc',rfl,rfl⟩:=hc3 c' q3
 obtain⟨ed',wd',td',rfl,rfl⟩:=hc4 d' q4
 obtain⟨lc',e3⟩:=eN.1 q3
 obtain⟨ld',e4⟩:=eN.1 q4
 rw[e3]at lc';rw[e4]at ld'
 have z1:=wc'.sz
 have z2:=wd'.sz
 have k1:=wc'.iN tc' lc'
 have k2:=wd'.iN td' ld'
 have f1:=DW wd' [] [] (.sl []) (.of []) (by simp;omega)
 have fl1:=fY ed' [] []
 have fl2:=fY ec' [] (kp ed' [] [])
 simp only[aG,aW]at fl1
 have f2:=DW wc' [] (kp ed' [] []) (.sl []) (.of []) (by simp;omega)
 refine aV f1 ?_
 simp only[↓zq,zs,ae,zt,aO,bz,Ob.es]
 refine aV f2 ?_
 simp only[↓zq,zs,ae,zt,aO,bz,Ob.es]
 have hF3:∀y,(bn y c'=true\/bn y d'=true)->y∈kp ec' [] (kp ed' [] []):=fun y hy=>by
  rw[lV wc',lV wd']
  rcases hy with hy|hy
  ·exact .inr (by rw[tc'];exact hy)
  ·exact .inl (.inr (by rw[td'];exact hy))
 generalize kp ec' [] (kp ed' [] [])=F3 at *
 obtain⟨_,y2,_,hyF⟩:=gA F3 0
 refine cz (Nn F3 (by omega) _ _ _ _ ((aX _).mpr trivial) ((aX _).mpr trivial) (F3.length+1) 0 (by show nx F3 0<_;omega) (by omega)) ?_
 have hnx:qo F3 (F3.length+1) 0=nx F3 0:=rfl
 rw[hnx]
 simp only[↓zq,zs,ae,zt,ae,aJ,bh,aX]
 refine ai (zo (nx F3 0+1) (nx F3 0) (by omega) (by omega)) ?_
 have hdl:=mB (nx F3 0+1) (nx F3 0) (by omega)
 simp only[↓zq,zs,ae,zt,bc,aT]
 refine⟨by omega,?_⟩
 obtain⟨y,hyd⟩:∃y:Nm,(116::dd (nx F3 0):Nm)=y:=⟨_,rfl⟩
 rw[hyd]
 rw[show tN (nx F3 0)=y from hyd]at hyF
 have hy:qO y:=by rw[<-hyd];exact yP _
 have hcy:cR ec' [y]=c':=by
  have:=uo [y] wc' [] (fun z hz hm=>hyF (by
   simp only[aR]at hm
   rw[<-hm];exact hF3 z (.inl (by rw[<-tc'];exact hz))))
  rw[cX,tc']at this;exact this
 have hdy:cR ed' [y]=d':=by
  have:=uo [y] wd' [] (fun z hz hm=>hyF (by
   simp only[aR]at hm
   rw[<-hm];exact hF3 z (.inr (by rw[<-td'];exact hz))))
  rw[cX,td']at this;exact this
 have hyb:cR (.atom y) [y]=.bound 0:=by
  simp only[cR];rw[if_neg hy.2.1,if_neg hy.2.2,show bQ y [y] [y].length=some 0 from fm y []]
 let o1:E:=.list [.atom [42],ed',.atom y]
 let o2:E:=.list [.atom [43],ec',o1]
 let o3:E:=.list [.atom dE,.atom y,o2]
 have hw3:Wf o3:=.rc hy (.plus wc' (.times wd' (.atom hy.1)))
 have ht3:cR o3 []=pW a x c d:=by
  show cR (.list [.atom dE,.atom y,o2]) []=_
  rw[ff]
  show Ty.rc (cR (.list [.atom [43],ec',o1]) [y])=_
  rw[dJ]
  show Ty.rc (.plus (cR ec' [y]) (cR (.list [.atom [42],ed',.atom y]) [y]))=_
  rw[dr,hcy,hdy,hyb,pW,e3,e4]
 have m1:=w7 [42] ed' (.atom y)
 have m2:=w7 [43] ec' o1
 have m3:=w7 dE (.atom y) o2
 simp only[o1,bM,dR]at m1 m2 m3
 refine ai m1 ?_
 simp only[↓zq,zs,ae,zt,aL]
 repeat refine⟨by omega,?_⟩
 refine ai m2 ?_
 simp only[↓zq,zs,ae,zt,aL]
 repeat refine⟨by omega,?_⟩
 refine ai m3 ?_
 simp only[↓zq,zs,ae,zt,aL]
 repeat refine⟨by omega,?_⟩
 have z3:=hw3.sz
 have hats3:o3.db=ec'.db+ed'.db+5:=by simp only[o3,o2,o1,E.db,E.eY];omega
 have ma:=Ep o3 hw3.ok (by omega)
 rw[dj]at ma
 simp only[o3,o2,o1,bM]at ma
 refine ai ma ?_
 simp only[↓zq,zs,ae,zt]
 have hd3:(pW a x c d).atoms=o3.db:=by rw[<-ht3,<-hw3.db []]
 unfold nD
 by_cases hle:(pW a x c d).atoms<=400
 ·rw[if_pos hle]
  have:=lj.of hw3
  rw[ht3]at this
  rw[show decide ((((E.list [.atom dE,.atom y,.list [.atom [43],ec',.list [.atom [42],ed',.atom y]]]).db:Nat):Int)<=400)=true from decide_eq_true (by show ((o3.db:Nat):Int)<=400;omega)]
  exact this
 ·rw[if_neg hle]
  rw[show decide ((((E.list [.atom dE,.atom y,.list [.atom [43],ec',.list [.atom [42],ed',.atom y]]]).db:Nat):Int)<=400)=false from decide_eq_false (by show ¬((o3.db:Nat):Int)<=400;omega)]
  exact lj.no _ _ ((aX o3).mpr trivial)
theorem zw:∀n,S1 n
 |0=>fun e s h hl=>by have:=ej (cR e []);rw[<-h.db []]at this;omega
 |
  n+1=>by
  intro e s h hl h4 hs
  cases h with
  |
   @atom c hc =>
   refine C7 _ _ _ ((aX _).mpr trivial) ?_
   simp only[Bv,dR,↓zq,zs,ae,zt]
   refine⟨fun _=>⟨fun he=>?_,fun hne=>?_⟩,fun h=>absurd h hc⟩
   ·have he:c=s:=he
    subst he
    rw[rQ hs,ov,if_pos rfl]
    exact lj.of (e:=.atom [49]) (.atom (by simp))
   ·have hne:¬c=s:=hne
    have:lH (cR (.atom c) []) s=some .zero:=by
     simp only[cR]
     split
     ·exact wh _
     ·split
      ·exact yg _
      ·rw[show bQ c [] ([]:List Nm).length=none from rfl,ov,if_neg hne]
    rw[this]
    exact lj.of (e:=.atom [48]) (.atom (by simp))
  |
   @plus x y hx hy =>
   have hxy:(E.list [.atom [43],x,y]).db=x.db+y.db+1:=by simp only[E.db,E.eY];omega
   have p1:1<=x.db:=by rw[hx.db []];exact ej _
   have p2:1<=y.db:=by rw[hy.db []];exact ej _
   refine C7 _ _ _ ((aX _).mpr trivial) ?_
   have hP:=P3.of (.atom [43]) x y
   simp only[Bv,bM,toNat_one,bg,↓zq,zs,ae,zt,hP.1,hP.2.1,hP.2.2.1,hP.2.2.2,aL]
   refine⟨fun h=>absurd rfl h,fun _=>?_⟩
   refine ai (n7 [43] x y) ?_
   simp only[↓zq,zs,ae,zt]
   refine⟨fun h=>by simp at h,fun _=>?_⟩
   repeat refine⟨by omega,?_⟩
   rw[dJ,wa]
   refine aP (zw n x s hx (by omega) (by omega) hs) (lj.ne (ke hx)) ?_
   rintro r o ⟨rfl,c1,d1,hd1,rfl,hc1⟩
   simp only[↓zq,zs,ae,zt,gx hd1]
   repeat refine⟨by omega,?_⟩
   refine aP (zw n y s hy (by omega) (by omega) hs) (lj.ne (ke hy)) ?_
   rintro r o ⟨rfl,c2,d2,hd2,rfl,hc2⟩
   simp only[↓zq,zs,ae,zt,gx hd2]
   refine ai (Bl [43] c1 c2 d1 d2) ?_
   simp only[↓zq,zs,ae,zt,bF,dX,cf]
   repeat refine⟨by omega,?_⟩
   refine ai (n7 [43] x y) ?_
   simp only[↓zq,zs,ae,zt]
   refine⟨fun h=>by simp at h,fun _=>?_⟩
   cases q1:lH (cR x []) s with
   |
    none =>
    simp only[bu,bI]
    exact⟨fun h=>(by cases h),fun _=>lj.no _ _ ((cf _).mpr trivial)⟩
   |some tx =>
   cases q2:lH (cR y []) s with
   |
    none =>
    simp only[bu,aY,bI,a6]
    exact⟨fun _=>⟨fun h=>(by cases h),fun _=>lj.no _ _ ((cf _).mpr trivial)⟩,fun h=>(by cases h)⟩
   |some t2 =>
   simp only[aY,a6]
   refine⟨fun _=>⟨fun _=>?_,fun h=>(by cases h)⟩,fun h=>(by cases h)⟩
   obtain⟨e1,w1,te1,rfl,rfl⟩:=hc1 tx q1
   obtain⟨e2,w2,te2,rfl,rfl⟩:=hc2 t2 q2
   have l1:=w1.iN te1 (cQ.1 q1).small
   have l2:=w2.iN te2 (cQ.1 q2).small
   have z1:=w1.sz
   have z2:=w2.sz
   have hw3:Wf (.list [.atom [43],e1,e2]):=.plus w1 w2
   have ht3:cR (.list [.atom [43],e1,e2]) []=.plus tx t2:=by rw[dJ,te1,te2]
   have ma:=Ep _ hw3.ok (by simp only[E.sz,E.jr];omega)
   rw[dj]at ma
   simp only[bM]at ma
   have e3:AV.sl [[.v (.string (mk [43])),yz],[.v (.string (mk e1.at)),e1.sp],[.v (.string (mk e2.at)),e2.sp]]=(E.list [.atom [43],e1,e2]).sp:=by simp only[E.sp,E.bw,fM];rfl
   rw[e3]
   refine ai ma ?_
   simp only[↓zq,zs,ae,zt]
   have hd3:(Ty.plus tx t2).atoms=(E.list [.atom [43],e1,e2]).db:=by rw[<-ht3,<-hw3.db []]
   unfold nD
   by_cases hle:(Ty.plus tx t2).atoms<=400
   ·rw[if_pos hle,show decide ((((E.list [.atom [43],e1,e2]).db:Nat):Int)<=400)=true from decide_eq_true (by omega)]
    have:=lj.of hw3
    rw[ht3]at this
    exact this
   ·rw[if_neg hle,show decide ((((E.list [.atom [43],e1,e2]).db:Nat):Int)<=400)=false from decide_eq_false (by omega)]
    exact lj.no _ _ ((aX _).mpr trivial)
  |
   @times x y hx hy =>
   have hxy:(E.list [.atom [42],x,y]).db=x.db+y.db+1:=by simp only[E.db,E.eY];omega
   have p1:1<=x.db:=by rw[hx.db []];exact ej _
   have p2:1<=y.db:=by rw[hy.db []];exact ej _
   refine C7 _ _ _ ((aX _).mpr trivial) ?_
   have hP:=P3.of (.atom [42]) x y
   simp only[Bv,bM,toNat_one,bg,↓zq,zs,ae,zt,hP.1,hP.2.1,hP.2.2.1,hP.2.2.2,aL]
   refine⟨fun h=>absurd rfl h,fun _=>?_⟩
   refine ai (n7 [42] x y) ?_
   simp only[↓zq,zs,ae,zt]
   refine⟨fun h=>by simp at h,fun _=>?_⟩
   repeat refine⟨by omega,?_⟩
   rw[dr,sN]
   refine aP (zw n x s hx (by omega) (by omega) hs) (lj.ne (ke hx)) ?_
   rintro r o ⟨rfl,c1,d1,hd1,rfl,hc1⟩
   simp only[↓zq,zs,ae,zt,gx hd1]
   repeat refine⟨by omega,?_⟩
   refine aP (zw n y s hy (by omega) (by omega) hs) (lj.ne (ke hy)) ?_
   rintro r o ⟨rfl,c2,d2,hd2,rfl,hc2⟩
   simp only[↓zq,zs,ae,zt,gx hd2]
   refine ai (Bl [43] c1 c2 d1 d2) ?_
   simp only[↓zq,zs,ae,zt,bF,dX,cf]
   repeat refine⟨by omega,?_⟩
   refine ai (n7 [42] x y) ?_
   simp only[↓zq,zs,ae,zt]
   refine⟨fun _=>?_,fun h=>by simp at h⟩
   repeat refine⟨by omega,?_⟩
   refine ai (Bl [42] c1 y.at d1 y.sp) ?_
   simp only[↓zq,zs,ae,zt,bF,dX,cf,aX]
   repeat refine⟨by omega,?_⟩
   refine ai (Bl [42] x.at c2 x.sp d2) ?_
   simp only[↓zq,zs,ae,zt,bF,dX,cf,aX]
   repeat refine⟨by omega,?_⟩
   refine ai (Bl [43] [] [] _ _) ?_
   simp only[↓zq,zs,ae,zt,bF,dX,cf]
   repeat refine⟨by omega,?_⟩
   cases q1:lH (cR x []) s with
   |
    none =>
    simp only[bu,bI]
    exact⟨fun h=>(by cases h),fun _=>lj.no _ _ ((cf _).mpr trivial)⟩
   |some tx =>
   cases q2:lH (cR y []) s with
   |
    none =>
    simp only[bu,aY,bI,a6]
    exact⟨fun _=>⟨fun h=>(by cases h),fun _=>lj.no _ _ ((cf _).mpr trivial)⟩,fun h=>(by cases h)⟩
   |some t2 =>
   simp only[aY,a6]
   refine⟨fun _=>⟨fun _=>?_,fun h=>(by cases h)⟩,fun h=>(by cases h)⟩
   obtain⟨e1,w1,te1,rfl,rfl⟩:=hc1 tx q1
   obtain⟨e2,w2,te2,rfl,rfl⟩:=hc2 t2 q2
   have l1:=w1.iN te1 (cQ.1 q1).small
   have l2:=w2.iN te2 (cQ.1 q2).small
   have z1:=w1.sz
   have z2:=w2.sz
   have z3:=hx.sz
   have z4:=hy.sz
   have hw3:Wf (.list [.atom [43],.list [.atom [42],e1,y],.list [.atom [42],x,e2]]):=.plus (.times w1 hy) (.times hx w2)
   have ht3:cR (.list [.atom [43],.list [.atom [42],e1,y],.list [.atom [42],x,e2]]) []=.plus (.times tx (cR y [])) (.times (cR x []) t2):=by rw[dJ,dr,dr,te1,te2]
   have ma:=Ep _ hw3.ok (by simp only[E.sz,E.jr];omega)
   rw[dj]at ma
   simp only[bM]at ma
   have e3:AV.sl [[.v (.string (mk [43])),yz],[.v (.string (mk [])),.sl [[.v (.string (mk [42])),yz],[.v (.string (mk e1.at)),e1.sp],[.v (.string (mk y.at)),y.sp]]],[.v (.string (mk [])),.sl [[.v (.string (mk [42])),yz],[.v (.string (mk x.at)),x.sp],[.v (.string (mk e2.at)),e2.sp]]]]=(E.list [.atom [43],.list [.atom [42],e1,y],.list [.atom [42],x,e2]]).sp:=by simp only[E.sp,E.bw,fM];rfl
   rw[e3]
   refine ai ma ?_
   simp only[↓zq,zs,ae,zt]
   have hd3:(Ty.plus (.times tx (cR y [])) (.times (cR x []) t2)).atoms=(E.list [.atom [43],.list [.atom [42],e1,y],.list [.atom [42],x,e2]]).db:=by rw[<-ht3,<-hw3.db []]
   unfold nD
   by_cases hle:(Ty.plus (.times tx (cR y [])) (.times (cR x []) t2)).atoms<=400
   ·rw[if_pos hle,show decide ((((E.list [.atom [43],.list [.atom [42],e1,y],.list [.atom [42],x,e2]]).db:Nat):Int)<=400)=true from decide_eq_true (by omega)]
    have:=lj.of hw3
    rw[ht3]at this
    exact this
   ·rw[if_neg hle,show decide ((((E.list [.atom [43],.list [.atom [42],e1,y],.list [.atom [42],x,e2]]).db:Nat):Int)<=400)=false from decide_eq_false (by omega)]
    exact lj.no _ _ ((aX _).mpr trivial)
  |
   @rc m B hm hB =>
   have hlp:=P1 n (zw n) m B hm hB hl h4 s hs
   have hg:=ke (s:=s) (Wf.rc hm hB)
   refine C7 _ _ _ ((aX _).mpr trivial) ?_
   have hP:=P3.of (.atom dE) (.atom m) B
   simp only[Bv,bM,toNat_one,bg,↓zq,zs,ae,zt,hP.1,hP.2.1,hP.2.2.1,hP.2.2.2,aL]
   refine⟨fun h=>absurd rfl h,fun _=>?_⟩
   refine ai (n7 dE (.atom m) B) ?_
   simp only[↓zq,zs,ae,zt]
   refine⟨fun _=>?_,fun h=>absurd rfl h⟩
   refine aP hlp (lj.ne hg) ?_
   rintro r o ⟨rfl,c1,d1,hd1,rfl,hc1⟩
   simp only[↓zq,zs,ae,zt,gx hd1]
   exact⟨rfl,c1,d1,hd1,rfl,hc1⟩
end Go.Proofs.Trees
namespace Go.Proofs.Trees
open Go Go.VL Go.RowKit
theorem pk:∀(n k:Nat),k<10 ^ (n+1)->(dd k).length<=n+1
 |0,k,h=>by rw[eH (by omega)];simp
 |
  n+1,k,h=>by
  by_cases h1:k<10
  ·rw[eH h1];simp
  ·rw[fR h1]
   have:=pk n (k/10) (by
    have:10 ^ (n+1+1)=10*10 ^ (n+1):=by rw[Nat.pow_succ,Nat.mul_comm]
    omega)
   simp;omega
inductive Sh:E->Prop
 |atom {s:Nm} (h:s.length<=20):Sh (.atom s)
 |l3 {h:Nm} {a b:E} (hh:h.length<=20) (ha:Sh a) (hb:Sh b):Sh (.list [.atom h,a,b])
theorem Sh.cA{e:E}(hw:Wf e)(h:Sh e):(e9 e).length<=50*e.db:=by
 induction hw with
 |atom _=>cases h with|atom h=>simp only[e9,E.db];omega
 |
  plus _ _ i1 i2 =>
  cases h with|l3 hh ha hb =>
  have:=i1 ha
  have:=i2 hb
  simp only[e9,ei,aA,aq,aG,E.db,E.eY];omega
 |
  times _ _ i1 i2 =>
  cases h with|l3 hh ha hb =>
  have:=i1 ha
  have:=i2 hb
  simp only[e9,ei,aA,aq,aG,E.db,E.eY];omega
 |
  rc _ _ i =>
  cases h with|l3 hh ha hb =>
  cases ha with|atom ha =>
  have:=i hb
  simp only[e9,ei,aA,aq,aG,E.db,E.eY];omega
def uZ(t:Ty):Prop:=∀y,bn y t=true->y.length<=20
theorem xj{k:Nat}(h:k<100000000):(tN k).length<=20:=by
 have:=pk 7 k (by omega)
 simp;omega
theorem pV(F:List Nm)(hF:F.length<=10000):∀(t:Ty) (to:List Nm) (k:Nat),uZ t->(∀w,w∈to->w.length<=20)->k+(F.length+1)*t.atoms<90000000->Sh (gY F t to k).1
 | .zero,_,_,_,_,_=>.atom (by simp)
 | .one,_,_,_,_,_=>.atom (by simp)
 | .name s,_,_,hn,_,_=>.atom (hn s (by simp[bn]))
 |
  .bound u,to,_,_,ht,_=>by
  refine .atom ?_
  show (gj to u).length<=20
  unfold gj
  by_cases h:to.length-1-u<to.length
  ·rw[aa,bp h];exact ht _ (bD h)
  ·rw[aa,List.getElem?_eq_none (by omega)];simp
 |
  .plus a b,to,k,hn,ht,hk=>by
  have h1:=iu F a to k
  have:(F.length+1)*(1+a.atoms+b.atoms)=(F.length+1)+(F.length+1)*a.atoms+(F.length+1)*b.atoms:=by simp only[cT,dG]
  simp only[Ty.atoms]at hk
  exact .l3 (by simp) (pV F hF a to k (fun y hy=>hn y (by simp[bn,hy])) ht (by omega)) (pV F hF b to _ (fun y hy=>hn y (by simp[bn,hy])) ht (by omega))
 |
  .times a b,to,k,hn,ht,hk=>by
  have h1:=iu F a to k
  have:(F.length+1)*(1+a.atoms+b.atoms)=(F.length+1)+(F.length+1)*a.atoms+(F.length+1)*b.atoms:=by simp only[cT,dG]
  simp only[Ty.atoms]at hk
  exact .l3 (by simp) (pV F hF a to k (fun y hy=>hn y (by simp[bn,hy])) ht (by omega)) (pV F hF b to _ (fun y hy=>hn y (by simp[bn,hy])) ht (by omega))
 |
  .rc a,to,k,hn,ht,hk=>by
  obtain⟨g1,g2,_,_⟩:=gA F k
  have:(F.length+1)*(2+a.atoms)=(F.length+1)*2+(F.length+1)*a.atoms:=by simp only[cT]
  simp only[Ty.atoms]at hk
  have hl:=xj (k:=nx F k) (by omega)
  exact .l3 (by simp) (.atom hl) (pV F hF a _ _ hn (fun w hw=>by
   rcases aN.1 hw with hw|hw
   ·exact ht w hw
   ·simp only[aR]at hw;rw[hw];exact hl) (by omega))
def EP(t:Ty):Nm:=e9 (gY (bP t []) t [] 0).1
def told(t:Ty):Option Nm:=if t.atoms<=400/\(qL (EP t)).isSome=true then some (EP t)else none
theorem Da{t:Ty}(g:fX t)(hs:uZ t)(ha:t.atoms<=400):(EP t).length<=20000:=by
 obtain⟨h1,h2,_⟩:=ku (bP t []) t [] 0 (.nil _ _) g.1 fun y hy=>⟨(eQ t [] y).2 (.inr hy),g.2 y hy⟩
 have hn:=ez t []
 simp only[aG,aW]at hn
 have hm:((bP t []).length+1)*t.atoms<=401*400:=Nat.mul_le_mul (by omega) ha
 have:=(pV (bP t []) (by omega) t [] 0 hs (fun w hw=>by cases hw) (by omega)).cA h1
 have:=h1.iN h2 ha
 unfold EP;omega
theorem ua(s:Nm):(wE s).isSome=(qL s).isSome:=by
 rw[uN]
 cases he:wE s with
 |none=>rfl
 |
  some e =>
  obtain⟨h1,h2,h3⟩:=pB he
  simp only[iU e [],h2];rfl
theorem P0(s:Nm):an Tryz.prog 124 [.v (.string (mk s))] [] (bK (.v (.bool (qL s).isSome))):=by
 refine Q0 _ ?_
 unfold JE
 refine aP (G8 s) (jH.ne _ _ (fun h=>h)) ?_
 rintro r o ⟨c,d,hd,rfl,hh⟩
 have hhas:bF [.str,.sl] [.v (.string (mk c)),d] 0:=by simp[bF,dX,hd]
 simp only[↓zq,zs,ae,zt,ua]
 exact⟨hhas,rfl,rfl⟩
theorem Qb{e:E}(h:Wf e)(hl:e.db<=400)(hs:uZ (cR e [])):an Tryz.prog 93 [.agg [.v (.string (mk e.at)),e.sp]] [] (bK (qy (told (cR e [])))):=by
 refine QP _ _ ((aX _).mpr trivial) ?_
 unfold LU
 have z:=h.sz
 have ma:=Ep e h.ok (by omega)
 rw[dj]at ma
 have hA:=D8 h yz [] ⟨(bh).mpr trivial,rfl⟩ (by omega) (fun o ho=>by cases ho) (by simp)
 have ha:(cR e []).atoms<=400:=by rw[<-h.db []];exact hl
 have hc:zM e []=(gY (bP (cR e []) []) (cR e []) [] 0).1:=by
  unfold zM AA rM
  rw[List.flatMap_nil,cX,jM (F':=bP (cR e []) []) fun y=>by rw[lV h,eQ]]
 have hx:e9 (zM e [])=EP (cR e []):=by rw[hc];rfl
 have hlen:=Da h.qH hs ha
 have hT:=DK (zM e []) (xG h).1.ok (by rw[hx];omega)
 rw[dj,hx]at hT
 refine ai ma ?_
 simp only[↓zq,zs,ae,zt]
 refine⟨fun h=>by omega,fun _=>?_⟩
 refine ai hA ?_
 simp only[↓zq,zs,ae,zt,aL]
 refine ai hT ?_
 simp only[↓zq,zs,ae,zt]
 refine ai (P0 _) ?_
 simp only[↓zq,zs,ae,zt]
 unfold told
 refine⟨fun hn=>?_,fun hy=>?_⟩
 ·rw[if_neg (by rw[hn];simp)];exact⟨rfl,rfl⟩
 ·rw[if_pos ⟨ha,hy⟩];exact⟨rfl,rfl⟩
abbrev l9:Nm:=[35,49]
noncomputable def cH (s:Nm):Option Nm:=match qL s with
 |some (.rc a)=>(n6 a l9).bind told
 |_=>none
theorem nV{s:Nm}{t:Ty}(h:qL s=some t):∃e,wE s=some e/\Wf e/\cR e []=t/\e.db<=400/\e.ok:=by
 rw[uN]at h
 cases he:wE s with
 |none=>rw[he]at h;cases h
 |
  some e =>
  rw[he]at h
  obtain⟨h1,h2,h3⟩:=pB he
  obtain⟨hok,_⟩:=nO h1
  obtain⟨w1,w2⟩:=ko e [] t hok (fun w hw=>by cases hw) h
  exact⟨e,rfl,w1,w2,h3,hok⟩
theorem rG{e:E}{x:Nm}{a d:Ty}(hw:Wf e)(ht:cR e []=.rc a)(hx:qO x)(hd:n6 a x=some d):fX d/\(uZ (.rc a)->uZ d):=by
 simp only[n6,a7,cQ,eN]at hd
 obtain⟨d',h1,_,rfl⟩:=hd
 have g:fX (.rc a):=ht ▸ hw.qH
 have go:fX (dy (.name x) a 0):=⟨gK x a g.1,fun y hy=>by
  rcases gy a 0 hy with rfl|h
  ·exact hx
  ·exact g.2 y h⟩
 refine⟨g.sub (go.dv h1),fun hs y hy=>?_⟩
 rcases jb _ hy with h|⟨h,h'⟩
 ·exact hs y h
 ·rcases gy a 0 (h1.names y h')with e|e
  ·exact absurd e h
  ·exact hs y e
def Lk(y:Nm):Prop:=hD y=true\/dk y=true
theorem iY:∀(e:E) (ar:List Nm) (t:Ty),cS e ar=some t->∀y,bn y t=true->Lk y
 |
  .atom s,ar,t,ht,y,hy=>by
  simp only[cS]at ht
  split at ht
  ·cases ht;cases hy
  ·split at ht
   ·cases ht;cases hy
   ·split at ht
    ·rename_i hp
     cases ht
     simp only[bn,decide_eq_true_eq]at hy
     subst hy;exact .inl hp
    ·split at ht
     ·rename_i hq
      split at ht
      ·cases ht;cases hy
      ·cases ht
       simp only[bn,decide_eq_true_eq]at hy
       subst hy;exact .inr hq
     ·cases ht
 |
  .list [x,a,b],ar,t,ht,y,hy=>by
  by_cases h0:x.at=[43]
  ·obtain⟨t1,t2,h1,h2,rfl⟩:=fN h0 ht
   simp only[bn,bC]at hy
   rcases hy with hy|hy
   ·exact iY a ar t1 h1 y hy
   ·exact iY b ar t2 h2 y hy
  ·by_cases h1:x.at=[42]
   ·obtain⟨t1,t2,h2,h3,rfl⟩:=fh h1 ht
    simp only[bn,bC]at hy
    rcases hy with hy|hy
    ·exact iY a ar t1 h2 y hy
    ·exact iY b ar t2 h3 y hy
   ·by_cases h2:x.at=[114,101,99]
    ·obtain⟨t1,hla,h3,rfl⟩:=dA h2 ht
     exact iY b _ t1 h3 y hy
    ·rw[je _ h0 h1 h2]at ht;cases ht
 | .list [],ar,t,ht,_,_=>by cases ht
 | .list [_],ar,t,ht,_,_=>by cases ht
 | .list [_,_],ar,t,ht,_,_=>by cases ht
 | .list (_::_::_::_::_),ar,t,ht,_,_=>by cases ht
theorem xA{y:Nm}(h:Lk y):y.length<=3/\∀r,y≠35::r:=by
 have key:∀lo hi,116<=lo->named lo hi y=true->y.length<=3/\∀r,y≠35::r:=fun lo hi hlo h=>by
  cases y with
  |nil=>cases h
  |
   cons c r =>
   simp only[named,aw,decide_eq_true_eq]at h
   refine⟨by simp;omega,fun r' e=>?_⟩
   have:c=35:=by injection e
   subst this
   have:=h.1.2.1
   have e35:(35:UInt8).toNat=35:=rfl
   omega
 rcases h with h|h
 ·exact key 120 122 (by omega) h
 ·exact key 116 116 (by omega) h
theorem mU{s:Nm}{t:Ty}(h:qL s=some t):∀y,bn y t=true->Lk y:=by
 rw[uN]at h
 cases he:wE s with
 |none=>rw[he]at h;cases h
 |some e=>rw[he]at h;exact iY e [] t h
theorem ui{s:Nm}{a:Ty}(h:qL s=some (.rc a)):bn l9 a=false:=by
 cases q:bn l9 a with
 |false=>rfl
 |true=>exact absurd rfl ((xA (mU h l9 q)).2 [49])
theorem A5{s:Nm}{t:Ty}(h:qL s=some t):uZ t:=fun y hy=>by have:=(xA (mU h y hy)).1;omega
theorem RG{m:Nm}{B:E}(hm:qO m)(hB:Wf B)(hl:(E.list [.atom dE,.atom m,B]).db<=400):an Tryz.prog 92 [.agg [.v (.string (mk [])),(E.list [.atom dE,.atom m,B]).sp]] [] (lj (n6 (cR B [m]) m)):=by
 have hw:Wf (.list [.atom dE,.atom m,B]):=.rc hm hB
 have hT:cR (.list [.atom dE,.atom m,B]) []=.rc (cR B [m]):=ff _ _ _
 have hP:=P3.of (.atom dE) (.atom m) B
 have hbo:cR B []=dy (.name m) (cR B [m]) 0:=by
  have:=yU m hB []
  rw[cX]at this;exact this
 have hba:B.db+2=(E.list [.atom dE,.atom m,B]).db:=by simp only[E.db,E.eY];omega
 have i1:=zw 400 B m hB (by omega) (by omega) hm
 have n1:=ke (s:=m) hB
 rw[hbo]at i1 n1
 refine SA _ _ ((aX _).mpr trivial) ?_
 simp only[Jc,bM,toNat_one,bg,↓zq,zs,ae,zt,hP.1,hP.2.1,hP.2.2.1,hP.2.2.2,aL,dR]
 repeat refine⟨by omega,?_⟩
 refine aP i1 (lj.ne n1) ?_
 rintro r o ⟨rfl,c1,d1,hd1,rfl,hc1⟩
 simp only[↓zq,zs,ae,zt,gx hd1,n6]
 cases q1:lH (dy (.name m) (cR B [m]) 0) m with
 |
  none =>
  simp only[bu,bI]
  exact⟨fun _=>lj.no _ _ ((aX _).mpr trivial),fun h=>(by cases h)⟩
 |
  some d =>
  simp only[aY,a6]
  refine⟨fun h=>(by cases h),fun _=>?_⟩
  obtain⟨ed,wd,td,rfl,rfl⟩:=hc1 d q1
  have p1:=Hr hm wd hw (wd.iN td (cQ.1 q1).small) hl
  have g1:=rB (hw.qH.sub (x:=m) wd.qH)
  rw[hT,td]at p1 g1
  simp only[bM]at p1
  repeat refine⟨by omega,?_⟩
  refine aP p1 (lj.ne g1) ?_
  rintro r o ⟨rfl,c2,d2,hd2,rfl,hc2⟩
  simp only[↓zq,zs,ae,zt,gx hd2]
  exact⟨rfl,c2,d2,hd2,rfl,hc2⟩
theorem IU(s:Nm):an Tryz.prog 66 [.v (.string (mk s))] [] (bK (qy (cH s))):=by
 refine QC _ ?_
 unfold Ls
 refine aP (G8 s) (jH.ne _ _ (fun h=>h)) ?_
 rintro r o ⟨c,d,hd,rfl,hh⟩
 have hhas:bF [.str,.sl] [.v (.string (mk c)),d] 0:=by simp[bF,dX,hd]
 simp only[↓zq,zs,ae,zt]
 refine⟨hhas,fun h=>?_,fun h=>?_⟩
 ·rw[ua]at h
  have:qL s=none:=by cases hq:qL s<;>simp[hq]at h |-
  unfold cH;rw[this];exact⟨rfl,rfl⟩
 ·rw[ua]at h
  obtain⟨t,ht⟩:=bU.1 h
  obtain⟨e,he,hw,hte,hats,hok⟩:=nV ht
  obtain⟨e',he',hce⟩:=hh (by rw[he];rfl)
  rw[he]at he';cases he'
  have notRec:(∀a,t≠.rc a)->cH s=none:=fun hn=>by
   unfold cH;rw[ht]
   cases t<;>first|rfl|exact absurd rfl (hn _)
  rw[hce,dj]
  cases hw with
  |
   @atom c hc =>
   have hn:cH s=none:=notRec fun a q=>by
    rw[<-hte]at q
    simp only[cR]at q
    split at q
    ·cases q
    ·split at q
     ·cases q
     ·split at q<;>cases q
   rw[hn]
   refine ai (zx c _ ((aX _).mpr trivial) hc) ?_
   simp only[↓zq,zs,ae,zt]
   exact⟨fun _=>⟨rfl,rfl⟩,fun h=>by simp at h⟩
  |
   @plus x y hx hy =>
   have hn:cH s=none:=notRec fun a q=>by rw[<-hte,dJ]at q;cases q
   rw[hn]
   simp only[bM]
   refine ai (n7 [43] x y) ?_
   simp only[↓zq,zs,ae,zt]
   exact⟨fun _=>⟨rfl,rfl⟩,fun h=>by simp at h⟩
  |
   @times x y hx hy =>
   have hn:cH s=none:=notRec fun a q=>by rw[<-hte,dr]at q;cases q
   rw[hn]
   simp only[bM]
   refine ai (n7 [42] x y) ?_
   simp only[↓zq,zs,ae,zt]
   exact⟨fun _=>⟨rfl,rfl⟩,fun h=>by simp at h⟩
  |
   @rc m B hm hB =>
   have hrt:cR (.list [.atom dE,.atom m,B]) []=.rc (cR B [m]):=ff _ _ _
   rw[hrt]at hte
   have hq:cH s=(n6 (cR B [m]) m).bind told:=by
    unfold cH;rw[ht,<-hte]
    show (n6 (cR B [m]) l9).bind told=_
    rw[HR (ui (by rw[ht,<-hte])) (by
     cases q:bn m (cR B [m])with
     |false=>rfl
     |true=>exact absurd (by simp) (ns hB [m] m q).2)]
   rw[hq]
   simp only[bM]
   refine ai (n7 dE (.atom m) B) ?_
   simp only[↓zq,zs,ae,zt]
   refine⟨fun h=>by simp at h,fun _=>?_⟩
   have hgood:∀d,n6 (cR B [m]) m=some d->fX d/\(uZ (.rc (cR B [m]))->uZ d):=fun d hd=>rG (Wf.rc hm hB) hrt hm hd
   refine aP (RG hm hB hats) (lj.ne fun t h=>(hgood t h).1) ?_
   rintro r o ⟨rfl,c1,d1,hd1,rfl,hc1⟩
   simp only[↓zq,zs,ae,zt,gx hd1]
   cases q1:n6 (cR B [m]) m with
   |
    none =>
    simp only[bu,bI]
    exact⟨fun _=>⟨rfl,rfl⟩,fun h=>(by cases h)⟩
   |
    some d =>
    simp only[aY,a6]
    refine⟨fun h=>(by cases h),fun _=>?_⟩
    obtain⟨ed,wd,td,rfl,rfl⟩:=hc1 d q1
    have hl:d.atoms<=400:=by
     simp only[n6,a7,eN]at q1
     obtain⟨_,_,h1,h2⟩:=q1
     rw[<-h2];exact h1
    have hcn:=Qb wd (wd.iN td hl) (by rw[td];exact(hgood d q1).2 (hte ▸ A5 ht))
    rw[td]at hcn
    refine ai hcn ?_
    cases told d<;>simp only[qy,↓zq,zs,ae,zt]<;>exact⟨rfl,rfl⟩
end Go.Proofs.Trees
namespace Go.Proofs.Trees
open Go Go.VL Go.RowKit
def vT(n:Nat):Vl->Ty->Bool
 | .u,.one=>true
 | .el k,.name _=>decide (k<n)
 | .l w,.plus a _=>vT n w a
 | .r w,.plus _ b=>vT n w b
 | .p x y,.times a b=>vT n x a&&vT n y b
 | .f w,.rc a=>vT n w (dy (.rc a) a 0)
 |_,_=>false
def cls(us:List Ty):Ty->Nat->Ty
 | .bound k,i=>if k<i then .bound k else us.getD (k-i) .zero
 | .plus a b,i=>.plus (cls us a i) (cls us b i)
 | .times a b,i=>.times (cls us a i) (cls us b i)
 | .rc a,i=>.rc (cls us a (i+1))
 |t,_=>t
def zc:List Fr->List Ty
 |[]=>[]
 |f::r=>cls (zc r) (yk f.ex r) 0::zc r
theorem lS(u:Ty):∀(t:Ty) {i:Nat},jx t i->dy u t i=t
 | .bound k,i,h=>by simp only[dy];rw[if_neg (by have:k<i:=h;omega)]
 | .plus a b,i,h=>by simp only[dy];rw[lS u a h.1,lS u b h.2]
 | .times a b,i,h=>by simp only[dy];rw[lS u a h.1,lS u b h.2]
 | .rc a,i,h=>by simp only[dy];rw[lS u a (i:=i+1) h]
 | .zero,_,_=>rfl
 | .one,_,_=>rfl
 | .name _,_,_=>rfl
theorem pC(us:List Ty):∀(t:Ty) {i:Nat},jx t i->cls us t i=t
 | .bound k,i,h=>by simp only[cls];rw[if_pos (by have:k<i:=h;omega)]
 | .plus a b,i,h=>by simp only[cls];rw[pC us a h.1,pC us b h.2]
 | .times a b,i,h=>by simp only[cls];rw[pC us a h.1,pC us b h.2]
 | .rc a,i,h=>by simp only[cls];rw[pC us a (i:=i+1) h]
 | .zero,_,_=>rfl
 | .one,_,_=>rfl
 | .name _,_,_=>rfl
theorem yR{us:List Ty}(hu:∀u,u∈us->jx u 0)(k:Nat):jx (us.getD k .zero) 0:=by
 by_cases h:k<us.length
 ·rw[aa,bp h];exact hu _ (bD h)
 ·rw[aa,List.getElem?_eq_none (by omega)];trivial
theorem pM{us:List Ty}(hu:∀u,u∈us->jx u 0):∀(t:Ty) (i:Nat),jx (cls us t i) i
 |
  .bound k,i=>by
  simp only[cls]
  split
  ·rename_i h;exact h
  ·exact gv _ (yR hu _) (dO _)
 | .plus a b,i=>⟨pM hu a i,pM hu b i⟩
 | .times a b,i=>⟨pM hu a i,pM hu b i⟩
 | .rc a,i=>pM hu a (i+1)
 | .zero,_=>trivial
 | .one,_=>trivial
 | .name _,_=>trivial
theorem ng{us:List Ty}(hu:∀u,u∈us->jx u 0)(U:Ty):∀(t:Ty) (i:Nat),dy U (cls us t (i+1)) i=cls (U::us) t i
 |
  .bound k,i=>by
  simp only[cls]
  by_cases h1:k<i
  ·rw[if_pos (by omega),if_pos h1];simp only[dy];rw[if_neg (by omega)]
  ·rw[if_neg h1]
   by_cases h2:k=i
   ·subst h2;rw[if_pos (by omega)];simp[dy]
   ·rw[if_neg (by omega),lS U _ (gv _ (yR hu _) (dO _)),show k-i=(k-(i+1))+1 by omega,List.getD_cons_succ]
 | .plus a b,i=>by simp only[cls,dy];rw[ng hu U a i,ng hu U b i]
 | .times a b,i=>by simp only[cls,dy];rw[ng hu U a i,ng hu U b i]
 | .rc a,i=>by simp only[cls,dy];rw[ng hu U a (i+1)]
 | .zero,_=>rfl
 | .one,_=>rfl
 | .name _,_=>rfl
theorem xw:∀env:List Fr,∀u,u∈zc env->jx u 0
 |[],u,h=>by cases h
 |
  f::r,u,h=>by
  rcases aK.1 h with rfl|h
  ·exact pM (xw r) _ 0
  ·exact xw r u h
theorem D5{env:List Fr}(h:WF env):∀{u:Nat} {g:Fr},env[u]?=some g->(zc env).getD u .zero=cls (zc g.out) (yk g.ex g.out) 0:=by
 induction h with
 |nil=>intro u g hg;simp at hg
 |
  cons hs hok hx ht hf hr ih =>
  intro u g hg
  cases u with
  |zero=>simp at hg;subst hg;rfl
  |
   succ u =>
   have:=ih (u:=u) (g:=g) (by simpa using hg)
   simpa[zc]using this
theorem pP(n:Nat):∀(m:Nat) (v:Vl),v.nodes<=m->∀(e:E) (env:List Fr) (t:Ty),Ask e env t->eV n v (e,env)=vT n v (cls (zc env) t 0)
 |0,v,hm=>by have:=du v;omega
 |
  m+1,v,hm=>by
  intro e env t A
  have recCase:∀(x a b:E) (env:List Fr) (t1:Ty),Ask (.list [x,a,b]) env (.rc t1)->x.at=[114,101,99]->eV n v (.list [x,a,b],env)=vT n v (cls (zc env) (.rc t1) 0):=by
   intro x a b env t1 A hx
   have hhd:hd (.list [x,a,b]) env=(.list [x,a,b],env):=pX A.wf
   obtain⟨t1',he1,h1,f1,hw1⟩:=jw A.wf A.ok hx A.ty A.cl
   cases he1
   obtain⟨ok1,ok2,ok3,_⟩:=A.ok
   have A':Ask b (.mk a.at (.list [x,a,b]) env::env) t1:=⟨ok3,hw1,h1,f1⟩
   cases v with
   |
    f w =>
    simp only[Vl.nodes]at hm
    simp only[eV,hhd,hx,beq_self_eq_true,bX]
    rw[pP n m w (by omega) b _ t1 A']
    have hty:yk (.list [x,a,b]) env=.rc t1:=by unfold yk;rw[A.ty];rfl
    show vT n w (cls (cls (zc env) (yk (.list [x,a,b]) env) 0::zc env) t1 0)=vT n w (dy (.rc (cls (zc env) t1 1)) (cls (zc env) t1 1) 0)
    rw[hty,ng (xw env)]
    rfl
   |_=>simp[eV,hhd,hx,cls,vT]
  rcases gn A.wf A.ty with⟨hb,hq⟩|⟨u,g,rfl,hq,hu⟩
  ·have hhd:hd e env=(e,env):=ka hq
   rcases fI A.ty hb A.cl with⟨rfl,rfl⟩|⟨rfl,rfl⟩|⟨s,rfl,rfl,hp,h0,h1⟩|⟨x,a,b,t1,t2,rfl,hx,rfl,ha,hbb⟩|⟨x,a,b,t1,t2,rfl,hx,rfl,ha,hbb⟩|⟨x,a,b,t1,rfl,hx,rfl⟩
   ·have hp0:hD [48]=false:=rfl
    cases v<;>simp[eV,hhd,cls,vT,hp0]
   ·cases v<;>simp[eV,hhd,cls,vT]
   ·cases v<;>simp[eV,hhd,cls,vT,hp,h1]
   ·obtain⟨ok1,ok2,ok3,_⟩:=A.ok
    obtain⟨f1,f2⟩:=fq A.cl
    cases v with
    |
     l w =>
     simp only[Vl.nodes]at hm
     simp only[eV,hhd,hx,beq_self_eq_true,bX,cls,vT]
     exact pP n m w (by omega) a env t1 ⟨ok2,A.wf,ha,f1⟩
    |
     r w =>
     simp only[Vl.nodes]at hm
     simp only[eV,hhd,hx,beq_self_eq_true,bX,cls,vT]
     exact pP n m w (by omega) b env t2 ⟨ok3,A.wf,hbb,f2⟩
    |_=>simp[eV,hhd,hx,cls,vT]
   ·obtain⟨ok1,ok2,ok3,_⟩:=A.ok
    obtain⟨f1,f2⟩:=eW A.cl
    cases v with
    |
     p w w' =>
     simp only[Vl.nodes]at hm
     simp only[eV,hhd,hx,beq_self_eq_true,bX,cls,vT]
     rw[pP n m w (by omega) a env t1 ⟨ok2,A.wf,ha,f1⟩,pP n m w' (by omega) b env t2 ⟨ok3,A.wf,hbb,f2⟩]
    |_=>simp[eV,hhd,hx,cls,vT]
   ·exact recCase x a b env t1 A hx
  ·obtain⟨x,a,b,t',hfe,hok,hx,ht',hf',hwf,hlt⟩:=oz A.wf hq
   have hrec:hd g.ex g.out=(g.ex,g.out):=by rw[hfe];exact pX hwf
   rw[um n v (qY hq) hrec]
   have hcl:cls (zc env) (.bound u) 0=cls (zc g.out) (yk g.ex g.out) 0:=by
    simp only[cls];rw[if_neg (by omega),Nat.sub_zero];exact D5 A.wf hu
   rw[hcl]
   have hty:yk g.ex g.out=t':=by unfold yk;rw[ht'];rfl
   rw[hty,hfe]
   rw[hfe]at ht'
   obtain⟨t1,_,_,rfl⟩:=dA hx ht'
   exact recCase x a b g.out t1 ⟨hok,hwf,ht',hf'⟩ hx
theorem na{n:Nat}{v:Vl}{e:E}{t:Ty}(A:Ask e [] t):eV n v (e,[])=vT n v t:=by
 have:=pP n v.nodes v (au _) e [] t A
 rw[this]
 obtain⟨w,ht⟩:=ko e [] t A.ok (fun w hw=>by cases hw) A.ty
 have hl:=ub w []
 rw[ht]at hl
 exact congrArg (vT n v) (pC _ t hl)
def eS(σ:Nm->Option Ty):Ty->Ty
 | .name s=>(σ s).getD (.name s)
 | .plus a b=>.plus (eS σ a) (eS σ b)
 | .times a b=>.times (eS σ a) (eS σ b)
 | .rc a=>.rc (eS σ a)
 |t=>t
def iR(σ:Nm->Option Ty)(x:Nm)(u:Ty):Nm->Option Ty:=fun s=>if s=x then some u else σ s
theorem iw(σ:Nm->Option Ty)(x:Nm)(u:Ty):∀t:Ty,eS σ (sub x u t)=eS (iR σ x (eS σ u)) t
 |
  .name s=>by
  by_cases h:s=x
  ·simp[sub,eS,iR,h]
  ·simp[sub,eS,iR,h]
 | .plus a b=>by simp only[sub,eS,iw σ x u a,iw σ x u b]
 | .times a b=>by simp only[sub,eS,iw σ x u a,iw σ x u b]
 | .rc a=>by simp only[sub,eS,iw σ x u a]
 | .zero=>rfl
 | .one=>rfl
 | .bound k=>rfl
def CJ(σ:Nm->Option Ty):Prop:=∀s u,σ s=some u->jx u 0
theorem jX{σ:Nm->Option Ty}(hσ:CJ σ):∀(t:Ty) {i:Nat},jx t i->jx (eS σ t) i
 |
  .name s,i,_=>by
  simp only[eS]
  cases q:σ s with
  |none=>trivial
  |some u=>exact gv u (hσ s u q) (dO _)
 | .plus a b,i,h=>⟨jX hσ a h.1,jX hσ b h.2⟩
 | .times a b,i,h=>⟨jX hσ a h.1,jX hσ b h.2⟩
 | .rc a,i,h=>jX hσ a (i:=i+1) h
 | .zero,_,_=>trivial
 | .one,_,_=>trivial
 | .bound k,_,h=>h
theorem jF{σ:Nm->Option Ty}(hσ:CJ σ)(x:Nm)(U:Ty):∀(t:Ty) (i:Nat),bn x t=false->eS (iR σ x U) (dy (.name x) t i)=dy U (eS σ t) i
 |
  .name s,i,h=>by
  have hs:s≠x:=by simpa[bn]using h
  simp only[dy,eS,iR,if_neg hs]
  cases q:σ s with
  |none=>rfl
  |some u=>exact(lS U u (gv u (hσ s u q) (dO _))).symm
 |
  .bound k,i,h=>by
  simp only[dy,eS]
  split
  ·simp[eS,iR]
  ·rfl
 |
  .plus a b,i,h=>by
  simp only[bn,cj]at h
  simp only[dy,eS,jF hσ x U a i h.1,jF hσ x U b i h.2]
 |
  .times a b,i,h=>by
  simp only[bn,cj]at h
  simp only[dy,eS,jF hσ x U a i h.1,jF hσ x U b i h.2]
 | .rc a,i,h=>by simp only[dy,eS,jF hσ x U a (i+1) h]
 | .zero,_,_=>rfl
 | .one,_,_=>rfl
theorem lU{σ:Nm->Option Ty}(hσ:CJ σ)(x:Nm){u:Ty}(hu:jx u 0):CJ (iR σ x u):=fun s v h=>by
 unfold iR at h
 split at h
 ·cases h;exact hu
 ·exact hσ s v h
theorem jd(x:Nm):∀(n:Nat) (c:Vl) (t:Ty) (i:Nat),c.nodes<=n->dK (dy (.name x) t i) c=dK t c
 |0,c,_,_,h=>by have:=du c;omega
 |
  n+1,c,t,i,hn=>by
  cases t with
  |bound k=>simp only[dy];split<;>(cases c<;>rfl)
  |
   plus a b =>
   cases c with
   |l c=>simp only[Vl.nodes]at hn;exact jd x n c a i (by omega)
   |r c=>simp only[Vl.nodes]at hn;exact jd x n c b i (by omega)
   |_=>rfl
  |
   times a b =>
   cases c with
   |
    l c =>
    cases c with
    |p y z=>simp only[Vl.nodes]at hn;exact jd x n y a i (by omega)
    |_=>rfl
   |
    r c =>
    cases c with
    |p y z=>simp only[Vl.nodes]at hn;exact jd x n z b i (by omega)
    |_=>rfl
   |_=>rfl
  |
   rc a =>
   cases c with
   |
    f c =>
    cases c with
    |l y=>simp only[Vl.nodes]at hn;exact jd x n y a (i+1) (by omega)
    |
     r c =>
     cases c with
     |
      p y z =>
      simp only[Vl.nodes]at hn
      have h1:=jd x n y a (i+1) (by omega)
      have h2:=jd x n z (.rc a) i (by omega)
      show (dK (dy (.name x) a (i+1)) y&&dK (.rc (dy (.name x) a (i+1))) z)=(dK a y&&dK (.rc a) z)
      rw[h1]
      exact congrArg _ h2
     |_=>rfl
    |_=>rfl
   |_=>rfl
  |_=>rfl
end Go.Proofs.Trees
namespace Go.Proofs.Trees
open Go Go.VL Go.RowKit
theorem dI(x:Nm):∀(n:Nat) (c:Vl) (t:Ty) (i:Nat) (v:Vl),c.nodes<=n->cW (dy (.name x) t i) c v=cW t c v
 |0,c,_,_,_,h=>by have:=du c;omega
 |
  n+1,c,t,i,v,hn=>by
  cases t with
  |bound k=>simp only[dy];split<;>(cases c<;>rfl)
  |
   plus a b =>
   cases c with
   |l c=>simp only[Vl.nodes]at hn;exact congrArg Vl.l (dI x n c a i v (by omega))
   |r c=>simp only[Vl.nodes]at hn;exact congrArg Vl.r (dI x n c b i v (by omega))
   |_=>rfl
  |
   times a b =>
   cases c with
   |
    l c =>
    cases c with
    |p y z=>simp only[Vl.nodes]at hn;exact congrArg (fun q=>Vl.p q z) (dI x n y a i v (by omega))
    |_=>rfl
   |
    r c =>
    cases c with
    |p y z=>simp only[Vl.nodes]at hn;exact congrArg (Vl.p y) (dI x n z b i v (by omega))
    |_=>rfl
   |_=>rfl
  |
   rc a =>
   cases c with
   |
    f c =>
    cases c with
    |l y=>simp only[Vl.nodes]at hn;exact congrArg Vl.f (dI x n y a (i+1) v (by omega))
    |
     r c =>
     cases c with
     |
      p y z =>
      simp only[Vl.nodes]at hn
      have h2:=dI x n z (.rc a) i v (by omega)
      have h1:=dI x n y a (i+1) (cW (.rc a) z v) (by omega)
      show Vl.f (cW (dy (.name x) a (i+1)) y (cW (.rc (dy (.name x) a (i+1))) z v))=Vl.f (cW a y (cW (.rc a) z v))
      have h3:cW (.rc (dy (.name x) a (i+1))) z v=cW (.rc a) z v:=h2
      rw[h3,h1]
     |_=>rfl
    |_=>rfl
   |_=>rfl
  |_=>rfl
theorem BG{n:Nat}{c:Vl}{a:Ty}(h:vT n c (.rc a)=true):∃w,c=.f w/\vT n w (dy (.rc a) a 0)=true:=by
 cases c with
 |f w=>exact⟨w,rfl,h⟩
 |_=>simp[vT]at h
theorem jh{n:Nat}{c:Vl}{a b:Ty}(h:vT n c (.plus a b)=true):(∃w,c=.l w/\vT n w a=true)\/∃w,c=.r w/\vT n w b=true:=by
 cases c with
 |l w=>exact .inl ⟨w,rfl,h⟩
 |r w=>exact .inr ⟨w,rfl,h⟩
 |_=>simp[vT]at h
theorem gr{n:Nat}{c:Vl}{a b:Ty}(h:vT n c (.times a b)=true):∃x y,c=.p x y/\vT n x a=true/\vT n y b=true:=by
 cases c with
 |p x y=>simp only[vT,aw]at h;exact⟨x,y,rfl,h.1,h.2⟩
 |_=>simp[vT]at h
theorem ot{σ:Nm->Option Ty}(hσ:CJ σ){a c d:Ty}{x:Nm}(ha:jx (.rc a) 0)(hc:jx c 0)(hd:jx d 0):∃X,eS σ (pW a x c d)=.rc X/\dy (.rc X) X 0=.plus (eS (iR σ x (eS σ (.rc a))) c) (.times (eS (iR σ x (eS σ (.rc a))) d) (eS σ (pW a x c d))):=by
 refine⟨.plus (eS σ (sub x (.rc a) c)) (.times (eS σ (sub x (.rc a) d)) (.bound 0)),rfl,?_⟩
 have h1:=jX hσ (sub x (.rc a) c) (ky ha c hc)
 have h2:=jX hσ (sub x (.rc a) d) (ky ha d hd)
 simp only[dy,lS _ _ h1,lS _ _ h2,if_true]
 rw[iw,iw]
 simp only[pW,eS,iw]
theorem vj(n:Nat):∀(m:Nat) (c:Vl),c.nodes<=m->∀(t:Ty) (s:Nm) (d:Ty) (σ:Nm->Option Ty),Dv t s d->CJ σ->jx t 0->vT n c (eS σ d)=true->dK t c=true
 |0,c,h=>by have:=du c;omega
 |
  m+1,c,hm=>by
  intro t s d σ hd hσ hl hv
  cases hd with
  |zero=>cases c<;>rfl
  |one=>cases c<;>rfl
  |bound=>cases c<;>rfl
  |hit=>cases c<;>rfl
  |qx=>cases c<;>rfl
  |
   plus h1 h2 _ =>
   rcases jh hv with⟨w,rfl,hw⟩|⟨w,rfl,hw⟩
   ·simp only[Vl.nodes]at hm;exact vj n m w (by omega) _ s _ σ h1 hσ hl.1 hw
   ·simp only[Vl.nodes]at hm;exact vj n m w (by omega) _ s _ σ h2 hσ hl.2 hw
  |
   times h1 h2 _ =>
   rcases jh hv with⟨w,rfl,hw⟩|⟨w,rfl,hw⟩
   ·obtain⟨x,y,rfl,hx,hy⟩:=gr hw
    simp only[Vl.nodes]at hm;exact vj n m x (by omega) _ s _ σ h1 hσ hl.1 hx
   ·obtain⟨x,y,rfl,hx,hy⟩:=gr hw
    simp only[Vl.nodes]at hm;exact vj n m y (by omega) _ s _ σ h2 hσ hl.2 hy
  |
   @rc a _ c0 d0 x hx hs h1 h2 hsz =>
   have lo:jx (dy (.name x) a 0) 0:=gK x a hl
   obtain⟨X,e1,e2⟩:=ot (x:=x) hσ hl (h1.lc lo) (h2.lc lo)
   have hv':=hv
   rw[e1]at hv'
   obtain⟨w,rfl,hw⟩:=BG hv'
   rw[e2]at hw
   have hcl:=lU hσ x (jX hσ (.rc a) hl)
   rcases jh hw with⟨y,rfl,hy⟩|⟨y,rfl,hy⟩
   ·simp only[Vl.nodes]at hm
    have:=vj n m y (by omega) _ s _ _ h1 hcl lo hy
    rw[jd x y.nodes y a 0 (au _)]at this
    exact this
   ·obtain⟨y,z,rfl,hy,hz⟩:=gr hy
    simp only[Vl.nodes]at hm
    have q1:=vj n m y (by omega) _ x _ _ h2 hcl lo hy
    rw[jd x y.nodes y a 0 (au _)]at q1
    have q2:=vj n m z (by omega) (.rc a) s _ σ (.rc x hx hs h1 h2 hsz) hσ hl hz
    show (dK a y&&dK (.rc a) z)=true
    rw[q1,q2];rfl
theorem p7(n:Nat):∀(m:Nat) (c:Vl),c.nodes<=m->∀(t:Ty) (s:Nm) (d:Ty) (σ:Nm->Option Ty),Dv t s d->CJ σ->jx t 0->vT n c (eS σ d)=true->∀v,vT n v (eS σ (.name s))=true->vT n (cW t c v) (eS σ t)=true
 |0,c,h=>by have:=du c;omega
 |
  m+1,c,hm=>by
  intro t s d σ hd hσ hl hv v hvv
  have no:∀c,vT n c .zero=false:=fun c=>by cases c<;>rfl
  cases hd with
  |zero=>rw[show eS σ .zero=.zero from rfl,no]at hv;cases hv
  |one=>rw[show eS σ .zero=.zero from rfl,no]at hv;cases hv
  |bound=>rw[show eS σ .zero=.zero from rfl,no]at hv;cases hv
  |qx=>rw[show eS σ .zero=.zero from rfl,no]at hv;cases hv
  |hit=>rw[kQ];exact hvv
  |
   plus h1 h2 _ =>
   rcases jh hv with⟨w,rfl,hw⟩|⟨w,rfl,hw⟩
   ·simp only[Vl.nodes]at hm;exact p7 n m w (by omega) _ s _ σ h1 hσ hl.1 hw v hvv
   ·simp only[Vl.nodes]at hm;exact p7 n m w (by omega) _ s _ σ h2 hσ hl.2 hw v hvv
  |
   times h1 h2 _ =>
   rcases jh hv with⟨w,rfl,hw⟩|⟨w,rfl,hw⟩
   ·obtain⟨x,y,rfl,hx,hy⟩:=gr hw
    simp only[Vl.nodes]at hm
    have:=p7 n m x (by omega) _ s _ σ h1 hσ hl.1 hx v hvv
    show (vT n _ _&&vT n _ _)=true
    rw[this,hy];rfl
   ·obtain⟨x,y,rfl,hx,hy⟩:=gr hw
    simp only[Vl.nodes]at hm
    have:=p7 n m y (by omega) _ s _ σ h2 hσ hl.2 hy v hvv
    show (vT n _ _&&vT n _ _)=true
    rw[this,hx];rfl
  |
   @rc a _ c0 d0 x hx hs h1 h2 hsz =>
   have lo:jx (dy (.name x) a 0) 0:=gK x a hl
   obtain⟨X,e1,e2⟩:=ot (x:=x) hσ hl (h1.lc lo) (h2.lc lo)
   have hv':=hv
   rw[e1]at hv'
   obtain⟨w,rfl,hw⟩:=BG hv'
   rw[e2]at hw
   have hcl:=lU hσ x (jX hσ (.rc a) hl)
   have hop:eS (iR σ x (eS σ (.rc a))) (dy (.name x) a 0)=dy (eS σ (.rc a)) (eS σ a) 0:=jF hσ x _ a 0 hx
   have hns:eS (iR σ x (eS σ (.rc a))) (.name s)=eS σ (.name s):=by simp only[eS,iR,if_neg (Ne.symm hs)]
   have hnx:eS (iR σ x (eS σ (.rc a))) (.name x)=eS σ (.rc a):=by simp[eS,iR]
   rcases jh hw with⟨y,rfl,hy⟩|⟨y,rfl,hy⟩
   ·simp only[Vl.nodes]at hm
    have:=p7 n m y (by omega) _ s _ _ h1 hcl lo hy v (by rw[hns];exact hvv)
    rw[hop,dI x y.nodes y a 0 v (au _)]at this
    exact this
   ·obtain⟨y,z,rfl,hy,hz⟩:=gr hy
    simp only[Vl.nodes]at hm
    have q2:=p7 n m z (by omega) (.rc a) s _ σ (.rc x hx hs h1 h2 hsz) hσ hl hz v hvv
    have q1:=p7 n m y (by omega) _ x _ _ h2 hcl lo hy (cW (.rc a) z v) (by rw[hnx];exact q2)
    rw[hop,dI x y.nodes y a 0 _ (au _)]at q1
    exact q1
def CV:Nm->Option Ty:=fun _=>none
theorem rH:CJ CV:=fun _ _ h=>by cases h
theorem iX:∀t:Ty,eS CV t=t
 | .name s=>rfl
 | .plus a b=>by simp only[eS,iX a,iX b]
 | .times a b=>by simp only[eS,iX a,iX b]
 | .rc a=>by simp only[eS,iX a]
 | .zero=>rfl
 | .one=>rfl
 | .bound k=>rfl
theorem Ii{n:Nat}{a D:Ty}{x:Nm}(hx:bn x a=false)(hl:jx (.rc a) 0)(h:n6 a x=some D){c:Vl}(hc:vT n c D=true) :
 dK a c=true/\∀v,vT n v (.rc a)=true->vT n (.f (cW a c v)) (.rc a)=true:=by
 simp only[n6,a7,cQ,eN]at h
 obtain⟨d,hd,_,rfl⟩:=h
 have lo:jx (dy (.name x) a 0) 0:=gK x a hl
 have hcl:=lU rH x hl
 have e1:sub x (.rc a) d=eS (iR CV x (.rc a)) d:=by
  have:=iw CV x (.rc a) d
  rw[iX,iX]at this;exact this
 rw[e1]at hc
 have h1:=vj n c.nodes c (au _) _ x _ _ hd hcl lo hc
 rw[jd x c.nodes c a 0 (au _)]at h1
 refine⟨h1,fun v hv=>?_⟩
 have h2:=p7 n c.nodes c (au _) _ x _ _ hd hcl lo hc v (by simpa[eS,iR]using hv)
 rw[dI x c.nodes c a 0 v (au _),jF rH x _ a 0 hx,iX]at h2
 exact h2
end Go.Proofs.Trees
namespace Go.Proofs.Trees
open Go Go.VL Go.RowKit
theorem Aq{env:List Fr}(h:WF env):∀w,w∈names env->dk w=true:=by
 induction h with
 |nil=>intro w hw;cases hw
 |
  cons hs _ _ _ _ _ ih =>
  intro w hw
  simp only[names,aN,aR]at hw
  rcases hw with hw|rfl
  ·exact ih w hw
  ·exact hs
theorem Bb{ar:List (List UInt8)}{k:Nat}(h:k<ar.length):gj ar k∈ar:=by
 unfold gj
 have:ar.length-1-k<ar.length:=by omega
 simp[aa,this]
def AE(s:List UInt8)(ar:List (List UInt8)):Prop:=hD s=true\/(bQ s ar ar.length).isSome=true
theorem vL{s:List UInt8}{ar:List (List UInt8)}{u:Nat}(hl:∀w,w∈ar->dk w=true)(h:bQ s ar ar.length=some u):dk s=true:=by
 obtain⟨h1,h2⟩:=fJ _ _ (au _) h
 rw[<-h2];exact hl _ (Bb h1)
theorem Ht{s0 s:List UInt8}{ar:List (List UInt8)}{t:Ty}(ht:cS (.atom s0) ar=some t)(hl:∀w,w∈ar->dk w=true)(hs:AE s ar):eE t (oJ s ar)=decide (s0=s):=by
 have h48:∀b:UInt8,hD [b]=false->dk [b]=false->s≠[b]:=fun b h1 h2 e=>by
  subst e
  rcases hs with h|h
  ·rw[h1]at h;cases h
  ·obtain⟨u,hu⟩:=bU.1 h
   rw[vL hl hu]at h2;cases h2
 simp only[cS]at ht
 split at ht
 ·rename_i e;cases ht;subst e
  have:=h48 48 rfl rfl
  rw[decide_eq_false (fun h=>this h.symm)];cases oJ s ar<;>rfl
 ·split at ht
  ·rename_i e;cases ht;subst e
   have:=h48 49 rfl rfl
   rw[decide_eq_false (fun h=>this h.symm)];cases oJ s ar<;>rfl
  ·split at ht
   ·rename_i hp
    cases ht
    unfold oJ
    cases e:bQ s ar ar.length with
    |none=>rfl
    |
     some u =>
     have hloo:=vL hl e
     show false=_
     rw[decide_eq_false]
     rintro rfl
     rw[km hp]at hloo;cases hloo
   ·rename_i hnp
    split at ht
    ·split at ht
     ·rename_i u hu
      cases ht
      unfold oJ
      cases e:bQ s ar ar.length with
      |
       none =>
       show false=_
       rw[decide_eq_false]
       rintro rfl
       rw[hu]at e;cases e
      |
       some u' =>
       show decide (u=u')=_
       rw[cy,decide_eq_true_eq,decide_eq_true_eq]
       constructor
       ·rintro rfl
        rw[<-(fJ _ _ (au _) hu).2,<-(fJ _ _ (au _) e).2]
       ·rintro rfl
        rw[hu]at e;cases e;rfl
     ·rename_i hn
      cases ht
      unfold oJ
      cases e:bQ s ar ar.length with
      |none=>rfl
      |
       some u =>
       show false=_
       rw[decide_eq_false]
       rintro rfl
       rw[hn]at e;cases e
    ·cases ht
theorem DF{b:E}{ar:List (List UInt8)}{w:List UInt8}{t:Ty}(hb:cS b (ar++[w])=some t)(hw:dk w=true)(hs:AE w ar):u7 t (oJ w ar).up=false:=by
 rcases hs with h|h
 ·rw[km h]at hw;cases hw
 ·obtain⟨u,hu⟩:=bU.1 h
  rw[oJ,hu];exact FW hb hu
theorem zC{s w:List UInt8}{ar:List (List UInt8)}(h:w≠s)(hs:AE s ar):AE s (ar++[w]):=by
 rcases hs with h1|h1
 ·exact .inl h1
 ·right;rw[jE ar h];obtain⟨u,hu⟩:=bU.1 h1;rw[hu];rfl
def Rx(e:E)(s:List UInt8)(t:Ty)(tg:Tg)(v:Vl):Prop:=an Tryz.prog 74 [.agg [.v (.string (mk e.at)),e.sp],.v (.string (mk s)),.agg [.v (.string (mk v.cL.at)),v.cL.sp]] [] (bK (.sl (l8 (cm t tg v))))
theorem E1(n:Nat):∀(m:Nat) (v:Vl),v.nodes<=m->∀(e:E) (env:List Fr) (t:Ty),Ask e env t->eV n v (e,env)=true->env.length+v.nodes<100000->∀(s:List UInt8),AE s (names env)->Rx e s t (oJ s (names env)) v
 |0,v,hm=>by have:=du v;omega
 |
  m+1,v,hm=>by
  intro e env t A hv hl s hs
  have hloo:=Aq A.wf
  unfold Rx
  refine PC _ _ _ _ _ ((aX _).mpr trivial) ((aX _).mpr trivial) ?_
  have hlen:=nq t (oJ s (names env)) v
  have atomCase:∀s0,e=.atom s0->stuck t v=true->eZ Tryz.prog 244 (xb (mk e.at) e.sp (mk s) (mk v.cL.at) v.cL.sp) fun _ xs obs=>bK (.sl (l8 (cm t (oJ s (names env)) v))) (xs.headD .any) obs:=by
   rintro s0 rfl hst
   have hat:=Ht A.ty hloo hs
   have hne:s0≠[]:=A.ok
   simp only[xb,E.at,↓zq,zs,ae,zt]
   refine⟨fun _=>⟨fun h=>?_,fun h=>?_⟩,fun h=>absurd h hne⟩
   ·rw[decide_eq_true h]at hat
    rw[mS v hat]
    refine⟨⟨zL _ _ _ _,by omega⟩,?_⟩
    simp[bK,l8,Vl.cL,E.at,E.sp]
   ·rw[decide_eq_false h]at hat
    rw[dS hat hst]
    simp[bK,l8]
  have hvh:=AB v
  rw[dj]at hvh
  rcases gn A.wf A.ty with⟨hb,hq⟩|⟨u,g,rfl,hq,hu⟩
  ·have hhd:hd e env=(e,env):=ka hq
   rcases fI A.ty hb A.cl with⟨rfl,rfl⟩|⟨rfl,rfl⟩|⟨s0,rfl,rfl,hp,h0,h1⟩|⟨x,a,b,t1,t2,rfl,hx,rfl,ha,hbb⟩|⟨x,a,b,t1,t2,rfl,hx,rfl,ha,hbb⟩|⟨x,a,b,t1,rfl,hx,rfl⟩
   ·exact atomCase _ rfl (by cases v<;>rfl)
   ·exact atomCase _ rfl (by cases v<;>rfl)
   ·exact atomCase _ rfl (by cases v<;>rfl)
   ·obtain⟨ok1,ok2,ok3,_⟩:=A.ok
    obtain⟨f1,f2⟩:=fq A.cl
    have hP:=P3.of x a b
    cases v with
    |
     l w =>
     simp only[eV,hhd,hx,beq_self_eq_true,bX]at hv
     simp only[Vl.nodes]at hm hl hlen
     rw[mZ]at hlen |-
     rw[fQ]at hlen
     have hW:=P2.of (.atom [108]) w.cL
     simp only[xb,E.at,↓zq,zs,ae,zt]
     refine⟨fun h=>absurd rfl h,fun _=>ai hvh ?_⟩
     simp only[vh,Vl.cL,toNat_one,bg,↓zq,zs,ae,zt,hP.1,hP.2.1,hP.2.2.1,hP.2.2.2,hW.1,hW.2.1,hW.2.2,aL]
     refine⟨fun _=>?_,fun h=>absurd rfl h⟩
     repeat refine⟨by omega,?_⟩
     refine ai (E1 n m w (by omega) a env t1 ⟨ok2,A.wf,ha,f1⟩ hv (by omega) s hs) ?_
     simp only[↓zq,zs,ae]
     refine aV (J2 [108] Vl.l (fun c=>rfl) (cm t1 (oJ s (names env)) w) [] (by simp;omega)) ?_
     simp[↓zq,zs,ae,bK,aO,bz]
    |
     r w =>
     simp only[eV,hhd,hx,beq_self_eq_true,bX]at hv
     simp only[Vl.nodes]at hm hl hlen
     rw[mY]at hlen |-
     rw[fQ]at hlen
     have hW:=P2.of (.atom [114]) w.cL
     simp only[xb,E.at,↓zq,zs,ae,zt]
     refine⟨fun h=>absurd rfl h,fun _=>ai hvh ?_⟩
     simp only[vh,Vl.cL,toNat_one,bg,↓zq,zs,ae,zt,hP.1,hP.2.1,hP.2.2.1,hP.2.2.2,hW.1,hW.2.1,hW.2.2,aL]
     refine⟨fun h=>by simp at h,fun _=>⟨fun _=>?_,fun h=>absurd rfl h⟩⟩
     repeat refine⟨by omega,?_⟩
     refine ai (E1 n m w (by omega) b env t2 ⟨ok3,A.wf,hbb,f2⟩ hv (by omega) s hs) ?_
     simp only[↓zq,zs,ae]
     refine aV (J2 [114] Vl.r (fun c=>rfl) (cm t2 (oJ s (names env)) w) [] (by simp;omega)) ?_
     simp[↓zq,zs,ae,bK,aO,bz]
    |_=>simp[eV,hhd,hx]at hv
   ·obtain⟨ok1,ok2,ok3,_⟩:=A.ok
    obtain⟨f1,f2⟩:=eW A.cl
    have hP:=P3.of x a b
    cases v with
    |
     p w w' =>
     simp only[eV,hhd,hx,beq_self_eq_true,bX,aw]at hv
     simp only[Vl.nodes]at hm hl hlen
     rw[mX]at hlen |-
     simp only[aq,fQ]at hlen
     have hW:=P3.of (.atom [112]) w.cL w'.cL
     simp only[xb,E.at,↓zq,zs,ae,zt]
     refine⟨fun h=>absurd rfl h,fun _=>ai hvh ?_⟩
     simp only[vh,Vl.cL,toNat_one,bg,↓zq,zs,ae,zt,hP.1,hP.2.1,hP.2.2.1,hP.2.2.2,hW.1,hW.2.1,hW.2.2.1,hW.2.2.2,aL]
     refine⟨fun h=>by simp at h,fun _=>⟨fun h=>by simp at h,fun _=>⟨fun _=>?_,fun h=>absurd rfl h⟩⟩⟩
     repeat refine⟨by omega,?_⟩
     refine ai (E1 n m w (by omega) a env t1 ⟨ok2,A.wf,ha,f1⟩ hv.1 (by omega) s hs) ?_
     simp only[↓zq,zs,ae]
     have h1:=M9 s (mk []) (E.list [x,a,b]).sp ((aX _).mpr trivial) (mk []) (E.list [.atom [112],w.cL,w'.cL]).sp w w' (P3.of _ _ _) (cm t1 (oJ s (names env)) w) (by omega) _ 0 [] (aW _) (by simp;omega)
     rw[bf,aT]at h1
     refine cz h1 ?_
     simp only[↓zq,zs,ae,aX,ae,bg,hP.1,hP.2.1,hP.2.2.2,hW.1,hW.2.1,hW.2.2.2,aL]
     repeat refine⟨by omega,?_⟩
     refine ai (E1 n m w' (by omega) b env t2 ⟨ok3,A.wf,hbb,f2⟩ hv.2 (by omega) s hs) ?_
     simp only[↓zq,zs,ae]
     have h2:=Le (mk []) (E.list [.atom [112],w.cL,w'.cL]).sp w w' (P3.of _ _ _) (cm t2 (oJ s (names env)) w') (by omega) _ 0 (iI (fun c=>Vl.l (.p c w')) (cm t1 (oJ s (names env)) w)) (aW _) (by rw[fQ];omega)
     rw[bf]at h2
     refine cz h2 ?_
     simp[↓zq,zs,ae,bK]
    |_=>simp[eV,hhd,hx]at hv
   ·obtain⟨t1',he1,h1,f1,hw1⟩:=jw A.wf A.ok hx A.ty A.cl
    cases he1
    obtain⟨ok1,ok2,ok3,_⟩:=A.ok
    obtain⟨_,hla,_,_⟩:=dA hx A.ty
    have A':Ask b (.mk a.at (.list [x,a,b]) env::env) t1:=⟨ok3,hw1,h1,f1⟩
    have hnm:names (.mk a.at (.list [x,a,b]) env::env)=names env++[a.at]:=rfl
    have hP:=P3.of x a b
    cases v with
    |
     f w =>
     simp only[eV,hhd,hx,beq_self_eq_true,bX]at hv
     simp only[Vl.nodes]at hm hl hlen
     have hW:=P2.of (.atom [102]) w.cL
     simp only[xb,E.at,↓zq,zs,ae,zt]
     refine⟨fun h=>absurd rfl h,fun _=>ai hvh ?_⟩
     simp only[vh,Vl.cL,toNat_one,bg,↓zq,zs,ae,zt,hP.1,hP.2.1,hP.2.2.1,hP.2.2.2,hW.1,hW.2.1,hW.2.2,aL]
     refine⟨fun h=>by simp at h,fun _=>⟨fun h=>by simp at h,fun _=>⟨fun h=>by simp at h,fun _=>?_⟩⟩⟩
     repeat refine⟨by omega,?_⟩
     refine⟨fun h=>?_,fun h=>?_⟩
     ·
      have hh:a.at=s:=h
      subst hh
      have:u7 (.rc t1) (oJ a.at (names env))=false:=DF h1 hla hs
      rw[iP _ _ (au _) _ _ this]
      simp[bK,l8]
     ·have hh:a.at≠s:=h
      rw[nn]at hlen |-
      simp only[aq,fQ]at hlen
      repeat refine⟨by omega,?_⟩
      have i1:=E1 n m w (by omega) b _ t1 A' hv (by simp;omega) s (by rw[hnm];exact zC hh hs)
      rw[hnm,Ae _ hh]at i1
      refine ai i1 ?_
      simp only[↓zq,zs,ae]
      have h3:=Jf s a.at (mk []) (E.list [x,a,b]).sp ((aX _).mpr trivial) (mk []) (E.list [.atom [102],w.cL]).sp ((aX _).mpr trivial) (cm t1 (oJ s (names env)).up w) (by omega) _ 0 [] (aW _) (by simp;omega)
      rw[bf,aT]at h3
      refine cz h3 ?_
      simp only[↓zq,zs,ae,aX,ae,toNat_one,bg,hP.1,hP.2.1,hP.2.2.2,hW.1,hW.2.1,hW.2.2,aL]
      repeat refine⟨by omega,?_⟩
      have i2:=E1 n m w (by omega) b _ t1 A' hv (by simp;omega) a.at (by rw[hnm];right;rw[fm];rfl)
      rw[hnm,vM]at i2
      refine ai i2 ?_
      simp only[↓zq,zs,ae]
      have hl2:=nq t1 (.bd 0) w
      have ih3:∀h,h∈cm t1 (.bd 0) w->Rx (.list [x,a,b]) s (.rc t1) (oJ s (names env)) h.2:=fun h hh=>by
       have h3:=(iE hh).1
       have h4:=iv n m w (by omega) b _ t1 A' hv 0 _ rfl h hh
       exact E1 n m h.2 (by omega) (.list [x,a,b]) env (.rc t1) A h4 (by omega) s hs
      have h4:=OS s (.list [x,a,b]) t1 (oJ s (names env)) (cm t1 (.bd 0) w) (by omega) ih3 _ 0 (iI (fun c=>.f (.l c)) (cm t1 (oJ s (names env)).up w)) (aW _) (by
       simp only[bf,aq,fQ]
       have hlen2:(cm t1 (oJ s (names env)).up w).length+((cm t1 (.bd 0) w).flatMap (Av t1 (oJ s (names env)))).length<=1+w.nodes:=hlen
       omega)
      rw[bf]at h4
      simp only[E.at]at h4
      refine cz h4 ?_
      simp[↓zq,zs,ae,bK]
    |_=>simp[eV,hhd,hx]at hv
  ·cases e with
   |atom s0=>exact atomCase _ rfl (by cases v<;>rfl)
   |list l=>exact absurd hq (by rw[show (E.list l).at=[] from rfl,kM A.wf];simp)
end Go.Proofs.Trees
namespace Go.Proofs.Trees
open Go Go.VL Go.RowKit
def kC(s:List UInt8):Option Ty:=match w8 s with
 |some (.rc a)=>some a
 |_=>none
def BZ:Option Ty->AV
 |some a=>(Ty.rc a).av
 |none=>gJ
theorem Ra(s:List UInt8):an Tryz.prog 95 [.v (.string (mk s))] [] (bK (BZ (kC s))):=by
 refine Q2 _ ?_
 unfold NV
 refine ai (I5 s) ?_
 cases h:w8 s with
 |none=>simp[↓zq,zs,ae,ic,BZ,kC,h,bK]
 |some t=>cases t<;>simp[↓zq,zs,ae,ic,BZ,kC,h,bK,Ty.av]
def qw(s v:List UInt8):Option Vl:=match kC s with
 |some _=>m9 s v 100
 |none=>none
def IG(s:List UInt8):AV:=match kC s with
 |some a=>(Ty.rc a).av
 |none=>gJ
theorem uf{s:List UInt8}{a:Ty}(h:kC s=some a):w8 s=some (.rc a):=by
 unfold kC at h
 split at h
 ·rename_i e;cases h;exact e
 ·cases h
theorem Qt(s v:List UInt8):an Tryz.prog 69 [.v (.string (mk s)),.v (.string (mk v))] [] (bK (.cG [IG s,jv (qw s v)])):=by
 refine QY _ _ ?_
 unfold Mb
 refine ai (Ra s) ?_
 cases h:kC s with
 |none=>simp[↓zq,zs,ae,BZ,IG,qw,h,bK,jv]
 |
  some a =>
  simp only[↓zq,zs,ae,BZ,aE,fP]
  refine⟨fun h=>(by cases h),fun _=>?_⟩
  refine ai (L3 s v 100) ?_
  rw[uf h]
  simp[↓zq,zs,ae,ic,gq,IG,qw,h,bK,aE]
structure LV(s v:List UInt8)(w:Vl)(a:Ty)(x A B:E):Prop where
 l:kC s=some a
 ce:jI s=some (.list [x,A,B])
 v:sw v=some w
 ask:Ask (.list [x,A,B]) [] (.rc a)
 hx:x.at=[114,101,99]
 Tw:dk A.at=true
 body:Ask B [.mk A.at (.list [x,A,B]) []] a
 eV:eV 100 w (.list [x,A,B],[])=true
theorem tz{e:E}{env:List Fr}{a:Ty}(A:Ask e env (.rc a)):∃x y z,e=.list [x,y,z]/\x.at=[114,101,99]/\dk y.at=true/\Ask z (.mk y.at (.list [x,y,z]) env::env) a:=by
 rcases fI A.ty rfl A.cl with⟨_,h⟩|⟨_,h⟩|⟨s,_,h,_⟩|⟨x,y,z,t1,t2,_,_,h,_⟩|⟨x,y,z,t1,t2,_,_,h,_⟩|⟨x,y,z,t1,rfl,hx,h⟩
 ·cases h
 ·cases h
 ·cases h
 ·cases h
 ·cases h
 ·cases h
  obtain⟨t1',he1,h1,f1,hw1⟩:=jw A.wf A.ok hx A.ty A.cl
  cases he1
  obtain⟨_,_,ok3,_⟩:=A.ok
  obtain⟨_,hla,_,_⟩:=dA hx A.ty
  exact⟨x,y,z,rfl,hx,hla,ok3,hw1,h1,f1⟩
theorem pU{s v:List UInt8}{w:Vl}(h:qw s v=some w):∃a x A B,LV s v w a x A B:=by
 unfold qw at h
 split at h
 ·rename_i a hl
  obtain⟨e,t,m,h1,h2,h3,h4,h5,h6,h7⟩:=oG h
  rw[uf hl]at h3
  cases h3
  obtain⟨x,A,B,rfl,hx,hA,hB⟩:=tz h4
  have:m=100:=by omega
  subst this
  exact⟨a,x,A,B,hl,h1,h2,h4,hx,hA,hB,h7⟩
 ·cases h
theorem LV.ig{s v:List UInt8}{w:Vl}{a:Ty}{x A B:E}(h:LV s v w a x A B):w.ig 100:=(lW h.v).2.1
theorem LV.nodes{s v:List UInt8}{w:Vl}{a:Ty}{x A B:E}(h:LV s v w a x A B):w.nodes<=200:=(lW h.v).2.2
theorem uM{n:Nat}{v:Vl}{x A B:E}{env:List Fr}(hw:WF env)(hx:x.at=[114,101,99])(h:eV n v (.list [x,A,B],env)=true):∃w,v=.f w/\eV n w (B,.mk A.at (.list [x,A,B]) env::env)=true:=by
 have hd:=pX (x:=x) (a:=A) (b:=B) hw
 cases v<;>simp[eV,hd,hx]at h |-
 exact h
theorem IQ(n:Nat)(v:Vl)(x A B:E)(a:Ty)(hA:Ask B [.mk A.at (.list [x,A,B]) []] a)(hx:x.at=[114,101,99])(hv:eV n v (.list [x,A,B],[])=true)(hl:v.nodes<90000):an Tryz.prog 58 [(Ty.rc a).av,v.cD] [] (bK (.sl (gF (kids a v)))):=by
 obtain⟨w,rfl,hw⟩:=uM .nil hx hv
 refine Sw _ _ ((aE _).mpr trivial) ((aM _).mpr trivial) ?_
 unfold OX
 refine aP (D9 a gJ [] .nil) (B4.ne a gJ []) ?_
 rintro r o ⟨⟨m,hm,rfl⟩,rfl⟩
 have he2:kD (.ptr [.pid m [(Ty.rc a).av,gJ],gJ]) [m]:=.cons hm .nil
 have hfr:LK.ptr.has (.pid m [(Ty.rc a).av,gJ]):=.inr (.inr ⟨_,_,rfl⟩)
 simp only[Ty.av]at he2 hfr
 simp only[↓zq,zs,ae,bF,aE,he2.has,hfr,Vl.cD,aM,Ty.av]
 repeat refine⟨by omega,?_⟩
 simp only[Vl.nodes]at hl
 have i2:=EX n w.nodes w (au _) B _ a hA hw (by simp;omega) _ _ he2 (by simp) (.bd 0) [] _ (by have:=Az.bd (k:=0) (ids:=[m]) (by simp) [(Ty.rc a).av,gJ] [];simpa only[bq,Ty.av]using this)
 unfold Hu at i2
 refine ai i2 ?_
 simp[↓zq,zs,ae,bK,kids]
def rl(l:List Nat):List (List AV):=l.map fun(k:Nat)=>[.v (.int .i64 (k:Int))]
theorem wJ(l:List Nat):(rl l).length=l.length:=by simp[rl]
end Go.Proofs.Trees
namespace Go.Proofs.Trees
open Go Go.VL Go.RowKit
theorem G0{b:UInt8}(h:ij b=true):fe b=true:=by
 simp only[ij,fe,decide_eq_true_eq]at h |-;omega
theorem DH{y:Nm}(h:Lk y):y≠[]/\y.all fe=true:=by
 have key:∀lo hi,97<=lo->hi<=122->named lo hi y=true->y≠[]/\y.all fe=true:=fun lo hi h1 h2 h=>by
  cases y with
  |nil=>cases h
  |
   cons c r =>
   simp only[named,aw,decide_eq_true_eq]at h
   refine⟨by simp,?_⟩
   rw[cZ,aw]
   refine⟨?_,?_⟩
   ·simp only[fe,decide_eq_true_eq];omega
   ·rw[bZ]
    intro b hb
    exact G0 (bZ.1 h.2 b hb)
 rcases h with h|h
 ·exact key 120 122 (by omega) (by omega) h
 ·exact key 116 116 (by omega) (by omega) h
theorem Ba(m:Nat):(tN m).all fe=true:=by
 rw[cZ,w9 (m+1) m (by omega)];rfl
theorem pK(F:List Nm):∀(t:Ty) (to:List Nm) (k:Nat),(∀y,bn y t=true->y≠[]/\y.all fe=true)->(∀w,w∈to->w≠[]/\w.all fe=true)->jx t to.length->(gY F t to k).1.pr
 | .zero,_,_,_,_,_=>⟨by simp,by decide⟩
 | .one,_,_,_,_,_=>⟨by simp,by decide⟩
 | .name s,_,_,hn,_,_=>hn s (by simp[bn])
 |
  .bound u,to,_,_,ht,hl=>by
  have:to.length-1-u<to.length:=by have:u<to.length:=hl;omega
  show (E.atom (gj to u)).pr
  unfold gj
  rw[aa,bp this]
  exact ht _ (bD this)
 | .plus a b,to,k,hn,ht,hl=>⟨by simp,⟨by simp,by decide⟩,pK F a to k (fun y hy=>hn y (by simp[bn,hy])) ht hl.1,pK F b to _ (fun y hy=>hn y (by simp[bn,hy])) ht hl.2,trivial⟩
 | .times a b,to,k,hn,ht,hl=>⟨by simp,⟨by simp,by decide⟩,pK F a to k (fun y hy=>hn y (by simp[bn,hy])) ht hl.1,pK F b to _ (fun y hy=>hn y (by simp[bn,hy])) ht hl.2,trivial⟩
 |
  .rc a,to,k,hn,ht,hl=>by
  refine⟨by simp,⟨by simp,by decide⟩,⟨by simp,Ba _⟩,pK F a (to++[tN (nx F k)]) _ hn (fun w hw=>?_) (by rw[aq];exact hl),trivial⟩
  rcases aN.1 hw with hw|hw
  ·exact ht w hw
  ·simp only[aR]at hw;rw[hw];exact⟨by simp,Ba _⟩
theorem Au{D:Ty}{dt:Nm}(g:fX D)(hn:∀y,bn y D=true->Lk y)(h:told D=some dt):qL dt=some D:=by
 unfold told at h
 split at h
 ·rename_i hh
  cases h
  obtain⟨t,ht⟩:=bU.1 hh.2
  obtain⟨e,he,hw,hte,_,_⟩:=nV ht
  obtain⟨h1,_,_⟩:=pB he
  obtain⟨hx,hpr,_⟩:=xO h1
  obtain⟨w1,w2,_⟩:=ku (bP D []) D [] 0 (.nil _ _) g.1 fun y hy=>⟨(eQ D [] y).2 (.inr hy),g.2 y hy⟩
  have hp:=pK (bP D []) D [] 0 (fun y hy=>DH (hn y hy)) (fun w hw=>by cases hw) g.1
  have:=BY hp hpr hx
  rw[ht,<-hte,<-this,w2]
 ·cases h
theorem s6{a d:Ty}{x:Nm}(h:n6 a x=some d):∀y,bn y d=true->bn y a=true:=by
 simp only[n6,a7,cQ,eN]at h
 obtain⟨d',h1,_,rfl⟩:=h
 intro y hy
 rcases jb _ hy with h|⟨h,h'⟩
 ·exact h
 ·rcases gy a 0 (h1.names y h')with e|e
  ·exact absurd e h
  ·exact e
structure ZT(s d:Nm)(a:Ty)(x A B:E)(D:Ty):Prop where
 l:kC s=some a
 ce:jI s=some (.list [x,A,B])
 ask:Ask (.list [x,A,B]) [] (.rc a)
 hx:x.at=[114,101,99]
 body:Ask B [.mk A.at (.list [x,A,B]) []] a
 dl:cH s=some d
 y:qL s=some (.rc a)
 lp:n6 a l9=some D
 bk:qL d=some D
theorem uz{s:Nm}{t:Ty}(h:w8 s=some t):qL s=some t:=by
 unfold w8 at h
 split at h
 ·cases h
 ·rename_i u hu
  split at h
  ·cases h;exact hu
  ·cases h
theorem ZT.of{s d:Nm}{a:Ty}(hl:kC s=some a)(hd:cH s=some d):∃x A B D,ZT s d a x A B D:=by
 have hc:=uf hl
 cases hce:jI s with
 |none=>rw[nj hce]at hc;cases hc
 |
  some e =>
  obtain⟨t,h1,hA,_⟩:=gZ hce
  rw[hc]at h1;cases h1
  obtain⟨x,A,B,rfl,hx,hA',hB⟩:=tz hA
  have hy:=uz hc
  have hd':=hd
  unfold cH at hd'
  rw[hy]at hd'
  obtain⟨D,h2,h3⟩:=a7.1 hd'
  obtain⟨e2,he2,hw2,hte2,_,_⟩:=nV hy
  have hg:=rG hw2 hte2 (x:=l9) ⟨by simp,by simp,by simp⟩ h2
  exact⟨x,A,B,D,hl,hce,hA,hx,hB,hd,hy,h2,Au hg.1 (fun y hy'=>mU hy y (s6 h2 y hy')) h3⟩
structure Cx(a:Ty)(w:Vl):Prop where
 ok:dK a w=true
 ty:∀v,vT 100 v (.rc a)=true->vT 100 (.f (cW a w v)) (.rc a)=true
 ig:w.ig 100
 nd:w.nodes<=200
structure Fo(a:Ty)(v:Vl):Prop where
 ty:vT 100 v (.rc a)=true
 ig:v.ig 100
 nd:v.nodes<=200
theorem ZT.ctx{s d:Nm}{a:Ty}{x A B:E}{D:Ty}(z:ZT s d a x A B D){c:Nm}{w:Vl}(h:m9 d c 100=some w):Cx a w:=by
 obtain⟨e,t,m,h1,h2,h3,h4,h5,h6,h7⟩:=oG h
 have hm:m=100:=by omega
 subst hm
 have:=uz h3
 rw[z.bk]at this;cases this
 rw[na h4]at h7
 obtain⟨e2,he2,hw2,hte2,_,_⟩:=nV z.y
 have hlc:jx (.rc a) 0:=hte2 ▸ hw2.qH.1
 obtain⟨q1,q2⟩:=Ii (ui z.y) hlc z.lp h7
 exact⟨q1,q2,(lW h2).2.1,(lW h2).2.2⟩
theorem ZT.oI{s d:Nm}{a:Ty}{x A B:E}{D:Ty}(z:ZT s d a x A B D){f:Nm}{v:Vl}(h:qw s f=some v):Fo a v/\f=v.cA:=by
 obtain⟨a',x',A',B',L⟩:=pU h
 have:=L.l
 rw[z.l]at this;cases this
 exact⟨⟨by rw[<-na L.ask];exact L.eV,L.ig,L.nodes⟩,qQ L.v⟩
theorem Fo.eV{s d:Nm}{a:Ty}{x A B:E}{D:Ty}(z:ZT s d a x A B D){v:Vl}(h:Fo a v):eV 100 v (.list [x,A,B],[])=true:=by rw[na z.ask];exact h.ty
theorem ZT.cA{s d:Nm}{a:Ty}{x A B:E}{D:Ty}(z:ZT s d a x A B D){w:Vl}(hb:w.ig 100)(hv:vT 100 w (.rc a)=true):m9 s w.cA 100=if w.nodes<=200 then some w else none:=by
 unfold m9
 rw[z.ce]
 by_cases hn:w.nodes<=200
 ·rw[qP hb hn,if_pos hn]
  simp only
  rw[if_pos ⟨by omega,by rw[show (100:Int).toNat=100 from rfl,na z.ask];exact hv⟩]
 ·rw[if_neg hn]
  cases q:sw w.cA with
  |none=>rfl
  |
   some w' =>
   exfalso
   obtain⟨_,h2,h3⟩:=lW q
   have:=tU hb h2 (qQ q)
   rw[this]at hn;exact hn h3
theorem ZT.lv{s d:Nm}{a:Ty}{x A B:E}{D:Ty}(z:ZT s d a x A B D)(f:Nm):qw s f=m9 s f 100:=by
 unfold qw;rw[z.l]
def eC(d:Nm):List Nm->Option (List Vl)
 |[]=>some []
 |
  c::r=>match m9 d c 100,eC d r with
  |some w,some l=>some (w::l)
  |_,_=>none
theorem se{s d:Nm}{a:Ty}{x A B:E}{D:Ty}(z:ZT s d a x A B D):∀(p:List Nm) (l:List Vl),eC d p=some l->p=l.map (·.cA)/\∀c,c∈l->Cx a c
 |[],l,h=>by cases h;exact⟨rfl,fun c hc=>by cases hc⟩
 |
  c::r,l,h=>by
  simp only[eC]at h
  split at h
  ·rename_i w l' h1 h2
   cases h
   obtain⟨q1,q2⟩:=se z r l' h2
   obtain⟨_,_,_,_,hv,_⟩:=oG h1
   refine⟨by rw[bE,<-q1,<-qQ hv],fun c' hc'=>?_⟩
   rcases aK.1 hc' with rfl|hc'
   ·exact z.ctx h1
   ·exact q2 c' hc'
  ·cases h
theorem sX(d:Nm):∀(p q:List Nm),eC d (p++q)=(eC d p).bind fun l=>(eC d q).map (l++·)
 |[],q=>by cases h:eC d q<;>simp[eC,h]
 |
  c::p,q=>by
  simp only[bc,eC,sX d p q]
  cases m9 d c 100 with
  |none=>rfl
  |
   some w =>
   cases eC d p with
   |none=>rfl
   |some l=>cases eC d q<;>rfl
noncomputable def vt (s:Nm) (p:List Nm) (f:Nm):Option (List Vl×Vl):=match qw s f,cH s with
 |some v,some d=>if p.length<=50 then(eC d p).map fun l=>(l,v)else none
 |_,_=>none
def zA(s:Nm):Ty:=(kC s).getD .zero
def pz(a:Ty)(l:List Vl)(v:Vl):Option (List Vl×Vl):=match l.getLast? with
 |none=>none
 |some c=>if(Vl.f (cW a c v)).nodes<=200 then some (l.dropLast,.f (cW a c v))else none
def iV:Nat->Ty->List Vl->Vl->Option Vl
 |0,_,_,v=>some v
 |n+1,a,l,v=>(pz a l v).bind fun r=>iV n a r.1 r.2
def sf(a:Ty)(l:List Vl)(v:Vl):Option Vl:=iV l.length a l v
noncomputable def fF (s:Nm) (p:List Nm) (f:Nm):Option (List Vl×Vl):=(vt s p f).bind fun r=>if(sf (zA s) r.1 r.2).isSome=true then some r else none
structure ZI(a:Ty)(l:List Vl)(v:Vl):Prop where
 ctx:∀c,c∈l->Cx a c
 oI:Fo a v
theorem mn{a:Ty}{l l':List Vl}{v w:Vl}(h:ZI a l v)(hu:pz a l v=some (l',w)):ZI a l' w/\l'.length+1=l.length/\∃c,l=l'++[c]/\w=.f (cW a c v):=by
 unfold pz at hu
 cases q:l.getLast? with
 |none=>rw[q]at hu;cases hu
 |
  some c =>
  rw[q]at hu
  simp only at hu
  split at hu
  ·rename_i hn
   cases hu
   have hne:l≠[]:=by rintro rfl;cases q
   have hl:l.dropLast++[c]=l:=by
    have:=List.dropLast_concat_getLast hne
    rw[List.getLast?_eq_some_getLast hne]at q
    cases q;exact this
   have hc:c∈l:=by rw[<-hl];simp
   have hC:=h.ctx c hc
   refine⟨⟨fun c' hc'=>h.ctx c' (by rw[<-hl];exact aD _ hc'),hC.ty v h.oI.ty,rr 100 a c v hC.ig h.oI.ig,hn⟩,?_,c,hl.symm,rfl⟩
   have:=congrArg List.length hl
   simpa using this
  ·cases hu
end Go.Proofs.Trees
namespace Go.Proofs.Trees
open Go Go.VL Go.RowKit
theorem xr(w:World)(k:Nat)(os:Array Obj):Below w.heap.size w (Go.«Sort».grow (w.drewN k) os):=by
 refine⟨rfl,rfl,rfl,?_,fun b hb=>?_⟩
 ·simp[Go.«Sort».grow,World.drewN]
 ·simp only[Go.«Sort».grow,World.drewN]
  rw[Array.getElem?_append_left hb]
theorem FA(k:Nat)(hk:k<1000000000):an Tryz.prog 152 [.v (.int .i64 (k:Int))] [] (bK (.v (.string (mk (dd k))))):=by
 refine an.Rz (xs:=[.int .i64 (k:Int)]) ⟨qF,by kernel_rfl,by kernel_rfl,by kernel_rfl⟩ fun w ht=>?_
 have:=Any.strconv_Itoa Tryz.Bp (k:Int) (by omega) (by omega) w ht
 refine Calls.mono this fun e w' ⟨h1,n,os,h2⟩=>⟨?_,?_⟩
 ·rw[h1,Lib.itoa_nonneg];rfl
 ·rw[h2];exact xr w n os
abbrev hN(k:Nat):Nm:=35::dd k
theorem tX{j k:Nat}(h:hN j=hN k):j=k:=xg (j+1) j k (by omega) (List.cons.inj h).2
theorem Fv(u:Ty):∀(t:Ty) (i:Nat),i+t.atoms<1000000->an Tryz.prog 135 [t.av,u.av,.v (.int .i64 (i:Int))] [] (bK (dy u t i).av)
 |
  .zero,i,_=>by
  refine FP _ _ _ ((aE _).mpr trivial) ((aE _).mpr trivial) ?_
  simp[E5,Ty.av,dy,↓zq,zs,ae,bK]
 |
  .one,i,_=>by
  refine FP _ _ _ ((aE _).mpr trivial) ((aE _).mpr trivial) ?_
  simp[E5,Ty.av,dy,↓zq,zs,ae,bK]
 |
  .name s,i,_=>by
  refine FP _ _ _ ((aE _).mpr trivial) ((aE _).mpr trivial) ?_
  simp[E5,Ty.av,dy,↓zq,zs,ae,bK]
 |
  .bound k,i,_=>by
  refine FP _ _ _ ((aE _).mpr trivial) ((aE _).mpr trivial) ?_
  simp only[E5,Ty.av,dy,↓zq,zs,ae,bK]
  refine⟨by omega,fun _=>⟨by omega,fun h=>?_,fun h=>?_⟩,fun h=>absurd rfl h⟩
  ·rw[if_pos (by omega)]
  ·rw[if_neg (by omega)];rfl
 |
  .plus a b,i,hl=>by
  simp only[Ty.atoms]at hl
  refine FP _ _ _ ((aE _).mpr trivial) ((aE _).mpr trivial) ?_
  simp only[E5,Ty.av,dy,↓zq,zs,ae,aE]
  refine⟨by omega,fun h=>by omega,fun _=>⟨fun _=>?_,fun h=>absurd rfl h⟩⟩
  repeat refine⟨by omega,?_⟩
  refine ai (Fv u a i (by omega)) ?_
  simp only[↓zq,zs,ae,aE]
  repeat refine⟨by omega,?_⟩
  refine ai (Fv u b i (by omega)) ?_
  simp only[↓zq,zs,ae,aE]
  exact⟨rfl,rfl⟩
 |
  .times a b,i,hl=>by
  simp only[Ty.atoms]at hl
  refine FP _ _ _ ((aE _).mpr trivial) ((aE _).mpr trivial) ?_
  simp only[E5,Ty.av,dy,↓zq,zs,ae,aE]
  refine⟨by omega,fun h=>by omega,fun _=>⟨fun h=>by omega,fun _=>⟨fun _=>?_,fun h=>absurd rfl h⟩⟩⟩
  repeat refine⟨by omega,?_⟩
  refine ai (Fv u a i (by omega)) ?_
  simp only[↓zq,zs,ae,aE]
  repeat refine⟨by omega,?_⟩
  refine ai (Fv u b i (by omega)) ?_
  simp only[↓zq,zs,ae,aE]
  exact⟨rfl,rfl⟩
 |
  .rc a,i,hl=>by
  simp only[Ty.atoms]at hl
  refine FP _ _ _ ((aE _).mpr trivial) ((aE _).mpr trivial) ?_
  simp only[E5,Ty.av,dy,↓zq,zs,ae,aE]
  refine⟨by omega,fun h=>by omega,fun _=>⟨fun h=>by omega,fun _=>⟨fun h=>by omega,fun _=>⟨fun _=>?_,fun h=>absurd rfl h⟩⟩⟩⟩
  repeat refine⟨by omega,?_⟩
  rw[bA i (by omega)]
  refine ai (Fv u a (i+1) (by omega)) ?_
  simp only[↓zq,zs,ae,aE]
  exact⟨rfl,rfl⟩
theorem BS(x:Nm)(u:Ty):∀(t:Ty),an Tryz.prog 136 [t.av,.v (.string (mk x)),u.av] [] (bK (sub x u t).av)
 |
  .zero=>by
  refine wI _ _ _ ((aE _).mpr trivial) ((aE _).mpr trivial) ?_
  simp[EG,Ty.av,sub,↓zq,zs,ae,bK]
 |
  .one=>by
  refine wI _ _ _ ((aE _).mpr trivial) ((aE _).mpr trivial) ?_
  simp[EG,Ty.av,sub,↓zq,zs,ae,bK]
 |
  .bound k=>by
  refine wI _ _ _ ((aE _).mpr trivial) ((aE _).mpr trivial) ?_
  simp[EG,Ty.av,sub,↓zq,zs,ae,bK]
 |
  .name s=>by
  refine wI _ _ _ ((aE _).mpr trivial) ((aE _).mpr trivial) ?_
  simp only[EG,Ty.av,sub,↓zq,zs,ae,zt,bK]
  refine⟨by omega,fun _=>⟨by omega,fun h=>?_,fun h=>?_⟩,fun h=>absurd rfl h⟩
  ·rw[if_pos h]
  ·rw[if_neg h];rfl
 |
  .plus a b=>by
  refine wI _ _ _ ((aE _).mpr trivial) ((aE _).mpr trivial) ?_
  simp only[EG,Ty.av,sub,↓zq,zs,ae,aE]
  refine⟨by omega,fun h=>by omega,fun _=>⟨fun _=>?_,fun h=>absurd rfl h⟩⟩
  repeat refine⟨by omega,?_⟩
  refine ai (BS x u a) ?_
  simp only[↓zq,zs,ae,aE]
  repeat refine⟨by omega,?_⟩
  refine ai (BS x u b) ?_
  simp only[↓zq,zs,ae,aE]
  exact⟨rfl,rfl⟩
 |
  .times a b=>by
  refine wI _ _ _ ((aE _).mpr trivial) ((aE _).mpr trivial) ?_
  simp only[EG,Ty.av,sub,↓zq,zs,ae,aE]
  refine⟨by omega,fun h=>by omega,fun _=>⟨fun h=>by omega,fun _=>⟨fun _=>?_,fun h=>absurd rfl h⟩⟩⟩
  repeat refine⟨by omega,?_⟩
  refine ai (BS x u a) ?_
  simp only[↓zq,zs,ae,aE]
  repeat refine⟨by omega,?_⟩
  refine ai (BS x u b) ?_
  simp only[↓zq,zs,ae,aE]
  exact⟨rfl,rfl⟩
 |
  .rc a=>by
  refine wI _ _ _ ((aE _).mpr trivial) ((aE _).mpr trivial) ?_
  simp only[EG,Ty.av,sub,↓zq,zs,ae,aE]
  refine⟨by omega,fun h=>by omega,fun _=>⟨fun h=>by omega,fun _=>⟨fun h=>by omega,fun _=>⟨fun _=>?_,fun h=>absurd rfl h⟩⟩⟩⟩
  repeat refine⟨by omega,?_⟩
  refine ai (BS x u a) ?_
  simp only[↓zq,zs,ae,aE]
  exact⟨rfl,rfl⟩
theorem yc(c:Int)(a b:Ty):an Tryz.prog 153 [.v (.int .u8 c),a.av,b.av] [] (bK (.ptr [.v (.int .u8 c),.v (.string (mk [])),.v (.int .i64 0),a.av,b.av])):=by
 refine QK _ _ _ ((aE _).mpr trivial) ((aE _).mpr trivial) ?_
 simp[JN,↓zq,zs,ae,bK]
abbrev Em(f:Nat)(g:Bool):Ob:=.cells [.v (.int .i64 (f:Int)),.v (.bool g)]
theorem KK(f:Nat)(g:Bool)(hf:f<100000000):an Tryz.prog 132 [.ref 0 0] [Em f g] (df (.v (.string (mk (hN (f+1))))) [Em (f+1) g]):=by
 refine QU _ _ ?_
 simp only[Nu,↓zq,zs,ae,zt]
 rw[bA f (by omega)]
 refine ai (FA (f+1) (by omega)) ?_
 have hd:=pk 8 (f+1) (by omega)
 simp only[↓zq,zs,ae,zt,bc,aT]
 exact⟨by simp[cM];omega,rfl,rfl⟩
def vc(g:Bool)(t:Ty):Ty:=if g=true\/400<t.atoms then .zero else t
def Ax(g:Bool)(t:Ty):Bool:=g||decide (400<t.atoms)
theorem xY(t:Ty):vc true t=.zero:=by simp[vc]
theorem wu(t:Ty):Ax true t=true:=rfl
theorem vU{t:Ty}(h:t.atoms<=400):vc false t=t:=by simp[vc,show ¬400<t.atoms by omega]
theorem vO{t:Ty}(h:t.atoms<=400):Ax false t=false:=by simp[Ax,show ¬400<t.atoms by omega]
theorem ES{t:Ty}(h:¬t.atoms<=400):Ax false t=true:=by simp[Ax,show 400<t.atoms by omega]
theorem E4{t:Ty}(h:¬t.atoms<=400):vc false t=.zero:=by simp[vc,show 400<t.atoms by omega]
theorem vQ(f:Nat)(g:Bool)(t:Ty)(hl:t.atoms<1000000):an Tryz.prog 133 [.ref 0 0,t.av] [Em f g] (df (vc g t).av [Em f (Ax g t)]):=by
 refine QQ _ _ _ ((aE _).mpr trivial) ?_
 simp only[Oz,↓zq,zs,ae,zt]
 cases g with
 |true=>exact⟨fun _=>⟨rfl,rfl⟩,fun h=>(by cases h)⟩
 |
  false =>
  refine⟨fun h=>(by cases h),fun _=>?_⟩
  refine ai (EE t hl) ?_
  simp only[↓zq,zs,ae,zt]
  refine⟨fun h=>?_,fun h=>?_⟩
  ·have h:400<t.atoms:=by omega
   simp[vc,Ax,h,df,Ty.av]
  ·have h:¬400<t.atoms:=by omega
   simp[vc,Ax,h,df]
theorem HC(t:Ty)(s:Nm)(f:Nat):an Tryz.prog 134 [.ref 0 0,t.av,.v (.string (mk s))] [Em f true] (df Ty.zero.av [Em f true]):=by
 refine Od _ _ _ _ ((aE _).mpr trivial) ?_
 simp only[Ee,↓zq,zs,ae]
 exact⟨fun _=>⟨rfl,rfl⟩,fun h=>(by cases h)⟩
def CG(f:Nat)(t:Ty):Prop:=∀j,f<j->bn (hN j) t=false
def qm(o:Option Ty)(t:Ty):Nat:=match o with|some d=>d.atoms|none=>1000*t.atoms
def Bz(o:Option Ty)(f B:Nat):AV->List Ob->Prop:=fun r ob=>∃f':Nat,f<=f'/\f'<=f+B/\r=(o.getD .zero).av/\ob=[Em f' o.isNone]
theorem Bz.ne(o:Option Ty)(f B:Nat):∃r ob,Bz o f B r ob:=⟨_,_,f,au _,da _ _,rfl,rfl⟩
theorem rY{f f':Nat}{t:Ty}(h:CG f t)(hf:f<=f'):CG f' t:=fun j hj=>h j (by omega)
theorem wY:∀(n:Nat) (t:Ty),t.atoms<=n->t.atoms<=400->∀(s:Nm) (f:Nat),CG f t->(∀j,f<j->s≠hN j)->f+1000*t.atoms<50000000->an Tryz.prog 134 [.ref 0 0,t.av,.v (.string (mk s))] [Em f false] (Bz (lH t s) f (qm (lH t s) t))
 |0,t,h=>by have:=ej t;omega
 |
  n+1,t,hn=>by
  intro h4 s f hf hs hb
  refine Od _ _ _ _ ((aE _).mpr trivial) ?_
  have fin0:∀u:Ty,lH t s=some u->Bz (lH t s) f (qm (lH t s) t) u.av [Em f false]:=fun u hu=>by
   rw[hu];exact⟨f,au _,da _ _,rfl,rfl⟩
  cases t with
  |
   zero =>
   have:=fin0 .zero (wh s)
   simpa[Ee,Ty.av,↓zq,zs,ae]using this
  |
   one =>
   have:=fin0 .zero (yg s)
   simpa[Ee,Ty.av,↓zq,zs,ae]using this
  |
   bound k =>
   have:=fin0 .zero (zB k s)
   simpa[Ee,Ty.av,↓zq,zs,ae]using this
  |
   name c =>
   simp only[Ee,Ty.av,↓zq,zs,ae,zt]
   refine⟨fun h=>(by cases h),fun _=>⟨by omega,fun _=>⟨by omega,fun h=>?_,fun h=>?_⟩,fun h=>absurd rfl h⟩⟩
   ·exact fin0 .one (by rw[ov,if_pos h])
   ·exact fin0 .zero (by rw[ov,if_neg h])
  |
   plus a b =>
   simp only[Ty.atoms]at hn h4 hb
   have pa:=ej a
   have pb:=ej b
   have fa:CG f a:=fun j hj=>by have:=hf j hj;simp only[bn,cj]at this;exact this.1
   have fb:CG f b:=fun j hj=>by have:=hf j hj;simp only[bn,cj]at this;exact this.2
   simp only[Ee,Ty.av,↓zq,zs,ae,zt,aE]
   refine⟨fun h=>(by cases h),fun _=>⟨by omega,fun h=>by omega,fun _=>⟨fun _=>?_,fun h=>absurd rfl h⟩⟩⟩
   repeat refine⟨by omega,?_⟩
   rw[wa]
   refine aP (wY n a (by omega) (by omega) s f fa hs (by omega)) (Bz.ne _ _ _) ?_
   rintro r ob ⟨f1,g1,g2,rfl,rfl⟩
   simp only[↓zq,zs,ae,zt,aJ,aE]
   repeat refine⟨by omega,?_⟩
   cases q1:lH a s with
   |
    none =>
    rw[q1]at g2
    simp only[qm]at g2
    simp only[Option.isNone_none,Option.getD_none,bI]
    refine aV (HC b s f1) ?_
    simp only[↓zq,zs,ae,zt,aJ,aE]
    repeat refine⟨by omega,?_⟩
    refine ai (yc 43 _ _) ?_
    simp only[↓zq,zs,ae,zt,cb]
    refine aV (vQ f1 true (.plus .zero .zero) (by simp[Ty.atoms])) ?_
    simp only[↓zq,zs,ae,zt,aJ,aE]
    exact⟨f1,g1,by simp only[qm,Ty.atoms];omega,rfl,rfl⟩
   |
    some a' =>
    rw[q1]at g2
    simp only[qm]at g2
    have la:=(cQ.1 q1).small
    simp only[Option.isNone_some,cC,a6]
    refine aP (wY n b (by omega) (by omega) s f1 (rY fb g1) (fun j hj=>hs j (by omega)) (by omega)) (Bz.ne _ _ _) ?_
    rintro r ob ⟨f2,k1,k2,rfl,rfl⟩
    simp only[↓zq,zs,ae,zt,aJ,aE]
    repeat refine⟨by omega,?_⟩
    refine ai (yc 43 _ _) ?_
    simp only[↓zq,zs,ae,zt,cb]
    cases q2:lH b s with
    |
     none =>
     rw[q2]at k2
     simp only[qm]at k2
     simp only[Option.isNone_none,Option.getD_none,bI]
     refine aV (vQ f2 true (.plus a' .zero) (by simp[Ty.atoms];omega)) ?_
     simp only[↓zq,zs,ae,zt,aJ,aE]
     exact⟨f2,by omega,by simp only[qm,Ty.atoms];omega,rfl,rfl⟩
    |
     some b' =>
     rw[q2]at k2
     simp only[qm]at k2
     have lb:=(cQ.1 q2).small
     simp only[Option.isNone_some,cC,a6]
     refine aV (vQ f2 false (.plus a' b') (by simp only[Ty.atoms];omega)) ?_
     simp only[↓zq,zs,ae,zt,aJ,aE]
     unfold nD
     by_cases hle:(Ty.plus a' b').atoms<=400
     ·rw[if_pos hle]
      refine⟨f2,by omega,by simp only[qm,Ty.atoms];omega,?_,?_⟩
      ·simp[vc,show ¬400<(Ty.plus a' b').atoms by omega]
      ·simp[Ax,show ¬400<(Ty.plus a' b').atoms by omega]
     ·rw[if_neg hle]
      refine⟨f2,by omega,by simp only[qm,Ty.atoms];omega,?_,?_⟩
      ·simp[vc,show 400<(Ty.plus a' b').atoms by omega]
      ·simp[Ax,show 400<(Ty.plus a' b').atoms by omega]
  |
   times a b =>
   simp only[Ty.atoms]at hn h4 hb
   have pa:=ej a
   have pb:=ej b
   have fa:CG f a:=fun j hj=>by have:=hf j hj;simp only[bn,cj]at this;exact this.1
   have fb:CG f b:=fun j hj=>by have:=hf j hj;simp only[bn,cj]at this;exact this.2
   simp only[Ee,Ty.av,↓zq,zs,ae,zt,aE]
   refine⟨fun h=>(by cases h),fun _=>⟨by omega,fun h=>by omega,fun _=>⟨fun h=>by omega,fun _=>⟨fun _=>?_,fun h=>absurd rfl h⟩⟩⟩⟩
   repeat refine⟨by omega,?_⟩
   rw[sN]
   refine aP (wY n a (by omega) (by omega) s f fa hs (by omega)) (Bz.ne _ _ _) ?_
   rintro r ob ⟨f1,g1,g2,rfl,rfl⟩
   simp only[↓zq,zs,ae,zt,aJ,aE]
   repeat refine⟨by omega,?_⟩
   refine ai (yc 42 _ _) ?_
   simp only[↓zq,zs,ae,zt,cb]
   repeat refine⟨by omega,?_⟩
   cases q1:lH a s with
   |
    none =>
    rw[q1]at g2
    simp only[qm]at g2
    simp only[Option.isNone_none,Option.getD_none,bI]
    refine aV (HC b s f1) ?_
    simp only[↓zq,zs,ae,zt,aJ,aE]
    repeat refine⟨by omega,?_⟩
    refine ai (yc 42 _ _) ?_
    simp only[↓zq,zs,ae,zt,cb]
    refine ai (yc 43 (.times .zero b) (.times a .zero)) ?_
    simp only[↓zq,zs,ae,zt,cb]
    refine aV (vQ f1 true (.plus (.times .zero b) (.times a .zero)) (by simp only[Ty.atoms];omega)) ?_
    simp only[↓zq,zs,ae,zt,aJ,aE]
    exact⟨f1,g1,by simp only[qm,Ty.atoms];omega,rfl,rfl⟩
   |
    some a' =>
    rw[q1]at g2
    simp only[qm]at g2
    have la:=(cQ.1 q1).small
    simp only[Option.isNone_some,cC,a6]
    refine aP (wY n b (by omega) (by omega) s f1 (rY fb g1) (fun j hj=>hs j (by omega)) (by omega)) (Bz.ne _ _ _) ?_
    rintro r ob ⟨f2,k1,k2,rfl,rfl⟩
    simp only[↓zq,zs,ae,zt,aJ,aE]
    repeat refine⟨by omega,?_⟩
    refine ai (yc 42 _ _) ?_
    simp only[↓zq,zs,ae,zt,cb]
    cases q2:lH b s with
    |
     none =>
     rw[q2]at k2
     simp only[qm]at k2
     simp only[Option.isNone_none,Option.getD_none,bI]
     refine ai (yc 43 (.times a' b) (.times a .zero)) ?_
     simp only[↓zq,zs,ae,zt,cb]
     refine aV (vQ f2 true (.plus (.times a' b) (.times a .zero)) (by simp only[Ty.atoms];omega)) ?_
     simp only[↓zq,zs,ae,zt,aJ,aE]
     exact⟨f2,by omega,by simp only[qm,Ty.atoms];omega,rfl,rfl⟩
    |
     some b' =>
     rw[q2]at k2
     simp only[qm]at k2
     have lb:=(cQ.1 q2).small
     simp only[Option.isNone_some,cC,a6]
     refine ai (yc 43 (.times a' b) (.times a b')) ?_
     simp only[↓zq,zs,ae,zt,cb]
     refine aV (vQ f2 false (.plus (.times a' b) (.times a b')) (by simp only[Ty.atoms];omega)) ?_
     simp only[↓zq,zs,ae,zt,aJ,aE]
     unfold nD
     by_cases hle:(Ty.plus (.times a' b) (.times a b')).atoms<=400
     ·rw[if_pos hle]
      refine⟨f2,by omega,by simp only[qm,Ty.atoms];omega,?_,?_⟩
      ·simp[vc,show ¬400<(Ty.plus (.times a' b) (.times a b')).atoms by omega]
      ·simp[Ax,show ¬400<(Ty.plus (.times a' b) (.times a b')).atoms by omega]
     ·rw[if_neg hle]
      refine⟨f2,by omega,by simp only[qm,Ty.atoms];omega,?_,?_⟩
      ·simp[vc,show 400<(Ty.plus (.times a' b) (.times a b')).atoms by omega]
      ·simp[Ax,show 400<(Ty.plus (.times a' b) (.times a b')).atoms by omega]
  |
   rc a =>
   simp only[Ty.atoms]at hn h4 hb
   have pa:=ej a
   have fa:CG f a:=fun j hj=>hf j hj
   have hxa:bn (hN (f+1)) a=false:=fa _ (by omega)
   have hxs:hN (f+1)≠s:=fun e=>hs _ (by omega) e.symm
   have fo:CG (f+1) (dy (.name (hN (f+1))) a 0):=fun j hj=>by
    cases q:bn (hN j) (dy (.name (hN (f+1))) a 0)with
    |false=>rfl
    |
     true =>
     rcases gy a 0 q with e|e
     ·have:=tX e;omega
     ·rw[fa j (by omega)]at e;cases e
   have hoa:(dy (.name (hN (f+1))) a 0).atoms=a.atoms:=fK _ _ _
   have hop:=Fv (.name (hN (f+1))) a 0 (by omega)
   rw[Co hxa hxs]
   simp only[Ee,Ty.av,↓zq,zs,ae,zt,aE]
   refine⟨fun h=>(by cases h),fun _=>⟨by omega,fun h=>by omega,fun _=>⟨fun h=>by omega,fun _=>⟨fun h=>by omega,fun _=>⟨fun _=>?_,fun h=>absurd rfl h⟩⟩⟩⟩⟩
   refine aV (KK f false (by omega)) ?_
   simp only[↓zq,zs,ae,zt,aJ,aE]
   repeat refine⟨by omega,?_⟩
   simp only[Ty.av]at hop
   refine ai hop ?_
   simp only[↓zq,zs,ae,zt,aJ,aE]
   refine aP (wY n (dy (.name (hN (f+1))) a 0) (by omega) (by omega) s (f+1) fo (fun j hj=>hs j (by omega)) (by omega)) (Bz.ne _ _ _) ?_
   rintro r ob ⟨f1,g1,g2,rfl,rfl⟩
   simp only[↓zq,zs,ae,zt,aJ,aE]
   generalize hx:hN (f+1)=x at *
   generalize hin:dy (.name x) a 0=i at *
   have hrc:(Ty.rc a).av=.ptr [.v (.int .u8 114),.v (.string (mk [])),.v (.int .i64 0),a.av,.v (.pointer none)]:=rfl
   cases q1:lH i s with
   |
    none =>
    rw[q1]at g2
    simp only[qm]at g2
    simp only[Option.isNone_none,Option.getD_none,bI]
    refine aV (vQ f1 true .zero (by simp[Ty.atoms])) ?_
    simp only[↓zq,zs,ae,zt,aJ,aE]
    rw[<-hrc]
    refine ai (BS x (.rc a) _) ?_
    simp only[↓zq,zs,ae,zt,aE]
    refine aV (HC i x f1) ?_
    simp only[↓zq,zs,ae,zt,aJ,aE]
    refine aV (vQ f1 true .zero (by simp[Ty.atoms])) ?_
    simp only[↓zq,zs,ae,zt,aJ,aE]
    refine ai (BS x (.rc a) _) ?_
    simp only[↓zq,zs,ae,zt,aE]
    refine ai (yc 42 _ (.bound 0)) ?_
    simp only[↓zq,zs,ae,zt,cb]
    refine ai (yc 43 (sub x (.rc a) (vc true .zero)) (.times (sub x (.rc a) (vc true .zero)) (.bound 0))) ?_
    simp only[↓zq,zs,ae,zt,cb,wu]
    have hz:sub x (.rc a) (vc true .zero)=.zero:=by rw[xY];rfl
    refine aV (vQ f1 true (.rc (.plus (sub x (.rc a) (vc true .zero)) (.times (sub x (.rc a) (vc true .zero)) (.bound 0)))) (by rw[hz];simp only[Ty.atoms];omega)) ?_
    simp only[↓zq,zs,ae,zt,aJ,aE]
    rw[xY,wu]
    exact⟨f1,by omega,by simp only[qm,Ty.atoms];omega,rfl,rfl⟩
   |
    some c =>
    rw[q1]at g2
    simp only[qm]at g2
    have lc:=(cQ.1 q1).small
    simp only[Option.isNone_some,cC,a6]
    refine aV (vQ f1 false c (by omega)) ?_
    simp only[↓zq,zs,ae,zt,aJ,aE]
    rw[vU lc,vO lc,<-hrc]
    refine ai (BS x (.rc a) c) ?_
    simp only[↓zq,zs,ae,zt,aE]
    refine aP (wY n i (by omega) (by omega) x f1 (rY fo g1) (fun j hj=>by rw[<-hx];exact fun e=>by have:=tX e;omega) (by omega)) (Bz.ne _ _ _) ?_
    rintro r ob ⟨f2,k1,k2,rfl,rfl⟩
    simp only[↓zq,zs,ae,zt,aJ,aE]
    have hsc:(sub x (.rc a) c).atoms+fu x c=c.atoms+fu x c*(Ty.rc a).atoms:=dV x (.rc a) c
    have hcc:∀t:Ty,fu x t<=t.atoms:=fun t=>by
     have h1:=dV x .zero t
     have h2:=hG x .zero t
     simp only[Ty.atoms,dG]at h1
     have h3:∀t:Ty,fu x t<=t.atoms:=by
      intro t
      induction t with
      |name s=>simp only[fu,Ty.atoms];split<;>omega
      |plus a b i1 i2=>simp only[fu,Ty.atoms];omega
      |times a b i1 i2=>simp only[fu,Ty.atoms];omega
      |rc a i=>simp only[fu,Ty.atoms];omega
      |_=>simp[fu,Ty.atoms]
     exact h3 t
    have hbig:∀t:Ty,t.atoms<=400->(sub x (.rc a) t).atoms<=400+400*402:=fun t ht=>by
     have h1:=dV x (.rc a) t
     have h2:=hcc t
     have h3:fu x t*(Ty.rc a).atoms<=400*402:=Nat.mul_le_mul (by omega) (by simp only[Ty.atoms];omega)
     omega
    have b1:=hbig c lc
    cases q2:lH i x with
    |
     none =>
     rw[q2]at k2
     simp only[qm]at k2
     simp only[Option.isNone_none,Option.getD_none,bI]
     refine aV (vQ f2 true .zero (by simp[Ty.atoms])) ?_
     simp only[↓zq,zs,ae,zt,aJ,aE]
     rw[xY,wu]
     refine ai (BS x (.rc a) .zero) ?_
     simp only[↓zq,zs,ae,zt,aE]
     refine ai (yc 42 _ (.bound 0)) ?_
     simp only[↓zq,zs,ae,zt,cb]
     refine ai (yc 43 (sub x (.rc a) c) (.times (sub x (.rc a) .zero) (.bound 0))) ?_
     simp only[↓zq,zs,ae,zt,cb]
     refine aV (vQ f2 true (.rc (.plus (sub x (.rc a) c) (.times (sub x (.rc a) .zero) (.bound 0)))) (by simp only[sub,Ty.atoms];omega)) ?_
     simp only[↓zq,zs,ae,zt,aJ,aE]
     rw[xY,wu]
     exact⟨f2,by omega,by simp only[qm,Ty.atoms];omega,rfl,rfl⟩
    |
     some d =>
     rw[q2]at k2
     simp only[qm]at k2
     have ld:=(cQ.1 q2).small
     have b2:=hbig d ld
     simp only[Option.isNone_some,cC,a6]
     refine aV (vQ f2 false d (by omega)) ?_
     simp only[↓zq,zs,ae,zt,aJ,aE]
     rw[vU ld,vO ld]
     refine ai (BS x (.rc a) d) ?_
     simp only[↓zq,zs,ae,zt,aE]
     refine ai (yc 42 _ (.bound 0)) ?_
     simp only[↓zq,zs,ae,zt,cb]
     refine ai (yc 43 (sub x (.rc a) c) (.times (sub x (.rc a) d) (.bound 0))) ?_
     simp only[↓zq,zs,ae,zt,cb]
     have hdrc:pW a x c d=.rc (.plus (sub x (.rc a) c) (.times (sub x (.rc a) d) (.bound 0))):=rfl
     refine aV (vQ f2 false (pW a x c d) (by rw[hdrc];simp only[Ty.atoms];omega)) ?_
     simp only[↓zq,zs,ae,zt,aJ,aE]
     have s1:=hG x (.rc a) c
     have s2:=hG x (.rc a) d
     unfold nD
     by_cases hle:(pW a x c d).atoms<=400
     ·rw[if_pos hle,vU hle,vO hle]
      exact⟨f2,by omega,by simp only[qm,hdrc,Ty.atoms];omega,rfl,rfl⟩
     ·rw[if_neg hle,E4 hle,ES hle]
      exact⟨f2,by omega,by simp only[qm,Ty.atoms];omega,rfl,rfl⟩
def O8(o:Option Ty):AV->List Ob->Prop:=fun r ob=>ob=[]/\∃p,LK.ptr.has p/\r=.cG [p,.v (.bool o.isSome)]/\∀d,o=some d->p=d.av
theorem O8.ne(o:Option Ty):∃r ob,O8 o r ob:=by
 cases o with
 |none=>exact⟨_,_,rfl,gJ,(gD).mpr trivial,rfl,fun d h=>by cases h⟩
 |some d=>exact⟨_,_,rfl,d.av,(aE _).mpr trivial,rfl,fun d' h=>by cases h;rfl⟩
theorem GY:hN 1=l9:=by show (35::dd 1:Nm)=_;rw[eH (by omega)];rfl
theorem Ss(a:Ty)(h4:a.atoms+2<=400)(hf:∀j,bn (hN j) a=false):an Tryz.prog 97 [(Ty.rc a).av] [] (O8 (n6 a l9)):=by
 have hxa:bn (hN 1) a=false:=hf 1
 have fo:CG 1 (dy (.name (hN 1)) a 0):=fun j hj=>by
  cases q:bn (hN j) (dy (.name (hN 1)) a 0)with
  |false=>rfl
  |
   true =>
   rcases gy a 0 q with e|e
   ·have:=tX e;omega
   ·rw[hf j]at e;cases e
 have hoa:(dy (.name (hN 1)) a 0).atoms=a.atoms:=fK _ _ _
 have hop:=Fv (.name (hN 1)) a 0 (by omega)
 rw[<-GY]
 have hrc:(Ty.rc a).av=.ptr [.v (.int .u8 114),.v (.string (mk [])),.v (.int .i64 0),a.av,.v (.pointer none)]:=rfl
 refine Ql _ ((aE _).mpr trivial) ?_
 unfold KS
 refine aV (KK 0 false (by omega)) ?_
 simp only[Ty.av,↓zq,zs,ae,zt,aJ,aE]
 repeat refine⟨by omega,?_⟩
 simp only[Ty.av]at hop
 refine ai hop ?_
 simp only[↓zq,zs,ae,zt,aJ,aE]
 refine aP (wY 400 (dy (.name (hN 1)) a 0) (by omega) (by omega) (hN 1) 1 fo (fun j hj e=>by have:=tX e;omega) (by omega)) (Bz.ne _ _ _) ?_
 rintro r ob ⟨f1,g1,g2,rfl,rfl⟩
 simp only[↓zq,zs,ae,zt,aJ,aE]
 unfold n6
 cases q1:lH (dy (.name (hN 1)) a 0) (hN 1)with
 |
  none =>
  simp only[Option.isNone_none,Option.getD_none,bI]
  refine aV (vQ f1 true .zero (by simp[Ty.atoms])) ?_
  simp only[↓zq,zs,ae,zt,aJ,aE,wu]
  exact⟨fun _=>⟨rfl,gJ,(gD).mpr trivial,rfl,fun d h=>(by cases h)⟩,fun h=>(by cases h)⟩
 |
  some d =>
  have ld:=(cQ.1 q1).small
  simp only[Option.isNone_some,cC,a6]
  refine aV (vQ f1 false d (by omega)) ?_
  simp only[↓zq,zs,ae,zt,aJ,aE]
  rw[vU ld,vO ld]
  refine⟨fun h=>(by cases h),fun _=>?_⟩
  rw[<-hrc]
  refine ai (BS (hN 1) (.rc a) d) ?_
  simp only[↓zq,zs,ae,zt,aE]
  have h1:=dV (hN 1) (.rc a) d
  have hcn:fu (hN 1) d<=d.atoms:=by
   have h3:∀t:Ty,fu (hN 1) t<=t.atoms:=by
    intro t
    induction t with
    |name s=>simp only[fu,Ty.atoms];split<;>omega
    |plus a b i1 i2=>simp only[fu,Ty.atoms];omega
    |times a b i1 i2=>simp only[fu,Ty.atoms];omega
    |rc a i=>simp only[fu,Ty.atoms];omega
    |_=>simp[fu,Ty.atoms]
   exact h3 d
  have h3:fu (hN 1) d*(Ty.rc a).atoms<=400*402:=Nat.mul_le_mul (by omega) (by simp only[Ty.atoms];omega)
  refine aV (vQ f1 false (sub (hN 1) (.rc a) d) (by omega)) ?_
  simp only[↓zq,zs,ae,zt,aJ,aE]
  unfold nD
  by_cases hle:(sub (hN 1) (.rc a) d).atoms<=400
  ·rw[if_pos hle,vU hle,vO hle]
   exact⟨rfl,_,(aE _).mpr trivial,rfl,fun d' h=>by cases h;rfl⟩
  ·rw[if_neg hle,E4 hle,ES hle]
   exact⟨rfl,_,(aE _).mpr trivial,rfl,fun d' h=>(by cases h)⟩
end Go.Proofs.Trees
namespace Go.Proofs.Trees
open Go Go.VL Go.RowKit
theorem so(h:Nm)(a b:E):(e9 (.list [.atom h,a,b])).length=h.length+(e9 a).length+(e9 b).length+4:=by
 simp only[e9,ei,aA,aq,aG];omega
theorem ji(F:List Nm)(hF:F.length<=10000):∀(t:Ty) (to:List Nm) (k:Nat),uZ t->(∀w,w∈to->w.length<=20)->k+(F.length+1)*t.atoms<90000000->(e9 (gY F t to k).1).length<=50*t.atoms
 | .zero,_,_,_,_,_=>by simp[gY,e9,Ty.atoms]
 | .one,_,_,_,_,_=>by simp[gY,e9,Ty.atoms]
 | .name s,_,_,hn,_,_=>by have:=hn s (by simp[bn]);simp only[gY,e9,Ty.atoms];omega
 |
  .bound u,to,_,_,ht,_=>by
  show (gj to u).length<=50*1
  unfold gj
  by_cases h:to.length-1-u<to.length
  ·rw[aa,bp h];have:=ht _ (bD h);simp only[cC];omega
  ·rw[aa,List.getElem?_eq_none (by omega)];simp
 |
  .plus a b,to,k,hn,ht,hk=>by
  have h1:=iu F a to k
  have:(F.length+1)*(1+a.atoms+b.atoms)=(F.length+1)+(F.length+1)*a.atoms+(F.length+1)*b.atoms:=by simp only[cT,dG]
  simp only[Ty.atoms]at hk
  have i1:=ji F hF a to k (fun y hy=>hn y (by simp[bn,hy])) ht (by omega)
  have i2:=ji F hF b to _ (fun y hy=>hn y (by simp[bn,hy])) ht (show (gY F a to k).2+_<_ by omega)
  simp only[gY,so,Ty.atoms,aA,aG];omega
 |
  .times a b,to,k,hn,ht,hk=>by
  have h1:=iu F a to k
  have:(F.length+1)*(1+a.atoms+b.atoms)=(F.length+1)+(F.length+1)*a.atoms+(F.length+1)*b.atoms:=by simp only[cT,dG]
  simp only[Ty.atoms]at hk
  have i1:=ji F hF a to k (fun y hy=>hn y (by simp[bn,hy])) ht (by omega)
  have i2:=ji F hF b to _ (fun y hy=>hn y (by simp[bn,hy])) ht (show (gY F a to k).2+_<_ by omega)
  simp only[gY,so,Ty.atoms,aA,aG];omega
 |
  .rc a,to,k,hn,ht,hk=>by
  obtain⟨g1,g2,_,_⟩:=gA F k
  have:(F.length+1)*(2+a.atoms)=(F.length+1)*2+(F.length+1)*a.atoms:=by simp only[cT]
  simp only[Ty.atoms]at hk
  have hl:=xj (k:=nx F k) (by omega)
  have i1:=ji F hF a (to++[tN (nx F k)]) (nx F k+1) hn (fun w hw=>by
   rcases aN.1 hw with hw|hw
   ·exact ht w hw
   ·simp only[aR]at hw;rw[hw];exact hl) (by omega)
  simp only[gY,so,Ty.atoms,aA,aG]
  simp only[e9]
  simp only[aA]at hl |-
  omega
theorem M3(x0 a fv:AV)(F:List Nm)(h0:LK.ptr.has x0)(ha:LK.sl.has a)(hfv:ct fv F)(hF:F.length<100000):∀(n j:Nat),qo F n j<j+n->j+n<100000000 ->
 En [x0,a,.v (.string (mk (tN j)))] [.cells [fv],.cells [.v (.int .i64 ((j+1:Nat):Int))]] (gV 1 [x0,a,.v (.string (mk (tN (qo F n j))))] [.cells [fv],.cells [.v (.int .i64 ((qo F n j+1:Nat):Int))]])
 |0,j,h,_=>by simp only[qo]at h;omega
 |
  n+1,j,h,hj=>by
  refine Jj _ _ _ _ _ ?_
  simp only[F6,↓zq,zs,ae,zt,ae,hfv.1,h0,ha]
  refine⟨fun h=>(by simp at h),fun _=>?_⟩
  refine ai (Jr F fv hfv (tN j) (by omega)) ?_
  simp only[↓zq,zs,ae,zt]
  rw[qo]at h |-
  refine⟨fun hm=>?_,fun hm=>?_⟩
  ·rw[if_pos hm]at h |-
   refine ai (FA (j+1) (by omega)) ?_
   have hd:=pk 8 (j+1) (by omega)
   simp only[↓zq,zs,ae,zt,bc,aT]
   rw[bA (j+1) (by omega)]
   exact⟨by simp[cM];omega,M3 x0 a fv F h0 ha hfv hF n (j+1) (by omega) (by omega)⟩
  ·rw[if_neg hm]
   exact⟨rfl,rfl,rfl⟩
theorem QJ(x0 a fv:AV)(F:List Nm)(h0:LK.ptr.has x0)(ha:LK.sl.has a)(hfv:ct fv F)(hF:F.length<10000)(k:Nat)(hk:k<90000000) :
 En [x0,a,.v (.string (mk []))] [.cells [fv],.cells [.v (.int .i64 (k:Int))]] (gV 1 [x0,a,.v (.string (mk (tN (nx F k))))] [.cells [fv],.cells [.v (.int .i64 ((nx F k+1:Nat):Int))]]):=by
 obtain⟨g1,g2,_,_⟩:=gA F k
 refine Jj _ _ _ _ _ ?_
 simp only[F6,↓zq,zs,ae,zt,ae,hfv.1,h0,ha]
 refine⟨fun _=>?_,fun h=>(by simp at h)⟩
 refine ai (FA k (by omega)) ?_
 have hd:=pk 8 k (by omega)
 simp only[↓zq,zs,ae,zt,bc,aT]
 rw[bA k (by omega)]
 exact⟨by simp[cM];omega,M3 x0 a fv F h0 ha hfv (by omega) (F.length+1) k (by show nx F k<_;omega) (by omega)⟩
theorem At(F:List Nm)(fv:AV)(hfv:ct fv F)(hF:F.length<=1000):∀(t:Ty) (to:List Nm) (a:AV) (k:Nat),ct a to->to.length+t.atoms<10000->jx t to.length->uZ t->(∀w,w∈to->w.length<=20)->k+(F.length+1)*t.atoms<80000000 ->
 an Tryz.prog 155 [t.av,a,.gI 155 [none,some 0,some 1],.ref 0 0,.ref 1 0] [.cells [fv],.cells [.v (.int .i64 (k:Int))]] (df (.v (.string (mk (e9 (gY F t to k).1)))) [.cells [fv],.cells [.v (.int .i64 ((gY F t to k).2:Int))]])
 |
  .zero,to,a,k,ha,hl,hlc,hs,ht,hk=>by
  refine xe _ _ _ _ ((aE _).mpr trivial) ha.1 hfv.1 ?_
  simp only[ET,Ty.av,↓zq,zs,ae,zt,aE]
  refine⟨by omega,fun h=>by omega,fun _=>⟨fun h=>by omega,fun _=>⟨fun h=>by omega,fun _=>⟨fun h=>by omega,fun _=>⟨fun h=>by omega,fun _=>?_⟩⟩⟩⟩⟩
  repeat refine⟨by omega,?_⟩
  exact⟨⟨rfl,(lM _ _).mpr trivial,trivial⟩,rfl,rfl⟩
 |
  .one,to,a,k,ha,hl,hlc,hs,ht,hk=>by
  refine xe _ _ _ _ ((aE _).mpr trivial) ha.1 hfv.1 ?_
  simp only[ET,Ty.av,↓zq,zs,ae,zt,aE]
  refine⟨by omega,fun h=>by omega,fun _=>⟨fun h=>by omega,fun _=>⟨fun h=>by omega,fun _=>⟨fun h=>by omega,fun _=>⟨fun h=>by omega,fun _=>?_⟩⟩⟩⟩⟩
  repeat refine⟨by omega,?_⟩
  exact⟨⟨rfl,(lM _ _).mpr trivial,trivial⟩,rfl,rfl⟩
 |
  .name s,to,a,k,ha,hl,hlc,hs,ht,hk=>by
  refine xe _ _ _ _ ((aE _).mpr trivial) ha.1 hfv.1 ?_
  simp[ET,Ty.av,↓zq,zs,ae,df,gY,e9]
 |
  .bound u,to,a,k,ha,hl,hlc,hs,ht,hk=>by
  have hu:u<to.length:=hlc
  refine xe _ _ _ _ ((aE _).mpr trivial) ha.1 hfv.1 ?_
  simp only[ET,Ty.av,↓zq,zs,ae,zt,ha.len]
  rw[wrap64 ((to.length:Int)-1) (by omega) (by omega),wrap64 _ (by omega) (by omega)]
  have e1:(to.length:Int)-1-(u:Int)=((to.length-1-u:Nat):Int):=by omega
  rw[e1]
  simp only[bH,ha.idx (show to.length-1-u<to.length by omega),↓zq,zs,ae,zt]
  refine⟨by omega,fun h=>by omega,fun _=>⟨fun _=>⟨ha.1,by omega,⟨ha.1,by omega,by omega⟩,by omega,rfl,rfl⟩,fun h=>absurd rfl h⟩⟩
 |
  .plus x y,to,a,k,ha,hl,hlc,hs,ht,hk=>by
  simp only[Ty.atoms]at hl hk
  have h1:=iu F x to k
  have hm:(F.length+1)*(1+x.atoms+y.atoms)=(F.length+1)+(F.length+1)*x.atoms+(F.length+1)*y.atoms:=by simp only[cT,dG]
  have sx:uZ x:=fun z hz=>hs z (by simp[bn,hz])
  have sy:uZ y:=fun z hz=>hs z (by simp[bn,hz])
  have t1:=ji F (by omega) x to k sx ht (by omega)
  have t2:=ji F (by omega) y to (gY F x to k).2 sy ht (by omega)
  have hb:(⟨(bytesOf [[.v (.int .u8 43)]]).toArray⟩:ByteArray)=mk [43]:=rfl
  have h8:jA [[AV.v (.int .u8 43)]]:=⟨rfl,(lM _ _).mpr trivial,trivial⟩
  refine xe _ _ _ _ ((aE _).mpr trivial) ha.1 hfv.1 ?_
  simp only[ET,Ty.av,↓zq,zs,ae,zt,aE,hb]
  refine⟨by omega,fun h=>by omega,fun _=>⟨fun h=>by omega,fun _=>⟨fun _=>?_,fun h=>absurd rfl h⟩⟩⟩
  repeat refine⟨by omega,?_⟩
  refine aV (At F fv hfv hF x to a k ha (by omega) hlc.1 sx ht (by omega)) ?_
  simp only[↓zq,zs,ae,zt,aJ,hfv.1,hb,bc,aT]
  repeat (first|refine⟨by omega,?_⟩|refine⟨h8,?_⟩|refine⟨by simp[cM];omega,?_⟩)
  refine aV (At F fv hfv hF y to a _ ha (by omega) hlc.2 sy ht (by omega)) ?_
  simp only[↓zq,zs,ae,zt,aJ,hfv.1,hb,bc,aT]
  repeat (first|refine⟨by omega,?_⟩|refine⟨h8,?_⟩|refine⟨by simp[cM];omega,?_⟩)
  refine⟨?_,rfl⟩
  simp[gY,e9,ei]
 |
  .times x y,to,a,k,ha,hl,hlc,hs,ht,hk=>by
  simp only[Ty.atoms]at hl hk
  have h1:=iu F x to k
  have hm:(F.length+1)*(1+x.atoms+y.atoms)=(F.length+1)+(F.length+1)*x.atoms+(F.length+1)*y.atoms:=by simp only[cT,dG]
  have sx:uZ x:=fun z hz=>hs z (by simp[bn,hz])
  have sy:uZ y:=fun z hz=>hs z (by simp[bn,hz])
  have t1:=ji F (by omega) x to k sx ht (by omega)
  have t2:=ji F (by omega) y to (gY F x to k).2 sy ht (by omega)
  have hb:(⟨(bytesOf [[.v (.int .u8 42)]]).toArray⟩:ByteArray)=mk [42]:=rfl
  have h8:jA [[AV.v (.int .u8 42)]]:=⟨rfl,(lM _ _).mpr trivial,trivial⟩
  refine xe _ _ _ _ ((aE _).mpr trivial) ha.1 hfv.1 ?_
  simp only[ET,Ty.av,↓zq,zs,ae,zt,aE,hb]
  refine⟨by omega,fun h=>by omega,fun _=>⟨fun h=>by omega,fun _=>⟨fun h=>by omega,fun _=>⟨fun _=>?_,fun h=>absurd rfl h⟩⟩⟩⟩
  repeat refine⟨by omega,?_⟩
  refine aV (At F fv hfv hF x to a k ha (by omega) hlc.1 sx ht (by omega)) ?_
  simp only[↓zq,zs,ae,zt,aJ,hfv.1,hb,bc,aT]
  repeat (first|refine⟨by omega,?_⟩|refine⟨h8,?_⟩|refine⟨by simp[cM];omega,?_⟩)
  refine aV (At F fv hfv hF y to a _ ha (by omega) hlc.2 sy ht (by omega)) ?_
  simp only[↓zq,zs,ae,zt,aJ,hfv.1,hb,bc,aT]
  repeat (first|refine⟨by omega,?_⟩|refine⟨h8,?_⟩|refine⟨by simp[cM];omega,?_⟩)
  refine⟨?_,rfl⟩
  simp[gY,e9,ei]
 |
  .rc x,to,a,k,ha,hl,hlc,hs,ht,hk=>by
  simp only[Ty.atoms]at hl hk
  obtain⟨g1,g2,_,_⟩:=gA F k
  have hm:(F.length+1)*(2+x.atoms)=(F.length+1)*2+(F.length+1)*x.atoms:=by simp only[cT]
  have hln:=xj (k:=nx F k) (by omega)
  have ht':∀w,w∈to++[tN (nx F k)]->w.length<=20:=fun w hw=>by
   rcases aN.1 hw with hw|hw
   ·exact ht w hw
   ·simp only[aR]at hw;rw[hw];exact hln
  have t1:=ji F (by omega) x (to++[tN (nx F k)]) (nx F k+1) hs ht' (by omega)
  have hrc:(Ty.rc x).av=.ptr [.v (.int .u8 114),.v (.string (mk [])),.v (.int .i64 0),x.av,.v (.pointer none)]:=rfl
  refine xe _ _ _ _ ((aE _).mpr trivial) ha.1 hfv.1 ?_
  simp only[ET,Ty.av,↓zq,zs,ae,zt,aE]
  refine⟨by omega,fun h=>by omega,fun _=>⟨fun h=>by omega,fun _=>⟨fun h=>by omega,fun _=>⟨fun h=>by omega,fun _=>⟨fun _=>?_,fun h=>absurd rfl h⟩⟩⟩⟩⟩
  rw[<-hrc]
  repeat refine⟨by omega,?_⟩
  refine cz (QJ (Ty.rc x).av a fv F ((aE _).mpr trivial) ha.1 hfv (by omega) k (by omega)) ?_
  simp only[Ty.av,↓zq,zs,ae,zt,ae,aJ,hfv.1,ha.1,aE,ha.2,EU,aT,kf,ki]
  have hl2:(dd (nx F k)).length+1<=20:=hln
  have hl3:(tN (nx F k)).length=(dd (nx F k)).length+1:=rfl
  refine⟨by omega,by simp only[aq,aA,aG,hl3];omega,by omega,by omega,⟨fun c hc=>by simp at hc;rw[hc];rfl,by omega⟩,?_⟩
  refine aV (At F fv hfv hF x (to++[tN (nx F k)]) _ (nx F k+1) (.of _) (by simp;omega) (by rw[aq];exact hlc) hs ht' (by omega)) ?_
  simp only[↓zq,zs,ae,zt,aJ,hfv.1]
  repeat refine⟨by omega,?_⟩
  refine⟨by simp only[aq,aA,aG,hl3];omega,by simp only[aq,aA,aG,hl3];omega,?_,rfl⟩
  simp[gY,e9,ei]
theorem Ro(t:Ty)(g:fX t)(hs:uZ t)(h4:t.atoms<=400):an Tryz.prog 137 [t.av] [] (bK (.v (.string (mk (EP t))))):=by
 refine RF _ ((aE _).mpr trivial) ?_
 unfold LL
 have hn:=ez t []
 simp only[aG,aW]at hn
 have hm:((bP t []).length+1)*t.atoms<=401*400:=Nat.mul_le_mul (by omega) h4
 refine ai (LB t (by omega)) ?_
 simp only[↓zq,zs,ae,zt,cf]
 refine aV (At (bP t []) _ (.of _) (by omega) t [] yz 0 .nil (by simp;omega) g.1 hs (fun w hw=>by cases hw) (by omega)) ?_
 simp only[↓zq,zs,ae,zt,aJ,cf]
 exact⟨rfl,rfl⟩
theorem RN(t:Ty)(g:fX t)(hs:uZ t)(hl:t.atoms<1000000):an Tryz.prog 98 [t.av] [] (bK (qy (told t))):=by
 refine Ri _ ((aE _).mpr trivial) ?_
 unfold ON
 refine ai (EE t hl) ?_
 simp only[↓zq,zs,ae,zt]
 refine⟨fun h=>?_,fun h=>?_⟩
 ·have:told t=none:=by unfold told;rw[if_neg fun h'=>by have:=h'.1;omega]
  rw[this];exact⟨rfl,rfl⟩
 ·have h4:t.atoms<=400:=by omega
  refine ai (Ro t g hs h4) ?_
  simp only[↓zq,zs,ae,zt]
  refine ai (IB (EP t)) ?_
  simp only[↓zq,zs,ae,zt,il]
  unfold told
  cases q:qL (EP t)with
  |
   none =>
   simp only[ic,↓zq,zs,ae]
   rw[if_neg (by simp)]
   exact⟨fun _=>⟨rfl,rfl⟩,fun h=>(by cases h)⟩
  |
   some u =>
   simp only[ic,↓zq,zs,ae,fP]
   rw[if_pos ⟨h4,rfl⟩]
   exact⟨fun h=>(by cases h),fun _=>⟨rfl,rfl⟩⟩
theorem R5(s:Nm):an Tryz.prog 70 [.v (.string (mk s))] [] (bK (qy (cH s))):=by
 refine Sd _ ?_
 unfold OJ
 refine ai (IB s) ?_
 simp only[↓zq,zs,ae,zt,il]
 cases q:qL s with
 |
  none =>
  have:cH s=none:=by unfold cH;rw[q]
  rw[this]
  simp only[ic,↓zq,zs,ae]
  exact⟨fun _=>⟨rfl,rfl⟩,fun h=>(by cases h)⟩
 |
  some t =>
  simp only[ic,↓zq,zs,ae,fP]
  have notRec:(∀a,t≠.rc a)->cH s=none:=fun hn=>by
   unfold cH;rw[q]
   cases t<;>first|rfl|exact absurd rfl (hn _)
  refine⟨fun h=>(by cases h),fun _=>?_⟩
  cases t with
  |
   rc a =>
   have h4:=sU q
   simp only[Ty.atoms]at h4
   have hq:cH s=(n6 a l9).bind told:=by unfold cH;rw[q]
   obtain⟨e,he,hw,hte,hats,hok⟩:=nV q
   have hgood:∀d,n6 a l9=some d->fX d/\(uZ (.rc a)->uZ d):=fun d hd=>rG hw hte ⟨by simp,by simp,by simp⟩ hd
   rw[hq]
   simp only[Ty.av,↓zq,zs,ae]
   refine⟨by omega,fun h=>by omega,fun _=>?_⟩
   have hld:=Ss a (by omega) (fun j=>by
    cases q2:bn (hN j) a with
    |false=>rfl
    |true=>exact absurd rfl ((xA (mU q (hN j) q2)).2 (dd j)))
   simp only[Ty.av]at hld
   refine aP hld (O8.ne _) ?_
   rintro r ob ⟨rfl,p,hp,rfl,hpe⟩
   simp only[↓zq,zs,ae,zt,eq_true hp]
   cases q1:n6 a l9 with
   |
    none =>
    simp only[bu,bI]
    exact⟨fun _=>⟨rfl,rfl⟩,fun h=>(by cases h)⟩
   |
    some d =>
    simp only[aY,a6]
    refine⟨fun h=>(by cases h),fun _=>?_⟩
    rw[hpe d q1]
    have hl:d.atoms<=400:=by
     simp only[n6,a7,eN]at q1
     obtain⟨_,_,h1,h2⟩:=q1
     rw[<-h2];exact h1
    refine ai (RN d (hgood d q1).1 ((hgood d q1).2 (A5 q)) (by omega)) ?_
    cases told d<;>simp only[qy,↓zq,zs,ae,zt]<;>exact⟨rfl,rfl⟩
  |
   _ =>
   rw[notRec fun a h=>by cases h]
   simp only[Ty.av,↓zq,zs,ae]
   exact⟨by omega,fun _=>⟨rfl,rfl⟩,fun h=>by omega⟩
end Go.Proofs.Trees
namespace Go.Proofs.Trees
open Go Go.VL Go.RowKit
theorem EO:∀(m:Nat) (c:Vl),c.nodes<=m->∀(t:Ty) (v:Vl),dK t c=true->∀(ea:AV) (ids:List Nat),kD ea ids->∀(s:List UInt8) (fr:AV),LK.has .ptr fr->an Tryz.prog 79 [.agg [t.av,ea],c.cD,.agg [.v (.string (mk s)),fr],v.cD] [] (bK (cW t c v).cD)
 |0,c,hm=>by have:=du c;omega
 |
  m+1,c,hm=>by
  intro t v hc ea ids he s fr hf
  refine Qr _ _ _ _ _ _ ((aE _).mpr trivial) he.has ((aM _).mpr trivial) hf ((aM _).mpr trivial) ?_
  have fin:∀x:AV,LK.has .ptr x->LK.has .ptr x=True:=fun x h=>eq_true h
  cases t with
  |zero=>rw[sV];simp[Bj,Ty.av,↓zq,zs,ae,bK]
  |one=>rw[wD];simp[Bj,Ty.av,↓zq,zs,ae,bK]
  |name n=>rw[kQ];simp[Bj,Ty.av,↓zq,zs,ae,bK]
  |bound u=>rw[sn];simp[Bj,Ty.av,↓zq,zs,ae,bK]
  |
   plus a b =>
   have hL:=zF a.av b.av ea 43 (mk []) 0 ((aE _).mpr trivial) he.has
   have hR:=zO a.av b.av ea 43 (mk []) 0 ((aE _).mpr trivial) he.has
   rcases v7 hc with⟨x,rfl,hx⟩|⟨x,rfl,hx⟩
   ·simp only[Vl.nodes]at hm
    simp only[Bj,Ty.av,↓zq,zs,ae]
    refine⟨by omega,fun _=>?_,fun h=>absurd rfl h⟩
    refine ai hL ?_
    simp only[↓zq,zs,ae,bF,aE,he.has,Vl.cD,aM]
    refine⟨by omega,fun h=>by omega,fun _=>⟨by omega,by omega,?_⟩⟩
    refine ai (EO m x (by omega) a v hx ea ids he s fr hf) ?_
    simp only[↓zq,zs,ae,aM]
    refine ai (Am 108 _ ((aM _).mpr trivial)) ?_
    simp[↓zq,zs,ae,bK,cW,Vl.cD,cb]
   ·simp only[Vl.nodes]at hm
    simp only[Bj,Ty.av,↓zq,zs,ae]
    refine⟨by omega,fun _=>?_,fun h=>absurd rfl h⟩
    refine ai hL ?_
    simp only[↓zq,zs,ae,bF,aE,he.has,Vl.cD,aM]
    refine⟨by omega,fun _=>?_,fun h=>absurd rfl h⟩
    refine ai hR ?_
    simp only[↓zq,zs,ae,bF,aE,he.has,Vl.cD,aM]
    refine⟨by omega,by omega,?_⟩
    refine ai (EO m x (by omega) b v hx ea ids he s fr hf) ?_
    simp only[↓zq,zs,ae,aM]
    refine ai (Am 114 _ ((aM _).mpr trivial)) ?_
    simp[↓zq,zs,ae,bK,cW,Vl.cD,cb]
  |
   times a b =>
   have hL:=zF a.av b.av ea 42 (mk []) 0 ((aE _).mpr trivial) he.has
   have hR:=zO a.av b.av ea 42 (mk []) 0 ((aE _).mpr trivial) he.has
   rcases s9 hc with⟨x,y,rfl,hx⟩|⟨x,y,rfl,hx⟩
   ·simp only[Vl.nodes]at hm
    simp only[Bj,Ty.av,↓zq,zs,ae,Vl.cD]
    refine⟨by omega,fun h=>by omega,fun _=>⟨fun _=>⟨by omega,fun _=>?_,fun h=>absurd rfl h⟩,fun h=>absurd rfl h⟩⟩
    refine ai hL ?_
    simp only[↓zq,zs,ae,bF,aE,he.has,Vl.cD,aM]
    repeat refine⟨by omega,?_⟩
    refine ai (EO m x (by omega) a v hx ea ids he s fr hf) ?_
    simp only[↓zq,zs,ae,aM]
    repeat refine⟨by omega,?_⟩
    refine ai (Ap _ _ ((aM _).mpr trivial) ((aM _).mpr trivial)) ?_
    simp[↓zq,zs,ae,bK,cW,Vl.cD,cb]
   ·simp only[Vl.nodes]at hm
    simp only[Bj,Ty.av,↓zq,zs,ae,Vl.cD,aM]
    refine⟨by omega,fun h=>by omega,fun _=>⟨fun _=>⟨by omega,fun h=>by omega,fun _=>?_⟩,fun h=>absurd rfl h⟩⟩
    repeat refine⟨by omega,?_⟩
    refine ai hR ?_
    simp only[↓zq,zs,ae,bF,aE,he.has,Vl.cD,aM]
    repeat refine⟨by omega,?_⟩
    refine ai (EO m y (by omega) b v hx ea ids he s fr hf) ?_
    simp only[↓zq,zs,ae,aM]
    refine ai (Ap _ _ ((aM _).mpr trivial) ((aM _).mpr trivial)) ?_
    simp[↓zq,zs,ae,bK,cW,Vl.cD,cb]
  |
   rc a =>
   have hin:=D9 a ea ids he
   simp only[Ty.av]at hin
   rcases Cc hc with⟨x,rfl,hx⟩|⟨x,y,rfl,hx,hy⟩
   ·simp only[Vl.nodes]at hm
    simp only[Bj,Ty.av,↓zq,zs,ae,Vl.cD,aM]
    refine⟨by omega,fun h=>by omega,fun _=>⟨fun h=>by omega,fun _=>⟨fun _=>?_,fun h=>absurd rfl h⟩⟩⟩
    refine aP hin (by have:=B4.ne a ea ids;simpa only[B4,Ty.av]using this) ?_
    intro r o hr
    obtain⟨⟨q,hq,rfl⟩,rfl⟩:=hr
    have he2:kD (.ptr [.pid q [(Ty.rc a).av,ea],ea]) (q::ids):=.cons hq he
    have hfr:LK.ptr.has (.pid q [(Ty.rc a).av,ea]):=.inr (.inr ⟨_,_,rfl⟩)
    simp only[Ty.av]at he2 hfr
    simp only[↓zq,zs,ae,bF,aE,he2.has,hfr,Vl.cD,aM,Ty.av]
    repeat refine⟨by omega,?_⟩
    refine⟨fun _=>?_,fun h=>absurd rfl h⟩
    repeat refine⟨by omega,?_⟩
    refine ai (EO m x (by omega) a v hx _ _ he2 s fr hf) ?_
    simp only[↓zq,zs,ae,aM]
    refine ai (Am 102 _ ((aM _).mpr trivial)) ?_
    simp[↓zq,zs,ae,bK,cW,Vl.cD,cb]
   ·simp only[Vl.nodes]at hm
    simp only[Bj,Ty.av,↓zq,zs,ae,Vl.cD,aM]
    refine⟨by omega,fun h=>by omega,fun _=>⟨fun h=>by omega,fun _=>⟨fun _=>?_,fun h=>absurd rfl h⟩⟩⟩
    refine aP hin (by have:=B4.ne a ea ids;simpa only[B4,Ty.av]using this) ?_
    intro r o hr
    obtain⟨⟨q,hq,rfl⟩,rfl⟩:=hr
    have he2:kD (.ptr [.pid q [(Ty.rc a).av,ea],ea]) (q::ids):=.cons hq he
    have hfr:LK.ptr.has (.pid q [(Ty.rc a).av,ea]):=.inr (.inr ⟨_,_,rfl⟩)
    simp only[Ty.av]at he2 hfr
    simp only[↓zq,zs,ae,bF,aE,he2.has,hfr,Vl.cD,aM,Ty.av]
    repeat refine⟨by omega,?_⟩
    refine fun _=>?_
    repeat refine⟨by omega,?_⟩
    have i1:=EO m y (by omega) (.rc a) v hy ea ids he s fr hf
    simp only[Ty.av]at i1
    refine ai i1 ?_
    simp only[↓zq,zs,ae,aM]
    repeat refine⟨by omega,?_⟩
    refine ai (EO m x (by omega) a (cW (.rc a) y v) hx _ _ he2 [] _ hfr) ?_
    simp only[↓zq,zs,ae,aM]
    refine ai (Am 102 _ ((aM _).mpr trivial)) ?_
    simp[↓zq,zs,ae,bK,cW,Vl.cD,cb]
theorem Pp(a:Ty)(c v:Vl)(hc:dK a c=true):an Tryz.prog 55 [(Ty.rc a).av,c.cD,v.cD] [] (bK (Vl.f (cW a c v)).cD):=by
 refine PQ _ _ _ ((aE _).mpr trivial) ((aM _).mpr trivial) ((aM _).mpr trivial) ?_
 unfold ML
 refine aP (D9 a gJ [] .nil) (B4.ne a gJ []) ?_
 rintro r o ⟨⟨m,hm,rfl⟩,rfl⟩
 have he2:kD (.ptr [.pid m [(Ty.rc a).av,gJ],gJ]) [m]:=.cons hm .nil
 have hfr:LK.ptr.has (.pid m [(Ty.rc a).av,gJ]):=.inr (.inr ⟨_,_,rfl⟩)
 simp only[Ty.av]at he2 hfr
 simp only[↓zq,zs,ae,bF,aE,he2.has,hfr,Ty.av]
 repeat refine⟨by omega,?_⟩
 refine ai (EO c.nodes c (au _) a v hc _ _ he2 [] _ hfr) ?_
 simp only[↓zq,zs,ae,aM]
 refine ai (Am 102 _ ((aM _).mpr trivial)) ?_
 simp[↓zq,zs,ae,bK,Vl.cD,cb]
end Go.Proofs.Trees
namespace Go.Proofs.Trees
open Go Go.VL Go.RowKit
def u3(l:List Vl):List (List AV):=l.map fun c=>[c.cD]
theorem gu(l:List Vl):(u3 l).length=l.length:=by simp[u3]
theorem uk{l:List Vl}{i:Nat}(h:i<l.length):(u3 l).getD i []=[(l[i]).cD]:=by simp[u3,aa,h]
theorem yj(l:List Vl)(c:Vl):u3 l++[[c.cD]]=u3 (l++[c]):=by simp[u3]
def pA(s:Nm)(a:Ty)(l:List Vl)(v:Vl):AV:=.ptr [.v (.string (mk s)),(Ty.rc a).av,.sl (u3 l),v.cD]
def oZ(s:Nm)(a:Ty):Option (List Vl×Vl)->AV
 |some r=>pA s a r.1 r.2
 |none=>gJ
theorem lE(s:Nm)(a:Ty)(o:Option (List Vl×Vl)):LK.has .ptr (oZ s a o)=True:=by cases o<;>simp[oZ,pA,gD,cb]
theorem Q5:an Tryz.prog 34 [gJ] [] (bK gJ):=by
 refine MQ _ ((gD).mpr trivial) ?_
 simp only[FJ,↓zq,zs,ae]
 exact⟨fun _=>⟨rfl,rfl⟩,fun h=>(by cases h)⟩
theorem Dq(v:Vl):(Vl.f v).nodes=v.nodes+1:=by simp only[Vl.nodes];omega
theorem D0(s:Nm)(a:Ty)(l:List Vl)(v:Vl)(h:ZI a l v)(hl:l.length<=50):an Tryz.prog 34 [pA s a l v] [] (bK (oZ s a (pz a l v))):=by
 refine MQ _ ((cb _).mpr trivial) ?_
 simp only[FJ,pA,↓zq,zs,ae,gu]
 refine⟨fun h=>(by cases h),fun _=>?_⟩
 repeat refine⟨by omega,?_⟩
 unfold pz
 refine⟨fun h0=>?_,fun h0=>?_⟩
 ·have:l=[]:=bR (by omega)
  subst this
  exact⟨rfl,rfl⟩
 ·have hpos:0<l.length:=by omega
  have hne:l≠[]:=by rintro rfl;simp at hpos
  rw[wrap64 ((l.length:Int)-1) (by omega) (by omega)]
  have e1:((l.length:Int)-1).toNat=l.length-1:=by omega
  have hlt:l.length-1<l.length:=by omega
  have hlast:l.getLast?=some (l[l.length-1]):=by rw[List.getLast?_eq_some_getLast hne,List.getLast_eq_getElem]
  rw[hlast]
  have hC:=h.ctx _ (bD hlt)
  generalize hc:l[l.length-1]=c at *
  simp only[e1,uk hlt,hc,↓zq,zs,ae,aM,aE]
  repeat refine⟨by omega,?_⟩
  refine ai (Pp a c v hC.ok) ?_
  simp only[↓zq,zs,ae,aM]
  have hn:=rk a c v
  have h1:=hC.nd
  have h2:=h.oI.nd
  refine ai (E2 (.f (cW a c v)) (by rw[Dq];omega)) ?_
  simp only[↓zq,zs,ae,aM,aE]
  refine⟨fun hb=>?_,fun hb=>?_⟩
  ·rw[if_neg (by omega)];exact⟨rfl,rfl⟩
  ·rw[if_pos (by omega)]
   repeat refine⟨by omega,?_⟩
   refine⟨?_,rfl⟩
   have:(u3 l).take (l.length-1)=u3 l.dropLast:=by rw[List.dropLast_eq_take];simp[u3]
   simp only[oZ,pA,Int.toNat_zero,bf,this]
theorem Ju{s d:Nm}{a:Ty}{x A B:E}{D:Ty}(z:ZT s d a x A B D)(pa:AV)(p:List Nm)(hp:ct pa p)(hl:p.length<=50)(v:Vl):∀(k i:Nat) (l0:List Vl),i+k=p.length->l0.length<=i ->
 GF [.v (.string (mk d)),pa,.v (.int .i64 (p.length:Int)),.v (.int .i64 (i:Int))] [.cells [.v (.string (mk s)),(Ty.rc a).av,.any,v.cD],.vec 1 (u3 l0)]
  (oq (match eC d (p.drop i)with|some l=>(1,[],[.cells [.v (.string (mk s)),(Ty.rc a).av,.any,v.cD],.vec 1 (u3 (l0++l))])|none=>(2,[gJ],[])))
 |
  0,i,l0,hi,IN=>by
  refine OE _ _ _ _ _ _ _ _ ?_
  have:i=p.length:=by omega
  subst this
  simp only[Gm,↓zq,zs,ae,ae,aE,aM,List.drop_length]
  exact⟨hp.1,fun h=>by omega,fun _=>by simp[oq,eC]⟩
 |
  k+1,i,l0,hi,IN=>by
  have hlt:i<p.length:=by omega
  have hd:p.drop i=p.getD i []::p.drop (i+1):=by rw[aU hlt];simp[aa,hlt]
  refine OE _ _ _ _ _ _ _ _ ?_
  simp only[Gm,↓zq,zs,ae,zt,ae,aE,aM,hp.len,hp.idx hlt,bH]
  refine⟨hp.1,fun _=>⟨⟨hp.1,by omega,by omega⟩,by omega,?_⟩,fun h=>by omega⟩
  refine ai (L3 d (p.getD i []) 100) ?_
  rw[hd,eC]
  simp only[↓zq,zs,ae,zt,il,gq]
  cases q:m9 d (p.getD i []) 100 with
  |
   none =>
   simp only[jv,↓zq,zs,ae]
   exact⟨fun _=>by first|trivial|rfl,fun h=>(by cases h)⟩
  |
   some w =>
   simp only[jv,↓zq,zs,ae,fy,yj]
   refine⟨fun h=>(by cases h),fun _=>?_⟩
   rw[bA i (by omega)]
   have ih:=Ju z pa p hp hl v k (i+1) (l0++[w]) (by omega) (by simp;omega)
   refine⟨⟨fun c hc=>by simp at hc;rw[hc];rfl,by rw[gu];omega⟩,?_⟩
   cases q2:eC d (p.drop (i+1))with
   |none=>rw[q2]at ih;exact ih
   |some l=>rw[q2]at ih;simp only[ba,bc,aT]at ih;exact ih
theorem mO{s:Nm}{p:List Nm}{f:Nm}{l:List Vl}{v:Vl}(h:vt s p f=some (l,v)):∃d a x A B D,ZT s d a x A B D/\ZI a l v/\p=l.map (·.cA)/\f=v.cA/\p.length<=50/\zA s=a/\qw s f=some v/\eC d p=some l:=by
 unfold vt at h
 split at h
 ·rename_i v' d h1 h2
  split at h
  ·rename_i hl
   obtain⟨l',h3,h4⟩:=Option.map_eq_some_iff.1 h
   cases h4
   obtain⟨a,_,_,_,L⟩:=pU h1
   obtain⟨x,A,B,D,z⟩:=ZT.of L.l h2
   obtain⟨q1,q2⟩:=se z p l h3
   obtain⟨q3,q4⟩:=z.oI h1
   exact⟨d,a,x,A,B,D,z,⟨q2,q3⟩,q1,q4,hl,by unfold zA;rw[L.l];rfl,h1,h3⟩
  ·cases h
 ·cases h
theorem RB(s:Nm)(pa:AV)(p:List Nm)(hp:ct pa p)(f:Nm):an Tryz.prog 49 [.agg [.v (.string (mk s)),pa,.v (.string (mk f))]] [] (bK (oZ s (zA s) (vt s p f))):=by
 refine Qv _ _ _ hp.1 ?_
 unfold N7
 refine ai (Qt s f) ?_
 have hlt:LK.has .ptr (IG s)=True:=by unfold IG;split<;>simp[aE,gD]
 simp only[↓zq,zs,ae,zt,hlt,gq]
 refine ai (R5 s) ?_
 have ho:∀o:Option Nm,qy o=.cG [.v (.string (mk (o.getD []))),.v (.bool o.isSome)]:=fun o=>by cases o<;>rfl
 rw[ho]
 simp only[↓zq,zs,ae,zt]
 unfold vt
 cases h1:qw s f with
 |
  none =>
  simp only[jv,↓zq,zs,ae]
  exact⟨fun _=>⟨rfl,rfl⟩,fun h=>(by cases h)⟩
 |
  some v =>
  simp only[jv,↓zq,zs,ae,fy]
  refine⟨fun h=>(by cases h),fun _=>?_⟩
  cases h2:cH s with
  |
   none =>
   simp only[bu]
   exact⟨fun _=>⟨rfl,rfl⟩,fun h=>(by cases h)⟩
  |
   some d =>
   simp only[aY,cC,hp.len]
   refine⟨fun h=>(by cases h),fun _=>⟨hp.1,fun h=>?_,fun h=>?_⟩⟩
   ·rw[if_neg (by omega)];exact⟨rfl,rfl⟩
   ·have hl:p.length<=50:=by omega
    rw[if_pos hl]
    obtain⟨a,_,_,_,L⟩:=pU h1
    obtain⟨x,A,B,D,z⟩:=ZT.of L.l h2
    have ht:IG s=(Ty.rc a).av:=by unfold IG;rw[L.l]
    have hza:zA s=a:=by unfold zA;rw[L.l];rfl
    rw[ht,hza]
    refine⟨hp.1,?_⟩
    have hloop:=Ju z pa p hp hl v p.length 0 [] (by omega) (by simp)
    rw[bf]at hloop
    refine fE hloop (fun ys o e=>?_) (fun ys o e=>?_)
    ·cases q:eC d p with
     |none=>rw[q]at e;cases e
     |
      some l =>
      rw[q]at e
      cases e
      simp only[↓zq,zs,ae,zt,ae,aJ,aE,aM,cg]
      exact⟨rfl,rfl⟩
    ·cases q:eC d p with
     |
      none =>
      rw[q]at e
      cases e
      simp only[↓zq,zs,ae,zt,ae,aJ,Option.map_none]
      exact⟨rfl,rfl⟩
     |some l=>rw[q]at e;cases e
theorem MF(s:Nm)(a:Ty)(x3:AV)(h3:LK.ptr.has x3):∀(n:Nat) (l:List Vl) (v:Vl),l.length=n->ZI a l v->n<=50 ->
 Fw [x3,pA s a l v] [] (oq (if(iV n a l v).isSome=true then(1,[x3],[])else(2,[gJ],[])))
 |
  0,l,v,hl,h,hn=>by
  refine J3 _ _ ?_
  simp only[Hp,pA,↓zq,zs,ae,h3,gu,hl,iV]
  repeat refine⟨by omega,?_⟩
  exact fun _=>by simp[oq]
 |
  n+1,l,v,hl,h,hn=>by
  refine J3 _ _ ?_
  have hup:=D0 s a l v h (by omega)
  simp only[Hp,↓zq,zs,ae,h3]
  simp only[pA,↓zq,zs,ae,gu,hl]at hup |-
  repeat refine⟨by omega,?_⟩
  refine⟨fun _=>?_,fun h=>by omega⟩
  refine ai hup ?_
  simp only[↓zq,zs,ae,lE]
  rw[iV]
  cases q:pz a l v with
  |
   none =>
   simp only[oZ,↓zq,zs,ae,bI]
   exact⟨fun _=>by simp[oq],fun h=>(by cases h)⟩
  |
   some r =>
   obtain⟨hz,hlen,_⟩:=mn h q
   have ih:=MF s a x3 h3 n r.1 r.2 (by omega) hz (by omega)
   simp only[oZ,pA,↓zq,zs,ae,a6]at ih |-
   exact⟨fun h=>(by cases h),fun _=>ih⟩
theorem O1(s:Nm)(pa:AV)(p:List Nm)(hp:ct pa p)(f:Nm):an Tryz.prog 33 [.agg [.v (.string (mk s)),pa,.v (.string (mk f))]] [] (bK (oZ s (zA s) (fF s p f))):=by
 refine PA _ _ _ hp.1 ?_
 unfold Jh
 refine ai (RB s pa p hp f) ?_
 simp only[↓zq,zs,ae,zt,lE]
 unfold fF
 cases q:vt s p f with
 |
  none =>
  simp only[oZ,↓zq,zs,ae,bI]
  exact⟨fun _=>⟨rfl,rfl⟩,fun h=>(by cases h)⟩
 |
  some r =>
  obtain⟨l,v⟩:=r
  obtain⟨d,a,x,A,B,D,z,hz,hpt,hft,hl,hza,_,_⟩:=mO q
  rw[hza]
  have hll:l.length<=50:=by rw[hpt]at hl;simpa using hl
  have hloop:=MF s a (pA s a l v) ((cb _).mpr trivial) l.length l v rfl hz hll
  simp only[oZ,a6]
  refine⟨fun h=>(by cases h),fun _=>?_⟩
  unfold sf
  refine fE hloop (fun ys o e=>?_) (fun ys o e=>?_)
  ·split at e
   ·rename_i hc
    cases e
    rw[if_pos hc]
    simp only[↓zq,zs,ae,pA,cb]
    exact⟨rfl,rfl⟩
   ·cases e
  ·split at e
   ·cases e
   ·rename_i hc
    cases e
    rw[if_neg hc]
    simp only[↓zq,zs,ae]
    exact⟨rfl,rfl⟩
end Go.Proofs.Trees
namespace Go.Proofs.Trees
open Go Go.VL Go.RowKit
abbrev tZ(s:Nm):Option (List Vl×Vl)->Nm×List Nm×Nm
 |some r=>(s,r.1.map (·.cA),r.2.cA)
 |none=>([],[],[])
def GZ(o:Option (List Vl×Vl)):Prop:=∀r,o=some r->(∀c,c∈r.1->c.cA.length<=900000)/\r.2.cA.length<=900000/\r.1.length<=51
theorem Cx.cA{a:Ty}{c:Vl}(h:Cx a c):c.cA.length<=900000:=by have:=jk c h.ig;have:=h.nd;omega
theorem Fo.cA{a:Ty}{c:Vl}(h:Fo a c):c.cA.length<=900000:=by have:=jk c h.ig;have:=h.nd;omega
theorem ZI.gz{a:Ty}{l:List Vl}{v:Vl}(h:ZI a l v)(hl:l.length<=51):GZ (some (l,v)):=fun r hr=>by
 cases hr;exact⟨fun c hc=>(h.ctx c hc).cA,h.oI.cA,hl⟩
theorem GZ.none:GZ none:=fun r hr=>by cases hr
theorem Mx(l:List Vl)(hl:l.length<=51)(ht:∀c,c∈l->c.cA.length<=900000)(s f:Nm):∀(k i:Nat) (out:List Nm),i+k=l.length->out.length<=i ->
 IA [.sl (u3 l),.v (.int .i64 (l.length:Int)),.v (.int .i64 (i:Int))] [.cells [.v (.string (mk [])),yz,.v (.string (mk []))],.cells [.v (.string (mk s)),.any,.v (.string (mk f))],.vec 1 (bJ out)]
  (gV 1 [] [.cells [.v (.string (mk [])),yz,.v (.string (mk []))],.cells [.v (.string (mk s)),.any,.v (.string (mk f))],.vec 1 (bJ (out++(l.drop i).map (·.cA)))])
 |
  0,i,out,hi,ho=>by
  refine Oc _ _ _ _ _ _ _ _ _ ?_
  have:i=l.length:=by omega
  subst this
  simp only[Ff,↓zq,zs,ae,zt,ae,bh,List.drop_length]
  exact⟨fun h=>by omega,fun _=>by simp[gV]⟩
 |
  k+1,i,out,hi,ho=>by
  have hlt:i<l.length:=by omega
  refine Oc _ _ _ _ _ _ _ _ _ ?_
  simp only[Ff,↓zq,zs,ae,zt,ae,bh,gu,uk hlt,aM,bH]
  refine⟨fun _=>?_,fun h=>by omega⟩
  repeat refine⟨by omega,?_⟩
  refine ai (CI (l[i]) (ht _ (bD hlt))) ?_
  simp only[↓zq,zs,ae,zt,EU,kf]
  refine⟨⟨fun c hc=>by simp at hc;rw[hc];rfl,by omega⟩,?_⟩
  rw[bA i (by omega),aU hlt,bE]
  have:=Mx l hl ht s f k (i+1) (out++[(l[i]).cA]) (by omega) (by simp;omega)
  rw[ba]at this
  exact this
theorem Nz(s:Nm)(a:Ty)(o:Option (List Vl×Vl))(h:GZ o):an Tryz.prog 40 [oZ s a o] [] (df (.cG [.agg [.v (.string (mk (tZ s o).1)),.vec 0,.v (.string (mk (tZ s o).2.2))],.v (.bool o.isSome)]) [.vec 1 (bJ (tZ s o).2.1)]):=by
 refine SP _ (by rw[lE];trivial) ?_
 unfold I8
 cases o with
 |
  none =>
  simp only[oZ,↓zq,zs,ae]
  exact⟨fun _=>⟨rfl,rfl⟩,fun h=>(by cases h)⟩
 |
  some r =>
  obtain⟨h1,h2,h3⟩:=h r rfl
  simp only[oZ,pA,↓zq,zs,ae,zt,aE,aM]
  refine⟨fun h=>(by cases h),fun _=>?_⟩
  repeat refine⟨by omega,?_⟩
  refine ai (CI r.2 h2) ?_
  simp only[↓zq,zs,ae,zt,aE,aM,gu]
  repeat refine⟨by omega,?_⟩
  have hlp:=Mx r.1 h3 h1 s r.2.cA r.1.length 0 [] (by omega) (by simp)
  rw[bf,aT]at hlp
  refine cz hlp ?_
  simp only[↓zq,zs,ae,zt,ae,aJ,bh]
  exact⟨rfl,rfl⟩
theorem fH{s:Nm}{p:List Nm}{f:Nm}{l:List Vl}{v:Vl}(h:fF s p f=some (l,v)):vt s p f=some (l,v)/\(sf (zA s) l v).isSome=true:=by
 unfold fF at h
 obtain⟨r,h1,h2⟩:=a7.1 h
 split at h2
 ·rename_i hc
  cases h2
  exact⟨h1,hc⟩
 ·cases h2
theorem uA{s:Nm}{p:List Nm}{f:Nm}{l:List Vl}{v:Vl}(h:fF s p f=some (l,v)):ZI (zA s) l v/\l.length<=50/\p=l.map (·.cA)/\f=v.cA:=by
 obtain⟨h1,_⟩:=fH h
 obtain⟨d,a,x,A,B,D,z,hz,hp,hf,hl,hza,_,_⟩:=mO h1
 rw[hza]
 exact⟨hz,by rw[hp]at hl;simpa using hl,hp,hf⟩
theorem HU(s:Nm)(p:List Nm)(f:Nm):GZ (vt s p f):=fun r hr=>by
 obtain⟨d,a,x,A,B,D,z,hz,hp,hf,hl,hza,_,_⟩:=mO (l:=r.1) (v:=r.2) hr
 exact hz.gz (by
  rw[hp]at hl;have:r.1.length<=50:=by simpa using hl
  omega) r rfl
noncomputable def Aj (s:Nm) (p:List Nm) (f:Nm):Option (List Vl×Vl):=(fF s p f).bind fun r=>pz (zA s) r.1 r.2
noncomputable def pD (s:Nm) (p:List Nm) (f:Nm):Option Nm:=(fF s p f).bind fun r=>(sf (zA s) r.1 r.2).map (·.cA)
noncomputable def p6 (s:Nm) (p:List Nm) (f:Nm):Int:=match fF s p f with
 |some r=>((kids (zA s) r.2).length:Int)
 |none=>-1
theorem BC(s:Nm)(p:List Nm)(f:Nm):GZ (Aj s p f):=fun r hr=>by
 obtain⟨q,h1,h2⟩:=a7.1 hr
 obtain⟨hz,hl,_⟩:=uA (l:=q.1) (v:=q.2) h1
 obtain⟨hz2,hl2,_⟩:=mn (l':=r.1) (w:=r.2) hz h2
 exact hz2.gz (by omega) r rfl
abbrev DM(s:Nm)(o:Option (List Vl×Vl)):AV->List Ob->Prop:=df (.cG [.agg [.v (.string (mk (tZ s o).1)),.vec 0,.v (.string (mk (tZ s o).2.2))],.v (.bool o.isSome)]) [.vec 1 (bJ (tZ s o).2.1)]
theorem PJ(s:Nm)(pa:AV)(p:List Nm)(hp:ct pa p)(f:Nm):an Tryz.prog 20 [.agg [.v (.string (mk s)),pa,.v (.string (mk f))]] [] (DM s (Aj s p f)):=by
 refine QT _ _ _ hp.1 ?_
 unfold OR
 refine ai (O1 s pa p hp f) ?_
 simp only[↓zq,zs,ae,zt,lE]
 have key:an Tryz.prog 34 [oZ s (zA s) (fF s p f)] [] (bK (oZ s (zA s) (Aj s p f))):=by
  unfold Aj
  cases q:fF s p f with
  |none=>exact Q5
  |
   some r =>
   obtain⟨hz,hl,_⟩:=uA (l:=r.1) (v:=r.2) q
   exact D0 s (zA s) r.1 r.2 hz hl
 refine ai key ?_
 simp only[↓zq,zs,ae,zt,lE]
 refine aV (Nz s (zA s) (Aj s p f) (BC s p f)) ?_
 simp only[↓zq,zs,ae,zt,aJ]
 exact⟨dU _,rfl,rfl⟩
theorem NF(s:Nm)(a:Ty):∀(n:Nat) (l:List Vl) (v w:Vl),l.length=n->ZI a l v->n<=50->iV n a l v=some w->Fo a w /\
 Hs [pA s a l v] [] (gV 1 [pA s a [] w] [])
 |
  0,l,v,w,hl,h,hn,hc=>by
  cases hc
  have:l=[]:=bR hl
  subst this
  refine⟨h.oI,Nt _ ?_⟩
  simp only[Fb,pA,↓zq,zs,ae,gu,aG]
  refine⟨by omega,fun h=>by omega,fun _=>by simp[gV]⟩
 |
  n+1,l,v,w,hl,h,hn,hc=>by
  rw[iV]at hc
  obtain⟨r,hu,hc⟩:=a7.1 hc
  obtain⟨hz,hlen,_⟩:=mn (l':=r.1) (w:=r.2) h hu
  obtain⟨i1,i2⟩:=NF s a n r.1 r.2 w (by omega) hz (by omega) hc
  refine⟨i1,Nt _ ?_⟩
  have hup:=D0 s a l v h (by omega)
  rw[hu]at hup
  simp only[Fb,oZ]at hup |-
  simp only[pA,↓zq,zs,ae,gu,hl]at hup |-
  repeat refine⟨by omega,?_⟩
  refine⟨fun _=>?_,fun h=>by omega⟩
  refine ai hup ?_
  simp only[↓zq,zs,ae]
  exact i2
theorem Jz(s:Nm)(pa:AV)(p:List Nm)(hp:ct pa p)(f:Nm):an Tryz.prog 24 [.agg [.v (.string (mk s)),pa,.v (.string (mk f))]] [] (bK (qy (pD s p f))):=by
 refine Sl _ _ _ hp.1 ?_
 unfold JT
 refine ai (O1 s pa p hp f) ?_
 simp only[↓zq,zs,ae,lE]
 unfold pD
 cases q:fF s p f with
 |
  none =>
  simp only[oZ,↓zq,zs,ae,bI]
  exact⟨fun _=>⟨rfl,rfl⟩,fun h=>(by cases h)⟩
 |
  some r =>
  obtain⟨l,v⟩:=r
  obtain⟨hz,hl,_⟩:=uA q
  obtain⟨w,hw⟩:=bU.1 (fH q).2
  obtain⟨h1,h2⟩:=NF s (zA s) l.length l v w rfl hz hl hw
  simp only[oZ,a6,hw,cg]
  have hn:(pA s (zA s) l v).isNil=false:=rfl
  simp only[hn]
  refine⟨fun h=>(by cases h),fun _=>?_⟩
  refine cz h2 ?_
  simp only[↓zq,zs,ae,pA,aM,cb]
  repeat refine⟨by first|trivial|omega,?_⟩
  refine ai (CI w h1.cA) ?_
  simp only[↓zq,zs,ae,zt]
  exact⟨rfl,rfl⟩
end Go.Proofs.Trees
namespace Go.Proofs.Trees
open Go Go.VL Go.RowKit
def lG:E->Option E
 | .list [x,a,b]=>if x.at=[114,101,99]then some (.list [x,a,b])else none
 |_=>none
def oC(s:List UInt8):Option E:=match jI s with
 |some e=>lG e
 |none=>none
theorem GW(s:List UInt8):an Tryz.prog 67 [.v (.string (mk s))] [] (jH (oC s) (oC s).isSome):=by
 refine QO _ ?_
 unfold MM
 refine aP (F9 s) (jH.ne _ _ (fun h=>h)) ?_
 rintro r o ⟨c,d,hd,rfl,hh⟩
 have hhas:bF [.str,.sl] [.v (.string (mk c)),d] 0:=by simp[bF,dX,hd]
 simp only[↓zq,zs,ae,zt]
 refine⟨hhas,fun h=>?_,fun h=>?_⟩
 ·obtain⟨e,he,hce⟩:=hh h
  obtain⟨t,h1,hA,h3,h4,h5,_⟩:=gZ he
  have hce':=hce
  rw[dj]at hce'
  simp only[AV.agg.injEq,List.cons.injEq,AV.v.injEq,Value.string.injEq,and_true]at hce'
  obtain⟨hc1,rfl⟩:=hce'
  have hc2:=mk_inj hc1
  subst hc2
  have head:∀w:List UInt8,an Tryz.prog 86 [.agg [.v (.string (mk e.at)),e.sp]] [] (bK (.v (.string (mk w))))->(w=[114,101,99]↔(lG e).isSome=true)->((lG e).isSome=true->lG e=some e) ->
   eZ Tryz.prog 18 (Tree.call 86 [.agg [.v (.string (mk e.at)),e.sp]] [] fun r2 o2=>Tree.aj (LK.str.has r2) (Tree.done 0 [.cG [.agg [.v (.string (mk e.at)),e.sp],.v (.bool (af r2.toStr==[114,101,99]))]] [])) fun _ xs obs=>jH (oC s) (oC s).isSome (xs.headD .any) obs:=by
   intro w hw h1 h2
   refine ai hw ?_
   simp only[↓zq,zs,ae,zt]
   refine⟨e.at,e.sp,hd,?_,fun hs=>⟨e,?_,(dj e).symm⟩⟩
   ·congr 3
    simp only[oC,he,AV.v.injEq,Value.bool.injEq,List.cons.injEq,and_true]
    rw[cy];simpa using h1
   ·simp only[oC,he]at hs |-;exact h2 hs
  have hl:∀x l,e=.list (x::l)->an Tryz.prog 86 [.agg [.v (.string (mk e.at)),e.sp]] [] (bK (.v (.string (mk x.at)))):=by
   rintro x l rfl;exact vd x l
  have ha:∀s0,e=.atom s0->an Tryz.prog 86 [.agg [.v (.string (mk e.at)),e.sp]] [] (bK (.v (.string (mk [])))):=by
   rintro s0 rfl;exact zx s0 _ ((bh).mpr trivial) hA.ok
  rcases gn hA.wf hA.ty with⟨hb,_⟩|⟨u,g,rfl,_,hg⟩
  ·rcases fI hA.ty hb hA.cl with⟨rfl,rfl⟩|⟨rfl,rfl⟩|⟨s0,rfl,rfl,hp,h0,h1⟩|⟨x,a,b,t1,t2,rfl,hx,rfl,ha',hbb⟩|⟨x,a,b,t1,t2,rfl,hx,rfl,ha',hbb⟩|⟨x,a,b,t1,rfl,hx,rfl⟩
   ·exact head _ (ha _ rfl) (by simp[lG]) (by simp[lG])
   ·exact head _ (ha _ rfl) (by simp[lG]) (by simp[lG])
   ·exact head _ (ha _ rfl) (by simp[lG]) (by simp[lG])
   ·exact head _ (hl _ _ rfl) (by simp[lG,hx]) (by simp[lG,hx])
   ·exact head _ (hl _ _ rfl) (by simp[lG,hx]) (by simp[lG,hx])
   ·exact head _ (hl _ _ rfl) (by simp[lG,hx]) (by simp[lG,hx])
  ·simp at hg
 ·have hn:jI s=none:=by cases hq:jI s<;>simp[hq]at h |-
  refine⟨c,d,hd,?_,fun h=>?_⟩
  ·simp[oC,hn]
  ·simp[oC,hn]at h
theorem CA(s:List UInt8):(oC s).isSome=(kC s).isSome:=by
 unfold oC kC
 cases h:jI s with
 |none=>rw[nj h];rfl
 |
  some e =>
  obtain⟨t,h1,hA,h3,h4,h5,_⟩:=gZ h
  rw[h1]
  simp only
  rcases gn hA.wf hA.ty with⟨hb,_⟩|⟨u,g,rfl,_,hg⟩
  ·rcases fI hA.ty hb hA.cl with⟨rfl,rfl⟩|⟨rfl,rfl⟩|⟨s0,rfl,rfl,hp,h0,h1⟩|⟨x,a,b,t1,t2,rfl,hx,rfl,ha',hbb⟩|⟨x,a,b,t1,t2,rfl,hx,rfl,ha',hbb⟩|⟨x,a,b,t1,rfl,hx,rfl⟩<;>simp_all[lG]
  ·simp at hg
theorem LV.le{s v:List UInt8}{w:Vl}{a:Ty}{x A B:E}(h:LV s v w a x A B):oC s=some (.list [x,A,B]):=by
 unfold oC;rw[h.ce];simp[lG,h.hx]
theorem RP(n:Nat)(v:Vl)(x A B:E)(a:Ty)(hA:Ask B [.mk A.at (.list [x,A,B]) []] a)(hx:x.at=[114,101,99])(w:Vl)(hw:v=.f w)(hv:eV n v (.list [x,A,B],[])=true)(hl:v.nodes<90000) :
 an Tryz.prog 74 [.agg [.v (.string (mk B.at)),B.sp],.v (.string (mk A.at)),.agg [.v (.string (mk w.cL.at)),w.cL.sp]] [] (bK (.sl (l8 (kids a v)))):=by
 subst hw
 obtain⟨w',e,hw'⟩:=uM .nil hx hv
 cases e
 simp only[Vl.nodes]at hl
 have hnm:names [Fr.mk A.at (.list [x,A,B]) []]=[]++[A.at]:=rfl
 have h:=E1 n w.nodes w (au _) B _ a hA hw' (by simp;omega) A.at (by rw[hnm];right;rw[fm];rfl)
 rw[hnm,vM]at h
 exact h
end Go.Proofs.Trees
namespace Go.Proofs.Trees
open Go Go.VL Go.RowKit
def Q1(e:E)(s:List UInt8)(t:Ty)(c v:Vl):Prop:=an Tryz.prog 82 [.agg [.v (.string (mk e.at)),e.sp],.v (.string (mk s)),.agg [.v (.string (mk c.cL.at)),c.cL.sp],.agg [.v (.string (mk v.cL.at)),v.cL.sp]] [] (bK (.agg [.v (.string (mk (cW t c v).cL.at)),(cW t c v).cL.sp]))
theorem EV:∀(m:Nat) (c:Vl),c.nodes<=m->∀(e:E) (env:List Fr) (t:Ty),Ask e env t->dK t c=true->∀(s:List UInt8) (v:Vl),Q1 e s t c v
 |0,c,hm=>by have:=du c;omega
 |
  m+1,c,hm=>by
  intro e env t A hc s v
  unfold Q1
  refine PX _ _ _ _ _ _ _ ((aX _).mpr trivial) ((aX _).mpr trivial) ((aX _).mpr trivial) ?_
  have atomCase:∀s0,e=.atom s0->cW t c v=v->eZ Tryz.prog 244 (Dx (mk e.at) e.sp (mk s) (mk c.cL.at) c.cL.sp (mk v.cL.at) v.cL.sp) fun _ xs obs=>bK (.agg [.v (.string (mk (cW t c v).cL.at)),(cW t c v).cL.sp]) (xs.headD .any) obs:=by
   rintro s0 rfl hp
   have hne:s0≠[]:=A.ok
   rw[hp]
   simp only[Dx,E.at,↓zq,zs,ae,zt,bK]
   exact⟨fun _=>trivial,fun h=>absurd h hne⟩
  have hvh:=AB c
  rw[dj]at hvh
  rcases gn A.wf A.ty with⟨hb,hq⟩|⟨u,g,rfl,hq,hu⟩
  ·rcases fI A.ty hb A.cl with⟨rfl,rfl⟩|⟨rfl,rfl⟩|⟨s0,rfl,rfl,hp,h0,h1⟩|⟨x,a,b,t1,t2,rfl,hx,rfl,ha,hbb⟩|⟨x,a,b,t1,t2,rfl,hx,rfl,ha,hbb⟩|⟨x,a,b,t1,rfl,hx,rfl⟩
   ·exact atomCase _ rfl (sV _ _)
   ·exact atomCase _ rfl (wD _ _)
   ·exact atomCase _ rfl (kQ _ _ _)
   ·obtain⟨ok1,ok2,ok3,_⟩:=A.ok
    obtain⟨f1,f2⟩:=fq A.cl
    have hP:=P3.of x a b
    have hH:an Tryz.prog 86 [.agg [.v (.string (mk [])),(E.list [x,a,b]).sp]] [] (bK (.v (.string (mk [43])))):=by rw[<-hx];exact vd x [a,b]
    rcases v7 hc with⟨y,rfl,hy⟩|⟨y,rfl,hy⟩
    ·simp only[Vl.nodes]at hm
     have hW:=P2.of (.atom [108]) y.cL
     simp only[Vl.cL,bM]at hvh
     simp only[Dx,bM,Vl.cL,toNat_one,bg,↓zq,zs,ae,zt,hP.1,hP.2.1,hP.2.2.1,hP.2.2.2,hW.1,hW.2.1,hW.2.2,aL]
     refine⟨fun h=>absurd rfl h,fun _=>?_⟩
     repeat refine⟨by omega,?_⟩
     refine ai hH ?_
     simp only[↓zq,zs,ae,zt]
     refine ai hvh ?_
     simp only[vh,↓zq,zs,ae,zt,bc,aT]
     refine⟨by simp[cM],fun _=>?_,fun h=>absurd rfl h⟩
     repeat refine⟨by omega,?_⟩
     refine ai (EV m y (by omega) a env t1 ⟨ok2,A.wf,ha,f1⟩ hy s v) ?_
     simp only[↓zq,zs,ae,zt,aL]
     repeat refine⟨by omega,?_⟩
     refine ai (wG _ _) ?_
     simp only[↓zq,zs,ae,zt,aL]
     repeat refine⟨by omega,?_⟩
     exact⟨rfl,rfl⟩
    ·simp only[Vl.nodes]at hm
     have hW:=P2.of (.atom [114]) y.cL
     simp only[Vl.cL,bM]at hvh
     simp only[Dx,bM,Vl.cL,toNat_one,bg,↓zq,zs,ae,zt,hP.1,hP.2.1,hP.2.2.1,hP.2.2.2,hW.1,hW.2.1,hW.2.2,aL]
     refine⟨fun h=>absurd rfl h,fun _=>?_⟩
     repeat refine⟨by omega,?_⟩
     refine ai hH ?_
     simp only[↓zq,zs,ae,zt]
     refine ai hvh ?_
     simp only[vh,↓zq,zs,ae,zt,bc,aT]
     refine⟨by simp[cM],fun h=>by simp at h,fun _=>⟨fun _=>?_,fun h=>absurd rfl h⟩⟩
     repeat refine⟨by omega,?_⟩
     refine ai (EV m y (by omega) b env t2 ⟨ok3,A.wf,hbb,f2⟩ hy s v) ?_
     simp only[↓zq,zs,ae,zt,aL]
     repeat refine⟨by omega,?_⟩
     refine ai (wG _ _) ?_
     simp only[↓zq,zs,ae,zt,aL]
     repeat refine⟨by omega,?_⟩
     exact⟨rfl,rfl⟩
   ·obtain⟨ok1,ok2,ok3,_⟩:=A.ok
    obtain⟨f1,f2⟩:=eW A.cl
    have hP:=P3.of x a b
    have hH:an Tryz.prog 86 [.agg [.v (.string (mk [])),(E.list [x,a,b]).sp]] [] (bK (.v (.string (mk [42])))):=by rw[<-hx];exact vd x [a,b]
    rcases s9 hc with⟨y,z,rfl,hy⟩|⟨y,z,rfl,hy⟩
    ·simp only[Vl.nodes]at hm
     have hW:=P2.of (.atom [108]) (E.list [.atom [112],y.cL,z.cL])
     have hQ:=P3.of (.atom [112]) y.cL z.cL
     simp only[Vl.cL,bM]at hvh
     simp only[Dx,bM,Vl.cL,toNat_one,bg,↓zq,zs,ae,zt,hP.1,hP.2.1,hP.2.2.1,hP.2.2.2,hW.1,hW.2.1,hW.2.2,hQ.1,hQ.2.1,hQ.2.2.1,hQ.2.2.2,aL]
     refine⟨fun h=>absurd rfl h,fun _=>?_⟩
     repeat refine⟨by omega,?_⟩
     refine ai hH ?_
     simp only[↓zq,zs,ae,zt]
     refine ai hvh ?_
     simp only[vh,↓zq,zs,ae,zt,bc,aT]
     refine⟨by simp[cM],fun h=>by simp at h,fun _=>⟨fun h=>by simp at h,fun _=>⟨fun _=>?_,fun h=>absurd rfl h⟩⟩⟩
     repeat refine⟨by omega,?_⟩
     refine ai (EV m y (by omega) a env t1 ⟨ok2,A.wf,ha,f1⟩ hy s v) ?_
     simp only[↓zq,zs,ae,zt,aL]
     repeat refine⟨by omega,?_⟩
     refine ai (w7 _ _ _) ?_
     simp only[↓zq,zs,ae,zt,aL]
     repeat refine⟨by omega,?_⟩
     exact⟨rfl,rfl⟩
    ·simp only[Vl.nodes]at hm
     have hW:=P2.of (.atom [114]) (E.list [.atom [112],y.cL,z.cL])
     have hQ:=P3.of (.atom [112]) y.cL z.cL
     simp only[Vl.cL,bM]at hvh
     simp only[Dx,bM,Vl.cL,toNat_one,bg,↓zq,zs,ae,zt,hP.1,hP.2.1,hP.2.2.1,hP.2.2.2,hW.1,hW.2.1,hW.2.2,hQ.1,hQ.2.1,hQ.2.2.1,hQ.2.2.2,aL]
     refine⟨fun h=>absurd rfl h,fun _=>?_⟩
     repeat refine⟨by omega,?_⟩
     refine ai hH ?_
     simp only[↓zq,zs,ae,zt]
     refine ai hvh ?_
     simp only[vh,↓zq,zs,ae,zt,bc,aT]
     refine⟨by simp[cM],fun h=>by simp at h,fun _=>⟨fun h=>by simp at h,fun _=>⟨fun h=>by simp at h,fun _=>⟨fun _=>?_,fun h=>absurd rfl h⟩⟩⟩⟩
     repeat refine⟨by omega,?_⟩
     refine ai (EV m z (by omega) b env t2 ⟨ok3,A.wf,hbb,f2⟩ hy s v) ?_
     simp only[↓zq,zs,ae,zt,aL]
     repeat refine⟨by omega,?_⟩
     refine ai (w7 _ _ _) ?_
     simp only[↓zq,zs,ae,zt,aL]
     repeat refine⟨by omega,?_⟩
     exact⟨rfl,rfl⟩
   ·obtain⟨t1',he1,h1,f1,hw1⟩:=jw A.wf A.ok hx A.ty A.cl
    cases he1
    obtain⟨ok1,ok2,ok3,_⟩:=A.ok
    have A':Ask b (.mk a.at (.list [x,a,b]) env::env) t1:=⟨ok3,hw1,h1,f1⟩
    have hP:=P3.of x a b
    have hH:an Tryz.prog 86 [.agg [.v (.string (mk [])),(E.list [x,a,b]).sp]] [] (bK (.v (.string (mk [114,101,99])))):=by rw[<-hx];exact vd x [a,b]
    rcases Cc hc with⟨y,rfl,hy⟩|⟨y,z,rfl,hy,hz⟩
    ·simp only[Vl.nodes]at hm
     have hW:=P2.of (.atom [102]) (E.list [.atom [108],y.cL])
     have hQ:=P2.of (.atom [108]) y.cL
     have hvi:=AB (.l y)
     rw[dj]at hvi
     simp only[Vl.cL,bM]at hvh hvi
     simp only[Dx,bM,Vl.cL,toNat_one,bg,↓zq,zs,ae,zt,hP.1,hP.2.1,hP.2.2.1,hP.2.2.2,hW.1,hW.2.1,hW.2.2,hQ.1,hQ.2.1,hQ.2.2,aL]
     refine⟨fun h=>absurd rfl h,fun _=>?_⟩
     repeat refine⟨by omega,?_⟩
     refine ai hH ?_
     simp only[↓zq,zs,ae,zt]
     refine ai hvh ?_
     simp only[vh,↓zq,zs,ae,zt,bc,aT]
     refine⟨by simp[cM],fun h=>by simp at h,fun _=>⟨fun h=>by simp at h,fun _=>⟨fun h=>by simp at h,fun _=>⟨fun h=>by simp at h,fun _=>?_⟩⟩⟩⟩
     repeat refine⟨by omega,?_⟩
     refine ai hvi ?_
     simp only[vh,↓zq,zs,ae,zt]
     refine⟨fun _=>?_,fun h=>absurd rfl h⟩
     repeat refine⟨by omega,?_⟩
     refine ai (EV m y (by omega) b _ t1 A' hy s v) ?_
     simp only[↓zq,zs,ae,zt,aL]
     repeat refine⟨by omega,?_⟩
     refine ai (wG _ _) ?_
     simp only[↓zq,zs,ae,zt,aL]
     repeat refine⟨by omega,?_⟩
     exact⟨rfl,rfl⟩
    ·simp only[Vl.nodes]at hm
     have hW:=P2.of (.atom [102]) (E.list [.atom [114],E.list [.atom [112],y.cL,z.cL]])
     have hQ:=P2.of (.atom [114]) (E.list [.atom [112],y.cL,z.cL])
     have hR:=P3.of (.atom [112]) y.cL z.cL
     have hvi:=AB (.r (.p y z))
     rw[dj]at hvi
     simp only[Vl.cL,bM]at hvh hvi
     simp only[Dx,bM,Vl.cL,toNat_one,bg,↓zq,zs,ae,zt,hP.1,hP.2.1,hP.2.2.1,hP.2.2.2,hW.1,hW.2.1,hW.2.2,hQ.1,hQ.2.1,hQ.2.2,hR.1,hR.2.1,hR.2.2.1,hR.2.2.2,aL]
     refine⟨fun h=>absurd rfl h,fun _=>?_⟩
     repeat refine⟨by omega,?_⟩
     refine ai hH ?_
     simp only[↓zq,zs,ae,zt]
     refine ai hvh ?_
     simp only[vh,↓zq,zs,ae,zt,bc,aT]
     refine⟨by simp[cM],fun h=>by simp at h,fun _=>⟨fun h=>by simp at h,fun _=>⟨fun h=>by simp at h,fun _=>⟨fun h=>by simp at h,fun _=>?_⟩⟩⟩⟩
     repeat refine⟨by omega,?_⟩
     refine ai hvi ?_
     simp only[vh,↓zq,zs,ae,zt]
     refine⟨fun h=>by simp at h,fun _=>?_⟩
     repeat refine⟨by omega,?_⟩
     have i1:=EV m z (by omega) (.list [x,a,b]) env (.rc t1) A hz s v
     unfold Q1 at i1
     simp only[bM]at i1
     refine ai i1 ?_
     simp only[↓zq,zs,ae,zt,aL]
     repeat refine⟨by omega,?_⟩
     refine ai (EV m y (by omega) b _ t1 A' hy a.at (cW (.rc t1) z v)) ?_
     simp only[↓zq,zs,ae,zt,aL]
     repeat refine⟨by omega,?_⟩
     refine ai (wG _ _) ?_
     simp only[↓zq,zs,ae,zt,aL]
     repeat refine⟨by omega,?_⟩
     exact⟨rfl,rfl⟩
  ·cases e with
   |atom s0=>exact atomCase _ rfl (sn _ _ _)
   |list l=>exact absurd hq (by rw[show (E.list l).at=[] from rfl,kM A.wf];simp)
end Go.Proofs.Trees
namespace Go.Proofs.Trees
open Go Go.VL Go.RowKit
abbrev Pq:Ob:=.cells [.v (.string (mk [])),.v (.slice none 0 0),.v (.string (mk []))]
theorem ZT.le{s d:Nm}{a:Ty}{x A B:E}{D:Ty}(z:ZT s d a x A B D):oC s=some (.list [x,A,B]):=by
 unfold oC;rw[z.ce];simp[lG,z.hx]
theorem uC(o:Option Nm):qy o=.cG [.v (.string (mk (o.getD []))),.v (.bool o.isSome)]:=by cases o<;>rfl
theorem Af{a:Ty}{w v:Vl}(hw:Cx a w)(hv:Fo a v):(Vl.f (cW a w v)).cA.length<=900000:=by
 have h1:=jk (Vl.f (cW a w v)) (by exact rr 100 a w v hw.ig hv.ig)
 have h2:=rk a w v
 have:=hw.nd
 have:=hv.nd
 simp only[Vl.nodes]at h1
 omega
abbrev Ao(a:Ty)(w v:Vl):Option Nm:=if(Vl.f (cW a w v)).nodes<=200 then some (Vl.f (cW a w v)).cA else none
theorem R7{s d:Nm}{a:Ty}{x A B:E}{D:Ty}(z:ZT s d a x A B D)(w v:Vl)(hw:m9 d w.cA 100=some w)(hv:Fo a v):an Tryz.prog 60 [.v (.string (mk s)),.v (.string (mk w.cA)),.v (.string (mk v.cA))] [] (bK (qy (Ao a w v))):=by
 have hC:=z.ctx hw
 have hv2:m9 s v.cA 100=some v:=by rw[z.cA hv.ig hv.ty,if_pos hv.nd]
 refine Q4 _ _ _ ?_
 unfold M7
 refine aP (GW s) (jH.ne _ _ (fun h=>h)) ?_
 rintro r o ⟨c,e,he,rfl,hh⟩
 rw[z.le]at hh
 obtain⟨e',he',hce⟩:=hh rfl
 cases he'
 rw[dj]at hce
 simp only[AV.agg.injEq,List.cons.injEq,AV.v.injEq,Value.string.injEq,and_true]at hce
 obtain⟨hc1,rfl⟩:=hce
 rw[z.le,hc1]
 simp only[↓zq,zs,ae,zt,aL,bM]
 repeat refine⟨by omega,?_⟩
 refine ai (IU s) ?_
 rw[uC,z.dl]
 simp only[↓zq,zs,ae,zt,aY,cC]
 refine⟨fun h=>by simp at h,fun _=>⟨fun h=>by simp at h,fun _=>?_⟩⟩
 refine ai (zU d w.cA 100) ?_
 rw[hw]
 simp only[↓zq,zs,ae,aY]
 refine⟨fun h=>by simp at h,fun _=>?_⟩
 refine ai (zU s v.cA 100) ?_
 rw[hv2]
 simp only[↓zq,zs,ae,aY]
 refine⟨fun h=>by simp at h,fun _=>?_⟩
 have hP:=P3.of x A B
 have rd:∀q:Vl,q.ig 100->q.nodes<=200->∀{Q:AV->List Ob->Prop},(∀o,Q (.cG [.agg [.v (.string (mk q.cL.at)),q.cL.sp],.v (.bool true)]) o)->∀r o,jH ((sw q.cA).map Vl.cL) (sw q.cA).isSome r o->Q r o:=by
  intro q hu hn Q hQ r o
  rw[qP hu hn]
  rintro⟨c,e,he,rfl,hh⟩
  obtain⟨e',he',hce⟩:=hh rfl
  cases he'
  rw[dj]at hce
  rw[hce]
  exact hQ o
 refine aP (D4 w.cA) (jH.ne _ _ (fun h=>by simpa using h)) (rd w hC.ig hC.nd fun o=>?_)
 simp only[↓zq,zs,ae,zt,aL]
 repeat refine⟨by omega,?_⟩
 refine aP (D4 v.cA) (jH.ne _ _ (fun h=>by simpa using h)) (rd v hv.ig hv.nd fun o=>?_)
 simp only[toNat_one,bg,↓zq,zs,ae,zt,hP.1,hP.2.1,hP.2.2.1,hP.2.2.2,aL,aX]
 repeat refine⟨by omega,?_⟩
 refine ai (EV w.nodes w (au _) B _ a z.body hC.ok A.at v) ?_
 simp only[↓zq,zs,ae,zt,aL]
 repeat refine⟨by omega,?_⟩
 refine ai (wG _ _) ?_
 simp only[↓zq,zs,ae,zt,aL]
 repeat refine⟨by omega,?_⟩
 have htx:=DK (Vl.f (cW a w v)).cL (mq _) (Af hC hv)
 rw[dj]at htx
 simp only[Vl.cL,bM]at htx
 refine ai htx ?_
 simp only[↓zq,zs,ae,zt]
 refine ai (zU s (Vl.f (cW a w v)).cA 100) ?_
 rw[z.cA (w:=Vl.f (cW a w v)) (by exact rr 100 a w v hC.ig hv.ig) (hC.ty v hv.ty)]
 unfold Ao
 by_cases hn:(Vl.f (cW a w v)).nodes<=200
 ·rw[if_pos hn,if_pos hn]
  simp only[↓zq,zs,ae,aY]
  exact⟨fun h=>by simp at h,fun _=>⟨rfl,rfl⟩⟩
 ·rw[if_neg hn,if_neg hn]
  simp only[↓zq,zs,ae,bu]
  exact⟨fun _=>⟨rfl,rfl⟩,fun h=>by simp at h⟩
theorem nJ{d:Nm}:∀{p:List Nm} {l:List Vl},eC d p=some l->p=l.map (·.cA)->∀c,c∈l->m9 d c.cA 100=some c
 |[],l,h,_,c,hc=>by cases h;cases hc
 |
  q::r,l,h,hp,c,hc=>by
  simp only[eC]at h
  split at h
  ·rename_i w l' h1 h2
   cases h
   simp only[bE,List.cons.injEq]at hp
   rcases aK.1 hc with rfl|hc
   ·rw[<-hp.1];exact h1
   ·exact nJ h2 hp.2 c hc
  ·cases h
structure St(s d:Nm)(a:Ty)(l:List Vl)(v:Vl):Prop where
 z:∃x A B D,ZT s d a x A B D
 i:ZI a l v
 each:∀c,c∈l->m9 d c.cA 100=some c
 len:l.length<=50
def zz(s:Nm)(pa:AV)(a:Ty)(l:List Vl)(v:Vl):AV:=match l.getLast? with
 |none=>.cG [.agg [.v (.string (mk s)),pa,.v (.string (mk v.cA))],.v (.bool false)]
 |some c=>.cG [.agg [.v (.string (mk s)),.sl (bJ (l.dropLast.map (·.cA))),.v (.string (mk ((Ao a c v).getD [])))],.v (.bool (Ao a c v).isSome)]
theorem Jt{s d:Nm}{a:Ty}{l:List Vl}{v:Vl}(h:St s d a l v)(pa:AV)(hp:ct pa (l.map (·.cA))):an Tryz.prog 38 [.agg [.v (.string (mk s)),pa,.v (.string (mk v.cA))]] [] (bK (zz s pa a l v)):=by
 refine P8 _ _ _ hp.1 ?_
 unfold M4
 have hlen:=h.len
 simp only[↓zq,zs,ae,zt,hp.len,cu,kf]
 unfold zz
 refine⟨hp.1,fun h0=>?_,fun h0=>?_⟩
 ·have:l=[]:=bR (by omega)
  subst this
  exact⟨rfl,rfl⟩
 ·have hpos:0<l.length:=by omega
  have hne:l≠[]:=by rintro rfl;simp at hpos
  rw[wrap64 ((l.length:Int)-1) (by omega) (by omega)]
  have e1:((l.length:Int)-1).toNat=l.length-1:=by omega
  have hlt:l.length-1<(l.map (·.cA)).length:=by rw[cu];omega
  have hlt':l.length-1<l.length:=by omega
  have hlast:l.getLast?=some (l[l.length-1]):=by rw[List.getLast?_eq_some_getLast hne,List.getLast_eq_getElem]
  rw[hlast]
  have hm:=bD hlt'
  have hg:(l.map (·.cA)).getD (l.length-1) []=(l[l.length-1]).cA:=by rw[aa,bp hlt,List.getElem_map];rfl
  obtain⟨x,A,B,D,z⟩:=h.z
  rw[e1,hp.idx hlt,hg]
  generalize l[l.length-1]=c at *
  simp only[↓zq,zs,ae,zt]
  refine⟨⟨hp.1,by omega⟩,by omega,?_⟩
  refine ai (R7 z c v (h.each c hm) h.i.oI) ?_
  rw[uC]
  simp only[↓zq,zs,ae,zt]
  refine⟨⟨hp.1,by omega⟩,⟨fun y hy=>?_,?_⟩,?_,rfl⟩
  ·rw[hp.2]at hy
   have:=List.mem_of_mem_take hy
   obtain⟨t,_,rfl⟩:=bO.1 this
   rfl
  ·rw[hp.2];simp[bJ];omega
  ·have:pa.elems.take (l.length-1)=bJ (l.dropLast.map (·.cA)):=by
    rw[hp.2,List.dropLast_eq_take,List.map_take];simp[bJ,List.map_take]
   rw[this];rfl
theorem St.up{s d:Nm}{a:Ty}{l l':List Vl}{v w:Vl}(h:St s d a l v)(hu:pz a l v=some (l',w)):St s d a l' w:=by
 obtain⟨h1,h2,c,h3,_⟩:=mn h.i hu
 have hl:=h.len
 exact⟨h.z,h1,fun c' hc'=>h.each c' (by rw[h3];exact aD _ hc'),by omega⟩
theorem sW{s:Nm}{pa:AV}{a:Ty}{l l':List Vl}{v w:Vl}(hu:pz a l v=some (l',w)):zz s pa a l v=.cG [.agg [.v (.string (mk s)),.sl (bJ (l'.map (·.cA))),.v (.string (mk w.cA))],.v (.bool true)]:=by
 unfold pz at hu
 unfold zz
 cases q:l.getLast? with
 |none=>rw[q]at hu;cases hu
 |
  some c =>
  rw[q]at hu
  simp only at hu |-
  unfold Ao
  split at hu
  ·rename_i hn
   cases hu
   rw[if_pos hn];rfl
  ·cases hu
theorem tL{s:Nm}{pa:AV}{a:Ty}{l:List Vl}{v:Vl}(hpa:LK.sl.has pa)(hu:pz a l v=none):∃p f,LK.sl.has p/\zz s pa a l v=.cG [.agg [.v (.string (mk s)),p,.v (.string (mk f))],.v (.bool false)]:=by
 unfold pz at hu
 unfold zz
 cases q:l.getLast? with
 |none=>exact⟨_,_,hpa,rfl⟩
 |
  some c =>
  rw[q]at hu
  simp only at hu |-
  unfold Ao
  split at hu
  ·cases hu
  ·rename_i hn
   rw[if_neg hn];exact⟨_,_,(cf _).mpr trivial,rfl⟩
def HB(s:Nm)(o:Option Vl):Nat->List AV->List Ob->Prop:=fun k ys ob=>match o with
 |some w=>k=1/\ys=[]/\∃pa,LK.sl.has pa/\ob=[.cells [.v (.string (mk s)),pa,.v (.string (mk w.cA))],Pq]
 |none=>k=2/\ys=[.v (.bool false)]/\∃pa f,LK.sl.has pa/\ob=[.cells [.v (.string (mk s)),pa,.v (.string (mk f))]]
theorem K2(s d:Nm)(a:Ty):∀(n:Nat) (l:List Vl) (v:Vl) (pa:AV),l.length=n->St s d a l v->ct pa (l.map (·.cA))->HX [] [.cells [.v (.string (mk s)),pa,.v (.string (mk v.cA))],Pq] (HB s (iV n a l v))
 |
  0,l,v,pa,hl,h,hp=>by
  refine MI _ _ _ _ _ _ ?_
  simp only[Gv,↓zq,zs,ae,zt,ae,bh,hp.len,cu,hl,iV]
  refine⟨hp.1,hp.1,fun h=>by omega,fun _=>?_⟩
  exact⟨rfl,rfl,pa,hp.1,rfl⟩
 |
  n+1,l,v,pa,hl,h,hp=>by
  refine MI _ _ _ _ _ _ ?_
  simp only[Gv,↓zq,zs,ae,zt,ae,bh,hp.len,cu,hl]
  refine⟨hp.1,hp.1,fun _=>?_,fun h=>by omega⟩
  refine ai (Jt h pa hp) ?_
  rw[iV]
  cases q:pz a l v with
  |
   none =>
   obtain⟨p',f',h1,h2⟩:=tL (s:=s) hp.1 q
   rw[h2]
   simp only[↓zq,zs,ae,zt,bF,bI]
   exact⟨h1,fun _=>⟨rfl,rfl,pa,v.cA,hp.1,rfl⟩,fun h=>by simp at h⟩
  |
   some r =>
   obtain⟨l',w⟩:=r
   obtain⟨_,hlen,_⟩:=mn h.i q
   rw[sW q]
   simp only[↓zq,zs,ae,zt,bF,a6,cf]
   refine⟨fun h=>by simp at h,fun _=>?_⟩
   exact K2 s d a n l' w _ (by omega) (h.up q) (ct.of _)
def Dr(o:Option Vl):AV->List Ob->Prop:=fun r ob=>ob=[]/\∃c0 pa c2,LK.sl.has pa/\r=.cG [.agg [.v (.string c0),pa,.v (.string c2)],.v (.bool o.isSome)]/\∀w,o=some w->c2=mk w.cA
theorem Dr.ne(o:Option Vl):∃r ob,Dr o r ob:=⟨_,[],rfl,mk [],.sl [],mk ((o.map (·.cA)).getD []),(cf _).mpr trivial,rfl,fun w h=>by rw[h];rfl⟩
theorem R9{s d:Nm}{a:Ty}{l:List Vl}{v:Vl}(h:St s d a l v)(pa:AV)(hp:ct pa (l.map (·.cA))):an Tryz.prog 47 [.agg [.v (.string (mk s)),pa,.v (.string (mk v.cA))]] [] (Dr (sf a l v)):=by
 refine QA _ _ _ hp.1 ?_
 unfold J9
 have hloop:=K2 s d a l.length l v pa rfl h hp
 refine kZ hloop (fun ys o e=>?_) (fun ys o e=>?_)
 ·unfold HB at e
  unfold sf
  cases q:iV l.length a l v with
  |none=>rw[q]at e;exact absurd e.1 (by decide)
  |
   some w =>
   rw[q]at e
   obtain⟨_,rfl,p',h1,rfl⟩:=e
   simp only[↓zq,zs,ae,zt,ae,bh]
   exact⟨h1,rfl,_,_,_,h1,rfl,fun w' h=>by cases h;rfl⟩
 ·unfold HB at e
  unfold sf
  cases q:iV l.length a l v with
  |some w=>rw[q]at e;exact absurd e.1 (by decide)
  |
   none =>
   rw[q]at e
   obtain⟨_,rfl,p',f',h1,rfl⟩:=e
   simp only[↓zq,zs,ae,zt,ae]
   exact⟨h1,rfl,_,_,_,h1,rfl,fun w' h=>by cases h⟩
theorem IY(s d f:Nm)(pa:AV)(p:List Nm)(hp:ct pa p)(hl:p.length<=50):∀(k i:Nat),i+k=p.length->Gz [.v (.string (mk d)),.v (.int .i64 (i:Int))] [.cells [.v (.string (mk s)),pa,.v (.string (mk f))]] (oq (if(eC d (p.drop i)).isSome=true then(1,[],[])else(2,[.v (.bool false)],[])))
 |
  0,i,hi=>by
  refine KQ _ _ _ _ _ ?_
  have:i=p.length:=by omega
  subst this
  simp only[FZ,↓zq,zs,ae,zt,ae,hp.len,List.drop_length]
  exact⟨hp.1,hp.1,fun h=>by omega,fun _=>rfl⟩
 |
  k+1,i,hi=>by
  have hlt:i<p.length:=by omega
  have hd:p.drop i=p.getD i []::p.drop (i+1):=by rw[aU hlt];simp[aa,hlt]
  refine KQ _ _ _ _ _ ?_
  simp only[FZ,↓zq,zs,ae,zt,ae,hp.len,hp.idx hlt,bH]
  refine⟨hp.1,hp.1,fun _=>⟨⟨hp.1,by omega,by omega⟩,by omega,?_⟩,fun h=>by omega⟩
  refine ai (zU d (p.getD i []) 100) ?_
  rw[hd,eC]
  simp only[↓zq,zs,ae]
  cases q:m9 d (p.getD i []) 100 with
  |
   none =>
   simp only[bu]
   exact⟨fun _=>rfl,fun h=>by simp at h⟩
  |
   some w =>
   simp only[aY]
   refine⟨fun h=>by simp at h,fun _=>?_⟩
   rw[bA i (by omega)]
   have ih:=IY s d f pa p hp hl k (i+1) (by omega)
   cases q2:eC d (p.drop (i+1))with
   |none=>rw[q2]at ih;exact ih
   |some l=>rw[q2]at ih;exact ih
theorem uV(s:Nm)(p:List Nm)(f:Nm):vt s p f=(cH s).bind fun d=>(kC s).bind fun _=>(m9 s f 100).bind fun v=>if p.length<=50 then(eC d p).map fun l=>(l,v)else none:=by
 unfold vt qw
 cases kC s with
 |none=>cases cH s<;>rfl
 |some a=>cases m9 s f 100<;>cases cH s<;>rfl
theorem Pk(s:Nm)(pa:AV)(p:List Nm)(hp:ct pa p)(f:Nm):an Tryz.prog 46 [.agg [.v (.string (mk s)),pa,.v (.string (mk f))]] [] (bK (.v (.bool (vt s p f).isSome))):=by
 refine Q9 _ _ _ hp.1 ?_
 unfold Lx
 refine ai (IU s) ?_
 rw[uC]
 simp only[↓zq,zs,ae,zt]
 refine aP (GW s) (jH.ne _ _ (fun h=>h)) ?_
 rintro r o ⟨c,e,he,rfl,_⟩
 rw[CA]
 simp only[↓zq,zs,ae,zt,bF,hp.len]
 rw[uV]
 refine⟨he,fun h=>?_,fun h=>⟨fun h'=>?_,fun h'=>⟨hp.1,fun h''=>?_,fun h''=>?_⟩⟩⟩
 ·have:cH s=none:=by cases q:cH s with|none=>rfl|some d=>simp[q]at h
  rw[this]
  exact⟨rfl,rfl⟩
 ·have:kC s=none:=by cases q:kC s with|none=>rfl|some d=>simp[q]at h'
  rw[this]
  cases cH s<;>exact⟨rfl,rfl⟩
 ·simp only[if_neg (show ¬p.length<=50 by omega)]
  exact⟨by cases cH s<;>cases kC s<;>cases m9 s f 100<;>rfl,rfl⟩
 ·obtain⟨d,hd⟩:∃d,cH s=some d:=by cases q:cH s with|none=>simp[q]at h|some d=>exact⟨d,rfl⟩
  obtain⟨a,ha⟩:∃a,kC s=some a:=by cases q:kC s with|none=>simp[q]at h'|some d=>exact⟨d,rfl⟩
  rw[hd,ha]
  refine ai (zU s f 100) ?_
  simp only[↓zq,zs,ae]
  cases q:m9 s f 100 with
  |none=>simp only[bu];exact⟨fun _=>⟨rfl,rfl⟩,fun h=>by simp at h⟩
  |
   some v =>
   simp only[aY,cC,a6]
   refine⟨fun h=>by simp at h,fun _=>?_⟩
   have hl:p.length<=50:=by omega
   have hloop:=IY s d f pa p hp hl p.length 0 (by omega)
   rw[bf]at hloop
   rw[if_pos hl]
   refine fE hloop (fun ys o e=>?_) (fun ys o e=>?_)
   ·cases q2:eC d p with
    |none=>rw[q2]at e;cases e
    |some l=>exact⟨rfl,rfl⟩
   ·cases q2:eC d p with
    |none=>rw[q2]at e;cases e;simp only[↓zq,zs,ae];exact⟨rfl,rfl⟩
    |some l=>rw[q2]at e;cases e
theorem xt{s:Nm}{p:List Nm}{f:Nm}{l:List Vl}{v:Vl}(h:vt s p f=some (l,v)):∃d,St s d (zA s) l v/\p=l.map (·.cA)/\f=v.cA:=by
 obtain⟨d,a,x,A,B,D,z,hz,hp,hf,hl,hza,_,hr⟩:=mO h
 rw[hza]
 exact⟨d,⟨⟨x,A,B,D,z⟩,hz,nJ hr hp,by rw[hp]at hl;simpa using hl⟩,hp,hf⟩
theorem DL(s:Nm)(pa:AV)(p:List Nm)(hp:ct pa p)(f:Nm):an Tryz.prog 23 [.agg [.v (.string (mk s)),pa,.v (.string (mk f))]] [] (bK (.v (.bool (fF s p f).isSome))):=by
 refine Pn _ _ _ hp.1 ?_
 unfold Lv
 refine ai (Pk s pa p hp f) ?_
 simp only[↓zq,zs,ae]
 unfold fF
 cases q:vt s p f with
 |none=>simp only[bu];exact⟨fun _=>⟨rfl,rfl⟩,fun h=>by simp at h⟩
 |
  some r =>
  obtain⟨l,v⟩:=r
  obtain⟨d,hs,rfl,rfl⟩:=xt q
  simp only[aY,a6]
  refine⟨fun h=>by simp at h,fun _=>?_⟩
  refine aP (R9 hs pa hp) (Dr.ne _) ?_
  rintro r o ⟨rfl,c0,p',c2,h1,rfl,_⟩
  simp only[↓zq,zs,ae,zt,bF]
  refine⟨h1,?_,rfl⟩
  congr 2
  cases sf (zA s) l v<;>rfl
end Go.Proofs.Trees
namespace Go.Proofs.Trees
open Go Go.VL Go.RowKit
inductive Rl(x:Nm):Nat->Tg->Tg->Prop
 |nm (i):Rl x i (.nm x) (.bd i)
 |kq (i s) (h:s≠x):Rl x i (.nm s) (.nm s)
 |bd (i j) (h:j≠i):Rl x i (.bd j) (.bd j)
theorem Rl.up{x:Nm}{i:Nat}{a b:Tg}(h:Rl x i a b):Rl x (i+1) a.up b.up:=by
 cases h with
 |nm=>exact .nm _
 |kq s h=>exact .kq _ _ h
 |bd j h=>exact .bd _ _ (by omega)
theorem Rl.at{x:Nm}{i:Nat}{a b:Tg}(h:Rl x i a b):∀t:Ty,bn x t=false->eE (dy (.name x) t i) a=eE t b
 |
  .bound k,_=>by
  simp only[dy]
  cases h with
  |
   nm =>
   by_cases e:k=i
   ·simp[e,eE]
   ·simp[e,eE]
  |
   kq s h =>
   by_cases e:k=i
   ·simp[e,eE,Ne.symm h]
   ·simp[e,eE]
  |
   bd j h =>
   by_cases e:k=i
   ·simp[e,eE,Ne.symm h]
   ·simp[e,eE]
 |
  .name s,hn=>by
  have hs:s≠x:=by simpa[bn]using hn
  cases h with
  |nm=>simp[dy,eE,hs]
  |kq=>rfl
  |bd=>rfl
 | .plus _ _,_=>by cases h<;>rfl
 | .times _ _,_=>by cases h<;>rfl
 | .rc _,_=>by cases h<;>rfl
 | .zero,_=>by cases h<;>rfl
 | .one,_=>by cases h<;>rfl
theorem ia(x:Nm):∀(n:Nat) (t:Ty) (i:Nat) (a b:Tg) (v:Vl),bn x t=false->Rl x i a b->dC n (dy (.name x) t i) a v=dC n t b v
 |0,_,_,_,_,_,_,_=>rfl
 |
  n+1,t,i,a,b,v,hn,h=>by
  rw[dC,dC,h.at t hn]
  by_cases ht:eE t b=true
  ·rw[if_pos ht,if_pos ht]
  ·rw[if_neg ht,if_neg ht]
   cases t with
   |
    plus p q =>
    simp only[bn,cj]at hn
    cases v<;>simp only[dy,iT,ia x n p i a b _ hn.1 h,ia x n q i a b _ hn.2 h]
   |
    times p q =>
    simp only[bn,cj]at hn
    cases v<;>simp only[dy,iT,ia x n p i a b _ hn.1 h,ia x n q i a b _ hn.2 h]
   |
    rc p =>
    have h0:Rl x (i+1) (.bd 0) (.bd 0):=.bd _ _ (by omega)
    cases v<;>simp only[dy,iT]
    rename_i w
    rw[ia x n p (i+1) a.up b.up w hn h.up,ia x n p (i+1) (.bd 0) (.bd 0) w hn h0]
    congr 1
    apply iQ
    intro k _
    have:=ia x n (.rc p) i a b k.2 hn h
    simp only[dy]at this
    rw[this]
   |
    bound k =>
    simp only[dy]
    by_cases e:k=i
    ·rw[if_pos e];cases v<;>rfl
    ·rw[if_neg e];cases v<;>rfl
   |name s=>rfl
   |zero=>rfl
   |one=>rfl
theorem nY(x:Nm){t:Ty}{i:Nat}{a b:Tg}(v:Vl)(hn:bn x t=false)(h:Rl x i a b):cm (dy (.name x) t i) a v=cm t b v:=ia x _ t i a b v hn h
end Go.Proofs.Trees
