/-
  Part of a proof: Go functions read by values, trees of functions, their contracts.
-/
import Derived.Test.YteglbjcjlamohabGreatDoorP5
set_option linter.unusedVariables false
set_option linter.unusedSimpArgs false
namespace Go.Proofs.Trees
open Go Go.VL Go.RowKit
theorem Sqg (n:Nat):∀(m:Nat) (v:Vl),v.nodes<=m->∀(e:E) (env:List Fr) (t:Ty),Ask e env t->vis n v (e,env) = true->env.length+v.nodes < 100000->∀(ea:AV) (ids:List Nat),EnvA ea ids->ids.length = env.length->∀(tg:Tg) (s:List UInt8) (fr:AV),TgA tg ids s fr->IHo t ea s fr tg v
 | 0,v,hm=>by have:=nodes_pos v; omega
 | m+1,v,hm=>by
  intro e env t A hv hl ea ids he hids tg s fr ht
  unfold IHo
  refine Fqit _ _ _ _ _ ((ty_has _).mpr trivial) he.has ((vl_has _).mpr trivial) ht.has ?_
  unfold tqd0
  refine wp_det (Sqju t tg ea ids s fr he ht (fun u hu=>by
   rcases ty_cases A.wf A.ty with⟨hb,_⟩ | ⟨u',g,rfl,_,hg⟩
   ·rw [hu] at hb; cases hb
   ·cases hu; rw [hids]; exact(List.getElem?_eq_some_iff.1 hg).1) (by omega)) ?_
  have hlen:=holes_len t tg v
  cases hat:isAt t tg with
  | true =>
   rw [holes_at v hat]
   simp only [↓zq,zs,hasK,Det,hAV,List.map_cons,List.map_nil,Vl.iav]
   exact⟨fun _=>trivial,fun h=>(by cases h)⟩
  | false =>
  simp only [↓zq,zs,hasK]
  refine⟨fun h=>(by cases h),fun _=>?_⟩
  rcases ty_cases A.wf A.ty with⟨hb,hq⟩ | ⟨u,g,rfl,hq,hu⟩
  ·have hhd:hd e env = (e,env):=hd_none hq
   rcases ty_shapes A.ty hb A.cl with⟨rfl,rfl⟩ | ⟨rfl,rfl⟩ | ⟨s,rfl,rfl,hp,h0,h1⟩ | ⟨x,a,b,t1,t2,rfl,hx,rfl,ha,hbb⟩ | ⟨x,a,b,t1,t2,rfl,hx,rfl,ha,hbb⟩ | ⟨x,a,b,t1,rfl,hx,rfl⟩
   ·rw [holes_no hat (by cases v<;>rfl)]
    simp [Ty.av,↓zq,zs,hasK,Det,hAV]
   ·rw [holes_no hat (by cases v<;>rfl)]
    simp [Ty.av,↓zq,zs,hasK,Det,hAV]
   ·rw [holes_no hat (by cases v<;>rfl)]
    simp [Ty.av,↓zq,zs,hasK,Det,hAV]
   ·obtain⟨ok1,ok2,ok3,_⟩:=A.ok
    obtain⟨f1,f2⟩:=freeLoo_plus A.cl
    have hL:=Sq17 t1.av t2.av ea 43 (mk []) 0 ((ty_has _).mpr trivial) he.has
    have hR:=Sq18 t1.av t2.av ea 43 (mk []) 0 ((ty_has _).mpr trivial) he.has
    cases v with
    | l w =>
     simp only [vis,hhd,hx,beq_self_eq_true,Bool.true_and] at hv
     simp only [Vl.nodes] at hm hl hlen
     rw [holes_l] at hlen |-
     rw [inC_len] at hlen
     simp only [Ty.av,↓zq,zs,hasK]
     refine⟨by omega,fun _=>?_,fun h=>absurd rfl h⟩
     refine wp_det hL ?_
     simp only [↓zq,zs,hasK,hasL,ty_has,he.has,Vl.iav,vl_has]
     refine⟨by omega,fun h=>by omega,fun _=>⟨by omega,?_⟩⟩
     refine wp_det (Sqg n m w (by omega) a env t1 ⟨ok2,A.wf,ha,f1⟩ hv (by omega) ea ids he hids tg s fr ht) ?_
     simp only [↓zq,zs,hasK]
     have hadd:=Sq82 (Vl.l w).iav ((vl_has _).mpr trivial) Vl.l (fun c=>Sqk4 w c) (holes t1 tg w) [] (by simp; omega)
     simp only [Vl.iav,hAV,List.map_nil,List.nil_append] at hadd
     refine wp_detO hadd ?_
     simp [↓zq,zs,hasK,hasC,Det,vl_has,hAV,has_ptr]
    | r w =>
     simp only [vis,hhd,hx,beq_self_eq_true,Bool.true_and] at hv
     simp only [Vl.nodes] at hm hl hlen
     rw [holes_r] at hlen |-
     rw [inC_len] at hlen
     simp only [Ty.av,↓zq,zs,hasK]
     refine⟨by omega,fun _=>?_,fun h=>absurd rfl h⟩
     refine wp_det hL ?_
     simp only [↓zq,zs,hasK,hasL,ty_has,he.has,Vl.iav,vl_has]
     refine⟨by omega,fun _=>?_,fun h=>absurd rfl h⟩
     refine wp_det hR ?_
     simp only [↓zq,zs,hasK,hasL,ty_has,he.has,vl_has]
     refine⟨by omega,?_⟩
     refine wp_det (Sqg n m w (by omega) b env t2 ⟨ok3,A.wf,hbb,f2⟩ hv (by omega) ea ids he hids tg s fr ht) ?_
     simp only [↓zq,zs,hasK]
     have hadd:=Sq82 (Vl.r w).iav ((vl_has _).mpr trivial) Vl.r (fun c=>Sqgp w c) (holes t2 tg w) [] (by simp; omega)
     simp only [Vl.iav,hAV,List.map_nil,List.nil_append] at hadd
     refine wp_detO hadd ?_
     simp [↓zq,zs,hasK,hasC,Det,vl_has,hAV,has_ptr]
    | _=>simp [vis,hhd,hx] at hv
   ·obtain⟨ok1,ok2,ok3,_⟩:=A.ok
    obtain⟨f1,f2⟩:=freeLoo_times A.cl
    have hL:=Sq17 t1.av t2.av ea 42 (mk []) 0 ((ty_has _).mpr trivial) he.has
    have hR:=Sq18 t1.av t2.av ea 42 (mk []) 0 ((ty_has _).mpr trivial) he.has
    cases v with
    | p w w' =>
     simp only [vis,hhd,hx,beq_self_eq_true,Bool.true_and,Bool.and_eq_true] at hv
     simp only [Vl.nodes] at hm hl hlen
     rw [holes_p] at hlen |-
     simp only [List.length_append,inC_len] at hlen
     simp only [Ty.av,↓zq,zs,hasK]
     refine⟨by omega,fun h=>by omega,fun _=>⟨fun _=>?_,fun h=>absurd rfl h⟩⟩
     refine wp_det hL ?_
     simp only [↓zq,zs,hasK,hasL,ty_has,he.has,Vl.iav,vl_has]
     refine⟨by omega,?_⟩
     refine wp_det (Sqg n m w (by omega) a env t1 ⟨ok2,A.wf,ha,f1⟩ hv.1 (by omega) ea ids he hids tg s fr ht) ?_
     simp only [↓zq,zs,hasK]
     have hadd:=Sqhs (Vl.p w w').iav ((vl_has _).mpr trivial) (fun c=>.l (.p c w')) (fun c=>Sqjy w w' c) (holes t1 tg w) [] (by simp; omega)
     simp only [Vl.iav,hAV,List.map_nil,List.nil_append] at hadd
     refine wp_detO hadd ?_
     simp only [↓zq,zs,hasK,hasC,vl_has]
     refine wp_det hR ?_
     simp only [↓zq,zs,hasK,hasL,ty_has,he.has,vl_has]
     refine⟨by omega,?_⟩
     refine wp_det (Sqg n m w' (by omega) b env t2 ⟨ok3,A.wf,hbb,f2⟩ hv.2 (by omega) ea ids he hids tg s fr ht) ?_
     simp only [↓zq,zs,hasK]
     have hadd2:=Sqh8 (Vl.p w w').iav ((vl_has _).mpr trivial) (fun c=>.r (.p w c)) (fun c=>Sqie w w' c) (holes t2 tg w') (inC (fun c=>.l (.p c w')) (holes t1 tg w)) (by rw [inC_len]; omega)
     simp only [Vl.iav,hAV] at hadd2
     refine wp_detO hadd2 ?_
     simp [↓zq,zs,hasK,hasC,Det,vl_has,hAV,has_ptr]
    | _=>simp [vis,hhd,hx] at hv
   ·obtain⟨t1',he1,h1,f1,hw1⟩:=wf_enter A.wf A.ok hx A.ty A.cl
    cases he1
    obtain⟨ok1,ok2,ok3,_⟩:=A.ok
    have A':Ask b (.mk a.at (.list [x,a,b]) env::env) t1:=⟨ok3,hw1,h1,f1⟩
    cases v with
    | f w =>
     simp only [vis,hhd,hx,beq_self_eq_true,Bool.true_and] at hv
     simp only [Vl.nodes] at hm hl hlen
     rw [holes_f] at hlen |-
     simp only [List.length_append,inC_len] at hlen
     have hin:=Sq2p t1 ea ids he
     simp only [Ty.av] at hin
     simp only [Ty.av,↓zq,zs,hasK]
     refine⟨by omega,fun h=>by omega,fun _=>⟨fun h=>by omega,fun _=>⟨fun _=>?_,fun h=>absurd rfl h⟩⟩⟩
     refine wp_call hin (by have:=InR.ne t1 ea ids; simpa only [InR,Ty.av] using this) ?_
     intro r o hr
     obtain⟨⟨mm,hmm,rfl⟩,rfl⟩:=hr
     have he2:EnvA (.ptr [.pid mm [(Ty.rc t1).av,ea],ea]) (mm::ids):=.cons hmm he
     have hfr:LK.ptr.has (.pid mm [(Ty.rc t1).av,ea]):=.inr (.inr ⟨_,_,rfl⟩)
     simp only [Ty.av] at he2 hfr
     simp only [↓zq,zs,hasK,hasL,ty_has,he2.has,hfr,Vl.iav,vl_has,Ty.av]
     refine⟨by omega,?_⟩
     have i1:=Sqg n m w (by omega) b _ t1 A' hv (by simp; omega) _ _ he2 (by simp [hids]) tg.up s fr (ht.push mm)
     unfold IHo at i1
     refine wp_det i1 ?_
     simp only [↓zq,zs,hasK]
     have hadd:=Sqhi (fun c=>.f (.l c)) (fun c=>Sqgf c) (holes t1 tg.up w) [] (by simp; omega)
     simp only [Vl.iav,hAV,List.map_nil,List.nil_append] at hadd
     refine wp_detO hadd ?_
     simp only [↓zq,zs,hasK,hasC,vl_has]
     have i2:=Sqg n m w (by omega) b _ t1 A' hv (by simp; omega) _ _ he2 (by simp [hids]) (.bd 0) [] _ (by have:=TgA.bd (k:=0) (ids:=mm::ids) (by simp) [(Ty.rc t1).av,ea] []; simpa only [List.getD_cons_zero,Ty.av] using this)
     unfold IHo at i2
     refine⟨by omega,?_⟩
     refine wp_det i2 ?_
     simp only [↓zq,zs,hasK,hAV_len]
     have hl2:=holes_len t1 (.bd 0) w
     have ih3:∀h,h∈holes t1 (.bd 0) w->IHo (.rc t1) ea s fr tg h.2:=fun h hh=>by
      have h3:=(holes_sz hh).1
      have h4:=vis_hole n m w (by omega) b _ t1 A' hv 0 _ rfl h hh
      exact Sqg n m h.2 (by omega) (.list [x,a,b]) env (.rc t1) A h4 (by omega) ea ids he hids tg s fr ht
     have hloop:=Lqfi t1 ea s fr tg he.has ht.has (holes t1 (.bd 0) w) (by omega) ih3 (holes t1 (.bd 0) w).length 0 (inC (fun c=>.f (.l c)) (holes t1 tg.up w)) (by omega) (by
      simp only [List.drop_zero,List.length_append,inC_len]
      have hlen2:(holes t1 tg.up w).length+((holes t1 (.bd 0) w).flatMap (chn t1 tg)).length<=1+w.nodes:=hlen
      omega)
     simp only [Ty.av,hAV,List.drop_zero] at hloop
     refine wp_loop1 hloop ?_
     simp [↓zq,zs,hasK,hasK,Det,hAV]
    | _=>simp [vis,hhd,hx] at hv
  ·rw [holes_no hat (by cases v<;>rfl)]
   simp [Ty.av,↓zq,zs,hasK,Det,hAV]
end Go.Proofs.Trees
namespace Go.Proofs.Trees
open Go Go.VL Go.RowKit
theorem Sqb:∀(v:Vl),v.txt.length<=900000->FSpec Tryz.prog 81 [v.iav] [] (Det (.v (.string (mk v.txt))))
 | .u,h=>by refine Fq16 _ ((vl_has _).mpr trivial) ?_; simp [tqq,Vl.iav,↓zq,zs,hasK,Det,Vl.txt,Vl.toE,txE]
 | .el k,h=>by refine Fq16 _ ((vl_has _).mpr trivial) ?_; simp [tqq,Vl.iav,↓zq,zs,hasK,Det,Vl.txt,Vl.toE,txE]
 | .l v,h=>by
  simp only [Vl.txt,Vl.toE,txE,txEs,List.length_cons,List.length_append,List.length_nil] at h
  refine Fq16 _ ((vl_has _).mpr trivial) ?_
  have hb:(⟨(bytesOf [[.v (.int .u8 108)]]).toArray⟩:ByteArray) = mk [108]:=rfl
  have ha:allU8 [[.v (.int .u8 108)]]:=allU8_one 108
  simp only [tqq,Vl.iav,↓zq,zs,hasK,vl_has,vl_nil,hb]
  refine⟨by omega,fun h=>by omega,fun _=>⟨fun h=>by omega,fun _=>⟨fun h=>by omega,fun _=>⟨by omega,ha,by simp [size_mk],by rw [append_mk,size_mk,size_mk]; simp,by omega,?_⟩⟩⟩⟩
  refine wp_det (Sqb v (by simp only [Vl.txt]; omega)) ?_
  simp only [↓zq,zs,hasK,zt,Det,Vl.txt,Vl.toE,txE,txEs]
  refine⟨by simp; omega,by simp; omega,by simp⟩
 | .r v,h=>by
  simp only [Vl.txt,Vl.toE,txE,txEs,List.length_cons,List.length_append,List.length_nil] at h
  refine Fq16 _ ((vl_has _).mpr trivial) ?_
  have hb:(⟨(bytesOf [[.v (.int .u8 114)]]).toArray⟩:ByteArray) = mk [114]:=rfl
  have ha:allU8 [[.v (.int .u8 114)]]:=allU8_one 114
  simp only [tqq,Vl.iav,↓zq,zs,hasK,vl_has,vl_nil,hb]
  refine⟨by omega,fun h=>by omega,fun _=>⟨fun h=>by omega,fun _=>⟨fun h=>by omega,fun _=>⟨by omega,ha,by simp [size_mk],by rw [append_mk,size_mk,size_mk]; simp,by omega,?_⟩⟩⟩⟩
  refine wp_det (Sqb v (by simp only [Vl.txt]; omega)) ?_
  simp only [↓zq,zs,hasK,zt,Det,Vl.txt,Vl.toE,txE,txEs]
  refine⟨by simp; omega,by simp; omega,by simp⟩
 | .f v,h=>by
  simp only [Vl.txt,Vl.toE,txE,txEs,List.length_cons,List.length_append,List.length_nil] at h
  refine Fq16 _ ((vl_has _).mpr trivial) ?_
  have hb:(⟨(bytesOf [[.v (.int .u8 102)]]).toArray⟩:ByteArray) = mk [102]:=rfl
  have ha:allU8 [[.v (.int .u8 102)]]:=allU8_one 102
  simp only [tqq,Vl.iav,↓zq,zs,hasK,vl_has,vl_nil,hb]
  refine⟨by omega,fun h=>by omega,fun _=>⟨fun h=>by omega,fun _=>⟨fun h=>by omega,fun _=>⟨by omega,ha,by simp [size_mk],by rw [append_mk,size_mk,size_mk]; simp,by omega,?_⟩⟩⟩⟩
  refine wp_det (Sqb v (by simp only [Vl.txt]; omega)) ?_
  simp only [↓zq,zs,hasK,zt,Det,Vl.txt,Vl.toE,txE,txEs]
  refine⟨by simp; omega,by simp; omega,by simp⟩
 | .p a b,h=>by
  simp only [Vl.txt,Vl.toE,txE,txEs,List.length_cons,List.length_append,List.length_nil] at h
  refine Fq16 _ ((vl_has _).mpr trivial) ?_
  simp only [tqq,Vl.iav,↓zq,zs,hasK,vl_has,vl_nil]
  refine⟨by omega,fun h=>by omega,fun _=>⟨fun h=>by omega,fun _=>⟨fun _=>⟨by omega,?_⟩,fun h=>absurd rfl h⟩⟩⟩
  refine wp_det (Sqb a (by simp only [Vl.txt]; omega)) ?_
  simp only [↓zq,zs,hasK,zt,vl_has,Vl.txt]
  refine⟨by simp; omega,by simp; omega,by omega,?_⟩
  refine wp_det (Sqb b (by simp only [Vl.txt]; omega)) ?_
  simp only [↓zq,zs,hasK,zt,Det,Vl.txt,Vl.toE,txE,txEs]
  refine⟨by simp; omega,by simp; omega,by simp⟩
def optS:Option (List UInt8)->AV
 | some s=>.tup [.v (.string (mk s)),.v (.bool true)]
 | none=>.tup [.v (.string (mk [])),.v (.bool false)]
end Go.Proofs.Trees
namespace Go.Proofs.Trees
open Go Go.VL Go.RowKit
def back (n:Nat):Ty->Nat->Vl
 | .name _,c=>.el c
 | .plus a b,c=>match cnt n a with | some x=>if c < x then .l (back n a c) else .r (back n b (c - x)) | none=>.u
 | .times a b,c=>match cnt n b with | some y=>.p (back n a (c / y)) (back n b (c % y)) | none=>.u
 | _,_=>.u
theorem allLen2:∀l:List E,allLen 2 (E.scellss l)
 | []=>fun c hc=>by cases hc
 | e::l=>fun c hc=>by
  simp only [E.scellss,List.mem_cons] at hc
  rcases hc with rfl | hc
  ·exact sc_len e
  ·exact allLen2 l c hc
theorem Sqb0 (w:List UInt8) (l:List E) (hl:l.length < 1000000):FSpec Tryz.prog 103 [.v (.string (mk w)),.sl (E.scellss l)] [] (Det (E.sav (.list (.atom w::l)))):=by
 refine Fqfh _ _ ((has_sl _).mpr trivial) ?_
 simp only [tq6q,↓zq,zs,hasK,scellss_len,Det,E.sav,E.scells,E.scellss]
 exact⟨⟨allLen2 l,by omega⟩,rfl⟩
end Go.Proofs.Trees
namespace Go.Proofs.Trees
open Go Go.VL Go.RowKit
def sAV (l:List Hl):List (List AV):=l.map fun h=>[.v (.string (mk h.1.toE.at)),h.1.toE.sp,.v (.string (mk h.2.toE.at)),h.2.toE.sp]
theorem sAV_len (l:List Hl):(sAV l).length = l.length:=by simp [sAV]
theorem sAV_get {l:List Hl} {i:Nat} (hi:i < l.length):(sAV l).getD i [] = [.v (.string (mk (l[i]).1.toE.at)),(l[i]).1.toE.sp,.v (.string (mk (l[i]).2.toE.at)),(l[i]).2.toE.sp]:=by simp [sAV,List.getD_eq_getElem?_getD,hi]
theorem sAV_one (out:List Hl) (a b:Vl):sAV out++[[.v (.string (mk a.toE.at)),a.toE.sp,.v (.string (mk b.toE.at)),b.toE.sp]] = sAV (out++[(a,b)]):=by simp [sAV]
theorem len4 (a b c d:AV):allLen 4 [[a,b,c,d]]:=fun x hx=>by simp at hx; rw [hx]; rfl
theorem sp_hasL (s:ByteArray) (e:E):hasL [.str,.sl] [.v (.string s),e.sp] 0 = True:=by simp [hasL,has_str,sp_has]
theorem sp_hasL4 (s:ByteArray) (e:E) (x y:AV):hasL [.str,.sl] [.v (.string s),e.sp,x,y] 0 = True:=by simp [hasL,has_str,sp_has]
theorem Sq9 (w:List UInt8) (e:E):FSpec Tryz.prog 103 [.v (.string (mk w)),.sl [[.v (.string (mk e.at)),e.sp]]] [] (Det (.agg [.v (.string (mk [])),(E.list [.atom w,e]).sp])):=by
 have:=Sqb0 w [e] (by simp)
 simpa only [E.scellss,scells_sp,sav_sp,E.at] using this
theorem Sq6 (w:List UInt8) (e e':E):FSpec Tryz.prog 103 [.v (.string (mk w)),.sl [[.v (.string (mk e.at)),e.sp],[.v (.string (mk e'.at)),e'.sp]]] [] (Det (.agg [.v (.string (mk [])),(E.list [.atom w,e,e']).sp])):=by
 have:=Sqb0 w [e,e'] (by simp)
 simpa only [E.scellss,scells_sp,sav_sp,E.at] using this
def P3 (pv:AV) (a b:E):Prop:=LK.sl.has pv/\pv.elems.length = 3/\pv.elems.getD 1 [] = [.v (.string (mk a.at)),a.sp]/\pv.elems.getD 2 [] = [.v (.string (mk b.at)),b.sp]
theorem P3.of (x a b:E):P3 (E.list [x,a,b]).sp a b:=⟨by simp [E.sp,has_sl],by simp [E.sp,E.scellss,elems_sl],by simp [E.sp,E.scellss,elems_sl,scells_sp],by simp [E.sp,E.scellss,elems_sl,scells_sp]⟩
def P2 (pv:AV) (a:E):Prop:=LK.sl.has pv/\pv.elems.length = 2/\pv.elems.getD 1 [] = [.v (.string (mk a.at)),a.sp]
theorem P2.of (x a:E):P2 (E.list [x,a]).sp a:=⟨by simp [E.sp,has_sl],by simp [E.sp,E.scellss,elems_sl],by simp [E.sp,E.scellss,elems_sl,scells_sp]⟩
theorem Lq96 (w:List UInt8) (g:Vl->Vl) (hg:∀c,(g c).toE = .list [.atom w,c.toE]) (l:List Hl) (hl:l.length<=1000000):∀(k i:Nat) (out:List Hl),i+k = l.length->out.length+k<=1000000 ->
  Lq3c [.sl (sAV l),.v (.string (mk w)),.v (.int .i64 (i:Int))] [.vec 4 (sAV out)] (LIs 1 [] [.vec 4 (sAV (out++inC g (l.drop i)))])
 | 0,i,out,hi,ho=>by
  refine Gq83 _ _ _ _ ?_
  have:i = l.length:=by omega
  subst this
  simp only [rq6n,↓zq,zs,hasK,sAV_len]
  exact⟨fun h=>by omega,fun _=>by simp [LIs,inC]⟩
 | k+1,i,out,hi,ho=>by
  have hlt:i < l.length:=by omega
  refine Gq83 _ _ _ _ ?_
  simp only [rq6n,↓zq,zs,hasK,zt,sAV_len,sAV_get hlt,sp_hasL4,sp_hasL]
  refine⟨fun _=>?_,fun h=>by omega⟩
  repeat refine⟨by omega,?_⟩
  refine wp_det (Sq9 _ _) ?_
  simp only [↓zq,zs,hasK,sp_hasL]
  repeat refine⟨by omega,?_⟩
  refine⟨⟨len4 _ _ _ _,by omega⟩,?_⟩
  rw [wrap_succ i (by omega)]
  have:=Lq96 w g hg l hl k (i+1) (out++[(g (l[i]).1,(l[i]).2)]) (by omega) (by simp; omega)
  rw [List.append_assoc,<-sAV_one,hg] at this
  rw [inC_drop g l hlt]
  exact this
theorem Sqfn (w:List UInt8) (g:Vl->Vl) (hg:∀c,(g c).toE = .list [.atom w,c.toE]) (l out:List Hl) (hl:out.length+l.length<=1000000) :
  FSpec Tryz.prog 102 [.sl (sAV l),.v (.string (mk w)),.vec 0] [.vec 4 (sAV out)] (DetO (.vec 1) [.dead,.vec 4 (sAV (out++inC g l))]):=by
 refine Fqgb _ _ _ ((has_sl _).mpr trivial) ?_
 simp only [tq9g,↓zq,zs,hasK]
 have h:=Lq96 w g hg l (by omega) l.length 0 out (by omega) (by omega)
 rw [List.drop_zero] at h
 refine wp_loop1 h ?_
 simp [↓zq,zs,hasK,DetO]
theorem Lq8w (s:List UInt8) (ta:ByteArray) (tp:AV) (ht:LK.sl.has tp) (va:ByteArray) (vp:AV) (x y:Vl) (hp:P3 vp x.toE y.toE) (l:List Hl) (hl:l.length<=1000000):∀(k i:Nat) (out:List Hl),i+k = l.length->out.length+k<=1000000 ->
  Lq4v [.v (.string (mk s)),.sl (sAV l),.v (.int .i64 (i:Int))] [.cells [.v (.string ta),tp],.cells [.v (.string va),vp],.vec 4 (sAV out)] (LIs 1 [.v (.string (mk s))] [.cells [.v (.string ta),tp],.cells [.v (.string va),vp],.vec 4 (sAV (out++inC (fun c=>Vl.l (.p c y)) (l.drop i)))])
 | 0,i,out,hi,ho=>by
  refine Gqba _ _ _ _ _ _ _ _ ?_
  have:i = l.length:=by omega
  subst this
  simp only [rq6o,↓zq,zs,hasK,sAV_len,ht,sp_has,hasK,hp.1]
  exact⟨fun h=>by omega,fun _=>by simp [LIs,inC]⟩
 | k+1,i,out,hi,ho=>by
  have hlt:i < l.length:=by omega
  refine Gqba _ _ _ _ _ _ _ _ ?_
  simp only [rq6o,↓zq,zs,hasK,zt,sAV_len,sAV_get hlt,sp_hasL4,sp_hasL,sAV_get,ht,sp_has,hasK,hp.1,toNat_one,toNat_two,hp.1,hp.2.1,hp.2.2.1,hp.2.2.2]
  refine⟨fun _=>?_,fun h=>by omega⟩
  repeat refine⟨by omega,?_⟩
  refine wp_det (Sq6 _ _ _) ?_
  simp only [↓zq,zs,hasK,sp_hasL]
  repeat refine⟨by omega,?_⟩
  refine wp_det (Sq9 [108] (E.list [.atom [112],(l[i]).1.toE,y.toE])) ?_
  simp only [↓zq,zs,hasK,sp_hasL]
  repeat refine⟨by omega,?_⟩
  refine⟨⟨len4 _ _ _ _,by omega⟩,?_⟩
  rw [wrap_succ i (by omega)]
  have:=Lq8w s ta tp ht va vp x y hp l hl k (i+1) (out++[((fun c=>Vl.l (.p c y)) (l[i]).1,(l[i]).2)]) (by omega) (by simp; omega)
  rw [List.append_assoc,<-sAV_one] at this
  rw [inC_drop (fun c=>Vl.l (.p c y)) l hlt]
  exact this
theorem Lqdy (va:ByteArray) (vp:AV) (x y:Vl) (hp:P3 vp x.toE y.toE) (l:List Hl) (hl:l.length<=1000000):∀(k i:Nat) (out:List Hl),i+k = l.length->out.length+k<=1000000 ->
  Lq3b [.sl (sAV l),.v (.int .i64 (i:Int))] [.cells [.v (.string va),vp],.vec 4 (sAV out)] (LIs 1 [] [.vec 4 (sAV (out++inC (fun c=>Vl.r (.p x c)) (l.drop i)))])
 | 0,i,out,hi,ho=>by
  refine Gqev _ _ _ _ _ ?_
  have:i = l.length:=by omega
  subst this
  simp only [rq3z,↓zq,zs,hasK,sAV_len,sp_has,hasK,hp.1]
  exact⟨fun h=>by omega,fun _=>by simp [LIs,inC]⟩
 | k+1,i,out,hi,ho=>by
  have hlt:i < l.length:=by omega
  refine Gqev _ _ _ _ _ ?_
  simp only [rq3z,↓zq,zs,hasK,zt,sAV_len,sAV_get hlt,sp_hasL4,sp_hasL,sAV_get,sp_has,hasK,hp.1,toNat_one,toNat_two,hp.1,hp.2.1,hp.2.2.1,hp.2.2.2]
  refine⟨fun _=>?_,fun h=>by omega⟩
  repeat refine⟨by omega,?_⟩
  refine wp_det (Sq6 _ _ _) ?_
  simp only [↓zq,zs,hasK,sp_hasL]
  repeat refine⟨by omega,?_⟩
  refine wp_det (Sq9 [114] (E.list [.atom [112],x.toE,(l[i]).1.toE])) ?_
  simp only [↓zq,zs,hasK,sp_hasL]
  repeat refine⟨by omega,?_⟩
  refine⟨⟨len4 _ _ _ _,by omega⟩,?_⟩
  rw [wrap_succ i (by omega)]
  have:=Lqdy va vp x y hp l hl k (i+1) (out++[((fun c=>Vl.r (.p x c)) (l[i]).1,(l[i]).2)]) (by omega) (by simp; omega)
  rw [List.append_assoc,<-sAV_one] at this
  rw [inC_drop (fun c=>Vl.r (.p x c)) l hlt]
  exact this
theorem Lqdv (s s2:List UInt8) (ta:ByteArray) (tp:AV) (ht:LK.sl.has tp) (va:ByteArray) (vp:AV) (hp:LK.sl.has vp) (l:List Hl) (hl:l.length<=1000000):∀(k i:Nat) (out:List Hl),i+k = l.length->out.length+k<=1000000 ->
  Lq3m [.v (.string (mk s)),.v (.string (mk s2)),.sl (sAV l),.v (.int .i64 (i:Int))] [.cells [.v (.string ta),tp],.cells [.v (.string va),vp],.vec 4 (sAV out)] (LIs 1 [.v (.string (mk s)),.v (.string (mk s2))] [.cells [.v (.string ta),tp],.cells [.v (.string va),vp],.vec 4 (sAV (out++inC (fun c=>Vl.f (.l c)) (l.drop i)))])
 | 0,i,out,hi,ho=>by
  refine Gq81 _ _ _ _ _ _ _ _ _ ?_
  have:i = l.length:=by omega
  subst this
  simp only [rq4n,↓zq,zs,hasK,sAV_len,ht,sp_has,hasK,hp]
  exact⟨fun h=>by omega,fun _=>by simp [LIs,inC]⟩
 | k+1,i,out,hi,ho=>by
  have hlt:i < l.length:=by omega
  refine Gq81 _ _ _ _ _ _ _ _ _ ?_
  simp only [rq4n,↓zq,zs,hasK,zt,sAV_len,sAV_get hlt,sp_hasL4,sp_hasL,sAV_get,ht,sp_has,hasK,hp]
  refine⟨fun _=>?_,fun h=>by omega⟩
  repeat refine⟨by omega,?_⟩
  refine wp_det (Sq9 _ _) ?_
  simp only [↓zq,zs,hasK,sp_hasL]
  repeat refine⟨by omega,?_⟩
  refine wp_det (Sq9 [102] (E.list [.atom [108],(l[i]).1.toE])) ?_
  simp only [↓zq,zs,hasK,sp_hasL]
  repeat refine⟨by omega,?_⟩
  refine⟨⟨len4 _ _ _ _,by omega⟩,?_⟩
  rw [wrap_succ i (by omega)]
  have:=Lqdv s s2 ta tp ht va vp hp l hl k (i+1) (out++[((fun c=>Vl.f (.l c)) (l[i]).1,(l[i]).2)]) (by omega) (by simp; omega)
  rw [List.append_assoc,<-sAV_one] at this
  rw [inC_drop (fun c=>Vl.f (.l c)) l hlt]
  exact this
theorem Lqc7 (s:List UInt8) (L:AV) (q:Nat) (kc:Vl) (kv:Vl) (hL:LK.sl.has L) (hq:q < L.elems.length) (hg:L.elems.getD q [] = [.v (.string (mk kc.toE.at)),kc.toE.sp,.v (.string (mk kv.toE.at)),kv.toE.sp]) (ta:ByteArray) (tp:AV) (ht:LK.sl.has tp) (l:List Hl) (hl:l.length<=1000000):∀(k i:Nat) (out:List Hl),i+k = l.length->out.length+k<=1000000 ->
  Lq71 [.v (.string (mk s)),L,.v (.int .i64 (q:Int)),.sl (sAV l),.v (.int .i64 (i:Int))] [.cells [.v (.string ta),tp],.vec 4 (sAV out)] (LIs 1 [.v (.string (mk s)),L,.v (.int .i64 (q:Int))] [.cells [.v (.string ta),tp],.vec 4 (sAV (out++inC (fun c=>Vl.f (.r (.p kc c))) (l.drop i)))])
 | 0,i,out,hi,ho=>by
  refine Gq7q _ _ _ _ _ _ _ _ ?_
  have:i = l.length:=by omega
  subst this
  simp only [rq56,↓zq,zs,hasK,sAV_len,ht,sp_has,hasK,hL]
  exact⟨fun h=>by omega,fun _=>by simp [LIs,inC]⟩
 | k+1,i,out,hi,ho=>by
  have hlt:i < l.length:=by omega
  refine Gq7q _ _ _ _ _ _ _ _ ?_
  simp only [rq56,↓zq,zs,hasK,zt,sAV_len,sAV_get hlt,sp_hasL4,sp_hasL,sAV_get,ht,sp_has,hasK,hL,hg]
  refine⟨fun _=>?_,fun h=>by omega⟩
  repeat refine⟨by omega,?_⟩
  refine wp_det (Sq6 _ _ _) ?_
  simp only [↓zq,zs,hasK,sp_hasL]
  repeat refine⟨by omega,?_⟩
  refine wp_det (Sq9 [114] (E.list [.atom [112],kc.toE,(l[i]).1.toE])) ?_
  simp only [↓zq,zs,hasK,sp_hasL]
  repeat refine⟨by omega,?_⟩
  refine wp_det (Sq9 [102] (E.list [.atom [114],E.list [.atom [112],kc.toE,(l[i]).1.toE]])) ?_
  simp only [↓zq,zs,hasK,sp_hasL]
  repeat refine⟨by omega,?_⟩
  refine⟨⟨len4 _ _ _ _,by omega⟩,?_⟩
  rw [wrap_succ i (by omega)]
  have:=Lqc7 s L q kc kv hL hq hg ta tp ht l hl k (i+1) (out++[((fun c=>Vl.f (.r (.p kc c))) (l[i]).1,(l[i]).2)]) (by omega) (by simp; omega)
  rw [List.append_assoc,<-sAV_one] at this
  rw [inC_drop (fun c=>Vl.f (.r (.p kc c))) l hlt]
  exact this
theorem Lqa3 (s:List UInt8) (te:E) (a:Ty) (tg:Tg) (l:List Hl) (hl:l.length<=1000000) (ih:∀h,h∈l->FSpec Tryz.prog 72 [.agg [.v (.string (mk te.at)),te.sp],.v (.string (mk s)),.agg [.v (.string (mk h.2.toE.at)),h.2.toE.sp]] [] (Det (.sl (sAV (holes (.rc a) tg h.2))))) :
  ∀(k i:Nat) (out:List Hl),i+k = l.length->(out++(l.drop i).flatMap (chn a tg)).length<=1000000 ->
  Lq35 [.v (.string (mk s)),.sl (sAV l),.v (.int .i64 (i:Int))] [.cells [.v (.string (mk te.at)),te.sp],.vec 4 (sAV out)] (LIs 1 [] [.vec 4 (sAV (out++(l.drop i).flatMap (chn a tg)))])
 | 0,i,out,hi,ho=>by
  refine Gq9w _ _ _ _ _ _ ?_
  have:i = l.length:=by omega
  subst this
  simp only [rq32,↓zq,zs,hasK,sAV_len,sp_has,hasK]
  exact⟨fun h=>by omega,fun _=>by simp [LIs]⟩
 | k+1,i,out,hi,ho=>by
  have hlt:i < l.length:=by omega
  have hd:(l.drop i).flatMap (chn a tg) = chn a tg (l[i])++(l.drop (i+1)).flatMap (chn a tg):=by rw [List.drop_eq_getElem_cons hlt,List.flatMap_cons]
  rw [hd] at ho |-
  refine Gq9w _ _ _ _ _ _ ?_
  simp only [rq32,↓zq,zs,hasK,zt,sAV_len,sAV_get hlt,sp_hasL4,sp_hasL,sp_has,hasK]
  refine⟨fun _=>?_,fun h=>by omega⟩
  repeat refine⟨by omega,?_⟩
  refine wp_det (ih _ (hl_eta l hlt)) ?_
  simp only [↓zq,zs,hasK]
  have hb:out.length+(holes (.rc a) tg (l[i]).2).length<=1000000:=by
   simp only [List.length_append,inC_len] at ho; omega
  have h5:=Lqc7 s (.sl (sAV l)) i (l[i]).1 (l[i]).2 ((has_sl _).mpr trivial) (by rw [elems_sl,sAV_len]; omega) (by rw [elems_sl,sAV_get hlt]) (mk te.at) te.sp ((sp_has _).mpr trivial) (holes (.rc a) tg (l[i]).2) (by omega) (holes (.rc a) tg (l[i]).2).length 0 out (by omega) (by omega)
  rw [List.drop_zero] at h5
  refine wp_loop1 h5 ?_
  simp only [↓zq,zs,hasK,sp_has,hasK]
  repeat refine⟨by omega,?_⟩
  rw [wrap_succ i (by omega),<-List.append_assoc]
  exact Lqa3 s te a tg l hl ih k (i+1) _ (by omega) (by rw [List.append_assoc]; exact ho)
end Go.Proofs.Trees
namespace Go.Proofs.Trees
open Go Go.VL Go.RowKit
def kids (a:Ty):Vl->List Hl
 | .f w=>holes a (.bd 0) w
 | _=>[]
theorem kids_nsum (a:Ty) (v:Vl):nsum (kids a v)+1<=v.nodes:=by
 cases v with
 | f w=>have:=holes_nsum a (.bd 0) w; simp only [kids,Vl.nodes]; omega
 | _=>simp only [kids,nsum,Vl.nodes,List.map_nil,List.sum_nil]; omega
theorem kids_sz {a:Ty} {v:Vl} {h:Hl} (hh:h∈kids a v):h.2.nodes < v.nodes:=by
 cases v with
 | f w=>have:=(holes_sz hh).1; simp only [Vl.nodes]; omega
 | _=>cases hh
theorem kids_bel {n:Nat} {a:Ty} {v:Vl} {h:Hl} (hv:v.bel n) (hh:h∈kids a v):h.1.bel n/\h.2.bel n:=by
 cases v with
 | f w=>exact holes_bel n _ _ _ w h hv hh
 | _=>cases hh
end Go.Proofs.Trees
namespace Go.Proofs.Trees
open Go Go.VL
mutual
def E.pr:E->Prop
 | .atom s=>s≠[]/\s.all isA = true
 | .list l=>l≠[]/\E.prs l
def E.prs:List E->Prop
 | []=>True
 | e::l=>e.pr/\E.prs l
end
mutual
def E.dp:E->Nat
 | .atom _=>0
 | .list l=>1+E.dps l
def E.dps:List E->Nat
 | []=>0
 | e::l=>max e.dp (E.dps l)
end
def stp (r:List UInt8):Prop:=∀c t,r = c::t->isA c = false
theorem stp_nil:stp []:=by intro c t h; cases h
theorem tw_app {s r:List UInt8} (hs:s.all isA = true) (hr:stp r):(s++r).takeWhile isA = s/\(s++r).dropWhile isA = r:=by
 induction s with
 | nil =>
  cases r with
  | nil=>exact⟨rfl,rfl⟩
  | cons c t=>have:=hr c t rfl; simp [List.takeWhile,List.dropWhile,this]
 | cons c s ih =>
  simp only [List.all_cons,Bool.and_eq_true] at hs
  have:=ih hs.2
  simp [List.takeWhile,List.dropWhile,hs.1,this.1,this.2]
theorem stp_txEs (l:List E) (r:List UInt8):stp (txEs l++41::r):=by
 intro c t h
 cases l with
 | nil=>simp only [txEs,List.nil_append,List.cons.injEq] at h; rw [<-h.1]; decide
 | cons e l=>simp only [txEs,List.cons_append,List.cons.injEq] at h; rw [<-h.1]; decide
theorem rdL_tx {f:List UInt8->Option (E×List UInt8)} (r:List UInt8):∀(l:List E) (e:E) (acc:List E) (n:Nat),l.length < n->(∀x,x = e\/x∈l->∀r,stp r->f (txE x++r) = some (x,r)) ->
  rdL f n (txE e++(txEs l++41::r)) acc = some (.list (acc++e::l),r)
 | l,e,acc,0,hn,hf=>by omega
 | [],e,acc,n+1,hn,hf=>by
  simp only [rdL]
  rw [hf e (.inl rfl) _ (stp_txEs [] r)]
  simp [txEs]
 | x::l,e,acc,n+1,hn,hf=>by
  simp only [rdL]
  rw [hf e (.inl rfl) _ (stp_txEs (x::l) r)]
  simp only [List.length_cons] at hn
  have ih:=rdL_tx r l x (acc++[e]) n (by omega) (fun y hy=>hf y (.inr (by cases hy with | inl h=>rw [h]; exact List.mem_cons_self | inr h=>exact List.mem_cons_of_mem _ h)))
  simp only [List.append_assoc,List.cons_append,List.nil_append] at ih
  simp only [txEs,List.cons_append,List.append_assoc]
  simp [ih]
theorem prs_mem {l:List E} {k:Nat}:E.prs l->E.dps l<=k->∀x,x∈l->x.pr/\x.dp<=k:=by
 induction l with
 | nil=>intro _ _ x h; cases h
 | cons e l ih =>
  intro h hd x hx
  simp only [E.prs,E.dps] at h hd
  cases hx with
  | head=>exact⟨h.1,by omega⟩
  | tail _ hx=>exact ih h.2 (by omega) x hx
theorem rd_tx:∀(k:Nat) (e:E) (r:List UInt8),e.pr->e.dp<=k->stp r->rd k (txE e++r) = some (e,r)
 | 0,.atom s,r,hp,hd,hr=>by
  have h:=tw_app hp.2 hr
  simp only [txE,rd,h.1,h.2,hp.1,if_false]
 | k+1,.atom s,r,hp,hd,hr=>by
  have h:=tw_app hp.2 hr
  simp only [txE,rd,h.1,h.2,hp.1,if_false]
 | 0,.list l,r,hp,hd,hr=>by simp only [E.dp] at hd; omega
 | k+1,.list [],r,hp,hd,hr=>by exact absurd rfl hp.1
 | k+1,.list (e::l),r,hp,hd,hr=>by
  have hs:isA 40 = false:=by decide
  simp only [E.dp,E.pr] at hd hp
  have hm:=prs_mem (k:=k) hp.2 (by omega)
  have:=rdL_tx (f:=rd k) r l e [] ((txE e++(txEs l++41::r)).length+1) (by have:=txEs_len l; simp only [List.length_append,List.length_cons]; omega)
   (fun x hx r hr=>rd_tx k x r (hm x (by cases hx with | inl h=>rw [h]; exact List.mem_cons_self | inr h=>exact List.mem_cons_of_mem _ h)).1 (hm x (by cases hx with | inl h=>rw [h]; exact List.mem_cons_self | inr h=>exact List.mem_cons_of_mem _ h)).2 hr)
  simp only [txE,List.cons_append,List.append_assoc,List.nil_append] at *
  simp only [rd,List.takeWhile,hs,if_true]
  simpa using this
theorem tx_inj {e e':E} (h:e.pr) (h':e'.pr) (ht:txE e = txE e'):e = e':=by
 have a:=rd_tx (max e.dp e'.dp) e [] h (by omega) stp_nil
 have b:=rd_tx (max e.dp e'.dp) e' [] h' (by omega) stp_nil
 rw [ht,b] at a; cases a; rfl
theorem rdT_tx {e:E} (h:e.pr) (hd:e.dp<=300) (hl:(txE e).length<=8000):rdT (txE e) = some e:=by
 have:=rd_tx 300 e [] h hd stp_nil
 rw [List.append_nil] at this
 rw [rdT,this]; simp; omega
theorem tw_all (s : List UInt8) : (s.takeWhile isA).all isA = true := by
  induction s with
  | nil => rfl
  | cons c s ih => cases h : isA c
                   · simp [List.takeWhile, h]
                   · simp only [List.takeWhile, h, List.all_cons, ih]; rfl
theorem prs_app (l r:List E):E.prs (l++r)↔E.prs l/\E.prs r:=by
 induction l with
 | nil=>simp [E.prs]
 | cons e l ih=>simp [E.prs,ih,and_assoc]
theorem dps_app (l r:List E):E.dps (l++r) = max (E.dps l) (E.dps r):=by
 induction l with
 | nil=>simp [E.dps]
 | cons e l ih=>simp [E.dps,ih,Nat.max_assoc]
theorem rdL_was {k:Nat} {f:List UInt8->Option (E×List UInt8)} (hf:∀s e r,f s = some (e,r)->s = txE e++r/\e.pr/\e.dp<=k):∀(n:Nat) (s:List UInt8) (acc:List E) (e:E) (r:List UInt8),rdL f n s acc = some (e,r)->E.prs acc->E.dps acc<=k ->
  ∃l,e = .list (acc++l)/\l≠[]/\32::s = txEs l++41::r/\E.prs l/\E.dps l<=k
 | 0,s,acc,e,r,h,hp,hd=>by cases h
 | n+1,s,acc,e,r,h,hp,hd=>by
  simp only [rdL] at h
  split at h
  ·rename_i p c r' hs
   obtain⟨h1,h2,h3⟩:=hf _ _ _ hs
   split at h
   ·rename_i hc
    have hc:c = 41:=UInt8.toNat_inj.mp hc
    cases h
    exact⟨[p],rfl,by simp,by simp [txEs,h1,hc],⟨h2,trivial⟩,by simp [E.dps]; omega⟩
   ·split at h
    ·rename_i hc
     have hc:c = 32:=UInt8.toNat_inj.mp hc
     obtain⟨l,g1,g2,g3,g4,g5⟩:=rdL_was hf n _ _ _ _ h ((prs_app _ _).mpr ⟨hp,h2,trivial⟩) (by rw [dps_app]; simp [E.dps]; omega)
     refine⟨p::l,by simpa using g1,by simp,?_,⟨h2,g4⟩,by simp only [E.dps]; omega⟩
     rw [h1,hc,g3]; simp [txEs]
    ·cases h
  ·cases h
theorem rd_was:∀(k:Nat) (s:List UInt8) (e:E) (r:List UInt8),rd k s = some (e,r)->s = txE e++r/\e.pr/\e.dp<=k
 | 0,s,e,r,h=>by
  simp only [rd] at h
  split at h
  ·cases h
  ·rename_i hs; cases h
   exact⟨(List.takeWhile_append_dropWhile).symm,⟨hs,tw_all s⟩,Nat.le_refl _⟩
 | k+1,s,e,r,h=>by
  simp only [rd] at h
  split at h
  ·split at h
   ·rename_i c r' _
    split at h
    ·rename_i hc
     have hc:c = 40:=UInt8.toNat_inj.mp hc
     obtain⟨l,g1,g2,g3,g4,g5⟩:=rdL_was (k:=k) (fun s e r h=>rd_was k s e r h) _ _ _ _ _ h trivial (Nat.zero_le _)
     simp only [List.nil_append] at g1
     subst g1; subst hc
     refine⟨?_,⟨g2,g4⟩,by simp only [E.dp]; omega⟩
     cases l with
     | nil=>exact absurd rfl g2
     | cons x l =>
      simp only [txEs,List.cons_append,List.append_assoc,List.cons.injEq,true_and] at g3
      rw [g3]; simp [txE]
    ·cases h
   ·cases h
  ·rename_i hs; cases h
   exact⟨(List.takeWhile_append_dropWhile).symm,⟨hs,tw_all s⟩,by simp [E.dp]⟩
theorem rdT_was {s:List UInt8} {e:E} (h:rdT s = some e):s = txE e/\e.pr/\e.dp<=300/\s.length<=8000:=by
 unfold rdT at h
 split at h
 ·cases h
 ·rename_i hl
  split at h
  ·rename_i e' hr
   cases h
   have:=rd_was _ _ _ _ hr
   exact⟨by simpa using this.1,this.2.1,this.2.2,by omega⟩
  ·cases h
theorem isA_dg {k:Nat} (h:k < 10):isA (UInt8.ofNat (48+k)) = true:=by
 have:∀k:Fin 10,isA (UInt8.ofNat (48+k.val)) = true:=by decide
 exact this ⟨k,h⟩
theorem dd_isA:∀(n k:Nat),k < n->(dd k).all isA = true
 | 0,k,h=>by omega
 | n+1,k,h=>by
  by_cases hk:k < 10
  ·rw [dd_one hk,List.all_cons,isA_dg hk]; rfl
  ·rw [dd_more hk]
   have:=dd_isA n (k / 10) (by omega)
   rw [List.all_append,this,List.all_cons,isA_dg (Nat.mod_lt k (by omega:0 < 10))]; rfl
theorem elS_pr (k:Nat):(E.atom (elS k)).pr:=⟨by simp,by have:=dd_isA (k+1) k (by omega); simp only [elS,List.all_cons,this]; decide⟩
theorem toE_pr:∀v:Vl,v.toE.pr
 | .u=>⟨by simp,by decide⟩
 | .el k=>elS_pr k
 | .l v=>⟨by simp,⟨by simp,by decide⟩,toE_pr v,trivial⟩
 | .r v=>⟨by simp,⟨by simp,by decide⟩,toE_pr v,trivial⟩
 | .f v=>⟨by simp,⟨by simp,by decide⟩,toE_pr v,trivial⟩
 | .p a b=>⟨by simp,⟨by simp,by decide⟩,toE_pr a,toE_pr b,trivial⟩
theorem toE_dp:∀v:Vl,v.toE.dp < v.nodes+1
 | .u=>by simp [Vl.toE,E.dp,Vl.nodes]
 | .el k=>by simp [Vl.toE,E.dp,Vl.nodes]
 | .l v=>by have:=toE_dp v; simp only [Vl.toE,E.dp,E.dps,Vl.nodes] at *; omega
 | .r v=>by have:=toE_dp v; simp only [Vl.toE,E.dp,E.dps,Vl.nodes] at *; omega
 | .f v=>by have:=toE_dp v; simp only [Vl.toE,E.dp,E.dps,Vl.nodes] at *; omega
 | .p a b=>by have:=toE_dp a; have:=toE_dp b; simp only [Vl.toE,E.dp,E.dps,Vl.nodes] at *; omega
theorem dd_len2 (k:Nat) (h:k < 100):(dd k).length<=2:=by
 by_cases hk:k < 10
 ·rw [dd_one hk]; simp
 ·rw [dd_more hk,dd_one (by omega:k / 10 < 10)]; simp
theorem txt_len5:∀v:Vl,v.bel 100->v.txt.length<=5*v.nodes
 | .u,_=>by simp [Vl.txt,Vl.toE,txE,Vl.nodes]
 | .el k,h=>by
  have:=dd_len2 k h
  simp only [Vl.txt,Vl.toE,txE,Vl.nodes,List.length_cons]; omega
 | .l v,h=>by have:=txt_len5 v h; simp only [Vl.txt,Vl.toE,txE,txEs,Vl.nodes,List.length_cons,List.length_append,List.length_nil] at this |-; omega
 | .r v,h=>by have:=txt_len5 v h; simp only [Vl.txt,Vl.toE,txE,txEs,Vl.nodes,List.length_cons,List.length_append,List.length_nil] at this |-; omega
 | .f v,h=>by have:=txt_len5 v h; simp only [Vl.txt,Vl.toE,txE,txEs,Vl.nodes,List.length_cons,List.length_append,List.length_nil] at this |-; omega
 | .p a b,h=>by have:=txt_len5 a h.1; have:=txt_len5 b h.2; simp only [Vl.txt,Vl.toE,txE,txEs,Vl.nodes,List.length_cons,List.length_append,List.length_nil] at *; omega
theorem elS_ne (k:Nat):elS k≠[117]:=by simp [elS]
theorem vlOf_of:∀v:Vl,v.bel 100->vlOf v.toE = some v
 | .u,_=>by simp [Vl.toE,vlOf]
 | .el k,h=>by simp only [Vl.toE,vlOf,elS_ne,if_false,elNum_of k h]
 | .l v,h=>by simp only [Vl.toE,vlOf,vlOf_of v h,E.at]; simp
 | .r v,h=>by simp only [Vl.toE,vlOf,vlOf_of v h,E.at]; simp
 | .f v,h=>by simp only [Vl.toE,vlOf,vlOf_of v h,E.at]; simp
 | .p a b,h=>by simp only [Vl.toE,vlOf,vlOf_of a h.1,vlOf_of b h.2,E.at]; simp
theorem rdV_txt {v:Vl} (h:v.bel 100) (hn:v.nodes<=200):rdV v.txt = some v:=by
 have hd:=toE_dp v
 have hl:=txt_len5 v h
 rw [rdV,rdT_tx (toE_pr v) (by omega) (by show v.txt.length<=8000; omega)]
 simp only [vlOf_of v h]
 rw [if_neg (by omega)]
theorem txt_inj {v w:Vl} (h:v.bel 100) (h':w.bel 100) (ht:v.txt = w.txt):v = w:=by
 have:=tx_inj (toE_pr v) (toE_pr w) ht
 have a:=vlOf_of v h
 rw [this,vlOf_of w h'] at a; cases a; rfl
theorem rdV_was {s:List UInt8} {v:Vl} (h:rdV s = some v):s = v.txt:=(rdT_was (rdV_ok h).1).1
end Go.Proofs.Trees
namespace Go.Proofs.Trees
open Go Go.VL Go.RowKit
theorem at_list (l:List E):(E.list l).at = []:=rfl
def plug:Ty->Vl->Vl->Vl
 | .plus a _,.l c,v=>.l (plug a c v)
 | .plus _ b,.r c,v=>.r (plug b c v)
 | .times a _,.l (.p x y),v=>.p (plug a x v) y
 | .times _ b,.r (.p x y),v=>.p x (plug b y v)
 | .rc a,.f (.l x),v=>.f (plug a x v)
 | .rc a,.f (.r (.p x y)),v=>.f (plug a x (plug (.rc a) y v))
 | _,_,v=>v
def ctxOk:Ty->Vl->Bool
 | .plus a _,.l c=>ctxOk a c
 | .plus _ b,.r c=>ctxOk b c
 | .times a _,.l (.p x _)=>ctxOk a x
 | .times _ b,.r (.p _ y)=>ctxOk b y
 | .rc a,.f (.l x)=>ctxOk a x
 | .rc a,.f (.r (.p x y))=>ctxOk a x&&ctxOk (.rc a) y
 | .plus _ _,_=>false
 | .times _ _,_=>false
 | .rc _,_=>false
 | _,_=>true
theorem plug_zero (c v:Vl):plug .zero c v = v:=by cases c<;>rfl
theorem plug_one (c v:Vl):plug .one c v = v:=by cases c<;>rfl
theorem plug_name (s:List UInt8) (c v:Vl):plug (.name s) c v = v:=by cases c<;>rfl
theorem plug_bound (u:Nat) (c v:Vl):plug (.bound u) c v = v:=by cases c<;>rfl
theorem ctx_plus {a b:Ty} {c:Vl} (h:ctxOk (.plus a b) c = true):(∃x,c = .l x/\ctxOk a x = true)\/∃x,c = .r x/\ctxOk b x = true:=by
 cases c<;>simp [ctxOk] at h<;>simp [h]
theorem ctx_times {a b:Ty} {c:Vl} (h:ctxOk (.times a b) c = true):(∃x y,c = .l (.p x y)/\ctxOk a x = true)\/∃x y,c = .r (.p x y)/\ctxOk b y = true:=by
 cases c with
 | l c=>cases c<;>simp [ctxOk] at h<;>simp [h]
 | r c=>cases c<;>simp [ctxOk] at h<;>exact .inr ⟨_,_,rfl,h⟩
 | _=>simp [ctxOk] at h
theorem ctx_rc {a:Ty} {c:Vl} (h:ctxOk (.rc a) c = true):(∃x,c = .f (.l x)/\ctxOk a x = true)\/∃x y,c = .f (.r (.p x y))/\ctxOk a x = true/\ctxOk (.rc a) y = true:=by
 cases c with
 | f c =>
  cases c with
  | l c=>simp [ctxOk] at h; simp [h]
  | r c=>cases c<;>simp [ctxOk] at h<;>exact .inr ⟨_,_,rfl,h⟩
  | _=>simp [ctxOk] at h
 | _=>simp [ctxOk] at h
theorem plug_nodes (t:Ty) (c v:Vl):(plug t c v).nodes<=c.nodes+v.nodes:=by
 induction t,c,v using plug.induct<;>simp only [plug,Vl.nodes] at*<;> omega
theorem plug_bel (m:Nat) (t:Ty) (c v:Vl):c.bel m->v.bel m->(plug t c v).bel m:=by
 induction t,c,v using plug.induct with
 | case1 a b c v ih=>exact fun h h'=>ih h h'
 | case2 a b c v ih=>exact fun h h'=>ih h h'
 | case3 a b x y v ih=>exact fun h h'=>⟨ih h.1 h',h.2⟩
 | case4 a b x y v ih=>exact fun h h'=>⟨h.1,ih h.2 h'⟩
 | case5 a x v ih=>exact fun h h'=>ih h h'
 | case6 a x y v ih1 ih2=>exact fun h h'=>ih2 h.1 (ih1 h.2 h')
 | case7=>intro h h'; simpa only [plug] using h'
def hl0:Hl:=(.u,.u)
end Go.Proofs.Trees
namespace Go.Proofs.Trees
open Go Go.VL Go.RowKit
theorem Sq0 (s:Nm) (a b:E):FSpec Tryz.prog 96 [.agg [.v (.string (mk [])),(E.list [.atom s,a,b]).sp]] [] (Det (.v (.string (mk s)))):=Sq2 (.atom s) [a,b]
theorem Sq2r {e:E} (h:Wf e):∀(bd l:List Nm) (a:AV),StrsA a bd->bd.length+l.length+e.sz < 100000->FSpec Tryz.prog 135 [.agg [.v (.string (mk e.at)),e.sp],a,.vec 0] [.vec 1 (strsAV l)] (DetO (.vec 1) [.dead,.vec 1 (strsAV (fre e bd l))]):=by
 induction h with
 | @atom s hs =>
  intro bd l a ha hl
  simp only [E.sz] at hl
  refine Fq1j _ _ _ _ ((sp_has _).mpr trivial) ha.1 ?_
  have hll:(strsAV l).length = l.length:=by simp [strsAV]
  simp only [tqy,at_atom',↓zq,zs,hasK,zt,DetO,fre]
  refine⟨fun _=>⟨fun h=>?_,fun h=>⟨fun h1=>?_,fun h1=>?_⟩⟩,fun h=>absurd h hs⟩
  ·rw [if_pos (.inl h)]
  ·rw [if_pos (.inr (.inl h1))]
  ·refine wp_det (Sq1b bd a ha s (by omega)) ?_
   simp only [↓zq,zs,hasK]
   refine⟨fun h2=>?_,fun h2=>wp_det (Sq1b l _ (.of l) s (by omega)) ?_⟩
   ·rw [if_pos (.inr (.inr (.inl h2)))]
   ·simp only [↓zq,zs,hasK]
    refine⟨fun h3=>?_,fun h3=>⟨⟨fun c hc=>(by simp at hc; rw [hc]; rfl),by omega⟩,?_⟩⟩
    ·rw [if_pos (.inr (.inr (.inr h3)))]
    ·rw [Sq14,if_neg]
     rintro(q | q | q | q)
     ·exact h q
     ·exact h1 q
     ·exact h2 q
     ·exact h3 q
 | @plus x y hx hy i1 i2 =>
  intro bd l a ha hl
  simp only [E.sz,E.szs] at hl
  have hfl:=fre_len x bd l
  refine Fq1j _ _ _ _ ((sp_has _).mpr trivial) ha.1 ?_
  have hP:=P3.of (.atom [43]) x y
  simp only [tqy,at_list,toNat_one,toNat_two,↓zq,zs,hasK,zt,hP.1,hP.2.1,hP.2.2.1,hP.2.2.2,sp_hasL,DetO]
  refine⟨fun h=>absurd rfl h,fun _=>?_⟩
  refine wp_det (Sq0 [43] x y) ?_
  simp only [↓zq,zs,hasK,zt]
  refine⟨fun h=>by simp at h,fun _=>?_⟩
  repeat refine⟨by omega,?_⟩
  refine wp_detO (i1 bd l a ha (by omega)) ?_
  simp only [↓zq,zs,hasK,zt,List.headD_cons,List.tail_cons,Ob.es]
  repeat refine⟨by omega,?_⟩
  refine wp_detO (i2 bd (fre x bd l) a ha (by omega)) ?_
  simp only [↓zq,zs,hasK,zt,List.headD_cons,List.tail_cons,Ob.es]
  rw [fre,if_neg (by decide)]
 | @times x y hx hy i1 i2 =>
  intro bd l a ha hl
  simp only [E.sz,E.szs] at hl
  have hfl:=fre_len x bd l
  refine Fq1j _ _ _ _ ((sp_has _).mpr trivial) ha.1 ?_
  have hP:=P3.of (.atom [42]) x y
  simp only [tqy,at_list,toNat_one,toNat_two,↓zq,zs,hasK,zt,hP.1,hP.2.1,hP.2.2.1,hP.2.2.2,sp_hasL,DetO]
  refine⟨fun h=>absurd rfl h,fun _=>?_⟩
  refine wp_det (Sq0 [42] x y) ?_
  simp only [↓zq,zs,hasK,zt]
  refine⟨fun h=>by simp at h,fun _=>?_⟩
  repeat refine⟨by omega,?_⟩
  refine wp_detO (i1 bd l a ha (by omega)) ?_
  simp only [↓zq,zs,hasK,zt,List.headD_cons,List.tail_cons,Ob.es]
  repeat refine⟨by omega,?_⟩
  refine wp_detO (i2 bd (fre x bd l) a ha (by omega)) ?_
  simp only [↓zq,zs,hasK,zt,List.headD_cons,List.tail_cons,Ob.es]
  rw [fre,if_neg (by decide)]
 | @rc n y hn hy i =>
  intro bd l a ha hl
  simp only [E.sz,E.szs] at hl
  refine Fq1j _ _ _ _ ((sp_has _).mpr trivial) ha.1 ?_
  have hP:=P3.of (.atom recN) (.atom n) y
  simp only [tqy,at_list,toNat_one,toNat_two,↓zq,zs,hasK,zt,hP.1,hP.2.1,hP.2.2.1,hP.2.2.2,sp_hasL,DetO]
  refine⟨fun h=>absurd rfl h,fun _=>?_⟩
  refine wp_det (Sq0 recN (.atom n) y) ?_
  simp only [↓zq,zs,hasK,zt]
  refine⟨fun _=>?_,fun h=>absurd rfl h⟩
  repeat refine⟨by omega,?_⟩
  refine wp_det (Sq2a bd a ha n (by omega)) ?_
  simp only [↓zq,zs,hasK]
  refine wp_detO (i (bd++[n]) l _ (.of _) (by simp; omega)) ?_
  simp only [↓zq,zs,hasK,List.headD_cons,List.tail_cons,Ob.es]
  rw [fre,if_pos (at_atom' _)]; rfl
theorem Sqh5 (x:Nm) (u:E) {e:E} (h:Wf e):FSpec Tryz.prog 200 [.agg [.v (.string (mk e.at)),e.sp],.v (.string (mk x)),.agg [.v (.string (mk u.at)),u.sp]] [] (Det (.agg [.v (.string (mk (ptE x u e).at)),(ptE x u e).sp])):=by
 induction h with
 | @atom s hs =>
  refine Fq2d _ _ _ _ _ ((sp_has _).mpr trivial) ((sp_has _).mpr trivial) ?_
  simp only [tq1m,at_atom',↓zq,zs,hasK,zt,Det,ptE]
  refine⟨fun _=>⟨fun h=>?_,fun h=>?_⟩,fun h=>absurd h hs⟩
  ·rw [if_pos h]
  ·rw [if_neg h]; rfl
 | @plus a b ha hb i1 i2 =>
  refine Fq2d _ _ _ _ _ ((sp_has _).mpr trivial) ((sp_has _).mpr trivial) ?_
  have hP:=P3.of (.atom [43]) a b
  simp only [tq1m,at_list,toNat_one,toNat_two,↓zq,zs,hasK,zt,hP.1,hP.2.1,hP.2.2.1,hP.2.2.2,sp_hasL]
  refine⟨fun h=>absurd rfl h,fun _=>?_⟩
  refine wp_det (Sq0 [43] a b) ?_
  simp only [↓zq,zs,hasK,zt]
  refine⟨fun h=>by simp at h,fun _=>?_⟩
  refine wp_det (Sq0 [43] a b) ?_
  simp only [↓zq,zs,hasK,zt]
  repeat refine⟨by omega,?_⟩
  refine wp_det i1 ?_
  simp only [↓zq,zs,hasK,zt,sp_hasL]
  repeat refine⟨by omega,?_⟩
  refine wp_det i2 ?_
  simp only [↓zq,zs,hasK,zt,sp_hasL]
  repeat refine⟨by omega,?_⟩
  refine wp_det (Sq6 _ _ _) ?_
  simp only [↓zq,zs,hasK,zt,sp_hasL,ptE_plus,at_list]
  repeat refine⟨by omega,?_⟩
  exact⟨rfl,rfl⟩
 | @times a b ha hb i1 i2 =>
  refine Fq2d _ _ _ _ _ ((sp_has _).mpr trivial) ((sp_has _).mpr trivial) ?_
  have hP:=P3.of (.atom [42]) a b
  simp only [tq1m,at_list,toNat_one,toNat_two,↓zq,zs,hasK,zt,hP.1,hP.2.1,hP.2.2.1,hP.2.2.2,sp_hasL]
  refine⟨fun h=>absurd rfl h,fun _=>?_⟩
  refine wp_det (Sq0 [42] a b) ?_
  simp only [↓zq,zs,hasK,zt]
  refine⟨fun h=>by simp at h,fun _=>?_⟩
  refine wp_det (Sq0 [42] a b) ?_
  simp only [↓zq,zs,hasK,zt]
  repeat refine⟨by omega,?_⟩
  refine wp_det i1 ?_
  simp only [↓zq,zs,hasK,zt,sp_hasL]
  repeat refine⟨by omega,?_⟩
  refine wp_det i2 ?_
  simp only [↓zq,zs,hasK,zt,sp_hasL]
  repeat refine⟨by omega,?_⟩
  refine wp_det (Sq6 _ _ _) ?_
  simp only [↓zq,zs,hasK,zt,sp_hasL,ptE_times,at_list]
  repeat refine⟨by omega,?_⟩
  exact⟨rfl,rfl⟩
 | @rc n b hn hb i =>
  refine Fq2d _ _ _ _ _ ((sp_has _).mpr trivial) ((sp_has _).mpr trivial) ?_
  have hP:=P3.of (.atom recN) (.atom n) b
  simp only [tq1m,at_list,toNat_one,toNat_two,↓zq,zs,hasK,zt,hP.1,hP.2.1,hP.2.2.1,hP.2.2.2,sp_hasL]
  refine⟨fun h=>absurd rfl h,fun _=>?_⟩
  refine wp_det (Sq0 recN (.atom n) b) ?_
  simp only [↓zq,zs,hasK,zt]
  refine⟨fun _=>?_,fun h=>absurd rfl h⟩
  repeat refine⟨by omega,?_⟩
  rw [ptE_rc]
  refine⟨fun h=>?_,fun h=>?_⟩
  ·have hh:n = x:=h
   rw [if_pos hh]; exact⟨rfl,rfl⟩
  ·have hh:¬ n = x:=h
   rw [if_neg hh]
   repeat refine⟨by omega,?_⟩
   refine wp_det i ?_
   simp only [↓zq,zs,hasK,zt,sp_hasL]
   repeat refine⟨by omega,?_⟩
   refine wp_det (Sq6 recN (.atom n) (ptE x u b)) ?_
   simp only [↓zq,zs,hasK,zt,sp_hasL,at_list]
   repeat refine⟨by omega,?_⟩
   exact⟨rfl,rfl⟩
theorem usE_le (x:Nm) {e:E} (h:Wf e):usE x e<=e.ats:=by
 induction h with
 | atom hs=>simp only [usE,E.ats]; split<;>omega
 | plus ha hb i1 i2=>rw [usE_plus]; simp only [E.ats,E.atss]; omega
 | times ha hb i1 i2=>rw [usE_times]; simp only [E.ats,E.atss]; omega
 | rc hn hb i=>rw [usE_rc]; simp only [E.ats,E.atss]; split<;>omega
theorem Sqix (x:Nm) {e:E} (h:Wf e):e.ats < 1000000->FSpec Tryz.prog 199 [.agg [.v (.string (mk e.at)),e.sp],.v (.string (mk x))] [] (Det (.v (.int .i64 (usE x e:Int)))):=by
 induction h with
 | @atom s hs =>
  intro hl
  refine Fq26 _ _ _ ((sp_has _).mpr trivial) ?_
  simp only [tq1o,at_atom',↓zq,zs,hasK,zt,Det,usE]
  refine⟨fun _=>⟨fun h=>?_,fun h=>?_⟩,fun h=>absurd h hs⟩
  ·rw [if_pos h]; rfl
  ·rw [if_neg h]; rfl
 | @plus a b ha hb i1 i2 =>
  intro hl
  simp only [E.ats,E.atss] at hl
  have u1:=usE_le x ha
  have u2:=usE_le x hb
  refine Fq26 _ _ _ ((sp_has _).mpr trivial) ?_
  have hP:=P3.of (.atom [43]) a b
  simp only [tq1o,at_list,toNat_one,toNat_two,↓zq,zs,hasK,zt,hP.1,hP.2.1,hP.2.2.1,hP.2.2.2,sp_hasL]
  refine⟨fun h=>absurd rfl h,fun _=>?_⟩
  refine wp_det (Sq0 [43] a b) ?_
  simp only [↓zq,zs,hasK,zt]
  refine⟨fun h=>by simp at h,fun _=>?_⟩
  repeat refine⟨by omega,?_⟩
  refine wp_det (i1 (by omega)) ?_
  simp only [↓zq,zs,hasK,zt]
  repeat refine⟨by omega,?_⟩
  refine wp_det (i2 (by omega)) ?_
  simp only [↓zq,zs,hasK,zt]
  rw [usE_plus,wrap64 _ (by omega) (by omega)]
  exact⟨by simp,rfl⟩
 | @times a b ha hb i1 i2 =>
  intro hl
  simp only [E.ats,E.atss] at hl
  have u1:=usE_le x ha
  have u2:=usE_le x hb
  refine Fq26 _ _ _ ((sp_has _).mpr trivial) ?_
  have hP:=P3.of (.atom [42]) a b
  simp only [tq1o,at_list,toNat_one,toNat_two,↓zq,zs,hasK,zt,hP.1,hP.2.1,hP.2.2.1,hP.2.2.2,sp_hasL]
  refine⟨fun h=>absurd rfl h,fun _=>?_⟩
  refine wp_det (Sq0 [42] a b) ?_
  simp only [↓zq,zs,hasK,zt]
  refine⟨fun h=>by simp at h,fun _=>?_⟩
  repeat refine⟨by omega,?_⟩
  refine wp_det (i1 (by omega)) ?_
  simp only [↓zq,zs,hasK,zt]
  repeat refine⟨by omega,?_⟩
  refine wp_det (i2 (by omega)) ?_
  simp only [↓zq,zs,hasK,zt]
  rw [usE_times,wrap64 _ (by omega) (by omega)]
  exact⟨by simp,rfl⟩
 | @rc n b hn hb i =>
  intro hl
  simp only [E.ats,E.atss] at hl
  refine Fq26 _ _ _ ((sp_has _).mpr trivial) ?_
  have hP:=P3.of (.atom recN) (.atom n) b
  simp only [tq1o,at_list,toNat_one,toNat_two,↓zq,zs,hasK,zt,hP.1,hP.2.1,hP.2.2.1,hP.2.2.2,sp_hasL]
  refine⟨fun h=>absurd rfl h,fun _=>?_⟩
  refine wp_det (Sq0 recN (.atom n) b) ?_
  simp only [↓zq,zs,hasK,zt]
  refine⟨fun _=>?_,fun h=>absurd rfl h⟩
  repeat refine⟨by omega,?_⟩
  rw [usE_rc]
  refine⟨fun h=>?_,fun h=>?_⟩
  ·have hh:n = x:=h
   rw [if_pos hh]; exact⟨rfl,rfl⟩
  ·have hh:¬ n = x:=h
   rw [if_neg hh]
   repeat refine⟨by omega,?_⟩
   refine wp_det (i (by omega)) ?_
   simp only [↓zq,zs,hasK,zt]
   exact⟨rfl,rfl⟩
theorem Sqkb {x:Nm} (hx:okN x) {e u:E} (h:Wf e) (hu:Wf u) (hl:e.ats<=1000) (hlu:u.ats<=1000):FSpec Tryz.prog 181 [.agg [.v (.string (mk e.at)),e.sp],.v (.string (mk x)),.agg [.v (.string (mk u.at)),u.sp]] [] (Det (.v (.bool (decide ((sub x (tyA u []) (tyA e [])).atoms<=400))))):=by
 refine Fqgl _ _ _ _ _ ((sp_has _).mpr trivial) ((sp_has _).mpr trivial) ?_
 unfold tqb1
 have a1:=Sq10 e h.ok (by have:=h.sz; omega)
 have a2:=Sq10 u hu.ok (by have:=hu.sz; omega)
 rw [sav_sp] at a1 a2
 have hle:=usE_le x h
 have hpos:1<=u.ats:=by rw [hu.ats []]; exact atoms_pos _
 refine wp_det a1 ?_
 simp only [↓zq,zs,hasK,zt]
 refine wp_det (Sqix x h (by omega)) ?_
 simp only [↓zq,zs,hasK,zt]
 refine wp_det a2 ?_
 simp only [↓zq,zs,hasK,zt]
 have e1:=sub_atoms_eq x (tyA u []) (tyA e [])
 have e2:=usE_cnt hx h []
 rw [if_neg (by simp)] at e2
 rw [e2,<-h.ats [],<-hu.ats []] at e1
 have hm:usE x e*(u.ats - 1)<=1000*1000:=Nat.mul_le_mul (by omega) (by omega)
 have e3:(usE x e:Int)*((u.ats:Int) - 1) = ((usE x e*(u.ats - 1):Nat):Int):=by
  rw [Int.natCast_mul]; congr 1; omega
 have e4:usE x e*(u.ats - 1)+usE x e = usE x e*u.ats:=by
  rw [Nat.mul_sub,Nat.mul_one]
  have:=Nat.le_mul_of_pos_right (usE x e) hpos
  omega
 rw [wrap64 ((u.ats:Int) - 1) (by omega) (by omega),e3,wrap64 ((usE x e*(u.ats - 1):Nat):Int) (by omega) (by omega),wrap64 _ (by omega) (by omega)]
 refine⟨?_,rfl⟩
 congr 2
 rw [Bool.eq_iff_iff,decide_eq_true_eq,decide_eq_true_eq]
 omega
end Go.Proofs.Trees
namespace Go.Proofs.Trees
open Go Go.VL Go.RowKit
abbrev slz:AV:=.v (.slice none 0 0)
abbrev zE:Ob:=.cells [.v (.string (mk [])),slz]
theorem Lqdk (s:Nm) (p a b:AV) (hp:LK.sl.has p) (F fr to:List Nm) (k:Int) (ha:StrsA a fr) (hb:StrsA b to) (hft:fr.length = to.length) (hl:fr.length < 1000000):∀(i:Nat),i<=fr.length ->
  Lq70 [a,b,.v (.int .i64 ((i:Int) - 1))] [.cells [.v (.string (mk s)),p],zE,.cells [.any,.v (.int .i64 k)],.vec 1 (strsAV F)]
   (LBy (match lastOf s fr i with | some u=>(2,[],[.cells [.v (.string (mk (nmAt to u))),slz],.cells [.any,.v (.int .i64 k)],.vec 1 (strsAV F)]) | none=>(1,[],[.cells [.v (.string (mk s)),p],zE,.cells [.any,.v (.int .i64 k)],.vec 1 (strsAV F)])))
 | 0,hi=>by
  refine Gqar _ _ _ _ _ _ _ _ _ ?_
  simp only [rq4w,↓zq,zs,hasK,hasK,hp,has_slnil]
  exact⟨ha.1,hb.1,fun h=>by omega,fun _=>rfl⟩
 | i+1,hi=>by
  have hlt:i < fr.length:=by omega
  have hlt':i < to.length:=by omega
  have e1:((i+1:Nat):Int) - 1 = (i:Int):=by omega
  rw [e1]
  refine Gqar _ _ _ _ _ _ _ _ _ ?_
  simp only [rq4w,↓zq,zs,hasK,zt,hasK,hp,has_slnil,ha.len,hb.len,ha.idx hlt,hb.idx hlt',Int.toNat_natCast]
  refine⟨ha.1,hb.1,fun _=>⟨⟨ha.1,by omega,by omega⟩,by omega,fun h=>?_,fun h=>?_⟩,fun h=>by omega⟩
  ·refine⟨⟨hb.1,by omega,by omega⟩,by omega,?_⟩
   have hh:fr.getD i [] = s:=h
   simp only [lastOf,hh,if_true,LBy]
   have:nmAt to (fr.length - 1 - i) = to.getD i []:=by unfold nmAt; congr 1; omega
   rw [this]
  ·have hh:¬ fr.getD i [] = s:=h
   simp only [lastOf,hh,if_false]
   rw [wrap64 _ (by omega) (by omega)]
   exact Lqdk s p a b hp F fr to k ha hb hft hl i (by omega)
theorem Lqeh (a b:AV) (ha:LK.sl.has a) (hb:LK.sl.has b) (F:List Nm) (hF:F.length < 100000) (t:ByteArray) (p:AV) (hp:LK.sl.has p):∀(n j:Nat),nxt F n j < j+n->j+n < 100000000 ->
  Lq6f [a,b,.v (.string (mk (tN j)))] [.cells [.any,.v (.int .i64 (j:Int))],.vec 1 (strsAV F),.cells [.v (.string t),p],zE] (LIs 1 [a,b,.v (.string (mk (tN (nxt F n j))))] [.cells [.any,.v (.int .i64 (nxt F n j:Int))],.vec 1 (strsAV F),.cells [.v (.string t),p],zE])
 | 0,j,h,_=>by simp only [nxt] at h; omega
 | n+1,j,h,hj=>by
  refine Gqg3 _ _ _ _ _ _ _ _ _ ?_
  simp only [rqcx,↓zq,zs,hasK,zt,hasK,hp,has_slnil]
  refine⟨ha,hb,?_⟩
  refine wp_det (Sq1b F _ (.of F) (tN j) (by omega)) ?_
  simp only [↓zq,zs,hasK,zt]
  rw [nxt] at h |-
  refine⟨fun hm=>?_,fun hm=>?_⟩
  ·rw [if_pos hm] at h |-
   rw [wrap_succ j (by omega)]
   refine wp_det (Sq1x (j+2) (j+1) (by omega) (by omega)) ?_
   have hd:=dd_len (j+2) (j+1) (by omega)
   simp only [↓zq,zs,hasK,zt,List.cons_append,List.nil_append]
   refine⟨by simp [size_mk]; omega,?_⟩
   exact Lqeh a b ha hb F hF t p hp n (j+1) (by omega) (by omega)
  ·rw [if_neg hm]
   exact⟨rfl,rfl,rfl⟩
theorem cnT_le (F:List Nm):∀(t:Ty) (to:List Nm) (k:Nat),k<=(cnT F t to k).2/\(cnT F t to k).2<=k+(F.length+1)*t.atoms
 | .zero,_,k=>⟨Nat.le_refl _,Nat.le_add_right _ _⟩
 | .one,_,k=>⟨Nat.le_refl _,Nat.le_add_right _ _⟩
 | .name _,_,k=>⟨Nat.le_refl _,Nat.le_add_right _ _⟩
 | .bound _,_,k=>⟨Nat.le_refl _,Nat.le_add_right _ _⟩
 | .plus a b,to,k=>by
  have h1:=cnT_le F a to k
  have h2:=cnT_le F b to (cnT F a to k).2
  simp only [cnT,Ty.atoms]
  have:(F.length+1)*(1+a.atoms+b.atoms) = (F.length+1)+(F.length+1)*a.atoms+(F.length+1)*b.atoms:=by simp only [Nat.mul_add,Nat.mul_one]
  omega
 | .times a b,to,k=>by
  have h1:=cnT_le F a to k
  have h2:=cnT_le F b to (cnT F a to k).2
  simp only [cnT,Ty.atoms]
  have:(F.length+1)*(1+a.atoms+b.atoms) = (F.length+1)+(F.length+1)*a.atoms+(F.length+1)*b.atoms:=by simp only [Nat.mul_add,Nat.mul_one]
  omega
 | .rc a,to,k=>by
  obtain⟨g1,g2,_,_⟩:=nx_spec F k
  have h1:=cnT_le F a (to++[tN (nx F k)]) (nx F k+1)
  simp only [cnT,Ty.atoms]
  have:(F.length+1)*(2+a.atoms) = (F.length+1)*2+(F.length+1)*a.atoms:=by simp only [Nat.mul_add]
  omega
theorem strsAV_len' (l:List Nm):(strsAV l).length = l.length:=by simp [strsAV]
theorem Sqjd (F:List Nm) (hF:F.length < 10000) {e:E} (h:Wf e):∀(fr to:List Nm) (a b:AV) (k:Nat),StrsA a fr->StrsA b to->fr.length = to.length->(∀w,w∈fr->okN w)->fr.length+e.sz < 10000->k+(F.length+1)*(tyA e fr).atoms < 99000000 ->
  FSpec Tryz.prog 163 [.agg [.v (.string (mk e.at)),e.sp],a,b,.ref 0 0] [.cells [.vec 1,.v (.int .i64 (k:Int))],.vec 1 (strsAV F)] (DetO (.agg [.v (.string (mk (cnT F (tyA e fr) to k).1.at)),(cnT F (tyA e fr) to k).1.sp]) [.cells [.vec 1,.v (.int .i64 ((cnT F (tyA e fr) to k).2:Int))],.vec 1 (strsAV F)]):=by
 induction h with
 | @atom s hs =>
  intro fr to a b k ha hb hft hfr hl hk
  simp only [E.sz] at hl
  refine Fq29 _ _ _ _ _ _ ((sp_has _).mpr trivial) ha.1 hb.1 ?_
  have hz:∀c,(c = [48]\/c = [49])->lastOf c fr fr.length = none:=fun c hc=>(lastOf_mem c fr).2 fun hm=>by
   obtain⟨h1,h2,h3⟩:=hfr c hm
   rcases hc with rfl | rfl
   ·exact h2 rfl
   ·exact h3 rfl
  have hq:cnT F (tyA (.atom s) fr) to k = (match lastOf s fr fr.length with | some u=>.atom (nmAt to u) | none=>.atom s,k):=by
   simp only [tyA]
   by_cases h0:s = [48]
   ·rw [if_pos h0,hz s (.inl h0),h0]; rfl
   ·rw [if_neg h0]
    by_cases h1:s = [49]
    ·rw [if_pos h1,hz s (.inr h1),h1]; rfl
    ·rw [if_neg h1]
     cases lastOf s fr fr.length<;>rfl
  simp only [tq20,at_atom',↓zq,zs,hasK,zt]
  refine⟨fun _=>⟨ha.1,?_⟩,fun h=>absurd h hs⟩
  rw [ha.len,wrap64 _ (by omega) (by omega)]
  refine wp_loopB (Lqdk s _ a b ((sp_has _).mpr trivial) F fr to (k:Int) ha hb hft (by omega) fr.length (Nat.le_refl _)) (fun ys o e=>?_) (fun ys o e=>?_)
  ·rw [hq]
   cases q:lastOf s fr fr.length<;>rw [q] at e<;>cases e
   simp only [↓zq,zs,hasK,zt,hasK,hasC,has_slnil,sp_has]
   exact⟨rfl,rfl⟩
  ·rw [hq]
   cases q:lastOf s fr fr.length<;>rw [q] at e<;>cases e
   simp only [↓zq,zs,hasK,zt,hasK,hasC,has_slnil]
   exact⟨rfl,rfl⟩
 | @plus x y hx hy i1 i2 =>
  intro fr to a b k ha hb hft hfr hl hk
  simp only [E.sz,E.szs] at hl
  rw [tyA_plus] at hk |-
  simp only [Ty.atoms] at hk
  have hm:(F.length+1)*(1+(tyA x fr).atoms+(tyA y fr).atoms) = (F.length+1)+(F.length+1)*(tyA x fr).atoms+(F.length+1)*(tyA y fr).atoms:=by simp only [Nat.mul_add,Nat.mul_one]
  have hc:=cnT_le F (tyA x fr) to k
  refine Fq29 _ _ _ _ _ _ ((sp_has _).mpr trivial) ha.1 hb.1 ?_
  have hP:=P3.of (.atom [43]) x y
  simp only [tq20,at_list,toNat_one,toNat_two,↓zq,zs,hasK,zt,hP.1,hP.2.1,hP.2.2.1,hP.2.2.2,sp_hasL]
  refine⟨fun h=>absurd rfl h,fun _=>?_⟩
  refine wp_det (Sq0 [43] x y) ?_
  simp only [↓zq,zs,hasK,zt]
  refine⟨fun h=>by simp at h,fun _=>?_⟩
  repeat refine⟨by omega,?_⟩
  refine wp_detO (i1 fr to a b k ha hb hft hfr (by omega) (by omega)) ?_
  simp only [↓zq,zs,hasK,zt,hasC,sp_hasL,List.headD_cons,List.tail_cons,Ob.es]
  repeat refine⟨by omega,?_⟩
  refine wp_det (Sq0 [43] x y) ?_
  simp only [↓zq,zs,hasK,zt]
  repeat refine⟨by omega,?_⟩
  refine wp_detO (i2 fr to a b _ ha hb hft hfr (by omega) (by omega)) ?_
  simp only [↓zq,zs,hasK,zt,hasC,sp_hasL,List.headD_cons,List.tail_cons,Ob.es]
  repeat refine⟨by omega,?_⟩
  refine wp_det (Sq6 _ _ _) ?_
  simp only [↓zq,zs,hasK,zt,sp_hasL,at_list]
  repeat refine⟨by omega,?_⟩
  exact⟨rfl,rfl⟩
 | @times x y hx hy i1 i2 =>
  intro fr to a b k ha hb hft hfr hl hk
  simp only [E.sz,E.szs] at hl
  rw [tyA_times] at hk |-
  simp only [Ty.atoms] at hk
  have hm:(F.length+1)*(1+(tyA x fr).atoms+(tyA y fr).atoms) = (F.length+1)+(F.length+1)*(tyA x fr).atoms+(F.length+1)*(tyA y fr).atoms:=by simp only [Nat.mul_add,Nat.mul_one]
  have hc:=cnT_le F (tyA x fr) to k
  refine Fq29 _ _ _ _ _ _ ((sp_has _).mpr trivial) ha.1 hb.1 ?_
  have hP:=P3.of (.atom [42]) x y
  simp only [tq20,at_list,toNat_one,toNat_two,↓zq,zs,hasK,zt,hP.1,hP.2.1,hP.2.2.1,hP.2.2.2,sp_hasL]
  refine⟨fun h=>absurd rfl h,fun _=>?_⟩
  refine wp_det (Sq0 [42] x y) ?_
  simp only [↓zq,zs,hasK,zt]
  refine⟨fun h=>by simp at h,fun _=>?_⟩
  repeat refine⟨by omega,?_⟩
  refine wp_detO (i1 fr to a b k ha hb hft hfr (by omega) (by omega)) ?_
  simp only [↓zq,zs,hasK,zt,hasC,sp_hasL,List.headD_cons,List.tail_cons,Ob.es]
  repeat refine⟨by omega,?_⟩
  refine wp_det (Sq0 [42] x y) ?_
  simp only [↓zq,zs,hasK,zt]
  repeat refine⟨by omega,?_⟩
  refine wp_detO (i2 fr to a b _ ha hb hft hfr (by omega) (by omega)) ?_
  simp only [↓zq,zs,hasK,zt,hasC,sp_hasL,List.headD_cons,List.tail_cons,Ob.es]
  repeat refine⟨by omega,?_⟩
  refine wp_det (Sq6 _ _ _) ?_
  simp only [↓zq,zs,hasK,zt,sp_hasL,at_list]
  repeat refine⟨by omega,?_⟩
  exact⟨rfl,rfl⟩
 | @rc n y hn hy i =>
  intro fr to a b k ha hb hft hfr hl hk
  simp only [E.sz,E.szs] at hl
  rw [tyA_rc] at hk |-
  simp only [Ty.atoms,at_atom'] at hk
  have hm:(F.length+1)*(2+(tyA y (fr++[n])).atoms) = (F.length+1)*2+(F.length+1)*(tyA y (fr++[n])).atoms:=by simp only [Nat.mul_add]
  have hc:=cnT_le F (tyA y (fr++[n])) (to++[tN (nx F k)]) (nx F k+1)
  obtain⟨g1,g2,_,_⟩:=nx_spec F k
  refine Fq29 _ _ _ _ _ _ ((sp_has _).mpr trivial) ha.1 hb.1 ?_
  have hP:=P3.of (.atom recN) (.atom n) y
  simp only [tq20,at_list,toNat_one,toNat_two,↓zq,zs,hasK,zt,hP.1,hP.2.1,hP.2.2.1,hP.2.2.2,sp_hasL]
  refine⟨fun h=>absurd rfl h,fun _=>?_⟩
  refine wp_det (Sq0 recN (.atom n) y) ?_
  simp only [↓zq,zs,hasK,zt]
  refine⟨fun _=>?_,fun h=>absurd rfl h⟩
  refine wp_det (Sq1x (k+1) k (by omega) (by omega)) ?_
  have hd:=dd_len (k+1) k (by omega)
  simp only [↓zq,zs,hasK,zt,List.cons_append,List.nil_append]
  refine⟨by simp [size_mk]; omega,?_⟩
  refine wp_loop1 (Lqeh a b ha.1 hb.1 F (by omega) (mk []) _ ((sp_has _).mpr trivial) (F.length+1) k (by show nx F k < _; omega) (by omega)) ?_
  simp only [↓zq,zs,hasK,zt,hasK,hasC,has_slnil,sp_has,ha.1,hb.1,hP.1,hP.2.1,hP.2.2.1,hP.2.2.2,toNat_one,toNat_two,sp_hasL]
  repeat refine⟨by omega,?_⟩
  have hnx:nxt F (F.length+1) k = nx F k:=rfl
  rw [hnx]
  refine wp_det (Sq2a fr a ha n (by omega)) ?_
  simp only [↓zq,zs,hasK,zt]
  refine wp_det (Sq2a to b hb (tN (nx F k)) (by omega)) ?_
  simp only [↓zq,zs,hasK,zt]
  rw [wrap_succ (nx F k) (by omega)]
  have hmk:=Sq6 recN (.atom (tN (nx F k))) (cnT F (tyA y (fr++[n])) (to++[tN (nx F k)]) (nx F k+1)).1
  simp only [at_atom'] at hmk
  refine wp_detO (i (fr++[n]) (to++[tN (nx F k)]) _ _ (nx F k+1) (.of _) (.of _) (by simp [hft]) (fun w hw=>by
   rcases List.mem_append.1 hw with hw | hw
   ·exact hfr w hw
   ·simp only [List.mem_singleton] at hw; rw [hw]; exact hn) (by simp; omega) (by omega)) ?_
  simp only [↓zq,zs,hasK,zt,hasC,sp_hasL,List.headD_cons,List.tail_cons,Ob.es]
  repeat refine⟨by omega,?_⟩
  refine wp_det hmk ?_
  simp only [↓zq,zs,hasK,zt,sp_hasL,at_list]
  repeat refine⟨by omega,?_⟩
  exact⟨rfl,rfl⟩
theorem strsAV_app (l r:List Nm):strsAV (l++r) = strsAV l++strsAV r:=by simp [strsAV]
def fres (os:List E):List Nm:=os.flatMap fun o=>fre o [] []
theorem scellss_get {os:List E} {i:Nat} (h:i < os.length):(E.scellss os).getD i [] = [.v (.string (mk (os[i]).at)),(os[i]).sp]:=by
 have:∀(os:List E) (i:Nat) (h:i < os.length),(E.scellss os).getD i [] = (os[i]).scells:=by
  intro os
  induction os with
  | nil=>intro i h; simp at h
  | cons o os ih =>
   intro i h
   cases i with
   | zero=>simp [E.scellss]
   | succ i=>simpa [E.scellss] using ih i (by simpa using h)
 rw [this os i h,scells_sp]
theorem fres_drop (os:List E) {i:Nat} (h:i < os.length):fres (os.drop i) = fre (os[i]) [] []++fres (os.drop (i+1)):=by
 unfold fres; rw [List.drop_eq_getElem_cons h,List.flatMap_cons]
theorem Lqaj (a:AV) (os:List E) (ha:LK.sl.has a/\a.elems = E.scellss os) (ho:∀o,o∈os->Wf o/\o.sz < 5000) (hl:os.length < 100) (t:ByteArray) (p:AV) (hp:LK.sl.has p):∀(k i:Nat) (F:List Nm),i+k = os.length->F.length<=5000+5000*i ->
  Lq5j [a,.v (.int .i64 (i:Int))] [.cells [.v (.string t),p],zE,.vec 1 (strsAV F)] (LIs 1 [] [.cells [.v (.string t),p],zE,.vec 1 (strsAV (F++fres (os.drop i)))])
 | 0,i,F,hi,hF=>by
  refine Gq8l _ _ _ _ _ _ _ ?_
  have:i = os.length:=by omega
  subst this
  simp only [rq72,↓zq,zs,hasK,zt,hasK,hp,has_slnil,ha.1,ha.2,scellss_len,List.drop_length]
  exact⟨fun h=>by omega,fun _=>by simp [LIs,fres]⟩
 | k+1,i,F,hi,hF=>by
  have hlt:i < os.length:=by omega
  obtain⟨hw,hsz⟩:=ho _ (List.getElem_mem hlt)
  have hfl:=fre_len (os[i]) [] []
  refine Gq8l _ _ _ _ _ _ _ ?_
  simp only [rq72,↓zq,zs,hasK,zt,hasK,hp,has_slnil,ha.1,ha.2,scellss_len,scellss_get hlt,sp_hasL,Int.toNat_natCast]
  refine⟨fun _=>?_,fun h=>by omega⟩
  repeat refine⟨by omega,?_⟩
  have hfre:=Sq2r hw [] [] (.sl []) (.of []) (by simp; omega)
  refine wp_detO hfre ?_
  simp only [↓zq,zs,hasK,zt,List.headD_cons,List.tail_cons,Ob.es,strsAV_len',<-strsAV_app]
  rw [wrap_succ i (by omega),fres_drop os hlt,<-List.append_assoc]
  simp only [List.length_nil,Nat.zero_add] at hfl
  refine⟨⟨allLen_strs _,by omega⟩,?_⟩
  exact Lqaj a os ha ho hl t p hp k (i+1) _ (by omega) (by simp; omega)
def apN (e:E) (os:List E):List Nm:=fre e [] []++fres os
def apT (e:E) (os:List E):E:=(cnT (apN e os) (tyA e []) [] 0).1
theorem apN_len {e:E} {os:List E} (h:e.sz<=2000) (ho:∀o,o∈os->Wf o/\o.sz<=2000) (hl:os.length<=2):(apN e os).length<=6000:=by
 have h1:=fre_len e [] []
 have h2:∀(l:List E),(∀o,o∈l->o.sz<=2000)->(fres l).length<=2000*l.length:=by
  intro l
  induction l with
  | nil=>intro _; simp [fres]
  | cons o l ih =>
   intro hl
   have:=ih fun q hq=>hl q (List.mem_cons_of_mem _ hq)
   have:=hl o List.mem_cons_self
   have:=fre_len o [] []
   simp only [fres,List.flatMap_cons,List.length_append,List.length_cons,List.length_nil] at *
   omega
 have:=h2 os fun o ho'=>(ho o ho').2
 simp only [apN,List.length_append,List.length_nil] at *
 omega
theorem Sq6g {e:E} (h:Wf e) (a:AV) (os:List E) (ha:LK.sl.has a/\a.elems = E.scellss os) (he:e.sz<=2000) (ho:∀o,o∈os->Wf o/\o.sz<=2000) (hl:os.length<=2) :
  FSpec Tryz.prog 123 [.agg [.v (.string (mk e.at)),e.sp],a] [] (Det (.agg [.v (.string (mk (apT e os).at)),(apT e os).sp])):=by
 refine Fqgj _ _ _ ((sp_has _).mpr trivial) ha.1 ?_
 unfold tq9l
 have hfl:=fre_len e [] []
 simp only [List.length_nil,Nat.zero_add] at hfl
 have hap:=apN_len he ho hl
 have hats:(tyA e []).atoms<=2000:=by
  rw [<-h.ats []]
  have:e.ats<=e.sz:=by
   clear hap hfl ha he ho hl
   induction h with
   | atom _=>simp [E.ats,E.sz]
   | plus _ _ i1 i2=>simp only [E.ats,E.atss,E.sz,E.szs]; omega
   | times _ _ i1 i2=>simp only [E.ats,E.atss,E.sz,E.szs]; omega
   | rc _ _ i=>simp only [E.ats,E.atss,E.sz,E.szs]; omega
  omega
 have hfre:=Sq2r h [] [] (.sl []) (.of []) (by simp; omega)
 simp only [↓zq,zs,hasK,zt]
 refine wp_detO hfre ?_
 simp only [↓zq,zs,hasK,zt,List.headD_cons,List.tail_cons,Ob.es]
 have hlp:=Lqaj a os ha (fun o hq=>⟨(ho o hq).1,by have:=(ho o hq).2; omega⟩) (by omega) (mk e.at) e.sp ((sp_has _).mpr trivial) os.length 0 (fre e [] []) (by omega) (by omega)
 rw [List.drop_zero] at hlp
 refine wp_loop1 hlp ?_
 simp only [↓zq,zs,hasK,zt,hasK,hasC,has_slnil,sp_has,List.headD_cons,List.tail_cons,Ob.es]
 have hmul:((apN e os).length+1)*(tyA e []).atoms<=6001*2000:=Nat.mul_le_mul (by omega) hats
 have hren:=Sqjd (apN e os) (by omega) h [] [] (.sl []) (.sl []) 0 (.of []) (.of []) rfl (fun w hw=>by cases hw) (by simp; omega) (by omega)
 refine wp_detO hren ?_
 simp only [↓zq,zs,hasK,zt,hasC,sp_hasL]
 repeat refine⟨by omega,?_⟩
 exact⟨rfl,rfl⟩
end Go.Proofs.Trees
namespace Go.Proofs.Trees
open Go Go.VL Go.RowKit
def goodT (t:Ty):Prop:=lcT t 0/\∀y,hasN y t = true->okN y
theorem lc_mono:∀(t:Ty) {i j:Nat},lcT t i->i<=j->lcT t j
 | .bound u,i,j,h,hj=>Nat.lt_of_lt_of_le h hj
 | .plus a b,i,j,h,hj=>⟨lc_mono a h.1 hj,lc_mono b h.2 hj⟩
 | .times a b,i,j,h,hj=>⟨lc_mono a h.1 hj,lc_mono b h.2 hj⟩
 | .rc a,i,j,h,hj=>lc_mono (i:=i+1) (j:=j+1) a h (by omega)
 | .zero,_,_,_,_=>trivial
 | .one,_,_,_,_=>trivial
 | .name _,_,_,_,_=>trivial
theorem lc_opn (x:Nm):∀(t:Ty) {i:Nat},lcT t (i+1)->lcT (opn (.name x) t i) i
 | .bound u,i,h=>by
  simp only [opn]
  split
  ·trivial
  ·have:u < i+1:=h
   show u < i; omega
 | .plus a b,i,h=>⟨lc_opn x a h.1,lc_opn x b h.2⟩
 | .times a b,i,h=>⟨lc_opn x a h.1,lc_opn x b h.2⟩
 | .rc a,i,h=>lc_opn x (i:=i+1) a h
 | .zero,_,_=>trivial
 | .one,_,_=>trivial
 | .name _,_,_=>trivial
theorem lc_sub {x:Nm} {u:Ty} (hu:lcT u 0):∀(t:Ty) {i:Nat},lcT t i->lcT (sub x u t) i
 | .name s,i,_=>by simp only [sub]; split; exact lc_mono u hu (Nat.zero_le _); trivial
 | .plus a b,i,h=>⟨lc_sub hu a h.1,lc_sub hu b h.2⟩
 | .times a b,i,h=>⟨lc_sub hu a h.1,lc_sub hu b h.2⟩
 | .rc a,i,h=>lc_sub hu (i:=i+1) a h
 | .zero,_,_=>trivial
 | .one,_,_=>trivial
 | .bound _,_,h=>h
theorem Dv.lc {t d:Ty} {s:Nm} (h:Dv t s d):lcT t 0->lcT d 0:=by
 induction h with
 | zero s=>exact fun _=>trivial
 | one s=>exact fun _=>trivial
 | bound k s=>exact fun _=>trivial
 | hit s=>exact fun _=>trivial
 | miss h=>exact fun _=>trivial
 | plus h1 h2 hl i1 i2=>exact fun h=>⟨i1 h.1,i2 h.2⟩
 | times h1 h2 hl i1 i2=>exact fun h=>⟨⟨i1 h.1,h.2⟩,h.1,i2 h.2⟩
 | rc x hx hs h1 h2 hl i1 i2 =>
  intro h
  have g1:=lc_sub (x:=x) h _ (i1 (lc_opn x _ h))
  have g2:=lc_sub (x:=x) h _ (i2 (lc_opn x _ h))
  exact⟨lc_mono _ g1 (by omega),lc_mono _ g2 (by omega),Nat.zero_lt_one⟩
theorem Wf.good {e:E} (h:Wf e):goodT (tyA e []):=⟨tyA_lc h [],fun y hy=>(wfE_names h [] y hy).1⟩
theorem goodT.dv {t d:Ty} {s:Nm} (g:goodT t) (h:Dv t s d):goodT d:=⟨h.lc g.1,fun y hy=>g.2 y (h.names y hy)⟩
theorem goodT.tree {t:Ty} (g:goodT t):∃e,Wf e/\tyA e [] = t:=by
 obtain⟨h1,h2,_⟩:=cnT_ok (namesOf t []) t [] 0 (.nil _ _) g.1 fun y hy=>⟨(namesOf_mem t [] y).2 (.inr hy),g.2 y hy⟩
 exact⟨_,h1,h2⟩
theorem goodT.sub {x:Nm} {u t:Ty} (hu:goodT u) (ht:goodT t):goodT (sub x u t):=⟨lc_sub hu.1 t ht.1,fun y hy=>by
 rcases has_sub t hy with h | h
 ·exact hu.2 y h
 ·exact ht.2 y h.2⟩
def DrR (o:Option Ty):AV->List Ob->Prop:=fun r ob=>ob = []/\∃(c:Nm) (d:AV),LK.sl.has d/\r = .tup [.agg [.v (.string (mk c)),d],.v (.bool o.isSome)]/\∀t,o = some t->∃e,Wf e/\tyA e [] = t/\c = e.at/\d = e.sp
theorem DrR.ne {o:Option Ty} (h:∀t,o = some t->goodT t):∃r ob,DrR o r ob:=by
 cases o with
 | none=>exact⟨_,_,rfl,[],slz,(has_slnil).mpr trivial,rfl,fun t h=>by cases h⟩
 | some t =>
  obtain⟨e,h1,h2⟩:=(h t rfl).tree
  exact⟨_,_,rfl,e.at,e.sp,(sp_has _).mpr trivial,rfl,fun t' h'=>by cases h'; exact⟨e,h1,h2,rfl,rfl⟩⟩
theorem DrR.of {e:E} (h:Wf e):DrR (some (tyA e [])) (.tup [.agg [.v (.string (mk e.at)),e.sp],.v (.bool true)]) [] :=
 ⟨rfl,e.at,e.sp,(sp_has _).mpr trivial,rfl,fun t h'=>by cases h'; exact⟨e,h,rfl,rfl,rfl⟩⟩
theorem DrR.no (c:Nm) (d:AV) (hd:LK.sl.has d):DrR none (.tup [.agg [.v (.string (mk c)),d],.v (.bool false)]) [] :=
 ⟨rfl,c,d,hd,rfl,fun t h'=>by cases h'⟩
theorem hasL_sv {c:ByteArray} {d:AV} (h:LK.sl.has d):hasL [.str,.sl] [.v (.string c),d] 0 = True:=by simp [hasL,has_str,h]
theorem apT_ok {e:E} {os:List E} (h:Wf e):Wf (apT e os)/\tyA (apT e os) [] = tyA e []/\apE (· ∉ apN e os) (apT e os):=by
 obtain⟨h1,h2,_,_,h5⟩:=cnT_ok (apN e os) (tyA e []) [] 0 (.nil _ _) (tyA_lc h []) fun y hy=>⟨List.mem_append_left _ ((fre_mem h [] [] y).2 (.inr hy)),(wfE_names h [] y hy).1⟩
 exact⟨h1,h2,h5⟩
theorem fres_mem {os:List E} {o:E} (ho:o∈os) (hw:Wf o) {y:Nm} (hy:hasN y (tyA o []) = true):y∈fres os :=
 List.mem_flatMap.2 ⟨o,ho,(fre_mem hw [] [] y).2 (.inr hy)⟩
theorem tyA_name {s:Nm} (hs:okN s):tyA (.atom s) [] = .name s:=tyA_atom_name hs (by simp)
theorem Sqkl {x:Nm} (hx:okN x) {e u:E} (h:Wf e) (hu:Wf u) (hl:e.ats<=400) (hlu:u.ats<=400):∃g,Wf g/\tyA g [] = sub x (tyA u []) (tyA e [])/\FSpec Tryz.prog 182 [.agg [.v (.string (mk e.at)),e.sp],.v (.string (mk x)),.agg [.v (.string (mk u.at)),u.sp]] [] (Det (.agg [.v (.string (mk g.at)),g.sp])):=by
 obtain⟨w1,w2,w3⟩:=apT_ok (os:=[u,.atom x]) h
 have hap:apE (fun n=>n≠x/\hasN n (tyA u []) = false) (apT e [u,.atom x]):=apE_mono (fun n hn=>⟨fun e1=>hn (by
  subst e1
  exact List.mem_append_right _ (fres_mem (o:=.atom n) (by simp) (.atom hx.1) (by rw [tyA_name hx]; simp [hasN]))),by
  cases q:hasN n (tyA u []) with
  | false=>rfl
  | true=>exact absurd (List.mem_append_right _ (fres_mem (o:=u) (by simp) hu q)) hn⟩) w1 w3
 obtain⟨p1,p2⟩:=tyA_put hx hu w1 hap [] (by simp) (fun y hy=>by cases hy)
 refine⟨_,p1,by rw [p2,w2],?_⟩
 refine Fqj9 _ _ _ _ _ ((sp_has _).mpr trivial) ((sp_has _).mpr trivial) ?_
 unfold tqah
 have s1:=h.sz
 have s2:=hu.sz
 have hA:=Sq6g h (.sl [[.v (.string (mk u.at)),u.sp],[.v (.string (mk x)),slz]]) [u,.atom x] ⟨(has_sl _).mpr trivial,by simp only [elems_sl,E.scellss,scells_sp]; rfl⟩ (by omega) (fun o ho=>by
  simp only [List.mem_cons,List.not_mem_nil,or_false] at ho
  rcases ho with rfl | rfl
  ·exact⟨hu,by omega⟩
  ·exact⟨.atom hx.1,by simp [E.sz]⟩) (by simp)
 refine wp_det hA ?_
 simp only [↓zq,zs,hasK,zt,sp_hasL]
 repeat refine⟨by omega,?_⟩
 refine wp_det (Sqh5 x u w1) ?_
 simp only [↓zq,zs,hasK,zt,sp_hasL]
 repeat refine⟨by omega,?_⟩
 exact⟨rfl,rfl⟩
theorem Sq6d {x:Nm} (hx:okN x) {e u:E} (h:Wf e) (hu:Wf u) (hl:e.ats<=400) (hlu:u.ats<=400):FSpec Tryz.prog 179 [.agg [.v (.string (mk e.at)),e.sp],.v (.string (mk x)),.agg [.v (.string (mk u.at)),u.sp]] [] (DrR (chk (sub x (tyA u []) (tyA e [])))):=by
 refine Fqi1 _ _ _ _ _ ((sp_has _).mpr trivial) ((sp_has _).mpr trivial) ?_
 unfold tq7k
 refine wp_det (Sqkb hx h hu (by omega) (by omega)) ?_
 simp only [↓zq,zs,hasK,zt]
 refine⟨fun hn=>?_,fun hy=>?_⟩
 ·rw [show chk (sub x (tyA u []) (tyA e [])) = none by unfold chk; rw [if_neg hn]]
  exact DrR.no _ _ ((sp_has _).mpr trivial)
 ·rw [show chk (sub x (tyA u []) (tyA e [])) = some (sub x (tyA u []) (tyA e [])) by unfold chk; rw [if_pos hy]]
  obtain⟨g,g1,g2,g3⟩:=Sqkl hx h hu hl hlu
  refine wp_det g3 ?_
  simp only [↓zq,zs,hasK,zt,sp_hasL]
  repeat refine⟨by omega,?_⟩
  rw [<-g2]
  exact DrR.of g1
end Go.Proofs.Trees
namespace Go.Proofs.Trees
open Go Go.VL Go.RowKit
theorem Sq1z (w:Nm) (c1 c2:Nm) (d1 d2:AV):FSpec Tryz.prog 103 [.v (.string (mk w)),.sl [[.v (.string (mk c1)),d1],[.v (.string (mk c2)),d2]]] [] (Det (.agg [.v (.string (mk [])),.sl [[.v (.string (mk w)),slz],[.v (.string (mk c1)),d1],[.v (.string (mk c2)),d2]]])):=by
 refine Fqfh _ _ ((has_sl _).mpr trivial) ?_
 simp only [tq6q,↓zq,zs,hasK,Det]
 exact⟨⟨fun c hc=>by
  simp only [List.mem_cons,List.not_mem_nil,or_false] at hc
  rcases hc with rfl | rfl<;>rfl,by omega⟩,rfl⟩
theorem Lqd6 (F:List Nm) (hF:F.length < 100000) (c1 c2:Nm) (d1 d2:AV) (h1:LK.sl.has d1) (h2:LK.sl.has d2):∀(n j:Nat),nxt F n j < j+n->j+n < 100000000 ->
  Lq6j [.v (.int .i64 (j:Int))] [zE,.cells [.v (.string (mk c1)),d1],.cells [.v (.string (mk c2)),d2],.vec 1 (strsAV F)] (LIs 1 [.v (.int .i64 (nxt F n j:Int))] [zE,.cells [.v (.string (mk c1)),d1],.cells [.v (.string (mk c2)),d2]])
 | 0,j,h,_=>by simp only [nxt] at h; omega
 | n+1,j,h,hj=>by
  refine Gqgc _ _ _ _ _ _ _ _ ?_
  simp only [rqc9,↓zq,zs,hasK,zt,hasK,has_slnil,h1,h2]
  refine wp_det (Sq1x (j+1) j (by omega) (by omega)) ?_
  have hd:=dd_len (j+1) j (by omega)
  simp only [↓zq,zs,hasK,zt,List.cons_append,List.nil_append]
  refine⟨by simp [size_mk]; omega,?_⟩
  refine wp_det (Sq1b F _ (.of F) (tN j) (by omega)) ?_
  simp only [↓zq,zs,hasK,zt]
  rw [nxt] at h |-
  refine⟨fun hm=>?_,fun hm=>?_⟩
  ·rw [if_pos hm] at h |-
   rw [wrap_succ j (by omega)]
   exact Lqd6 F hF c1 c2 d1 d2 h1 h2 n (j+1) (by omega) (by omega)
  ·rw [if_neg hm]
   exact⟨rfl,rfl,rfl⟩
theorem sub_atoms_le {x:Nm} {a c d:Ty} (h:(drc a x c d).atoms<=400):(sub x (.rc a) c).atoms<=400/\(sub x (.rc a) d).atoms<=400:=by
 simp only [drc,Ty.atoms] at h; omega
theorem Wf.ats_le {e:E} (h:Wf e) {t:Ty} (ht:tyA e [] = t) (hl:t.atoms<=400):e.ats<=400:=by rw [h.ats [],ht]; exact hl
def DvS (n:Nat):Prop:=∀(e:E) (s:Nm),Wf e->e.ats<=n->e.ats<=400->okN s->FSpec Tryz.prog 178 [.agg [.v (.string (mk e.at)),e.sp],.v (.string (mk s))] [] (DrR (dvO (tyA e []) s))
theorem dv_good {e:E} {s:Nm} (h:Wf e):∀t,dvO (tyA e []) s = some t->goodT t:=fun t ht=>h.good.dv (dvO_iff.1 ht)
theorem chk_good {t:Ty} (h:goodT t):∀d,chk t = some d->goodT d:=fun d hd=>by obtain⟨_,rfl⟩:=chk_some.1 hd; exact h
theorem Sqiw (n:Nat) (ih:DvS n) (m:Nm) (B:E) (hm:okN m) (hB:Wf B) (hl:(E.list [.atom recN,.atom m,B]).ats<=n+1) (hl4:(E.list [.atom recN,.atom m,B]).ats<=400) (s:Nm) (hs:okN s) :
  FSpec Tryz.prog 198 [.agg [.v (.string (mk [])),(E.list [.atom recN,.atom m,B]).sp],.v (.string (mk s))] [] (DrR (dvO (tyA (.list [.atom recN,.atom m,B]) []) s)):=by
 have hw:Wf (.list [.atom recN,.atom m,B]):=.rc hm hB
 have hsz:=hw.sz
 have hA:=Sq6g hw (.sl [[.v (.string (mk s)),slz]]) [.atom s] ⟨(has_sl _).mpr trivial,by simp only [elems_sl,E.scellss,scells_sp]; rfl⟩ (by omega) (fun o ho=>by
  simp only [List.mem_cons,List.not_mem_nil,or_false] at ho
  subst ho
  exact⟨.atom hs.1,by simp [E.sz]⟩) (by simp)
 have hatsB:B.ats+2 = (E.list [.atom recN,.atom m,B]).ats:=by simp only [E.ats,E.atss]; omega
 have hT:tyA (.list [.atom recN,.atom m,B]) [] = .rc (tyA B [m]):=tyA_rc _ _ _
 obtain⟨w1,w2,_,_,w5⟩:=cnT_ok (apN (.list [.atom recN,.atom m,B]) [.atom s]) (tyA (.list [.atom recN,.atom m,B]) []) [] 0 (.nil _ _) (tyA_lc hw []) fun y hy=>⟨List.mem_append_left _ ((fre_mem hw [] [] y).2 (.inr hy)),(wfE_names hw [] y hy).1⟩
 have hsF:s∈apN (.list [.atom recN,.atom m,B]) [.atom s]:=List.mem_append_right _ (fres_mem (o:=.atom s) (by simp) (.atom hs.1) (by rw [tyA_name hs]; simp [hasN]))
 have haF:∀y,hasN y (tyA B [m]) = true->y∈apN (.list [.atom recN,.atom m,B]) [.atom s]:=fun y hy=>List.mem_append_left _ ((fre_mem hw [] [] y).2 (.inr (by rw [hT]; exact hy)))
 unfold apT at hA
 rw [hT] at hA w1 w2 w5
 rw [hT]
 generalize apN (.list [.atom recN,.atom m,B]) [.atom s] = F at *
 obtain⟨_,_,_,hxF⟩:=nx_spec F 0
 simp only [cnT,List.nil_append] at hA w1 w2 w5
 generalize hxd:tN (nx F 0) = x at *
 have hx:okN x:=by rw [<-hxd]; exact tN_ok _
 generalize (cnT F (tyA B [m]) [x] (nx F 0+1)).1 = b at *
 have hb:Wf b:=by cases w1; assumption
 rw [tyA_rc] at w2
 have hbt:tyA b [x] = tyA B [m]:=by injection w2
 have hxa:hasN x (tyA B [m]) = false:=by
  cases q:hasN x (tyA B [m]) with
  | false=>rfl
  | true=>exact absurd (haF x q) hxF
 have hxs:x≠s:=fun e=>hxF (by rw [e]; exact hsF)
 generalize tyA B [m] = a at *
 have hbo:tyA b [] = opn (.name x) a 0:=by
  have:=tyA_opn x hb []
  rw [List.append_nil,hbt] at this; exact this
 have hba:b.ats+2 = (E.list [.atom recN,.atom m,B]).ats:=by
  rw [hw.ats [],hT,hb.ats [],hbo,opn_atoms]; simp only [Ty.atoms]; omega
 have i1:=ih b s hb (by omega) (by omega) hs
 have i2:=ih b x hb (by omega) (by omega) hx
 have n1:=dv_good (s:=s) hb
 have n2:=dv_good (s:=x) hb
 rw [hbo] at i1 i2 n1 n2
 have hP:=P3.of (.atom recN) (.atom x) b
 rw [dvO_rc hxa hxs]
 have hE1:Wf (.list [.atom recN,.atom x,b]):=w1
 have hE1t:tyA (.list [.atom recN,.atom x,b]) [] = .rc a:=by rw [tyA_rc]; exact w2
 have hE1l:(E.list [.atom recN,.atom x,b]).ats<=400:=by
  have:(E.list [.atom recN,.atom x,b]).ats = b.ats+2:=by simp only [E.ats,E.atss]; omega
  omega
 refine Fqgr _ _ _ ((sp_has _).mpr trivial) ?_
 unfold tqd1
 refine wp_det hA ?_
 simp only [↓zq,zs,hasK,zt,sp_hasL,at_list,toNat_one,toNat_two,hP.1,hP.2.1,hP.2.2.1,hP.2.2.2,at_atom']
 repeat refine⟨by omega,?_⟩
 refine wp_call i1 (DrR.ne n1) ?_
 rintro r o ⟨rfl,c1,d1,hd1,rfl,hc1⟩
 simp only [↓zq,zs,hasK,zt,hasL_sv hd1]
 repeat refine⟨by omega,?_⟩
 refine wp_call i2 (DrR.ne n2) ?_
 rintro r o ⟨rfl,c2,d2,hd2,rfl,hc2⟩
 simp only [↓zq,zs,hasK,zt,hasL_sv hd2]
 cases q1:dvO (opn (.name x) a 0) s with
 | none =>
  simp only [Option.isSome_none,Option.bind_none]
  exact⟨fun _=>DrR.no _ _ ((sp_has _).mpr trivial),fun h=>(by cases h)⟩
 | some c =>
 cases q2:dvO (opn (.name x) a 0) x with
 | none =>
  simp only [Option.isSome_none,Option.isSome_some,Option.bind_none,Option.bind_some]
  exact⟨fun h=>(by cases h),fun _=>⟨fun _=>DrR.no _ _ ((sp_has _).mpr trivial),fun h=>(by cases h)⟩⟩
 | some d =>
 simp only [Option.isSome_some,Option.bind_some]
 refine⟨fun h=>(by cases h),fun _=>⟨fun h=>(by cases h),fun _=>?_⟩⟩
 obtain⟨ec,wc,tc,rfl,rfl⟩:=hc1 c q1
 obtain⟨ed,wd,td,rfl,rfl⟩:=hc2 d q2
 have lc:=(dvO_iff.1 q1).small
 have ld:=(dvO_iff.1 q2).small
 have p1:=Sq6d hx wc hE1 (wc.ats_le tc lc) hE1l
 have p2:=Sq6d hx wd hE1 (wd.ats_le td ld) hE1l
 have g1:=chk_good (hE1.good.sub (x:=x) wc.good)
 have g2:=chk_good (hE1.good.sub (x:=x) wd.good)
 rw [hE1t,tc] at p1 g1
 rw [hE1t,td] at p2 g2
 simp only [at_list] at p1 p2
 repeat refine⟨by omega,?_⟩
 refine wp_call p1 (DrR.ne g1) ?_
 rintro r o ⟨rfl,c3,d3,hd3,rfl,hc3⟩
 simp only [↓zq,zs,hasK,zt,hasL_sv hd3]
 repeat refine⟨by omega,?_⟩
 refine wp_call p2 (DrR.ne g2) ?_
 rintro r o ⟨rfl,c4,d4,hd4,rfl,hc4⟩
 simp only [↓zq,zs,hasK,zt,hasL_sv hd4]
 have big:∀t:Ty,chk t = none->¬ t.atoms<=400:=fun t ht hle=>by unfold chk at ht; rw [if_pos hle] at ht; cases ht
 have out0:(chk (sub x (.rc a) c) = none\/chk (sub x (.rc a) d) = none)->chk (drc a x c d) = none:=fun h=>by
  unfold chk
  rw [if_neg fun hle=>?_]
  have:=sub_atoms_le hle
  rcases h with h | h
  ·exact big _ h this.1
  ·exact big _ h this.2
 cases q3:chk (sub x (.rc a) c) with
 | none =>
  rw [out0 (.inl q3)]
  simp only [Option.isSome_none]
  exact⟨fun _=>DrR.no _ _ ((sp_has _).mpr trivial),fun h=>(by cases h)⟩
 | some c' =>
 cases q4:chk (sub x (.rc a) d) with
 | none =>
  rw [out0 (.inr q4)]
  simp only [Option.isSome_none,Option.isSome_some]
  exact⟨fun h=>(by cases h),fun _=>⟨fun _=>DrR.no _ _ ((sp_has _).mpr trivial),fun h=>(by cases h)⟩⟩
 | some d' =>
 simp only [Option.isSome_some]
 refine⟨fun h=>(by cases h),fun _=>⟨fun h=>(by cases h),fun _=>?_⟩⟩
 obtain⟨ec',wc',tc',rfl,rfl⟩:=hc3 c' q3
 obtain⟨ed',wd',td',rfl,rfl⟩:=hc4 d' q4
 obtain⟨lc',e3⟩:=chk_some.1 q3
 obtain⟨ld',e4⟩:=chk_some.1 q4
 rw [e3] at lc'; rw [e4] at ld'
 have z1:=wc'.sz
 have z2:=wd'.sz
 have k1:=wc'.ats_le tc' lc'
 have k2:=wd'.ats_le td' ld'
 have f1:=Sq2r wd' [] [] (.sl []) (.of []) (by simp; omega)
 have fl1:=fre_len ed' [] []
 have fl2:=fre_len ec' [] (fre ed' [] [])
 simp only [List.length_nil,Nat.zero_add] at fl1
 have f2:=Sq2r wc' [] (fre ed' [] []) (.sl []) (.of []) (by simp; omega)
 refine wp_detO f1 ?_
 simp only [↓zq,zs,hasK,zt,List.headD_cons,List.tail_cons,Ob.es]
 refine wp_detO f2 ?_
 simp only [↓zq,zs,hasK,zt,List.headD_cons,List.tail_cons,Ob.es]
 have hF3:∀y,(hasN y c' = true\/hasN y d' = true)->y∈fre ec' [] (fre ed' [] []):=fun y hy=>by
  rw [fre_mem wc',fre_mem wd']
  rcases hy with hy | hy
  ·exact .inr (by rw [tc']; exact hy)
  ·exact .inl (.inr (by rw [td']; exact hy))
 generalize fre ec' [] (fre ed' [] []) = F3 at *
 obtain⟨_,y2,_,hyF⟩:=nx_spec F3 0
 refine wp_loop1 (Lqd6 F3 (by omega) _ _ _ _ ((sp_has _).mpr trivial) ((sp_has _).mpr trivial) (F3.length+1) 0 (by show nx F3 0 < _; omega) (by omega)) ?_
 have hnx:nxt F3 (F3.length+1) 0 = nx F3 0:=rfl
 rw [hnx]
 simp only [↓zq,zs,hasK,zt,hasK,hasC,has_slnil,sp_has]
 refine wp_det (Sq1x (nx F3 0+1) (nx F3 0) (by omega) (by omega)) ?_
 have hdl:=dd_len (nx F3 0+1) (nx F3 0) (by omega)
 simp only [↓zq,zs,hasK,zt,List.cons_append,List.nil_append]
 refine⟨by omega,?_⟩
 obtain⟨y,hyd⟩:∃y:Nm,(116::dd (nx F3 0):Nm) = y:=⟨_,rfl⟩
 rw [hyd]
 rw [show tN (nx F3 0) = y from hyd] at hyF
 have hy:okN y:=by rw [<-hyd]; exact tN_ok _
 have hcy:tyA ec' [y] = c':=by
  have:=tyA_pre [y] wc' [] (fun z hz hm=>hyF (by
   simp only [List.mem_singleton] at hm
   rw [<-hm]; exact hF3 z (.inl (by rw [<-tc']; exact hz))))
  rw [List.append_nil,tc'] at this; exact this
 have hdy:tyA ed' [y] = d':=by
  have:=tyA_pre [y] wd' [] (fun z hz hm=>hyF (by
   simp only [List.mem_singleton] at hm
   rw [<-hm]; exact hF3 z (.inr (by rw [<-td']; exact hz))))
  rw [List.append_nil,td'] at this; exact this
 have hyb:tyA (.atom y) [y] = .bound 0:=by
  simp only [tyA]; rw [if_neg hy.2.1,if_neg hy.2.2,show lastOf y [y] [y].length = some 0 from lastOf_same y []]
 let o1:E:=.list [.atom [42],ed',.atom y]
 let o2:E:=.list [.atom [43],ec',o1]
 let o3:E:=.list [.atom recN,.atom y,o2]
 have hw3:Wf o3:=.rc hy (.plus wc' (.times wd' (.atom hy.1)))
 have ht3:tyA o3 [] = drc a x c d:=by
  show tyA (.list [.atom recN,.atom y,o2]) [] = _
  rw [tyA_rc]
  show Ty.rc (tyA (.list [.atom [43],ec',o1]) [y]) = _
  rw [tyA_plus]
  show Ty.rc (.plus (tyA ec' [y]) (tyA (.list [.atom [42],ed',.atom y]) [y])) = _
  rw [tyA_times,hcy,hdy,hyb,drc,e3,e4]
 have m1:=Sq6 [42] ed' (.atom y)
 have m2:=Sq6 [43] ec' o1
 have m3:=Sq6 recN (.atom y) o2
 simp only [o1,at_list,at_atom'] at m1 m2 m3
 refine wp_det m1 ?_
 simp only [↓zq,zs,hasK,zt,sp_hasL]
 repeat refine⟨by omega,?_⟩
 refine wp_det m2 ?_
 simp only [↓zq,zs,hasK,zt,sp_hasL]
 repeat refine⟨by omega,?_⟩
 refine wp_det m3 ?_
 simp only [↓zq,zs,hasK,zt,sp_hasL]
 repeat refine⟨by omega,?_⟩
 have z3:=hw3.sz
 have hats3:o3.ats = ec'.ats+ed'.ats+5:=by simp only [o3,o2,o1,E.ats,E.atss]; omega
 have ma:=Sq10 o3 hw3.ok (by omega)
 rw [sav_sp] at ma
 simp only [o3,o2,o1,at_list] at ma
 refine wp_det ma ?_
 simp only [↓zq,zs,hasK,zt]
 have hd3:(drc a x c d).atoms = o3.ats:=by rw [<-ht3,<-hw3.ats []]
 unfold chk
 by_cases hle:(drc a x c d).atoms<=400
 ·rw [if_pos hle]
  have:=DrR.of hw3
  rw [ht3] at this
  rw [show decide ((((E.list [.atom recN,.atom y,.list [.atom [43],ec',.list [.atom [42],ed',.atom y]]]).ats:Nat):Int)<=400) = true from decide_eq_true (by show ((o3.ats:Nat):Int)<=400; omega)]
  exact this
 ·rw [if_neg hle]
  rw [show decide ((((E.list [.atom recN,.atom y,.list [.atom [43],ec',.list [.atom [42],ed',.atom y]]]).ats:Nat):Int)<=400) = false from decide_eq_false (by show ¬ ((o3.ats:Nat):Int)<=400; omega)]
  exact DrR.no _ _ ((sp_has o3).mpr trivial)
theorem Sq1f:∀n,DvS n
 | 0=>fun e s h hl=>by have:=atoms_pos (tyA e []); rw [<-h.ats []] at this; omega
 | n+1=>by
  intro e s h hl h4 hs
  cases h with
  | @atom c hc =>
   refine Fq2l _ _ _ ((sp_has _).mpr trivial) ?_
   simp only [tq21,at_atom',↓zq,zs,hasK,zt]
   refine⟨fun _=>⟨fun he=>?_,fun hne=>?_⟩,fun h=>absurd h hc⟩
   ·have he:c = s:=he
    subst he
    rw [tyA_name hs,dvO_name,if_pos rfl]
    exact DrR.of (e:=.atom [49]) (.atom (by simp))
   ·have hne:¬ c = s:=hne
    have:dvO (tyA (.atom c) []) s = some .zero:=by
     simp only [tyA]
     split
     ·exact dvO_zero _
     ·split
      ·exact dvO_one _
      ·rw [show lastOf c [] ([]:List Nm).length = none from rfl,dvO_name,if_neg hne]
    rw [this]
    exact DrR.of (e:=.atom [48]) (.atom (by simp))
  | @plus x y hx hy =>
   have hxy:(E.list [.atom [43],x,y]).ats = x.ats+y.ats+1:=by simp only [E.ats,E.atss]; omega
   have p1:1<=x.ats:=by rw [hx.ats []]; exact atoms_pos _
   have p2:1<=y.ats:=by rw [hy.ats []]; exact atoms_pos _
   refine Fq2l _ _ _ ((sp_has _).mpr trivial) ?_
   have hP:=P3.of (.atom [43]) x y
   simp only [tq21,at_list,toNat_one,toNat_two,↓zq,zs,hasK,zt,hP.1,hP.2.1,hP.2.2.1,hP.2.2.2,sp_hasL]
   refine⟨fun h=>absurd rfl h,fun _=>?_⟩
   refine wp_det (Sq0 [43] x y) ?_
   simp only [↓zq,zs,hasK,zt]
   refine⟨fun h=>by simp at h,fun _=>?_⟩
   repeat refine⟨by omega,?_⟩
   rw [tyA_plus,dvO_plus]
   refine wp_call (Sq1f n x s hx (by omega) (by omega) hs) (DrR.ne (dv_good hx)) ?_
   rintro r o ⟨rfl,c1,d1,hd1,rfl,hc1⟩
   simp only [↓zq,zs,hasK,zt,hasL_sv hd1]
   repeat refine⟨by omega,?_⟩
   refine wp_call (Sq1f n y s hy (by omega) (by omega) hs) (DrR.ne (dv_good hy)) ?_
   rintro r o ⟨rfl,c2,d2,hd2,rfl,hc2⟩
   simp only [↓zq,zs,hasK,zt,hasL_sv hd2]
   refine wp_det (Sq1z [43] c1 c2 d1 d2) ?_
   simp only [↓zq,zs,hasK,zt,hasL,has_str,has_sl]
   repeat refine⟨by omega,?_⟩
   refine wp_det (Sq0 [43] x y) ?_
   simp only [↓zq,zs,hasK,zt]
   refine⟨fun h=>by simp at h,fun _=>?_⟩
   cases q1:dvO (tyA x []) s with
   | none =>
    simp only [Option.isSome_none,Option.bind_none]
    exact⟨fun h=>(by cases h),fun _=>DrR.no _ _ ((has_sl _).mpr trivial)⟩
   | some tx =>
   cases q2:dvO (tyA y []) s with
   | none =>
    simp only [Option.isSome_none,Option.isSome_some,Option.bind_none,Option.bind_some]
    exact⟨fun _=>⟨fun h=>(by cases h),fun _=>DrR.no _ _ ((has_sl _).mpr trivial)⟩,fun h=>(by cases h)⟩
   | some t2 =>
   simp only [Option.isSome_some,Option.bind_some]
   refine⟨fun _=>⟨fun _=>?_,fun h=>(by cases h)⟩,fun h=>(by cases h)⟩
   obtain⟨e1,w1,te1,rfl,rfl⟩:=hc1 tx q1
   obtain⟨e2,w2,te2,rfl,rfl⟩:=hc2 t2 q2
   have l1:=w1.ats_le te1 (dvO_iff.1 q1).small
   have l2:=w2.ats_le te2 (dvO_iff.1 q2).small
   have z1:=w1.sz
   have z2:=w2.sz
   have hw3:Wf (.list [.atom [43],e1,e2]):=.plus w1 w2
   have ht3:tyA (.list [.atom [43],e1,e2]) [] = .plus tx t2:=by rw [tyA_plus,te1,te2]
   have ma:=Sq10 _ hw3.ok (by simp only [E.sz,E.szs]; omega)
   rw [sav_sp] at ma
   simp only [at_list] at ma
   have e3:AV.sl [[.v (.string (mk [43])),slz],[.v (.string (mk e1.at)),e1.sp],[.v (.string (mk e2.at)),e2.sp]] = (E.list [.atom [43],e1,e2]).sp:=by simp only [E.sp,E.scellss,scells_sp]; rfl
   rw [e3]
   refine wp_det ma ?_
   simp only [↓zq,zs,hasK,zt]
   have hd3:(Ty.plus tx t2).atoms = (E.list [.atom [43],e1,e2]).ats:=by rw [<-ht3,<-hw3.ats []]
   unfold chk
   by_cases hle:(Ty.plus tx t2).atoms<=400
   ·rw [if_pos hle,show decide ((((E.list [.atom [43],e1,e2]).ats:Nat):Int)<=400) = true from decide_eq_true (by omega)]
    have:=DrR.of hw3
    rw [ht3] at this
    exact this
   ·rw [if_neg hle,show decide ((((E.list [.atom [43],e1,e2]).ats:Nat):Int)<=400) = false from decide_eq_false (by omega)]
    exact DrR.no _ _ ((sp_has _).mpr trivial)
  | @times x y hx hy =>
   have hxy:(E.list [.atom [42],x,y]).ats = x.ats+y.ats+1:=by simp only [E.ats,E.atss]; omega
   have p1:1<=x.ats:=by rw [hx.ats []]; exact atoms_pos _
   have p2:1<=y.ats:=by rw [hy.ats []]; exact atoms_pos _
   refine Fq2l _ _ _ ((sp_has _).mpr trivial) ?_
   have hP:=P3.of (.atom [42]) x y
   simp only [tq21,at_list,toNat_one,toNat_two,↓zq,zs,hasK,zt,hP.1,hP.2.1,hP.2.2.1,hP.2.2.2,sp_hasL]
   refine⟨fun h=>absurd rfl h,fun _=>?_⟩
   refine wp_det (Sq0 [42] x y) ?_
   simp only [↓zq,zs,hasK,zt]
   refine⟨fun h=>by simp at h,fun _=>?_⟩
   repeat refine⟨by omega,?_⟩
   rw [tyA_times,dvO_times]
   refine wp_call (Sq1f n x s hx (by omega) (by omega) hs) (DrR.ne (dv_good hx)) ?_
   rintro r o ⟨rfl,c1,d1,hd1,rfl,hc1⟩
   simp only [↓zq,zs,hasK,zt,hasL_sv hd1]
   repeat refine⟨by omega,?_⟩
   refine wp_call (Sq1f n y s hy (by omega) (by omega) hs) (DrR.ne (dv_good hy)) ?_
   rintro r o ⟨rfl,c2,d2,hd2,rfl,hc2⟩
   simp only [↓zq,zs,hasK,zt,hasL_sv hd2]
   refine wp_det (Sq1z [43] c1 c2 d1 d2) ?_
   simp only [↓zq,zs,hasK,zt,hasL,has_str,has_sl]
   repeat refine⟨by omega,?_⟩
   refine wp_det (Sq0 [42] x y) ?_
   simp only [↓zq,zs,hasK,zt]
   refine⟨fun _=>?_,fun h=>by simp at h⟩
   repeat refine⟨by omega,?_⟩
   refine wp_det (Sq1z [42] c1 y.at d1 y.sp) ?_
   simp only [↓zq,zs,hasK,zt,hasL,has_str,has_sl,sp_has]
   repeat refine⟨by omega,?_⟩
   refine wp_det (Sq1z [42] x.at c2 x.sp d2) ?_
   simp only [↓zq,zs,hasK,zt,hasL,has_str,has_sl,sp_has]
   repeat refine⟨by omega,?_⟩
   refine wp_det (Sq1z [43] [] [] _ _) ?_
   simp only [↓zq,zs,hasK,zt,hasL,has_str,has_sl]
   repeat refine⟨by omega,?_⟩
   cases q1:dvO (tyA x []) s with
   | none =>
    simp only [Option.isSome_none,Option.bind_none]
    exact⟨fun h=>(by cases h),fun _=>DrR.no _ _ ((has_sl _).mpr trivial)⟩
   | some tx =>
   cases q2:dvO (tyA y []) s with
   | none =>
    simp only [Option.isSome_none,Option.isSome_some,Option.bind_none,Option.bind_some]
    exact⟨fun _=>⟨fun h=>(by cases h),fun _=>DrR.no _ _ ((has_sl _).mpr trivial)⟩,fun h=>(by cases h)⟩
   | some t2 =>
   simp only [Option.isSome_some,Option.bind_some]
   refine⟨fun _=>⟨fun _=>?_,fun h=>(by cases h)⟩,fun h=>(by cases h)⟩
   obtain⟨e1,w1,te1,rfl,rfl⟩:=hc1 tx q1
   obtain⟨e2,w2,te2,rfl,rfl⟩:=hc2 t2 q2
   have l1:=w1.ats_le te1 (dvO_iff.1 q1).small
   have l2:=w2.ats_le te2 (dvO_iff.1 q2).small
   have z1:=w1.sz
   have z2:=w2.sz
   have z3:=hx.sz
   have z4:=hy.sz
   have hw3:Wf (.list [.atom [43],.list [.atom [42],e1,y],.list [.atom [42],x,e2]]):=.plus (.times w1 hy) (.times hx w2)
   have ht3:tyA (.list [.atom [43],.list [.atom [42],e1,y],.list [.atom [42],x,e2]]) [] = .plus (.times tx (tyA y [])) (.times (tyA x []) t2):=by rw [tyA_plus,tyA_times,tyA_times,te1,te2]
   have ma:=Sq10 _ hw3.ok (by simp only [E.sz,E.szs]; omega)
   rw [sav_sp] at ma
   simp only [at_list] at ma
   have e3:AV.sl [[.v (.string (mk [43])),slz],[.v (.string (mk [])),.sl [[.v (.string (mk [42])),slz],[.v (.string (mk e1.at)),e1.sp],[.v (.string (mk y.at)),y.sp]]],[.v (.string (mk [])),.sl [[.v (.string (mk [42])),slz],[.v (.string (mk x.at)),x.sp],[.v (.string (mk e2.at)),e2.sp]]]] = (E.list [.atom [43],.list [.atom [42],e1,y],.list [.atom [42],x,e2]]).sp:=by simp only [E.sp,E.scellss,scells_sp]; rfl
   rw [e3]
   refine wp_det ma ?_
   simp only [↓zq,zs,hasK,zt]
   have hd3:(Ty.plus (.times tx (tyA y [])) (.times (tyA x []) t2)).atoms = (E.list [.atom [43],.list [.atom [42],e1,y],.list [.atom [42],x,e2]]).ats:=by rw [<-ht3,<-hw3.ats []]
   unfold chk
   by_cases hle:(Ty.plus (.times tx (tyA y [])) (.times (tyA x []) t2)).atoms<=400
   ·rw [if_pos hle,show decide ((((E.list [.atom [43],.list [.atom [42],e1,y],.list [.atom [42],x,e2]]).ats:Nat):Int)<=400) = true from decide_eq_true (by omega)]
    have:=DrR.of hw3
    rw [ht3] at this
    exact this
   ·rw [if_neg hle,show decide ((((E.list [.atom [43],.list [.atom [42],e1,y],.list [.atom [42],x,e2]]).ats:Nat):Int)<=400) = false from decide_eq_false (by omega)]
    exact DrR.no _ _ ((sp_has _).mpr trivial)
  | @rc m B hm hB =>
   have hlp:=Sqiw n (Sq1f n) m B hm hB hl h4 s hs
   have hg:=dv_good (s:=s) (Wf.rc hm hB)
   refine Fq2l _ _ _ ((sp_has _).mpr trivial) ?_
   have hP:=P3.of (.atom recN) (.atom m) B
   simp only [tq21,at_list,toNat_one,toNat_two,↓zq,zs,hasK,zt,hP.1,hP.2.1,hP.2.2.1,hP.2.2.2,sp_hasL]
   refine⟨fun h=>absurd rfl h,fun _=>?_⟩
   refine wp_det (Sq0 recN (.atom m) B) ?_
   simp only [↓zq,zs,hasK,zt]
   refine⟨fun _=>?_,fun h=>absurd rfl h⟩
   refine wp_call hlp (DrR.ne hg) ?_
   rintro r o ⟨rfl,c1,d1,hd1,rfl,hc1⟩
   simp only [↓zq,zs,hasK,zt,hasL_sv hd1]
   exact⟨rfl,c1,d1,hd1,rfl,hc1⟩
end Go.Proofs.Trees
namespace Go.Proofs.Trees
open Go Go.VL Go.RowKit
theorem dd_len8:∀(n k:Nat),k < 10 ^ (n+1)->(dd k).length<=n+1
 | 0,k,h=>by rw [dd_one (by omega)]; simp
 | n+1,k,h=>by
  by_cases h1:k < 10
  ·rw [dd_one h1]; simp
  ·rw [dd_more h1]
   have:=dd_len8 n (k / 10) (by
    have:10 ^ (n+1+1) = 10*10 ^ (n+1):=by rw [Nat.pow_succ,Nat.mul_comm]
    omega)
   simp; omega
inductive Sh:E->Prop
 | atom {s:Nm} (h:s.length<=20):Sh (.atom s)
 | l3 {h:Nm} {a b:E} (hh:h.length<=20) (ha:Sh a) (hb:Sh b):Sh (.list [.atom h,a,b])
theorem Sh.txt {e:E} (hw:Wf e) (h:Sh e):(txE e).length<=50*e.ats:=by
 induction hw with
 | atom _=>cases h with | atom h=>simp only [txE,E.ats]; omega
 | plus _ _ i1 i2 =>
  cases h with | l3 hh ha hb =>
  have:=i1 ha
  have:=i2 hb
  simp only [txE,txEs,List.length_cons,List.length_append,List.length_nil,E.ats,E.atss]; omega
 | times _ _ i1 i2 =>
  cases h with | l3 hh ha hb =>
  have:=i1 ha
  have:=i2 hb
  simp only [txE,txEs,List.length_cons,List.length_append,List.length_nil,E.ats,E.atss]; omega
 | rc _ _ i =>
  cases h with | l3 hh ha hb =>
  cases ha with | atom ha =>
  have:=i hb
  simp only [txE,txEs,List.length_cons,List.length_append,List.length_nil,E.ats,E.atss]; omega
def shN (t:Ty):Prop:=∀y,hasN y t = true->y.length<=20
theorem tN_len {k:Nat} (h:k < 100000000):(tN k).length<=20:=by
 have:=dd_len8 7 k (by omega)
 simp; omega
theorem cnT_sh (F:List Nm) (hF:F.length<=10000):∀(t:Ty) (to:List Nm) (k:Nat),shN t->(∀w,w∈to->w.length<=20)->k+(F.length+1)*t.atoms < 90000000->Sh (cnT F t to k).1
 | .zero,_,_,_,_,_=>.atom (by simp)
 | .one,_,_,_,_,_=>.atom (by simp)
 | .name s,_,_,hn,_,_=>.atom (hn s (by simp [hasN]))
 | .bound u,to,_,_,ht,_=>by
  refine .atom ?_
  show (nmAt to u).length<=20
  unfold nmAt
  by_cases h:to.length - 1 - u < to.length
  ·rw [List.getD_eq_getElem?_getD,List.getElem?_eq_getElem h]; exact ht _ (List.getElem_mem h)
  ·rw [List.getD_eq_getElem?_getD,List.getElem?_eq_none (by omega)]; simp
 | .plus a b,to,k,hn,ht,hk=>by
  have h1:=cnT_le F a to k
  have:(F.length+1)*(1+a.atoms+b.atoms) = (F.length+1)+(F.length+1)*a.atoms+(F.length+1)*b.atoms:=by simp only [Nat.mul_add,Nat.mul_one]
  simp only [Ty.atoms] at hk
  exact .l3 (by simp) (cnT_sh F hF a to k (fun y hy=>hn y (by simp [hasN,hy])) ht (by omega)) (cnT_sh F hF b to _ (fun y hy=>hn y (by simp [hasN,hy])) ht (by omega))
 | .times a b,to,k,hn,ht,hk=>by
  have h1:=cnT_le F a to k
  have:(F.length+1)*(1+a.atoms+b.atoms) = (F.length+1)+(F.length+1)*a.atoms+(F.length+1)*b.atoms:=by simp only [Nat.mul_add,Nat.mul_one]
  simp only [Ty.atoms] at hk
  exact .l3 (by simp) (cnT_sh F hF a to k (fun y hy=>hn y (by simp [hasN,hy])) ht (by omega)) (cnT_sh F hF b to _ (fun y hy=>hn y (by simp [hasN,hy])) ht (by omega))
 | .rc a,to,k,hn,ht,hk=>by
  obtain⟨g1,g2,_,_⟩:=nx_spec F k
  have:(F.length+1)*(2+a.atoms) = (F.length+1)*2+(F.length+1)*a.atoms:=by simp only [Nat.mul_add]
  simp only [Ty.atoms] at hk
  have hl:=tN_len (k:=nx F k) (by omega)
  exact .l3 (by simp) (.atom hl) (cnT_sh F hF a _ _ hn (fun w hw=>by
   rcases List.mem_append.1 hw with hw | hw
   ·exact ht w hw
   ·simp only [List.mem_singleton] at hw; rw [hw]; exact hl) (by omega))
def cnX (t:Ty):Nm:=txE (cnT (namesOf t []) t [] 0).1
def told (t:Ty):Option Nm:=if t.atoms<=400/\(rdY (cnX t)).isSome = true then some (cnX t) else none
theorem cnX_len {t:Ty} (g:goodT t) (hs:shN t) (ha:t.atoms<=400):(cnX t).length<=20000:=by
 obtain⟨h1,h2,_⟩:=cnT_ok (namesOf t []) t [] 0 (.nil _ _) g.1 fun y hy=>⟨(namesOf_mem t [] y).2 (.inr hy),g.2 y hy⟩
 have hn:=namesOf_len t []
 simp only [List.length_nil,Nat.zero_add] at hn
 have hm:((namesOf t []).length+1)*t.atoms<=401*400:=Nat.mul_le_mul (by omega) ha
 have:=(cnT_sh (namesOf t []) (by omega) t [] 0 hs (fun w hw=>by cases hw) (by omega)).txt h1
 have:=h1.ats_le h2 ha
 unfold cnX; omega
theorem rdE_rdY (s:Nm):(rdE s).isSome = (rdY s).isSome:=by
 rw [rdY_of]
 cases he:rdE s with
 | none=>rfl
 | some e =>
  obtain⟨h1,h2,h3⟩:=rdE_ok he
  simp only [tyOf_some e [],h2]; rfl
theorem Sqjh (s:Nm):FSpec Tryz.prog 180 [.v (.string (mk s))] [] (Det (.v (.bool (rdY s).isSome))):=by
 refine Fqjl _ ?_
 unfold tqbn
 refine wp_call (Sq4j s) (ParR.ne _ _ (fun h=>h)) ?_
 rintro r o ⟨c,d,hd,rfl,hh⟩
 have hhas:hasL [.str,.sl] [.v (.string (mk c)),d] 0:=by simp [hasL,has_str,hd]
 simp only [↓zq,zs,hasK,zt,rdE_rdY]
 exact⟨hhas,rfl,rfl⟩
theorem Sqis {e:E} (h:Wf e) (hl:e.ats<=400) (hs:shN (tyA e [])):FSpec Tryz.prog 156 [.agg [.v (.string (mk e.at)),e.sp]] [] (Det (optS (told (tyA e [])))):=by
 refine Fqhf _ _ ((sp_has _).mpr trivial) ?_
 unfold tq8f
 have z:=h.sz
 have ma:=Sq10 e h.ok (by omega)
 rw [sav_sp] at ma
 have hA:=Sq6g h slz [] ⟨(has_slnil).mpr trivial,rfl⟩ (by omega) (fun o ho=>by cases ho) (by simp)
 have ha:(tyA e []).atoms<=400:=by rw [<-h.ats []]; exact hl
 have hc:apT e [] = (cnT (namesOf (tyA e []) []) (tyA e []) [] 0).1:=by
  unfold apT apN fres
  rw [List.flatMap_nil,List.append_nil,cnT_congr (F':=namesOf (tyA e []) []) fun y=>by rw [fre_mem h,namesOf_mem]]
 have hx:txE (apT e []) = cnX (tyA e []):=by rw [hc]; rfl
 have hlen:=cnX_len h.good hs ha
 have hT:=Sq23 (apT e []) (apT_ok h).1.ok (by rw [hx]; omega)
 rw [sav_sp,hx] at hT
 refine wp_det ma ?_
 simp only [↓zq,zs,hasK,zt]
 refine⟨fun h=>by omega,fun _=>?_⟩
 refine wp_det hA ?_
 simp only [↓zq,zs,hasK,zt,sp_hasL]
 refine wp_det hT ?_
 simp only [↓zq,zs,hasK,zt]
 refine wp_det (Sqjh _) ?_
 simp only [↓zq,zs,hasK,zt]
 unfold told
 refine⟨fun hn=>?_,fun hy=>?_⟩
 ·rw [if_neg (by rw [hn]; simp)]; exact⟨rfl,rfl⟩
 ·rw [if_pos ⟨ha,hy⟩]; exact⟨rfl,rfl⟩
abbrev one1N:Nm:=[35,49]
noncomputable def derLoop (s:Nm):Option Nm:=match rdY s with
 | some (.rc a)=>(lpO a one1N).bind told
 | _=>none
theorem rdY_wf {s:Nm} {t:Ty} (h:rdY s = some t):∃e,rdE s = some e/\Wf e/\tyA e [] = t/\e.ats<=400/\e.ok:=by
 rw [rdY_of] at h
 cases he:rdE s with
 | none=>rw [he] at h; cases h
 | some e =>
  rw [he] at h
  obtain⟨h1,h2,h3⟩:=rdE_ok he
  obtain⟨hok,_⟩:=rdT_ok h1
  obtain⟨w1,w2⟩:=wf_tyOf e [] t hok (fun w hw=>by cases hw) h
  exact⟨e,rfl,w1,w2,h3,hok⟩
theorem lpO_good {e:E} {x:Nm} {a d:Ty} (hw:Wf e) (ht:tyA e [] = .rc a) (hx:okN x) (hd:lpO a x = some d):goodT d/\(shN (.rc a)->shN d):=by
 simp only [lpO,Option.bind_eq_some_iff,dvO_iff,chk_some] at hd
 obtain⟨d',h1,_,rfl⟩:=hd
 have g:goodT (.rc a):=ht ▸ hw.good
 have go:goodT (opn (.name x) a 0):=⟨lc_opn x a g.1,fun y hy=>by
  rcases has_opn a 0 hy with rfl | h
  ·exact hx
  ·exact g.2 y h⟩
 refine⟨g.sub (go.dv h1),fun hs y hy=>?_⟩
 rcases has_sub _ hy with h | ⟨h,h'⟩
 ·exact hs y h
 ·rcases has_opn a 0 (h1.names y h') with e | e
  ·exact absurd e h
  ·exact hs y e
def rdN (y:Nm):Prop:=isPar y = true\/isLoo y = true
theorem tyOf_names:∀(e:E) (ar:List Nm) (t:Ty),tyOf e ar = some t->∀y,hasN y t = true->rdN y
 | .atom s,ar,t,ht,y,hy=>by
  simp only [tyOf] at ht
  split at ht
  ·cases ht; cases hy
  ·split at ht
   ·cases ht; cases hy
   ·split at ht
    ·rename_i hp
     cases ht
     simp only [hasN,decide_eq_true_eq] at hy
     subst hy; exact .inl hp
    ·split at ht
     ·rename_i hq
      split at ht
      ·cases ht; cases hy
      ·cases ht
       simp only [hasN,decide_eq_true_eq] at hy
       subst hy; exact .inr hq
     ·cases ht
 | .list [x,a,b],ar,t,ht,y,hy=>by
  by_cases h0:x.at = [43]
  ·obtain⟨t1,t2,h1,h2,rfl⟩:=tyOf_plus_inv h0 ht
   simp only [hasN,Bool.or_eq_true] at hy
   rcases hy with hy | hy
   ·exact tyOf_names a ar t1 h1 y hy
   ·exact tyOf_names b ar t2 h2 y hy
  ·by_cases h1:x.at = [42]
   ·obtain⟨t1,t2,h2,h3,rfl⟩:=tyOf_times_inv h1 ht
    simp only [hasN,Bool.or_eq_true] at hy
    rcases hy with hy | hy
    ·exact tyOf_names a ar t1 h2 y hy
    ·exact tyOf_names b ar t2 h3 y hy
   ·by_cases h2:x.at = [114,101,99]
    ·obtain⟨t1,hla,h3,rfl⟩:=tyOf_rec_inv h2 ht
     exact tyOf_names b _ t1 h3 y hy
    ·rw [tyOf_no _ h0 h1 h2] at ht; cases ht
 | .list [],ar,t,ht,_,_=>by cases ht
 | .list [_],ar,t,ht,_,_=>by cases ht
 | .list [_,_],ar,t,ht,_,_=>by cases ht
 | .list (_::_::_::_::_),ar,t,ht,_,_=>by cases ht
theorem rdN_ok {y:Nm} (h:rdN y):y.length<=3/\∀r,y≠35::r:=by
 have key:∀lo hi,116<=lo->named lo hi y = true->y.length<=3/\∀r,y≠35::r:=fun lo hi hlo h=>by
  cases y with
  | nil=>cases h
  | cons c r =>
   simp only [named,Bool.and_eq_true,decide_eq_true_eq] at h
   refine⟨by simp; omega,fun r' e=>?_⟩
   have:c = 35:=by injection e
   subst this
   have:=h.1.2.1
   have e35:(35:UInt8).toNat = 35:=rfl
   omega
 rcases h with h | h
 ·exact key 120 122 (by omega) h
 ·exact key 116 116 (by omega) h
theorem rdY_names {s:Nm} {t:Ty} (h:rdY s = some t):∀y,hasN y t = true->rdN y:=by
 rw [rdY_of] at h
 cases he:rdE s with
 | none=>rw [he] at h; cases h
 | some e=>rw [he] at h; exact tyOf_names e [] t h
theorem fresh1 {s:Nm} {a:Ty} (h:rdY s = some (.rc a)):hasN one1N a = false:=by
 cases q:hasN one1N a with
 | false=>rfl
 | true=>exact absurd rfl ((rdN_ok (rdY_names h one1N q)).2 [49])
theorem rdY_sh {s:Nm} {t:Ty} (h:rdY s = some t):shN t:=fun y hy=>by have:=(rdN_ok (rdY_names h y hy)).1; omega
theorem Sqgy {m:Nm} {B:E} (hm:okN m) (hB:Wf B) (hl:(E.list [.atom recN,.atom m,B]).ats<=400):FSpec Tryz.prog 155 [.agg [.v (.string (mk [])),(E.list [.atom recN,.atom m,B]).sp]] [] (DrR (lpO (tyA B [m]) m)):=by
 have hw:Wf (.list [.atom recN,.atom m,B]):=.rc hm hB
 have hT:tyA (.list [.atom recN,.atom m,B]) [] = .rc (tyA B [m]):=tyA_rc _ _ _
 have hP:=P3.of (.atom recN) (.atom m) B
 have hbo:tyA B [] = opn (.name m) (tyA B [m]) 0:=by
  have:=tyA_opn m hB []
  rw [List.append_nil] at this; exact this
 have hba:B.ats+2 = (E.list [.atom recN,.atom m,B]).ats:=by simp only [E.ats,E.atss]; omega
 have i1:=Sq1f 400 B m hB (by omega) (by omega) hm
 have n1:=dv_good (s:=m) hB
 rw [hbo] at i1 n1
 refine Fqje _ _ ((sp_has _).mpr trivial) ?_
 simp only [tqej,at_list,toNat_one,toNat_two,↓zq,zs,hasK,zt,hP.1,hP.2.1,hP.2.2.1,hP.2.2.2,sp_hasL,at_atom']
 repeat refine⟨by omega,?_⟩
 refine wp_call i1 (DrR.ne n1) ?_
 rintro r o ⟨rfl,c1,d1,hd1,rfl,hc1⟩
 simp only [↓zq,zs,hasK,zt,hasL_sv hd1,lpO]
 cases q1:dvO (opn (.name m) (tyA B [m]) 0) m with
 | none =>
  simp only [Option.isSome_none,Option.bind_none]
  exact⟨fun _=>DrR.no _ _ ((sp_has _).mpr trivial),fun h=>(by cases h)⟩
 | some d =>
  simp only [Option.isSome_some,Option.bind_some]
  refine⟨fun h=>(by cases h),fun _=>?_⟩
  obtain⟨ed,wd,td,rfl,rfl⟩:=hc1 d q1
  have p1:=Sq6d hm wd hw (wd.ats_le td (dvO_iff.1 q1).small) hl
  have g1:=chk_good (hw.good.sub (x:=m) wd.good)
  rw [hT,td] at p1 g1
  simp only [at_list] at p1
  repeat refine⟨by omega,?_⟩
  refine wp_call p1 (DrR.ne g1) ?_
  rintro r o ⟨rfl,c2,d2,hd2,rfl,hc2⟩
  simp only [↓zq,zs,hasK,zt,hasL_sv hd2]
  exact⟨rfl,c2,d2,hd2,rfl,hc2⟩
theorem Sqfk (s:Nm):FSpec Tryz.prog 118 [.v (.string (mk s))] [] (Det (optS (derLoop s))):=by
 refine Fqip _ ?_
 unfold tq7d
 refine wp_call (Sq4j s) (ParR.ne _ _ (fun h=>h)) ?_
 rintro r o ⟨c,d,hd,rfl,hh⟩
 have hhas:hasL [.str,.sl] [.v (.string (mk c)),d] 0:=by simp [hasL,has_str,hd]
 simp only [↓zq,zs,hasK,zt]
 refine⟨hhas,fun h=>?_,fun h=>?_⟩
 ·rw [rdE_rdY] at h
  have:rdY s = none:=by cases hq:rdY s<;>simp [hq] at h |-
  unfold derLoop; rw [this]; exact⟨rfl,rfl⟩
 ·rw [rdE_rdY] at h
  obtain⟨t,ht⟩:=Option.isSome_iff_exists.1 h
  obtain⟨e,he,hw,hte,hats,hok⟩:=rdY_wf ht
  obtain⟨e',he',hce⟩:=hh (by rw [he]; rfl)
  rw [he] at he'; cases he'
  have notRec:(∀a,t≠.rc a)->derLoop s = none:=fun hn=>by
   unfold derLoop; rw [ht]
   cases t<;>first | rfl | exact absurd rfl (hn _)
  rw [hce,sav_sp]
  cases hw with
  | @atom c hc =>
   have hn:derLoop s = none:=notRec fun a q=>by
    rw [<-hte] at q
    simp only [tyA] at q
    split at q
    ·cases q
    ·split at q
     ·cases q
     ·split at q<;>cases q
   rw [hn]
   refine wp_det (Sq2u c _ ((sp_has _).mpr trivial) hc) ?_
   simp only [↓zq,zs,hasK,zt]
   exact⟨fun _=>⟨rfl,rfl⟩,fun h=>by simp at h⟩
  | @plus x y hx hy =>
   have hn:derLoop s = none:=notRec fun a q=>by rw [<-hte,tyA_plus] at q; cases q
   rw [hn]
   simp only [at_list]
   refine wp_det (Sq0 [43] x y) ?_
   simp only [↓zq,zs,hasK,zt]
   exact⟨fun _=>⟨rfl,rfl⟩,fun h=>by simp at h⟩
  | @times x y hx hy =>
   have hn:derLoop s = none:=notRec fun a q=>by rw [<-hte,tyA_times] at q; cases q
   rw [hn]
   simp only [at_list]
   refine wp_det (Sq0 [42] x y) ?_
   simp only [↓zq,zs,hasK,zt]
   exact⟨fun _=>⟨rfl,rfl⟩,fun h=>by simp at h⟩
  | @rc m B hm hB =>
   have hrt:tyA (.list [.atom recN,.atom m,B]) [] = .rc (tyA B [m]):=tyA_rc _ _ _
   rw [hrt] at hte
   have hq:derLoop s = (lpO (tyA B [m]) m).bind told:=by
    unfold derLoop; rw [ht,<-hte]
    show (lpO (tyA B [m]) one1N).bind told = _
    rw [lpO_eq (fresh1 (by rw [ht,<-hte])) (by
     cases q:hasN m (tyA B [m]) with
     | false=>rfl
     | true=>exact absurd (by simp) (wfE_names hB [m] m q).2)]
   rw [hq]
   simp only [at_list]
   refine wp_det (Sq0 recN (.atom m) B) ?_
   simp only [↓zq,zs,hasK,zt]
   refine⟨fun h=>by simp at h,fun _=>?_⟩
   have hgood:∀d,lpO (tyA B [m]) m = some d->goodT d/\(shN (.rc (tyA B [m]))->shN d):=fun d hd=>lpO_good (Wf.rc hm hB) hrt hm hd
   refine wp_call (Sqgy hm hB hats) (DrR.ne fun t h=>(hgood t h).1) ?_
   rintro r o ⟨rfl,c1,d1,hd1,rfl,hc1⟩
   simp only [↓zq,zs,hasK,zt,hasL_sv hd1]
   cases q1:lpO (tyA B [m]) m with
   | none =>
    simp only [Option.isSome_none,Option.bind_none]
    exact⟨fun _=>⟨rfl,rfl⟩,fun h=>(by cases h)⟩
   | some d =>
    simp only [Option.isSome_some,Option.bind_some]
    refine⟨fun h=>(by cases h),fun _=>?_⟩
    obtain⟨ed,wd,td,rfl,rfl⟩:=hc1 d q1
    have hl:d.atoms<=400:=by
     simp only [lpO,Option.bind_eq_some_iff,chk_some] at q1
     obtain⟨_,_,h1,h2⟩:=q1
     rw [<-h2]; exact h1
    have hcn:=Sqis wd (wd.ats_le td hl) (by rw [td]; exact(hgood d q1).2 (hte ▸ rdY_sh ht))
    rw [td] at hcn
    refine wp_det hcn ?_
    cases told d<;>simp only [optS,↓zq,zs,hasK,zt]<;>exact⟨rfl,rfl⟩
end Go.Proofs.Trees
namespace Go.Proofs.Trees
open Go Go.VL Go.RowKit
def vT (n:Nat):Vl->Ty->Bool
 | .u,.one=>true
 | .el k,.name _=>decide (k < n)
 | .l w,.plus a _=>vT n w a
 | .r w,.plus _ b=>vT n w b
 | .p x y,.times a b=>vT n x a&&vT n y b
 | .f w,.rc a=>vT n w (opn (.rc a) a 0)
 | _,_=>false
def cls (us:List Ty):Ty->Nat->Ty
 | .bound k,i=>if k < i then .bound k else us.getD (k - i) .zero
 | .plus a b,i=>.plus (cls us a i) (cls us b i)
 | .times a b,i=>.times (cls us a i) (cls us b i)
 | .rc a,i=>.rc (cls us a (i+1))
 | t,_=>t
def usF:List Fr->List Ty
 | []=>[]
 | f::r=>cls (usF r) (tyD f.ex r) 0::usF r
theorem opn_lc (u:Ty):∀(t:Ty) {i:Nat},lcT t i->opn u t i = t
 | .bound k,i,h=>by simp only [opn]; rw [if_neg (by have:k < i:=h; omega)]
 | .plus a b,i,h=>by simp only [opn]; rw [opn_lc u a h.1,opn_lc u b h.2]
 | .times a b,i,h=>by simp only [opn]; rw [opn_lc u a h.1,opn_lc u b h.2]
 | .rc a,i,h=>by simp only [opn]; rw [opn_lc u a (i:=i+1) h]
 | .zero,_,_=>rfl
 | .one,_,_=>rfl
 | .name _,_,_=>rfl
theorem cls_lc (us:List Ty):∀(t:Ty) {i:Nat},lcT t i->cls us t i = t
 | .bound k,i,h=>by simp only [cls]; rw [if_pos (by have:k < i:=h; omega)]
 | .plus a b,i,h=>by simp only [cls]; rw [cls_lc us a h.1,cls_lc us b h.2]
 | .times a b,i,h=>by simp only [cls]; rw [cls_lc us a h.1,cls_lc us b h.2]
 | .rc a,i,h=>by simp only [cls]; rw [cls_lc us a (i:=i+1) h]
 | .zero,_,_=>rfl
 | .one,_,_=>rfl
 | .name _,_,_=>rfl
theorem getD_lc {us:List Ty} (hu:∀u,u∈us->lcT u 0) (k:Nat):lcT (us.getD k .zero) 0:=by
 by_cases h:k < us.length
 ·rw [List.getD_eq_getElem?_getD,List.getElem?_eq_getElem h]; exact hu _ (List.getElem_mem h)
 ·rw [List.getD_eq_getElem?_getD,List.getElem?_eq_none (by omega)]; trivial
theorem lc_cls {us:List Ty} (hu:∀u,u∈us->lcT u 0):∀(t:Ty) (i:Nat),lcT (cls us t i) i
 | .bound k,i=>by
  simp only [cls]
  split
  ·rename_i h; exact h
  ·exact lc_mono _ (getD_lc hu _) (Nat.zero_le _)
 | .plus a b,i=>⟨lc_cls hu a i,lc_cls hu b i⟩
 | .times a b,i=>⟨lc_cls hu a i,lc_cls hu b i⟩
 | .rc a,i=>lc_cls hu a (i+1)
 | .zero,_=>trivial
 | .one,_=>trivial
 | .name _,_=>trivial
theorem opn_cls {us:List Ty} (hu:∀u,u∈us->lcT u 0) (U:Ty):∀(t:Ty) (i:Nat),opn U (cls us t (i+1)) i = cls (U::us) t i
 | .bound k,i=>by
  simp only [cls]
  by_cases h1:k < i
  ·rw [if_pos (by omega),if_pos h1]; simp only [opn]; rw [if_neg (by omega)]
  ·rw [if_neg h1]
   by_cases h2:k = i
   ·subst h2; rw [if_pos (by omega)]; simp [opn]
   ·rw [if_neg (by omega),opn_lc U _ (lc_mono _ (getD_lc hu _) (Nat.zero_le _)),show k - i = (k - (i+1))+1 by omega,List.getD_cons_succ]
 | .plus a b,i=>by simp only [cls,opn]; rw [opn_cls hu U a i,opn_cls hu U b i]
 | .times a b,i=>by simp only [cls,opn]; rw [opn_cls hu U a i,opn_cls hu U b i]
 | .rc a,i=>by simp only [cls,opn]; rw [opn_cls hu U a (i+1)]
 | .zero,_=>rfl
 | .one,_=>rfl
 | .name _,_=>rfl
theorem usF_lc:∀env:List Fr,∀u,u∈usF env->lcT u 0
 | [],u,h=>by cases h
 | f::r,u,h=>by
  rcases List.mem_cons.1 h with rfl | h
  ·exact lc_cls (usF_lc r) _ 0
  ·exact usF_lc r u h
theorem usF_get {env:List Fr} (h:WF env):∀{u:Nat} {g:Fr},env[u]? = some g->(usF env).getD u .zero = cls (usF g.out) (tyD g.ex g.out) 0:=by
 induction h with
 | nil=>intro u g hg; simp at hg
 | cons hs hok hx ht hf hr ih =>
  intro u g hg
  cases u with
  | zero=>simp at hg; subst hg; rfl
  | succ u =>
   have:=ih (u:=u) (g:=g) (by simpa using hg)
   simpa [usF] using this
theorem vis_vT (n:Nat):∀(m:Nat) (v:Vl),v.nodes<=m->∀(e:E) (env:List Fr) (t:Ty),Ask e env t->vis n v (e,env) = vT n v (cls (usF env) t 0)
 | 0,v,hm=>by have:=nodes_pos v; omega
 | m+1,v,hm=>by
  intro e env t A
  have recCase:∀(x a b:E) (env:List Fr) (t1:Ty),Ask (.list [x,a,b]) env (.rc t1)->x.at = [114,101,99]->vis n v (.list [x,a,b],env) = vT n v (cls (usF env) (.rc t1) 0):=by
   intro x a b env t1 A hx
   have hhd:hd (.list [x,a,b]) env = (.list [x,a,b],env):=hd_rec A.wf
   obtain⟨t1',he1,h1,f1,hw1⟩:=wf_enter A.wf A.ok hx A.ty A.cl
   cases he1
   obtain⟨ok1,ok2,ok3,_⟩:=A.ok
   have A':Ask b (.mk a.at (.list [x,a,b]) env::env) t1:=⟨ok3,hw1,h1,f1⟩
   cases v with
   | f w =>
    simp only [Vl.nodes] at hm
    simp only [vis,hhd,hx,beq_self_eq_true,Bool.true_and]
    rw [vis_vT n m w (by omega) b _ t1 A']
    have hty:tyD (.list [x,a,b]) env = .rc t1:=by unfold tyD; rw [A.ty]; rfl
    show vT n w (cls (cls (usF env) (tyD (.list [x,a,b]) env) 0::usF env) t1 0) = vT n w (opn (.rc (cls (usF env) t1 1)) (cls (usF env) t1 1) 0)
    rw [hty,opn_cls (usF_lc env)]
    rfl
   | _=>simp [vis,hhd,hx,cls,vT]
  rcases ty_cases A.wf A.ty with⟨hb,hq⟩ | ⟨u,g,rfl,hq,hu⟩
  ·have hhd:hd e env = (e,env):=hd_none hq
   rcases ty_shapes A.ty hb A.cl with⟨rfl,rfl⟩ | ⟨rfl,rfl⟩ | ⟨s,rfl,rfl,hp,h0,h1⟩ | ⟨x,a,b,t1,t2,rfl,hx,rfl,ha,hbb⟩ | ⟨x,a,b,t1,t2,rfl,hx,rfl,ha,hbb⟩ | ⟨x,a,b,t1,rfl,hx,rfl⟩
   ·have hp0:isPar [48] = false:=rfl
    cases v<;>simp [vis,hhd,cls,vT,hp0]
   ·cases v<;>simp [vis,hhd,cls,vT]
   ·cases v<;>simp [vis,hhd,cls,vT,hp,h1]
   ·obtain⟨ok1,ok2,ok3,_⟩:=A.ok
    obtain⟨f1,f2⟩:=freeLoo_plus A.cl
    cases v with
    | l w =>
     simp only [Vl.nodes] at hm
     simp only [vis,hhd,hx,beq_self_eq_true,Bool.true_and,cls,vT]
     exact vis_vT n m w (by omega) a env t1 ⟨ok2,A.wf,ha,f1⟩
    | r w =>
     simp only [Vl.nodes] at hm
     simp only [vis,hhd,hx,beq_self_eq_true,Bool.true_and,cls,vT]
     exact vis_vT n m w (by omega) b env t2 ⟨ok3,A.wf,hbb,f2⟩
    | _=>simp [vis,hhd,hx,cls,vT]
   ·obtain⟨ok1,ok2,ok3,_⟩:=A.ok
    obtain⟨f1,f2⟩:=freeLoo_times A.cl
    cases v with
    | p w w' =>
     simp only [Vl.nodes] at hm
     simp only [vis,hhd,hx,beq_self_eq_true,Bool.true_and,cls,vT]
     rw [vis_vT n m w (by omega) a env t1 ⟨ok2,A.wf,ha,f1⟩,vis_vT n m w' (by omega) b env t2 ⟨ok3,A.wf,hbb,f2⟩]
    | _=>simp [vis,hhd,hx,cls,vT]
   ·exact recCase x a b env t1 A hx
  ·obtain⟨x,a,b,t',hfe,hok,hx,ht',hf',hwf,hlt⟩:=findF_wf A.wf hq
   have hrec:hd g.ex g.out = (g.ex,g.out):=by rw [hfe]; exact hd_rec hwf
   rw [vis_hd n v (hd_some hq) hrec]
   have hcl:cls (usF env) (.bound u) 0 = cls (usF g.out) (tyD g.ex g.out) 0:=by
    simp only [cls]; rw [if_neg (by omega),Nat.sub_zero]; exact usF_get A.wf hu
   rw [hcl]
   have hty:tyD g.ex g.out = t':=by unfold tyD; rw [ht']; rfl
   rw [hty,hfe]
   rw [hfe] at ht'
   obtain⟨t1,_,_,rfl⟩:=tyOf_rec_inv hx ht'
   exact recCase x a b g.out t1 ⟨hok,hwf,ht',hf'⟩ hx
theorem vis_top {n:Nat} {v:Vl} {e:E} {t:Ty} (A:Ask e [] t):vis n v (e,[]) = vT n v t:=by
 have:=vis_vT n v.nodes v (Nat.le_refl _) e [] t A
 rw [this]
 obtain⟨w,ht⟩:=wf_tyOf e [] t A.ok (fun w hw=>by cases hw) A.ty
 have hl:=tyA_lc w []
 rw [ht] at hl
 exact congrArg (vT n v) (cls_lc _ t hl)
def sbs (σ:Nm->Option Ty):Ty->Ty
 | .name s=>(σ s).getD (.name s)
 | .plus a b=>.plus (sbs σ a) (sbs σ b)
 | .times a b=>.times (sbs σ a) (sbs σ b)
 | .rc a=>.rc (sbs σ a)
 | t=>t
def ext1 (σ:Nm->Option Ty) (x:Nm) (u:Ty):Nm->Option Ty:=fun s=>if s = x then some u else σ s
theorem sbs_sub (σ:Nm->Option Ty) (x:Nm) (u:Ty):∀t:Ty,sbs σ (sub x u t) = sbs (ext1 σ x (sbs σ u)) t
 | .name s=>by
  by_cases h:s = x
  ·simp [sub,sbs,ext1,h]
  ·simp [sub,sbs,ext1,h]
 | .plus a b=>by simp only [sub,sbs,sbs_sub σ x u a,sbs_sub σ x u b]
 | .times a b=>by simp only [sub,sbs,sbs_sub σ x u a,sbs_sub σ x u b]
 | .rc a=>by simp only [sub,sbs,sbs_sub σ x u a]
 | .zero=>rfl
 | .one=>rfl
 | .bound k=>rfl
def clS (σ:Nm->Option Ty):Prop:=∀s u,σ s = some u->lcT u 0
theorem sbs_lc {σ:Nm->Option Ty} (hσ:clS σ):∀(t:Ty) {i:Nat},lcT t i->lcT (sbs σ t) i
 | .name s,i,_=>by
  simp only [sbs]
  cases q:σ s with
  | none=>trivial
  | some u=>exact lc_mono u (hσ s u q) (Nat.zero_le _)
 | .plus a b,i,h=>⟨sbs_lc hσ a h.1,sbs_lc hσ b h.2⟩
 | .times a b,i,h=>⟨sbs_lc hσ a h.1,sbs_lc hσ b h.2⟩
 | .rc a,i,h=>sbs_lc hσ a (i:=i+1) h
 | .zero,_,_=>trivial
 | .one,_,_=>trivial
 | .bound k,_,h=>h
theorem sbs_opn {σ:Nm->Option Ty} (hσ:clS σ) (x:Nm) (U:Ty):∀(t:Ty) (i:Nat),hasN x t = false->sbs (ext1 σ x U) (opn (.name x) t i) = opn U (sbs σ t) i
 | .name s,i,h=>by
  have hs:s≠x:=by simpa [hasN] using h
  simp only [opn,sbs,ext1,if_neg hs]
  cases q:σ s with
  | none=>rfl
  | some u=>exact(opn_lc U u (lc_mono u (hσ s u q) (Nat.zero_le _))).symm
 | .bound k,i,h=>by
  simp only [opn,sbs]
  split
  ·simp [sbs,ext1]
  ·rfl
 | .plus a b,i,h=>by
  simp only [hasN,Bool.or_eq_false_iff] at h
  simp only [opn,sbs,sbs_opn hσ x U a i h.1,sbs_opn hσ x U b i h.2]
 | .times a b,i,h=>by
  simp only [hasN,Bool.or_eq_false_iff] at h
  simp only [opn,sbs,sbs_opn hσ x U a i h.1,sbs_opn hσ x U b i h.2]
 | .rc a,i,h=>by simp only [opn,sbs,sbs_opn hσ x U a (i+1) h]
 | .zero,_,_=>rfl
 | .one,_,_=>rfl
theorem ext1_cl {σ:Nm->Option Ty} (hσ:clS σ) (x:Nm) {u:Ty} (hu:lcT u 0):clS (ext1 σ x u):=fun s v h=>by
 unfold ext1 at h
 split at h
 ·cases h; exact hu
 ·exact hσ s v h
theorem ctx_opn (x:Nm):∀(n:Nat) (c:Vl) (t:Ty) (i:Nat),c.nodes<=n->ctxOk (opn (.name x) t i) c = ctxOk t c
 | 0,c,_,_,h=>by have:=nodes_pos c; omega
 | n+1,c,t,i,hn=>by
  cases t with
  | bound k=>simp only [opn]; split<;>(cases c<;>rfl)
  | plus a b =>
   cases c with
   | l c=>simp only [Vl.nodes] at hn; exact ctx_opn x n c a i (by omega)
   | r c=>simp only [Vl.nodes] at hn; exact ctx_opn x n c b i (by omega)
   | _=>rfl
  | times a b =>
   cases c with
   | l c =>
    cases c with
    | p y z=>simp only [Vl.nodes] at hn; exact ctx_opn x n y a i (by omega)
    | _=>rfl
   | r c =>
    cases c with
    | p y z=>simp only [Vl.nodes] at hn; exact ctx_opn x n z b i (by omega)
    | _=>rfl
   | _=>rfl
  | rc a =>
   cases c with
   | f c =>
    cases c with
    | l y=>simp only [Vl.nodes] at hn; exact ctx_opn x n y a (i+1) (by omega)
    | r c =>
     cases c with
     | p y z =>
      simp only [Vl.nodes] at hn
      have h1:=ctx_opn x n y a (i+1) (by omega)
      have h2:=ctx_opn x n z (.rc a) i (by omega)
      show (ctxOk (opn (.name x) a (i+1)) y&&ctxOk (.rc (opn (.name x) a (i+1))) z) = (ctxOk a y&&ctxOk (.rc a) z)
      rw [h1]
      exact congrArg _ h2
     | _=>rfl
    | _=>rfl
   | _=>rfl
  | _=>rfl
end Go.Proofs.Trees
namespace Go.Proofs.Trees
open Go Go.VL Go.RowKit
theorem plug_opn (x:Nm):∀(n:Nat) (c:Vl) (t:Ty) (i:Nat) (v:Vl),c.nodes<=n->plug (opn (.name x) t i) c v = plug t c v
 | 0,c,_,_,_,h=>by have:=nodes_pos c; omega
 | n+1,c,t,i,v,hn=>by
  cases t with
  | bound k=>simp only [opn]; split<;>(cases c<;>rfl)
  | plus a b =>
   cases c with
   | l c=>simp only [Vl.nodes] at hn; exact congrArg Vl.l (plug_opn x n c a i v (by omega))
   | r c=>simp only [Vl.nodes] at hn; exact congrArg Vl.r (plug_opn x n c b i v (by omega))
   | _=>rfl
  | times a b =>
   cases c with
   | l c =>
    cases c with
    | p y z=>simp only [Vl.nodes] at hn; exact congrArg (fun q=>Vl.p q z) (plug_opn x n y a i v (by omega))
    | _=>rfl
   | r c =>
    cases c with
    | p y z=>simp only [Vl.nodes] at hn; exact congrArg (Vl.p y) (plug_opn x n z b i v (by omega))
    | _=>rfl
   | _=>rfl
  | rc a =>
   cases c with
   | f c =>
    cases c with
    | l y=>simp only [Vl.nodes] at hn; exact congrArg Vl.f (plug_opn x n y a (i+1) v (by omega))
    | r c =>
     cases c with
     | p y z =>
      simp only [Vl.nodes] at hn
      have h2:=plug_opn x n z (.rc a) i v (by omega)
      have h1:=plug_opn x n y a (i+1) (plug (.rc a) z v) (by omega)
      show Vl.f (plug (opn (.name x) a (i+1)) y (plug (.rc (opn (.name x) a (i+1))) z v)) = Vl.f (plug a y (plug (.rc a) z v))
      have h3:plug (.rc (opn (.name x) a (i+1))) z v = plug (.rc a) z v:=h2
      rw [h3,h1]
     | _=>rfl
    | _=>rfl
   | _=>rfl
  | _=>rfl
theorem vT_f {n:Nat} {c:Vl} {a:Ty} (h:vT n c (.rc a) = true):∃w,c = .f w/\vT n w (opn (.rc a) a 0) = true:=by
 cases c with
 | f w=>exact⟨w,rfl,h⟩
 | _=>simp [vT] at h
theorem vT_plus {n:Nat} {c:Vl} {a b:Ty} (h:vT n c (.plus a b) = true):(∃w,c = .l w/\vT n w a = true)\/∃w,c = .r w/\vT n w b = true:=by
 cases c with
 | l w=>exact .inl ⟨w,rfl,h⟩
 | r w=>exact .inr ⟨w,rfl,h⟩
 | _=>simp [vT] at h
theorem vT_times {n:Nat} {c:Vl} {a b:Ty} (h:vT n c (.times a b) = true):∃x y,c = .p x y/\vT n x a = true/\vT n y b = true:=by
 cases c with
 | p x y=>simp only [vT,Bool.and_eq_true] at h; exact⟨x,y,rfl,h.1,h.2⟩
 | _=>simp [vT] at h
theorem drc_open {σ:Nm->Option Ty} (hσ:clS σ) {a c d:Ty} {x:Nm} (ha:lcT (.rc a) 0) (hc:lcT c 0) (hd:lcT d 0):∃X,sbs σ (drc a x c d) = .rc X/\opn (.rc X) X 0 = .plus (sbs (ext1 σ x (sbs σ (.rc a))) c) (.times (sbs (ext1 σ x (sbs σ (.rc a))) d) (sbs σ (drc a x c d))):=by
 refine⟨.plus (sbs σ (sub x (.rc a) c)) (.times (sbs σ (sub x (.rc a) d)) (.bound 0)),rfl,?_⟩
 have h1:=sbs_lc hσ (sub x (.rc a) c) (lc_sub ha c hc)
 have h2:=sbs_lc hσ (sub x (.rc a) d) (lc_sub ha d hd)
 simp only [opn,opn_lc _ _ h1,opn_lc _ _ h2,if_true]
 rw [sbs_sub,sbs_sub]
 simp only [drc,sbs,sbs_sub]
theorem ctxT (n:Nat):∀(m:Nat) (c:Vl),c.nodes<=m->∀(t:Ty) (s:Nm) (d:Ty) (σ:Nm->Option Ty),Dv t s d->clS σ->lcT t 0->vT n c (sbs σ d) = true->ctxOk t c = true
 | 0,c,h=>by have:=nodes_pos c; omega
 | m+1,c,hm=>by
  intro t s d σ hd hσ hl hv
  cases hd with
  | zero=>cases c<;>rfl
  | one=>cases c<;>rfl
  | bound=>cases c<;>rfl
  | hit=>cases c<;>rfl
  | miss=>cases c<;>rfl
  | plus h1 h2 _ =>
   rcases vT_plus hv with⟨w,rfl,hw⟩ | ⟨w,rfl,hw⟩
   ·simp only [Vl.nodes] at hm; exact ctxT n m w (by omega) _ s _ σ h1 hσ hl.1 hw
   ·simp only [Vl.nodes] at hm; exact ctxT n m w (by omega) _ s _ σ h2 hσ hl.2 hw
  | times h1 h2 _ =>
   rcases vT_plus hv with⟨w,rfl,hw⟩ | ⟨w,rfl,hw⟩
   ·obtain⟨x,y,rfl,hx,hy⟩:=vT_times hw
    simp only [Vl.nodes] at hm; exact ctxT n m x (by omega) _ s _ σ h1 hσ hl.1 hx
   ·obtain⟨x,y,rfl,hx,hy⟩:=vT_times hw
    simp only [Vl.nodes] at hm; exact ctxT n m y (by omega) _ s _ σ h2 hσ hl.2 hy
  | @rc a _ c0 d0 x hx hs h1 h2 hsz =>
   have lo:lcT (opn (.name x) a 0) 0:=lc_opn x a hl
   obtain⟨X,e1,e2⟩:=drc_open (x:=x) hσ hl (h1.lc lo) (h2.lc lo)
   have hv':=hv
   rw [e1] at hv'
   obtain⟨w,rfl,hw⟩:=vT_f hv'
   rw [e2] at hw
   have hcl:=ext1_cl hσ x (sbs_lc hσ (.rc a) hl)
   rcases vT_plus hw with⟨y,rfl,hy⟩ | ⟨y,rfl,hy⟩
   ·simp only [Vl.nodes] at hm
    have:=ctxT n m y (by omega) _ s _ _ h1 hcl lo hy
    rw [ctx_opn x y.nodes y a 0 (Nat.le_refl _)] at this
    exact this
   ·obtain⟨y,z,rfl,hy,hz⟩:=vT_times hy
    simp only [Vl.nodes] at hm
    have q1:=ctxT n m y (by omega) _ x _ _ h2 hcl lo hy
    rw [ctx_opn x y.nodes y a 0 (Nat.le_refl _)] at q1
    have q2:=ctxT n m z (by omega) (.rc a) s _ σ (.rc x hx hs h1 h2 hsz) hσ hl hz
    show (ctxOk a y&&ctxOk (.rc a) z) = true
    rw [q1,q2]; rfl
theorem plugT (n:Nat):∀(m:Nat) (c:Vl),c.nodes<=m->∀(t:Ty) (s:Nm) (d:Ty) (σ:Nm->Option Ty),Dv t s d->clS σ->lcT t 0->vT n c (sbs σ d) = true->∀v,vT n v (sbs σ (.name s)) = true->vT n (plug t c v) (sbs σ t) = true
 | 0,c,h=>by have:=nodes_pos c; omega
 | m+1,c,hm=>by
  intro t s d σ hd hσ hl hv v hvv
  have no:∀c,vT n c .zero = false:=fun c=>by cases c<;>rfl
  cases hd with
  | zero=>rw [show sbs σ .zero = .zero from rfl,no] at hv; cases hv
  | one=>rw [show sbs σ .zero = .zero from rfl,no] at hv; cases hv
  | bound=>rw [show sbs σ .zero = .zero from rfl,no] at hv; cases hv
  | miss=>rw [show sbs σ .zero = .zero from rfl,no] at hv; cases hv
  | hit=>rw [plug_name]; exact hvv
  | plus h1 h2 _ =>
   rcases vT_plus hv with⟨w,rfl,hw⟩ | ⟨w,rfl,hw⟩
   ·simp only [Vl.nodes] at hm; exact plugT n m w (by omega) _ s _ σ h1 hσ hl.1 hw v hvv
   ·simp only [Vl.nodes] at hm; exact plugT n m w (by omega) _ s _ σ h2 hσ hl.2 hw v hvv
  | times h1 h2 _ =>
   rcases vT_plus hv with⟨w,rfl,hw⟩ | ⟨w,rfl,hw⟩
   ·obtain⟨x,y,rfl,hx,hy⟩:=vT_times hw
    simp only [Vl.nodes] at hm
    have:=plugT n m x (by omega) _ s _ σ h1 hσ hl.1 hx v hvv
    show (vT n _ _&&vT n _ _) = true
    rw [this,hy]; rfl
   ·obtain⟨x,y,rfl,hx,hy⟩:=vT_times hw
    simp only [Vl.nodes] at hm
    have:=plugT n m y (by omega) _ s _ σ h2 hσ hl.2 hy v hvv
    show (vT n _ _&&vT n _ _) = true
    rw [this,hx]; rfl
  | @rc a _ c0 d0 x hx hs h1 h2 hsz =>
   have lo:lcT (opn (.name x) a 0) 0:=lc_opn x a hl
   obtain⟨X,e1,e2⟩:=drc_open (x:=x) hσ hl (h1.lc lo) (h2.lc lo)
   have hv':=hv
   rw [e1] at hv'
   obtain⟨w,rfl,hw⟩:=vT_f hv'
   rw [e2] at hw
   have hcl:=ext1_cl hσ x (sbs_lc hσ (.rc a) hl)
   have hop:sbs (ext1 σ x (sbs σ (.rc a))) (opn (.name x) a 0) = opn (sbs σ (.rc a)) (sbs σ a) 0:=sbs_opn hσ x _ a 0 hx
   have hns:sbs (ext1 σ x (sbs σ (.rc a))) (.name s) = sbs σ (.name s):=by simp only [sbs,ext1,if_neg (Ne.symm hs)]
   have hnx:sbs (ext1 σ x (sbs σ (.rc a))) (.name x) = sbs σ (.rc a):=by simp [sbs,ext1]
   rcases vT_plus hw with⟨y,rfl,hy⟩ | ⟨y,rfl,hy⟩
   ·simp only [Vl.nodes] at hm
    have:=plugT n m y (by omega) _ s _ _ h1 hcl lo hy v (by rw [hns]; exact hvv)
    rw [hop,plug_opn x y.nodes y a 0 v (Nat.le_refl _)] at this
    exact this
   ·obtain⟨y,z,rfl,hy,hz⟩:=vT_times hy
    simp only [Vl.nodes] at hm
    have q2:=plugT n m z (by omega) (.rc a) s _ σ (.rc x hx hs h1 h2 hsz) hσ hl hz v hvv
    have q1:=plugT n m y (by omega) _ x _ _ h2 hcl lo hy (plug (.rc a) z v) (by rw [hnx]; exact q2)
    rw [hop,plug_opn x y.nodes y a 0 _ (Nat.le_refl _)] at q1
    exact q1
def noS:Nm->Option Ty:=fun _=>none
theorem noS_cl:clS noS:=fun _ _ h=>by cases h
theorem sbs_no:∀t:Ty,sbs noS t = t
 | .name s=>rfl
 | .plus a b=>by simp only [sbs,sbs_no a,sbs_no b]
 | .times a b=>by simp only [sbs,sbs_no a,sbs_no b]
 | .rc a=>by simp only [sbs,sbs_no a]
 | .zero=>rfl
 | .one=>rfl
 | .bound k=>rfl
theorem lp_ctx {n:Nat} {a D:Ty} {x:Nm} (hx:hasN x a = false) (hl:lcT (.rc a) 0) (h:lpO a x = some D) {c:Vl} (hc:vT n c D = true) :
  ctxOk a c = true/\∀v,vT n v (.rc a) = true->vT n (.f (plug a c v)) (.rc a) = true:=by
 simp only [lpO,Option.bind_eq_some_iff,dvO_iff,chk_some] at h
 obtain⟨d,hd,_,rfl⟩:=h
 have lo:lcT (opn (.name x) a 0) 0:=lc_opn x a hl
 have hcl:=ext1_cl noS_cl x hl
 have e1:sub x (.rc a) d = sbs (ext1 noS x (.rc a)) d:=by
  have:=sbs_sub noS x (.rc a) d
  rw [sbs_no,sbs_no] at this; exact this
 rw [e1] at hc
 have h1:=ctxT n c.nodes c (Nat.le_refl _) _ x _ _ hd hcl lo hc
 rw [ctx_opn x c.nodes c a 0 (Nat.le_refl _)] at h1
 refine⟨h1,fun v hv=>?_⟩
 have h2:=plugT n c.nodes c (Nat.le_refl _) _ x _ _ hd hcl lo hc v (by simpa [sbs,ext1] using hv)
 rw [plug_opn x c.nodes c a 0 v (Nat.le_refl _),sbs_opn noS_cl x _ a 0 hx,sbs_no] at h2
 exact h2
end Go.Proofs.Trees
namespace Go.Proofs.Trees
open Go Go.VL Go.RowKit
theorem names_loo {env:List Fr} (h:WF env):∀w,w∈names env->isLoo w = true:=by
 induction h with
 | nil=>intro w hw; cases hw
 | cons hs _ _ _ _ _ ih =>
  intro w hw
  simp only [names,List.mem_append,List.mem_singleton] at hw
  rcases hw with hw | rfl
  ·exact ih w hw
  ·exact hs
theorem nmAt_mem {ar:List (List UInt8)} {k:Nat} (h:k < ar.length):nmAt ar k∈ar:=by
 unfold nmAt
 have:ar.length - 1 - k < ar.length:=by omega
 simp [List.getD_eq_getElem?_getD,this]
def seek (s:List UInt8) (ar:List (List UInt8)):Prop:=isPar s = true\/(lastOf s ar ar.length).isSome = true
theorem seek_loo {s:List UInt8} {ar:List (List UInt8)} {u:Nat} (hl:∀w,w∈ar->isLoo w = true) (h:lastOf s ar ar.length = some u):isLoo s = true:=by
 obtain⟨h1,h2⟩:=lastOf_at _ _ (Nat.le_refl _) h
 rw [<-h2]; exact hl _ (nmAt_mem h1)
theorem at_tgS {s0 s:List UInt8} {ar:List (List UInt8)} {t:Ty} (ht:tyOf (.atom s0) ar = some t) (hl:∀w,w∈ar->isLoo w = true) (hs:seek s ar):isAt t (tgS s ar) = decide (s0 = s):=by
 have h48:∀b:UInt8,isPar [b] = false->isLoo [b] = false->s≠[b]:=fun b h1 h2 e=>by
  subst e
  rcases hs with h | h
  ·rw [h1] at h; cases h
  ·obtain⟨u,hu⟩:=Option.isSome_iff_exists.1 h
   rw [seek_loo hl hu] at h2; cases h2
 simp only [tyOf] at ht
 split at ht
 ·rename_i e; cases ht; subst e
  have:=h48 48 rfl rfl
  rw [decide_eq_false (fun h=>this h.symm)]; cases tgS s ar<;>rfl
 ·split at ht
  ·rename_i e; cases ht; subst e
   have:=h48 49 rfl rfl
   rw [decide_eq_false (fun h=>this h.symm)]; cases tgS s ar<;>rfl
  ·split at ht
   ·rename_i hp
    cases ht
    unfold tgS
    cases e:lastOf s ar ar.length with
    | none=>rfl
    | some u =>
     have hloo:=seek_loo hl e
     show false = _
     rw [decide_eq_false]
     rintro rfl
     rw [par_not_loo hp] at hloo; cases hloo
   ·rename_i hnp
    split at ht
    ·split at ht
     ·rename_i u hu
      cases ht
      unfold tgS
      cases e:lastOf s ar ar.length with
      | none =>
       show false = _
       rw [decide_eq_false]
       rintro rfl
       rw [hu] at e; cases e
      | some u' =>
       show decide (u = u') = _
       rw [Bool.eq_iff_iff,decide_eq_true_eq,decide_eq_true_eq]
       constructor
       ·rintro rfl
        rw [<-(lastOf_at _ _ (Nat.le_refl _) hu).2,<-(lastOf_at _ _ (Nat.le_refl _) e).2]
       ·rintro rfl
        rw [hu] at e; cases e; rfl
     ·rename_i hn
      cases ht
      unfold tgS
      cases e:lastOf s ar ar.length with
      | none=>rfl
      | some u =>
       show false = _
       rw [decide_eq_false]
       rintro rfl
       rw [hn] at e; cases e
    ·cases ht
theorem tgS_hid {b:E} {ar:List (List UInt8)} {w:List UInt8} {t:Ty} (hb:tyOf b (ar++[w]) = some t) (hw:isLoo w = true) (hs:seek w ar):occ t (tgS w ar).up = false:=by
 rcases hs with h | h
 ·rw [par_not_loo h] at hw; cases hw
 ·obtain⟨u,hu⟩:=Option.isSome_iff_exists.1 h
  rw [tgS,hu]; exact shadow hb hu
theorem seek_push {s w:List UInt8} {ar:List (List UInt8)} (h:w≠s) (hs:seek s ar):seek s (ar++[w]):=by
 rcases hs with h1 | h1
 ·exact .inl h1
 ·right; rw [lastOf_other ar h]; obtain⟨u,hu⟩:=Option.isSome_iff_exists.1 h1; rw [hu]; rfl
def IHs (e:E) (s:List UInt8) (t:Ty) (tg:Tg) (v:Vl):Prop:=FSpec Tryz.prog 72 [.agg [.v (.string (mk e.at)),e.sp],.v (.string (mk s)),.agg [.v (.string (mk v.toE.at)),v.toE.sp]] [] (Det (.sl (sAV (holes t tg v))))
theorem Sqj (n:Nat):∀(m:Nat) (v:Vl),v.nodes<=m->∀(e:E) (env:List Fr) (t:Ty),Ask e env t->vis n v (e,env) = true->env.length+v.nodes < 100000->∀(s:List UInt8),seek s (names env)->IHs e s t (tgS s (names env)) v
 | 0,v,hm=>by have:=nodes_pos v; omega
 | m+1,v,hm=>by
  intro e env t A hv hl s hs
  have hloo:=names_loo A.wf
  unfold IHs
  refine Fqk9 _ _ _ _ _ ((sp_has _).mpr trivial) ((sp_has _).mpr trivial) ?_
  have hlen:=holes_len t (tgS s (names env)) v
  have atomCase:∀s0,e = .atom s0->stuck t v = true->wpT Tryz.prog 244 (tqs (mk e.at) e.sp (mk s) (mk v.toE.at) v.toE.sp) fun _ xs obs=>Det (.sl (sAV (holes t (tgS s (names env)) v))) (xs.headD .any) obs:=by
   rintro s0 rfl hst
   have hat:=at_tgS A.ty hloo hs
   have hne:s0≠[]:=A.ok
   simp only [tqs,E.at,↓zq,zs,hasK,zt]
   refine⟨fun _=>⟨fun h=>?_,fun h=>?_⟩,fun h=>absurd h hne⟩
   ·rw [decide_eq_true h] at hat
    rw [holes_at v hat]
    refine⟨⟨len4 _ _ _ _,by omega⟩,?_⟩
    simp [Det,sAV,Vl.toE,E.at,E.sp]
   ·rw [decide_eq_false h] at hat
    rw [holes_no hat hst]
    simp [Det,sAV]
  have hvh:=Sq1v v
  rw [sav_sp] at hvh
  rcases ty_cases A.wf A.ty with⟨hb,hq⟩ | ⟨u,g,rfl,hq,hu⟩
  ·have hhd:hd e env = (e,env):=hd_none hq
   rcases ty_shapes A.ty hb A.cl with⟨rfl,rfl⟩ | ⟨rfl,rfl⟩ | ⟨s0,rfl,rfl,hp,h0,h1⟩ | ⟨x,a,b,t1,t2,rfl,hx,rfl,ha,hbb⟩ | ⟨x,a,b,t1,t2,rfl,hx,rfl,ha,hbb⟩ | ⟨x,a,b,t1,rfl,hx,rfl⟩
   ·exact atomCase _ rfl (by cases v<;>rfl)
   ·exact atomCase _ rfl (by cases v<;>rfl)
   ·exact atomCase _ rfl (by cases v<;>rfl)
   ·obtain⟨ok1,ok2,ok3,_⟩:=A.ok
    obtain⟨f1,f2⟩:=freeLoo_plus A.cl
    have hP:=P3.of x a b
    cases v with
    | l w =>
     simp only [vis,hhd,hx,beq_self_eq_true,Bool.true_and] at hv
     simp only [Vl.nodes] at hm hl hlen
     rw [holes_l] at hlen |-
     rw [inC_len] at hlen
     have hW:=P2.of (.atom [108]) w.toE
     simp only [tqs,E.at,↓zq,zs,hasK,zt]
     refine⟨fun h=>absurd rfl h,fun _=>wp_det hvh ?_⟩
     simp only [vh,Vl.toE,toNat_one,toNat_two,↓zq,zs,hasK,zt,hP.1,hP.2.1,hP.2.2.1,hP.2.2.2,hW.1,hW.2.1,hW.2.2,sp_hasL]
     refine⟨fun _=>?_,fun h=>absurd rfl h⟩
     repeat refine⟨by omega,?_⟩
     refine wp_det (Sqj n m w (by omega) a env t1 ⟨ok2,A.wf,ha,f1⟩ hv (by omega) s hs) ?_
     simp only [↓zq,zs,hasK]
     refine wp_detO (Sqfn [108] Vl.l (fun c=>rfl) (holes t1 (tgS s (names env)) w) [] (by simp; omega)) ?_
     simp [↓zq,zs,hasK,Det,List.headD_cons,List.tail_cons]
    | r w =>
     simp only [vis,hhd,hx,beq_self_eq_true,Bool.true_and] at hv
     simp only [Vl.nodes] at hm hl hlen
     rw [holes_r] at hlen |-
     rw [inC_len] at hlen
     have hW:=P2.of (.atom [114]) w.toE
     simp only [tqs,E.at,↓zq,zs,hasK,zt]
     refine⟨fun h=>absurd rfl h,fun _=>wp_det hvh ?_⟩
     simp only [vh,Vl.toE,toNat_one,toNat_two,↓zq,zs,hasK,zt,hP.1,hP.2.1,hP.2.2.1,hP.2.2.2,hW.1,hW.2.1,hW.2.2,sp_hasL]
     refine⟨fun h=>by simp at h,fun _=>⟨fun _=>?_,fun h=>absurd rfl h⟩⟩
     repeat refine⟨by omega,?_⟩
     refine wp_det (Sqj n m w (by omega) b env t2 ⟨ok3,A.wf,hbb,f2⟩ hv (by omega) s hs) ?_
     simp only [↓zq,zs,hasK]
     refine wp_detO (Sqfn [114] Vl.r (fun c=>rfl) (holes t2 (tgS s (names env)) w) [] (by simp; omega)) ?_
     simp [↓zq,zs,hasK,Det,List.headD_cons,List.tail_cons]
    | _=>simp [vis,hhd,hx] at hv
   ·obtain⟨ok1,ok2,ok3,_⟩:=A.ok
    obtain⟨f1,f2⟩:=freeLoo_times A.cl
    have hP:=P3.of x a b
    cases v with
    | p w w' =>
     simp only [vis,hhd,hx,beq_self_eq_true,Bool.true_and,Bool.and_eq_true] at hv
     simp only [Vl.nodes] at hm hl hlen
     rw [holes_p] at hlen |-
     simp only [List.length_append,inC_len] at hlen
     have hW:=P3.of (.atom [112]) w.toE w'.toE
     simp only [tqs,E.at,↓zq,zs,hasK,zt]
     refine⟨fun h=>absurd rfl h,fun _=>wp_det hvh ?_⟩
     simp only [vh,Vl.toE,toNat_one,toNat_two,↓zq,zs,hasK,zt,hP.1,hP.2.1,hP.2.2.1,hP.2.2.2,hW.1,hW.2.1,hW.2.2.1,hW.2.2.2,sp_hasL]
     refine⟨fun h=>by simp at h,fun _=>⟨fun h=>by simp at h,fun _=>⟨fun _=>?_,fun h=>absurd rfl h⟩⟩⟩
     repeat refine⟨by omega,?_⟩
     refine wp_det (Sqj n m w (by omega) a env t1 ⟨ok2,A.wf,ha,f1⟩ hv.1 (by omega) s hs) ?_
     simp only [↓zq,zs,hasK]
     have h1:=Lq8w s (mk []) (E.list [x,a,b]).sp ((sp_has _).mpr trivial) (mk []) (E.list [.atom [112],w.toE,w'.toE]).sp w w' (P3.of _ _ _) (holes t1 (tgS s (names env)) w) (by omega) _ 0 [] (Nat.zero_add _) (by simp; omega)
     rw [List.drop_zero,List.nil_append] at h1
     refine wp_loop1 h1 ?_
     simp only [↓zq,zs,hasK,sp_has,hasK,toNat_two,hP.1,hP.2.1,hP.2.2.2,hW.1,hW.2.1,hW.2.2.2,sp_hasL]
     repeat refine⟨by omega,?_⟩
     refine wp_det (Sqj n m w' (by omega) b env t2 ⟨ok3,A.wf,hbb,f2⟩ hv.2 (by omega) s hs) ?_
     simp only [↓zq,zs,hasK]
     have h2:=Lqdy (mk []) (E.list [.atom [112],w.toE,w'.toE]).sp w w' (P3.of _ _ _) (holes t2 (tgS s (names env)) w') (by omega) _ 0 (inC (fun c=>Vl.l (.p c w')) (holes t1 (tgS s (names env)) w)) (Nat.zero_add _) (by rw [inC_len]; omega)
     rw [List.drop_zero] at h2
     refine wp_loop1 h2 ?_
     simp [↓zq,zs,hasK,Det]
    | _=>simp [vis,hhd,hx] at hv
   ·obtain⟨t1',he1,h1,f1,hw1⟩:=wf_enter A.wf A.ok hx A.ty A.cl
    cases he1
    obtain⟨ok1,ok2,ok3,_⟩:=A.ok
    obtain⟨_,hla,_,_⟩:=tyOf_rec_inv hx A.ty
    have A':Ask b (.mk a.at (.list [x,a,b]) env::env) t1:=⟨ok3,hw1,h1,f1⟩
    have hnm:names (.mk a.at (.list [x,a,b]) env::env) = names env++[a.at]:=rfl
    have hP:=P3.of x a b
    cases v with
    | f w =>
     simp only [vis,hhd,hx,beq_self_eq_true,Bool.true_and] at hv
     simp only [Vl.nodes] at hm hl hlen
     have hW:=P2.of (.atom [102]) w.toE
     simp only [tqs,E.at,↓zq,zs,hasK,zt]
     refine⟨fun h=>absurd rfl h,fun _=>wp_det hvh ?_⟩
     simp only [vh,Vl.toE,toNat_one,toNat_two,↓zq,zs,hasK,zt,hP.1,hP.2.1,hP.2.2.1,hP.2.2.2,hW.1,hW.2.1,hW.2.2,sp_hasL]
     refine⟨fun h=>by simp at h,fun _=>⟨fun h=>by simp at h,fun _=>⟨fun h=>by simp at h,fun _=>?_⟩⟩⟩
     repeat refine⟨by omega,?_⟩
     refine⟨fun h=>?_,fun h=>?_⟩
     ·
      have hh:a.at = s:=h
      subst hh
      have:occ (.rc t1) (tgS a.at (names env)) = false:=tgS_hid h1 hla hs
      rw [holes_occ _ _ (Nat.le_refl _) _ _ this]
      simp [Det,sAV]
     ·have hh:a.at≠s:=h
      rw [holes_f] at hlen |-
      simp only [List.length_append,inC_len] at hlen
      repeat refine⟨by omega,?_⟩
      have i1:=Sqj n m w (by omega) b _ t1 A' hv (by simp; omega) s (by rw [hnm]; exact seek_push hh hs)
      rw [hnm,tgS_other _ hh] at i1
      refine wp_det i1 ?_
      simp only [↓zq,zs,hasK]
      have h3:=Lqdv s a.at (mk []) (E.list [x,a,b]).sp ((sp_has _).mpr trivial) (mk []) (E.list [.atom [102],w.toE]).sp ((sp_has _).mpr trivial) (holes t1 (tgS s (names env)).up w) (by omega) _ 0 [] (Nat.zero_add _) (by simp; omega)
      rw [List.drop_zero,List.nil_append] at h3
      refine wp_loop1 h3 ?_
      simp only [↓zq,zs,hasK,sp_has,hasK,toNat_one,toNat_two,hP.1,hP.2.1,hP.2.2.2,hW.1,hW.2.1,hW.2.2,sp_hasL]
      repeat refine⟨by omega,?_⟩
      have i2:=Sqj n m w (by omega) b _ t1 A' hv (by simp; omega) a.at (by rw [hnm]; right; rw [lastOf_same]; rfl)
      rw [hnm,tgS_same] at i2
      refine wp_det i2 ?_
      simp only [↓zq,zs,hasK]
      have hl2:=holes_len t1 (.bd 0) w
      have ih3:∀h,h∈holes t1 (.bd 0) w->IHs (.list [x,a,b]) s (.rc t1) (tgS s (names env)) h.2:=fun h hh=>by
       have h3:=(holes_sz hh).1
       have h4:=vis_hole n m w (by omega) b _ t1 A' hv 0 _ rfl h hh
       exact Sqj n m h.2 (by omega) (.list [x,a,b]) env (.rc t1) A h4 (by omega) s hs
      have h4:=Lqa3 s (.list [x,a,b]) t1 (tgS s (names env)) (holes t1 (.bd 0) w) (by omega) ih3 _ 0 (inC (fun c=>.f (.l c)) (holes t1 (tgS s (names env)).up w)) (Nat.zero_add _) (by
       simp only [List.drop_zero,List.length_append,inC_len]
       have hlen2:(holes t1 (tgS s (names env)).up w).length+((holes t1 (.bd 0) w).flatMap (chn t1 (tgS s (names env)))).length<=1+w.nodes:=hlen
       omega)
      rw [List.drop_zero] at h4
      simp only [E.at] at h4
      refine wp_loop1 h4 ?_
      simp [↓zq,zs,hasK,Det]
    | _=>simp [vis,hhd,hx] at hv
  ·cases e with
   | atom s0=>exact atomCase _ rfl (by cases v<;>rfl)
   | list l=>exact absurd hq (by rw [show (E.list l).at = [] from rfl,findF_nil A.wf]; simp)
end Go.Proofs.Trees
namespace Go.Proofs.Trees
open Go Go.VL Go.RowKit
def rdLp (s:List UInt8):Option Ty:=match rdC s with
 | some (.rc a)=>some a
 | _=>none
def optR:Option Ty->AV
 | some a=>(Ty.rc a).av
 | none=>nilp
theorem Sqgz (s:List UInt8):FSpec Tryz.prog 92 [.v (.string (mk s))] [] (Det (optR (rdLp s))):=by
 refine Fqkh _ ?_
 unfold tqav
 refine wp_det (Sqdh s) ?_
 cases h:rdC s with
 | none=>simp [↓zq,zs,hasK,optT,optR,rdLp,h,Det]
 | some t=>cases t<;>simp [↓zq,zs,hasK,optT,optR,rdLp,h,Det,Ty.av]
def lvOK (s v:List UInt8):Option Vl:=match rdLp s with
 | some _=>vOK s v 100
 | none=>none
def lvT (s:List UInt8):AV:=match rdLp s with
 | some a=>(Ty.rc a).av
 | none=>nilp
theorem rdL_rdC {s:List UInt8} {a:Ty} (h:rdLp s = some a):rdC s = some (.rc a):=by
 unfold rdLp at h
 split at h
 ·rename_i e; cases h; exact e
 ·cases h
theorem Sqkc (s v:List UInt8):FSpec Tryz.prog 65 [.v (.string (mk s)),.v (.string (mk v))] [] (Det (.tup [lvT s,optV (lvOK s v)])):=by
 refine Fqg5 _ _ ?_
 unfold tqd3
 refine wp_det (Sqgz s) ?_
 cases h:rdLp s with
 | none=>simp [↓zq,zs,hasK,optR,lvT,lvOK,h,Det,optV]
 | some a =>
  simp only [↓zq,zs,hasK,optR,ty_has,ty_nil]
  refine⟨fun h=>(by cases h),fun _=>?_⟩
  refine wp_det (Sq78 s v 100) ?_
  rw [rdL_rdC h]
  simp [↓zq,zs,hasK,optT,optV_has,lvT,lvOK,h,Det,ty_has]
structure LV (s v:List UInt8) (w:Vl) (a:Ty) (x A B:E):Prop where
 l:rdLp s = some a
 ce:rdCE s = some (.list [x,A,B])
 v:rdV v = some w
 ask:Ask (.list [x,A,B]) [] (.rc a)
 hx:x.at = [114,101,99]
 loo:isLoo A.at = true
 body:Ask B [.mk A.at (.list [x,A,B]) []] a
 vis:vis 100 w (.list [x,A,B],[]) = true
theorem rec_shape {e:E} {env:List Fr} {a:Ty} (A:Ask e env (.rc a)):∃x y z,e = .list [x,y,z]/\x.at = [114,101,99]/\isLoo y.at = true/\Ask z (.mk y.at (.list [x,y,z]) env::env) a:=by
 rcases ty_shapes A.ty rfl A.cl with⟨_,h⟩ | ⟨_,h⟩ | ⟨s,_,h,_⟩ | ⟨x,y,z,t1,t2,_,_,h,_⟩ | ⟨x,y,z,t1,t2,_,_,h,_⟩ | ⟨x,y,z,t1,rfl,hx,h⟩
 ·cases h
 ·cases h
 ·cases h
 ·cases h
 ·cases h
 ·cases h
  obtain⟨t1',he1,h1,f1,hw1⟩:=wf_enter A.wf A.ok hx A.ty A.cl
  cases he1
  obtain⟨_,_,ok3,_⟩:=A.ok
  obtain⟨_,hla,_,_⟩:=tyOf_rec_inv hx A.ty
  exact⟨x,y,z,rfl,hx,hla,ok3,hw1,h1,f1⟩
theorem lvOK_some {s v:List UInt8} {w:Vl} (h:lvOK s v = some w):∃a x A B,LV s v w a x A B:=by
 unfold lvOK at h
 split at h
 ·rename_i a hl
  obtain⟨e,t,m,h1,h2,h3,h4,h5,h6,h7⟩:=vOK_some h
  rw [rdL_rdC hl] at h3
  cases h3
  obtain⟨x,A,B,rfl,hx,hA,hB⟩:=rec_shape h4
  have:m = 100:=by omega
  subst this
  exact⟨a,x,A,B,hl,h1,h2,h4,hx,hA,hB,h7⟩
 ·cases h
theorem LV.bel {s v:List UInt8} {w:Vl} {a:Ty} {x A B:E} (h:LV s v w a x A B):w.bel 100:=(rdV_ok h.v).2.1
theorem LV.nodes {s v:List UInt8} {w:Vl} {a:Ty} {x A B:E} (h:LV s v w a x A B):w.nodes<=200:=(rdV_ok h.v).2.2
theorem vis_rec {n:Nat} {v:Vl} {x A B:E} {env:List Fr} (hw:WF env) (hx:x.at = [114,101,99]) (h:vis n v (.list [x,A,B],env) = true):∃w,v = .f w/\vis n w (B,.mk A.at (.list [x,A,B]) env::env) = true:=by
 have hd:=hd_rec (x:=x) (a:=A) (b:=B) hw
 cases v<;>simp [vis,hd,hx] at h |-
 exact h
theorem Sqi9 (n:Nat) (v:Vl) (x A B:E) (a:Ty) (hA:Ask B [.mk A.at (.list [x,A,B]) []] a) (hx:x.at = [114,101,99]) (hv:vis n v (.list [x,A,B],[]) = true) (hl:v.nodes < 90000):FSpec Tryz.prog 67 [(Ty.rc a).av,v.iav] [] (Det (.sl (hAV (kids a v)))):=by
 obtain⟨w,rfl,hw⟩:=vis_rec .nil hx hv
 refine Fqhn _ _ ((ty_has _).mpr trivial) ((vl_has _).mpr trivial) ?_
 unfold tq9j
 refine wp_call (Sq2p a nilp [] .nil) (InR.ne a nilp []) ?_
 rintro r o ⟨⟨m,hm,rfl⟩,rfl⟩
 have he2:EnvA (.ptr [.pid m [(Ty.rc a).av,nilp],nilp]) [m]:=.cons hm .nil
 have hfr:LK.ptr.has (.pid m [(Ty.rc a).av,nilp]):=.inr (.inr ⟨_,_,rfl⟩)
 simp only [Ty.av] at he2 hfr
 simp only [↓zq,zs,hasK,hasL,ty_has,he2.has,hfr,Vl.iav,vl_has,Ty.av]
 repeat refine⟨by omega,?_⟩
 simp only [Vl.nodes] at hl
 have i2:=Sqg n w.nodes w (Nat.le_refl _) B _ a hA hw (by simp; omega) _ _ he2 (by simp) (.bd 0) [] _ (by have:=TgA.bd (k:=0) (ids:=[m]) (by simp) [(Ty.rc a).av,nilp] []; simpa only [List.getD_cons_zero,Ty.av] using this)
 unfold IHo at i2
 refine wp_det i2 ?_
 simp [↓zq,zs,hasK,Det,kids]
def intsAV (l:List Nat):List (List AV):=l.map fun(k:Nat)=>[.v (.int .i64 (k:Int))]
theorem intsAV_len (l:List Nat):(intsAV l).length = l.length:=by simp [intsAV]
end Go.Proofs.Trees
namespace Go.Proofs.Trees
open Go Go.VL Go.RowKit
theorem dg_isA {b:UInt8} (h:isDg b = true):isA b = true:=by
 simp only [isDg,isA,decide_eq_true_eq] at h |-; omega
theorem rdN_isA {y:Nm} (h:rdN y):y≠[]/\y.all isA = true:=by
 have key:∀lo hi,97<=lo->hi<=122->named lo hi y = true->y≠[]/\y.all isA = true:=fun lo hi h1 h2 h=>by
  cases y with
  | nil=>cases h
  | cons c r =>
   simp only [named,Bool.and_eq_true,decide_eq_true_eq] at h
   refine⟨by simp,?_⟩
   rw [List.all_cons,Bool.and_eq_true]
   refine⟨?_,?_⟩
   ·simp only [isA,decide_eq_true_eq]; omega
   ·rw [List.all_eq_true]
    intro b hb
    exact dg_isA (List.all_eq_true.1 h.2 b hb)
 rcases h with h | h
 ·exact key 120 122 (by omega) (by omega) h
 ·exact key 116 116 (by omega) (by omega) h
theorem tN_isA (m:Nat):(tN m).all isA = true:=by
 rw [List.all_cons,dd_isA (m+1) m (by omega)]; rfl
theorem cnT_pr (F:List Nm):∀(t:Ty) (to:List Nm) (k:Nat),(∀y,hasN y t = true->y≠[]/\y.all isA = true)->(∀w,w∈to->w≠[]/\w.all isA = true)->lcT t to.length->(cnT F t to k).1.pr
 | .zero,_,_,_,_,_=>⟨by simp,by decide⟩
 | .one,_,_,_,_,_=>⟨by simp,by decide⟩
 | .name s,_,_,hn,_,_=>hn s (by simp [hasN])
 | .bound u,to,_,_,ht,hl=>by
  have:to.length - 1 - u < to.length:=by have:u < to.length:=hl; omega
  show (E.atom (nmAt to u)).pr
  unfold nmAt
  rw [List.getD_eq_getElem?_getD,List.getElem?_eq_getElem this]
  exact ht _ (List.getElem_mem this)
 | .plus a b,to,k,hn,ht,hl=>⟨by simp,⟨by simp,by decide⟩,cnT_pr F a to k (fun y hy=>hn y (by simp [hasN,hy])) ht hl.1,cnT_pr F b to _ (fun y hy=>hn y (by simp [hasN,hy])) ht hl.2,trivial⟩
 | .times a b,to,k,hn,ht,hl=>⟨by simp,⟨by simp,by decide⟩,cnT_pr F a to k (fun y hy=>hn y (by simp [hasN,hy])) ht hl.1,cnT_pr F b to _ (fun y hy=>hn y (by simp [hasN,hy])) ht hl.2,trivial⟩
 | .rc a,to,k,hn,ht,hl=>by
  refine⟨by simp,⟨by simp,by decide⟩,⟨by simp,tN_isA _⟩,cnT_pr F a (to++[tN (nx F k)]) _ hn (fun w hw=>?_) (by rw [List.length_append]; exact hl),trivial⟩
  rcases List.mem_append.1 hw with hw | hw
  ·exact ht w hw
  ·simp only [List.mem_singleton] at hw; rw [hw]; exact⟨by simp,tN_isA _⟩
theorem told_back {D:Ty} {dt:Nm} (g:goodT D) (hn:∀y,hasN y D = true->rdN y) (h:told D = some dt):rdY dt = some D:=by
 unfold told at h
 split at h
 ·rename_i hh
  cases h
  obtain⟨t,ht⟩:=Option.isSome_iff_exists.1 hh.2
  obtain⟨e,he,hw,hte,_,_⟩:=rdY_wf ht
  obtain⟨h1,_,_⟩:=rdE_ok he
  obtain⟨hx,hpr,_⟩:=rdT_was h1
  obtain⟨w1,w2,_⟩:=cnT_ok (namesOf D []) D [] 0 (.nil _ _) g.1 fun y hy=>⟨(namesOf_mem D [] y).2 (.inr hy),g.2 y hy⟩
  have hp:=cnT_pr (namesOf D []) D [] 0 (fun y hy=>rdN_isA (hn y hy)) (fun w hw=>by cases hw) g.1
  have:=tx_inj hp hpr hx
  rw [ht,<-hte,<-this,w2]
 ·cases h
theorem lpO_names {a d:Ty} {x:Nm} (h:lpO a x = some d):∀y,hasN y d = true->hasN y a = true:=by
 simp only [lpO,Option.bind_eq_some_iff,dvO_iff,chk_some] at h
 obtain⟨d',h1,_,rfl⟩:=h
 intro y hy
 rcases has_sub _ hy with h | ⟨h,h'⟩
 ·exact h
 ·rcases has_opn a 0 (h1.names y h') with e | e
  ·exact absurd e h
  ·exact e
structure ZT (s d:Nm) (a:Ty) (x A B:E) (D:Ty):Prop where
 l:rdLp s = some a
 ce:rdCE s = some (.list [x,A,B])
 ask:Ask (.list [x,A,B]) [] (.rc a)
 hx:x.at = [114,101,99]
 body:Ask B [.mk A.at (.list [x,A,B]) []] a
 dl:derLoop s = some d
 y:rdY s = some (.rc a)
 lp:lpO a one1N = some D
 bk:rdY d = some D
theorem rdC_rdY {s:Nm} {t:Ty} (h:rdC s = some t):rdY s = some t:=by
 unfold rdC at h
 split at h
 ·cases h
 ·rename_i u hu
  split at h
  ·cases h; exact hu
  ·cases h
theorem ZT.of {s d:Nm} {a:Ty} (hl:rdLp s = some a) (hd:derLoop s = some d):∃x A B D,ZT s d a x A B D:=by
 have hc:=rdL_rdC hl
 cases hce:rdCE s with
 | none=>rw [rdCE_none hce] at hc; cases hc
 | some e =>
  obtain⟨t,h1,hA,_⟩:=rdCE_full hce
  rw [hc] at h1; cases h1
  obtain⟨x,A,B,rfl,hx,hA',hB⟩:=rec_shape hA
  have hy:=rdC_rdY hc
  have hd':=hd
  unfold derLoop at hd'
  rw [hy] at hd'
  obtain⟨D,h2,h3⟩:=Option.bind_eq_some_iff.1 hd'
  obtain⟨e2,he2,hw2,hte2,_,_⟩:=rdY_wf hy
  have hg:=lpO_good hw2 hte2 (x:=one1N) ⟨by simp,by simp,by simp⟩ h2
  exact⟨x,A,B,D,hl,hce,hA,hx,hB,hd,hy,h2,told_back hg.1 (fun y hy'=>rdY_names hy y (lpO_names h2 y hy')) h3⟩
structure Cx (a:Ty) (w:Vl):Prop where
 ok:ctxOk a w = true
 ty:∀v,vT 100 v (.rc a) = true->vT 100 (.f (plug a w v)) (.rc a) = true
 bel:w.bel 100
 nd:w.nodes<=200
structure Fo (a:Ty) (v:Vl):Prop where
 ty:vT 100 v (.rc a) = true
 bel:v.bel 100
 nd:v.nodes<=200
theorem ZT.ctx {s d:Nm} {a:Ty} {x A B:E} {D:Ty} (z:ZT s d a x A B D) {c:Nm} {w:Vl} (h:vOK d c 100 = some w):Cx a w:=by
 obtain⟨e,t,m,h1,h2,h3,h4,h5,h6,h7⟩:=vOK_some h
 have hm:m = 100:=by omega
 subst hm
 have:=rdC_rdY h3
 rw [z.bk] at this; cases this
 rw [vis_top h4] at h7
 obtain⟨e2,he2,hw2,hte2,_,_⟩:=rdY_wf z.y
 have hlc:lcT (.rc a) 0:=hte2 ▸ hw2.good.1
 obtain⟨q1,q2⟩:=lp_ctx (fresh1 z.y) hlc z.lp h7
 exact⟨q1,q2,(rdV_ok h2).2.1,(rdV_ok h2).2.2⟩
theorem ZT.foc {s d:Nm} {a:Ty} {x A B:E} {D:Ty} (z:ZT s d a x A B D) {f:Nm} {v:Vl} (h:lvOK s f = some v):Fo a v/\f = v.txt:=by
 obtain⟨a',x',A',B',L⟩:=lvOK_some h
 have:=L.l
 rw [z.l] at this; cases this
 exact⟨⟨by rw [<-vis_top L.ask]; exact L.vis,L.bel,L.nodes⟩,rdV_was L.v⟩
theorem Fo.vis {s d:Nm} {a:Ty} {x A B:E} {D:Ty} (z:ZT s d a x A B D) {v:Vl} (h:Fo a v):vis 100 v (.list [x,A,B],[]) = true:=by rw [vis_top z.ask]; exact h.ty
theorem ZT.txt {s d:Nm} {a:Ty} {x A B:E} {D:Ty} (z:ZT s d a x A B D) {w:Vl} (hb:w.bel 100) (hv:vT 100 w (.rc a) = true):vOK s w.txt 100 = if w.nodes<=200 then some w else none:=by
 unfold vOK
 rw [z.ce]
 by_cases hn:w.nodes<=200
 ·rw [rdV_txt hb hn,if_pos hn]
  simp only
  rw [if_pos ⟨by omega,by rw [show (100:Int).toNat = 100 from rfl,vis_top z.ask]; exact hv⟩]
 ·rw [if_neg hn]
  cases q:rdV w.txt with
  | none=>rfl
  | some w' =>
   exfalso
   obtain⟨_,h2,h3⟩:=rdV_ok q
   have:=txt_inj hb h2 (rdV_was q)
   rw [this] at hn; exact hn h3
theorem ZT.lv {s d:Nm} {a:Ty} {x A B:E} {D:Ty} (z:ZT s d a x A B D) (f:Nm):lvOK s f = vOK s f 100:=by
 unfold lvOK; rw [z.l]
def rdPth (d:Nm):List Nm->Option (List Vl)
 | []=>some []
 | c::r=>match vOK d c 100,rdPth d r with
  | some w,some l=>some (w::l)
  | _,_=>none
theorem rdPth_some {s d:Nm} {a:Ty} {x A B:E} {D:Ty} (z:ZT s d a x A B D):∀(p:List Nm) (l:List Vl),rdPth d p = some l->p = l.map (·.txt)/\∀c,c∈l->Cx a c
 | [],l,h=>by cases h; exact⟨rfl,fun c hc=>by cases hc⟩
 | c::r,l,h=>by
  simp only [rdPth] at h
  split at h
  ·rename_i w l' h1 h2
   cases h
   obtain⟨q1,q2⟩:=rdPth_some z r l' h2
   obtain⟨_,_,_,_,hv,_⟩:=vOK_some h1
   refine⟨by rw [List.map_cons,<-q1,<-rdV_was hv],fun c' hc'=>?_⟩
   rcases List.mem_cons.1 hc' with rfl | hc'
   ·exact z.ctx h1
   ·exact q2 c' hc'
  ·cases h
theorem rdPth_app (d:Nm):∀(p q:List Nm),rdPth d (p++q) = (rdPth d p).bind fun l=>(rdPth d q).map (l++·)
 | [],q=>by cases h:rdPth d q<;>simp [rdPth,h]
 | c::p,q=>by
  simp only [List.cons_append,rdPth,rdPth_app d p q]
  cases vOK d c 100 with
  | none=>rfl
  | some w =>
   cases rdPth d p with
   | none=>rfl
   | some l=>cases rdPth d q<;>rfl
noncomputable def rdZ (s:Nm) (p:List Nm) (f:Nm):Option (List Vl×Vl):=match lvOK s f,derLoop s with
 | some v,some d=>if p.length<=50 then(rdPth d p).map fun l=>(l,v) else none
 | _,_=>none
def zA (s:Nm):Ty:=(rdLp s).getD .zero
def upF (a:Ty) (l:List Vl) (v:Vl):Option (List Vl×Vl):=match l.getLast? with
 | none=>none
 | some c=>if(Vl.f (plug a c v)).nodes<=200 then some (l.dropLast,.f (plug a c v)) else none
def cloN:Nat->Ty->List Vl->Vl->Option Vl
 | 0,_,_,v=>some v
 | n+1,a,l,v=>(upF a l v).bind fun r=>cloN n a r.1 r.2
def clo (a:Ty) (l:List Vl) (v:Vl):Option Vl:=cloN l.length a l v
noncomputable def rdVd (s:Nm) (p:List Nm) (f:Nm):Option (List Vl×Vl):=(rdZ s p f).bind fun r=>if(clo (zA s) r.1 r.2).isSome = true then some r else none
structure ZI (a:Ty) (l:List Vl) (v:Vl):Prop where
 ctx:∀c,c∈l->Cx a c
 foc:Fo a v
theorem upF_ok {a:Ty} {l l':List Vl} {v w:Vl} (h:ZI a l v) (hu:upF a l v = some (l',w)):ZI a l' w/\l'.length+1 = l.length/\∃c,l = l'++[c]/\w = .f (plug a c v):=by
 unfold upF at hu
 cases q:l.getLast? with
 | none=>rw [q] at hu; cases hu
 | some c =>
  rw [q] at hu
  simp only at hu
  split at hu
  ·rename_i hn
   cases hu
   have hne:l≠[]:=by rintro rfl; cases q
   have hl:l.dropLast++[c] = l:=by
    have:=List.dropLast_concat_getLast hne
    rw [List.getLast?_eq_some_getLast hne] at q
    cases q; exact this
   have hc:c∈l:=by rw [<-hl]; simp
   have hC:=h.ctx c hc
   refine⟨⟨fun c' hc'=>h.ctx c' (by rw [<-hl]; exact List.mem_append_left _ hc'),hC.ty v h.foc.ty,plug_bel 100 a c v hC.bel h.foc.bel,hn⟩,?_,c,hl.symm,rfl⟩
   have:=congrArg List.length hl
   simpa using this
  ·cases hu
end Go.Proofs.Trees
namespace Go.Proofs.Trees
open Go Go.VL Go.RowKit
theorem below_grow (w:World) (k:Nat) (os:Array Obj):Below w.heap.size w (Go.«Sort».grow (w.drewN k) os):=by
 refine⟨rfl,rfl,rfl,?_,fun b hb=>?_⟩
 ·simp [Go.«Sort».grow,World.drewN]
 ·simp only [Go.«Sort».grow,World.drewN]
  rw [Array.getElem?_append_left hb]
theorem Sq46 (k:Nat) (hk:k < 1000000000):FSpec Tryz.prog 146 [.v (.int .i64 (k:Int))] [] (Det (.v (.string (mk (dd k))))):=by
 refine FSpec.libT (xs:=[.int .i64 (k:Int)]) ⟨fd_strconv_Itoa,by kernel_rfl,by kernel_rfl,by kernel_rfl⟩ fun w ht=>?_
 have:=Any.strconv_Itoa Tryz.laysM171 (k:Int) (by omega) (by omega) w ht
 refine Calls.mono this fun e w' ⟨h1,n,os,h2⟩=>⟨?_,?_⟩
 ·rw [h1,Lib.itoa_nonneg]; rfl
 ·rw [h2]; exact below_grow w n os
abbrev hN (k:Nat):Nm:=35::dd k
theorem hN_inj {j k:Nat} (h:hN j = hN k):j = k:=dd_inj (j+1) j k (by omega) (List.cons.inj h).2
theorem Squ (u:Ty):∀(t:Ty) (i:Nat),i+t.atoms < 1000000->FSpec Tryz.prog 110 [t.av,u.av,.v (.int .i64 (i:Int))] [] (Det (opn u t i).av)
 | .zero,i,_=>by
  refine Fq11 _ _ _ ((ty_has _).mpr trivial) ((ty_has _).mpr trivial) ?_
  simp [tqk,Ty.av,opn,↓zq,zs,hasK,Det]
 | .one,i,_=>by
  refine Fq11 _ _ _ ((ty_has _).mpr trivial) ((ty_has _).mpr trivial) ?_
  simp [tqk,Ty.av,opn,↓zq,zs,hasK,Det]
 | .name s,i,_=>by
  refine Fq11 _ _ _ ((ty_has _).mpr trivial) ((ty_has _).mpr trivial) ?_
  simp [tqk,Ty.av,opn,↓zq,zs,hasK,Det]
 | .bound k,i,_=>by
  refine Fq11 _ _ _ ((ty_has _).mpr trivial) ((ty_has _).mpr trivial) ?_
  simp only [tqk,Ty.av,opn,↓zq,zs,hasK,Det]
  refine⟨by omega,fun _=>⟨by omega,fun h=>?_,fun h=>?_⟩,fun h=>absurd rfl h⟩
  ·rw [if_pos (by omega)]
  ·rw [if_neg (by omega)]; rfl
 | .plus a b,i,hl=>by
  simp only [Ty.atoms] at hl
  refine Fq11 _ _ _ ((ty_has _).mpr trivial) ((ty_has _).mpr trivial) ?_
  simp only [tqk,Ty.av,opn,↓zq,zs,hasK,ty_has]
  refine⟨by omega,fun h=>by omega,fun _=>⟨fun _=>?_,fun h=>absurd rfl h⟩⟩
  repeat refine⟨by omega,?_⟩
  refine wp_det (Squ u a i (by omega)) ?_
  simp only [↓zq,zs,hasK,ty_has]
  repeat refine⟨by omega,?_⟩
  refine wp_det (Squ u b i (by omega)) ?_
  simp only [↓zq,zs,hasK,ty_has]
  exact⟨rfl,rfl⟩
 | .times a b,i,hl=>by
  simp only [Ty.atoms] at hl
  refine Fq11 _ _ _ ((ty_has _).mpr trivial) ((ty_has _).mpr trivial) ?_
  simp only [tqk,Ty.av,opn,↓zq,zs,hasK,ty_has]
  refine⟨by omega,fun h=>by omega,fun _=>⟨fun h=>by omega,fun _=>⟨fun _=>?_,fun h=>absurd rfl h⟩⟩⟩
  repeat refine⟨by omega,?_⟩
  refine wp_det (Squ u a i (by omega)) ?_
  simp only [↓zq,zs,hasK,ty_has]
  repeat refine⟨by omega,?_⟩
  refine wp_det (Squ u b i (by omega)) ?_
  simp only [↓zq,zs,hasK,ty_has]
  exact⟨rfl,rfl⟩
 | .rc a,i,hl=>by
  simp only [Ty.atoms] at hl
  refine Fq11 _ _ _ ((ty_has _).mpr trivial) ((ty_has _).mpr trivial) ?_
  simp only [tqk,Ty.av,opn,↓zq,zs,hasK,ty_has]
  refine⟨by omega,fun h=>by omega,fun _=>⟨fun h=>by omega,fun _=>⟨fun h=>by omega,fun _=>⟨fun _=>?_,fun h=>absurd rfl h⟩⟩⟩⟩
  repeat refine⟨by omega,?_⟩
  rw [wrap_succ i (by omega)]
  refine wp_det (Squ u a (i+1) (by omega)) ?_
  simp only [↓zq,zs,hasK,ty_has]
  exact⟨rfl,rfl⟩
theorem Sqa (x:Nm) (u:Ty):∀(t:Ty),FSpec Tryz.prog 111 [t.av,.v (.string (mk x)),u.av] [] (Det (sub x u t).av)
 | .zero=>by
  refine Fqp _ _ _ ((ty_has _).mpr trivial) ((ty_has _).mpr trivial) ?_
  simp [tqf,Ty.av,sub,↓zq,zs,hasK,Det]
 | .one=>by
  refine Fqp _ _ _ ((ty_has _).mpr trivial) ((ty_has _).mpr trivial) ?_
  simp [tqf,Ty.av,sub,↓zq,zs,hasK,Det]
 | .bound k=>by
  refine Fqp _ _ _ ((ty_has _).mpr trivial) ((ty_has _).mpr trivial) ?_
  simp [tqf,Ty.av,sub,↓zq,zs,hasK,Det]
 | .name s=>by
  refine Fqp _ _ _ ((ty_has _).mpr trivial) ((ty_has _).mpr trivial) ?_
  simp only [tqf,Ty.av,sub,↓zq,zs,hasK,zt,Det]
  refine⟨by omega,fun _=>⟨by omega,fun h=>?_,fun h=>?_⟩,fun h=>absurd rfl h⟩
  ·rw [if_pos h]
  ·rw [if_neg h]; rfl
 | .plus a b=>by
  refine Fqp _ _ _ ((ty_has _).mpr trivial) ((ty_has _).mpr trivial) ?_
  simp only [tqf,Ty.av,sub,↓zq,zs,hasK,ty_has]
  refine⟨by omega,fun h=>by omega,fun _=>⟨fun _=>?_,fun h=>absurd rfl h⟩⟩
  repeat refine⟨by omega,?_⟩
  refine wp_det (Sqa x u a) ?_
  simp only [↓zq,zs,hasK,ty_has]
  repeat refine⟨by omega,?_⟩
  refine wp_det (Sqa x u b) ?_
  simp only [↓zq,zs,hasK,ty_has]
  exact⟨rfl,rfl⟩
 | .times a b=>by
  refine Fqp _ _ _ ((ty_has _).mpr trivial) ((ty_has _).mpr trivial) ?_
  simp only [tqf,Ty.av,sub,↓zq,zs,hasK,ty_has]
  refine⟨by omega,fun h=>by omega,fun _=>⟨fun h=>by omega,fun _=>⟨fun _=>?_,fun h=>absurd rfl h⟩⟩⟩
  repeat refine⟨by omega,?_⟩
  refine wp_det (Sqa x u a) ?_
  simp only [↓zq,zs,hasK,ty_has]
  repeat refine⟨by omega,?_⟩
  refine wp_det (Sqa x u b) ?_
  simp only [↓zq,zs,hasK,ty_has]
  exact⟨rfl,rfl⟩
 | .rc a=>by
  refine Fqp _ _ _ ((ty_has _).mpr trivial) ((ty_has _).mpr trivial) ?_
  simp only [tqf,Ty.av,sub,↓zq,zs,hasK,ty_has]
  refine⟨by omega,fun h=>by omega,fun _=>⟨fun h=>by omega,fun _=>⟨fun h=>by omega,fun _=>⟨fun _=>?_,fun h=>absurd rfl h⟩⟩⟩⟩
  repeat refine⟨by omega,?_⟩
  refine wp_det (Sqa x u a) ?_
  simp only [↓zq,zs,hasK,ty_has]
  exact⟨rfl,rfl⟩
theorem Sq4 (c:Int) (a b:Ty):FSpec Tryz.prog 147 [.v (.int .u8 c),a.av,b.av] [] (Det (.ptr [.v (.int .u8 c),.v (.string (mk [])),.v (.int .i64 0),a.av,b.av])):=by
 refine Fqh2 _ _ _ ((ty_has _).mpr trivial) ((ty_has _).mpr trivial) ?_
 simp [tqbf,↓zq,zs,hasK,Det]
abbrev dfO (f:Nat) (g:Bool):Ob:=.cells [.v (.int .i64 (f:Int)),.v (.bool g)]
theorem Sqab (f:Nat) (g:Bool) (hf:f < 100000000):FSpec Tryz.prog 107 [.ref 0 0] [dfO f g] (DetO (.v (.string (mk (hN (f+1))))) [dfO (f+1) g]):=by
 refine Fqhe _ _ ?_
 simp only [tq97,↓zq,zs,hasK,zt]
 rw [wrap_succ f (by omega)]
 refine wp_det (Sq46 (f+1) (by omega)) ?_
 have hd:=dd_len8 8 (f+1) (by omega)
 simp only [↓zq,zs,hasK,zt,List.cons_append,List.nil_append]
 exact⟨by simp [size_mk]; omega,rfl,rfl⟩
def ckR (g:Bool) (t:Ty):Ty:=if g = true\/400 < t.atoms then .zero else t
def ckG (g:Bool) (t:Ty):Bool:=g||decide (400 < t.atoms)
theorem ckR_t (t:Ty):ckR true t = .zero:=by simp [ckR]
theorem ckG_t (t:Ty):ckG true t = true:=rfl
theorem ckR_f {t:Ty} (h:t.atoms<=400):ckR false t = t:=by simp [ckR,show ¬ 400 < t.atoms by omega]
theorem ckG_f {t:Ty} (h:t.atoms<=400):ckG false t = false:=by simp [ckG,show ¬ 400 < t.atoms by omega]
theorem ckG_n {t:Ty} (h:¬ t.atoms<=400):ckG false t = true:=by simp [ckG,show 400 < t.atoms by omega]
theorem ckR_n {t:Ty} (h:¬ t.atoms<=400):ckR false t = .zero:=by simp [ckR,show 400 < t.atoms by omega]
theorem Sq3 (f:Nat) (g:Bool) (t:Ty) (hl:t.atoms < 1000000):FSpec Tryz.prog 108 [.ref 0 0,t.av] [dfO f g] (DetO (ckR g t).av [dfO f (ckG g t)]):=by
 refine Fqgn _ _ _ ((ty_has _).mpr trivial) ?_
 simp only [tq9z,↓zq,zs,hasK,zt]
 cases g with
 | true=>exact⟨fun _=>⟨rfl,rfl⟩,fun h=>(by cases h)⟩
 | false =>
  refine⟨fun h=>(by cases h),fun _=>?_⟩
  refine wp_det (Sqi t hl) ?_
  simp only [↓zq,zs,hasK,zt]
  refine⟨fun h=>?_,fun h=>?_⟩
  ·have h:400 < t.atoms:=by omega
   simp [ckR,ckG,h,DetO,Ty.av]
  ·have h:¬ 400 < t.atoms:=by omega
   simp [ckR,ckG,h,DetO]
theorem Sq6m (t:Ty) (s:Nm) (f:Nat):FSpec Tryz.prog 109 [.ref 0 0,t.av,.v (.string (mk s))] [dfO f true] (DetO Ty.zero.av [dfO f true]):=by
 refine Fq7u _ _ _ _ ((ty_has _).mpr trivial) ?_
 simp only [tqe,↓zq,zs,hasK]
 exact⟨fun _=>⟨rfl,rfl⟩,fun h=>(by cases h)⟩
def okF (f:Nat) (t:Ty):Prop:=∀j,f < j->hasN (hN j) t = false
def bdF (o:Option Ty) (t:Ty):Nat:=match o with | some d=>d.atoms | none=>1000*t.atoms
def OfR (o:Option Ty) (f B:Nat):AV->List Ob->Prop:=fun r ob=>∃f':Nat,f<=f'/\f'<=f+B/\r = (o.getD .zero).av/\ob = [dfO f' o.isNone]
theorem OfR.ne (o:Option Ty) (f B:Nat):∃r ob,OfR o f B r ob:=⟨_,_,f,Nat.le_refl _,Nat.le_add_right _ _,rfl,rfl⟩
theorem okF_mono {f f':Nat} {t:Ty} (h:okF f t) (hf:f<=f'):okF f' t:=fun j hj=>h j (by omega)
theorem Sqw:∀(n:Nat) (t:Ty),t.atoms<=n->t.atoms<=400->∀(s:Nm) (f:Nat),okF f t->(∀j,f < j->s≠hN j)->f+1000*t.atoms < 50000000->FSpec Tryz.prog 109 [.ref 0 0,t.av,.v (.string (mk s))] [dfO f false] (OfR (dvO t s) f (bdF (dvO t s) t))
 | 0,t,h=>by have:=atoms_pos t; omega
 | n+1,t,hn=>by
  intro h4 s f hf hs hb
  refine Fq7u _ _ _ _ ((ty_has _).mpr trivial) ?_
  have fin0:∀u:Ty,dvO t s = some u->OfR (dvO t s) f (bdF (dvO t s) t) u.av [dfO f false]:=fun u hu=>by
   rw [hu]; exact⟨f,Nat.le_refl _,Nat.le_add_right _ _,rfl,rfl⟩
  cases t with
  | zero =>
   have:=fin0 .zero (dvO_zero s)
   simpa [tqe,Ty.av,↓zq,zs,hasK] using this
  | one =>
   have:=fin0 .zero (dvO_one s)
   simpa [tqe,Ty.av,↓zq,zs,hasK] using this
  | bound k =>
   have:=fin0 .zero (dvO_bound k s)
   simpa [tqe,Ty.av,↓zq,zs,hasK] using this
  | name c =>
   simp only [tqe,Ty.av,↓zq,zs,hasK,zt]
   refine⟨fun h=>(by cases h),fun _=>⟨by omega,fun _=>⟨by omega,fun h=>?_,fun h=>?_⟩,fun h=>absurd rfl h⟩⟩
   ·exact fin0 .one (by rw [dvO_name,if_pos h])
   ·exact fin0 .zero (by rw [dvO_name,if_neg h])
  | plus a b =>
   simp only [Ty.atoms] at hn h4 hb
   have pa:=atoms_pos a
   have pb:=atoms_pos b
   have fa:okF f a:=fun j hj=>by have:=hf j hj; simp only [hasN,Bool.or_eq_false_iff] at this; exact this.1
   have fb:okF f b:=fun j hj=>by have:=hf j hj; simp only [hasN,Bool.or_eq_false_iff] at this; exact this.2
   simp only [tqe,Ty.av,↓zq,zs,hasK,zt,ty_has]
   refine⟨fun h=>(by cases h),fun _=>⟨by omega,fun h=>by omega,fun _=>⟨fun _=>?_,fun h=>absurd rfl h⟩⟩⟩
   repeat refine⟨by omega,?_⟩
   rw [dvO_plus]
   refine wp_call (Sqw n a (by omega) (by omega) s f fa hs (by omega)) (OfR.ne _ _ _) ?_
   rintro r ob ⟨f1,g1,g2,rfl,rfl⟩
   simp only [↓zq,zs,hasK,zt,hasC,ty_has]
   repeat refine⟨by omega,?_⟩
   cases q1:dvO a s with
   | none =>
    rw [q1] at g2
    simp only [bdF] at g2
    simp only [Option.isNone_none,Option.getD_none,Option.bind_none]
    refine wp_detO (Sq6m b s f1) ?_
    simp only [↓zq,zs,hasK,zt,hasC,ty_has]
    repeat refine⟨by omega,?_⟩
    refine wp_det (Sq4 43 _ _) ?_
    simp only [↓zq,zs,hasK,zt,has_ptr]
    refine wp_detO (Sq3 f1 true (.plus .zero .zero) (by simp [Ty.atoms])) ?_
    simp only [↓zq,zs,hasK,zt,hasC,ty_has]
    exact⟨f1,g1,by simp only [bdF,Ty.atoms]; omega,rfl,rfl⟩
   | some a' =>
    rw [q1] at g2
    simp only [bdF] at g2
    have la:=(dvO_iff.1 q1).small
    simp only [Option.isNone_some,Option.getD_some,Option.bind_some]
    refine wp_call (Sqw n b (by omega) (by omega) s f1 (okF_mono fb g1) (fun j hj=>hs j (by omega)) (by omega)) (OfR.ne _ _ _) ?_
    rintro r ob ⟨f2,k1,k2,rfl,rfl⟩
    simp only [↓zq,zs,hasK,zt,hasC,ty_has]
    repeat refine⟨by omega,?_⟩
    refine wp_det (Sq4 43 _ _) ?_
    simp only [↓zq,zs,hasK,zt,has_ptr]
    cases q2:dvO b s with
    | none =>
     rw [q2] at k2
     simp only [bdF] at k2
     simp only [Option.isNone_none,Option.getD_none,Option.bind_none]
     refine wp_detO (Sq3 f2 true (.plus a' .zero) (by simp [Ty.atoms]; omega)) ?_
     simp only [↓zq,zs,hasK,zt,hasC,ty_has]
     exact⟨f2,by omega,by simp only [bdF,Ty.atoms]; omega,rfl,rfl⟩
    | some b' =>
     rw [q2] at k2
     simp only [bdF] at k2
     have lb:=(dvO_iff.1 q2).small
     simp only [Option.isNone_some,Option.getD_some,Option.bind_some]
     refine wp_detO (Sq3 f2 false (.plus a' b') (by simp only [Ty.atoms]; omega)) ?_
     simp only [↓zq,zs,hasK,zt,hasC,ty_has]
     unfold chk
     by_cases hle:(Ty.plus a' b').atoms<=400
     ·rw [if_pos hle]
      refine⟨f2,by omega,by simp only [bdF,Ty.atoms]; omega,?_,?_⟩
      ·simp [ckR,show ¬ 400 < (Ty.plus a' b').atoms by omega]
      ·simp [ckG,show ¬ 400 < (Ty.plus a' b').atoms by omega]
     ·rw [if_neg hle]
      refine⟨f2,by omega,by simp only [bdF,Ty.atoms]; omega,?_,?_⟩
      ·simp [ckR,show 400 < (Ty.plus a' b').atoms by omega]
      ·simp [ckG,show 400 < (Ty.plus a' b').atoms by omega]
  | times a b =>
   simp only [Ty.atoms] at hn h4 hb
   have pa:=atoms_pos a
   have pb:=atoms_pos b
   have fa:okF f a:=fun j hj=>by have:=hf j hj; simp only [hasN,Bool.or_eq_false_iff] at this; exact this.1
   have fb:okF f b:=fun j hj=>by have:=hf j hj; simp only [hasN,Bool.or_eq_false_iff] at this; exact this.2
   simp only [tqe,Ty.av,↓zq,zs,hasK,zt,ty_has]
   refine⟨fun h=>(by cases h),fun _=>⟨by omega,fun h=>by omega,fun _=>⟨fun h=>by omega,fun _=>⟨fun _=>?_,fun h=>absurd rfl h⟩⟩⟩⟩
   repeat refine⟨by omega,?_⟩
   rw [dvO_times]
   refine wp_call (Sqw n a (by omega) (by omega) s f fa hs (by omega)) (OfR.ne _ _ _) ?_
   rintro r ob ⟨f1,g1,g2,rfl,rfl⟩
   simp only [↓zq,zs,hasK,zt,hasC,ty_has]
   repeat refine⟨by omega,?_⟩
   refine wp_det (Sq4 42 _ _) ?_
   simp only [↓zq,zs,hasK,zt,has_ptr]
   repeat refine⟨by omega,?_⟩
   cases q1:dvO a s with
   | none =>
    rw [q1] at g2
    simp only [bdF] at g2
    simp only [Option.isNone_none,Option.getD_none,Option.bind_none]
    refine wp_detO (Sq6m b s f1) ?_
    simp only [↓zq,zs,hasK,zt,hasC,ty_has]
    repeat refine⟨by omega,?_⟩
    refine wp_det (Sq4 42 _ _) ?_
    simp only [↓zq,zs,hasK,zt,has_ptr]
    refine wp_det (Sq4 43 (.times .zero b) (.times a .zero)) ?_
    simp only [↓zq,zs,hasK,zt,has_ptr]
    refine wp_detO (Sq3 f1 true (.plus (.times .zero b) (.times a .zero)) (by simp only [Ty.atoms]; omega)) ?_
    simp only [↓zq,zs,hasK,zt,hasC,ty_has]
    exact⟨f1,g1,by simp only [bdF,Ty.atoms]; omega,rfl,rfl⟩
   | some a' =>
    rw [q1] at g2
    simp only [bdF] at g2
    have la:=(dvO_iff.1 q1).small
    simp only [Option.isNone_some,Option.getD_some,Option.bind_some]
    refine wp_call (Sqw n b (by omega) (by omega) s f1 (okF_mono fb g1) (fun j hj=>hs j (by omega)) (by omega)) (OfR.ne _ _ _) ?_
    rintro r ob ⟨f2,k1,k2,rfl,rfl⟩
    simp only [↓zq,zs,hasK,zt,hasC,ty_has]
    repeat refine⟨by omega,?_⟩
    refine wp_det (Sq4 42 _ _) ?_
    simp only [↓zq,zs,hasK,zt,has_ptr]
    cases q2:dvO b s with
    | none =>
     rw [q2] at k2
     simp only [bdF] at k2
     simp only [Option.isNone_none,Option.getD_none,Option.bind_none]
     refine wp_det (Sq4 43 (.times a' b) (.times a .zero)) ?_
     simp only [↓zq,zs,hasK,zt,has_ptr]
     refine wp_detO (Sq3 f2 true (.plus (.times a' b) (.times a .zero)) (by simp only [Ty.atoms]; omega)) ?_
     simp only [↓zq,zs,hasK,zt,hasC,ty_has]
     exact⟨f2,by omega,by simp only [bdF,Ty.atoms]; omega,rfl,rfl⟩
    | some b' =>
     rw [q2] at k2
     simp only [bdF] at k2
     have lb:=(dvO_iff.1 q2).small
     simp only [Option.isNone_some,Option.getD_some,Option.bind_some]
     refine wp_det (Sq4 43 (.times a' b) (.times a b')) ?_
     simp only [↓zq,zs,hasK,zt,has_ptr]
     refine wp_detO (Sq3 f2 false (.plus (.times a' b) (.times a b')) (by simp only [Ty.atoms]; omega)) ?_
     simp only [↓zq,zs,hasK,zt,hasC,ty_has]
     unfold chk
     by_cases hle:(Ty.plus (.times a' b) (.times a b')).atoms<=400
     ·rw [if_pos hle]
      refine⟨f2,by omega,by simp only [bdF,Ty.atoms]; omega,?_,?_⟩
      ·simp [ckR,show ¬ 400 < (Ty.plus (.times a' b) (.times a b')).atoms by omega]
      ·simp [ckG,show ¬ 400 < (Ty.plus (.times a' b) (.times a b')).atoms by omega]
     ·rw [if_neg hle]
      refine⟨f2,by omega,by simp only [bdF,Ty.atoms]; omega,?_,?_⟩
      ·simp [ckR,show 400 < (Ty.plus (.times a' b) (.times a b')).atoms by omega]
      ·simp [ckG,show 400 < (Ty.plus (.times a' b) (.times a b')).atoms by omega]
  | rc a =>
   simp only [Ty.atoms] at hn h4 hb
   have pa:=atoms_pos a
   have fa:okF f a:=fun j hj=>hf j hj
   have hxa:hasN (hN (f+1)) a = false:=fa _ (by omega)
   have hxs:hN (f+1)≠s:=fun e=>hs _ (by omega) e.symm
   have fo:okF (f+1) (opn (.name (hN (f+1))) a 0):=fun j hj=>by
    cases q:hasN (hN j) (opn (.name (hN (f+1))) a 0) with
    | false=>rfl
    | true =>
     rcases has_opn a 0 q with e | e
     ·have:=hN_inj e; omega
     ·rw [fa j (by omega)] at e; cases e
   have hoa:(opn (.name (hN (f+1))) a 0).atoms = a.atoms:=opn_atoms _ _ _
   have hop:=Squ (.name (hN (f+1))) a 0 (by omega)
   rw [dvO_rc hxa hxs]
   simp only [tqe,Ty.av,↓zq,zs,hasK,zt,ty_has]
   refine⟨fun h=>(by cases h),fun _=>⟨by omega,fun h=>by omega,fun _=>⟨fun h=>by omega,fun _=>⟨fun h=>by omega,fun _=>⟨fun _=>?_,fun h=>absurd rfl h⟩⟩⟩⟩⟩
   refine wp_detO (Sqab f false (by omega)) ?_
   simp only [↓zq,zs,hasK,zt,hasC,ty_has]
   repeat refine⟨by omega,?_⟩
   simp only [Ty.av] at hop
   refine wp_det hop ?_
   simp only [↓zq,zs,hasK,zt,hasC,ty_has]
   refine wp_call (Sqw n (opn (.name (hN (f+1))) a 0) (by omega) (by omega) s (f+1) fo (fun j hj=>hs j (by omega)) (by omega)) (OfR.ne _ _ _) ?_
   rintro r ob ⟨f1,g1,g2,rfl,rfl⟩
   simp only [↓zq,zs,hasK,zt,hasC,ty_has]
   generalize hx:hN (f+1) = x at *
   generalize hin:opn (.name x) a 0 = i at *
   have hrc:(Ty.rc a).av = .ptr [.v (.int .u8 114),.v (.string (mk [])),.v (.int .i64 0),a.av,.v (.pointer none)]:=rfl
   cases q1:dvO i s with
   | none =>
    rw [q1] at g2
    simp only [bdF] at g2
    simp only [Option.isNone_none,Option.getD_none,Option.bind_none]
    refine wp_detO (Sq3 f1 true .zero (by simp [Ty.atoms])) ?_
    simp only [↓zq,zs,hasK,zt,hasC,ty_has]
    rw [<-hrc]
    refine wp_det (Sqa x (.rc a) _) ?_
    simp only [↓zq,zs,hasK,zt,ty_has]
    refine wp_detO (Sq6m i x f1) ?_
    simp only [↓zq,zs,hasK,zt,hasC,ty_has]
    refine wp_detO (Sq3 f1 true .zero (by simp [Ty.atoms])) ?_
    simp only [↓zq,zs,hasK,zt,hasC,ty_has]
    refine wp_det (Sqa x (.rc a) _) ?_
    simp only [↓zq,zs,hasK,zt,ty_has]
    refine wp_det (Sq4 42 _ (.bound 0)) ?_
    simp only [↓zq,zs,hasK,zt,has_ptr]
    refine wp_det (Sq4 43 (sub x (.rc a) (ckR true .zero)) (.times (sub x (.rc a) (ckR true .zero)) (.bound 0))) ?_
    simp only [↓zq,zs,hasK,zt,has_ptr,ckG_t]
    have hz:sub x (.rc a) (ckR true .zero) = .zero:=by rw [ckR_t]; rfl
    refine wp_detO (Sq3 f1 true (.rc (.plus (sub x (.rc a) (ckR true .zero)) (.times (sub x (.rc a) (ckR true .zero)) (.bound 0)))) (by rw [hz]; simp only [Ty.atoms]; omega)) ?_
    simp only [↓zq,zs,hasK,zt,hasC,ty_has]
    rw [ckR_t,ckG_t]
    exact⟨f1,by omega,by simp only [bdF,Ty.atoms]; omega,rfl,rfl⟩
   | some c =>
    rw [q1] at g2
    simp only [bdF] at g2
    have lc:=(dvO_iff.1 q1).small
    simp only [Option.isNone_some,Option.getD_some,Option.bind_some]
    refine wp_detO (Sq3 f1 false c (by omega)) ?_
    simp only [↓zq,zs,hasK,zt,hasC,ty_has]
    rw [ckR_f lc,ckG_f lc,<-hrc]
    refine wp_det (Sqa x (.rc a) c) ?_
    simp only [↓zq,zs,hasK,zt,ty_has]
    refine wp_call (Sqw n i (by omega) (by omega) x f1 (okF_mono fo g1) (fun j hj=>by rw [<-hx]; exact fun e=>by have:=hN_inj e; omega) (by omega)) (OfR.ne _ _ _) ?_
    rintro r ob ⟨f2,k1,k2,rfl,rfl⟩
    simp only [↓zq,zs,hasK,zt,hasC,ty_has]
    have hsc:(sub x (.rc a) c).atoms+cntN x c = c.atoms+cntN x c*(Ty.rc a).atoms:=sub_atoms_eq x (.rc a) c
    have hcc:∀t:Ty,cntN x t<=t.atoms:=fun t=>by
     have h1:=sub_atoms_eq x .zero t
     have h2:=sub_atoms x .zero t
     simp only [Ty.atoms,Nat.mul_one] at h1
     have h3:∀t:Ty,cntN x t<=t.atoms:=by
      intro t
      induction t with
      | name s=>simp only [cntN,Ty.atoms]; split<;>omega
      | plus a b i1 i2=>simp only [cntN,Ty.atoms]; omega
      | times a b i1 i2=>simp only [cntN,Ty.atoms]; omega
      | rc a i=>simp only [cntN,Ty.atoms]; omega
      | _=>simp [cntN,Ty.atoms]
     exact h3 t
    have hbig:∀t:Ty,t.atoms<=400->(sub x (.rc a) t).atoms<=400+400*402:=fun t ht=>by
     have h1:=sub_atoms_eq x (.rc a) t
     have h2:=hcc t
     have h3:cntN x t*(Ty.rc a).atoms<=400*402:=Nat.mul_le_mul (by omega) (by simp only [Ty.atoms]; omega)
     omega
    have b1:=hbig c lc
    cases q2:dvO i x with
    | none =>
     rw [q2] at k2
     simp only [bdF] at k2
     simp only [Option.isNone_none,Option.getD_none,Option.bind_none]
     refine wp_detO (Sq3 f2 true .zero (by simp [Ty.atoms])) ?_
     simp only [↓zq,zs,hasK,zt,hasC,ty_has]
     rw [ckR_t,ckG_t]
     refine wp_det (Sqa x (.rc a) .zero) ?_
     simp only [↓zq,zs,hasK,zt,ty_has]
     refine wp_det (Sq4 42 _ (.bound 0)) ?_
     simp only [↓zq,zs,hasK,zt,has_ptr]
     refine wp_det (Sq4 43 (sub x (.rc a) c) (.times (sub x (.rc a) .zero) (.bound 0))) ?_
     simp only [↓zq,zs,hasK,zt,has_ptr]
     refine wp_detO (Sq3 f2 true (.rc (.plus (sub x (.rc a) c) (.times (sub x (.rc a) .zero) (.bound 0)))) (by simp only [sub,Ty.atoms]; omega)) ?_
     simp only [↓zq,zs,hasK,zt,hasC,ty_has]
     rw [ckR_t,ckG_t]
     exact⟨f2,by omega,by simp only [bdF,Ty.atoms]; omega,rfl,rfl⟩
    | some d =>
     rw [q2] at k2
     simp only [bdF] at k2
     have ld:=(dvO_iff.1 q2).small
     have b2:=hbig d ld
     simp only [Option.isNone_some,Option.getD_some,Option.bind_some]
     refine wp_detO (Sq3 f2 false d (by omega)) ?_
     simp only [↓zq,zs,hasK,zt,hasC,ty_has]
     rw [ckR_f ld,ckG_f ld]
     refine wp_det (Sqa x (.rc a) d) ?_
     simp only [↓zq,zs,hasK,zt,ty_has]
     refine wp_det (Sq4 42 _ (.bound 0)) ?_
     simp only [↓zq,zs,hasK,zt,has_ptr]
     refine wp_det (Sq4 43 (sub x (.rc a) c) (.times (sub x (.rc a) d) (.bound 0))) ?_
     simp only [↓zq,zs,hasK,zt,has_ptr]
     have hdrc:drc a x c d = .rc (.plus (sub x (.rc a) c) (.times (sub x (.rc a) d) (.bound 0))):=rfl
     refine wp_detO (Sq3 f2 false (drc a x c d) (by rw [hdrc]; simp only [Ty.atoms]; omega)) ?_
     simp only [↓zq,zs,hasK,zt,hasC,ty_has]
     have s1:=sub_atoms x (.rc a) c
     have s2:=sub_atoms x (.rc a) d
     unfold chk
     by_cases hle:(drc a x c d).atoms<=400
     ·rw [if_pos hle,ckR_f hle,ckG_f hle]
      exact⟨f2,by omega,by simp only [bdF,hdrc,Ty.atoms]; omega,rfl,rfl⟩
     ·rw [if_neg hle,ckR_n hle,ckG_n hle]
      exact⟨f2,by omega,by simp only [bdF,Ty.atoms]; omega,rfl,rfl⟩
def LpR (o:Option Ty):AV->List Ob->Prop:=fun r ob=>ob = []/\∃p,LK.ptr.has p/\r = .tup [p,.v (.bool o.isSome)]/\∀d,o = some d->p = d.av
theorem LpR.ne (o:Option Ty):∃r ob,LpR o r ob:=by
 cases o with
 | none=>exact⟨_,_,rfl,nilp,(has_nil).mpr trivial,rfl,fun d h=>by cases h⟩
 | some d=>exact⟨_,_,rfl,d.av,(ty_has _).mpr trivial,rfl,fun d' h=>by cases h; rfl⟩
theorem hN_one:hN 1 = one1N:=by show (35::dd 1:Nm) = _; rw [dd_one (by omega)]; rfl
theorem Sqhu (a:Ty) (h4:a.atoms+2<=400) (hf:∀j,hasN (hN j) a = false):FSpec Tryz.prog 74 [(Ty.rc a).av] [] (LpR (lpO a one1N)):=by
 have hxa:hasN (hN 1) a = false:=hf 1
 have fo:okF 1 (opn (.name (hN 1)) a 0):=fun j hj=>by
  cases q:hasN (hN j) (opn (.name (hN 1)) a 0) with
  | false=>rfl
  | true =>
   rcases has_opn a 0 q with e | e
   ·have:=hN_inj e; omega
   ·rw [hf j] at e; cases e
 have hoa:(opn (.name (hN 1)) a 0).atoms = a.atoms:=opn_atoms _ _ _
 have hop:=Squ (.name (hN 1)) a 0 (by omega)
 rw [<-hN_one]
 have hrc:(Ty.rc a).av = .ptr [.v (.int .u8 114),.v (.string (mk [])),.v (.int .i64 0),a.av,.v (.pointer none)]:=rfl
 refine Fqhd _ ((ty_has _).mpr trivial) ?_
 unfold tq8e
 refine wp_detO (Sqab 0 false (by omega)) ?_
 simp only [Ty.av,↓zq,zs,hasK,zt,hasC,ty_has]
 repeat refine⟨by omega,?_⟩
 simp only [Ty.av] at hop
 refine wp_det hop ?_
 simp only [↓zq,zs,hasK,zt,hasC,ty_has]
 refine wp_call (Sqw 400 (opn (.name (hN 1)) a 0) (by omega) (by omega) (hN 1) 1 fo (fun j hj e=>by have:=hN_inj e; omega) (by omega)) (OfR.ne _ _ _) ?_
 rintro r ob ⟨f1,g1,g2,rfl,rfl⟩
 simp only [↓zq,zs,hasK,zt,hasC,ty_has]
 unfold lpO
 cases q1:dvO (opn (.name (hN 1)) a 0) (hN 1) with
 | none =>
  simp only [Option.isNone_none,Option.getD_none,Option.bind_none]
  refine wp_detO (Sq3 f1 true .zero (by simp [Ty.atoms])) ?_
  simp only [↓zq,zs,hasK,zt,hasC,ty_has,ckG_t]
  exact⟨fun _=>⟨rfl,nilp,(has_nil).mpr trivial,rfl,fun d h=>(by cases h)⟩,fun h=>(by cases h)⟩
 | some d =>
  have ld:=(dvO_iff.1 q1).small
  simp only [Option.isNone_some,Option.getD_some,Option.bind_some]
  refine wp_detO (Sq3 f1 false d (by omega)) ?_
  simp only [↓zq,zs,hasK,zt,hasC,ty_has]
  rw [ckR_f ld,ckG_f ld]
  refine⟨fun h=>(by cases h),fun _=>?_⟩
  rw [<-hrc]
  refine wp_det (Sqa (hN 1) (.rc a) d) ?_
  simp only [↓zq,zs,hasK,zt,ty_has]
  have h1:=sub_atoms_eq (hN 1) (.rc a) d
  have hcn:cntN (hN 1) d<=d.atoms:=by
   have h3:∀t:Ty,cntN (hN 1) t<=t.atoms:=by
    intro t
    induction t with
    | name s=>simp only [cntN,Ty.atoms]; split<;>omega
    | plus a b i1 i2=>simp only [cntN,Ty.atoms]; omega
    | times a b i1 i2=>simp only [cntN,Ty.atoms]; omega
    | rc a i=>simp only [cntN,Ty.atoms]; omega
    | _=>simp [cntN,Ty.atoms]
   exact h3 d
  have h3:cntN (hN 1) d*(Ty.rc a).atoms<=400*402:=Nat.mul_le_mul (by omega) (by simp only [Ty.atoms]; omega)
  refine wp_detO (Sq3 f1 false (sub (hN 1) (.rc a) d) (by omega)) ?_
  simp only [↓zq,zs,hasK,zt,hasC,ty_has]
  unfold chk
  by_cases hle:(sub (hN 1) (.rc a) d).atoms<=400
  ·rw [if_pos hle,ckR_f hle,ckG_f hle]
   exact⟨rfl,_,(ty_has _).mpr trivial,rfl,fun d' h=>by cases h; rfl⟩
  ·rw [if_neg hle,ckR_n hle,ckG_n hle]
   exact⟨rfl,_,(ty_has _).mpr trivial,rfl,fun d' h=>(by cases h)⟩
end Go.Proofs.Trees
namespace Go.Proofs.Trees
open Go Go.VL Go.RowKit
theorem txt_len3 (h:Nm) (a b:E):(txE (.list [.atom h,a,b])).length = h.length+(txE a).length+(txE b).length+4:=by
 simp only [txE,txEs,List.length_cons,List.length_append,List.length_nil]; omega
theorem cnT_txt (F:List Nm) (hF:F.length<=10000):∀(t:Ty) (to:List Nm) (k:Nat),shN t->(∀w,w∈to->w.length<=20)->k+(F.length+1)*t.atoms < 90000000->(txE (cnT F t to k).1).length<=50*t.atoms
 | .zero,_,_,_,_,_=>by simp [cnT,txE,Ty.atoms]
 | .one,_,_,_,_,_=>by simp [cnT,txE,Ty.atoms]
 | .name s,_,_,hn,_,_=>by have:=hn s (by simp [hasN]); simp only [cnT,txE,Ty.atoms]; omega
 | .bound u,to,_,_,ht,_=>by
  show (nmAt to u).length<=50*1
  unfold nmAt
  by_cases h:to.length - 1 - u < to.length
  ·rw [List.getD_eq_getElem?_getD,List.getElem?_eq_getElem h]; have:=ht _ (List.getElem_mem h); simp only [Option.getD_some]; omega
  ·rw [List.getD_eq_getElem?_getD,List.getElem?_eq_none (by omega)]; simp
 | .plus a b,to,k,hn,ht,hk=>by
  have h1:=cnT_le F a to k
  have:(F.length+1)*(1+a.atoms+b.atoms) = (F.length+1)+(F.length+1)*a.atoms+(F.length+1)*b.atoms:=by simp only [Nat.mul_add,Nat.mul_one]
  simp only [Ty.atoms] at hk
  have i1:=cnT_txt F hF a to k (fun y hy=>hn y (by simp [hasN,hy])) ht (by omega)
  have i2:=cnT_txt F hF b to _ (fun y hy=>hn y (by simp [hasN,hy])) ht (show (cnT F a to k).2+_ < _ by omega)
  simp only [cnT,txt_len3,Ty.atoms,List.length_cons,List.length_nil]; omega
 | .times a b,to,k,hn,ht,hk=>by
  have h1:=cnT_le F a to k
  have:(F.length+1)*(1+a.atoms+b.atoms) = (F.length+1)+(F.length+1)*a.atoms+(F.length+1)*b.atoms:=by simp only [Nat.mul_add,Nat.mul_one]
  simp only [Ty.atoms] at hk
  have i1:=cnT_txt F hF a to k (fun y hy=>hn y (by simp [hasN,hy])) ht (by omega)
  have i2:=cnT_txt F hF b to _ (fun y hy=>hn y (by simp [hasN,hy])) ht (show (cnT F a to k).2+_ < _ by omega)
  simp only [cnT,txt_len3,Ty.atoms,List.length_cons,List.length_nil]; omega
 | .rc a,to,k,hn,ht,hk=>by
  obtain⟨g1,g2,_,_⟩:=nx_spec F k
  have:(F.length+1)*(2+a.atoms) = (F.length+1)*2+(F.length+1)*a.atoms:=by simp only [Nat.mul_add]
  simp only [Ty.atoms] at hk
  have hl:=tN_len (k:=nx F k) (by omega)
  have i1:=cnT_txt F hF a (to++[tN (nx F k)]) (nx F k+1) hn (fun w hw=>by
   rcases List.mem_append.1 hw with hw | hw
   ·exact ht w hw
   ·simp only [List.mem_singleton] at hw; rw [hw]; exact hl) (by omega)
  simp only [cnT,txt_len3,Ty.atoms,List.length_cons,List.length_nil]
  simp only [txE]
  simp only [List.length_cons] at hl |-
  omega
theorem Lq7t (x0 a fv:AV) (F:List Nm) (h0:LK.ptr.has x0) (ha:LK.sl.has a) (hfv:StrsA fv F) (hF:F.length < 100000):∀(n j:Nat),nxt F n j < j+n->j+n < 100000000 ->
  Lq2s [x0,a,.v (.string (mk (tN j)))] [.cells [fv],.cells [.v (.int .i64 ((j+1:Nat):Int))]] (LIs 1 [x0,a,.v (.string (mk (tN (nxt F n j))))] [.cells [fv],.cells [.v (.int .i64 ((nxt F n j+1:Nat):Int))]])
 | 0,j,h,_=>by simp only [nxt] at h; omega
 | n+1,j,h,hj=>by
  refine Gqcw _ _ _ _ _ ?_
  simp only [rq4d,↓zq,zs,hasK,zt,hasK,hfv.1,h0,ha]
  refine⟨fun h=>(by simp at h),fun _=>?_⟩
  refine wp_det (Sq86 F fv hfv (tN j) (by omega)) ?_
  simp only [↓zq,zs,hasK,zt]
  rw [nxt] at h |-
  refine⟨fun hm=>?_,fun hm=>?_⟩
  ·rw [if_pos hm] at h |-
   refine wp_det (Sq46 (j+1) (by omega)) ?_
   have hd:=dd_len8 8 (j+1) (by omega)
   simp only [↓zq,zs,hasK,zt,List.cons_append,List.nil_append]
   rw [wrap_succ (j+1) (by omega)]
   exact⟨by simp [size_mk]; omega,Lq7t x0 a fv F h0 ha hfv hF n (j+1) (by omega) (by omega)⟩
  ·rw [if_neg hm]
   exact⟨rfl,rfl,rfl⟩
theorem Lqi2 (x0 a fv:AV) (F:List Nm) (h0:LK.ptr.has x0) (ha:LK.sl.has a) (hfv:StrsA fv F) (hF:F.length < 10000) (k:Nat) (hk:k < 90000000) :
  Lq2s [x0,a,.v (.string (mk []))] [.cells [fv],.cells [.v (.int .i64 (k:Int))]] (LIs 1 [x0,a,.v (.string (mk (tN (nx F k))))] [.cells [fv],.cells [.v (.int .i64 ((nx F k+1:Nat):Int))]]):=by
 obtain⟨g1,g2,_,_⟩:=nx_spec F k
 refine Gqcw _ _ _ _ _ ?_
 simp only [rq4d,↓zq,zs,hasK,zt,hasK,hfv.1,h0,ha]
 refine⟨fun _=>?_,fun h=>(by simp at h)⟩
 refine wp_det (Sq46 k (by omega)) ?_
 have hd:=dd_len8 8 k (by omega)
 simp only [↓zq,zs,hasK,zt,List.cons_append,List.nil_append]
 rw [wrap_succ k (by omega)]
 exact⟨by simp [size_mk]; omega,Lq7t x0 a fv F h0 ha hfv (by omega) (F.length+1) k (by show nx F k < _; omega) (by omega)⟩
theorem Sq1h (F:List Nm) (fv:AV) (hfv:StrsA fv F) (hF:F.length<=1000):∀(t:Ty) (to:List Nm) (a:AV) (k:Nat),StrsA a to->to.length+t.atoms < 10000->lcT t to.length->shN t->(∀w,w∈to->w.length<=20)->k+(F.length+1)*t.atoms < 80000000 ->
  FSpec Tryz.prog 149 [t.av,a,.cptr 149 [none,some 0,some 1],.ref 0 0,.ref 1 0] [.cells [fv],.cells [.v (.int .i64 (k:Int))]] (DetO (.v (.string (mk (txE (cnT F t to k).1)))) [.cells [fv],.cells [.v (.int .i64 ((cnT F t to k).2:Int))]])
 | .zero,to,a,k,ha,hl,hlc,hs,ht,hk=>by
  refine Fqz _ _ _ _ ((ty_has _).mpr trivial) ha.1 hfv.1 ?_
  simp only [tqo,Ty.av,↓zq,zs,hasK,zt,ty_has]
  refine⟨by omega,fun h=>by omega,fun _=>⟨fun h=>by omega,fun _=>⟨fun h=>by omega,fun _=>⟨fun h=>by omega,fun _=>⟨fun h=>by omega,fun _=>?_⟩⟩⟩⟩⟩
  repeat refine⟨by omega,?_⟩
  exact⟨⟨rfl,(has_int _ _).mpr trivial,trivial⟩,rfl,rfl⟩
 | .one,to,a,k,ha,hl,hlc,hs,ht,hk=>by
  refine Fqz _ _ _ _ ((ty_has _).mpr trivial) ha.1 hfv.1 ?_
  simp only [tqo,Ty.av,↓zq,zs,hasK,zt,ty_has]
  refine⟨by omega,fun h=>by omega,fun _=>⟨fun h=>by omega,fun _=>⟨fun h=>by omega,fun _=>⟨fun h=>by omega,fun _=>⟨fun h=>by omega,fun _=>?_⟩⟩⟩⟩⟩
  repeat refine⟨by omega,?_⟩
  exact⟨⟨rfl,(has_int _ _).mpr trivial,trivial⟩,rfl,rfl⟩
 | .name s,to,a,k,ha,hl,hlc,hs,ht,hk=>by
  refine Fqz _ _ _ _ ((ty_has _).mpr trivial) ha.1 hfv.1 ?_
  simp [tqo,Ty.av,↓zq,zs,hasK,DetO,cnT,txE]
 | .bound u,to,a,k,ha,hl,hlc,hs,ht,hk=>by
  have hu:u < to.length:=hlc
  refine Fqz _ _ _ _ ((ty_has _).mpr trivial) ha.1 hfv.1 ?_
  simp only [tqo,Ty.av,↓zq,zs,hasK,zt,ha.len]
  rw [wrap64 ((to.length:Int) - 1) (by omega) (by omega),wrap64 _ (by omega) (by omega)]
  have e1:(to.length:Int) - 1 - (u:Int) = ((to.length - 1 - u:Nat):Int):=by omega
  rw [e1]
  simp only [Int.toNat_natCast,ha.idx (show to.length - 1 - u < to.length by omega),↓zq,zs,hasK,zt]
  refine⟨by omega,fun h=>by omega,fun _=>⟨fun _=>⟨ha.1,by omega,⟨ha.1,by omega,by omega⟩,by omega,rfl,rfl⟩,fun h=>absurd rfl h⟩⟩
 | .plus x y,to,a,k,ha,hl,hlc,hs,ht,hk=>by
  simp only [Ty.atoms] at hl hk
  have h1:=cnT_le F x to k
  have hm:(F.length+1)*(1+x.atoms+y.atoms) = (F.length+1)+(F.length+1)*x.atoms+(F.length+1)*y.atoms:=by simp only [Nat.mul_add,Nat.mul_one]
  have sx:shN x:=fun z hz=>hs z (by simp [hasN,hz])
  have sy:shN y:=fun z hz=>hs z (by simp [hasN,hz])
  have t1:=cnT_txt F (by omega) x to k sx ht (by omega)
  have t2:=cnT_txt F (by omega) y to (cnT F x to k).2 sy ht (by omega)
  have hb:(⟨(bytesOf [[.v (.int .u8 43)]]).toArray⟩:ByteArray) = mk [43]:=rfl
  have h8:allU8 [[AV.v (.int .u8 43)]]:=⟨rfl,(has_int _ _).mpr trivial,trivial⟩
  refine Fqz _ _ _ _ ((ty_has _).mpr trivial) ha.1 hfv.1 ?_
  simp only [tqo,Ty.av,↓zq,zs,hasK,zt,ty_has,hb]
  refine⟨by omega,fun h=>by omega,fun _=>⟨fun h=>by omega,fun _=>⟨fun _=>?_,fun h=>absurd rfl h⟩⟩⟩
  repeat refine⟨by omega,?_⟩
  refine wp_detO (Sq1h F fv hfv hF x to a k ha (by omega) hlc.1 sx ht (by omega)) ?_
  simp only [↓zq,zs,hasK,zt,hasC,hfv.1,hb,List.cons_append,List.nil_append]
  repeat (first | refine⟨by omega,?_⟩ | refine⟨h8,?_⟩ | refine⟨by simp [size_mk]; omega,?_⟩)
  refine wp_detO (Sq1h F fv hfv hF y to a _ ha (by omega) hlc.2 sy ht (by omega)) ?_
  simp only [↓zq,zs,hasK,zt,hasC,hfv.1,hb,List.cons_append,List.nil_append]
  repeat (first | refine⟨by omega,?_⟩ | refine⟨h8,?_⟩ | refine⟨by simp [size_mk]; omega,?_⟩)
  refine⟨?_,rfl⟩
  simp [cnT,txE,txEs]
 | .times x y,to,a,k,ha,hl,hlc,hs,ht,hk=>by
  simp only [Ty.atoms] at hl hk
  have h1:=cnT_le F x to k
  have hm:(F.length+1)*(1+x.atoms+y.atoms) = (F.length+1)+(F.length+1)*x.atoms+(F.length+1)*y.atoms:=by simp only [Nat.mul_add,Nat.mul_one]
  have sx:shN x:=fun z hz=>hs z (by simp [hasN,hz])
  have sy:shN y:=fun z hz=>hs z (by simp [hasN,hz])
  have t1:=cnT_txt F (by omega) x to k sx ht (by omega)
  have t2:=cnT_txt F (by omega) y to (cnT F x to k).2 sy ht (by omega)
  have hb:(⟨(bytesOf [[.v (.int .u8 42)]]).toArray⟩:ByteArray) = mk [42]:=rfl
  have h8:allU8 [[AV.v (.int .u8 42)]]:=⟨rfl,(has_int _ _).mpr trivial,trivial⟩
  refine Fqz _ _ _ _ ((ty_has _).mpr trivial) ha.1 hfv.1 ?_
  simp only [tqo,Ty.av,↓zq,zs,hasK,zt,ty_has,hb]
  refine⟨by omega,fun h=>by omega,fun _=>⟨fun h=>by omega,fun _=>⟨fun h=>by omega,fun _=>⟨fun _=>?_,fun h=>absurd rfl h⟩⟩⟩⟩
  repeat refine⟨by omega,?_⟩
  refine wp_detO (Sq1h F fv hfv hF x to a k ha (by omega) hlc.1 sx ht (by omega)) ?_
  simp only [↓zq,zs,hasK,zt,hasC,hfv.1,hb,List.cons_append,List.nil_append]
  repeat (first | refine⟨by omega,?_⟩ | refine⟨h8,?_⟩ | refine⟨by simp [size_mk]; omega,?_⟩)
  refine wp_detO (Sq1h F fv hfv hF y to a _ ha (by omega) hlc.2 sy ht (by omega)) ?_
  simp only [↓zq,zs,hasK,zt,hasC,hfv.1,hb,List.cons_append,List.nil_append]
  repeat (first | refine⟨by omega,?_⟩ | refine⟨h8,?_⟩ | refine⟨by simp [size_mk]; omega,?_⟩)
  refine⟨?_,rfl⟩
  simp [cnT,txE,txEs]
 | .rc x,to,a,k,ha,hl,hlc,hs,ht,hk=>by
  simp only [Ty.atoms] at hl hk
  obtain⟨g1,g2,_,_⟩:=nx_spec F k
  have hm:(F.length+1)*(2+x.atoms) = (F.length+1)*2+(F.length+1)*x.atoms:=by simp only [Nat.mul_add]
  have hln:=tN_len (k:=nx F k) (by omega)
  have ht':∀w,w∈to++[tN (nx F k)]->w.length<=20:=fun w hw=>by
   rcases List.mem_append.1 hw with hw | hw
   ·exact ht w hw
   ·simp only [List.mem_singleton] at hw; rw [hw]; exact hln
  have t1:=cnT_txt F (by omega) x (to++[tN (nx F k)]) (nx F k+1) hs ht' (by omega)
  have hrc:(Ty.rc x).av = .ptr [.v (.int .u8 114),.v (.string (mk [])),.v (.int .i64 0),x.av,.v (.pointer none)]:=rfl
  refine Fqz _ _ _ _ ((ty_has _).mpr trivial) ha.1 hfv.1 ?_
  simp only [tqo,Ty.av,↓zq,zs,hasK,zt,ty_has]
  refine⟨by omega,fun h=>by omega,fun _=>⟨fun h=>by omega,fun _=>⟨fun h=>by omega,fun _=>⟨fun h=>by omega,fun _=>⟨fun _=>?_,fun h=>absurd rfl h⟩⟩⟩⟩⟩
  rw [<-hrc]
  repeat refine⟨by omega,?_⟩
  refine wp_loop1 (Lqi2 (Ty.rc x).av a fv F ((ty_has _).mpr trivial) ha.1 hfv (by omega) k (by omega)) ?_
  simp only [Ty.av,↓zq,zs,hasK,zt,hasK,hasC,hfv.1,ha.1,ty_has,ha.2,Sq14,List.nil_append,strsAV_len',allLen_strs]
  have hl2:(dd (nx F k)).length+1<=20:=hln
  have hl3:(tN (nx F k)).length = (dd (nx F k)).length+1:=rfl
  refine⟨by omega,by simp only [List.length_append,List.length_cons,List.length_nil,hl3]; omega,by omega,by omega,⟨fun c hc=>by simp at hc; rw [hc]; rfl,by omega⟩,?_⟩
  refine wp_detO (Sq1h F fv hfv hF x (to++[tN (nx F k)]) _ (nx F k+1) (.of _) (by simp; omega) (by rw [List.length_append]; exact hlc) hs ht' (by omega)) ?_
  simp only [↓zq,zs,hasK,zt,hasC,hfv.1]
  repeat refine⟨by omega,?_⟩
  refine⟨by simp only [List.length_append,List.length_cons,List.length_nil,hl3]; omega,by simp only [List.length_append,List.length_cons,List.length_nil,hl3]; omega,?_,rfl⟩
  simp [cnT,txE,txEs]
theorem Sqj3 (t:Ty) (g:goodT t) (hs:shN t) (h4:t.atoms<=400):FSpec Tryz.prog 112 [t.av] [] (Det (.v (.string (mk (cnX t))))):=by
 refine Fqif _ ((ty_has _).mpr trivial) ?_
 unfold tqbx
 have hn:=namesOf_len t []
 simp only [List.length_nil,Nat.zero_add] at hn
 have hm:((namesOf t []).length+1)*t.atoms<=401*400:=Nat.mul_le_mul (by omega) h4
 refine wp_det (Sqco t (by omega)) ?_
 simp only [↓zq,zs,hasK,zt,has_sl]
 refine wp_detO (Sq1h (namesOf t []) _ (.of _) (by omega) t [] slz 0 .nil (by simp; omega) g.1 hs (fun w hw=>by cases hw) (by omega)) ?_
 simp only [↓zq,zs,hasK,zt,hasC,has_sl]
 exact⟨rfl,rfl⟩
theorem Sqh0 (t:Ty) (g:goodT t) (hs:shN t) (hl:t.atoms < 1000000):FSpec Tryz.prog 75 [t.av] [] (Det (optS (told t))):=by
 refine Fqjs _ ((ty_has _).mpr trivial) ?_
 unfold tq7s
 refine wp_det (Sqi t hl) ?_
 simp only [↓zq,zs,hasK,zt]
 refine⟨fun h=>?_,fun h=>?_⟩
 ·have:told t = none:=by unfold told; rw [if_neg fun h'=>by have:=h'.1; omega]
  rw [this]; exact⟨rfl,rfl⟩
 ·have h4:t.atoms<=400:=by omega
  refine wp_det (Sqj3 t g hs h4) ?_
  simp only [↓zq,zs,hasK,zt]
  refine wp_det (Sq4a (cnX t)) ?_
  simp only [↓zq,zs,hasK,zt,optT_has]
  unfold told
  cases q:rdY (cnX t) with
  | none =>
   simp only [optT,↓zq,zs,hasK]
   rw [if_neg (by simp)]
   exact⟨fun _=>⟨rfl,rfl⟩,fun h=>(by cases h)⟩
  | some u =>
   simp only [optT,↓zq,zs,hasK,ty_nil]
   rw [if_pos ⟨h4,rfl⟩]
   exact⟨fun h=>(by cases h),fun _=>⟨rfl,rfl⟩⟩
theorem Sqgv (s:Nm):FSpec Tryz.prog 35 [.v (.string (mk s))] [] (Det (optS (derLoop s))):=by
 refine Fqj7 _ ?_
 unfold tqaq
 refine wp_det (Sq4a s) ?_
 simp only [↓zq,zs,hasK,zt,optT_has]
 cases q:rdY s with
 | none =>
  have:derLoop s = none:=by unfold derLoop; rw [q]
  rw [this]
  simp only [optT,↓zq,zs,hasK]
  exact⟨fun _=>⟨rfl,rfl⟩,fun h=>(by cases h)⟩
 | some t =>
  simp only [optT,↓zq,zs,hasK,ty_nil]
  have notRec:(∀a,t≠.rc a)->derLoop s = none:=fun hn=>by
   unfold derLoop; rw [q]
   cases t<;>first | rfl | exact absurd rfl (hn _)
  refine⟨fun h=>(by cases h),fun _=>?_⟩
  cases t with
  | rc a =>
   have h4:=rdY_atoms q
   simp only [Ty.atoms] at h4
   have hq:derLoop s = (lpO a one1N).bind told:=by unfold derLoop; rw [q]
   obtain⟨e,he,hw,hte,hats,hok⟩:=rdY_wf q
   have hgood:∀d,lpO a one1N = some d->goodT d/\(shN (.rc a)->shN d):=fun d hd=>lpO_good hw hte ⟨by simp,by simp,by simp⟩ hd
   rw [hq]
   simp only [Ty.av,↓zq,zs,hasK]
   refine⟨by omega,fun h=>by omega,fun _=>?_⟩
   have hld:=Sqhu a (by omega) (fun j=>by
    cases q2:hasN (hN j) a with
    | false=>rfl
    | true=>exact absurd rfl ((rdN_ok (rdY_names q (hN j) q2)).2 (dd j)))
   simp only [Ty.av] at hld
   refine wp_call hld (LpR.ne _) ?_
   rintro r ob ⟨rfl,p,hp,rfl,hpe⟩
   simp only [↓zq,zs,hasK,zt,eq_true hp]
   cases q1:lpO a one1N with
   | none =>
    simp only [Option.isSome_none,Option.bind_none]
    exact⟨fun _=>⟨rfl,rfl⟩,fun h=>(by cases h)⟩
   | some d =>
    simp only [Option.isSome_some,Option.bind_some]
    refine⟨fun h=>(by cases h),fun _=>?_⟩
    rw [hpe d q1]
    have hl:d.atoms<=400:=by
     simp only [lpO,Option.bind_eq_some_iff,chk_some] at q1
     obtain⟨_,_,h1,h2⟩:=q1
     rw [<-h2]; exact h1
    refine wp_det (Sqh0 d (hgood d q1).1 ((hgood d q1).2 (rdY_sh q)) (by omega)) ?_
    cases told d<;>simp only [optS,↓zq,zs,hasK,zt]<;>exact⟨rfl,rfl⟩
  | _ =>
   rw [notRec fun a h=>by cases h]
   simp only [Ty.av,↓zq,zs,hasK]
   exact⟨by omega,fun _=>⟨rfl,rfl⟩,fun h=>by omega⟩
end Go.Proofs.Trees
namespace Go.Proofs.Trees
open Go Go.VL Go.RowKit
def cAV (l:List Vl):List (List AV):=l.map fun c=>[c.iav]
theorem cAV_len (l:List Vl):(cAV l).length = l.length:=by simp [cAV]
theorem cAV_get {l:List Vl} {i:Nat} (h:i < l.length):(cAV l).getD i [] = [(l[i]).iav]:=by simp [cAV,List.getD_eq_getElem?_getD,h]
theorem cAV_one (l:List Vl) (c:Vl):cAV l++[[c.iav]] = cAV (l++[c]):=by simp [cAV]
def zAV (s:Nm) (a:Ty) (l:List Vl) (v:Vl):AV:=.ptr [.v (.string (mk s)),(Ty.rc a).av,.sl (cAV l),v.iav]
def oZ (s:Nm) (a:Ty):Option (List Vl×Vl)->AV
 | some r=>zAV s a r.1 r.2
 | none=>nilp
theorem oZ_has (s:Nm) (a:Ty) (o:Option (List Vl×Vl)):LK.has .ptr (oZ s a o) = True:=by cases o<;>simp [oZ,zAV,has_nil,has_ptr]
theorem Lqcz {s d:Nm} {a:Ty} {x A B:E} {D:Ty} (z:ZT s d a x A B D) (pa:AV) (p:List Nm) (hp:StrsA pa p) (hl:p.length<=50) (v:Vl):∀(k i:Nat) (l0:List Vl),i+k = p.length->l0.length<=i ->
  Lq5p [.v (.string (mk d)),pa,.v (.int .i64 (p.length:Int)),.v (.int .i64 (i:Int))] [.cells [.v (.string (mk s)),(Ty.rc a).av,.any,v.iav],.vec 1 (cAV l0)]
   (LBy (match rdPth d (p.drop i) with | some l=>(1,[],[.cells [.v (.string (mk s)),(Ty.rc a).av,.any,v.iav],.vec 1 (cAV (l0++l))]) | none=>(2,[nilp],[])))
 | 0,i,l0,hi,hl0=>by
  refine Gqeu _ _ _ _ _ _ _ _ ?_
  have:i = p.length:=by omega
  subst this
  simp only [rq4k,↓zq,zs,hasK,hasK,ty_has,vl_has,List.drop_length]
  exact⟨hp.1,fun h=>by omega,fun _=>by simp [LBy,rdPth]⟩
 | k+1,i,l0,hi,hl0=>by
  have hlt:i < p.length:=by omega
  have hd:p.drop i = p.getD i []::p.drop (i+1):=by rw [List.drop_eq_getElem_cons hlt]; simp [List.getD_eq_getElem?_getD,hlt]
  refine Gqeu _ _ _ _ _ _ _ _ ?_
  simp only [rq4k,↓zq,zs,hasK,zt,hasK,ty_has,vl_has,hp.len,hp.idx hlt,Int.toNat_natCast]
  refine⟨hp.1,fun _=>⟨⟨hp.1,by omega,by omega⟩,by omega,?_⟩,fun h=>by omega⟩
  refine wp_det (Sq78 d (p.getD i []) 100) ?_
  rw [hd,rdPth]
  simp only [↓zq,zs,hasK,zt,optT_has,optV_has]
  cases q:vOK d (p.getD i []) 100 with
  | none =>
   simp only [optV,↓zq,zs,hasK]
   exact⟨fun _=>by first | trivial | rfl,fun h=>(by cases h)⟩
  | some w =>
   simp only [optV,↓zq,zs,hasK,vl_nil,cAV_one]
   refine⟨fun h=>(by cases h),fun _=>?_⟩
   rw [wrap_succ i (by omega)]
   have ih:=Lqcz z pa p hp hl v k (i+1) (l0++[w]) (by omega) (by simp; omega)
   refine⟨⟨fun c hc=>by simp at hc; rw [hc]; rfl,by rw [cAV_len]; omega⟩,?_⟩
   cases q2:rdPth d (p.drop (i+1)) with
   | none=>rw [q2] at ih; exact ih
   | some l=>rw [q2] at ih; simp only [List.append_assoc,List.cons_append,List.nil_append] at ih; exact ih
theorem rdZ_some {s:Nm} {p:List Nm} {f:Nm} {l:List Vl} {v:Vl} (h:rdZ s p f = some (l,v)):∃d a x A B D,ZT s d a x A B D/\ZI a l v/\p = l.map (·.txt)/\f = v.txt/\p.length<=50/\zA s = a/\lvOK s f = some v/\rdPth d p = some l:=by
 unfold rdZ at h
 split at h
 ·rename_i v' d h1 h2
  split at h
  ·rename_i hl
   obtain⟨l',h3,h4⟩:=Option.map_eq_some_iff.1 h
   cases h4
   obtain⟨a,_,_,_,L⟩:=lvOK_some h1
   obtain⟨x,A,B,D,z⟩:=ZT.of L.l h2
   obtain⟨q1,q2⟩:=rdPth_some z p l h3
   obtain⟨q3,q4⟩:=z.foc h1
   exact⟨d,a,x,A,B,D,z,⟨q2,q3⟩,q1,q4,hl,by unfold zA; rw [L.l]; rfl,h1,h3⟩
  ·cases h
 ·cases h
theorem Sqck (s:Nm) (pa:AV) (p:List Nm) (hp:StrsA pa p) (f:Nm):FSpec Tryz.prog 40 [.agg [.v (.string (mk s)),pa,.v (.string (mk f))]] [] (Det (oZ s (zA s) (rdZ s p f))):=by
 refine Fqg4 _ _ _ hp.1 ?_
 unfold tqat
 refine wp_det (Sqkc s f) ?_
 have hlt:LK.has .ptr (lvT s) = True:=by unfold lvT; split<;>simp [ty_has,has_nil]
 simp only [↓zq,zs,hasK,zt,hlt,optV_has]
 refine wp_det (Sqgv s) ?_
 have ho:∀o:Option Nm,optS o = .tup [.v (.string (mk (o.getD []))),.v (.bool o.isSome)]:=fun o=>by cases o<;>rfl
 rw [ho]
 simp only [↓zq,zs,hasK,zt]
 unfold rdZ
 cases h1:lvOK s f with
 | none =>
  simp only [optV,↓zq,zs,hasK]
  exact⟨fun _=>⟨rfl,rfl⟩,fun h=>(by cases h)⟩
 | some v =>
  simp only [optV,↓zq,zs,hasK,vl_nil]
  refine⟨fun h=>(by cases h),fun _=>?_⟩
  cases h2:derLoop s with
  | none =>
   simp only [Option.isSome_none]
   exact⟨fun _=>⟨rfl,rfl⟩,fun h=>(by cases h)⟩
  | some d =>
   simp only [Option.isSome_some,Option.getD_some,hp.len]
   refine⟨fun h=>(by cases h),fun _=>⟨hp.1,fun h=>?_,fun h=>?_⟩⟩
   ·rw [if_neg (by omega)]; exact⟨rfl,rfl⟩
   ·have hl:p.length<=50:=by omega
    rw [if_pos hl]
    obtain⟨a,_,_,_,L⟩:=lvOK_some h1
    obtain⟨x,A,B,D,z⟩:=ZT.of L.l h2
    have ht:lvT s = (Ty.rc a).av:=by unfold lvT; rw [L.l]
    have hza:zA s = a:=by unfold zA; rw [L.l]; rfl
    rw [ht,hza]
    refine⟨hp.1,?_⟩
    have hloop:=Lqcz z pa p hp hl v p.length 0 [] (by omega) (by simp)
    rw [List.drop_zero] at hloop
    refine wp_loopB hloop (fun ys o e=>?_) (fun ys o e=>?_)
    ·cases q:rdPth d p with
     | none=>rw [q] at e; cases e
     | some l =>
      rw [q] at e
      cases e
      simp only [↓zq,zs,hasK,zt,hasK,hasC,ty_has,vl_has,Option.map_some]
      exact⟨rfl,rfl⟩
    ·cases q:rdPth d p with
     | none =>
      rw [q] at e
      cases e
      simp only [↓zq,zs,hasK,zt,hasK,hasC,Option.map_none]
      exact⟨rfl,rfl⟩
     | some l=>rw [q] at e; cases e
end Go.Proofs.Trees
namespace Go.Proofs.Trees
open Go Go.VL
theorem plain_strs (l:List (List UInt8)):∀x,x∈[Ob.vec 1 (strsAV l)]->plainOb x:=by
 intro x hx
 simp only [List.mem_singleton] at hx
 subst hx
 intro e he c hc
 simp only [strsAV,List.mem_map] at he
 obtain⟨k,_,rfl⟩:=he
 simp only [List.mem_singleton] at hc
 exact⟨_,hc⟩
def dz (k:Nat):List UInt8:=if k = 0 then [] else dd k
theorem dz_step {k:Nat} (h:0 < k) (s:List UInt8):dz (k / 10)++([UInt8.ofNat (48+k % 10)]++s) = dz k++s:=by
 have e:dz k = dd k:=if_neg (by omega)
 rw [e]
 by_cases hk:k < 10
 ·have e2:dz (k / 10) = []:=if_pos (by omega)
  rw [e2,dd_one hk,show k % 10 = k by omega]; rfl
 ·have e2:dz (k / 10) = dd (k / 10):=if_neg (by omega)
  rw [e2,dd_more hk,List.append_assoc]
def mtx (k:Nat):List UInt8:=109::(if k = 0 then [48] else dd k)
theorem Lq7i:∀(n k:Nat) (s:List UInt8),k < n->k < 1000000000->s.length+k<=2000000000->Lq2g [.v (.int .i64 (k:Int)),.v (.string (mk s))] [] (LIs 1 [.v (.string (mk (dz k++s)))] [])
 | 0,k,s,h,_,_=>by omega
 | n+1,k,s,h,hk,hs=>by
  refine Gqgw _ _ ?_
  simp only [rqe7,↓zq,zs,hasK]
  have e1:IntKind.wrap .i64 (Int.tdiv (k:Int) 10) = ((k / 10:Nat):Int):=by
   rw [show Int.tdiv (k:Int) 10 = ((k / 10:Nat):Int) from (Int.ofNat_tdiv k 10).symm,wrap64 _ (by omega) (by omega)]
  have e2:Int.tmod (k:Int) 10 = ((k % 10:Nat):Int):=(Int.ofNat_tmod k 10).symm
  rw [e1,e2,byte_of (k % 10) (by omega)]
  refine⟨fun hp=>⟨by omega,allU8_one _,?_,by omega,?_⟩,fun hp=>?_⟩
  ·rw [bytesOf_one]
   show (mk [_]).size+(mk s).size<=_
   rw [size_mk,size_mk]; simp; omega
  ·rw [bytesOf_one]
   have:=Lq7i n (k / 10) ([UInt8.ofNat (48+k % 10)]++s) (by omega) (by omega) (by simp; omega)
   rw [dz_step (by omega)] at this
   show Lq2g [_,.v (.string (mk [_]++mk s))] [] _
   rw [append_mk]; exact this
  ·have:k = 0:=by omega
   subst this
   simp [LIs,dz]
theorem dd_len' (k:Nat):(dd k).length<=k+1:=dd_len (k+1) k (by omega)
theorem Sqd2 (k:Nat) (hk:k < 1000000000):FSpec Tryz.prog 82 [.v (.int .i64 (k:Int))] [] (Det (.v (.string (mk (mtx k))))):=by
 refine Fqh7 _ ?_
 simp only [tqc5,↓zq,zs,hasK,Det]
 refine⟨fun h=>?_,fun h=>?_⟩
 ·have:k = 0:=by omega
  subst this; rfl
 ·refine wp_loop1 (Lq7i (k+1) k [] (by omega) hk (by simp; omega)) ?_
  have hl:=dd_len' k
  simp only [List.append_nil,dz,↓zq,zs,hasK,zt,if_neg (show ¬ k = 0 by omega)]
  refine⟨?_,?_⟩
  ·simp [size_mk]; omega
  ·rw [mtx,if_neg (by omega)]; rfl
def mks (k n:Nat):List (List UInt8):=(List.range' k n).map mtx
theorem mks_len (k n:Nat):(mks k n).length = n:=by simp [mks]
theorem mks_succ (k n:Nat):mks k (n+1) = mtx k::mks (k+1) n:=by simp [mks,List.range'_succ]
theorem mks_get {k n i:Nat} (h:i < n):(mks k n).getD i [] = mtx (k+i):=by simp [mks,List.getD_eq_getElem?_getD,h]
theorem strsAV_len (l:List (List UInt8)):(strsAV l).length = l.length:=by simp [strsAV]
theorem strsAV_set {l:List (List UInt8)} {i:Nat} (hi:i < l.length) (s:List UInt8):(strsAV l).set i (((strsAV l).getD i []).set 0 (.v (.string (mk s)))) = strsAV (l.set i s):=by
 have:(strsAV l).getD i [] = [.v (.string (mk (l[i])))]:=by simp [strsAV,List.getD_eq_getElem?_getD,hi]
 rw [this]; simp [strsAV,List.map_set]
theorem Lqe4:∀(m i k:Nat) (l:List (List UInt8)),i+m = l.length->l.length<=2000000->k+m<=4000000->Lq41 [.v (.int .i64 (k:Int)),.v (.int .i64 (i:Int))] [.vec 1 (strsAV l)] (LIs 1 [.v (.int .i64 ((k+m:Nat):Int))] [.vec 1 (strsAV (l.take i++mks k m))])
 | 0,i,k,l,hi,hl,hk=>by
  refine Gqb2 _ _ _ ?_
  simp only [rq4i,↓zq,zs,hasK,strsAV_len]
  refine⟨fun h=>by omega,fun _=>?_⟩
  have:l.take i = l:=List.take_of_length_le (by omega)
  simp [LIs,this,mks]
 | m+1,i,k,l,hi,hl,hk=>by
  have hlt:i < l.length:=by omega
  refine Gqb2 _ _ _ ?_
  simp only [rq4i,↓zq,zs,hasK,strsAV_len]
  refine⟨fun _=>?_,fun h=>by omega⟩
  refine wp_det (Sqd2 k (by omega)) ?_
  simp only [↓zq,zs,hasK,zt,Int.toNat_natCast,strsAV_set hlt]
  refine⟨⟨by omega,by omega⟩,⟨hlt,by omega⟩,?_⟩
  have:=Lqe4 m (i+1) (k+1) (l.set i (mtx k)) (by simp; omega) (by simpa using hl) (by omega)
  rw [wrap_succ i (by omega),wrap_succ k (by omega)]
  have e:(l.set i (mtx k)).take (i+1)++mks (k+1) m = l.take i++mks k (m+1):=by
   rw [mks_succ,List.take_succ_eq_append_getElem (by simpa using hlt),List.take_set_of_le (Nat.le_refl _)]; simp
  rw [e,show k+1+m = k+(m+1) by omega] at this
  exact this
theorem Sqjm (k:Nat) (l:List (List UInt8)) (hl:l.length<=2000000) (hk:k<=1000000):FSpec Tryz.prog 44 [.vec 0,.v (.int .i64 (k:Int))] [.vec 1 (strsAV l)] (DetO (.v (.int .i64 ((k+l.length:Nat):Int))) [.kvec 1 (strsAV (mks k l.length))]):=by
 refine Fqhx _ _ ?_
 unfold tqep
 have:=Lqe4 l.length 0 k l (by omega) hl (by omega)
 rw [List.take_zero,List.nil_append] at this
 refine wp_loop1 this ?_
 simp [↓zq,zs,hasK,DetO,Ob.es]
theorem Lqbk (a:AV) (k n:Nat) (ha:StrsA a (mks k n)) (hn:n<=2000000) (hk:k<=1000000):∀(m i:Nat),i+m = n->Lq52 [a,.v (.int .i64 ((k+i:Nat):Int)),.v (.int .i64 (i:Int))] [] (LIs 1 [.v (.int .i64 ((k+n:Nat):Int))] [])
 | 0,i,hi=>by
  refine Gqb3 _ _ _ ?_
  simp only [rq5c,↓zq,zs,hasK,ha.len,mks_len]
  refine⟨ha.1,ha.1,fun h=>by omega,fun _=>?_⟩
  rw [show i = n by omega]; exact⟨rfl,rfl,rfl⟩
 | m+1,i,hi=>by
  have hlt:i < n:=by omega
  refine Gqb3 _ _ _ ?_
  simp only [rq5c,↓zq,zs,hasK,zt,ha.len,mks_len,ha.idx (show i < (mks k n).length by rw [mks_len]; exact hlt),mks_get hlt,Int.toNat_natCast]
  refine⟨ha.1,ha.1,fun _=>⟨⟨ha.1,by omega,by omega⟩,by omega,?_⟩,fun h=>by omega⟩
  refine wp_det (Sqd2 (k+i) (by omega)) ?_
  simp only [↓zq,zs,hasK,zt]
  refine⟨fun h=>by simp at h,fun _=>?_⟩
  rw [wrap_succ i (by omega),wrap_succ (k+i) (by omega)]
  exact Lqbk a k n ha hn hk m (i+1) (by omega)
theorem Sqhr (a:AV) (k n:Nat) (ha:StrsA a (mks k n)) (hn:n<=2000000) (hk:k<=1000000):FSpec Tryz.prog 45 [a,.v (.int .i64 (k:Int))] [] (Det (.v (.int .i64 ((k+n:Nat):Int)))):=by
 refine Fqj2 _ _ ha.1 ?_
 unfold tqct
 have:=Lqbk a k n ha hn hk n 0 (by omega)
 refine wp_loop1 this ?_
 simp [↓zq,zs,hasK,Det]
theorem Lq8x (a b:AV) (l:List (List UInt8)) (ha:StrsA a l) (hb:StrsA b l) (hl:l.length<=2000000):∀(m i:Nat),i+m = l.length->Lq6r [a,b,.v (.int .i64 (i:Int))] [] (LIs 1 [] [])
 | 0,i,hi=>by
  refine Gqbo _ _ _ ?_
  simp only [rq5x,↓zq,zs,hasK,ha.len]
  exact⟨ha.1,hb.1,ha.1,fun h=>by omega,fun _=>⟨rfl,rfl,rfl⟩⟩
 | m+1,i,hi=>by
  have hlt:i < l.length:=by omega
  refine Gqbo _ _ _ ?_
  simp only [rq5x,↓zq,zs,hasK,zt,ha.len,hb.len,ha.idx hlt,hb.idx hlt,Int.toNat_natCast]
  refine⟨ha.1,hb.1,ha.1,fun _=>⟨⟨ha.1,by omega,by omega⟩,by omega,⟨hb.1,by omega,by omega⟩,by omega,fun h=>by simp at h,fun _=>?_⟩,fun h=>by omega⟩
  rw [wrap_succ i (by omega)]
  exact Lq8x a b l ha hb hl m (i+1) (by omega)
theorem Sqfz (a b:AV) (l:List (List UInt8)) (ha:StrsA a l) (hb:StrsA b l) (hl:l.length<=2000000):FSpec Tryz.prog 43 [a,b] [] (Det (.v (.bool true))):=by
 refine Fqji _ _ ha.1 hb.1 ?_
 simp only [tqca,↓zq,zs,hasK,ha.len,hb.len]
 refine⟨ha.1,hb.1,fun h=>by simp at h,fun _=>?_⟩
 refine wp_loop1 (Lq8x a b l ha hb hl l.length 0 (by omega)) ?_
 simp [Det,↓zq,zs,hasK]
end Go.Proofs.Trees
namespace Go.Proofs.Trees
open Go Go.VL Go.RowKit
abbrev tZ (s:Nm):Option (List Vl×Vl)->Nm×List Nm×Nm
 | some r=>(s,r.1.map (·.txt),r.2.txt)
 | none=>([],[],[])
def GZ (o:Option (List Vl×Vl)):Prop:=∀r,o = some r->(∀c,c∈r.1->c.txt.length<=900000)/\r.2.txt.length<=900000/\r.1.length<=51
theorem Cx.txt {a:Ty} {c:Vl} (h:Cx a c):c.txt.length<=900000:=by have:=txt_len c h.bel; have:=h.nd; omega
theorem Fo.txt {a:Ty} {c:Vl} (h:Fo a c):c.txt.length<=900000:=by have:=txt_len c h.bel; have:=h.nd; omega
theorem ZI.gz {a:Ty} {l:List Vl} {v:Vl} (h:ZI a l v) (hl:l.length<=51):GZ (some (l,v)):=fun r hr=>by
 cases hr; exact⟨fun c hc=>(h.ctx c hc).txt,h.foc.txt,hl⟩
theorem GZ.none:GZ none:=fun r hr=>by cases hr
theorem Lqf9 (l:List Vl) (hl:l.length<=51) (ht:∀c,c∈l->c.txt.length<=900000) (s f:Nm):∀(k i:Nat) (out:List Nm),i+k = l.length->out.length<=i ->
  Lq63 [.sl (cAV l),.v (.int .i64 (l.length:Int)),.v (.int .i64 (i:Int))] [.cells [.v (.string (mk [])),slz,.v (.string (mk []))],.cells [.v (.string (mk s)),.any,.v (.string (mk f))],.vec 1 (strsAV out)]
   (LIs 1 [] [.cells [.v (.string (mk [])),slz,.v (.string (mk []))],.cells [.v (.string (mk s)),.any,.v (.string (mk f))],.vec 1 (strsAV (out++(l.drop i).map (·.txt)))])
 | 0,i,out,hi,ho=>by
  refine Gq9u _ _ _ _ _ _ _ _ _ ?_
  have:i = l.length:=by omega
  subst this
  simp only [rq55,↓zq,zs,hasK,zt,hasK,has_slnil,List.drop_length]
  exact⟨fun h=>by omega,fun _=>by simp [LIs]⟩
 | k+1,i,out,hi,ho=>by
  have hlt:i < l.length:=by omega
  refine Gq9u _ _ _ _ _ _ _ _ _ ?_
  simp only [rq55,↓zq,zs,hasK,zt,hasK,has_slnil,cAV_len,cAV_get hlt,vl_has,Int.toNat_natCast]
  refine⟨fun _=>?_,fun h=>by omega⟩
  repeat refine⟨by omega,?_⟩
  refine wp_det (Sqb (l[i]) (ht _ (List.getElem_mem hlt))) ?_
  simp only [↓zq,zs,hasK,zt,Sq14,strsAV_len']
  refine⟨⟨fun c hc=>by simp at hc; rw [hc]; rfl,by omega⟩,?_⟩
  rw [wrap_succ i (by omega),List.drop_eq_getElem_cons hlt,List.map_cons]
  have:=Lqf9 l hl ht s f k (i+1) (out++[(l[i]).txt]) (by omega) (by simp; omega)
  rw [List.append_assoc] at this
  exact this
theorem Sq5g (s:Nm) (a:Ty) (o:Option (List Vl×Vl)) (h:GZ o):FSpec Tryz.prog 42 [oZ s a o] [] (DetO (.tup [.agg [.v (.string (mk (tZ s o).1)),.vec 0,.v (.string (mk (tZ s o).2.2))],.v (.bool o.isSome)]) [.vec 1 (strsAV (tZ s o).2.1)]):=by
 refine Fqin _ (by rw [oZ_has]; trivial) ?_
 unfold tq9a
 cases o with
 | none =>
  simp only [oZ,↓zq,zs,hasK]
  exact⟨fun _=>⟨rfl,rfl⟩,fun h=>(by cases h)⟩
 | some r =>
  obtain⟨h1,h2,h3⟩:=h r rfl
  simp only [oZ,zAV,↓zq,zs,hasK,zt,ty_has,vl_has]
  refine⟨fun h=>(by cases h),fun _=>?_⟩
  repeat refine⟨by omega,?_⟩
  refine wp_det (Sqb r.2 h2) ?_
  simp only [↓zq,zs,hasK,zt,ty_has,vl_has,cAV_len]
  repeat refine⟨by omega,?_⟩
  have hlp:=Lqf9 r.1 h3 h1 s r.2.txt r.1.length 0 [] (by omega) (by simp)
  rw [List.drop_zero,List.nil_append] at hlp
  refine wp_loop1 hlp ?_
  simp only [↓zq,zs,hasK,zt,hasK,hasC,has_slnil]
  exact⟨rfl,rfl⟩
theorem rdVd_some {s:Nm} {p:List Nm} {f:Nm} {l:List Vl} {v:Vl} (h:rdVd s p f = some (l,v)):rdZ s p f = some (l,v)/\(clo (zA s) l v).isSome = true:=by
 unfold rdVd at h
 obtain⟨r,h1,h2⟩:=Option.bind_eq_some_iff.1 h
 split at h2
 ·rename_i hc
  cases h2
  exact⟨h1,hc⟩
 ·cases h2
abbrev ZipO (s:Nm) (o:Option (List Vl×Vl)):AV->List Ob->Prop:=DetO (.tup [.agg [.v (.string (mk (tZ s o).1)),.vec 0,.v (.string (mk (tZ s o).2.2))],.v (.bool o.isSome)]) [.vec 1 (strsAV (tZ s o).2.1)]
end Go.Proofs.Trees
namespace Go.Proofs.Trees
open Go Go.VL Go.RowKit
def recE:E->Option E
 | .list [x,a,b]=>if x.at = [114,101,99] then some (.list [x,a,b]) else none
 | _=>none
def rdLE (s:List UInt8):Option E:=match rdCE s with
 | some e=>recE e
 | none=>none
theorem Sq45 (s:List UInt8):FSpec Tryz.prog 68 [.v (.string (mk s))] [] (ParR (rdLE s) (rdLE s).isSome):=by
 refine Fqi6 _ ?_
 unfold tqeq
 refine wp_call (Sqa7 s) (ParR.ne _ _ (fun h=>h)) ?_
 rintro r o ⟨c,d,hd,rfl,hh⟩
 have hhas:hasL [.str,.sl] [.v (.string (mk c)),d] 0:=by simp [hasL,has_str,hd]
 simp only [↓zq,zs,hasK,zt]
 refine⟨hhas,fun h=>?_,fun h=>?_⟩
 ·obtain⟨e,he,hce⟩:=hh h
  obtain⟨t,h1,hA,h3,h4,h5,_⟩:=rdCE_full he
  have hce':=hce
  rw [sav_sp] at hce'
  simp only [AV.agg.injEq,List.cons.injEq,AV.v.injEq,Value.string.injEq,and_true] at hce'
  obtain⟨hc1,rfl⟩:=hce'
  have hc2:=mk_inj hc1
  subst hc2
  have head:∀w:List UInt8,FSpec Tryz.prog 96 [.agg [.v (.string (mk e.at)),e.sp]] [] (Det (.v (.string (mk w))))->(w = [114,101,99]↔(recE e).isSome = true)->((recE e).isSome = true->recE e = some e) ->
    wpT Tryz.prog 18 (Tree.call 96 [.agg [.v (.string (mk e.at)),e.sp]] [] fun r2 o2=>Tree.need (LK.str.has r2) (Tree.done 0 [.tup [.agg [.v (.string (mk e.at)),e.sp],.v (.bool (ByteArray.toList r2.toStr==[114,101,99]))]] [])) fun _ xs obs=>ParR (rdLE s) (rdLE s).isSome (xs.headD .any) obs:=by
   intro w hw h1 h2
   refine wp_det hw ?_
   simp only [↓zq,zs,hasK,zt]
   refine⟨e.at,e.sp,hd,?_,fun hs=>⟨e,?_,(sav_sp e).symm⟩⟩
   ·congr 3
    simp only [rdLE,he,AV.v.injEq,Value.bool.injEq,List.cons.injEq,and_true]
    rw [Bool.eq_iff_iff]; simpa using h1
   ·simp only [rdLE,he] at hs |-; exact h2 hs
  have hl:∀x l,e = .list (x::l)->FSpec Tryz.prog 96 [.agg [.v (.string (mk e.at)),e.sp]] [] (Det (.v (.string (mk x.at)))):=by
   rintro x l rfl; exact Sq2 x l
  have ha:∀s0,e = .atom s0->FSpec Tryz.prog 96 [.agg [.v (.string (mk e.at)),e.sp]] [] (Det (.v (.string (mk [])))):=by
   rintro s0 rfl; exact Sq2u s0 _ ((has_slnil).mpr trivial) hA.ok
  rcases ty_cases hA.wf hA.ty with⟨hb,_⟩ | ⟨u,g,rfl,_,hg⟩
  ·rcases ty_shapes hA.ty hb hA.cl with⟨rfl,rfl⟩ | ⟨rfl,rfl⟩ | ⟨s0,rfl,rfl,hp,h0,h1⟩ | ⟨x,a,b,t1,t2,rfl,hx,rfl,ha',hbb⟩ | ⟨x,a,b,t1,t2,rfl,hx,rfl,ha',hbb⟩ | ⟨x,a,b,t1,rfl,hx,rfl⟩
   ·exact head _ (ha _ rfl) (by simp [recE]) (by simp [recE])
   ·exact head _ (ha _ rfl) (by simp [recE]) (by simp [recE])
   ·exact head _ (ha _ rfl) (by simp [recE]) (by simp [recE])
   ·exact head _ (hl _ _ rfl) (by simp [recE,hx]) (by simp [recE,hx])
   ·exact head _ (hl _ _ rfl) (by simp [recE,hx]) (by simp [recE,hx])
   ·exact head _ (hl _ _ rfl) (by simp [recE,hx]) (by simp [recE,hx])
  ·simp at hg
 ·have hn:rdCE s = none:=by cases hq:rdCE s<;>simp [hq] at h |-
  refine⟨c,d,hd,?_,fun h=>?_⟩
  ·simp [rdLE,hn]
  ·simp [rdLE,hn] at h
theorem rdLE_rdL (s:List UInt8):(rdLE s).isSome = (rdLp s).isSome:=by
 unfold rdLE rdLp
 cases h:rdCE s with
 | none=>rw [rdCE_none h]; rfl
 | some e =>
  obtain⟨t,h1,hA,h3,h4,h5,_⟩:=rdCE_full h
  rw [h1]
  simp only
  rcases ty_cases hA.wf hA.ty with⟨hb,_⟩ | ⟨u,g,rfl,_,hg⟩
  ·rcases ty_shapes hA.ty hb hA.cl with⟨rfl,rfl⟩ | ⟨rfl,rfl⟩ | ⟨s0,rfl,rfl,hp,h0,h1⟩ | ⟨x,a,b,t1,t2,rfl,hx,rfl,ha',hbb⟩ | ⟨x,a,b,t1,t2,rfl,hx,rfl,ha',hbb⟩ | ⟨x,a,b,t1,rfl,hx,rfl⟩<;>simp_all [recE]
  ·simp at hg
theorem LV.le {s v:List UInt8} {w:Vl} {a:Ty} {x A B:E} (h:LV s v w a x A B):rdLE s = some (.list [x,A,B]):=by
 unfold rdLE; rw [h.ce]; simp [recE,h.hx]
theorem Sqg9 (n:Nat) (v:Vl) (x A B:E) (a:Ty) (hA:Ask B [.mk A.at (.list [x,A,B]) []] a) (hx:x.at = [114,101,99]) (w:Vl) (hw:v = .f w) (hv:vis n v (.list [x,A,B],[]) = true) (hl:v.nodes < 90000) :
  FSpec Tryz.prog 72 [.agg [.v (.string (mk B.at)),B.sp],.v (.string (mk A.at)),.agg [.v (.string (mk w.toE.at)),w.toE.sp]] [] (Det (.sl (sAV (kids a v)))):=by
 subst hw
 obtain⟨w',e,hw'⟩:=vis_rec .nil hx hv
 cases e
 simp only [Vl.nodes] at hl
 have hnm:names [Fr.mk A.at (.list [x,A,B]) []] = []++[A.at]:=rfl
 have h:=Sqj n w.nodes w (Nat.le_refl _) B _ a hA hw' (by simp; omega) A.at (by rw [hnm]; right; rw [lastOf_same]; rfl)
 rw [hnm,tgS_same] at h
 exact h
end Go.Proofs.Trees
namespace Go.Proofs.Trees
open Go Go.VL Go.RowKit
def IHp (e:E) (s:List UInt8) (t:Ty) (c v:Vl):Prop:=FSpec Tryz.prog 119 [.agg [.v (.string (mk e.at)),e.sp],.v (.string (mk s)),.agg [.v (.string (mk c.toE.at)),c.toE.sp],.agg [.v (.string (mk v.toE.at)),v.toE.sp]] [] (Det (.agg [.v (.string (mk (plug t c v).toE.at)),(plug t c v).toE.sp]))
theorem Sqn:∀(m:Nat) (c:Vl),c.nodes<=m->∀(e:E) (env:List Fr) (t:Ty),Ask e env t->ctxOk t c = true->∀(s:List UInt8) (v:Vl),IHp e s t c v
 | 0,c,hm=>by have:=nodes_pos c; omega
 | m+1,c,hm=>by
  intro e env t A hc s v
  unfold IHp
  refine Fqht _ _ _ _ _ _ _ ((sp_has _).mpr trivial) ((sp_has _).mpr trivial) ((sp_has _).mpr trivial) ?_
  have atomCase:∀s0,e = .atom s0->plug t c v = v->wpT Tryz.prog 244 (tqc (mk e.at) e.sp (mk s) (mk c.toE.at) c.toE.sp (mk v.toE.at) v.toE.sp) fun _ xs obs=>Det (.agg [.v (.string (mk (plug t c v).toE.at)),(plug t c v).toE.sp]) (xs.headD .any) obs:=by
   rintro s0 rfl hp
   have hne:s0≠[]:=A.ok
   rw [hp]
   simp only [tqc,E.at,↓zq,zs,hasK,zt,Det]
   exact⟨fun _=>trivial,fun h=>absurd h hne⟩
  have hvh:=Sq1v c
  rw [sav_sp] at hvh
  rcases ty_cases A.wf A.ty with⟨hb,hq⟩ | ⟨u,g,rfl,hq,hu⟩
  ·rcases ty_shapes A.ty hb A.cl with⟨rfl,rfl⟩ | ⟨rfl,rfl⟩ | ⟨s0,rfl,rfl,hp,h0,h1⟩ | ⟨x,a,b,t1,t2,rfl,hx,rfl,ha,hbb⟩ | ⟨x,a,b,t1,t2,rfl,hx,rfl,ha,hbb⟩ | ⟨x,a,b,t1,rfl,hx,rfl⟩
   ·exact atomCase _ rfl (plug_zero _ _)
   ·exact atomCase _ rfl (plug_one _ _)
   ·exact atomCase _ rfl (plug_name _ _ _)
   ·obtain⟨ok1,ok2,ok3,_⟩:=A.ok
    obtain⟨f1,f2⟩:=freeLoo_plus A.cl
    have hP:=P3.of x a b
    have hH:FSpec Tryz.prog 96 [.agg [.v (.string (mk [])),(E.list [x,a,b]).sp]] [] (Det (.v (.string (mk [43])))):=by rw [<-hx]; exact Sq2 x [a,b]
    rcases ctx_plus hc with⟨y,rfl,hy⟩ | ⟨y,rfl,hy⟩
    ·simp only [Vl.nodes] at hm
     have hW:=P2.of (.atom [108]) y.toE
     simp only [Vl.toE,at_list] at hvh
     simp only [tqc,at_list,Vl.toE,toNat_one,toNat_two,↓zq,zs,hasK,zt,hP.1,hP.2.1,hP.2.2.1,hP.2.2.2,hW.1,hW.2.1,hW.2.2,sp_hasL]
     refine⟨fun h=>absurd rfl h,fun _=>?_⟩
     repeat refine⟨by omega,?_⟩
     refine wp_det hH ?_
     simp only [↓zq,zs,hasK,zt]
     refine wp_det hvh ?_
     simp only [vh,↓zq,zs,hasK,zt,List.cons_append,List.nil_append]
     refine⟨by simp [size_mk],fun _=>?_,fun h=>absurd rfl h⟩
     repeat refine⟨by omega,?_⟩
     refine wp_det (Sqn m y (by omega) a env t1 ⟨ok2,A.wf,ha,f1⟩ hy s v) ?_
     simp only [↓zq,zs,hasK,zt,sp_hasL]
     repeat refine⟨by omega,?_⟩
     refine wp_det (Sq9 _ _) ?_
     simp only [↓zq,zs,hasK,zt,sp_hasL]
     repeat refine⟨by omega,?_⟩
     exact⟨rfl,rfl⟩
    ·simp only [Vl.nodes] at hm
     have hW:=P2.of (.atom [114]) y.toE
     simp only [Vl.toE,at_list] at hvh
     simp only [tqc,at_list,Vl.toE,toNat_one,toNat_two,↓zq,zs,hasK,zt,hP.1,hP.2.1,hP.2.2.1,hP.2.2.2,hW.1,hW.2.1,hW.2.2,sp_hasL]
     refine⟨fun h=>absurd rfl h,fun _=>?_⟩
     repeat refine⟨by omega,?_⟩
     refine wp_det hH ?_
     simp only [↓zq,zs,hasK,zt]
     refine wp_det hvh ?_
     simp only [vh,↓zq,zs,hasK,zt,List.cons_append,List.nil_append]
     refine⟨by simp [size_mk],fun h=>by simp at h,fun _=>⟨fun _=>?_,fun h=>absurd rfl h⟩⟩
     repeat refine⟨by omega,?_⟩
     refine wp_det (Sqn m y (by omega) b env t2 ⟨ok3,A.wf,hbb,f2⟩ hy s v) ?_
     simp only [↓zq,zs,hasK,zt,sp_hasL]
     repeat refine⟨by omega,?_⟩
     refine wp_det (Sq9 _ _) ?_
     simp only [↓zq,zs,hasK,zt,sp_hasL]
     repeat refine⟨by omega,?_⟩
     exact⟨rfl,rfl⟩
   ·obtain⟨ok1,ok2,ok3,_⟩:=A.ok
    obtain⟨f1,f2⟩:=freeLoo_times A.cl
    have hP:=P3.of x a b
    have hH:FSpec Tryz.prog 96 [.agg [.v (.string (mk [])),(E.list [x,a,b]).sp]] [] (Det (.v (.string (mk [42])))):=by rw [<-hx]; exact Sq2 x [a,b]
    rcases ctx_times hc with⟨y,z,rfl,hy⟩ | ⟨y,z,rfl,hy⟩
    ·simp only [Vl.nodes] at hm
     have hW:=P2.of (.atom [108]) (E.list [.atom [112],y.toE,z.toE])
     have hQ:=P3.of (.atom [112]) y.toE z.toE
     simp only [Vl.toE,at_list] at hvh
     simp only [tqc,at_list,Vl.toE,toNat_one,toNat_two,↓zq,zs,hasK,zt,hP.1,hP.2.1,hP.2.2.1,hP.2.2.2,hW.1,hW.2.1,hW.2.2,hQ.1,hQ.2.1,hQ.2.2.1,hQ.2.2.2,sp_hasL]
     refine⟨fun h=>absurd rfl h,fun _=>?_⟩
     repeat refine⟨by omega,?_⟩
     refine wp_det hH ?_
     simp only [↓zq,zs,hasK,zt]
     refine wp_det hvh ?_
     simp only [vh,↓zq,zs,hasK,zt,List.cons_append,List.nil_append]
     refine⟨by simp [size_mk],fun h=>by simp at h,fun _=>⟨fun h=>by simp at h,fun _=>⟨fun _=>?_,fun h=>absurd rfl h⟩⟩⟩
     repeat refine⟨by omega,?_⟩
     refine wp_det (Sqn m y (by omega) a env t1 ⟨ok2,A.wf,ha,f1⟩ hy s v) ?_
     simp only [↓zq,zs,hasK,zt,sp_hasL]
     repeat refine⟨by omega,?_⟩
     refine wp_det (Sq6 _ _ _) ?_
     simp only [↓zq,zs,hasK,zt,sp_hasL]
     repeat refine⟨by omega,?_⟩
     exact⟨rfl,rfl⟩
    ·simp only [Vl.nodes] at hm
     have hW:=P2.of (.atom [114]) (E.list [.atom [112],y.toE,z.toE])
     have hQ:=P3.of (.atom [112]) y.toE z.toE
     simp only [Vl.toE,at_list] at hvh
     simp only [tqc,at_list,Vl.toE,toNat_one,toNat_two,↓zq,zs,hasK,zt,hP.1,hP.2.1,hP.2.2.1,hP.2.2.2,hW.1,hW.2.1,hW.2.2,hQ.1,hQ.2.1,hQ.2.2.1,hQ.2.2.2,sp_hasL]
     refine⟨fun h=>absurd rfl h,fun _=>?_⟩
     repeat refine⟨by omega,?_⟩
     refine wp_det hH ?_
     simp only [↓zq,zs,hasK,zt]
     refine wp_det hvh ?_
     simp only [vh,↓zq,zs,hasK,zt,List.cons_append,List.nil_append]
     refine⟨by simp [size_mk],fun h=>by simp at h,fun _=>⟨fun h=>by simp at h,fun _=>⟨fun h=>by simp at h,fun _=>⟨fun _=>?_,fun h=>absurd rfl h⟩⟩⟩⟩
     repeat refine⟨by omega,?_⟩
     refine wp_det (Sqn m z (by omega) b env t2 ⟨ok3,A.wf,hbb,f2⟩ hy s v) ?_
     simp only [↓zq,zs,hasK,zt,sp_hasL]
     repeat refine⟨by omega,?_⟩
     refine wp_det (Sq6 _ _ _) ?_
     simp only [↓zq,zs,hasK,zt,sp_hasL]
     repeat refine⟨by omega,?_⟩
     exact⟨rfl,rfl⟩
   ·obtain⟨t1',he1,h1,f1,hw1⟩:=wf_enter A.wf A.ok hx A.ty A.cl
    cases he1
    obtain⟨ok1,ok2,ok3,_⟩:=A.ok
    have A':Ask b (.mk a.at (.list [x,a,b]) env::env) t1:=⟨ok3,hw1,h1,f1⟩
    have hP:=P3.of x a b
    have hH:FSpec Tryz.prog 96 [.agg [.v (.string (mk [])),(E.list [x,a,b]).sp]] [] (Det (.v (.string (mk [114,101,99])))):=by rw [<-hx]; exact Sq2 x [a,b]
    rcases ctx_rc hc with⟨y,rfl,hy⟩ | ⟨y,z,rfl,hy,hz⟩
    ·simp only [Vl.nodes] at hm
     have hW:=P2.of (.atom [102]) (E.list [.atom [108],y.toE])
     have hQ:=P2.of (.atom [108]) y.toE
     have hvi:=Sq1v (.l y)
     rw [sav_sp] at hvi
     simp only [Vl.toE,at_list] at hvh hvi
     simp only [tqc,at_list,Vl.toE,toNat_one,toNat_two,↓zq,zs,hasK,zt,hP.1,hP.2.1,hP.2.2.1,hP.2.2.2,hW.1,hW.2.1,hW.2.2,hQ.1,hQ.2.1,hQ.2.2,sp_hasL]
     refine⟨fun h=>absurd rfl h,fun _=>?_⟩
     repeat refine⟨by omega,?_⟩
     refine wp_det hH ?_
     simp only [↓zq,zs,hasK,zt]
     refine wp_det hvh ?_
     simp only [vh,↓zq,zs,hasK,zt,List.cons_append,List.nil_append]
     refine⟨by simp [size_mk],fun h=>by simp at h,fun _=>⟨fun h=>by simp at h,fun _=>⟨fun h=>by simp at h,fun _=>⟨fun h=>by simp at h,fun _=>?_⟩⟩⟩⟩
     repeat refine⟨by omega,?_⟩
     refine wp_det hvi ?_
     simp only [vh,↓zq,zs,hasK,zt]
     refine⟨fun _=>?_,fun h=>absurd rfl h⟩
     repeat refine⟨by omega,?_⟩
     refine wp_det (Sqn m y (by omega) b _ t1 A' hy s v) ?_
     simp only [↓zq,zs,hasK,zt,sp_hasL]
     repeat refine⟨by omega,?_⟩
     refine wp_det (Sq9 _ _) ?_
     simp only [↓zq,zs,hasK,zt,sp_hasL]
     repeat refine⟨by omega,?_⟩
     exact⟨rfl,rfl⟩
    ·simp only [Vl.nodes] at hm
     have hW:=P2.of (.atom [102]) (E.list [.atom [114],E.list [.atom [112],y.toE,z.toE]])
     have hQ:=P2.of (.atom [114]) (E.list [.atom [112],y.toE,z.toE])
     have hR:=P3.of (.atom [112]) y.toE z.toE
     have hvi:=Sq1v (.r (.p y z))
     rw [sav_sp] at hvi
     simp only [Vl.toE,at_list] at hvh hvi
     simp only [tqc,at_list,Vl.toE,toNat_one,toNat_two,↓zq,zs,hasK,zt,hP.1,hP.2.1,hP.2.2.1,hP.2.2.2,hW.1,hW.2.1,hW.2.2,hQ.1,hQ.2.1,hQ.2.2,hR.1,hR.2.1,hR.2.2.1,hR.2.2.2,sp_hasL]
     refine⟨fun h=>absurd rfl h,fun _=>?_⟩
     repeat refine⟨by omega,?_⟩
     refine wp_det hH ?_
     simp only [↓zq,zs,hasK,zt]
     refine wp_det hvh ?_
     simp only [vh,↓zq,zs,hasK,zt,List.cons_append,List.nil_append]
     refine⟨by simp [size_mk],fun h=>by simp at h,fun _=>⟨fun h=>by simp at h,fun _=>⟨fun h=>by simp at h,fun _=>⟨fun h=>by simp at h,fun _=>?_⟩⟩⟩⟩
     repeat refine⟨by omega,?_⟩
     refine wp_det hvi ?_
     simp only [vh,↓zq,zs,hasK,zt]
     refine⟨fun h=>by simp at h,fun _=>?_⟩
     repeat refine⟨by omega,?_⟩
     have i1:=Sqn m z (by omega) (.list [x,a,b]) env (.rc t1) A hz s v
     unfold IHp at i1
     simp only [at_list] at i1
     refine wp_det i1 ?_
     simp only [↓zq,zs,hasK,zt,sp_hasL]
     repeat refine⟨by omega,?_⟩
     refine wp_det (Sqn m y (by omega) b _ t1 A' hy a.at (plug (.rc t1) z v)) ?_
     simp only [↓zq,zs,hasK,zt,sp_hasL]
     repeat refine⟨by omega,?_⟩
     refine wp_det (Sq9 _ _) ?_
     simp only [↓zq,zs,hasK,zt,sp_hasL]
     repeat refine⟨by omega,?_⟩
     exact⟨rfl,rfl⟩
  ·cases e with
   | atom s0=>exact atomCase _ rfl (plug_bound _ _ _)
   | list l=>exact absurd hq (by rw [show (E.list l).at = [] from rfl,findF_nil A.wf]; simp)
end Go.Proofs.Trees
namespace Go.Proofs.Trees
open Go Go.VL Go.RowKit
abbrev zzO:Ob:=.cells [.v (.string (mk [])),.v (.slice none 0 0),.v (.string (mk []))]
theorem ZT.le {s d:Nm} {a:Ty} {x A B:E} {D:Ty} (z:ZT s d a x A B D):rdLE s = some (.list [x,A,B]):=by
 unfold rdLE; rw [z.ce]; simp [recE,z.hx]
theorem optS_eq (o:Option Nm):optS o = .tup [.v (.string (mk (o.getD []))),.v (.bool o.isSome)]:=by cases o<;>rfl
theorem plugF_txt {a:Ty} {w v:Vl} (hw:Cx a w) (hv:Fo a v):(Vl.f (plug a w v)).txt.length<=900000:=by
 have h1:=txt_len (Vl.f (plug a w v)) (by exact plug_bel 100 a w v hw.bel hv.bel)
 have h2:=plug_nodes a w v
 have:=hw.nd
 have:=hv.nd
 simp only [Vl.nodes] at h1
 omega
abbrev plgN (a:Ty) (w v:Vl):Option Nm:=if(Vl.f (plug a w v)).nodes<=200 then some (Vl.f (plug a w v)).txt else none
theorem Sqia {s d:Nm} {a:Ty} {x A B:E} {D:Ty} (z:ZT s d a x A B D) (w v:Vl) (hw:vOK d w.txt 100 = some w) (hv:Fo a v):FSpec Tryz.prog 85 [.v (.string (mk s)),.v (.string (mk w.txt)),.v (.string (mk v.txt))] [] (Det (optS (plgN a w v))):=by
 have hC:=z.ctx hw
 have hv2:vOK s v.txt 100 = some v:=by rw [z.txt hv.bel hv.ty,if_pos hv.nd]
 refine Fqka _ _ _ ?_
 unfold tq8a
 refine wp_call (Sq45 s) (ParR.ne _ _ (fun h=>h)) ?_
 rintro r o ⟨c,e,he,rfl,hh⟩
 rw [z.le] at hh
 obtain⟨e',he',hce⟩:=hh rfl
 cases he'
 rw [sav_sp] at hce
 simp only [AV.agg.injEq,List.cons.injEq,AV.v.injEq,Value.string.injEq,and_true] at hce
 obtain⟨hc1,rfl⟩:=hce
 rw [z.le,hc1]
 simp only [↓zq,zs,hasK,zt,sp_hasL,at_list]
 repeat refine⟨by omega,?_⟩
 refine wp_det (Sqfk s) ?_
 rw [optS_eq,z.dl]
 simp only [↓zq,zs,hasK,zt,Option.isSome_some,Option.getD_some]
 refine⟨fun h=>by simp at h,fun _=>⟨fun h=>by simp at h,fun _=>?_⟩⟩
 refine wp_det (Sq1a d w.txt 100) ?_
 rw [hw]
 simp only [↓zq,zs,hasK,Option.isSome_some]
 refine⟨fun h=>by simp at h,fun _=>?_⟩
 refine wp_det (Sq1a s v.txt 100) ?_
 rw [hv2]
 simp only [↓zq,zs,hasK,Option.isSome_some]
 refine⟨fun h=>by simp at h,fun _=>?_⟩
 have hP:=P3.of x A B
 have rd:∀q:Vl,q.bel 100->q.nodes<=200->∀{Q:AV->List Ob->Prop},(∀o,Q (.tup [.agg [.v (.string (mk q.toE.at)),q.toE.sp],.v (.bool true)]) o)->∀r o,ParR ((rdV q.txt).map Vl.toE) (rdV q.txt).isSome r o->Q r o:=by
  intro q hu hn Q hQ r o
  rw [rdV_txt hu hn]
  rintro⟨c,e,he,rfl,hh⟩
  obtain⟨e',he',hce⟩:=hh rfl
  cases he'
  rw [sav_sp] at hce
  rw [hce]
  exact hQ o
 refine wp_call (Sq2j w.txt) (ParR.ne _ _ (fun h=>by simpa using h)) (rd w hC.bel hC.nd fun o=>?_)
 simp only [↓zq,zs,hasK,zt,sp_hasL]
 repeat refine⟨by omega,?_⟩
 refine wp_call (Sq2j v.txt) (ParR.ne _ _ (fun h=>by simpa using h)) (rd v hv.bel hv.nd fun o=>?_)
 simp only [toNat_one,toNat_two,↓zq,zs,hasK,zt,hP.1,hP.2.1,hP.2.2.1,hP.2.2.2,sp_hasL,sp_has]
 repeat refine⟨by omega,?_⟩
 refine wp_det (Sqn w.nodes w (Nat.le_refl _) B _ a z.body hC.ok A.at v) ?_
 simp only [↓zq,zs,hasK,zt,sp_hasL]
 repeat refine⟨by omega,?_⟩
 refine wp_det (Sq9 _ _) ?_
 simp only [↓zq,zs,hasK,zt,sp_hasL]
 repeat refine⟨by omega,?_⟩
 have htx:=Sq23 (Vl.f (plug a w v)).toE (toE_ok _) (plugF_txt hC hv)
 rw [sav_sp] at htx
 simp only [Vl.toE,at_list] at htx
 refine wp_det htx ?_
 simp only [↓zq,zs,hasK,zt]
 refine wp_det (Sq1a s (Vl.f (plug a w v)).txt 100) ?_
 rw [z.txt (w:=Vl.f (plug a w v)) (by exact plug_bel 100 a w v hC.bel hv.bel) (hC.ty v hv.ty)]
 unfold plgN
 by_cases hn:(Vl.f (plug a w v)).nodes<=200
 ·rw [if_pos hn,if_pos hn]
  simp only [↓zq,zs,hasK,Option.isSome_some]
  exact⟨fun h=>by simp at h,fun _=>⟨rfl,rfl⟩⟩
 ·rw [if_neg hn,if_neg hn]
  simp only [↓zq,zs,hasK,Option.isSome_none]
  exact⟨fun _=>⟨rfl,rfl⟩,fun h=>by simp at h⟩
theorem rdPth_each {d:Nm}:∀{p:List Nm} {l:List Vl},rdPth d p = some l->p = l.map (·.txt)->∀c,c∈l->vOK d c.txt 100 = some c
 | [],l,h,_,c,hc=>by cases h; cases hc
 | q::r,l,h,hp,c,hc=>by
  simp only [rdPth] at h
  split at h
  ·rename_i w l' h1 h2
   cases h
   simp only [List.map_cons,List.cons.injEq] at hp
   rcases List.mem_cons.1 hc with rfl | hc
   ·rw [<-hp.1]; exact h1
   ·exact rdPth_each h2 hp.2 c hc
  ·cases h
structure St (s d:Nm) (a:Ty) (l:List Vl) (v:Vl):Prop where
 z:∃x A B D,ZT s d a x A B D
 i:ZI a l v
 each:∀c,c∈l->vOK d c.txt 100 = some c
 len:l.length<=50
def upAV (s:Nm) (pa:AV) (a:Ty) (l:List Vl) (v:Vl):AV:=match l.getLast? with
 | none=>.tup [.agg [.v (.string (mk s)),pa,.v (.string (mk v.txt))],.v (.bool false)]
 | some c=>.tup [.agg [.v (.string (mk s)),.sl (strsAV (l.dropLast.map (·.txt))),.v (.string (mk ((plgN a c v).getD [])))],.v (.bool (plgN a c v).isSome)]
theorem Sqhk {s d:Nm} {a:Ty} {l:List Vl} {v:Vl} (h:St s d a l v) (pa:AV) (hp:StrsA pa (l.map (·.txt))):FSpec Tryz.prog 54 [.agg [.v (.string (mk s)),pa,.v (.string (mk v.txt))]] [] (Det (upAV s pa a l v)):=by
 refine Fqhg _ _ _ hp.1 ?_
 unfold tq9r
 have hlen:=h.len
 simp only [↓zq,zs,hasK,zt,hp.len,List.length_map,strsAV_len']
 unfold upAV
 refine⟨hp.1,fun h0=>?_,fun h0=>?_⟩
 ·have:l = []:=List.eq_nil_of_length_eq_zero (by omega)
  subst this
  exact⟨rfl,rfl⟩
 ·have hpos:0 < l.length:=by omega
  have hne:l≠[]:=by rintro rfl; simp at hpos
  rw [wrap64 ((l.length:Int) - 1) (by omega) (by omega)]
  have e1:((l.length:Int) - 1).toNat = l.length - 1:=by omega
  have hlt:l.length - 1 < (l.map (·.txt)).length:=by rw [List.length_map]; omega
  have hlt':l.length - 1 < l.length:=by omega
  have hlast:l.getLast? = some (l[l.length - 1]):=by rw [List.getLast?_eq_some_getLast hne,List.getLast_eq_getElem]
  rw [hlast]
  have hm:=List.getElem_mem hlt'
  have hg:(l.map (·.txt)).getD (l.length - 1) [] = (l[l.length - 1]).txt:=by rw [List.getD_eq_getElem?_getD,List.getElem?_eq_getElem hlt,List.getElem_map]; rfl
  obtain⟨x,A,B,D,z⟩:=h.z
  rw [e1,hp.idx hlt,hg]
  generalize l[l.length - 1] = c at *
  simp only [↓zq,zs,hasK,zt]
  refine⟨⟨hp.1,by omega⟩,by omega,?_⟩
  refine wp_det (Sqia z c v (h.each c hm) h.i.foc) ?_
  rw [optS_eq]
  simp only [↓zq,zs,hasK,zt]
  refine⟨⟨hp.1,by omega⟩,⟨fun y hy=>?_,?_⟩,?_,rfl⟩
  ·rw [hp.2] at hy
   have:=List.mem_of_mem_take hy
   obtain⟨t,_,rfl⟩:=List.mem_map.1 this
   rfl
  ·rw [hp.2]; simp [strsAV]; omega
  ·have:pa.elems.take (l.length - 1) = strsAV (l.dropLast.map (·.txt)):=by
    rw [hp.2,List.dropLast_eq_take,List.map_take]; simp [strsAV,List.map_take]
   rw [this]; rfl
theorem St.up {s d:Nm} {a:Ty} {l l':List Vl} {v w:Vl} (h:St s d a l v) (hu:upF a l v = some (l',w)):St s d a l' w:=by
 obtain⟨h1,h2,c,h3,_⟩:=upF_ok h.i hu
 have hl:=h.len
 exact⟨h.z,h1,fun c' hc'=>h.each c' (by rw [h3]; exact List.mem_append_left _ hc'),by omega⟩
theorem upAV_some {s:Nm} {pa:AV} {a:Ty} {l l':List Vl} {v w:Vl} (hu:upF a l v = some (l',w)):upAV s pa a l v = .tup [.agg [.v (.string (mk s)),.sl (strsAV (l'.map (·.txt))),.v (.string (mk w.txt))],.v (.bool true)]:=by
 unfold upF at hu
 unfold upAV
 cases q:l.getLast? with
 | none=>rw [q] at hu; cases hu
 | some c =>
  rw [q] at hu
  simp only at hu |-
  unfold plgN
  split at hu
  ·rename_i hn
   cases hu
   rw [if_pos hn]; rfl
  ·cases hu
theorem upAV_none {s:Nm} {pa:AV} {a:Ty} {l:List Vl} {v:Vl} (hpa:LK.sl.has pa) (hu:upF a l v = none):∃p f,LK.sl.has p/\upAV s pa a l v = .tup [.agg [.v (.string (mk s)),p,.v (.string (mk f))],.v (.bool false)]:=by
 unfold upF at hu
 unfold upAV
 cases q:l.getLast? with
 | none=>exact⟨_,_,hpa,rfl⟩
 | some c =>
  rw [q] at hu
  simp only at hu |-
  unfold plgN
  split at hu
  ·cases hu
  ·rename_i hn
   rw [if_neg hn]; exact⟨_,_,(has_sl _).mpr trivial,rfl⟩
def CloP (s:Nm) (o:Option Vl):Nat->List AV->List Ob->Prop:=fun k ys ob=>match o with
 | some w=>k = 1/\ys = []/\∃pa,LK.sl.has pa/\ob = [.cells [.v (.string (mk s)),pa,.v (.string (mk w.txt))],zzO]
 | none=>k = 2/\ys = [.v (.bool false)]/\∃pa f,LK.sl.has pa/\ob = [.cells [.v (.string (mk s)),pa,.v (.string (mk f))]]
theorem Lqa5 (s d:Nm) (a:Ty):∀(n:Nat) (l:List Vl) (v:Vl) (pa:AV),l.length = n->St s d a l v->StrsA pa (l.map (·.txt))->Lq76 [] [.cells [.v (.string (mk s)),pa,.v (.string (mk v.txt))],zzO] (CloP s (cloN n a l v))
 | 0,l,v,pa,hl,h,hp=>by
  refine Gqfg _ _ _ _ _ _ ?_
  simp only [rq4u,↓zq,zs,hasK,zt,hasK,has_slnil,hp.len,List.length_map,hl,cloN]
  refine⟨hp.1,hp.1,fun h=>by omega,fun _=>?_⟩
  exact⟨rfl,rfl,pa,hp.1,rfl⟩
 | n+1,l,v,pa,hl,h,hp=>by
  refine Gqfg _ _ _ _ _ _ ?_
  simp only [rq4u,↓zq,zs,hasK,zt,hasK,has_slnil,hp.len,List.length_map,hl]
  refine⟨hp.1,hp.1,fun _=>?_,fun h=>by omega⟩
  refine wp_det (Sqhk h pa hp) ?_
  rw [cloN]
  cases q:upF a l v with
  | none =>
   obtain⟨p',f',h1,h2⟩:=upAV_none (s:=s) hp.1 q
   rw [h2]
   simp only [↓zq,zs,hasK,zt,hasL,Option.bind_none]
   exact⟨h1,fun _=>⟨rfl,rfl,pa,v.txt,hp.1,rfl⟩,fun h=>by simp at h⟩
  | some r =>
   obtain⟨l',w⟩:=r
   obtain⟨_,hlen,_⟩:=upF_ok h.i q
   rw [upAV_some q]
   simp only [↓zq,zs,hasK,zt,hasL,Option.bind_some,has_sl]
   refine⟨fun h=>by simp at h,fun _=>?_⟩
   exact Lqa5 s d a n l' w _ (by omega) (h.up q) (StrsA.of _)
def CloR (o:Option Vl):AV->List Ob->Prop:=fun r ob=>ob = []/\∃c0 pa c2,LK.sl.has pa/\r = .tup [.agg [.v (.string c0),pa,.v (.string c2)],.v (.bool o.isSome)]/\∀w,o = some w->c2 = mk w.txt
theorem CloR.ne (o:Option Vl):∃r ob,CloR o r ob:=⟨_,[],rfl,mk [],.sl [],mk ((o.map (·.txt)).getD []),(has_sl _).mpr trivial,rfl,fun w h=>by rw [h]; rfl⟩
theorem Sq8m {s d:Nm} {a:Ty} {l:List Vl} {v:Vl} (h:St s d a l v) (pa:AV) (hp:StrsA pa (l.map (·.txt))):FSpec Tryz.prog 84 [.agg [.v (.string (mk s)),pa,.v (.string (mk v.txt))]] [] (CloR (clo a l v)):=by
 refine Fqj5 _ _ _ hp.1 ?_
 unfold tqcv
 have hloop:=Lqa5 s d a l.length l v pa rfl h hp
 refine wpt_loop hloop (fun ys o e=>?_) (fun ys o e=>?_)
 ·unfold CloP at e
  unfold clo
  cases q:cloN l.length a l v with
  | none=>rw [q] at e; exact absurd e.1 (by decide)
  | some w =>
   rw [q] at e
   obtain⟨_,rfl,p',h1,rfl⟩:=e
   simp only [↓zq,zs,hasK,zt,hasK,has_slnil]
   exact⟨h1,rfl,_,_,_,h1,rfl,fun w' h=>by cases h; rfl⟩
 ·unfold CloP at e
  unfold clo
  cases q:cloN l.length a l v with
  | some w=>rw [q] at e; exact absurd e.1 (by decide)
  | none =>
   rw [q] at e
   obtain⟨_,rfl,p',f',h1,rfl⟩:=e
   simp only [↓zq,zs,hasK,zt,hasK]
   exact⟨h1,rfl,_,_,_,h1,rfl,fun w' h=>by cases h⟩
theorem Lqao (s d f:Nm) (pa:AV) (p:List Nm) (hp:StrsA pa p) (hl:p.length<=50):∀(k i:Nat),i+k = p.length->Lq42 [.v (.string (mk d)),.v (.int .i64 (i:Int))] [.cells [.v (.string (mk s)),pa,.v (.string (mk f))]] (LBy (if(rdPth d (p.drop i)).isSome = true then(1,[],[]) else(2,[.v (.bool false)],[])))
 | 0,i,hi=>by
  refine Gq7o _ _ _ _ _ ?_
  have:i = p.length:=by omega
  subst this
  simp only [rq3e,↓zq,zs,hasK,zt,hasK,hp.len,List.drop_length]
  exact⟨hp.1,hp.1,fun h=>by omega,fun _=>rfl⟩
 | k+1,i,hi=>by
  have hlt:i < p.length:=by omega
  have hd:p.drop i = p.getD i []::p.drop (i+1):=by rw [List.drop_eq_getElem_cons hlt]; simp [List.getD_eq_getElem?_getD,hlt]
  refine Gq7o _ _ _ _ _ ?_
  simp only [rq3e,↓zq,zs,hasK,zt,hasK,hp.len,hp.idx hlt,Int.toNat_natCast]
  refine⟨hp.1,hp.1,fun _=>⟨⟨hp.1,by omega,by omega⟩,by omega,?_⟩,fun h=>by omega⟩
  refine wp_det (Sq1a d (p.getD i []) 100) ?_
  rw [hd,rdPth]
  simp only [↓zq,zs,hasK]
  cases q:vOK d (p.getD i []) 100 with
  | none =>
   simp only [Option.isSome_none]
   exact⟨fun _=>rfl,fun h=>by simp at h⟩
  | some w =>
   simp only [Option.isSome_some]
   refine⟨fun h=>by simp at h,fun _=>?_⟩
   rw [wrap_succ i (by omega)]
   have ih:=Lqao s d f pa p hp hl k (i+1) (by omega)
   cases q2:rdPth d (p.drop (i+1)) with
   | none=>rw [q2] at ih; exact ih
   | some l=>rw [q2] at ih; exact ih
theorem rdZ_eq (s:Nm) (p:List Nm) (f:Nm):rdZ s p f = (derLoop s).bind fun d=>(rdLp s).bind fun _=>(vOK s f 100).bind fun v=>if p.length<=50 then(rdPth d p).map fun l=>(l,v) else none:=by
 unfold rdZ lvOK
 cases rdLp s with
 | none=>cases derLoop s<;>rfl
 | some a=>cases vOK s f 100<;>cases derLoop s<;>rfl
theorem Sqfx (s:Nm) (pa:AV) (p:List Nm) (hp:StrsA pa p) (f:Nm):FSpec Tryz.prog 83 [.agg [.v (.string (mk s)),pa,.v (.string (mk f))]] [] (Det (.v (.bool (rdZ s p f).isSome))):=by
 refine Fqjv _ _ _ hp.1 ?_
 unfold tqdd
 refine wp_det (Sqfk s) ?_
 rw [optS_eq]
 simp only [↓zq,zs,hasK,zt]
 refine wp_call (Sq45 s) (ParR.ne _ _ (fun h=>h)) ?_
 rintro r o ⟨c,e,he,rfl,_⟩
 rw [rdLE_rdL]
 simp only [↓zq,zs,hasK,zt,hasL,hp.len]
 rw [rdZ_eq]
 refine⟨he,fun h=>?_,fun h=>⟨fun h'=>?_,fun h'=>⟨hp.1,fun h''=>?_,fun h''=>?_⟩⟩⟩
 ·have:derLoop s = none:=by cases q:derLoop s with | none=>rfl | some d=>simp [q] at h
  rw [this]
  exact⟨rfl,rfl⟩
 ·have:rdLp s = none:=by cases q:rdLp s with | none=>rfl | some d=>simp [q] at h'
  rw [this]
  cases derLoop s<;>exact⟨rfl,rfl⟩
 ·simp only [if_neg (show ¬ p.length<=50 by omega)]
  exact⟨by cases derLoop s<;>cases rdLp s<;>cases vOK s f 100<;>rfl,rfl⟩
 ·obtain⟨d,hd⟩:∃d,derLoop s = some d:=by cases q:derLoop s with | none=>simp [q] at h | some d=>exact⟨d,rfl⟩
  obtain⟨a,ha⟩:∃a,rdLp s = some a:=by cases q:rdLp s with | none=>simp [q] at h' | some d=>exact⟨d,rfl⟩
  rw [hd,ha]
  refine wp_det (Sq1a s f 100) ?_
  simp only [↓zq,zs,hasK]
  cases q:vOK s f 100 with
  | none=>simp only [Option.isSome_none]; exact⟨fun _=>⟨rfl,rfl⟩,fun h=>by simp at h⟩
  | some v =>
   simp only [Option.isSome_some,Option.getD_some,Option.bind_some]
   refine⟨fun h=>by simp at h,fun _=>?_⟩
   have hl:p.length<=50:=by omega
   have hloop:=Lqao s d f pa p hp hl p.length 0 (by omega)
   rw [List.drop_zero] at hloop
   rw [if_pos hl]
   refine wp_loopB hloop (fun ys o e=>?_) (fun ys o e=>?_)
   ·cases q2:rdPth d p with
    | none=>rw [q2] at e; cases e
    | some l=>exact⟨rfl,rfl⟩
   ·cases q2:rdPth d p with
    | none=>rw [q2] at e; cases e; simp only [↓zq,zs,hasK]; exact⟨rfl,rfl⟩
    | some l=>rw [q2] at e; cases e
theorem rdZ_st {s:Nm} {p:List Nm} {f:Nm} {l:List Vl} {v:Vl} (h:rdZ s p f = some (l,v)):∃d,St s d (zA s) l v/\p = l.map (·.txt)/\f = v.txt:=by
 obtain⟨d,a,x,A,B,D,z,hz,hp,hf,hl,hza,_,hr⟩:=rdZ_some h
 rw [hza]
 exact⟨d,⟨⟨x,A,B,D,z⟩,hz,rdPth_each hr hp,by rw [hp] at hl; simpa using hl⟩,hp,hf⟩
theorem Sq2v (s:Nm) (pa:AV) (p:List Nm) (hp:StrsA pa p) (f:Nm):FSpec Tryz.prog 47 [.agg [.v (.string (mk s)),pa,.v (.string (mk f))]] [] (Det (.v (.bool (rdVd s p f).isSome))):=by
 refine Fqg1 _ _ _ hp.1 ?_
 unfold tqe5
 refine wp_det (Sqfx s pa p hp f) ?_
 simp only [↓zq,zs,hasK]
 unfold rdVd
 cases q:rdZ s p f with
 | none=>simp only [Option.isSome_none]; exact⟨fun _=>⟨rfl,rfl⟩,fun h=>by simp at h⟩
 | some r =>
  obtain⟨l,v⟩:=r
  obtain⟨d,hs,rfl,rfl⟩:=rdZ_st q
  simp only [Option.isSome_some,Option.bind_some]
  refine⟨fun h=>by simp at h,fun _=>?_⟩
  refine wp_call (Sq8m hs pa hp) (CloR.ne _) ?_
  rintro r o ⟨rfl,c0,p',c2,h1,rfl,_⟩
  simp only [↓zq,zs,hasK,zt,hasL]
  refine⟨h1,?_,rfl⟩
  congr 2
  cases clo (zA s) l v<;>rfl
end Go.Proofs.Trees
namespace Go.Proofs.Trees
open Go Go.VL Go.RowKit
inductive Rl (x:Nm):Nat->Tg->Tg->Prop
 | nm (i):Rl x i (.nm x) (.bd i)
 | oth (i s) (h:s≠x):Rl x i (.nm s) (.nm s)
 | bd (i j) (h:j≠i):Rl x i (.bd j) (.bd j)
theorem Rl.up {x:Nm} {i:Nat} {a b:Tg} (h:Rl x i a b):Rl x (i+1) a.up b.up:=by
 cases h with
 | nm=>exact .nm _
 | oth s h=>exact .oth _ _ h
 | bd j h=>exact .bd _ _ (by omega)
theorem Rl.at {x:Nm} {i:Nat} {a b:Tg} (h:Rl x i a b):∀t:Ty,hasN x t = false->isAt (opn (.name x) t i) a = isAt t b
 | .bound k,_=>by
  simp only [opn]
  cases h with
  | nm =>
   by_cases e:k = i
   ·simp [e,isAt]
   ·simp [e,isAt]
  | oth s h =>
   by_cases e:k = i
   ·simp [e,isAt,Ne.symm h]
   ·simp [e,isAt]
  | bd j h =>
   by_cases e:k = i
   ·simp [e,isAt,Ne.symm h]
   ·simp [e,isAt]
 | .name s,hn=>by
  have hs:s≠x:=by simpa [hasN] using hn
  cases h with
  | nm=>simp [opn,isAt,hs]
  | oth=>rfl
  | bd=>rfl
 | .plus _ _,_=>by cases h<;>rfl
 | .times _ _,_=>by cases h<;>rfl
 | .rc _,_=>by cases h<;>rfl
 | .zero,_=>by cases h<;>rfl
 | .one,_=>by cases h<;>rfl
theorem holes_opn (x:Nm):∀(n:Nat) (t:Ty) (i:Nat) (a b:Tg) (v:Vl),hasN x t = false->Rl x i a b->holesN n (opn (.name x) t i) a v = holesN n t b v
 | 0,_,_,_,_,_,_,_=>rfl
 | n+1,t,i,a,b,v,hn,h=>by
  rw [holesN,holesN,h.at t hn]
  by_cases ht:isAt t b = true
  ·rw [if_pos ht,if_pos ht]
  ·rw [if_neg ht,if_neg ht]
   cases t with
   | plus p q =>
    simp only [hasN,Bool.or_eq_false_iff] at hn
    cases v<;>simp only [opn,holesS,holes_opn x n p i a b _ hn.1 h,holes_opn x n q i a b _ hn.2 h]
   | times p q =>
    simp only [hasN,Bool.or_eq_false_iff] at hn
    cases v<;>simp only [opn,holesS,holes_opn x n p i a b _ hn.1 h,holes_opn x n q i a b _ hn.2 h]
   | rc p =>
    have h0:Rl x (i+1) (.bd 0) (.bd 0):=.bd _ _ (by omega)
    cases v<;>simp only [opn,holesS]
    rename_i w
    rw [holes_opn x n p (i+1) a.up b.up w hn h.up,holes_opn x n p (i+1) (.bd 0) (.bd 0) w hn h0]
    congr 1
    apply flat_congr
    intro k _
    have:=holes_opn x n (.rc p) i a b k.2 hn h
    simp only [opn] at this
    rw [this]
   | bound k =>
    simp only [opn]
    by_cases e:k = i
    ·rw [if_pos e]; cases v<;>rfl
    ·rw [if_neg e]; cases v<;>rfl
   | name s=>rfl
   | zero=>rfl
   | one=>rfl
theorem holes_opn' (x:Nm) {t:Ty} {i:Nat} {a b:Tg} (v:Vl) (hn:hasN x t = false) (h:Rl x i a b):holes (opn (.name x) t i) a v = holes t b v:=holes_opn x _ t i a b v hn h
theorem holesT (n:Nat):∀(m:Nat) (v:Vl),v.nodes<=m->∀(t:Ty) (s:Nm) (d:Ty) (σ:Nm->Option Ty),Dv t s d->clS σ->lcT t 0->vT n v (sbs σ t) = true->∀h,h∈holes t (.nm s) v ->
  vT n h.1 (sbs σ d) = true/\vT n h.2 (sbs σ (.name s)) = true/\plug t h.1 h.2 = v
 | 0,v,hm=>by have:=nodes_pos v; omega
 | m+1,v,hm=>by
  intro t s d σ hd hσ hl hv h hh
  cases hd with
  | zero=>rw [holes_no rfl (by cases v<;>rfl)] at hh; cases hh
  | one=>rw [holes_no rfl (by cases v<;>rfl)] at hh; cases hh
  | bound=>rw [holes_no rfl (by cases v<;>rfl)] at hh; cases hh
  | miss hne=>rw [holes_no (by simp [isAt,hne]) (by cases v<;>rfl)] at hh; cases hh
  | hit =>
   rw [holes_at v (by simp [isAt])] at hh
   simp only [List.mem_singleton] at hh
   subst hh
   exact⟨rfl,hv,plug_name _ _ _⟩
  | @plus a b _ a' b' h1 h2 _ =>
   rcases vT_plus hv with⟨w,rfl,hw⟩ | ⟨w,rfl,hw⟩
   ·simp only [Vl.nodes] at hm
    rw [holes_l] at hh
    obtain⟨k,hk,rfl⟩:=mem_inC hh
    obtain⟨q1,q2,q3⟩:=holesT n m w (by omega) _ s _ σ h1 hσ hl.1 hw k hk
    exact⟨q1,q2,congrArg Vl.l q3⟩
   ·simp only [Vl.nodes] at hm
    rw [holes_r] at hh
    obtain⟨k,hk,rfl⟩:=mem_inC hh
    obtain⟨q1,q2,q3⟩:=holesT n m w (by omega) _ s _ σ h2 hσ hl.2 hw k hk
    exact⟨q1,q2,congrArg Vl.r q3⟩
  | @times a b _ a' b' h1 h2 _ =>
   obtain⟨x,y,rfl,hx,hy⟩:=vT_times hv
   simp only [Vl.nodes] at hm
   rw [holes_p] at hh
   rcases List.mem_append.1 hh with hh | hh
   ·obtain⟨k,hk,rfl⟩:=mem_inC hh
    obtain⟨q1,q2,q3⟩:=holesT n m x (by omega) _ s _ σ h1 hσ hl.1 hx k hk
    refine⟨?_,q2,congrArg (fun q=>Vl.p q y) q3⟩
    show (vT n k.1 (sbs σ a')&&vT n y (sbs σ b)) = true
    rw [q1,hy]; rfl
   ·obtain⟨k,hk,rfl⟩:=mem_inC hh
    obtain⟨q1,q2,q3⟩:=holesT n m y (by omega) _ s _ σ h2 hσ hl.2 hy k hk
    refine⟨?_,q2,congrArg (Vl.p x) q3⟩
    show (vT n x (sbs σ a)&&vT n k.1 (sbs σ b')) = true
    rw [q1,hx]; rfl
  | @rc a _ c0 d0 x hx hs h1 h2 hsz =>
   have lo:lcT (opn (.name x) a 0) 0:=lc_opn x a hl
   obtain⟨X,e1,e2⟩:=drc_open (x:=x) hσ hl (h1.lc lo) (h2.lc lo)
   obtain⟨w,rfl,hw⟩:=vT_f hv
   simp only [Vl.nodes] at hm
   have hcl:=ext1_cl hσ x (sbs_lc hσ (.rc a) hl)
   have hop:sbs (ext1 σ x (sbs σ (.rc a))) (opn (.name x) a 0) = opn (sbs σ (.rc a)) (sbs σ a) 0:=sbs_opn hσ x _ a 0 hx
   have hns:sbs (ext1 σ x (sbs σ (.rc a))) (.name s) = sbs σ (.name s):=by simp only [sbs,ext1,if_neg (Ne.symm hs)]
   have hnx:sbs (ext1 σ x (sbs σ (.rc a))) (.name x) = sbs σ (.rc a):=by simp [sbs,ext1]
   have hw':vT n w (sbs (ext1 σ x (sbs σ (.rc a))) (opn (.name x) a 0)) = true:=by rw [hop]; exact hw
   have ty:∀y,vT n y (opn (.rc X) X 0) = true->vT n (.f y) (sbs σ (drc a x c0 d0)) = true:=fun y hy=>by rw [e1]; exact hy
   rw [holes_f] at hh
   rcases List.mem_append.1 hh with hh | hh
   ·obtain⟨k,hk,rfl⟩:=mem_inC hh
    have hk':k∈holes (opn (.name x) a 0) (.nm s) w:=by rw [holes_opn' x w hx (.oth 0 s (Ne.symm hs))]; exact hk
    obtain⟨q1,q2,q3⟩:=holesT n m w (by omega) _ s _ _ h1 hcl lo hw' k hk'
    rw [plug_opn x k.1.nodes k.1 a 0 k.2 (Nat.le_refl _)] at q3
    refine⟨ty _ ?_,by rw [<-hns]; exact q2,congrArg Vl.f q3⟩
    rw [e2]; exact q1
   ·obtain⟨k,hk,hh⟩:=List.mem_flatMap.1 hh
    obtain⟨k2,hk2,rfl⟩:=mem_inC hh
    have hk':k∈holes (opn (.name x) a 0) (.nm x) w:=by rw [holes_opn' x w hx (.nm 0)]; exact hk
    obtain⟨q1,q2,q3⟩:=holesT n m w (by omega) _ x _ _ h2 hcl lo hw' k hk'
    rw [plug_opn x k.1.nodes k.1 a 0 k.2 (Nat.le_refl _)] at q3
    rw [hnx] at q2
    have hsz2:=(holes_sz hk).1
    obtain⟨r1,r2,r3⟩:=holesT n m k.2 (by omega) (.rc a) s _ σ (.rc x hx hs h1 h2 hsz) hσ hl q2 k2 hk2
    refine⟨ty _ ?_,r2,?_⟩
    ·rw [e2]
     show (vT n k.1 _&&vT n k2.1 _) = true
     rw [q1,r1]; rfl
    ·show Vl.f (plug a k.1 (plug (.rc a) k2.1 k2.2)) = .f w
     rw [r3,q3]
theorem lp_hole {n:Nat} {a D:Ty} {x:Nm} (hx:hasN x a = false) (hl:lcT (.rc a) 0) (h:lpO a x = some D) {v:Vl} (hv:vT n v (.rc a) = true) {k:Hl} (hk:k∈kids a v) :
  vT n k.1 D = true/\vT n k.2 (.rc a) = true/\.f (plug a k.1 k.2) = v:=by
 simp only [lpO,Option.bind_eq_some_iff,dvO_iff,chk_some] at h
 obtain⟨d,hd,_,rfl⟩:=h
 have lo:lcT (opn (.name x) a 0) 0:=lc_opn x a hl
 have hcl:=ext1_cl noS_cl x hl
 have e1:sub x (.rc a) d = sbs (ext1 noS x (.rc a)) d:=by
  have:=sbs_sub noS x (.rc a) d
  rw [sbs_no,sbs_no] at this; exact this
 obtain⟨w,rfl,hw⟩:=vT_f hv
 have hk':k∈holes (opn (.name x) a 0) (.nm x) w:=by rw [holes_opn' x w hx (.nm 0)]; exact hk
 have hop:sbs (ext1 noS x (.rc a)) (opn (.name x) a 0) = opn (.rc a) a 0:=by rw [sbs_opn noS_cl x _ a 0 hx,sbs_no]
 obtain⟨q1,q2,q3⟩:=holesT n w.nodes w (Nat.le_refl _) _ x _ _ hd hcl lo (by rw [hop]; exact hw) k hk'
 rw [plug_opn x k.1.nodes k.1 a 0 k.2 (Nat.le_refl _)] at q3
 refine⟨by rw [e1]; exact q1,?_,congrArg Vl.f q3⟩
 simpa [sbs,ext1] using q2
theorem freeLoo_has:∀{t:Ty},freeLoo t = true->∃y,hasN y t = true/\isLoo y = true
 | .name s,h=>⟨s,by simp [hasN],h⟩
 | .plus a b,h=>by
  simp only [freeLoo,Bool.or_eq_true] at h
  rcases h with h | h
  ·obtain⟨y,h1,h2⟩:=freeLoo_has h; exact⟨y,by simp [hasN,h1],h2⟩
  ·obtain⟨y,h1,h2⟩:=freeLoo_has h; exact⟨y,by simp [hasN,h1],h2⟩
 | .times a b,h=>by
  simp only [freeLoo,Bool.or_eq_true] at h
  rcases h with h | h
  ·obtain⟨y,h1,h2⟩:=freeLoo_has h; exact⟨y,by simp [hasN,h1],h2⟩
  ·obtain⟨y,h1,h2⟩:=freeLoo_has h; exact⟨y,by simp [hasN,h1],h2⟩
 | .rc a,h=>by
  obtain⟨y,h1,h2⟩:=freeLoo_has (t:=a) h; exact⟨y,by simp [hasN,h1],h2⟩
theorem has_freeLoo:∀{t:Ty} {y:Nm},hasN y t = true->isLoo y = true->freeLoo t = true
 | .name s,y,h,hl=>by
  have:s = y:=by simpa [hasN] using h
  rw [this]; exact hl
 | .plus a b,y,h,hl=>by
  simp only [hasN,Bool.or_eq_true] at h
  simp only [freeLoo,Bool.or_eq_true]
  exact h.imp (has_freeLoo · hl) (has_freeLoo · hl)
 | .times a b,y,h,hl=>by
  simp only [hasN,Bool.or_eq_true] at h
  simp only [freeLoo,Bool.or_eq_true]
  exact h.imp (has_freeLoo · hl) (has_freeLoo · hl)
 | .rc a,y,h,hl=>has_freeLoo (t:=a) h hl
 | .zero,y,h,_=>by simp [hasN] at h
 | .one,y,h,_=>by simp [hasN] at h
 | .bound k,y,h,_=>by simp [hasN] at h
theorem ZT.dce {s d:Nm} {a:Ty} {x A B:E} {D:Ty} (z:ZT s d a x A B D):∃e,rdCE d = some e/\Ask e [] D:=by
 have hcl:freeLoo D = false:=by
  cases q:freeLoo D with
  | false=>rfl
  | true =>
   obtain⟨y,h1,h2⟩:=freeLoo_has q
   have:=has_freeLoo (t:=.rc a) (lpO_names z.lp y h1) h2
   rw [z.ask.cl] at this; cases this
 have hc:rdC d = some D:=by unfold rdC; rw [z.bk]; simp only; rw [if_pos (by rw [closed_eq,hcl]; rfl)]
 cases q:rdCE d with
 | none=>rw [rdCE_none q] at hc; cases hc
 | some e =>
  obtain⟨t,h1,hA,_⟩:=rdCE_full q
  rw [hc] at h1; cases h1
  exact⟨e,rfl,hA⟩
theorem ZT.cxt {s d:Nm} {a:Ty} {x A B:E} {D:Ty} (z:ZT s d a x A B D) {w:Vl} (hb:w.bel 100) (hv:vT 100 w D = true):vOK d w.txt 100 = if w.nodes<=200 then some w else none:=by
 obtain⟨e,he,hA⟩:=z.dce
 unfold vOK
 rw [he]
 by_cases hn:w.nodes<=200
 ·rw [rdV_txt hb hn,if_pos hn]
  simp only
  rw [if_pos ⟨by omega,by rw [show (100:Int).toNat = 100 from rfl,vis_top hA]; exact hv⟩]
 ·rw [if_neg hn]
  cases q:rdV w.txt with
  | none=>rfl
  | some w' =>
   exfalso
   obtain⟨_,h2,h3⟩:=rdV_ok q
   have:=txt_inj hb h2 (rdV_was q)
   rw [this] at hn; exact hn h3
theorem ZT.kid {s d:Nm} {a:Ty} {x A B:E} {D:Ty} (z:ZT s d a x A B D) {v:Vl} (hv:Fo a v) {k:Hl} (hk:k∈kids a v):vT 100 k.1 D = true/\Fo a k.2/\.f (plug a k.1 k.2) = v:=by
 obtain⟨e2,he2,hw2,hte2,_,_⟩:=rdY_wf z.y
 have hlc:lcT (.rc a) 0:=hte2 ▸ hw2.good.1
 obtain⟨q1,q2,q3⟩:=lp_hole (fresh1 z.y) hlc z.lp hv.ty hk
 have:=kids_sz hk
 have:=hv.nd
 exact⟨q1,⟨q2,(kids_bel hv.bel hk).2,by omega⟩,q3⟩
def dnF (a:Ty) (l:List Vl) (v:Vl) (k:Int):Option (List Vl×Vl) :=
 if l.length = 50 then none else if 0<=k/\k.toNat < (kids a v).length then
  (if((kids a v).getD k.toNat (.u,.u)).1.nodes<=200 then some (l++[((kids a v).getD k.toNat (.u,.u)).1],((kids a v).getD k.toNat (.u,.u)).2) else none) else none
theorem clo_snoc {a:Ty} {l:List Vl} {c e v:Vl} (h:.f (plug a c e) = v) (hn:v.nodes<=200):upF a (l++[c]) e = some (l,v)/\clo a (l++[c]) e = clo a l v:=by
 have hu:upF a (l++[c]) e = some (l,v):=by
  unfold upF
  rw [List.getLast?_concat]
  simp only
  rw [h,if_pos hn,List.dropLast_concat]
 refine⟨hu,?_⟩
 unfold clo
 rw [List.length_append,List.length_singleton,cloN,hu]
 rfl
theorem rdVd_snoc {s d:Nm} {l:List Vl} {v:Vl} (hs:St s d (zA s) l v) (hd:derLoop s = some d) (hv:rdVd s (l.map (·.txt)) v.txt = some (l,v)) {k:Hl} (hk:k∈kids (zA s) v) :
  rdVd s (l.map (·.txt)++[k.1.txt]) k.2.txt = if l.length = 50 then none else if k.1.nodes<=200 then some (l++[k.1],k.2) else none:=by
 obtain⟨x,A,B,D,z⟩:=hs.z
 obtain⟨t1,t2,t3⟩:=z.kid hs.i.foc hk
 have hb:=(kids_bel hs.i.foc.bel hk).1
 have hz:=(rdVd_some hv).1
 have hclo:=(rdVd_some hv).2
 have hlen:=hs.len
 have hlp:rdPth d (l.map (·.txt)) = some l:=by
  rw [rdZ_eq,hd] at hz
  simp only [Option.bind_some,z.l] at hz
  obtain⟨_,h1,h2⟩:=Option.bind_eq_some_iff.1 hz
  split at h2
  ·obtain⟨l',h3,h4⟩:=Option.map_eq_some_iff.1 h2
   cases h4; exact h3
  ·cases h2
 have e1:vOK s k.2.txt 100 = some k.2:=by rw [z.txt t2.bel t2.ty,if_pos t2.nd]
 unfold rdVd
 rw [rdZ_eq,hd]
 simp only [Option.bind_some,z.l,e1,rdPth_app,hlp,rdPth,z.cxt hb t1,List.length_append,List.length_map,List.length_singleton]
 by_cases h50:l.length = 50
 ·rw [if_neg (by omega),if_pos h50]; rfl
 ·rw [if_pos (by omega),if_neg h50]
  by_cases hn:k.1.nodes<=200
  ·rw [if_pos hn,if_pos hn]
   simp only [Option.map_some,Option.bind_some,(clo_snoc (l:=l) t3 hs.i.foc.nd).2]
   rw [if_pos hclo]
  ·rw [if_neg hn,if_neg hn]; rfl
end Go.Proofs.Trees
namespace Go.Proofs.Trees
open Go Go.VL Go.RowKit
def ZSp (s:Nm) (o:Option (List Vl×Vl)):AV->List Ob->Prop:=fun r obs=>obs = []/\∃pa,StrsA pa (tZ s o).2.1/\r = .tup [.agg [.v (.string (mk (tZ s o).1)),pa,.v (.string (mk (tZ s o).2.2))],.v (.bool o.isSome)]
theorem tZ_len (s:Nm) {o:Option (List Vl×Vl)} (h:GZ o):(tZ s o).2.1.length<=51:=by
 cases o with
 | none=>simp
 | some r=>obtain⟨_,_,h3⟩:=h r rfl; simpa using h3
theorem ZSp.ne (s:Nm) (o:Option (List Vl×Vl)):∃r ob,ZSp s o r ob:=⟨_,[],rfl,_,StrsA.of _,rfl⟩
theorem ZSp.none (s:Nm):ZSp s none (.tup [.agg [.v (.string (mk [])),.v (.slice none 0 0),.v (.string (mk []))],.v (.bool false)]) []:=⟨rfl,_,StrsA.nil,rfl⟩
theorem rdVd_st {s:Nm} {p:List Nm} {f:Nm} {l:List Vl} {v:Vl} (h:rdVd s p f = some (l,v)):∃d,St s d (zA s) l v/\p = l.map (·.txt)/\f = v.txt:=rdZ_st (rdVd_some h).1
theorem Sq75 (s:Nm) (pa:AV) (p:List Nm) (hp:StrsA pa p) (f:Nm):FSpec Tryz.prog 49 [.agg [.v (.string (mk s)),pa,.v (.string (mk f))]] [] (ZSp s (rdVd s p f)):=by
 refine Fqi4 _ _ _ hp.1 ?_
 unfold tq99
 refine wp_det (Sq2v s pa p hp f) ?_
 simp only [↓zq,zs,hasK]
 cases q:rdVd s p f with
 | none=>simp only [Option.isSome_none]; exact⟨fun _=>ZSp.none s,fun h=>by simp at h⟩
 | some r =>
  obtain⟨_,_,rfl,rfl⟩:=rdVd_st (l:=r.1) (v:=r.2) q
  simp only [Option.isSome_some]
  exact⟨fun h=>by simp at h,fun _=>⟨rfl,pa,hp,rfl⟩⟩
theorem rdVd_nil (s f:Nm):rdVd s [] f = rdZ s [] f:=by
 unfold rdVd
 cases q:rdZ s [] f with
 | none=>rfl
 | some r =>
  obtain⟨l,v⟩:=r
  obtain⟨_,_,h,_⟩:=rdZ_st q
  have:l = []:=List.map_eq_nil_iff.1 h.symm
  subst this
  rfl
theorem Sqge (s f:Nm):FSpec Tryz.prog 39 [.v (.string (mk s)),.v (.string (mk f))] [] (ZSp s (rdZ s [] f)):=by
 refine Fqid _ _ ?_
 unfold tqda
 rw [<-rdVd_nil]
 refine wp_call (Sq75 s _ [] (StrsA.of []) f) (ZSp.ne _ _) ?_
 rintro r o ⟨rfl,pa,hp,rfl⟩
 simp only [↓zq,zs,hasK,zt,hasL]
 exact⟨hp.1,rfl,pa,hp,rfl⟩
def toldAV (l:List Hl):List (List AV):=l.map fun h=>[.v (.string (mk h.1.txt)),.v (.string (mk h.2.txt))]
theorem toldAV_len (l:List Hl):(toldAV l).length = l.length:=by simp [toldAV]
theorem Lqaw (l:List Hl) (hl:l.length<=1000) (h1:∀h,h∈l->h.1.txt.length<=900000) (h2:∀h,h∈l->h.2.txt.length<=900000):∀(k i:Nat) (out:List Hl),i+k = l.length->out.length<=i ->
  Lq3a [.sl (sAV l),.v (.int .i64 (i:Int))] [.vec 2 (toldAV out)] (LIs 1 [] [.vec 2 (toldAV (out++l.drop i))])
 | 0,i,out,hi,ho=>by
  refine Gq8j _ _ _ ?_
  have:i = l.length:=by omega
  subst this
  simp only [rq53,↓zq,zs,hasK,sAV_len,List.drop_length]
  exact⟨fun h=>by omega,fun _=>by simp [LIs]⟩
 | k+1,i,out,hi,ho=>by
  have hlt:i < l.length:=by omega
  have hm:=List.getElem_mem hlt
  have t1:=Sq23 (l[i]).1.toE (toE_ok _) (h1 _ hm)
  have t2:=Sq23 (l[i]).2.toE (toE_ok _) (h2 _ hm)
  rw [sav_sp] at t1 t2
  refine Gq8j _ _ _ ?_
  simp only [rq53,↓zq,zs,hasK,zt,sAV_len,sAV_get hlt,hasL,sp_has]
  refine⟨fun _=>?_,fun h=>by omega⟩
  repeat refine⟨by omega,?_⟩
  refine wp_det t1 ?_
  simp only [↓zq,zs,hasK,zt]
  repeat refine⟨by omega,?_⟩
  refine wp_det t2 ?_
  simp only [↓zq,zs,hasK,zt,toldAV_len]
  refine⟨⟨fun c hc=>by simp at hc; rw [hc]; rfl,by omega⟩,?_⟩
  rw [wrap_succ i (by omega),List.drop_eq_getElem_cons hlt]
  have:=Lqaw l hl h1 h2 k (i+1) (out++[l[i]]) (by omega) (by simp; omega)
  rw [List.append_assoc] at this
  simpa [toldAV] using this
theorem Sqi0 (l:List Hl) (hl:l.length<=1000) (h1:∀h,h∈l->h.1.txt.length<=900000) (h2:∀h,h∈l->h.2.txt.length<=900000):FSpec Tryz.prog 71 [.sl (sAV l)] [] (Det (.sl (toldAV l))):=by
 refine Fqik _ ((has_sl _).mpr trivial) ?_
 unfold tq8s
 refine wp_loop1 (Lqaw l hl h1 h2 l.length 0 [] (by omega) (by simp)) ?_
 simp only [↓zq,zs,hasK]
 exact⟨rfl,rfl⟩
theorem kidF_txt {a:Ty} {v:Vl} (h:Fo a v) {k:Hl} (hk:k∈kids a v):k.1.txt.length<=900000/\k.2.txt.length<=900000:=by
 obtain⟨b1,b2⟩:=kids_bel h.bel hk
 have h1:=txt_len _ b1
 have h2:=txt_len _ b2
 have h3:=kids_sz hk
 have h4:=h.nd
 have h5:k.1.nodes<=4*v.nodes:=by
  cases v with
  | f w=>have:=(holes_sz hk).2; simp only [Vl.nodes]; omega
  | _=>cases hk
 omega
theorem Sqjk {s d:Nm} {a:Ty} {x A B:E} {D:Ty} (z:ZT s d a x A B D) (v:Vl) (hv:Fo a v):FSpec Tryz.prog 33 [.v (.string (mk s)),.v (.string (mk v.txt))] [] (Det (.tup [.sl (toldAV (kids a v)),.v (.bool true)])):=by
 have hv2:vOK s v.txt 100 = some v:=by rw [z.txt hv.bel hv.ty,if_pos hv.nd]
 have hP:=P3.of x A B
 have hn:=hv.nd
 obtain⟨v0,hv0,_⟩:=vis_rec .nil z.hx (hv.vis z)
 have hkids:=Sqg9 100 v x A B a z.body z.hx v0 hv0 (hv.vis z) (by omega)
 have hV:=P2.of (.atom [102]) v0.toE
 refine Fqjz _ _ ?_
 unfold tq85
 refine wp_call (Sq45 s) (ParR.ne _ _ (fun h=>h)) ?_
 rintro r o ⟨c,e,he,rfl,hh⟩
 rw [z.le] at hh
 obtain⟨e',he',hce⟩:=hh rfl
 cases he'
 rw [sav_sp] at hce
 rw [hce,z.le]
 simp only [↓zq,zs,hasK,zt,sp_hasL,at_list]
 repeat refine⟨by omega,?_⟩
 refine wp_call (Sq2j v.txt) (ParR.ne _ _ (fun h=>by simpa using h)) ?_
 rw [rdV_txt hv.bel hn]
 rintro r o ⟨c,e,he,rfl,hh⟩
 obtain⟨e',he',hce⟩:=hh rfl
 cases he'
 rw [sav_sp] at hce
 rw [hce]
 simp only [↓zq,zs,hasK,zt,sp_hasL,Option.isSome_some]
 repeat refine⟨by omega,?_⟩
 refine⟨fun h=>by simp at h,fun _=>?_⟩
 refine wp_det (Sq1a s v.txt 100) ?_
 rw [hv2,hv0]
 simp only [toNat_one,toNat_two,Vl.toE,at_list,↓zq,zs,hasK,zt,hP.1,hP.2.1,hP.2.2.1,hP.2.2.2,hV.1,hV.2.1,hV.2.2,sp_hasL,sp_has,Option.isSome_some]
 refine⟨fun h=>by simp at h,fun _=>?_⟩
 repeat refine⟨by omega,?_⟩
 refine wp_det hkids ?_
 simp only [↓zq,zs,hasK]
 repeat refine⟨by omega,?_⟩
 have hlen:=kids_nsum a v
 have:=len_nsum (kids a v)
 refine wp_det (Sqi0 (kids a v) (by omega) (fun h hh=>(kidF_txt hv hh).1) (fun h hh=>(kidF_txt hv hh).2)) ?_
 rw [<-hv0]
 simp only [↓zq,zs,hasK]
 exact⟨rfl,rfl⟩
end Go.Proofs.Trees
namespace Go.Proofs.Trees
open Go Go.VL Go.RowKit
theorem dnF_some {a:Ty} {l l':List Vl} {v w:Vl} {k:Int} (h:dnF a l v k = some (l',w)):∃q,q∈kids a v/\l' = l++[q.1]/\w = q.2/\q.1.nodes<=200/\l.length≠50/\0<=k/\(kids a v)[k.toNat]? = some q:=by
 unfold dnF at h
 split at h
 ·cases h
 ·rename_i h0
  split at h
  ·rename_i h1
   split at h
   ·rename_i h2
    cases h
    have e:(kids a v).getD k.toNat (.u,.u) = (kids a v)[k.toNat]'h1.2:=by simp [List.getD_eq_getElem?_getD,h1.2]
    rw [e] at h2 |-
    exact⟨_,List.getElem_mem _,rfl,rfl,h2,h0,h1.1,by simp [h1.2]⟩
   ·cases h
  ·cases h
theorem St.dn {s d:Nm} {a:Ty} {l l':List Vl} {v w:Vl} {k:Int} (h:St s d a l v) (hu:dnF a l v k = some (l',w)):St s d a l' w/\upF a l' w = some (l,v)/\l'.length = l.length+1:=by
 obtain⟨q,hq,rfl,rfl,hn,h50,_,_⟩:=dnF_some hu
 obtain⟨x,A,B,D,z⟩:=h.z
 obtain⟨t1,t2,t3⟩:=z.kid h.i.foc hq
 have hv:vOK d q.1.txt 100 = some q.1:=by rw [z.cxt (kids_bel h.i.foc.bel hq).1 t1,if_pos hn]
 have hlen:=h.len
 refine⟨⟨⟨x,A,B,D,z⟩,⟨fun c hc=>?_,t2⟩,fun c hc=>?_,by simp; omega⟩,(clo_snoc t3 h.i.foc.nd).1,by simp⟩
 ·rcases List.mem_append.1 hc with hc | hc
  ·exact h.i.ctx c hc
  ·simp only [List.mem_singleton] at hc; subst hc; exact z.ctx hv
 ·rcases List.mem_append.1 hc with hc | hc
  ·exact h.each c hc
  ·simp only [List.mem_singleton] at hc; subst hc; exact hv
theorem Sqga {s d:Nm} {a:Ty} {l:List Vl} {v:Vl} (h:St s d a l v) (k:Int):FSpec Tryz.prog 41 [zAV s a l v,.v (.int .i64 k)] [] (Det (oZ s a (dnF a l v k))):=by
 obtain⟨x,A,B,D,z⟩:=h.z
 have hnd:=h.i.foc.nd
 have hlen:=h.len
 refine Fqek _ _ ((has_ptr _).mpr trivial) ?_
 simp only [tq58,zAV,↓zq,zs,hasK,cAV_len,vl_has,ty_has]
 refine⟨fun h=>(by cases h),fun _=>?_⟩
 repeat refine⟨by first | trivial | omega,?_⟩
 unfold dnF
 refine⟨fun h5=>?_,fun h5=>?_⟩
 ·rw [if_pos (by omega)]; exact⟨rfl,rfl⟩
 ·rw [if_neg (by omega)]
  repeat refine⟨by first | trivial | omega,?_⟩
  refine wp_det (Sqi9 100 v x A B a z.body z.hx (h.i.foc.vis z) (by omega)) ?_
  have hkl:(hAV (kids a v)).length = (kids a v).length:=by simp [hAV]
  simp only [↓zq,zs,hasK,hkl]
  refine⟨fun h0=>?_,fun h0=>⟨fun h1=>?_,fun h1=>?_⟩⟩
  ·rw [if_neg (by omega)]; exact⟨rfl,rfl⟩
  ·rw [if_neg (by omega)]; exact⟨rfl,rfl⟩
  ·have hlt:k.toNat < (kids a v).length:=by omega
   rw [if_pos ⟨by omega,hlt⟩]
   have hg:(hAV (kids a v)).getD k.toNat [] = [((kids a v)[k.toNat]).1.iav,((kids a v)[k.toNat]).2.iav]:=by simp [hAV,List.getD_eq_getElem?_getD,hlt]
   have hg2:(kids a v).getD k.toNat (.u,.u) = (kids a v)[k.toNat]:=by simp [List.getD_eq_getElem?_getD,hlt]
   have hm:=List.getElem_mem hlt
   rw [hg2]
   have hctx:((kids a v)[k.toNat]).1.nodes<=4*v.nodes:=by
    cases v with
    | f w=>have:=(holes_sz hm).2; simp only [Vl.nodes]; omega
    | _=>simp [kids] at hlt
   generalize (kids a v)[k.toNat] = q at *
   simp only [hg,↓zq,zs,hasK,vl_has]
   repeat refine⟨by first | trivial | omega,?_⟩
   refine wp_det (Sqd q.1 (by omega)) ?_
   simp only [↓zq,zs,hasK,vl_has,ty_has,zt]
   refine⟨fun hb=>?_,fun hb=>?_⟩
   ·rw [if_neg (by omega)]; exact⟨rfl,rfl⟩
   ·rw [if_pos (by omega)]
    repeat refine⟨by first | trivial | omega,?_⟩
    refine⟨⟨fun c hc=>?_,by simp [cAV]; omega⟩,?_⟩
    ·simp only [cAV,List.mem_map] at hc
     obtain⟨y,_,rfl⟩:=hc; rfl
    repeat refine⟨by first | trivial | omega,?_⟩
    refine⟨⟨fun c hc=>by simp at hc; rw [hc]; rfl,by simp [cAV]; omega⟩,?_⟩
    repeat refine⟨by first | trivial | omega,?_⟩
    refine⟨?_,rfl⟩
    simp only [oZ,zAV,List.nil_append,cAV_one]
theorem Sqch (s:Nm) (a:Ty) (o:Option (List Vl×Vl)) (ho:∀r,o = some r->∃d,St s d a r.1 r.2) (k:Int):FSpec Tryz.prog 41 [oZ s a o,.v (.int .i64 k)] [] (Det (oZ s a (o.bind fun r=>dnF a r.1 r.2 k))):=by
 cases o with
 | none =>
  refine Fqek _ _ ((has_nil).mpr trivial) ?_
  simp only [tq58,oZ,↓zq,zs,hasK,Option.bind_none]
  exact⟨fun _=>⟨rfl,rfl⟩,fun h=>(by cases h)⟩
 | some r =>
  obtain⟨d,h⟩:=ho r rfl
  exact Sqga h k
noncomputable def mDown (s:Nm) (p:List Nm) (f:Nm) (k:Int):Option (List Vl×Vl):=(rdVd s p f).bind fun r=>dnF (zA s) r.1 r.2 k
theorem St.gz {s d:Nm} {a:Ty} {l:List Vl} {v:Vl} (h:St s d a l v):GZ (some (l,v)):=h.i.gz (by have:=h.len; omega)
theorem Sqjt (pa:AV) (p:List Nm) (hp:StrsA pa p) (c:Nm) (hl:p.length<=1000000):FSpec Tryz.prog 50 [pa,.v (.string (mk c))] [] (Det (.sl (strsAV (p++[c])))):=by
 refine Fqas _ _ hp.1 ?_
 simp only [tq3d,↓zq,zs,hasK,zt]
 have hpl:pa.elems.length = p.length:=hp.len
 refine⟨⟨hp.1,fun y hy=>?_,by simp; omega⟩,⟨fun y hy=>by simp at hy; rw [hy]; rfl,by simp; omega⟩,?_,rfl⟩
 ·rw [hp.2] at hy
  obtain⟨t,_,rfl⟩:=List.mem_map.1 hy
  rfl
 ·rw [hp.2]; simp [strsAV]
theorem toldAV_get {l:List Hl} {i:Nat} (h:i < l.length):(toldAV l).getD i [] = [.v (.string (mk (l[i]).1.txt)),.v (.string (mk (l[i]).2.txt))]:=by simp [toldAV,List.getD_eq_getElem?_getD,h]
theorem rdZ_dl {s:Nm} {p:List Nm} {f:Nm} {r:List Vl×Vl} (h:rdZ s p f = some r):∃d,derLoop s = some d/\St s d (zA s) r.1 r.2/\p = r.1.map (·.txt)/\f = r.2.txt:=by
 obtain⟨d,a,x,A,B,D,z,hz,hp,hf,hl,hza,_,hr⟩:=rdZ_some (l:=r.1) (v:=r.2) h
 rw [hza]
 exact⟨d,z.dl,⟨⟨x,A,B,D,z⟩,hz,rdPth_each hr hp,by rw [hp] at hl; simpa using hl⟩,hp,hf⟩
theorem dn_rd {s d:Nm} {l:List Vl} {v:Vl} (hs:St s d (zA s) l v) (hd:derLoop s = some d) (hv:rdVd s (l.map (·.txt)) v.txt = some (l,v)) {k:Int} (h0:0<=k) (hk:k.toNat < (kids (zA s) v).length) :
  rdVd s (l.map (·.txt)++[((kids (zA s) v)[k.toNat]).1.txt]) ((kids (zA s) v)[k.toNat]).2.txt = dnF (zA s) l v k:=by
 rw [rdVd_snoc hs hd hv (List.getElem_mem hk)]
 unfold dnF
 by_cases h5:l.length = 50
 ·rw [if_pos h5,if_pos h5]
 ·rw [if_neg h5,if_neg h5,if_pos (show 0<=k/\k.toNat < (kids (zA s) v).length from ⟨h0,hk⟩)]
  have hg2:(kids (zA s) v).getD k.toNat (.u,.u) = (kids (zA s) v)[k.toNat]:=by simp [List.getD_eq_getElem?_getD,hk]
  rw [hg2]
theorem Sqja (s:Nm) (pa:AV) (p:List Nm) (hp:StrsA pa p) (f:Nm) (k:Int):FSpec Tryz.prog 18 [.agg [.v (.string (mk s)),pa,.v (.string (mk f))],.v (.int .i64 k)] [] (ZSp s (mDown s p f k)):=by
 refine Fqig _ _ _ _ hp.1 ?_
 unfold tq9y
 refine wp_det (Sq2v s pa p hp f) ?_
 simp only [↓zq,zs,hasK]
 unfold mDown
 cases q:rdVd s p f with
 | none=>simp only [Option.isSome_none]; exact⟨fun _=>ZSp.none s,fun h=>by simp at h⟩
 | some r =>
  obtain⟨l,v⟩:=r
  obtain⟨d,hd,hs,rfl,rfl⟩:=rdZ_dl (rdVd_some q).1
  obtain⟨x,A,B,D,z⟩:=hs.z
  have hlen:l.length<=50:=hs.len
  have hnd:v.nodes<=200:=hs.i.foc.nd
  have hks:=kids_nsum (zA s) v
  have hks2:=len_nsum (kids (zA s) v)
  simp only [Option.isSome_some,Option.bind_some]
  refine⟨fun h=>by simp at h,fun _=>?_⟩
  refine wp_det (Sqjk z v hs.i.foc) ?_
  simp only [↓zq,zs,hasK,toldAV_len]
  rw [wrap64 (((kids (zA s) v).length:Int) - 1) (by omega) (by omega)]
  refine wp_det (Sq1y k 0 _) ?_
  rw [show inR k 0 (((kids (zA s) v).length:Int) - 1) = decide (0<=k/\k<=((kids (zA s) v).length:Int) - 1) by rw [Bool.eq_iff_iff]; simp [inR]]
  simp only [↓zq,zs,hasK,toldAV_len]
  by_cases hin:0<=k/\k<=((kids (zA s) v).length:Int) - 1
  ·have hlt:k.toNat < (kids (zA s) v).length:=by omega
   refine⟨fun h=>(by exfalso; first | omega | (simp at h; omega)),fun _=>?_⟩
   simp only [toldAV_get hlt,↓zq,zs,hasK,zt]
   repeat refine⟨by first | trivial | omega,?_⟩
   refine wp_det (Sqjt pa _ hp _ (by simp; omega)) ?_
   simp only [↓zq,zs,hasK,zt]
   repeat refine⟨by first | trivial | omega,?_⟩
   refine wp_call (Sq75 s _ _ (StrsA.of _) _) (ZSp.ne _ _) ?_
   rw [dn_rd hs hd q hin.1 hlt]
   rintro r o ⟨rfl,pa',hp',rfl⟩
   simp only [↓zq,zs,hasK,zt,hasL]
   exact⟨hp'.1,rfl,pa',hp',rfl⟩
  ·refine⟨fun _=>?_,fun h=>(by exfalso; first | omega | (simp at h; omega))⟩
   have:dnF (zA s) l v k = none:=by
    unfold dnF
    by_cases h5:l.length = 50
    ·rw [if_pos h5]
    ·rw [if_neg h5,if_neg (by omega)]
   rw [this]
   exact ZSp.none s
end Go.Proofs.Trees
namespace Go.Proofs.Trees
open Go Go.VL Go.RowKit
theorem Sqi3 (s f:(List UInt8)) (x y:AV) (l:List (List UInt8)) (hx:StrsA x l) (hy:StrsA y l) (hl:l.length<=2000000):FSpec Tryz.prog 12 [.agg [.v (.string (mk s)),x,.v (.string (mk f))],.agg [.v (.string (mk s)),y,.v (.string (mk f))]] [] (Det (.v (.bool true))):=by
 refine Fqk2 _ _ _ _ _ _ hx.1 hy.1 ?_
 simp only [tqex,↓zq,zs,hasK,zt]
 refine⟨fun h=>by simp at h,fun _=>?_⟩
 refine wp_det (Sqfz x y l hx hy hl) ?_
 simp [↓zq,zs,hasK,zt,Det]
theorem Sqkd (s f:(List UInt8)) (k:Nat) (l:List (List UInt8)) (hl:l.length<=2000000) (hk:k<=1000000):FSpec Tryz.prog 15 [.agg [.v (.string (mk s)),.vec 0,.v (.string (mk f))],.v (.int .i64 (k:Int))] [.vec 1 (strsAV l)] (DetO (.v (.int .i64 ((k+l.length:Nat):Int))) [.kvec 1 (strsAV (mks k l.length))]):=by
 refine Fqio _ _ _ _ ?_
 unfold tqdr
 refine wp_detO (Sqjm k l hl hk) ?_
 simp [↓zq,zs,hasK,DetO,Ob.es]
theorem Sqjg (s f:(List UInt8)) (a:AV) (k n:Nat) (ha:StrsA a (mks k n)) (hn:n<=2000000) (hk:k<=1000000):FSpec Tryz.prog 16 [.agg [.v (.string (mk s)),a,.v (.string (mk f))],.v (.int .i64 (k:Int))] [] (Det (.v (.int .i64 ((k+n:Nat):Int)))):=by
 refine Fqgi _ _ _ _ ha.1 ?_
 unfold tq7f
 refine wp_det (Sqhr a k n ha hn hk) ?_
 simp only [↓zq,zs,hasK,zt]
 exact⟨fun h=>by omega,fun _=>⟨rfl,rfl⟩⟩
def SzR (n:Nat):AV->List Ob->Prop:=fun r o=>∃x:Int,r = .v (.int .i64 x)/\(0<=x->n<=1048576)
theorem SzR.ne (n:Nat):∃r o,SzR n r o:=⟨_,[],-1,rfl,fun h=>by omega⟩
end Go.Proofs.Trees
namespace Go.Proofs.Trees
open Go Go.VL Go.RowKit
def IntsA (a:AV) (l:List Nat):Prop:=LK.sl.has a/\a.elems = intsAV l
theorem IntsA.of (l:List Nat):IntsA (.sl (intsAV l)) l:=⟨(has_sl _).mpr trivial,rfl⟩
theorem IntsA.nil:IntsA (.v (.slice none 0 0)) []:=⟨(has_slnil).mpr trivial,rfl⟩
theorem IntsA.len {a:AV} {l:List Nat} (h:IntsA a l):a.elems.length = l.length:=by rw [h.2,intsAV_len]
theorem IntsA.idx {a:AV} {l:List Nat} (h:IntsA a l) {i:Nat} (hi:i < l.length):a.elems.getD i [] = [.v (.int .i64 (l.getD i 0:Nat))]:=by
 rw [h.2]; simp [intsAV,List.getD_eq_getElem?_getD,hi]
def mki (k n:Nat):List Nat:=List.range' k n
theorem mki_succ (k n:Nat):mki k (n+1) = k::mki (k+1) n:=by simp [mki,List.range'_succ]
end Go.Proofs.Trees
namespace Go.Proofs.Trees
open Go Go.VL Go.RowKit
def intsZ (l:List Int):List (List AV):=l.map fun k=>[.v (.int .i64 k)]
def IntsZ (a:AV) (l:List Int):Prop:=LK.sl.has a/\a.elems = intsZ l
theorem intsZ_len (l:List Int):(intsZ l).length = l.length:=by simp [intsZ]
theorem IntsZ.of (l:List Int):IntsZ (.sl (intsZ l)) l:=⟨(has_sl _).mpr trivial,rfl⟩
theorem IntsZ.nil:IntsZ (.v (.slice none 0 0)) []:=⟨(has_slnil).mpr trivial,rfl⟩
theorem IntsZ.len {a:AV} {l:List Int} (h:IntsZ a l):a.elems.length = l.length:=by rw [h.2,intsZ_len]
theorem IntsZ.idx {a:AV} {l:List Int} (h:IntsZ a l) {i:Nat} (hi:i < l.length):a.elems.getD i [] = [.v (.int .i64 (l.getD i 0))]:=by
 rw [h.2]; simp [intsZ,List.getD_eq_getElem?_getD,hi]
theorem intsZ_set {l:List Int} {i:Nat} (hi:i < l.length) (s:Int):(intsZ l).set i (((intsZ l).getD i []).set 0 (.v (.int .i64 s))) = intsZ (l.set i s):=by
 have:(intsZ l).getD i [] = [.v (.int .i64 l[i])]:=by simp [intsZ,List.getD_eq_getElem?_getD,hi]
 rw [this]; simp [intsZ,List.map_set]
theorem plain_intsZ (l:List Int):∀x,x∈[Ob.vec 1 (intsZ l)]->plainOb x:=by
 intro x hx
 simp only [List.mem_singleton] at hx
 subst hx
 intro e he c hc
 simp only [intsZ,List.mem_map] at he
 obtain⟨k,_,rfl⟩:=he
 simp only [List.mem_singleton] at hc
 exact⟨_,hc⟩
theorem Lqb4 (x:AV) (l:List Int) (hx:IntsZ x l) (hl:l.length<=2000000):∀(m i:Nat) (q:List Int),i+m = l.length->q.length = l.length->Lq5f [x,.v (.int .i64 (i:Int))] [.vec 1 (intsZ q)] (LIs 1 [] [.vec 1 (intsZ (q.take i++l.drop i))])
 | 0,i,q,hi,hq=>by
  refine Gqf2 _ _ _ ?_
  simp only [rq3t,↓zq,zs,hasK,hx.len]
  refine⟨hx.1,hx.1,fun h=>by omega,fun _=>?_⟩
  rw [List.drop_of_length_le (by omega),List.append_nil,List.take_of_length_le (by omega)]
  exact⟨rfl,rfl,rfl⟩
 | m+1,i,q,hi,hq=>by
  have hlt:i < l.length:=by omega
  have hlq:i < q.length:=by omega
  refine Gqf2 _ _ _ ?_
  simp only [rq3t,↓zq,zs,hasK,zt,hx.len,hx.idx hlt,Int.toNat_natCast,intsZ_len,intsZ_set hlq]
  refine⟨hx.1,hx.1,fun _=>⟨⟨hx.1,by omega,by omega⟩,by omega,⟨by omega,by omega⟩,⟨hlq,by omega⟩,?_⟩,fun h=>by omega⟩
  rw [wrap_succ i (by omega)]
  have:=Lqb4 x l hx hl m (i+1) (q.set i (l.getD i 0)) (by omega) (by simpa using hq)
  have e:(q.set i (l.getD i 0)).take (i+1)++l.drop (i+1) = q.take i++l.drop i:=by
   rw [List.take_succ_eq_append_getElem (by simpa using hlq),List.take_set_of_le (Nat.le_refl _),List.drop_eq_getElem_cons hlt]
   simp [List.getD_eq_getElem?_getD,hlt]
  rw [e] at this
  exact this
theorem Sqj1 (x:AV) (l:List Int) (hx:IntsZ x l) (hl:l.length<=2000000):FSpec Tryz.prog 10 [x] [] (DetO (.vec 0) [.vec 1 (intsZ l)]):=by
 refine Fqhj _ hx.1 ?_
 simp only [tqbw,↓zq,zs,hasK,hx.len]
 refine⟨hx.1,⟨by omega,by omega⟩,?_⟩
 have:=Lqb4 x l hx hl l.length 0 (List.replicate l.length 0) (by omega) (by simp)
 rw [List.take_zero,List.drop_zero,List.nil_append] at this
 have e:intsZ (List.replicate l.length 0) = List.replicate l.length [.v (.int .i64 0)]:=by simp [intsZ]
 rw [e] at this
 rw [Int.toNat_natCast]
 refine wp_loop1 this ?_
 simp [↓zq,zs,hasK,DetO,Ob.es]
theorem Lqea (a b:AV) (l:List Int) (ha:IntsZ a l) (hb:IntsZ b l) (hl:l.length<=2000000):∀(m i:Nat),i+m = l.length->Lq2q [a,b,.v (.int .i64 (i:Int))] [] (LIs 1 [] [])
 | 0,i,hi=>by
  refine Gq2f _ _ _ ?_
  simp only [rq1u,↓zq,zs,hasK,ha.len]
  exact⟨ha.1,hb.1,ha.1,fun h=>by omega,fun _=>⟨rfl,rfl,rfl⟩⟩
 | m+1,i,hi=>by
  have hlt:i < l.length:=by omega
  refine Gq2f _ _ _ ?_
  simp only [rq1u,↓zq,zs,hasK,zt,ha.len,hb.len,ha.idx hlt,hb.idx hlt,Int.toNat_natCast]
  refine⟨ha.1,hb.1,ha.1,fun _=>⟨⟨ha.1,by omega,by omega⟩,by omega,⟨hb.1,by omega,by omega⟩,by omega,fun h=>by simp at h,fun _=>?_⟩,fun h=>by omega⟩
  rw [wrap_succ i (by omega)]
  exact Lqea a b l ha hb hl m (i+1) (by omega)
theorem Sqhw (a b:AV) (l:List Int) (ha:IntsZ a l) (hb:IntsZ b l) (hl:l.length<=2000000):FSpec Tryz.prog 13 [a,b] [] (Det (.v (.bool true))):=by
 refine Fq8b _ _ ha.1 hb.1 ?_
 simp only [tq4s,↓zq,zs,hasK,ha.len,hb.len]
 refine⟨ha.1,hb.1,fun h=>by simp at h,fun _=>?_⟩
 refine wp_loop1 (Lqea a b l ha hb hl l.length 0 (by omega)) ?_
 simp [Det,↓zq,zs,hasK]
theorem Lqdq:∀(m i k:Nat) (l:List Int),i+m = l.length->l.length<=2000000->k+m<=4000000->Lq2e [.v (.int .i64 (k:Int)),.v (.int .i64 (i:Int))] [.vec 1 (intsZ l)] (LIs 1 [.v (.int .i64 ((k+m:Nat):Int))] [.vec 1 (intsZ (l.take i++(mki k m).map Int.ofNat))])
 | 0,i,k,l,hi,hl,hk=>by
  refine Gq27 _ _ _ ?_
  simp only [rq22,↓zq,zs,hasK,intsZ_len]
  refine⟨fun h=>by omega,fun _=>?_⟩
  have:l.take i = l:=List.take_of_length_le (by omega)
  simp [LIs,this,mki]
 | m+1,i,k,l,hi,hl,hk=>by
  have hlt:i < l.length:=by omega
  refine Gq27 _ _ _ ?_
  simp only [rq22,↓zq,zs,hasK,intsZ_len,Int.toNat_natCast,intsZ_set hlt]
  refine⟨fun _=>?_,fun h=>by omega⟩
  refine⟨⟨by omega,by omega⟩,⟨hlt,by omega⟩,?_⟩
  have:=Lqdq m (i+1) (k+1) (l.set i k) (by simp; omega) (by simpa using hl) (by omega)
  rw [wrap_succ i (by omega),wrap_succ k (by omega)]
  have e:(l.set i (k:Int)).take (i+1)++((mki (k+1) m).map Int.ofNat) = l.take i++(mki k (m+1)).map Int.ofNat:=by
   rw [mki_succ,List.take_succ_eq_append_getElem (by simpa using hlt),List.take_set_of_le (Nat.le_refl _)]; simp
  rw [e,show k+1+m = k+(m+1) by omega] at this
  exact this
theorem Sqjn (k:Nat) (l:List Int) (hl:l.length<=2000000) (hk:k<=1000000):FSpec Tryz.prog 14 [.vec 0,.v (.int .i64 (k:Int))] [.vec 1 (intsZ l)] (DetO (.v (.int .i64 ((k+l.length:Nat):Int))) [.kvec 1 (intsZ ((mki k l.length).map Int.ofNat))]):=by
 refine Fqbv _ _ ?_
 unfold tq44
 have:=Lqdq l.length 0 k l (by omega) hl (by omega)
 rw [List.take_zero,List.nil_append] at this
 refine wp_loop1 this ?_
 simp [↓zq,zs,hasK,DetO,Ob.es]
end Go.Proofs.Trees
namespace Go.Proofs.Trees
open Go Go.VL Go.RowKit
abbrev ZO:=Option (List Vl×Vl)
def stO (s:Nm) (o:ZO):Prop:=∀r,o = some r->∃d,St s d (zA s) r.1 r.2
def goF (a:Ty) (pl:List Int) (o:ZO):ZO:=pl.foldl (fun o k=>o.bind fun r=>dnF a r.1 r.2 k) o
theorem goF_none (a:Ty):∀pl,goF a pl none = none
 | []=>rfl
 | _::pl=>goF_none a pl
theorem goF_cons (a:Ty) (k:Int) (pl:List Int) (o:ZO):goF a (k::pl) o = goF a pl (o.bind fun r=>dnF a r.1 r.2 k):=rfl
theorem stO.dn {s:Nm} {o:ZO} (h:stO s o) (k:Int):stO s (o.bind fun r=>dnF (zA s) r.1 r.2 k):=fun r hr=>by
 obtain⟨q,h1,h2⟩:=Option.bind_eq_some_iff.1 hr
 obtain⟨d,hs⟩:=h q h1
 exact⟨d,(hs.dn (l':=r.1) (w:=r.2) h2).1⟩
theorem stO.go {s:Nm}:∀{pl:List Int} {o:ZO},stO s o->stO s (goF (zA s) pl o)
 | [],o,h=>h
 | k::pl,o,h=>stO.go (pl:=pl) (h.dn k)
theorem stO.gz {s:Nm} {o:ZO} (h:stO s o):GZ o:=fun r hr=>by
 obtain⟨d,hs⟩:=h r hr
 exact hs.gz r rfl
theorem goF_len {a:Ty}:∀{pl:List Int} {l l':List Vl} {v w:Vl},goF a pl (some (l,v)) = some (l',w)->l.length<=50->l'.length = l.length+pl.length/\l'.length<=50
 | [],l,l',v,w,h,hl=>by cases h; exact⟨rfl,hl⟩
 | k::pl,l,l',v,w,h,hl=>by
  rw [goF_cons] at h
  simp only [Option.bind_some] at h
  cases q:dnF a l v k with
  | none=>rw [q,goF_none] at h; cases h
  | some r =>
   obtain⟨l1,v1⟩:=r
   rw [q] at h
   obtain⟨_,_,e,_,_,h5,_⟩:=dnF_some q
   have hl1:l1.length = l.length+1:=by rw [e]; simp
   obtain⟨h1,h2⟩:=goF_len h (by omega)
   exact⟨by rw [h1,hl1,List.length_cons]; omega,h2⟩
theorem stO_rdZ (s:Nm) (p:List Nm) (f:Nm):stO s (rdZ s p f):=fun r hr=>by
 obtain⟨d,_,hs,_⟩:=rdZ_dl hr
 exact⟨d,hs⟩
noncomputable def mGo (s f:Nm) (pl:List Int):ZO:=goF (zA s) pl (rdZ s [] f)
theorem mGo_st (s f:Nm) (pl:List Int):stO s (mGo s f pl):=(stO_rdZ s [] f).go
theorem Lq95 (s:Nm) (a:AV) (pl:List Int) (ha:IntsZ a pl) (hl:pl.length<=2000000):∀(k i:Nat) (o:ZO),i+k = pl.length->stO s o ->
  Lq3h [oZ s (zA s) o,a,.v (.int .i64 (pl.length:Int)),.v (.int .i64 (i:Int))] [zzO] (LIs 1 [oZ s (zA s) (goF (zA s) (pl.drop i) o)] [zzO])
 | 0,i,o,hi,ho=>by
  refine Gqft _ _ _ _ _ _ _ ?_
  have:i = pl.length:=by omega
  subst this
  simp only [rq5d,↓zq,zs,hasK,zt,hasK,oZ_has,has_slnil,List.drop_length]
  exact⟨ha.1,fun h=>by omega,fun _=>⟨rfl,rfl,rfl⟩⟩
 | k+1,i,o,hi,ho=>by
  have hlt:i < pl.length:=by omega
  refine Gqft _ _ _ _ _ _ _ ?_
  simp only [rq5d,↓zq,zs,hasK,zt,hasK,oZ_has,has_slnil,ha.len,ha.idx hlt,Int.toNat_natCast]
  refine⟨ha.1,fun _=>⟨⟨ha.1,by omega,by omega⟩,by omega,?_⟩,fun h=>by omega⟩
  refine wp_det (Sqch s (zA s) o ho _) ?_
  simp only [↓zq,zs,hasK,oZ_has]
  have hd:pl.drop i = pl.getD i 0::pl.drop (i+1):=by rw [List.drop_eq_getElem_cons hlt]; simp [List.getD_eq_getElem?_getD,hlt]
  rw [wrap_succ i (by omega),hd,goF_cons]
  exact Lq95 s a pl ha hl k (i+1) _ (by omega) (ho.dn _)
theorem Sqcy (s f:Nm) (a:AV) (pl:List Int) (ha:IntsZ a pl) (hl:pl.length<=2000000):FSpec Tryz.prog 11 [.v (.string (mk s)),.v (.string (mk f)),a] [] (ZipO s (mGo s f pl)):=by
 refine Fqg8 _ _ _ ha.1 ?_
 unfold tqfw
 refine wp_det (Sqck s _ [] (StrsA.nil) f) ?_
 simp only [↓zq,zs,hasK,zt,oZ_has,ha.len]
 refine⟨ha.1,?_⟩
 have hloop:=Lq95 s a pl ha hl pl.length 0 (rdZ s [] f) (by omega) (stO_rdZ s [] f)
 rw [List.drop_zero] at hloop
 refine wp_loop1 hloop ?_
 simp only [↓zq,zs,hasK,zt,hasK,oZ_has,has_slnil]
 refine wp_detO (Sq5g s (zA s) _ (mGo_st s f pl).gz) ?_
 simp only [↓zq,zs,hasK,zt,hasC]
 exact⟨plain_strs _,rfl,rfl⟩
def rdO (s:Nm) (o:ZO):Prop:=∀r,o = some r->rdVd s (r.1.map (·.txt)) r.2.txt = some r
theorem rdO.dn {s:Nm} {o:ZO} (h:rdO s o) (k:Int):rdO s (o.bind fun r=>dnF (zA s) r.1 r.2 k):=fun r hr=>by
 obtain⟨q,h1,h2⟩:=Option.bind_eq_some_iff.1 hr
 have hq:=h q h1
 obtain⟨d,hd,hs,_⟩:=rdZ_dl (rdVd_some (l:=q.1) (v:=q.2) hq).1
 obtain⟨e,_,h3,h4,_,_,h0,h5⟩:=dnF_some (l':=r.1) (w:=r.2) h2
 have hk:k.toNat < (kids (zA s) q.2).length:=by
  rcases Nat.lt_or_ge k.toNat (kids (zA s) q.2).length with h | h
  ·exact h
  ·rw [List.getElem?_eq_none h] at h5; cases h5
 have he:(kids (zA s) q.2)[k.toNat] = e:=by rw [List.getElem?_eq_getElem hk] at h5; cases h5; rfl
 have:=dn_rd hs hd hq h0 hk
 rw [h2,he] at this
 obtain⟨l1,v1⟩:=r
 simp only at h3 h4 |-
 subst h3 h4
 rw [List.map_append]
 exact this
theorem rdO_open (s f:Nm):rdO s (rdZ s [] f):=fun r hr=>by
 obtain⟨d,_,_,h1,h2⟩:=rdZ_dl hr
 rw [<-h1,<-h2,rdVd_nil]; exact hr
theorem mDown_eq {s:Nm} {r:List Vl×Vl} (h:rdVd s (r.1.map (·.txt)) r.2.txt = some r) (k:Int):mDown s (r.1.map (·.txt)) r.2.txt k = dnF (zA s) r.1 r.2 k:=by
 unfold mDown; rw [h]; rfl
def GoP (s:Nm) (o:ZO):Nat->List AV->List Ob->Prop:=fun k ys ob=>match o with
 | some r=>k = 1/\ys = []/\∃pa,StrsA pa (r.1.map (·.txt))/\ob = [zzO,.cells [.v (.string (mk s)),pa,.v (.string (mk r.2.txt))]]
 | none=>k = 2/\ys = [.v (.bool false)]/\ob = [zzO]
theorem Lqd7 (s:Nm) (a:AV) (pl:List Int) (ha:IntsZ a pl) (hl:pl.length<=50):∀(k i:Nat) (r:List Vl×Vl) (pa:AV),i+k = pl.length->rdO s (some r)->StrsA pa (r.1.map (·.txt)) ->
  Lq4o [a,.v (.int .i64 (i:Int))] [zzO,.cells [.v (.string (mk s)),pa,.v (.string (mk r.2.txt))]] (GoP s (goF (zA s) (pl.drop i) (some r)))
 | 0,i,r,pa,hi,ho,hp=>by
  refine Gq94 _ _ _ _ _ _ _ _ ?_
  have:i = pl.length:=by omega
  subst this
  simp only [rq3x,↓zq,zs,hasK,zt,hasK,has_slnil,ha.len,List.drop_length]
  exact⟨ha.1,hp.1,ha.1,fun h=>by omega,fun _=>⟨rfl,rfl,pa,hp,rfl⟩⟩
 | k+1,i,r,pa,hi,ho,hp=>by
  have hlt:i < pl.length:=by omega
  refine Gq94 _ _ _ _ _ _ _ _ ?_
  simp only [rq3x,↓zq,zs,hasK,zt,hasK,has_slnil,ha.len,ha.idx hlt,Int.toNat_natCast]
  refine⟨ha.1,hp.1,ha.1,fun _=>⟨⟨ha.1,by omega,by omega⟩,by omega,?_⟩,fun h=>by omega⟩
  refine wp_call (Sqja s pa _ hp r.2.txt (pl.getD i 0)) (ZSp.ne _ _) ?_
  rw [mDown_eq (ho r rfl)]
  have hd:pl.drop i = pl.getD i 0::pl.drop (i+1):=by rw [List.drop_eq_getElem_cons hlt]; simp [List.getD_eq_getElem?_getD,hlt]
  rw [hd,goF_cons]
  simp only [Option.bind_some]
  have ho':=ho.dn (pl.getD i 0)
  simp only [Option.bind_some] at ho'
  cases q:dnF (zA s) r.1 r.2 (pl.getD i 0) with
  | none =>
   rw [goF_none]
   rintro r' o ⟨rfl,pa',hp',rfl⟩
   simp only [↓zq,zs,hasK,zt,hasL,Option.isSome_none]
   exact⟨hp'.1,fun _=>⟨rfl,rfl,rfl⟩,fun h=>by simp at h⟩
  | some r1 =>
   rintro r' o ⟨rfl,pa',hp',rfl⟩
   simp only [↓zq,zs,hasK,zt,hasL,Option.isSome_some]
   refine⟨hp'.1,fun h=>by simp at h,fun _=>?_⟩
   rw [wrap_succ i (by omega)]
   rw [q] at ho'
   exact Lqd7 s a pl ha hl k (i+1) r1 pa' (by omega) ho' hp'
theorem Sqkf (s f:Nm) (a:AV) (pl:List Int) (ha:IntsZ a pl):FSpec Tryz.prog 9 [.v (.string (mk s)),.v (.string (mk f)),a] [] (ZSp s (mGo s f pl)):=by
 refine Fqij _ _ _ ha.1 ?_
 unfold tq7j
 refine wp_call (Sqge s f) (ZSp.ne _ _) ?_
 unfold mGo
 have ho:=rdO_open s f
 cases q:rdZ s [] f with
 | none =>
  rw [goF_none]
  rintro r o ⟨rfl,pa,hp,rfl⟩
  simp only [↓zq,zs,hasK,zt,hasL,Option.isSome_none]
  exact⟨hp.1,fun _=>ZSp.none s,fun h=>by simp at h⟩
 | some r =>
  rw [q] at ho
  obtain⟨d,_,hs,hn,_⟩:=rdZ_dl q
  have hn0:r.1 = []:=List.map_eq_nil_iff.1 hn.symm
  rintro r' o ⟨rfl,pa,hp,rfl⟩
  simp only [↓zq,zs,hasK,zt,hasL,Option.isSome_some,ha.len]
  refine⟨hp.1,fun h=>by simp at h,fun _=>⟨ha.1,fun h5=>?_,fun h5=>?_⟩⟩
  ·have:goF (zA s) pl (some r) = none:=by
    cases q2:goF (zA s) pl (some r) with
    | none=>rfl
    | some r2 =>
     obtain⟨h1,h2⟩:=goF_len (l:=r.1) (v:=r.2) (l':=r2.1) (w:=r2.2) q2 (by rw [hn0]; simp)
     omega
   rw [this]
   exact ZSp.none s
  ·have hloop:=Lqd7 s a pl ha (by omega) pl.length 0 r pa (by omega) ho hp
   rw [List.drop_zero] at hloop
   refine wpt_loop hloop (fun ys o e=>?_) (fun ys o e=>?_)
   ·unfold GoP at e
    cases q2:goF (zA s) pl (some r) with
    | none=>rw [q2] at e; exact absurd e.1 (by decide)
    | some r2 =>
     rw [q2] at e
     obtain⟨_,rfl,pa',hp',rfl⟩:=e
     simp only [↓zq,zs,hasK,zt,hasK,has_slnil]
     exact⟨hp'.1,rfl,pa',hp',rfl⟩
   ·unfold GoP at e
    cases q2:goF (zA s) pl (some r) with
    | some r2=>rw [q2] at e; exact absurd e.1 (by decide)
    | none =>
     rw [q2] at e
     obtain⟨_,rfl,rfl⟩:=e
     simp only [↓zq,zs,hasK,zt,hasK,has_slnil]
     exact ZSp.none s
end Go.Proofs.Trees
namespace Go.Proofs.Trees
open Go Go.VL Go.RowKit
theorem Sqiv (s f:Nm) (a:AV) (pl:List Int) (ha:IntsZ a pl):FSpec Tryz.prog 3 [.v (.string (mk s)),.v (.string (mk f)),a] [] (Det (.v (.bool true))):=by
 refine Fqh1 _ _ _ ha.1 ?_
 simp only [tqag,↓zq,zs,hasK,zt,Det,ha.len]
 refine⟨fun _=>trivial,fun _=>⟨fun _=>trivial,fun _=>⟨ha.1,fun _=>trivial,fun hl=>?_⟩⟩⟩
 have hl:pl.length<=1048576:=by omega
 have toi:=Sqj1 a pl ha (by omega)
 have hgz:=tZ_len s (o:=mGo s f pl) (mGo_st s f pl).gz
 have EQ:=fun(w:AV) hw=>Sqi3 (tZ s (mGo s f pl)).1 (tZ s (mGo s f pl)).2.2 _ w _ (StrsA.of (tZ s (mGo s f pl)).2.1) hw (by omega)
 have HE:=Sqjg (tZ s (mGo s f pl)).1 (tZ s (mGo s f pl)).2.2 _ 1 (tZ s (mGo s f pl)).2.1.length (StrsA.of _) (by omega) (by omega)
 refine wp_detO toi ?_
 simp only [↓zq,zs,hasK,Ob.es,List.headD_cons]
 refine⟨plain_intsZ _,?_⟩
 refine wp_call (Sqkf s f _ pl (IntsZ.of pl)) (ZSp.ne _ _) ?_
 rintro r o ⟨rfl,w,hw,rfl⟩
 simp only [↓zq,zs,hasK,zt,hasL]
 refine⟨hw.1,?_⟩
 refine wp_detO toi ?_
 simp only [↓zq,zs,hasK,Ob.es,List.headD_cons]
 refine⟨plain_intsZ _,?_⟩
 refine wp_detO (Sqcy s f _ pl (IntsZ.of pl) (by omega)) ?_
 simp only [↓zq,zs,hasK,zt,hasC,Ob.es,List.headD_cons]
 refine⟨plain_strs _,?_⟩
 refine wp_det (EQ w hw) ?_
 simp only [↓zq,zs,hasK]
 refine⟨fun h=>by simp at h,fun _=>⟨fun h=>by simp at h,fun _=>?_⟩⟩
 refine wp_detO toi ?_
 simp only [↓zq,zs,hasK,Ob.es,List.headD_cons]
 refine⟨plain_intsZ _,?_⟩
 refine wp_det (Sqhw _ _ pl (IntsZ.of pl) (IntsZ.of pl) (by omega)) ?_
 simp only [↓zq,zs,hasK]
 refine⟨fun h=>by simp at h,fun _=>?_⟩
 refine wp_detO (Sqjn 1 pl (by omega) (by omega)) ?_
 simp only [↓zq,zs,hasK,Ob.es,List.headD_cons]
 refine⟨fun h=>by omega,fun _=>?_⟩
 refine wp_det (EQ w hw) ?_
 simp only [↓zq,zs,hasK]
 refine⟨fun h=>by simp at h,fun _=>⟨fun h=>by simp at h,fun _=>?_⟩⟩
 refine wp_detO (Sqkd _ _ 1 _ (by omega) (by omega)) ?_
 simp only [↓zq,zs,hasK,Ob.es,List.headD_cons]
 refine wp_det HE ?_
 simp only [↓zq,zs,hasK]
 refine⟨fun h=>by omega,fun _=>⟨fun h=>by simp at h,fun _=>?_⟩⟩
 refine wp_detO toi ?_
 simp only [↓zq,zs,hasK,Ob.es,List.headD_cons]
 refine⟨plain_intsZ _,?_⟩
 refine wp_detO (Sqcy s f _ pl (IntsZ.of pl) (by omega)) ?_
 simp only [↓zq,zs,hasK,zt,hasC,Ob.es,List.headD_cons]
 refine⟨plain_strs _,?_⟩
 refine wp_det (EQ w hw) ?_
 simp only [↓zq,zs,hasK]
 refine⟨fun h=>by simp at h,fun _=>⟨fun h=>by simp at h,fun _=>?_⟩⟩
 refine wp_det HE ?_
 simp only [↓zq,zs,hasK]
 refine⟨fun h=>by omega,fun _=>⟨fun h=>by simp at h,fun _=>?_⟩⟩
 first | rfl | trivial
end Go.Proofs.Trees
